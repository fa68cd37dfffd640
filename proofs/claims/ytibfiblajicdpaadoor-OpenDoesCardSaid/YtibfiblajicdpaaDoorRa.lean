/- The reference's stack: Push, At, Top, Pop, Index. -/
import Derived.Test.YtibfiblajicdpaaDoorI
import Derived.Test.YtibfiblajicdpaaDoorU
namespace Go.Proofs.YtibfiblajicdpaaDoor
open Go Go.RowKit

set_option maxHeartbeats 1000000 in
theorem rpush_any (b : Nat) (v : Value) (l : List El) (x : El) (w : World) (hs : Stk w b v l) (hlen : l.length < 1000000) :
    Calls Tryd.prog 32 #[.pointer (some ⟨b, 0, Option.none⟩), .agg #[.int .i64 x.id, .string x.sp, .string x.nm]] w (MPost b v w (.returned (.tuple #[])) (l ++ [x])) := by
  obtain ⟨i0, hi, hz0, hz1, hz2⟩ := info_parts infoEl
  have hc := hs.cell
  have hf := hs.frozen
  have hown := hs.own
  have hblt := hs.lt b (.inl rfl)
  have ht := Tryd.underlying22
  have hne := hs.ne
  have hW : Below w.heap.size w ((w.alloc (.cells #[.int .i64 x.id, .string x.sp, .string x.nm] 30)).alloc (.cells #[.int .i64 x.id, .string x.sp, .string x.nm] 30)).drew := (((Below.refl _ _).alloc (Nat.le_refl _) _).alloc (by simp) _).drew
  have hown2 := ((hown.alloc (.cells #[.int .i64 x.id, .string x.sp, .string x.nm] 30)).alloc (.cells #[.int .i64 x.id, .string x.sp, .string x.nm] 30))
  have hcs := cells_two w (.cells #[.int .i64 x.id, .string x.sp, .string x.nm] 30) (.int .i64 x.id) (.string x.sp) (.string x.nm) 30
  have HS := Lib.hid hs
  clear hs
  go_enter Tryd.func32, Tryd.ntmps32
  go_wp2
  go_region_law (refine step_append_lies _ rfl _ _ 22 rfl 0 30 i0 _ 3 40 ht hi hz0 hz1 hz2 rfl (by decide) v l.length (flat l) rfl (by exact hown2) ⟨w.heap.size + 1, 0, Option.none⟩ 1 1 [.int .i64 x.id, .string x.sp, .string x.nm] rfl rfl (by exact hcs) (by simp [Value.oneCell']) (by decide) (by unfold maxLen; omega) (by omega) (Nat.zero_le _) _ rfl ?_; intro g cap w1 hown1 hgr hat hlt; obtain ⟨hc1, hf1⟩ := grown_far hgr hW hblt hne 0; rw [hc] at hc1; rw [hf] at hf1)
  all_goals
    go_end0
    exact push_done HS.out hlen hW g cap hown1 hgr (hat.imp id (by simp; omega))

set_option maxHeartbeats 1000000 in
theorem rat_any (b : Nat) (v : Value) (l : List El) (i : Int) (w : World) (hs : Stk w b v l) :
    Calls Tryd.prog 34 #[.pointer (some ⟨b, 0, Option.none⟩), .int .i64 i] w fun e w' => e = .returned (.tuple #[(atE l i).v, .int .i64 (atC l i)]) ∧ Below w.heap.size w w' := by
  have hc := hs.cell
  have hblt := hs.lt b (.inl rfl)
  have hlen := hs.len
  by_cases h0 : i < 0
  · have e1 : atE l i = El.none := by rw [atE, if_neg (by omega)]
    have e2 : atC l i = 60 := by rw [atC, if_neg (by omega)]
    rw [e1, e2]
    go_enter Tryd.func34, Tryd.ntmps34
    go_wp2
    refine bodyPost_ret (v := .tuple #[El.none.v, .int .i64 60]) (by simp [results, Tryd.results34, go_sem, El.v, El.none]) rfl ⟨rfl, ?_⟩
    exact (Below.refl _ _).alloc (Nat.le_refl _) _
  · rcases hs.form with ⟨rfl, rfl⟩ | ⟨g, cap, rfl, hg, hgb, h1, h2, hcs, _⟩
    · have e1 : atE [] i = El.none := by rw [atE, if_neg (by simp)]
      have e2 : atC [] i = 60 := by rw [atC, if_neg (by simp)]
      rw [e1, e2]
      go_enter Tryd.func34, Tryd.ntmps34
      go_wp2
      refine bodyPost_ret (v := .tuple #[El.none.v, .int .i64 60]) (by simp [results, Tryd.results34, go_sem, El.v, El.none]) rfl ⟨rfl, ?_⟩
      exact (Below.refl _ _).alloc (Nat.le_refl _) _
    · by_cases h3 : i < l.length
      · obtain ⟨k, rfl⟩ := Int.eq_ofNat_of_zero_le (by omega : 0 ≤ i)
        have hk : k < l.length := by omega
        have e1 : atE l k = l[k] := by rw [atE, if_pos (by omega)]; simp [hk]
        have e2 : atC l k = 0 := by rw [atC, if_pos (by omega)]
        rw [e1, e2]
        obtain ⟨c0, c1, c2⟩ := hcs k l[k] (by simp [hk])
        clear hcs
        generalize l[k] = x at *
        go_enter Tryd.func34, Tryd.ntmps34
        go_wp2
        refine bodyPost_ret (v := .tuple #[x.v, .int .i64 0]) (by simp [results, Tryd.results34, go_sem, El.v]) rfl ⟨rfl, ?_⟩
        exact (Below.refl _ _).alloc (Nat.le_refl _) _
      · have e1 : atE l i = El.none := by rw [atE, if_neg (by omega)]
        have e2 : atC l i = 60 := by rw [atC, if_neg (by omega)]
        rw [e1, e2]
        go_enter Tryd.func34, Tryd.ntmps34
        go_wp2
        refine bodyPost_ret (v := .tuple #[El.none.v, .int .i64 60]) (by simp [results, Tryd.results34, go_sem, El.v, El.none]) rfl ⟨rfl, ?_⟩
        exact (Below.refl _ _).alloc (Nat.le_refl _) _

set_option maxHeartbeats 1000000 in
theorem rtop_any (b : Nat) (v : Value) (l : List El) (w : World) (hs : Stk w b v l) :
    Calls Tryd.prog 50 #[.pointer (some ⟨b, 0, Option.none⟩)] w fun e w' => e = .returned (topE l).v ∧ Below w.heap.size w w' := by
  have hc := hs.cell
  have hblt := hs.lt b (.inl rfl)
  have hlen := hs.len
  rcases List.eq_nil_or_concat l with rfl | ⟨l', x, rfl⟩
  · rw [show topE [] = El.none from rfl]
    rcases hs.form with ⟨rfl, _⟩ | ⟨g, cap, rfl, hg, hgb, h1, h2, _, _⟩
    all_goals
      go_enter Tryd.func50, Tryd.ntmps50
      go_wp2
      refine bodyPost_ret (v := El.none.v) (by simp [results, Tryd.results50, go_sem, El.v, El.none]) rfl ⟨rfl, ?_⟩
      exact (Below.refl _ _).alloc (Nat.le_refl _) _
  · rw [List.concat_eq_append] at *
    rw [show topE (l' ++ [x]) = x from by simp [topE]]
    rcases hs.form with ⟨_, h⟩ | ⟨g, cap, rfl, hg, hgb, h1, h2, hcs, _⟩
    · simp at h
    · obtain ⟨c0, c1, c2⟩ := hcs l'.length x (by simp)
      clear hcs hs
      simp only [List.length_append, List.length_cons, List.length_nil, Nat.zero_add] at hlen h1 hc
      go_enter Tryd.func50, Tryd.ntmps50
      go_wp2_with fail
      go_region
      all_goals
        go_wp2
        refine bodyPost_ret (v := x.v) (by simp [results, Tryd.results50, go_sem, El.v]) rfl ⟨rfl, ?_⟩
        first
          | exact ((Below.refl _ _).alloc (Nat.le_refl _) _).drew
          | exact (((((Below.refl _ _).alloc (Nat.le_refl _) _).drew).setCell (p := ⟨w.heap.size, 0, Option.none⟩) (Nat.le_refl _) _).setCell (p := ⟨w.heap.size, 1, Option.none⟩) (Nat.le_refl _) _).setCell (p := ⟨w.heap.size, 2, Option.none⟩) (Nat.le_refl _) _

set_option maxHeartbeats 1000000 in
theorem rpop_none (b : Nat) (v : Value) (w : World) (hs : Stk w b v []) :
    Calls Tryd.prog 33 #[.pointer (some ⟨b, 0, Option.none⟩)] w (MPost b v w (.returned (.tuple #[El.none.v, .int .i64 60])) []) := by
  have hc := hs.cell
  have hblt := hs.lt b (.inl rfl)
  have HS := Lib.hid hs
  rcases hs.form with ⟨rfl, _⟩ | ⟨g, cap, rfl, hg, hgb, h1, h2, _, _⟩
  all_goals
    clear hs
    go_enter Tryd.func33, Tryd.ntmps33
    go_wp2
    refine bodyPost_ret (v := .tuple #[El.none.v, .int .i64 60]) (by simp [results, Tryd.results33, go_sem, El.v, El.none]) rfl ⟨rfl, _, HS.out.below ?_, Keeps.of_below ?_, fun k hk => .inl hk⟩
    all_goals exact (Below.refl _ _).alloc (Nat.le_refl _) _

set_option maxHeartbeats 1000000 in
theorem rpop_some (b : Nat) (v : Value) (l : List El) (x : El) (w : World) (hs : Stk w b v (l ++ [x])) :
    Calls Tryd.prog 33 #[.pointer (some ⟨b, 0, Option.none⟩)] w (MPost b v w (.returned (.tuple #[x.v, .int .i64 0])) l) := by
  have hc := hs.cell
  have hf := hs.frozen
  have hblt := hs.lt b (.inl rfl)
  have HS := Lib.hid hs
  have hlen := hs.len
  rcases hs.form with ⟨_, h⟩ | ⟨g, cap, rfl, hg, hgb, h1, h2, hcs, _⟩
  · simp at h
  · obtain ⟨c0, c1, c2⟩ := hcs l.length x (by simp)
    clear hs hcs
    simp only [List.length_append, List.length_cons, List.length_nil, Nat.zero_add] at hlen h1 hc
    go_enter Tryd.func33, Tryd.ntmps33
    go_wp2_with fail
    all_goals
      refine bodyPost_ret (v := .tuple #[x.v, .int .i64 0]) (by simp [results, Tryd.results33, go_sem, El.v]) rfl ?_
      refine pop_done' (W := w) HS.out (Below.refl _ _) ?_
      exact ((Keeps.refl _ _).alloc _).alloc _

theorem idx_take (l : List El) (id : Int) (k : Nat) (hk : k < l.length) : idxB (l.take (k + 1)) id = if (l[k].id == id) = true then (k : Int) else idxB (l.take k) id := by
  rw [List.take_succ_eq_append_getElem hk, idxB_snoc]
  simp only [List.length_take]
  congr 2
  omega

set_option maxHeartbeats 1000000 in
theorem rindex_any (b : Nat) (v : Value) (l : List El) (id : Int) (w : World) (hs : Stk w b v l) :
    Calls Tryd.prog 36 #[.pointer (some ⟨b, 0, Option.none⟩), .int .i64 id] w fun e w' => e = .returned (.int .i64 (idxB l id)) ∧ Below w.heap.size w w' := by
  have hc := hs.cell
  have hlen := hs.len
  rcases hs.form with ⟨rfl, rfl⟩ | ⟨g, cap, rfl, hg, hgb, h1, h2, hcs, _⟩
  · clear hs
    rw [idxB_nil]
    go_enter Tryd.func36, Tryd.ntmps36
    go_wp2_with fail
    go_loop [6, 5] (fun i a => i = .int .i64 0 ∧ a = .int .i64 (-1)) (fun _ _ => 0)
    case atStart => exact ⟨rfl, rfl⟩
    case round =>
      obtain ⟨rfl, rfl⟩ := hrel
      go_wp2
      go_ret
      exact ⟨rfl, Below.refl _ _⟩
  · clear hs
    have HCS := Lib.hid hcs
    clear hcs
    go_enter Tryd.func36, Tryd.ntmps36
    go_wp2_with fail
    go_loop [6, 5] (fun i a => ∃ k : Nat, k ≤ l.length ∧ i = .int .i64 k ∧ a = .int .i64 (idxB (l.take k) id)) (fun i _ => l.length - (intOf i).toNat)
    case atStart => exact ⟨0, by omega, rfl, by simp [idxB_nil]⟩
    case round =>
      obtain ⟨k, hk, rfl, rfl⟩ := hrel
      by_cases hlt : k < l.length
      · obtain ⟨c0, _, _⟩ := HCS.out k l[k] (by simp [hlt])
        have HI := Lib.hid (idx_take l id k hlt)
        cases hz : (l[k].id == id)
        · have HJ : Hid (idxB (l.take (k + 1)) id = idxB (l.take k) id) := by rw [HI.out, hz]; rfl
          clear HI
          generalize l[k] = z at *
          generalize idxB (l.take k) id = q at *
          go_wp2
          go_round
          case rel => exact ⟨k + 1, by omega, by go_num, by rw [HJ.out]⟩
          case measure => simp [intOf] <;> omega
        · have HJ : Hid (idxB (l.take (k + 1)) id = k) := by rw [HI.out, hz]; rfl
          clear HI
          generalize l[k] = z at *
          generalize idxB (l.take k) id = q at *
          go_wp2
          go_round
          case rel => exact ⟨k + 1, by omega, by go_num, by rw [HJ.out]⟩
          case measure => simp [intOf] <;> omega
      · obtain rfl : k = l.length := by omega
        have HJ : Hid (idxB (l.take l.length) id = idxB l id) := by rw [List.take_length]; exact (rfl : idxB l id = idxB l id)
        generalize idxB (l.take l.length) id = q at *
        go_wp2
        go_ret
        exact ⟨ret_int HJ.out, Below.refl _ _⟩
end Go.Proofs.YtibfiblajicdpaaDoor
