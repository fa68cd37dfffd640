/- The reference's stack: Remove, Insert, Replace. -/
import Derived.Test.YtibfiblajicdpaaDoorRa
import Derived.Test.YtibfiblajicdpaaDoorV
namespace Go.Proofs.YtibfiblajicdpaaDoor
open Go Go.RowKit

theorem blk_news {w : World} {B : Nat} {cs : List Value} {t : TypeId} {fr : Nat × Nat} (hb : w.heap[B]? = some (.cells cs.toArray t fr)) : ∀ j u, cs[j]? = some u → w.cell? ((⟨B, 0, Option.none⟩ : Addr).add j) = some u :=
  World.news_of_block (cs := cs.toArray) hb

theorem own_ge {w : World} {base n size : Nat} {e : TypeId} {v : Value} {xs : List Value} (h : w.ownsRow base e size v n xs) {j : Nat} (hj : v.ownBlock = some j) : base ≤ j := by
  rcases h.2 with ⟨rfl, _⟩ | ⟨g, cap, cur, rfl, h1, _⟩
  · cases hj
  · cases hj; exact h1

theorem own_form {w : World} {base n size : Nat} {e : TypeId} {v : Value} {xs : List Value} (h : w.ownsRow base e size v n xs) : ∃ a m c, v = .slice a m c := by
  rcases h.2 with ⟨rfl, _⟩ | ⟨g, cap, cur, rfl, _⟩
  · exact ⟨_, _, _, rfl⟩
  · exact ⟨_, _, _, rfl⟩

theorem own_mono {w : World} {base b' n size : Nat} {e : TypeId} {v : Value} {xs : List Value} (h : w.ownsRow base e size v n xs) (hb : b' ≤ base) : w.ownsRow b' e size v n xs := by
  refine ⟨h.1, ?_⟩
  rcases h.2 with h | ⟨g, cap, cur, rfl, h1, rest⟩
  · exact .inl h
  · exact .inr ⟨g, cap, cur, rfl, Nat.le_trans hb h1, rest⟩

/-- a list of the call's own is laid into the stack -/
theorem new_done {w W : World} {b : Nat} {v o : Value} {l l' : List El} {e0 : Ending} (hs : Stk w b v l) (hW : Below w.heap.size w W) (hown : W.ownsRow w.heap.size 30 3 o l'.length (flat l')) (hlen : l'.length ≤ 1000000) :
    MPost b v w e0 l' e0 (W.setCell ⟨b, 0, Option.none⟩ o) := by
  obtain ⟨T, hT⟩ := hs.box
  have hblt := hs.lt b (.inl rfl)
  have hb1 : W.heap[b]? = some (.cells #[v] T (0, 0)) := (hW.block b hblt).trans hT
  have hge : ∀ j, o.ownBlock = some j → w.heap.size ≤ j := fun j hj => own_ge hown hj
  refine ⟨rfl, o, ⟨⟨T, ?_⟩, ?_, ?_, hlen⟩, (Keeps.of_below hW).setCell (.inl (.inl rfl)) _, ?_⟩
  · simp only [World.setCell, Array.getElem?_modify, if_true, hb1, Option.map_some]
    rfl
  · refine ⟨hown.1, ?_⟩
    rcases hown.2 with h | ⟨g, cap, cur, rfl, h1, h2, rest⟩
    · exact .inl h
    · refine .inr ⟨g, cap, cur, rfl, Nat.zero_le _, ?_, rest⟩
      rw [Below.heap_setCell _ _ _ _ (by simp only; omega)]; exact h2
  · intro e; have := hge b e; omega
  · rintro k (rfl | hk)
    · exact .inl (.inl rfl)
    · exact .inr (hge k hk)

theorem drop_step (l : List El) (i k : Nat) (hi : i ≤ k) (hk : k < l.length) : (l.take (k + 1)).drop i = (l.take k).drop i ++ [l[k]] := by
  rw [List.take_succ_eq_append_getElem hk, List.drop_append_of_le_length (by simp; omega)]

/-- without a place -/
def cutL (l : List El) (j : Nat) : List El := l.take j ++ l.drop (j + 1)

theorem cut_at (l : List El) (j : Nat) (hj : j < l.length) : cutL (l.take (j + 1)) j = cutL (l.take j) j := by
  unfold cutL
  rw [List.drop_eq_nil_of_le (by simp; omega), List.drop_eq_nil_of_le (by simp; omega), List.take_take, List.take_take]
  congr 2; omega

theorem cut_on (l : List El) (j k : Nat) (hk : k < l.length) (hne : ¬ k = j) : cutL (l.take (k + 1)) j = cutL (l.take k) j ++ [l[k]] := by
  unfold cutL
  by_cases h : k < j
  · rw [List.drop_eq_nil_of_le (by simp; omega), List.drop_eq_nil_of_le (by simp; omega), List.take_take, List.take_take]
    rw [show min j (k + 1) = k + 1 from by omega, show min j k = k from by omega, List.take_succ_eq_append_getElem hk]
    simp
  · rw [drop_step l (j + 1) k (by omega) hk, List.take_take, List.take_take, ← List.append_assoc]
    rw [show min j (k + 1) = j from by omega, show min j k = j from by omega]

theorem cut_len (l : List El) (j : Nat) : (cutL l j).length ≤ l.length := by
  simp [cutL]; omega

set_option maxRecDepth 100000 in
set_option maxHeartbeats 2000000 in
theorem rremove_any (b : Nat) (v : Value) (l : List El) (id : Int) (w : World) (hs : Stk w b v l) :
    Calls Tryd.prog 37 #[.pointer (some ⟨b, 0, Option.none⟩), .int .i64 id] w (MPost b v w (.returned (.int .i64 (remC l id))) (remL l id)) := by
  have hlt := idxB_lt l id
  have hlen := hs.len
  have hc := hs.cell
  have hf := hs.frozen
  have hblt := hs.lt b (.inl rfl)
  have HS := Lib.hid hs
  unfold remC remL
  by_cases h : idxB l id < 0
  · rw [if_pos h, if_pos h]
    have HX := Lib.hid (hlt.2.2 h)
    clear h hlt
    go_enter Tryd.func37, Tryd.ntmps37
    go_wp2_with fail
    refine (rindex_any b v l id w hs).mono ?_
    rintro e w1 ⟨rfl, hb⟩
    rw [HX.out]
    clear hs
    go_wp2_with fail
    go_ret
    exact ⟨rfl, _, HS.out.below hb, Keeps.of_below hb, fun k hk => .inl hk⟩
  · rw [if_neg h, if_neg h]
    obtain ⟨j, hj⟩ : ∃ j : Nat, idxB l id = j := ⟨(idxB l id).toNat, by omega⟩
    have hjl : j < l.length := by omega
    rw [hj]
    simp only [Int.toNat_natCast]
    have HI := Lib.hid hj
    clear hj h hlt
    obtain ⟨i0, hi, hz0, hz1, hz2⟩ := info_parts infoEl
    have ht : Tryd.prog.underlying 22 = some (.slice 30) := Tryd.underlying22
    rcases hs.form with ⟨rfl, rfl⟩ | ⟨g, cap, rfl, hg, hgb, h1, h2, hcs, _⟩
    · simp at hjl
    · have HCS := Lib.hid hcs
      clear hcs
      have HIX := Lib.hid (rindex_any b _ l id w hs)
      clear hs
      go_enter Tryd.func37, Tryd.ntmps37
      go_wp2_with fail
      refine HIX.out.mono ?_
      rintro e w1 ⟨rfl, hb1⟩
      rw [HI.out]
      have hc1 := (hb1.cell (p := ⟨b, 0, Option.none⟩) hblt).trans hc
      have hnj : ¬ ((j : Int) < 0) := by omega
      go_wp2_with fail
      go_loopw [6, 7] (fun o i wr => ∃ k n : Nat, k ≤ l.length ∧ n ≤ k ∧ n = (cutL (l.take k) j).length ∧ i = .int .i64 k ∧ wr.ownsRow w.heap.size 30 3 o n (flat (cutL (l.take k) j)) ∧ Below w.heap.size w wr) (fun _ i _ => l.length - (intOf i).toNat)
      case atStart => exact ⟨0, 0, by omega, by omega, by simp [cutL], rfl, by simpa [cutL, flat] using World.ownsRow_nil w1 w.heap.size 30 3, hb1⟩
      case round =>
        obtain ⟨k, n, hk, hnk, hn, rfl, hown, hb⟩ := hrel
        clear hc1
        have hc2 := (hb.cell (p := ⟨b, 0, Option.none⟩) hblt).trans hc
        have hf2 := (hb.frozen (p := ⟨b, 0, Option.none⟩) hblt).trans hf
        by_cases hlt : k < l.length
        · by_cases hkj : k = j
          · subst hkj
            have HT := Lib.hid (cut_at l k hjl)
            have HN := Lib.hid hn
            clear hn
            go_wp2_with fail
            go_roundw
            case rel => exact ⟨k + 1, n, by omega, by omega, by rw [HT.out]; exact HN.out, by go_num, by rw [HT.out]; exact hown, hb⟩
            case measure => simp [intOf] <;> omega
          · have hkj' : ((k : Int) == (j : Int)) = false := by rw [beq_eq_false_iff_ne]; omega
            have hts : flat (cutL (l.take (k + 1)) j) = flat (cutL (l.take k) j) ++ [.int .i64 l[k].id, .string l[k].sp, .string l[k].nm] := by
              rw [cut_on l j k hlt hkj, flat_append, flat_one]
            have hln : n + 1 = (cutL (l.take (k + 1)) j).length := by rw [cut_on l j k hlt hkj, List.length_append, ← hn]; rfl
            have HT := Lib.hid hts
            have HN := Lib.hid hln
            have HW : Hid (∀ j u, [Value.int .i64 l[k].id, .string l[k].sp, .string l[k].nm][j]? = some u → wr.cell? ⟨g, k * 3 + j, Option.none⟩ = some u) := fun q u hu => by
              obtain ⟨c0, c1, c2⟩ := HCS.out k l[k] (by simp [hlt])
              match q, hu with
              | 0, hu => cases hu; exact (hb.cell (p := ⟨g, k * 3, Option.none⟩) hg).trans c0
              | 1, hu => cases hu; exact (hb.cell (p := ⟨g, k * 3 + 1, Option.none⟩) hg).trans c1
              | 2, hu => cases hu; exact (hb.cell (p := ⟨g, k * 3 + 2, Option.none⟩) hg).trans c2
              | q + 3, hu => simp at hu
            have p0 := HW.out 0 _ rfl
            have p1 := HW.out 1 _ rfl
            have p2 := HW.out 2 _ rfl
            simp only [Nat.add_zero] at p0
            clear hts hln hn HW
            generalize l[k] = x at *
            have hown2 := hown.alloc (.cells #[.int .i64 x.id, .string x.sp, .string x.nm] 30)
            go_wp2_with (first | (at_builtin; refine wpList_append_lies _ rfl _ _ 22 rfl w.heap.size 30 i0 _ 3 40 ht hi hz0 hz1 hz2 rfl (by decide) _ n _ rfl hown2 ⟨wr.heap.size, 0, Option.none⟩ 1 1 [.int .i64 x.id, .string x.sp, .string x.nm] rfl rfl (blk_news (heap_alloc_new _ _)) (by simp [Value.oneCell']) (by decide) (by unfold maxLen; omega) (by omega) (Nat.le_trans hb.size (by simp)) _ rfl ?_) | fail)
            intro g2 cap2 w3 hown3 hgr hat hg3
            rw [← HT.out] at hown3
            go_wp2
            go_roundw
            case rel => exact ⟨k + 1, n + 1, by omega, by omega, HN.out, by go_num, hown3, (hb.alloc hb.size _).grown hgr (Nat.le_trans hb.size (by simp)) (fun j hj => own_ge hown hj)⟩
            case measure => simp [intOf] <;> omega
        · obtain rfl : k = l.length := by omega
          rw [List.take_length] at hown hn
          subst hn
          obtain ⟨oa, on, oc, rfl⟩ := own_form hown
          have HOWN := Lib.hid hown
          clear hown
          go_wp2_with fail
          go_ret
          exact new_done HS.out hb HOWN.out (Nat.le_trans (cut_len l j) hlen)

set_option maxRecDepth 100000 in
set_option maxHeartbeats 1000000 in
theorem rreplace_any (b : Nat) (v : Value) (l : List El) (id : Int) (x : El) (w : World) (hs : Stk w b v l) :
    Calls Tryd.prog 40 #[.pointer (some ⟨b, 0, Option.none⟩), .int .i64 id, .agg #[.int .i64 x.id, .string x.sp, .string x.nm]] w (MPost b v w (.returned (.int .i64 (remC l id))) (repL l id x)) := by
  have hW : Below w.heap.size w (w.alloc (.cells #[.int .i64 x.id, .string x.sp, .string x.nm] 30)) := (Below.refl _ _).alloc (Nat.le_refl _) _
  have hs1 := hs.below hW
  have hlt := idxB_lt l id
  have hlen := hs.len
  have hblt := hs.lt b (.inl rfl)
  unfold remC repL
  by_cases h : idxB l id < 0
  · rw [if_pos h, if_pos h]
    have HX := Lib.hid (hlt.2.2 h)
    have HS := Lib.hid hs
    clear h hlt
    go_enter Tryd.func40, Tryd.ntmps40
    go_wp2_with fail
    refine (rindex_any b v l id _ hs1).mono ?_
    rintro e w1 ⟨rfl, hb⟩
    rw [HX.out]
    clear hs hs1
    have hb0 := hW.trans (hb.mono hW.size)
    go_wp2_with fail
    go_ret
    exact ⟨rfl, _, HS.out.below hb0, Keeps.of_below hb0, fun k hk => .inl hk⟩
  · rw [if_neg h, if_neg h]
    obtain ⟨i, hi⟩ : ∃ i : Nat, idxB l id = i := ⟨(idxB l id).toNat, by omega⟩
    have hil : i < l.length := by omega
    rw [hi]
    simp only [Int.toNat_natCast]
    have HI := Lib.hid hi
    clear hi h hlt
    have HIX := Lib.hid (rindex_any b v l id _ hs1)
    have HS := Lib.hid hs
    clear hs1
    rcases hs.form with ⟨rfl, rfl⟩ | ⟨g, cap, rfl, hg, hgb, h1, h2, _, _⟩
    · simp at hil
    · clear hs
      go_enter Tryd.func40, Tryd.ntmps40
      go_wp2_with fail
      refine HIX.out.mono ?_
      rintro e w1 ⟨rfl, hb⟩
      rw [HI.out]
      have hb0 := hW.trans (hb.mono hW.size)
      have hs1 := HS.out.below hb0
      have hc := hs1.cell
      obtain ⟨c0, c1, c2⟩ : w1.cell? ⟨g, i * 3, Option.none⟩ = some (.int .i64 l[i].id) ∧ w1.cell? ⟨g, i * 3 + 1, Option.none⟩ = some (.string l[i].sp) ∧ w1.cell? ⟨g, i * 3 + 2, Option.none⟩ = some (.string l[i].nm) := by
        rcases hs1.form with ⟨h, _⟩ | ⟨g', cap', he, _, _, _, _, hcs, _⟩
        · cases h
        · cases he
          exact hcs i l[i] (by simp [hil])
      obtain ⟨f0, f1, f2⟩ : w1.frozen? ⟨g, i * 3, Option.none⟩ = false ∧ w1.frozen? ⟨g, i * 3 + 1, Option.none⟩ = false ∧ w1.frozen? ⟨g, i * 3 + 2, Option.none⟩ = false := by
        rcases hs1.form with ⟨h, _⟩ | ⟨g', cap', he, _, _, _, _, _, hfz⟩
        · cases h
        · cases he
          exact ⟨hfz _, hfz _, hfz _⟩
      have q0 : w1.cell? ⟨w.heap.size, 0, Option.none⟩ = some (.int .i64 x.id) := (hb.cell (p := ⟨w.heap.size, 0, Option.none⟩) (by simp)).trans (by simp [go_sem])
      have q1 : w1.cell? ⟨w.heap.size, 1, Option.none⟩ = some (.string x.sp) := (hb.cell (p := ⟨w.heap.size, 1, Option.none⟩) (by simp)).trans (by simp [go_sem])
      have q2 : w1.cell? ⟨w.heap.size, 2, Option.none⟩ = some (.string x.nm) := (hb.cell (p := ⟨w.heap.size, 2, Option.none⟩) (by simp)).trans (by simp [go_sem])
      have hd := set_done (e0 := .returned (.int .i64 0)) (x := x) HS.out (hb0.drew) hil
      have HD := Lib.hid hd
      have hni : ¬ ((i : Int) < 0) := by omega
      clear hd hs1
      generalize l[i] = y at *
      go_wp2_with fail
      go_region
      all_goals
        go_wp2
        go_ret
        exact HD.out

theorem rinsert_out (b : Nat) (v : Value) (l : List El) (i : Int) (x : El) (w : World) (hs : Stk w b v l) (h : ¬ (0 ≤ i ∧ i ≤ l.length)) :
    Calls Tryd.prog 38 #[.pointer (some ⟨b, 0, Option.none⟩), .int .i64 i, .agg #[.int .i64 x.id, .string x.sp, .string x.nm]] w (MPost b v w (.returned (.int .i64 60)) l) := by
  have hc := hs.cell
  have hblt := hs.lt b (.inl rfl)
  have HS := Lib.hid hs
  have hb : Below w.heap.size w (w.alloc (.cells #[.int .i64 x.id, .string x.sp, .string x.nm] 30)) := (Below.refl _ _).alloc (Nat.le_refl _) _
  rcases hs.form with ⟨rfl, rfl⟩ | ⟨g, cap, rfl, _, _, h1, h2, _, _⟩
  all_goals
    clear hs
    by_cases hi : i < 0
    · clear h
      go_enter Tryd.func38, Tryd.ntmps38
      go_wp2_with fail
      go_ret
      exact ⟨rfl, _, HS.out.below hb, Keeps.of_below hb, fun k hk => .inl hk⟩
    · have hi2 : (0 : Int) ≤ i := by omega
      have hi3 : ((_ : Nat) : Int) < i := Int.not_le.1 (fun hh => h ⟨hi2, hh⟩)
      clear h
      try simp only [List.length_nil, Int.natCast_zero] at hi3
      go_enter Tryd.func38, Tryd.ntmps38
      go_wp2_with fail
      go_ret
      exact ⟨rfl, _, HS.out.below hb, Keeps.of_below hb, fun k hk => .inl hk⟩

set_option maxRecDepth 100000 in
set_option maxHeartbeats 4000000 in
theorem rinsert_in (b : Nat) (v : Value) (l : List El) (i : Nat) (x : El) (w : World) (hs : Stk w b v l) (hil : i ≤ l.length) (hlen : l.length < 1000000) :
    Calls Tryd.prog 38 #[.pointer (some ⟨b, 0, Option.none⟩), .int .i64 i, .agg #[.int .i64 x.id, .string x.sp, .string x.nm]] w (MPost b v w (.returned (.int .i64 0)) (l.take i ++ x :: l.drop i)) := by
  have hW : Below w.heap.size w (w.alloc (.cells #[.int .i64 x.id, .string x.sp, .string x.nm] 30)) := (Below.refl _ _).alloc (Nat.le_refl _) _
  have hc := hs.cell
  have hf := hs.frozen
  have hblt := hs.lt b (.inl rfl)
  have HS := Lib.hid hs
  obtain ⟨i0, hi, hz0, hz1, hz2⟩ := info_parts infoEl
  have ht : Tryd.prog.underlying 22 = some (.slice 30) := Tryd.underlying22
  obtain ⟨vb, vn, vc, hv, hvl⟩ : ∃ a n c, v = .slice a n c ∧ n = l.length := by
    rcases hs.form with ⟨rfl, rfl⟩ | ⟨g, cap, rfl, _⟩
    · exact ⟨_, _, _, rfl, rfl⟩
    · exact ⟨_, _, _, rfl, rfl⟩
  have HE : Hid (∀ (k : Nat) (hk : k < l.length) W, Below w.heap.size w W → ∃ g, vb = some ⟨g, 0, Option.none⟩ ∧ W.cell? ⟨g, k * 3, Option.none⟩ = some (.int .i64 l[k].id) ∧ W.cell? ⟨g, k * 3 + 1, Option.none⟩ = some (.string l[k].sp) ∧ W.cell? ⟨g, k * 3 + 2, Option.none⟩ = some (.string l[k].nm)) := fun k hk W hWb => by
    rcases hs.form with ⟨_, rfl⟩ | ⟨g, cap, he, hg, _, _, _, hcs, _⟩
    · simp at hk
    · rw [hv] at he
      cases he
      obtain ⟨c0, c1, c2⟩ := hcs k l[k] (by simp [hk])
      exact ⟨g, rfl, (hWb.cell (p := ⟨g, k * 3, Option.none⟩) hg).trans c0, (hWb.cell (p := ⟨g, k * 3 + 1, Option.none⟩) hg).trans c1, (hWb.cell (p := ⟨g, k * 3 + 2, Option.none⟩) hg).trans c2⟩
  subst hv hvl
  clear hs
  have hni : ¬ ((i : Int) < 0) := by omega
  have hgt : ¬ ((l.length : Int) < (i : Int)) := by omega
  have HX : Hid (∀ W, Below (w.heap.size + 1) (w.alloc (.cells #[.int .i64 x.id, .string x.sp, .string x.nm] 30)) W → W.cell? ⟨w.heap.size, 0, Option.none⟩ = some (.int .i64 x.id) ∧ W.cell? ⟨w.heap.size, 1, Option.none⟩ = some (.string x.sp) ∧ W.cell? ⟨w.heap.size, 2, Option.none⟩ = some (.string x.nm)) := fun W hb =>
    ⟨(hb.cell (p := ⟨w.heap.size, 0, Option.none⟩) (by simp)).trans (by simp [go_sem]), (hb.cell (p := ⟨w.heap.size, 1, Option.none⟩) (by simp)).trans (by simp [go_sem]), (hb.cell (p := ⟨w.heap.size, 2, Option.none⟩) (by simp)).trans (by simp [go_sem])⟩
  have HW := Lib.hid hW
  clear hW
  go_enter Tryd.func38, Tryd.ntmps38
  go_wp2_with fail
  go_loopw [7, 8] (fun o j wr => ∃ k : Nat, k ≤ i ∧ j = .int .i64 k ∧ wr.ownsRow (w.heap.size + 1) 30 3 o k (flat (l.take k)) ∧ Below (w.heap.size + 1) (w.alloc (.cells #[.int .i64 x.id, .string x.sp, .string x.nm] 30)) wr) (fun _ j _ => i - (intOf j).toNat)
  case atStart => exact ⟨0, by omega, rfl, by simpa [flat] using World.ownsRow_nil _ (w.heap.size + 1) 30 3, Below.refl _ _⟩
  case round =>
    obtain ⟨k, hk, rfl, hown, hb⟩ := hrel
    have hbw := HW.out.trans (hb.mono (Nat.le_succ _))
    by_cases hlt : k < i
    · have hkl : k < l.length := by omega
      obtain ⟨g, rfl, p0, p1, p2⟩ := HE.out k hkl wr hbw
      have hc2 := (hbw.cell (p := ⟨b, 0, Option.none⟩) hblt).trans hc
      have hts : flat (l.take (k + 1)) = flat (l.take k) ++ [.int .i64 l[k].id, .string l[k].sp, .string l[k].nm] := by
        rw [List.take_succ_eq_append_getElem hkl, flat_append, flat_one]
      have HT := Lib.hid hts
      clear hts
      generalize l[k] = y at *
      have hown2 := hown.alloc (.cells #[.int .i64 y.id, .string y.sp, .string y.nm] 30)
      have hbs := hb.size
      rw [World.size_alloc] at hbs
      go_wp2_with (first | (at_builtin; refine wpList_append_lies _ rfl _ _ 22 rfl (w.heap.size + 1) 30 i0 _ 3 40 ht hi hz0 hz1 hz2 rfl (by decide) _ k _ rfl hown2 ⟨wr.heap.size, 0, Option.none⟩ 1 1 [.int .i64 y.id, .string y.sp, .string y.nm] rfl rfl (blk_news (heap_alloc_new _ _)) (by simp [Value.oneCell']) (by decide) (by unfold maxLen; omega) (by omega) (Nat.le_trans hbs (by simp)) _ rfl ?_) | fail)
      intro g2 cap2 w3 hown3 hgr hat hg3
      rw [← HT.out] at hown3
      go_wp2
      go_roundw
      case rel => exact ⟨k + 1, by omega, by go_num, hown3, (hb.alloc hbs _).grown hgr (Nat.le_trans hbs (by simp)) (fun j hj => own_ge hown hj)⟩
      case measure => simp [intOf] <;> omega
    · obtain rfl : k = i := by omega
      obtain ⟨x0, x1, x2⟩ := HX.out wr hb
      have hown2 := hown.alloc (.cells #[.int .i64 x.id, .string x.sp, .string x.nm] 30)
      have hbs := hb.size
      rw [World.size_alloc] at hbs
      have hts : flat (l.take k) ++ [.int .i64 x.id, .string x.sp, .string x.nm] = flat (l.take k ++ x :: (l.take k).drop k) := by
        rw [List.drop_eq_nil_of_le (by simp; omega), flat_append, flat_one]
      have HT := Lib.hid hts
      clear hts
      go_wp2_with (first | (at_builtin; refine wpList_append_lies _ rfl _ _ 22 rfl (w.heap.size + 1) 30 i0 _ 3 40 ht hi hz0 hz1 hz2 rfl (by decide) _ k _ rfl hown2 ⟨wr.heap.size, 0, Option.none⟩ 1 1 [.int .i64 x.id, .string x.sp, .string x.nm] rfl rfl (blk_news (heap_alloc_new _ _)) (by simp [Value.oneCell']) (by decide) (by unfold maxLen; omega) (by omega) (Nat.le_trans hbs (by simp)) _ rfl ?_) | fail)
      intro g2 cap2 w3 hown3 hgr hat hg3
      rw [HT.out] at hown3
      have hb3 := (hb.alloc hbs _).grown hgr (Nat.le_trans hbs (by simp)) (fun j hj => own_ge hown hj)
      clear x0 x1 x2 hown2 hown HT hgr hat hbw hb
      go_wp2_with fail
      go_loopw [7, 9] (fun o j wr => ∃ m : Nat, k ≤ m ∧ m ≤ l.length ∧ j = .int .i64 m ∧ wr.ownsRow (w.heap.size + 1) 30 3 o (m + 1) (flat (l.take k ++ x :: (l.take m).drop k)) ∧ Below (w.heap.size + 1) (w.alloc (.cells #[.int .i64 x.id, .string x.sp, .string x.nm] 30)) wr) (fun _ j _ => l.length - (intOf j).toNat)
      case atStart => exact ⟨k, by omega, by omega, rfl, hown3, hb3⟩
      case round =>
        obtain ⟨m, hkm, hm, rfl, hown, hb⟩ := hrel
        have hbw := HW.out.trans (hb.mono (Nat.le_succ _))
        have hc2 := (hbw.cell (p := ⟨b, 0, Option.none⟩) hblt).trans hc
        by_cases hlt : m < l.length
        · obtain ⟨g, rfl, p0, p1, p2⟩ := HE.out m hlt wr hbw
          have hts : flat (l.take k ++ x :: (l.take (m + 1)).drop k) = flat (l.take k ++ x :: (l.take m).drop k) ++ [.int .i64 l[m].id, .string l[m].sp, .string l[m].nm] := by
            rw [drop_step l k m hkm hlt, ← List.cons_append, ← List.append_assoc, flat_append (l.take k ++ x :: (l.take m).drop k), flat_one]
          have HT := Lib.hid hts
          clear hts
          generalize l[m] = y at *
          have hown2 := hown.alloc (.cells #[.int .i64 y.id, .string y.sp, .string y.nm] 30)
          have hbs := hb.size
          rw [World.size_alloc] at hbs
          go_wp2_with (first | (at_builtin; refine wpList_append_lies _ rfl _ _ 22 rfl (w.heap.size + 1) 30 i0 _ 3 40 ht hi hz0 hz1 hz2 rfl (by decide) _ (m + 1) _ rfl hown2 ⟨wr.heap.size, 0, Option.none⟩ 1 1 [.int .i64 y.id, .string y.sp, .string y.nm] rfl rfl (blk_news (heap_alloc_new _ _)) (by simp [Value.oneCell']) (by decide) (by unfold maxLen; omega) (by omega) (Nat.le_trans hbs (by simp)) _ rfl ?_) | fail)
          intro g2 cap2 w3 hown3 hgr hat hg3
          rw [← HT.out] at hown3
          go_wp2
          go_roundw
          case rel => exact ⟨m + 1, by omega, by omega, by go_num, hown3, (hb.alloc hbs _).grown hgr (Nat.le_trans hbs (by simp)) (fun j hj => own_ge hown hj)⟩
          case measure => simp [intOf] <;> omega
        · obtain rfl : m = l.length := by omega
          rw [List.take_length] at hown
          have hf2 := (hbw.frozen (p := ⟨b, 0, Option.none⟩) hblt).trans hf
          obtain ⟨oa, on, oc, rfl⟩ := own_form hown
          have hl2 : l.length + 1 = (l.take k ++ x :: l.drop k).length := by simp; omega
          rw [hl2] at hown
          have HOWN := Lib.hid (own_mono hown (Nat.le_succ _))
          have HL := Lib.hid hl2
          clear hown hl2
          go_wp2_with fail
          go_ret
          exact new_done HS.out hbw HOWN.out (by rw [← HL.out]; omega)
end Go.Proofs.YtibfiblajicdpaaDoor
