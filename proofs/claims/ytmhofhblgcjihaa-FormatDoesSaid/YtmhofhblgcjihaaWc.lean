/- The reference's base, Mark, Clear, At, Index, Lost. -/
import Derived.Test.YtmhofhblgcjihaaWb
namespace Go.Proofs.Ytmhofhblgcjihaa
open Go Go.RowKit Go.Shelf

set_option maxRecDepth 100000 in
set_option maxHeartbeats 1000000 in
theorem rbase_any (b : Nat) (v : Value) (es : List En) (w : World) (hs : Raw w b v es) :
    Calls Try.prog 52 #[.pointer (some ⟨b, 0, Option.none⟩)] w fun e w' => e = .returned (.int .i64 (baseN (es.map En.ab))) ∧ Below w.heap.size w w' := by
  have hc := hs.cell
  have hlen := hs.len
  have hB : baseN (es.map En.ab) = es.length - cntTop (fun x : En => !(x.el.id == 0)) es := by
    unfold baseN
    rw [cntTop_map, List.length_map]
    rfl
  rw [hB]
  clear hB
  rcases hs.form with ⟨rfl, rfl⟩ | ⟨g, cap, rfl, hg, hgb, h1, h2, _, _⟩
  · clear hs
    go_enter Try.func52, Try.ntmps52
    go_wp2_with fail
    go_loop [3] (fun i => i = .int .i64 (-1)) (fun _ => 0)
    case atStart => rfl
    case round =>
      obtain rfl := hrel
      go_wp2
      go_ret
      exact ⟨rfl, Below.refl _ _⟩
  · have HS := Lib.hid hs
    clear hs
    go_enter Try.func52, Try.ntmps52
    go_wp2_with fail
    go_loop [3] (fun i => ∃ k : Nat, k ≤ es.length ∧ i = .int .i64 ((k : Int) - 1) ∧ (∀ j, j < es.length - k → ∀ x, es.reverse[j]? = some x → (!(x.el.id == 0)) = true)) (fun i => (intOf i + 1).toNat)
    case atStart => exact ⟨es.length, by omega, rfl, fun j hj => by omega⟩
    case round =>
      obtain ⟨k, hk, rfl, hP⟩ := hrel
      have HP := Lib.hid hP
      clear hP
      cases k with
      | zero =>
        go_wp2
        go_ret
        have e2 := cntTop_eq (fun x : En => !(x.el.id == 0)) es es.length (by omega) (by simpa using HP.out) (.inl rfl)
        exact ⟨ret_int (by rw [e2]; simp), Below.refl _ _⟩
      | succ k =>
        have hkl : k < es.length := by omega
        obtain ⟨c0, c1, c2, c3⟩ := HS.out.at4 k hkl (Below.refl _ _)
        have hrv := Lib.hid (rev_get es k hkl)
        generalize es[k] = x at *
        have hw1 : IntKind.i64.wrap ((k : Int) - 1) = (k : Int) - 1 := by rw [IntKind.wrap_i64]; omega
        have hw2 : IntKind.i64.wrap ((k : Int) + 1) = (k : Int) + 1 := by rw [IntKind.wrap_i64]; omega
        rw [show (((k + 1 : Nat) : Int) - 1) = (k : Int) from by omega]
        cases hm : (x.el.id == 0)
        · have HM := Lib.hid hm
          go_wp2_with fail
          go_round
          case rel =>
            refine ⟨k, by omega, rfl, fun j hj y hy => ?_⟩
            by_cases h : j < es.length - (k + 1)
            · exact HP.out j h y hy
            · obtain rfl : j = es.length - (k + 1) := by omega
              rw [hrv.out] at hy
              cases hy
              rw [HM.out]; rfl
          case measure => simp [intOf] <;> omega
        · have HM := Lib.hid hm
          go_wp2_with fail
          go_ret
          have e2 := cntTop_eq (fun x : En => !(x.el.id == 0)) es (es.length - (k + 1)) (by omega) HP.out (.inr ⟨x, hrv.out, by rw [HM.out]; rfl⟩)
          exact ⟨ret_int (by rw [e2]; omega), Below.refl _ _⟩

set_option maxRecDepth 100000 in
set_option maxHeartbeats 2000000 in
theorem rmark_any (b : Nat) (v : Value) (es : List En) (w : World) (hs : Raw w b v es) (hlen : es.length < 900000) :
    Calls Try.prog 30 #[.pointer (some ⟨b, 0, Option.none⟩)] w (MPost b v es w (.returned (.tuple #[])) (es.map En.ab ++ [Ab.none])) := by
  obtain ⟨i0, hi, hz0, hz1, hz2⟩ := info_parts infoen
  have ht : Try.prog.underlying 25 = some (.slice 37) := Try.underlying25
  have hc := hs.cell
  have hf := hs.frozen
  have hblt := hs.lt b (.inl rfl)
  have hne := hs.ne
  have HS := Lib.hid hs
  have hdr : Below w.heap.size w w := Below.refl _ _
  have own8 := (own_below hs.own hdr).alloc (.cells #[.int .i64 0, .string ⟨#[]⟩, .string ⟨#[]⟩, .slice Option.none 0 0] 37)
  have hcs8 := en_news (vs := [.int .i64 0, .string ⟨#[]⟩, .string ⟨#[]⟩, .slice Option.none 0 0]) (heap_alloc_new w (.cells #[.int .i64 0, .string ⟨#[]⟩, .string ⟨#[]⟩, .slice Option.none 0 0] 37))
  have hb8 : Below w.heap.size w (w.alloc (.cells #[.int .i64 0, .string ⟨#[]⟩, .string ⟨#[]⟩, .slice Option.none 0 0] 37)) := hdr.alloc hdr.size _
  clear hs
  go_enter Try.func30, Try.ntmps30
  go_wp2_with (first | (at_builtin; refine wpList_append_lies _ rfl _ _ 25 rfl 0 37 i0 _ 4 64 ht hi hz0 hz1 hz2 rfl (by decide) v es.length (flatE es) rfl (by exact own8) ⟨w.heap.size, 0, Option.none⟩ 1 1 [.int .i64 0, .string ⟨#[]⟩, .string ⟨#[]⟩, .slice Option.none 0 0] rfl rfl (by exact hcs8) (by simp [Value.oneCell']) (by decide) (by unfold maxLen; omega) (by omega) (Nat.zero_le _) _ rfl ?_; intro g8 cap8 w8 hown8 hgr8 hat8 hlt8; obtain ⟨hc8, hf8⟩ := grown_far hgr8 hb8 hblt hne 0; rw [hc] at hc8; rw [hf] at hf8; simp only [Act.put, List.setIfInBounds_toArray, List.set_cons_succ, List.set_cons_zero]) | fail)
  all_goals
    go_end0
    refine put_done (es' := es ++ [En.none]) HS.out (by rw [List.map_append]; rfl) (by simp; omega) hb8 g8 cap8 (by rw [flatE_append, flatE_one]; exact hown8) (by simp) hgr8 (hat8.imp id (fun h => Nat.le_of_eq h.symm)) rfl ?_ (Keeps.refl _ _)
    intro y hy
    rcases List.mem_append.1 hy with h | h
    · exact .inl h
    · simp at h
      subst h
      exact .inr ⟨.inl ⟨rfl, _, _, rfl⟩, (fun q o e => by cases e), by show 0 * 48 ≤ _; omega⟩

set_option maxRecDepth 100000 in
set_option maxHeartbeats 2000000 in
theorem rclear_any (b : Nat) (v : Value) (es : List En) (w : World) (hs : Raw w b v es) :
    Calls Try.prog 31 #[.pointer (some ⟨b, 0, Option.none⟩)] w (MPost b v es w (.returned (.tuple #[])) (clearB (es.map En.ab))) := by
  have hc := hs.cell
  have hf := hs.frozen
  have hblt := hs.lt b (.inl rfl)
  have HS := Lib.hid hs
  have hdr : Below w.heap.size w w.drew := (Below.refl _ _).drew
  have hba := rbase_any b v es w.drew (hs.below hdr)
  have hbl := baseN_le (es.map En.ab)
  rw [List.length_map] at hbl
  have hlen := hs.len
  unfold clearB
  generalize baseN (es.map En.ab) = B at *
  obtain ⟨k, hk⟩ : ∃ k : Nat, k = B - 1 := ⟨_, rfl⟩
  have hw1 : IntKind.i64.wrap ((B : Int) - 1) = (B : Int) - 1 := by rw [IntKind.wrap_i64]; omega
  have hmx : max ((B : Int) - 1) 0 = (k : Int) := by omega
  rw [← hk]
  have hkl : k ≤ es.length := by omega
  have HBA := Lib.hid hba
  have hown := hs.own
  rcases hs.form with ⟨rfl, rfl⟩ | ⟨g, cap, rfl, hg, hgb, h1, h2, _, _⟩
  · obtain rfl : B = 0 := by simpa using hbl
    obtain rfl : k = 0 := by omega
    clear hs hba hk
    go_enter Try.func31, Try.ntmps31
    go_wp2_with fail
    go_region_with (go_at_call 52; refine HBA.out.mono ?_; rintro e9 w9 ⟨rfl, hb9⟩; have hb9' := hdr.trans hb9; have hc9 := (hb9'.cell (p := ⟨b, 0, Option.none⟩) hblt).trans hc; have hf9 := (hb9'.frozen (p := ⟨b, 0, Option.none⟩) hblt).trans hf)
    all_goals
      go_end0
      exact put_nil HS.out hb9' rfl
  · have hel : k ≤ cap := by omega
    clear hs hba hk
    go_enter Try.func31, Try.ntmps31
    go_wp2_with fail
    go_region_with (go_at_call 52; refine HBA.out.mono ?_; rintro e9 w9 ⟨rfl, hb9⟩; have hb9' := hdr.trans hb9; have hc9 := (hb9'.cell (p := ⟨b, 0, Option.none⟩) hblt).trans hc; have hf9 := (hb9'.frozen (p := ⟨b, 0, Option.none⟩) hblt).trans hf)
    all_goals
      go_end0
      exact put_done (es' := es.take k) HS.out (by rw [List.map_take]) (by simp; omega) hb9' g cap (own_take (own_below hown hb9') k hkl) (by simp; omega) ⟨rfl, rfl, rfl, Nat.le_refl _, fun _ _ _ => rfl⟩ (.inl rfl) rfl (fun x hx => .inl (List.mem_of_mem_take hx)) (Keeps.refl _ _)

set_option maxRecDepth 100000 in
set_option maxHeartbeats 1000000 in
theorem rindex_any (b : Nat) (v : Value) (es : List En) (id : Int) (w : World) (hs : Raw w b v es) :
    Calls Try.prog 33 #[.pointer (some ⟨b, 0, Option.none⟩), .int .i64 id] w fun e w' => e = .returned (.int .i64 (idxB (es.map En.ab) id)) ∧ Below w.heap.size w w' := by
  have hc := hs.cell
  have hlen := hs.len
  have hB : idxB (es.map En.ab) id = match es.findIdx? (fun y => isB id (En.ab y)) with | some k => (k : Int) | Option.none => -1 := by
    unfold idxB
    rw [List.findIdx?_map]
    rfl
  generalize idxB (es.map En.ab) id = r at *
  have hform : ∃ a c, v = .slice a es.length c := by
    rcases hs.form with ⟨h, h2⟩ | ⟨g, cap, h1, _⟩
    · exact ⟨_, _, by rw [h2]; exact h⟩
    · exact ⟨_, _, h1⟩
  obtain ⟨va, vc, rfl⟩ := hform
  have HS := Lib.hid hs
  have HBB := Lib.hid hB
  clear hs hB
  go_enter Try.func33, Try.ntmps33
  go_wp2_with fail
  go_loop [5] (fun i => ∃ k : Nat, k ≤ es.length ∧ i = .int .i64 k ∧ (∀ j, j < k → ∀ x, es[j]? = some x → isB id (En.ab x) = false)) (fun i => es.length - (intOf i).toNat)
  case atStart => exact ⟨0, by omega, rfl, fun j hj => by omega⟩
  case round =>
    obtain ⟨k, hk, rfl, hP⟩ := hrel
    have HP := Lib.hid hP
    clear hP
    by_cases hkl : k < es.length
    · obtain ⟨g, rfl⟩ : ∃ g, va = some ⟨g, 0, Option.none⟩ := by
        rcases HS.out.form with ⟨h, h2⟩ | ⟨g, cap, h1, _⟩
        · rw [h2] at hkl; simp at hkl
        · injection h1 with e1; exact ⟨g, e1⟩
      have hcl : es.length ≤ vc := by
        rcases HS.out.form with ⟨h, h2⟩ | ⟨g, cap, h1, _, _, h3, _⟩
        · cases h
        · injection h1 with e1 e2 e3; omega
      obtain ⟨c0, c1, c2, c3⟩ := HS.out.at4 k hkl (Below.refl _ _)
      have hget : es[k]? = some es[k] := by simp [hkl]
      have HG := Lib.hid hget
      clear hget
      generalize es[k] = x at *
      have hw1 : IntKind.i64.wrap ((k : Int) + 1) = (k : Int) + 1 := by rw [IntKind.wrap_i64]; omega
      have hnext : isB id (En.ab x) = false → ∀ j, j < k + 1 → ∀ y, es[j]? = some y → isB id (En.ab y) = false := fun hx j hj y hy => by
        by_cases h : j < k
        · exact HP.out j h y hy
        · obtain rfl : j = k := by omega
          rw [HG.out] at hy
          cases hy
          exact hx
      have HNX := Lib.hid hnext
      clear hnext
      cases h1 : (x.el.id == id)
      · have H1 := Lib.hid h1
        go_wp2_with fail
        go_round
        case rel => exact ⟨k + 1, by omega, by go_num, HNX.out (by show ((x.el.id == id) && !(x.el.id == 0)) = false; rw [H1.out]; rfl)⟩
        case measure => simp [intOf] <;> omega
      · have H1 := Lib.hid h1
        cases h2 : (id == 0)
        · have H2 := Lib.hid h2
          have h3 : (id != 0) = true := by rw [bne, h2]; rfl
          go_wp2_with fail
          go_ret
          refine ⟨ret_int ?_, Below.refl _ _⟩
          have he : x.el.id = id := by simpa using H1.out
          have hf : es.findIdx? (fun y => isB id (En.ab y)) = some k := by
            rw [List.findIdx?_eq_some_iff_getElem]
            refine ⟨hkl, ?_, fun j hj => ?_⟩
            · have := (List.getElem?_eq_some_iff.1 HG.out).2
              rw [this]
              show ((x.el.id == id) && !(x.el.id == 0)) = true
              rw [H1.out, he, H2.out]; rfl
            · have := HP.out j hj es[j] (List.getElem?_eq_getElem (by omega))
              simpa using this
          rw [HBB.out, hf]
        · have H2 := Lib.hid h2
          have h3 : (id != 0) = false := by rw [bne, h2]; rfl
          go_wp2_with fail
          go_round
          case rel => exact ⟨k + 1, by omega, by go_num, HNX.out (by
            show ((x.el.id == id) && !(x.el.id == 0)) = false
            have he : x.el.id = id := by simpa using H1.out
            rw [he, H2.out]; simp)⟩
          case measure => simp [intOf] <;> omega
    · obtain rfl : k = es.length := by omega
      go_wp2_with fail
      go_ret
      refine ⟨ret_int ?_, Below.refl _ _⟩
      have hf : es.findIdx? (fun y => isB id (En.ab y)) = Option.none := by
        rw [List.findIdx?_eq_none_iff]
        intro y hy
        obtain ⟨j, hj, rfl⟩ := List.mem_iff_getElem.1 hy
        exact HP.out j hj _ (by simp [hj])
      rw [HBB.out, hf]
end Go.Proofs.Ytmhofhblgcjihaa
