/- The reference's At, Lost, cut and Remove. -/
import Derived.Test.YtmhofhblgcjihaaWc
namespace Go.Proofs.Ytmhofhblgcjihaa
open Go Go.RowKit Go.Shelf

/-- an entry that comes out, its attributes still the list's -/
def ROut (x : Ab) (more : Array Value) (w : World) (e : Ending) (w' : World) : Prop :=
  ∃ a c, e = .returned (.tuple (#[.agg #[.int .i64 x.el.id, .string x.el.sp, .string x.el.nm, .slice a x.ats.length c]] ++ more)) ∧ AtsAt w' (.slice a x.ats.length c) x.ats ∧ Below w.heap.size w w'

set_option maxRecDepth 100000 in
set_option maxHeartbeats 2000000 in
theorem rat_out (b : Nat) (v : Value) (es : List En) (i : Int) (w : World) (hs : Raw w b v es) (h : ¬ (0 ≤ i ∧ i < es.length)) :
    Calls Try.prog 32 #[.pointer (some ⟨b, 0, Option.none⟩), .int .i64 i] w (ROut Ab.none #[.int .i64 70] w) := by
  have hc := hs.cell
  have hblt := hs.lt b (.inl rfl)
  obtain ⟨va, vc, rfl⟩ : ∃ a c, v = .slice a es.length c := by
    rcases hs.form with ⟨h, h2⟩ | ⟨g, cap, h1, _⟩
    · exact ⟨_, _, by rw [h2]; exact h⟩
    · exact ⟨_, _, h1⟩
  clear hs
  by_cases hi : i < 0
  · clear h
    go_enter Try.func32, Try.ntmps32
    go_wp2_with fail
    refine bodyPost_ret (v := .tuple #[.agg #[.int .i64 0, .string ⟨#[]⟩, .string ⟨#[]⟩, .slice Option.none 0 0], .int .i64 70]) (by simp [results, Try.results32, go_sem]) rfl ?_
    exact ⟨Option.none, 0, rfl, .inl ⟨rfl, _, _, rfl⟩, (Below.refl _ _).alloc (Nat.le_refl _) _⟩
  · have hi3 : (es.length : Int) ≤ i := by omega
    clear h
    go_enter Try.func32, Try.ntmps32
    go_wp2_with fail
    refine bodyPost_ret (v := .tuple #[.agg #[.int .i64 0, .string ⟨#[]⟩, .string ⟨#[]⟩, .slice Option.none 0 0], .int .i64 70]) (by simp [results, Try.results32, go_sem]) rfl ?_
    exact ⟨Option.none, 0, rfl, .inl ⟨rfl, _, _, rfl⟩, (Below.refl _ _).alloc (Nat.le_refl _) _⟩

set_option maxRecDepth 100000 in
set_option maxHeartbeats 2000000 in
theorem rat_in (b : Nat) (v : Value) (es : List En) (i : Nat) (w : World) (hs : Raw w b v es) (hi : i < es.length) :
    Calls Try.prog 32 #[.pointer (some ⟨b, 0, Option.none⟩), .int .i64 i] w (ROut es[i].ab #[.int .i64 0] w) := by
  have hc := hs.cell
  have hblt := hs.lt b (.inl rfl)
  have hlen := hs.len
  have HS := Lib.hid hs
  rcases hs.form with ⟨_, rfl⟩ | ⟨g, cap, rfl, hg, hgb, h1, h2, _, _⟩
  · simp at hi
  · clear hs
    have hal : Below w.heap.size w (w.alloc (.cells #[.int .i64 0, .string ⟨#[]⟩, .string ⟨#[]⟩, .slice Option.none 0 0] 37)) := (Below.refl _ _).alloc (Nat.le_refl _) _
    obtain ⟨c0, c1, c2, c3⟩ := HS.out.at4 i hi hal
    have hat := HS.out.ats es[i] (List.getElem_mem hi)
    generalize es[i] = x at *
    have HAT := Lib.hid hat
    have HAL := Lib.hid hal
    clear hat hal
    go_enter Try.func32, Try.ntmps32
    go_wp2_with fail
    have hal2 : Below w.heap.size w (w.alloc (.cells #[.int .i64 x.el.id, .string x.el.sp, .string x.el.nm, .slice x.a x.ats.length x.c] 37)) := (Below.refl _ _).alloc (Nat.le_refl _) _
    exact bodyPost_ret (v := .tuple #[.agg #[.int .i64 x.el.id, .string x.el.sp, .string x.el.nm, .slice x.a x.ats.length x.c], .int .i64 0]) (by simp [results, Try.results32, go_sem]) rfl ⟨x.a, x.c, rfl, HAT.out.below (Nat.le_refl _) hal2, hal2⟩

set_option maxRecDepth 100000 in
set_option maxHeartbeats 2000000 in
theorem rlost_any (b : Nat) (v : Value) (es : List En) (ov : Value) (op : List Int) (w : World) (hs : Raw w b v es) (ho : IntsAt w ov op) :
    Calls Try.prog 40 #[.pointer (some ⟨b, 0, Option.none⟩), ov] w fun e w' => e = .returned (.int .i64 (lostN op (es.map En.ab))) ∧ Below w.heap.size w w' := by
  have hc := hs.cell
  have hblt := hs.lt b (.inl rfl)
  have hlen := hs.len
  have hol := ho.len
  have hB : lostN op (es.map En.ab) = es.length - cntTop (fun x : En => !(x.el.id == 0) && !(op.contains x.el.id)) es := by
    unfold lostN
    rw [cntTop_map, List.length_map]
    rfl
  rw [hB]
  clear hB
  obtain ⟨oa, oc, rfl⟩ := ho.form
  have HO := Lib.hid ho
  clear ho
  rcases hs.form with ⟨rfl, rfl⟩ | ⟨g, cap, rfl, hg, hgb, h1, h2, _, _⟩
  · clear hs
    go_enter Try.func40, Try.ntmps40
    go_wp2_with fail
    go_loop [5] (fun i => i = .int .i64 (-1)) (fun _ => 0)
    case atStart => rfl
    case round =>
      obtain rfl := hrel
      go_wp2
      go_ret
      exact ⟨rfl, Below.refl _ _⟩
  · have HS := Lib.hid hs
    clear hs
    go_enter Try.func40, Try.ntmps40
    go_wp2_with fail
    go_loopw [5, 6] (fun i _ wr => ∃ k : Nat, k ≤ es.length ∧ i = .int .i64 ((k : Int) - 1) ∧ (∀ j, j < es.length - k → ∀ x, es.reverse[j]? = some x → (!(x.el.id == 0) && !(op.contains x.el.id)) = true) ∧ Below w.heap.size w wr) (fun i _ _ => (intOf i + 1).toNat)
    case atStart => exact ⟨es.length, by omega, rfl, (fun j hj => by omega), Below.refl _ _⟩
    case round =>
      obtain ⟨k, hk, rfl, hP, hb⟩ := hrel
      have HP := Lib.hid hP
      have hcb := (hb.cell (p := ⟨b, 0, Option.none⟩) hblt).trans hc
      clear hP
      cases k with
      | zero =>
        go_wp2
        go_ret
        have e2 := cntTop_eq (fun x : En => !(x.el.id == 0) && !(op.contains x.el.id)) es es.length (by omega) (by simpa using HP.out) (.inl rfl)
        exact ⟨ret_int (by rw [e2]; simp), hb⟩
      | succ k =>
        have hkl : k < es.length := by omega
        have hat4 := fun (W : World) (hW : Below w.heap.size w W) => HS.out.at4 k hkl hW
        have hrv := Lib.hid (rev_get es k hkl)
        generalize es[k] = x at *
        obtain ⟨c0, _, _, _⟩ := hat4 _ hb
        have HA4 := Lib.hid hat4
        have HB := Lib.hid hb
        clear hat4
        have hw1 : IntKind.i64.wrap ((k : Int) - 1) = (k : Int) - 1 := by rw [IntKind.wrap_i64]; omega
        have hw2 : IntKind.i64.wrap ((k : Int) + 1) = (k : Int) + 1 := by rw [IntKind.wrap_i64]; omega
        rw [show (((k + 1 : Nat) : Int) - 1) = (k : Int) from by omega]
        cases hm : (x.el.id == 0)
        · have HM := Lib.hid hm
          obtain ⟨wo, rfl⟩ : ∃ wo : World, wo = wr := ⟨_, rfl⟩
          go_wp2_with fail
          go_loopw [6] (fun i wr => ∃ m : Nat, m ≤ op.length ∧ i = .int .i64 m ∧ (∀ j, j < m → ∀ y, op[j]? = some y → (y == x.el.id) = false) ∧ Below w.heap.size w wr) (fun i _ => op.length - (intOf i).toNat)
          case atStart => exact ⟨0, by omega, rfl, (fun j hj => by omega), hb⟩
          case round =>
            obtain ⟨m, hm1, rfl, hQ, hb2⟩ := hrel
            have HQ := Lib.hid hQ
            have HB2 := Lib.hid hb2
            clear hQ c0 hcb hb
            have hcb2 := (hb2.cell (p := ⟨b, 0, Option.none⟩) hblt).trans hc
            obtain ⟨c0, _, _, _⟩ := HA4.out _ hb2
            by_cases hml : m < op.length
            · obtain ⟨b', o', rfl, _, hbl, hd⟩ := ints_at (HO.out.below (Nat.le_refl _) hb2) hml
              have hget : op[m]? = some op[m] := by simp [hml]
              have HG := Lib.hid hget
              clear hget
              generalize op[m] = y at *
              have hw3 : IntKind.i64.wrap ((m : Int) + 1) = (m : Int) + 1 := by rw [IntKind.wrap_i64]; omega
              clear hb2
              cases hy : (y == x.el.id)
              · have HY := Lib.hid hy
                go_wp2_with fail
                go_quiet (fail)
                go_wp2
                go_roundw
                case rel =>
                  refine ⟨m + 1, by omega, by go_num, fun j hj z hz => ?_, bDrewN HB2.out _⟩
                  by_cases h : j < m
                  · exact HQ.out j h z hz
                  · obtain rfl : j = m := by omega
                    rw [HG.out] at hz
                    cases hz
                    exact HY.out
                case measure => simp [intOf] <;> omega
              · have HY := Lib.hid hy
                go_wp2_with fail
                go_quiet (fail)
                go_wp2
                go_ret
                have hct : op.contains x.el.id = true := by
                  have he : y = x.el.id := by simpa using HY.out
                  rw [List.contains_iff_mem, ← he]
                  exact List.mem_of_getElem? HG.out
                have e2 := cntTop_eq (fun x : En => !(x.el.id == 0) && !(op.contains x.el.id)) es (es.length - (k + 1)) (by omega) HP.out (.inr ⟨x, hrv.out, by rw [HM.out, hct]; rfl⟩)
                exact ⟨ret_int (by rw [e2]; omega), bDrewN HB2.out _⟩
            · obtain rfl : m = op.length := by omega
              have hct : op.contains x.el.id = false := by
                rw [Bool.eq_false_iff]
                intro h
                have hm := List.contains_iff_mem.1 h
                obtain ⟨j, hj, he⟩ := List.mem_iff_getElem.1 hm
                have := HQ.out j hj op[j] (by simp [hj])
                rw [he] at this
                simp at this
              have HCT := Lib.hid hct
              clear hct hb2
              go_wp2_with fail
              go_roundw
              case rel =>
                refine ⟨k, by omega, rfl, fun j hj y hy => ?_, HB2.out⟩
                by_cases h : j < es.length - (k + 1)
                · exact HP.out j h y hy
                · obtain rfl : j = es.length - (k + 1) := by omega
                  rw [hrv.out] at hy
                  cases hy
                  rw [HM.out, HCT.out]; rfl
              case measure => simp [intOf] <;> omega
        · have HM := Lib.hid hm
          go_wp2_with fail
          go_ret
          have e2 := cntTop_eq (fun x : En => !(x.el.id == 0) && !(op.contains x.el.id)) es (es.length - (k + 1)) (by omega) HP.out (.inr ⟨x, hrv.out, by rw [HM.out]; rfl⟩)
          exact ⟨ret_int (by rw [e2]; omega), hb⟩
end Go.Proofs.Ytmhofhblgcjihaa
