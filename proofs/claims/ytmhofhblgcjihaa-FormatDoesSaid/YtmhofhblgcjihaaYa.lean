/- SameAttrs; the reference's one. -/
import Derived.Test.YtmhofhblgcjihaaZt
import Derived.Deep.RegionHeld3
namespace Go.Proofs.Ytmhofhblgcjihaa
open Go Go.RowKit

def atB (x y : At) : Bool := (x.sp.toList == y.sp.toList) && (x.nm.toList == y.nm.toList) && (x.va.toList == y.va.toList)
theorem atB_is (x y : At) : atB x y = true ↔ x = y := by
  obtain ⟨a, b, c⟩ := x
  obtain ⟨d, e, f⟩ := y
  have h : ∀ s t : ByteArray, (s.toList == t.toList) = true ↔ s = t := fun s t => by
    rw [beq_iff_eq, ByteArray.toList_eq, ByteArray.toList_eq]
    exact ⟨fun h => ByteArray.ext (Array.toList_inj.1 h), fun h => by rw [h]⟩
  simp only [atB, Bool.and_eq_true, h, At.mk.injEq, and_assoc]
def sameB (a b : List At) : Bool := (a.length == b.length) && (List.range a.length).all fun i => match a[i]?, b[i]? with | some x, some y => atB x y | _, _ => false
theorem sameB_is (a b : List At) : sameB a b = true ↔ a = b := by
  unfold sameB
  simp only [Bool.and_eq_true, beq_iff_eq, List.all_eq_true, List.mem_range]
  constructor
  · rintro ⟨h1, h2⟩
    refine List.ext_getElem h1 fun i hi hj => ?_
    have := h2 i hi
    rw [List.getElem?_eq_getElem hi, List.getElem?_eq_getElem hj] at this
    exact (atB_is _ _).1 this
  · rintro rfl
    refine ⟨rfl, fun i hi => ?_⟩
    rw [List.getElem?_eq_getElem hi]
    exact (atB_is _ _).2 rfl

theorem sameB_L (a b : List At) : sameB a b = sameL a b := by
  rw [Bool.eq_iff_iff, sameB_is, sameL_iff]

set_option maxHeartbeats 2000000 in
theorem same_any (va vb : Value) (la lb : List At) (w : World) (ha : AtsAt w va la) (hb : AtsAt w vb lb) :
    Calls Try.prog 14 #[va, vb] w fun e w' => e = .returned (.bool (sameB la lb)) ∧ Below w.heap.size w w' := by
  have hla := ha.len
  have hlb := hb.len
  obtain ⟨aa, ac, rfl⟩ := ha.form
  obtain ⟨ba, bc, rfl⟩ := hb.form
  have HA := Lib.hid ha
  have HB := Lib.hid hb
  clear ha hb
  by_cases hl : la.length = lb.length
  · have e1 : sameB la lb = (List.range la.length).all fun i => match la[i]?, lb[i]? with | some x, some y => atB x y | _, _ => false := by
      unfold sameB; rw [hl]; simp
    have H1 := Lib.hid e1
    clear e1
    go_enter Try.func14, Try.ntmps14
    go_wp2_with fail
    go_loopw [5] (fun i wr => ∃ k : Nat, k ≤ la.length ∧ i = .int .i64 k ∧ (∀ j, j < k → (match la[j]?, lb[j]? with | some x, some y => atB x y | _, _ => false) = true) ∧ Below w.heap.size w wr) (fun i _ => la.length - (intOf i).toNat)
    case atStart => exact ⟨0, by omega, rfl, fun j hj => by omega, Below.refl _ _⟩
    case round =>
      obtain ⟨k, hk, rfl, hP, hbw⟩ := hrel
      have HP := Lib.hid hP
      clear hP
      by_cases hlt : k < la.length
      · have hlt' : k < lb.length := by omega
        obtain ⟨b1, o1, rfl, hb1, c0, c1, c2⟩ := ats_at (HA.out.below (Nat.le_refl _) hbw) hlt
        obtain ⟨b2, o2, rfl, hb2, d0, d1, d2⟩ := ats_at (HB.out.below (Nat.le_refl _) hbw) hlt'
        have hE : (match la[k]?, lb[k]? with | some x, some y => atB x y | _, _ => false) = atB la[k] lb[k] := by
          rw [List.getElem?_eq_getElem hlt, List.getElem?_eq_getElem hlt']
        have HE := Lib.hid hE
        clear hE
        obtain ⟨x, hx⟩ : ∃ x, x = la[k] := ⟨_, rfl⟩
        obtain ⟨y, hy⟩ : ∃ y, y = lb[k] := ⟨_, rfl⟩
        rw [← hx] at c0 c1 c2 HE
        rw [← hy] at d0 d1 d2 HE
        clear hx hy
        cases hq : atB x y
        · have HQ := Lib.hid hq
          have hF : sameB la lb = false := by
            rw [H1.out, Bool.eq_false_iff]
            intro h
            have := List.all_eq_true.1 h k (List.mem_range.2 hlt)
            rw [HE.out, hq] at this
            cases this
          have HF := Lib.hid hF
          clear hF
          unfold atB at hq
          cases q1 : (x.sp.toList == y.sp.toList)
          · clear hq
            go_wp2_with fail
            go_quiet (fail)
            go_wp2
            go_ret
            exact ⟨ret_bool HF.out.symm, bDrewN hbw _⟩
          · cases q2 : (x.nm.toList == y.nm.toList)
            · clear hq
              go_wp2_with fail
              go_quiet (fail)
              go_wp2
              go_ret
              exact ⟨ret_bool HF.out.symm, bDrewN hbw _⟩
            · rw [q1, q2] at hq
              have q3 : (x.va.toList == y.va.toList) = false := by simpa using hq
              clear hq
              go_wp2_with fail
              go_quiet (fail)
              go_wp2
              go_ret
              exact ⟨ret_bool HF.out.symm, bDrewN hbw _⟩
        · have hN : ∀ j, j < k + 1 → (match la[j]?, lb[j]? with | some x, some y => atB x y | _, _ => false) = true := fun j hj => by
            by_cases hjk : j < k
            · exact HP.out j hjk
            · obtain rfl : j = k := by omega
              rw [HE.out, hq]
          have HN := Lib.hid hN
          clear hN
          unfold atB at hq
          simp only [Bool.and_eq_true] at hq
          obtain ⟨⟨q1, q2⟩, q3⟩ := hq
          go_wp2_with fail
          go_quiet (fail)
          go_wp2
          go_roundw
          case rel => exact ⟨k + 1, by omega, by go_num, HN.out, bDrewN hbw _⟩
          case measure => simp [intOf] <;> omega
      · obtain rfl : k = la.length := by omega
        go_wp2_with fail
        go_ret
        refine ⟨ret_bool ?_, hbw⟩
        rw [H1.out]
        symm
        rw [List.all_eq_true]
        exact fun i hi => HP.out i (List.mem_range.1 hi)
  · have e1 : sameB la lb = false := by unfold sameB; rw [show (la.length == lb.length) = false from by simpa using hl]; rfl
    have H1 := Lib.hid e1
    have hne : ((la.length : Int) == (lb.length : Int)) = false := by rw [beq_eq_false_iff_ne]; omega
    clear e1
    go_enter Try.func14, Try.ntmps14
    go_wp2_with fail
    go_ret
    exact ⟨ret_bool H1.out.symm, Below.refl _ _⟩
end Go.Proofs.Ytmhofhblgcjihaa
