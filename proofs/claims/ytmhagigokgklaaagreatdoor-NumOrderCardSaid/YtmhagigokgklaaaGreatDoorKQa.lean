/- NumOrder. -/
import Derived.Test.YtmhagigokgklaaaGreatDoorJl
namespace Go.Proofs.YtmhagigokgklaaaGreatDoor
open Go Go.RowKit Go.Sort Go.Lib
set_option exponentiation.threshold 2000

theorem near_le {X Y Q r s : Nat} (hr : Near X Q r) (hs : Near Y Q s) (hXY : X ≤ Y) : r ≤ s := by
  rcases Nat.lt_or_ge s r with h | h
  · exfalso
    have h1 := hr.inf
    rcases hs.hi with h2 | ⟨h2, h3⟩
    · omega
    rcases hr.lo with h4 | ⟨h4, h5⟩
    · omega
    have h6 : V s + V (s + 1) ≤ V (r - 1) + V r := Nat.add_le_add (V_le (by omega)) (V_le (by omega))
    have h7 := Nat.mul_le_mul_left Q h6
    by_cases h8 : r = s + 1
    · subst h8
      rw [Nat.add_sub_cancel] at h4 h5
      rcases Nat.mod_two_eq_zero_or_one s with h9 | h9
      · have := h5 (by omega)
        omega
      · have := h3 h9
        omega
    · have h10 : V s + V (s + 1) < V (r - 1) + V r := Nat.add_lt_add_of_le_of_lt (V_le (by omega)) (V_mono (by omega))
      have := (Nat.mul_lt_mul_left hs.pos).2 h10
      omega
  · exact h

/-- an integer that is not negative -/
theorem oi_nat (m : Nat) : ∃ r, oiN (m : Int) = r ∧ Near (2 * (m * 2 ^ 1074)) 1 r := by
  obtain ⟨r, h1, h2⟩ := nearest_is false m
  rw [word_f] at h1
  refine ⟨r, ?_, h2⟩
  rw [← h1]
  show Ieee.double.nearest (decide ((m : Int) < 0)) (m : Int).natAbs 0 = _
  rw [decide_eq_false (by omega)]; rfl
theorem oi_le (m n : Nat) (h : m ≤ n) : oiN (m : Int) ≤ oiN (n : Int) := by
  obtain ⟨r, h1, h2⟩ := oi_nat m
  obtain ⟨s, h3, h4⟩ := oi_nat n
  rw [h1, h3]
  exact near_le h2 h4 (Nat.mul_le_mul_left 2 (Nat.mul_le_mul_right _ h))
theorem oi_lt (m : Nat) : oiN (m : Int) ≤ INF := by
  obtain ⟨r, h1, h2⟩ := oi_nat m
  rw [h1]; exact h2.inf
theorem int_le (x y : Nat) (hy : y ≤ INF) (h : x ≤ y) (h1 : (intV x).2 = true) (h2 : (intV y).2 = true) : (intV x).1 ≤ (intV y).1 := by
  unfold INF at hy
  have nx : ngB x = false := by unfold ngB; rw [decide_eq_false_iff_not]; omega
  have ny : ngB y = false := by unfold ngB; rw [decide_eq_false_iff_not]; omega
  have rx : ru x = x := Nat.mod_eq_of_lt (by omega)
  have ry : ru y = y := Nat.mod_eq_of_lt (by omega)
  unfold intV at *
  by_cases c1 : intOK x
  · by_cases c2 : intOK y
    · rw [if_pos c1, if_pos c2, nx, ny, rx, ry]
      show (FL x : Int) ≤ (FL y : Int)
      unfold FL
      have := Nat.div_le_div_right (c := 2 ^ 1074) (V_le h)
      omega
    · rw [if_neg c2] at h2; exact absurd h2 (by decide)
  · rw [if_neg c1] at h1; exact absurd h1 (by decide)

set_option maxRecDepth 100000 in
set_option maxHeartbeats 4000000 in
theorem order_walk (m n : Int) (K : Nat) (w : World) (hG : Globs w) (hT : GlobT K w) :
    Calls Tryz.prog 8 #[.int .i64 m, .int .i64 n] w fun e w' => e = .returned (.bool true) ∧ Below w.heap.size w w' := by
  have HW := Lib.hid (works_any K w hG hT)
  have HOI : Hid (∀ (k : Int) (W : World), Calls Tryz.prog 17 #[.int .i64 k] W fun e w' => e = .returned (.int .u64 (oiN k)) ∧ w' = W) := Lib.hid fun k W => ofint_any k W
  have HIN : Hid (∀ (x : Nat) (W : World), x < 18446744073709551616 → Calls Tryz.prog 15 #[.int .u64 x] W fun e w' => e = .returned (.tuple #[.int .i64 (intV x).1, .bool (intV x).2]) ∧ Below W.heap.size W w') := Lib.hid fun x W hx => int_any x W hx
  clear hG hT
  by_cases hneg : m < 0 ∨ n < 0
  · by_cases hm : m < 0
    · go_enter Tryz.func8, Tryz.ntmps8
      go_wp2_with fail
      refine HW.out.mono ?_
      rintro e w1 ⟨rfl, hb⟩
      go_wp2_with fail
      go_ret
      exact ⟨rfl, hb⟩
    · have hn : n < 0 := by omega
      go_enter Tryz.func8, Tryz.ntmps8
      go_wp2_with fail
      refine HW.out.mono ?_
      rintro e w1 ⟨rfl, hb⟩
      go_wp2_with fail
      go_ret
      exact ⟨rfl, hb⟩
  · have hm : ¬ m < 0 := fun h => hneg (.inl h)
    have hn : ¬ n < 0 := fun h => hneg (.inr h)
    clear hneg
    obtain ⟨a, rfl⟩ : ∃ a : Nat, m = a := ⟨m.toNat, by omega⟩
    obtain ⟨b, rfl⟩ : ∃ b : Nat, n = b := ⟨n.toNat, by omega⟩
    have la := oi_lt a
    have lb := oi_lt b
    have HLA : Hid (oiN a < 18446744073709551616) := Lib.hid (by unfold INF at la; omega)
    have HLB : Hid (oiN b < 18446744073709551616) := Lib.hid (by unfold INF at lb; omega)
    have HI1 := Lib.hid (fun W => HIN.out (oiN a) W HLA.out)
    have HI2 := Lib.hid (fun W => HIN.out (oiN b) W HLB.out)
    by_cases hab : a ≤ b
    · have hle := oi_le a b hab
      have hil := int_le _ _ lb hle
      have heq : ((b : Int) ≤ (a : Int)) → ¬ ((oiN a : Nat) : Int) < ((oiN b : Nat) : Int) := fun h => by
        have : a = b := by omega
        subst this; omega
      have hg1 : ¬ (((oiN b : Nat) : Int) < ((oiN a : Nat) : Int)) := by omega
      have O1 := Lib.hid (HOI.out a)
      have O2 := Lib.hid (HOI.out b)
      generalize oiN (a : Int) = x at *
      generalize oiN (b : Int) = y at *
      have hab1 : (a : Int) ≤ (b : Int) := by omega
      have hab2 : ¬ (b : Int) < (a : Int) := by omega
      rcases hix : intV x with ⟨x1, o1⟩
      rcases hiy : intV y with ⟨y1, o2⟩
      rw [hix] at hil HI1
      rw [hiy] at hil HI2
      clear hix hiy
      by_cases hba : (b : Int) ≤ (a : Int)
      · have h3 := heq hba
        clear heq hle la lb HLA HLB HIN HOI hab
        cases o1 <;> cases o2
        all_goals
          try (have hxy : x1 ≤ y1 := hil rfl rfl)
          clear hil
          go_enter Tryz.func8, Tryz.ntmps8
          go_wp2_with fail
          refine HW.out.mono ?_
          rintro e w1 ⟨rfl, hb1⟩
          have B1 := Lib.hid hb1
          clear hb1
          go_wp2_with fail
          refine (O1.out _).mono ?_
          rintro e w1 ⟨rfl, rfl⟩
          go_wp2_with fail
          refine (O2.out _).mono ?_
          rintro e w1 ⟨rfl, rfl⟩
          go_wp2_with fail
          refine (HI1.out _).mono ?_
          rintro e w2 ⟨rfl, hb2⟩
          have B2 := Lib.hid (B1.out.trans (hb2.mono B1.out.size))
          clear hb2
          go_wp2_with fail
          refine (HI2.out _).mono ?_
          rintro e w3 ⟨rfl, hb3⟩
          have B3 := Lib.hid (B2.out.trans (hb3.mono B2.out.size))
          clear hb3
          go_wp2_with fail
          go_ret
          exact ⟨rfl, B3.out⟩
      · clear heq hle la lb HLA HLB HIN HOI hab
        cases o1 <;> cases o2
        all_goals
          try (have hxy : x1 ≤ y1 := hil rfl rfl)
          clear hil
          go_enter Tryz.func8, Tryz.ntmps8
          go_wp2_with fail
          refine HW.out.mono ?_
          rintro e w1 ⟨rfl, hb1⟩
          have B1 := Lib.hid hb1
          clear hb1
          go_wp2_with fail
          refine (O1.out _).mono ?_
          rintro e w1 ⟨rfl, rfl⟩
          go_wp2_with fail
          refine (O2.out _).mono ?_
          rintro e w1 ⟨rfl, rfl⟩
          go_wp2_with fail
          refine (HI1.out _).mono ?_
          rintro e w2 ⟨rfl, hb2⟩
          have B2 := Lib.hid (B1.out.trans (hb2.mono B1.out.size))
          clear hb2
          go_wp2_with fail
          refine (HI2.out _).mono ?_
          rintro e w3 ⟨rfl, hb3⟩
          have B3 := Lib.hid (B2.out.trans (hb3.mono B2.out.size))
          clear hb3
          go_wp2_with fail
          go_ret
          exact ⟨rfl, B3.out⟩
    · have hle := oi_le b a (by omega)
      have hg1 : ¬ (((oiN a : Nat) : Int) < ((oiN b : Nat) : Int)) := by omega
      have O1 := Lib.hid (HOI.out a)
      have O2 := Lib.hid (HOI.out b)
      generalize oiN (a : Int) = x at *
      generalize oiN (b : Int) = y at *
      have hab1 : ¬ (a : Int) ≤ (b : Int) := by omega
      have hab2 : (b : Int) < (a : Int) := by omega
      have hab3 : (b : Int) ≤ (a : Int) := by omega
      rcases hix : intV x with ⟨x1, o1⟩
      rcases hiy : intV y with ⟨y1, o2⟩
      rw [hix] at HI1
      rw [hiy] at HI2
      clear hix hiy
      clear hle la lb HLA HLB HIN HOI hab
      cases o1 <;> cases o2
      all_goals
        go_enter Tryz.func8, Tryz.ntmps8
        go_wp2_with fail
        refine HW.out.mono ?_
        rintro e w1 ⟨rfl, hb1⟩
        have B1 := Lib.hid hb1
        clear hb1
        go_wp2_with fail
        refine (O1.out _).mono ?_
        rintro e w1 ⟨rfl, rfl⟩
        go_wp2_with fail
        refine (O2.out _).mono ?_
        rintro e w1 ⟨rfl, rfl⟩
        go_wp2_with fail
        refine (HI1.out _).mono ?_
        rintro e w2 ⟨rfl, hb2⟩
        have B2 := Lib.hid (B1.out.trans (hb2.mono B1.out.size))
        clear hb2
        go_wp2_with fail
        refine (HI2.out _).mono ?_
        rintro e w3 ⟨rfl, hb3⟩
        have B3 := Lib.hid (B2.out.trans (hb3.mono B2.out.size))
        clear hb3
        go_wp2_with fail
        go_ret
        exact ⟨rfl, B3.out⟩
end Go.Proofs.YtmhagigokgklaaaGreatDoor
