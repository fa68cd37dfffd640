/- Joined texts: Vc Vd Vh Vi Ve. Each begins with its own remark. -/
import Derived.Test.YtckaoeloofbklaaGreatDoorWe
import Derived.Test.YtckaoeloofbklaaGreatDoorWShelf
import Derived.Lib.RabinKarpLaws
import Derived.Lib.ItoaMem
set_option maxRecDepth 100000
set_option maxHeartbeats 4000000
namespace Go.Proofs.YtckaoeloofbklaaGreatDoor
open Go Go.RowKit
theorem or_one (a : Nat) : a ||| 1 = 2 * (a / 2) + 1 := by
 have h := Nat.div_add_mod (a ||| 1) 2
 rw [Nat.or_div_two, Nat.or_mod_two_eq_one.2 (.inr rfl)] at h
 simpa using h.symm
theorem shl_back (H s : Nat) : (H / 2 ^ s * 2 ^ s = H) ↔ H % 2 ^ s = 0 := by
 have h := Nat.div_add_mod H (2 ^ s)
 rw [Nat.mul_comm] at h
 omega
def uscR (H mid m2 S : Nat) : Nat :=
 if H % S = 0 then
  let H' := if mid < m2 then H - 1 else H
  if 1 < (mid + 18446744073709551616 - m2) % 18446744073709551616 then 2 * (H' / S / 2) + 1 else H' / S
 else 2 * (H / S / 2) + 1
theorem uscN_R (x hi lo S : Nat) : uscN x hi lo S = uscR (x * hi / 18446744073709551616) (x * hi % 18446744073709551616) (x * lo / 18446744073709551616) S := rfl
theorem and_63 : ∀ s : Fin 64, bits BinOp.and IntKind.i64 (s.val : Int) 63 = (s.val : Int) := by decide +kernel
theorem uscale_at (b x hi lo s : Nat) (w : World) (hx : x < 18446744073709551616) (hhi : hi < 18446744073709551616) (hlo : lo < 18446744073709551616) (hge : lo ≤ hi * 18446744073709551616) (hs : s < 64)
  (c0 : w.cell? ⟨b, 0, Option.none⟩ = some (.int .u64 hi)) (c1 : w.cell? ⟨b, 1, Option.none⟩ = some (.int .u64 lo)) (c2 : w.cell? ⟨b, 2, Option.none⟩ = some (.int .i64 s)) :
  Calls Tryz.prog 233 #[.int .u64 x, .pointer (some ⟨b, 0, Option.none⟩)] w fun e w' => e = .returned (.int .u64 (uscN x hi lo (2 ^ s) : Nat)) ∧ ∃ n, w' = w.drewN n := by
 have HM1 := Lib.hid (fun W : World => Tryz.bits_Mul64 x hi hx hhi W)
 have HM2 := Lib.hid (fun W : World => Tryz.bits_Mul64 x lo hx hlo W)
 have HB2 := Lib.hid b2u_any
 have HB3 := Lib.hid (fun b W => (b2u_any b W).mono fun _ w' (h : _ ∧ W = w') => (⟨h.1, h.2.symm⟩ : _ ∧ w' = W))
 have h1 : x * hi / 18446744073709551616 < 18446744073709551616 := by
  rw [Nat.div_lt_iff_lt_mul (by omega)]
  exact Nat.mul_lt_mul'' hx hhi
 have h2 : x * lo / 18446744073709551616 < 18446744073709551616 := by
  rw [Nat.div_lt_iff_lt_mul (by omega)]
  exact Nat.mul_lt_mul'' hx hlo
 have h3 : x * hi % 18446744073709551616 < 18446744073709551616 := Nat.mod_lt _ (by omega)
 have h4 : x * hi % 18446744073709551616 < x * lo / 18446744073709551616 → 1 ≤ x * hi / 18446744073709551616 := fun h => by
  have p0 : x * lo ≤ x * hi * 18446744073709551616 := by rw [Nat.mul_assoc]; exact Nat.mul_le_mul_left x hge
  generalize x * hi = P at *
  generalize x * lo = Q at *
  omega
 rw [uscN_R]
 generalize x * hi / 18446744073709551616 = H at *
 generalize x * hi % 18446744073709551616 = mid at *
 generalize x * lo / 18446744073709551616 = m2 at *
 generalize x * lo % 18446744073709551616 = low at *
 obtain ⟨U, hU⟩ : ∃ U, U = uscR H mid m2 (2 ^ s) := ⟨_, rfl⟩
 rw [← hU]
 have hand := and_63 ⟨s, hs⟩
 simp only at hand
 have hwr : IntKind.u64.wrap ((H : Int) / 2 ^ s * 2 ^ s) = ((H / 2 ^ s * 2 ^ s : Nat) : Int) := by
  have : H / 2 ^ s * 2 ^ s ≤ H := Nat.div_mul_le_self _ _
  rw [show ((H : Int) / 2 ^ s * 2 ^ s) = ((H / 2 ^ s * 2 ^ s : Nat) : Int) from by push_cast; rfl, IntKind.wrap_u64]
  omega
 by_cases h0 : H % 2 ^ s = 0
 ·have ht : (IntKind.u64.wrap ((H : Int) / 2 ^ s * 2 ^ s) != (H : Int)) = false := by
   rw [hwr, (shl_back H s).2 h0]; simp
  have HU : Hid (U = uscR H mid m2 (2 ^ s) ∧ H % 2 ^ s = 0) := Lib.hid ⟨hU, h0⟩
  have hδ : IntKind.u64.wrap ((mid : Int) - (m2 : Int)) = (((mid + 18446744073709551616 - m2) % 18446744073709551616 : Nat) : Int) := by rw [IntKind.wrap_u64]; omega
  obtain ⟨d, hd⟩ : ∃ d, d = (mid + 18446744073709551616 - m2) % 18446744073709551616 := ⟨_, rfl⟩
  rw [← hd] at hδ
  have HD := Lib.hid hd
  clear hU h0 hwr hd
  by_cases hlt : mid < m2
  ·have h5 := h4 hlt
   have hl1 : decide (mid < m2) = true := by simpa using hlt
   have hw1 : IntKind.u64.wrap ((H : Int) - 1) = ((H - 1 : Nat) : Int) := by rw [IntKind.wrap_u64]; omega
   have h6 : (H - 1) / 2 ^ s ≤ H - 1 := Nat.div_le_self _ _
   have hor : bits BinOp.or IntKind.u64 (((H - 1 : Nat) : Int) / 2 ^ s) 1 = ((2 * ((H - 1) / 2 ^ s / 2) + 1 : Nat) : Int) := by
    have := bits_or_u64_nat ((H - 1) / 2 ^ s) 1 (by omega) (by omega)
    rw [or_one] at this
    rw [← this]; push_cast; rfl
   have hor0 : bits BinOp.or IntKind.u64 (((H - 1 : Nat) : Int) / 2 ^ s) 0 = (((H - 1 : Nat) : Int) / 2 ^ s) := by
    have := bits_or_u64_nat ((H - 1) / 2 ^ s) 0 (by omega) (by omega)
    rw [Nat.or_zero] at this
    push_cast at this
    exact this
   have HLT := Lib.hid hlt
   obtain ⟨H1, hH1⟩ : ∃ H1, H1 = H - 1 := ⟨_, rfl⟩
   have HH1 := Lib.hid hH1
   rw [← hH1] at hw1 hor hor0
   have hH2 : H1 < 18446744073709551616 := by omega
   clear h4 hlt h6 hH1 h5
   by_cases hd1 : 1 < d
   ·have hd2 : decide ((1 : Int) < (d : Int)) = true := by rw [decide_eq_true_eq]; omega
    have hd3 : decide (1 < d) = true := by rw [decide_eq_true_eq]; omega
    have hUe : U = 2 * (H1 / 2 ^ s / 2) + 1 := by rw [HU.out.1]; unfold uscR; rw [if_pos HU.out.2]; simp only [if_pos HLT.out]; rw [← HD.out, if_pos hd1, HH1.out]
    have HUE := Lib.hid hUe
    clear hUe hd1
    go_enter Tryz.func233, Tryz.ntmps233
    go_wp2_with fail
    refine (HM1.out _).mono ?_
    rintro e w1 ⟨rfl, rfl⟩
    go_wp2_with fail
    refine (HM2.out _).mono ?_
    rintro e w1 ⟨rfl, rfl⟩
    go_wp2_with fail
    refine (HB2.out _ _).mono ?_
    rintro e w1 ⟨rfl, rfl⟩
    go_wp2_with fail
    go_quiet ((go_at_call 256; exact Calls.quiet_of_same (HB3.out _ _)))
    go_wp2_with fail
    go_ret
    exact ⟨ret_int (by rw [HUE.out]; push_cast; rfl), by first | exact ⟨_, rfl⟩ | exact ⟨_, by assumption⟩⟩
   ·have hd2 : decide ((1 : Int) < (d : Int)) = false := by rw [decide_eq_false_iff_not]; omega
    have hd3 : decide (1 < d) = false := by rw [decide_eq_false_iff_not]; omega
    have hUe : U = H1 / 2 ^ s := by rw [HU.out.1]; unfold uscR; rw [if_pos HU.out.2]; simp only [if_pos HLT.out]; rw [← HD.out, if_neg hd1, HH1.out]
    have HUE := Lib.hid hUe
    clear hUe hd1
    go_enter Tryz.func233, Tryz.ntmps233
    go_wp2_with fail
    refine (HM1.out _).mono ?_
    rintro e w1 ⟨rfl, rfl⟩
    go_wp2_with fail
    refine (HM2.out _).mono ?_
    rintro e w1 ⟨rfl, rfl⟩
    go_wp2_with fail
    refine (HB2.out _ _).mono ?_
    rintro e w1 ⟨rfl, rfl⟩
    go_wp2_with fail
    go_quiet ((go_at_call 256; exact Calls.quiet_of_same (HB3.out _ _)))
    go_wp2_with fail
    go_ret
    exact ⟨ret_int (by rw [HUE.out]; push_cast; rfl), by first | exact ⟨_, rfl⟩ | exact ⟨_, by assumption⟩⟩
  ·have hl1 : decide (mid < m2) = false := by simpa using hlt
   have h6 : H / 2 ^ s ≤ H := Nat.div_le_self _ _
   have hor : bits BinOp.or IntKind.u64 ((H : Int) / 2 ^ s) 1 = ((2 * (H / 2 ^ s / 2) + 1 : Nat) : Int) := by
    have := bits_or_u64_nat (H / 2 ^ s) 1 (by omega) (by omega)
    rw [or_one] at this
    rw [← this]; push_cast; rfl
   have hor0 : bits BinOp.or IntKind.u64 ((H : Int) / 2 ^ s) 0 = ((H : Int) / 2 ^ s) := by
    have := bits_or_u64_nat (H / 2 ^ s) 0 (by omega) (by omega)
    rw [Nat.or_zero] at this
    push_cast at this
    exact this
   have HLT := Lib.hid hlt
   clear h4 hlt h6
   by_cases hd1 : 1 < d
   ·have hd2 : decide ((1 : Int) < (d : Int)) = true := by rw [decide_eq_true_eq]; omega
    have hd3 : decide (1 < d) = true := by rw [decide_eq_true_eq]; omega
    have hUe : U = 2 * (H / 2 ^ s / 2) + 1 := by rw [HU.out.1]; unfold uscR; rw [if_pos HU.out.2]; simp only [if_neg HLT.out]; rw [← HD.out, if_pos hd1]
    have HUE := Lib.hid hUe
    clear hUe hd1
    go_enter Tryz.func233, Tryz.ntmps233
    go_wp2_with fail
    refine (HM1.out _).mono ?_
    rintro e w1 ⟨rfl, rfl⟩
    go_wp2_with fail
    refine (HM2.out _).mono ?_
    rintro e w1 ⟨rfl, rfl⟩
    go_wp2_with fail
    refine (HB2.out _ _).mono ?_
    rintro e w1 ⟨rfl, rfl⟩
    go_wp2_with fail
    go_quiet ((go_at_call 256; exact Calls.quiet_of_same (HB3.out _ _)))
    go_wp2_with fail
    go_ret
    exact ⟨ret_int (by rw [HUE.out]; push_cast; rfl), by first | exact ⟨_, rfl⟩ | exact ⟨_, by assumption⟩⟩
   ·have hd2 : decide ((1 : Int) < (d : Int)) = false := by rw [decide_eq_false_iff_not]; omega
    have hd3 : decide (1 < d) = false := by rw [decide_eq_false_iff_not]; omega
    have hUe : U = H / 2 ^ s := by rw [HU.out.1]; unfold uscR; rw [if_pos HU.out.2]; simp only [if_neg HLT.out]; rw [← HD.out, if_neg hd1]
    have HUE := Lib.hid hUe
    clear hUe hd1
    go_enter Tryz.func233, Tryz.ntmps233
    go_wp2_with fail
    refine (HM1.out _).mono ?_
    rintro e w1 ⟨rfl, rfl⟩
    go_wp2_with fail
    refine (HM2.out _).mono ?_
    rintro e w1 ⟨rfl, rfl⟩
    go_wp2_with fail
    refine (HB2.out _ _).mono ?_
    rintro e w1 ⟨rfl, rfl⟩
    go_wp2_with fail
    go_quiet ((go_at_call 256; exact Calls.quiet_of_same (HB3.out _ _)))
    go_wp2_with fail
    go_ret
    exact ⟨ret_int (by rw [HUE.out]; push_cast; rfl), by first | exact ⟨_, rfl⟩ | exact ⟨_, by assumption⟩⟩
 ·have ht : (IntKind.u64.wrap ((H : Int) / 2 ^ s * 2 ^ s) != (H : Int)) = true := by
   rw [hwr]
   simp only [bne_iff_ne, ne_eq]
   intro h
   exact h0 ((shl_back H s).1 (by exact_mod_cast h))
  have hor : bits BinOp.or IntKind.u64 ((H : Int) / 2 ^ s) 1 = ((2 * (H / 2 ^ s / 2) + 1 : Nat) : Int) := by
   have h5 : H / 2 ^ s ≤ H := Nat.div_le_self _ _
   have := bits_or_u64_nat (H / 2 ^ s) 1 (by omega) (by omega)
   rw [or_one] at this
   rw [← this]; push_cast; rfl
  have hUe : U = 2 * (H / 2 ^ s / 2) + 1 := by rw [hU]; unfold uscR; rw [if_neg h0]
  have HU := Lib.hid hUe
  clear hU h0 hwr hUe
  go_enter Tryz.func233, Tryz.ntmps233
  go_wp2_with fail
  refine (HM1.out _).mono ?_
  rintro e w1 ⟨rfl, rfl⟩
  go_wp2_with fail
  go_ret
  exact ⟨ret_int (by rw [HU.out]; push_cast; rfl), 0, rfl⟩
end Go.Proofs.YtckaoeloofbklaaGreatDoor
namespace Go.Proofs.YtckaoeloofbklaaGreatDoor
open Go Go.RowKit
theorem uscR_le (H mid m2 S : Nat) : uscR H mid m2 S ≤ H / S + 1 := by
 unfold uscR
 simp only
 have h1 : (H - 1) / S ≤ H / S := Nat.div_le_div_right (Nat.sub_le _ _)
 split
 ·split
  ·split <;> omega
  ·split <;> omega
 ·omega
def pick3 (dmin dmax u : Nat) (p : Int) : Nat × Int :=
 if dmin ≤ dmax / 10 * 10 then (dmax / 10, -(p - 1)) else if dmin < dmax then (u, -p) else (dmin, -p)
theorem c_fact1 (m P mn mx : Nat) (hP : P ≤ 4611686018427387904) (hn : (m : Int) - P = mn) (hx : (m : Int) + P = mx) (hmn : mn < 18446744073709551616) (hmx : mx < 18446744073709551616) :
  IntKind.u64.wrap ((m : Int) - IntKind.u64.wrap P) = (mn : Int) ∧ IntKind.u64.wrap ((m : Int) + IntKind.u64.wrap P) = (mx : Int) := by
 have hpu : IntKind.u64.wrap (P : Int) = P := by rw [IntKind.wrap_u64]; omega
 exact ⟨by rw [hpu, hn, IntKind.wrap_u64]; omega, by rw [hpu, hx, IntKind.wrap_u64]; omega⟩
theorem c_fact2 (Q od : Nat) (hQ : Q < 9223372036854775808) (ho : Q % 2 = od) : bits BinOp.and IntKind.i64 (wrap64 (Q : Int)) 1 = (od : Int) := by
 have h3 : wrap64 (Q : Int) = (Q : Int) := by unfold wrap64; omega
 rw [h3]
 have := Go.Proofs.and_one Q hQ
 rwa [ho] at this
theorem c_facts (m z mn mx od : Nat) (hm2 : m < 18446744073709551616) (hz1 : 12 ≤ z) (hz2 : z ≤ 63) (hn : (m : Int) - 2 ^ (z - 1) = mn) (hx : (m : Int) + 2 ^ (z - 1) = mx) (ho : m / 2 ^ z % 2 = od) (hmn : mn < 18446744073709551616) (hmx : mx < 18446744073709551616) :
  IntKind.u64.wrap ((m : Int) - IntKind.u64.wrap (2 ^ (z - 1))) = (mn : Int) ∧ IntKind.u64.wrap ((m : Int) + IntKind.u64.wrap (2 ^ (z - 1))) = (mx : Int) ∧ bits BinOp.and IntKind.i64 (wrap64 ((m : Int) / 2 ^ z)) 1 = (od : Int) := by
 have hpl : 2 ^ (z - 1) ≤ 2 ^ 62 := Nat.pow_le_pow_right (by decide) (show z - 1 ≤ 62 by omega)
 have hpw : (2 : Int) ^ (z - 1) = ((2 ^ (z - 1) : Nat) : Int) := by push_cast; rfl
 have hQ : (m : Int) / 2 ^ z = ((m / 2 ^ z : Nat) : Int) := by push_cast; rfl
 have h0 : 2 ^ 12 ≤ 2 ^ z := Nat.pow_le_pow_right (by decide) hz1
 have h1 : m / 2 ^ z ≤ m / 2 ^ 12 := Nat.div_le_div_left h0 (by decide)
 have h2 : m / 2 ^ z < 9223372036854775808 := Nat.lt_of_le_of_lt h1 (by clear hn hx ho hQ h0 h1 hpl hpw; omega)
 rw [hpw] at hn hx ⊢
 rw [hQ]
 obtain ⟨a, b⟩ := c_fact1 m _ mn mx hpl hn hx hmn hmx
 exact ⟨a, b, c_fact2 _ _ h2 ho⟩
theorem short_B (m mn mx i s U1 U2 U3 od : Nat) (w : World) (hg : Glob w) (e : Int) (hm1 : 9223372036854775808 < m) (hm2 : m < 18446744073709551616) (he1 : -1085 ≤ e) (he2 : e ≤ 1000) (hn : (m : Int) - 1024 = mn) (hx : (m : Int) + 1024 = mx) (hp : -l10N (e + 11) = (i : Int) - 348) (ho : m / 2048 % 2 = od) (hss : -(e + lpN ((i : Int) - 348) + 3) = (s : Int))
  (hmn : mn < 18446744073709551616) (hmx : mx < 18446744073709551616) (hi : i < 696) (hod : od ≤ 1) (hs : s < 64)
  (hU1 : uscN mn (hiN i) (loN i) (2 ^ s) = U1) (hU2 : uscN mx (hiN i) (loN i) (2 ^ s) = U2)
  (hU3 : uscN m (hiN i) (loN i) (2 ^ s) = U3) (hb1 : U1 < 4611686018427387904) (hb2 : U2 < 4611686018427387904) (hb3 : U3 < 4611686018427387904) (hb4 : 1 ≤ U2) :
  Calls Tryz.prog 217 #[.int .u64 m, .int .i64 e] w fun e' w' =>
   e' = .returned (.tuple #[.int .u64 ((pick3 ((U1 + od + 3) / 4) ((U2 - od) / 4) ((U3 + 1 + U3 / 4 % 2) / 4) ((i : Int) - 348)).1 : Nat), .int .i64 (pick3 ((U1 + od + 3) / 4) ((U2 - od) / 4) ((U3 + 1 + U3 / 4 % 2) / 4) ((i : Int) - 348)).2]) ∧ Below w.heap.size w w' := by
 obtain ⟨hhi, hlo, hrow⟩ := row_is ((i : Int) - 348) (by omega) (by omega)
 rw [show ((i : Int) - 348 + 348).toNat = i from by omega] at hhi hlo hrow
 have hge : loN i ≤ hiN i * 18446744073709551616 := by omega
 have HUS := Lib.hid (fun (x : Nat) (hx : x < 18446744073709551616) (W : World) (b : Nat) (c0 : W.cell? ⟨b, 0, Option.none⟩ = some (.int .u64 (hiN i))) (c1 : W.cell? ⟨b, 1, Option.none⟩ = some (.int .u64 (loN i))) (c2 : W.cell? ⟨b, 2, Option.none⟩ = some (.int .i64 s)) => uscale_at b x (hiN i) (loN i) s W hx hhi hlo hge hs c0 c1 c2)
 have hlp : -5000 ≤ lpN ((i : Int) - 348) ∧ lpN ((i : Int) - 348) ≤ 5000 := by unfold lpN; omega
 have hga : Glob (w.alloc (.cells #[.int .u64 0, .int .u64 0, .int .i64 0] 245)) := hg.alloc _
 have hlt17 := hg.lt
 have HPR := Lib.hid (prescale_at w.heap.size i e (lpN ((i : Int) - 348)) 245 (.int .u64 0) (.int .u64 0) (.int .i64 0) (w.alloc (.cells #[.int .u64 0, .int .u64 0, .int .i64 0] 245)) hga (heap_alloc_new _ _) hlt17 hi (by omega) (by omega) hlp.1 hlp.2)
 have hmq : ((m : Int) == 9223372036854775808) = false := by simp; omega
 have heq : decide (-1085 ≤ e) = true := by simpa using he1
 have hodd : bits BinOp.and IntKind.i64 ((m : Int) / 2048) 1 = (od : Int) := by
  have := Go.Proofs.and_one (m / 2048) (by omega)
  rw [ho] at this
  rw [← this]; push_cast; rfl
 clear ho
 have HSS := Lib.hid hss
 have HU1 := Lib.hid hU1
 have HU2 := Lib.hid hU2
 have HU3 := Lib.hid hU3
 clear hga hlt17 hrow hge hss hU1 hU2 hU3 hg hlo hhi
 go_enter Tryz.func217, Tryz.ntmps217
 go_wp2_with fail
 refine (l10_any _ _ (by omega) (by omega)).mono ?_
 rintro e' w' ⟨rfl, rfl⟩
 go_wp2_with fail
 refine (l2p_any _ _ (by omega) (by omega)).mono ?_
 rintro e' w' ⟨rfl, rfl⟩
 go_wp2_with fail
 refine HPR.out.mono ?_
 rintro e' w2 ⟨rfl, hc2, hb2', hz2⟩
 rw [HSS.out] at hc2
 have k0 : ∀ n, (w2.drewN n).cell? ⟨w.heap.size, 0, Option.none⟩ = some (.int .u64 (hiN i)) := fun n => cell_of_row (w2.drewN n) w.heap.size 0 _ _ _ hc2
 have k1 : ∀ n, (w2.drewN n).cell? ⟨w.heap.size, 1, Option.none⟩ = some (.int .u64 (loN i)) := fun n => cell_of_row (w2.drewN n) w.heap.size 1 _ _ _ hc2
 have k2 : ∀ n, (w2.drewN n).cell? ⟨w.heap.size, 2, Option.none⟩ = some (.int .i64 s) := fun n => cell_of_row (w2.drewN n) w.heap.size 2 _ _ _ hc2
 have hbw : Below w.heap.size w w2 := ((Below.refl _ _).alloc (Nat.le_refl _) _).trans hb2'
 have HK0 := Lib.hid k0
 have HK1 := Lib.hid k1
 have HK2 := Lib.hid k2
 have HBW := Lib.hid hbw
 clear hc2 hb2' hz2 k0 k1 k2 hbw
 go_wp2_with fail
 refine (HUS.out mn hmn w2 w.heap.size (HK0.out 0) (HK1.out 0) (HK2.out 0)).mono ?_
 rintro e' w3 ⟨rfl, n3, rfl⟩
 rw [HU1.out]
 go_wp2_with fail
 refine (nudge_any U1 od _ (by omega) (by omega) (by omega) (by omega)).mono ?_
 rintro e' w' ⟨rfl, rfl⟩
 rw [show (U1 : Int) + (od : Int) = ((U1 + od : Nat) : Int) from by push_cast; rfl]
 go_wp2_with fail
 refine (ceil_any (U1 + od) _ (by omega)).mono ?_
 rintro e' w' ⟨rfl, rfl⟩
 obtain ⟨dmin, hdmin⟩ : ∃ d, d = (U1 + od + 3) / 4 := ⟨_, rfl⟩
 rw [← hdmin]
 have hdn : dmin ≤ 2305843009213693952 := by omega
 have HDN := Lib.hid hdmin
 clear hdmin
 go_wp2_with fail
 refine (HUS.out mx hmx _ w.heap.size (HK0.out n3) (HK1.out n3) (HK2.out n3)).mono ?_
 rintro e' w4 ⟨rfl, n4, rfl⟩
 rw [HU2.out]
 rw [World.drewN_drewN]
 go_wp2_with fail
 refine (nudge_any U2 (-(od : Int)) _ (by omega) (by omega) (by omega) (by omega)).mono ?_
 rintro e' w' ⟨rfl, rfl⟩
 rw [show (U2 : Int) + -(od : Int) = ((U2 - od : Nat) : Int) from by omega]
 go_wp2_with fail
 refine (floor_any (U2 - od) _ (by omega)).mono ?_
 rintro e' w' ⟨rfl, rfl⟩
 obtain ⟨dmax, hdmax⟩ : ∃ d, d = (U2 - od) / 4 := ⟨_, rfl⟩
 rw [← hdmax]
 have hdx : dmax ≤ 2305843009213693952 := by omega
 have HDX := Lib.hid hdmax
 clear hdmax
 have hm10 : IntKind.u64.wrap ((dmax : Int) / 10 * 10) = ((dmax / 10 * 10 : Nat) : Int) := by rw [IntKind.wrap_u64]; omega
 by_cases h1 : dmin ≤ dmax / 10 * 10
 ·have hi1 : decide ((dmin : Int) ≤ (dmax : Int) / 10 * 10) = true := by rw [decide_eq_true_eq]; omega
  have hi2 : decide (dmin ≤ dmax / 10 * 10) = true := by rw [decide_eq_true_eq]; omega
  have HF : Hid (pick3 dmin dmax ((U3 + 1 + U3 / 4 % 2) / 4) ((i : Int) - 348) = (dmax / 10, -((i : Int) - 348 - 1))) := Lib.hid (by unfold pick3; rw [if_pos h1])
  clear h1
  go_wp2_with fail
  refine bodyPost_ret (v := .tuple #[.int .u64 ((dmax : Int) / 10), .int .i64 (-((i : Int) - 348 - 1))]) (by simp [results, Tryz.results217, go_sem]) rfl ⟨?_, bDrewN HBW.out _⟩
  rw [← HDN.out, ← HDX.out, HF.out]
  push_cast
  rfl
 ·have hi1 : decide ((dmin : Int) ≤ (dmax : Int) / 10 * 10) = false := by rw [decide_eq_false_iff_not]; omega
  have hi2 : decide (dmin ≤ dmax / 10 * 10) = false := by rw [decide_eq_false_iff_not]; omega
  by_cases h2 : dmin < dmax
  ·have hi3 : decide (dmin < dmax) = true := by rw [decide_eq_true_eq]; omega
   have HF : Hid (pick3 dmin dmax ((U3 + 1 + U3 / 4 % 2) / 4) ((i : Int) - 348) = ((U3 + 1 + U3 / 4 % 2) / 4, -((i : Int) - 348))) := Lib.hid (by unfold pick3; rw [if_neg h1, if_pos h2])
   clear h1 h2
   go_wp2_with fail
   refine (HUS.out m (by omega) _ w.heap.size (HK0.out _) (HK1.out _) (HK2.out _)).mono ?_
   rintro e' w5 ⟨rfl, n5, rfl⟩
   rw [HU3.out, World.drewN_drewN]
   go_wp2_with fail
   refine (round_any U3 _ (by omega)).mono ?_
   rintro e' w' ⟨rfl, rfl⟩
   obtain ⟨d3, hd3⟩ : ∃ d, d = (U3 + 1 + U3 / 4 % 2) / 4 := ⟨_, rfl⟩
   rw [← hd3]
   have HD3 := Lib.hid hd3
   clear hd3
   go_wp2_with fail
   refine bodyPost_ret (v := .tuple #[.int .u64 (d3 : Int), .int .i64 (-((i : Int) - 348))]) (by simp [results, Tryz.results217, go_sem]) rfl ⟨?_, bDrewN HBW.out _⟩
   rw [← HDN.out, ← HDX.out, HF.out, ← HD3.out]
  ·have hi3 : decide (dmin < dmax) = false := by rw [decide_eq_false_iff_not]; omega
   have HF : Hid (pick3 dmin dmax ((U3 + 1 + U3 / 4 % 2) / 4) ((i : Int) - 348) = (dmin, -((i : Int) - 348))) := Lib.hid (by unfold pick3; rw [if_neg h1, if_neg h2])
   clear h1 h2
   go_wp2_with fail
   refine bodyPost_ret (v := .tuple #[.int .u64 (dmin : Int), .int .i64 (-((i : Int) - 348))]) (by simp [results, Tryz.results217, go_sem]) rfl ⟨?_, bDrewN HBW.out _⟩
   rw [← HDN.out, ← HDX.out, HF.out]
theorem short_A (mn mx i s U1 U2 U3 od : Nat) (w : World) (hg : Glob w) (e : Int) (he1 : -1085 < e) (he2 : e ≤ 1000) (hn : mn = 9223372036854775296) (hx : mx = 9223372036854776832) (hp : -skwN (e + 11) = (i : Int) - 348) (ho : od = 0) (hss : -(e + lpN ((i : Int) - 348) + 3) = (s : Int))
  (hmn : mn < 18446744073709551616) (hmx : mx < 18446744073709551616) (hi : i < 696) (hod : od ≤ 1) (hs : s < 64)
  (hU1 : uscN mn (hiN i) (loN i) (2 ^ s) = U1) (hU2 : uscN mx (hiN i) (loN i) (2 ^ s) = U2)
  (hU3 : uscN 9223372036854775808 (hiN i) (loN i) (2 ^ s) = U3) (hb1 : U1 < 4611686018427387904) (hb2 : U2 < 4611686018427387904) (hb3 : U3 < 4611686018427387904) (hb4 : 1 ≤ U2) :
  Calls Tryz.prog 217 #[.int .u64 9223372036854775808, .int .i64 e] w fun e' w' =>
   e' = .returned (.tuple #[.int .u64 ((pick3 ((U1 + od + 3) / 4) ((U2 - od) / 4) ((U3 + 1 + U3 / 4 % 2) / 4) ((i : Int) - 348)).1 : Nat), .int .i64 (pick3 ((U1 + od + 3) / 4) ((U2 - od) / 4) ((U3 + 1 + U3 / 4 % 2) / 4) ((i : Int) - 348)).2]) ∧ Below w.heap.size w w' := by
 obtain ⟨hhi, hlo, hrow⟩ := row_is ((i : Int) - 348) (by omega) (by omega)
 rw [show ((i : Int) - 348 + 348).toNat = i from by omega] at hhi hlo hrow
 have hge : loN i ≤ hiN i * 18446744073709551616 := by omega
 have HUS := Lib.hid (fun (x : Nat) (hx : x < 18446744073709551616) (W : World) (b : Nat) (c0 : W.cell? ⟨b, 0, Option.none⟩ = some (.int .u64 (hiN i))) (c1 : W.cell? ⟨b, 1, Option.none⟩ = some (.int .u64 (loN i))) (c2 : W.cell? ⟨b, 2, Option.none⟩ = some (.int .i64 s)) => uscale_at b x (hiN i) (loN i) s W hx hhi hlo hge hs c0 c1 c2)
 have hlp : -5000 ≤ lpN ((i : Int) - 348) ∧ lpN ((i : Int) - 348) ≤ 5000 := by unfold lpN; omega
 have hga : Glob (w.alloc (.cells #[.int .u64 0, .int .u64 0, .int .i64 0] 245)) := hg.alloc _
 have hlt17 := hg.lt
 have HPR := Lib.hid (prescale_at w.heap.size i e (lpN ((i : Int) - 348)) 245 (.int .u64 0) (.int .u64 0) (.int .i64 0) (w.alloc (.cells #[.int .u64 0, .int .u64 0, .int .i64 0] 245)) hga (heap_alloc_new _ _) hlt17 hi (by omega) (by omega) hlp.1 hlp.2)
 have hn' : (9223372036854775296 : Int) = (mn : Int) := by omega
 have hx' : (9223372036854776832 : Int) = (mx : Int) := by omega
 have hodd : bits BinOp.and IntKind.i64 4503599627370496 1 = (od : Int) := by rw [ho]; decide +kernel
 clear ho hn hx
 have HSS := Lib.hid hss
 have HU1 := Lib.hid hU1
 have HU2 := Lib.hid hU2
 have HU3 := Lib.hid hU3
 clear hga hlt17 hrow hge hss hU1 hU2 hU3 hg hlo hhi
 go_enter Tryz.func217, Tryz.ntmps217
 go_wp2_with fail
 refine (skewed_any _ _ (by omega) (by omega)).mono ?_
 rintro e' w' ⟨rfl, rfl⟩
 go_wp2_with fail
 refine (l2p_any _ _ (by omega) (by omega)).mono ?_
 rintro e' w' ⟨rfl, rfl⟩
 go_wp2_with fail
 refine HPR.out.mono ?_
 rintro e' w2 ⟨rfl, hc2, hb2', hz2⟩
 rw [HSS.out] at hc2
 have k0 : ∀ n, (w2.drewN n).cell? ⟨w.heap.size, 0, Option.none⟩ = some (.int .u64 (hiN i)) := fun n => cell_of_row (w2.drewN n) w.heap.size 0 _ _ _ hc2
 have k1 : ∀ n, (w2.drewN n).cell? ⟨w.heap.size, 1, Option.none⟩ = some (.int .u64 (loN i)) := fun n => cell_of_row (w2.drewN n) w.heap.size 1 _ _ _ hc2
 have k2 : ∀ n, (w2.drewN n).cell? ⟨w.heap.size, 2, Option.none⟩ = some (.int .i64 s) := fun n => cell_of_row (w2.drewN n) w.heap.size 2 _ _ _ hc2
 have hbw : Below w.heap.size w w2 := ((Below.refl _ _).alloc (Nat.le_refl _) _).trans hb2'
 have HK0 := Lib.hid k0
 have HK1 := Lib.hid k1
 have HK2 := Lib.hid k2
 have HBW := Lib.hid hbw
 clear hc2 hb2' hz2 k0 k1 k2 hbw
 go_wp2_with fail
 refine (HUS.out mn hmn w2 w.heap.size (HK0.out 0) (HK1.out 0) (HK2.out 0)).mono ?_
 rintro e' w3 ⟨rfl, n3, rfl⟩
 rw [HU1.out]
 go_wp2_with fail
 refine (nudge_any U1 od _ (by omega) (by omega) (by omega) (by omega)).mono ?_
 rintro e' w' ⟨rfl, rfl⟩
 rw [show (U1 : Int) + (od : Int) = ((U1 + od : Nat) : Int) from by push_cast; rfl]
 go_wp2_with fail
 refine (ceil_any (U1 + od) _ (by omega)).mono ?_
 rintro e' w' ⟨rfl, rfl⟩
 obtain ⟨dmin, hdmin⟩ : ∃ d, d = (U1 + od + 3) / 4 := ⟨_, rfl⟩
 rw [← hdmin]
 have hdn : dmin ≤ 2305843009213693952 := by omega
 have HDN := Lib.hid hdmin
 clear hdmin
 go_wp2_with fail
 refine (HUS.out mx hmx _ w.heap.size (HK0.out n3) (HK1.out n3) (HK2.out n3)).mono ?_
 rintro e' w4 ⟨rfl, n4, rfl⟩
 rw [HU2.out]
 rw [World.drewN_drewN]
 go_wp2_with fail
 refine (nudge_any U2 (-(od : Int)) _ (by omega) (by omega) (by omega) (by omega)).mono ?_
 rintro e' w' ⟨rfl, rfl⟩
 rw [show (U2 : Int) + -(od : Int) = ((U2 - od : Nat) : Int) from by omega]
 go_wp2_with fail
 refine (floor_any (U2 - od) _ (by omega)).mono ?_
 rintro e' w' ⟨rfl, rfl⟩
 obtain ⟨dmax, hdmax⟩ : ∃ d, d = (U2 - od) / 4 := ⟨_, rfl⟩
 rw [← hdmax]
 have hdx : dmax ≤ 2305843009213693952 := by omega
 have HDX := Lib.hid hdmax
 clear hdmax
 have hm10 : IntKind.u64.wrap ((dmax : Int) / 10 * 10) = ((dmax / 10 * 10 : Nat) : Int) := by rw [IntKind.wrap_u64]; omega
 by_cases h1 : dmin ≤ dmax / 10 * 10
 ·have hi1 : decide ((dmin : Int) ≤ (dmax : Int) / 10 * 10) = true := by rw [decide_eq_true_eq]; omega
  have hi2 : decide (dmin ≤ dmax / 10 * 10) = true := by rw [decide_eq_true_eq]; omega
  have HF : Hid (pick3 dmin dmax ((U3 + 1 + U3 / 4 % 2) / 4) ((i : Int) - 348) = (dmax / 10, -((i : Int) - 348 - 1))) := Lib.hid (by unfold pick3; rw [if_pos h1])
  clear h1
  go_wp2_with fail
  refine bodyPost_ret (v := .tuple #[.int .u64 ((dmax : Int) / 10), .int .i64 (-((i : Int) - 348 - 1))]) (by simp [results, Tryz.results217, go_sem]) rfl ⟨?_, bDrewN HBW.out _⟩
  rw [← HDN.out, ← HDX.out, HF.out]
  push_cast
  rfl
 ·have hi1 : decide ((dmin : Int) ≤ (dmax : Int) / 10 * 10) = false := by rw [decide_eq_false_iff_not]; omega
  have hi2 : decide (dmin ≤ dmax / 10 * 10) = false := by rw [decide_eq_false_iff_not]; omega
  by_cases h2 : dmin < dmax
  ·have hi3 : decide (dmin < dmax) = true := by rw [decide_eq_true_eq]; omega
   have HF : Hid (pick3 dmin dmax ((U3 + 1 + U3 / 4 % 2) / 4) ((i : Int) - 348) = ((U3 + 1 + U3 / 4 % 2) / 4, -((i : Int) - 348))) := Lib.hid (by unfold pick3; rw [if_neg h1, if_pos h2])
   clear h1 h2
   go_wp2_with fail
   refine (HUS.out 9223372036854775808 (by omega) _ w.heap.size (HK0.out _) (HK1.out _) (HK2.out _)).mono ?_
   rintro e' w5 ⟨rfl, n5, rfl⟩
   rw [HU3.out, World.drewN_drewN]
   go_wp2_with fail
   refine (round_any U3 _ (by omega)).mono ?_
   rintro e' w' ⟨rfl, rfl⟩
   obtain ⟨d3, hd3⟩ : ∃ d, d = (U3 + 1 + U3 / 4 % 2) / 4 := ⟨_, rfl⟩
   rw [← hd3]
   have HD3 := Lib.hid hd3
   clear hd3
   go_wp2_with fail
   refine bodyPost_ret (v := .tuple #[.int .u64 (d3 : Int), .int .i64 (-((i : Int) - 348))]) (by simp [results, Tryz.results217, go_sem]) rfl ⟨?_, bDrewN HBW.out _⟩
   rw [← HDN.out, ← HDX.out, HF.out, ← HD3.out]
  ·have hi3 : decide (dmin < dmax) = false := by rw [decide_eq_false_iff_not]; omega
   have HF : Hid (pick3 dmin dmax ((U3 + 1 + U3 / 4 % 2) / 4) ((i : Int) - 348) = (dmin, -((i : Int) - 348))) := Lib.hid (by unfold pick3; rw [if_neg h1, if_neg h2])
   clear h1 h2
   go_wp2_with fail
   refine bodyPost_ret (v := .tuple #[.int .u64 (dmin : Int), .int .i64 (-((i : Int) - 348))]) (by simp [results, Tryz.results217, go_sem]) rfl ⟨?_, bDrewN HBW.out _⟩
   rw [← HDN.out, ← HDX.out, HF.out]
theorem short_B1 (mn mx i s U1 U2 U3 od : Nat) (w : World) (hg : Glob w) (e : Int) (he : e = -1085) (hn : mn = 9223372036854774784) (hx : mx = 9223372036854776832) (hp : -l10N (e + 11) = (i : Int) - 348) (ho : od = 0) (hss : -(e + lpN ((i : Int) - 348) + 3) = (s : Int))
  (hmn : mn < 18446744073709551616) (hmx : mx < 18446744073709551616) (hi : i < 696) (hod : od ≤ 1) (hs : s < 64)
  (hU1 : uscN mn (hiN i) (loN i) (2 ^ s) = U1) (hU2 : uscN mx (hiN i) (loN i) (2 ^ s) = U2)
  (hU3 : uscN 9223372036854775808 (hiN i) (loN i) (2 ^ s) = U3) (hb1 : U1 < 4611686018427387904) (hb2 : U2 < 4611686018427387904) (hb3 : U3 < 4611686018427387904) (hb4 : 1 ≤ U2) :
  Calls Tryz.prog 217 #[.int .u64 9223372036854775808, .int .i64 e] w fun e' w' =>
   e' = .returned (.tuple #[.int .u64 ((pick3 ((U1 + od + 3) / 4) ((U2 - od) / 4) ((U3 + 1 + U3 / 4 % 2) / 4) ((i : Int) - 348)).1 : Nat), .int .i64 (pick3 ((U1 + od + 3) / 4) ((U2 - od) / 4) ((U3 + 1 + U3 / 4 % 2) / 4) ((i : Int) - 348)).2]) ∧ Below w.heap.size w w' := by
 obtain ⟨hhi, hlo, hrow⟩ := row_is ((i : Int) - 348) (by omega) (by omega)
 rw [show ((i : Int) - 348 + 348).toNat = i from by omega] at hhi hlo hrow
 have hge : loN i ≤ hiN i * 18446744073709551616 := by omega
 have HUS := Lib.hid (fun (x : Nat) (hx : x < 18446744073709551616) (W : World) (b : Nat) (c0 : W.cell? ⟨b, 0, Option.none⟩ = some (.int .u64 (hiN i))) (c1 : W.cell? ⟨b, 1, Option.none⟩ = some (.int .u64 (loN i))) (c2 : W.cell? ⟨b, 2, Option.none⟩ = some (.int .i64 s)) => uscale_at b x (hiN i) (loN i) s W hx hhi hlo hge hs c0 c1 c2)
 have hlp : -5000 ≤ lpN ((i : Int) - 348) ∧ lpN ((i : Int) - 348) ≤ 5000 := by unfold lpN; omega
 have hga : Glob (w.alloc (.cells #[.int .u64 0, .int .u64 0, .int .i64 0] 245)) := hg.alloc _
 have hlt17 := hg.lt
 have HPR := Lib.hid (prescale_at w.heap.size i e (lpN ((i : Int) - 348)) 245 (.int .u64 0) (.int .u64 0) (.int .i64 0) (w.alloc (.cells #[.int .u64 0, .int .u64 0, .int .i64 0] 245)) hga (heap_alloc_new _ _) hlt17 hi (by omega) (by omega) hlp.1 hlp.2)
 have hn' : (9223372036854774784 : Int) = (mn : Int) := by omega
 have hx' : (9223372036854776832 : Int) = (mx : Int) := by omega
 have hgt : decide (-1085 < e) = false := by simp; omega
 have heq : decide (-1085 ≤ e) = true := by simp; omega
 have hodd : bits BinOp.and IntKind.i64 4503599627370496 1 = (od : Int) := by rw [ho]; decide +kernel
 have he1 : -1085 ≤ e := by omega
 have he2 : e ≤ -1085 := by omega
 clear ho hn hx he
 have HSS := Lib.hid hss
 have HU1 := Lib.hid hU1
 have HU2 := Lib.hid hU2
 have HU3 := Lib.hid hU3
 clear hga hlt17 hrow hge hss hU1 hU2 hU3 hg hlo hhi
 go_enter Tryz.func217, Tryz.ntmps217
 go_wp2_with fail
 refine (l10_any _ _ (by omega) (by omega)).mono ?_
 rintro e' w' ⟨rfl, rfl⟩
 go_wp2_with fail
 refine (l2p_any _ _ (by omega) (by omega)).mono ?_
 rintro e' w' ⟨rfl, rfl⟩
 go_wp2_with fail
 refine HPR.out.mono ?_
 rintro e' w2 ⟨rfl, hc2, hb2', hz2⟩
 rw [HSS.out] at hc2
 have k0 : ∀ n, (w2.drewN n).cell? ⟨w.heap.size, 0, Option.none⟩ = some (.int .u64 (hiN i)) := fun n => cell_of_row (w2.drewN n) w.heap.size 0 _ _ _ hc2
 have k1 : ∀ n, (w2.drewN n).cell? ⟨w.heap.size, 1, Option.none⟩ = some (.int .u64 (loN i)) := fun n => cell_of_row (w2.drewN n) w.heap.size 1 _ _ _ hc2
 have k2 : ∀ n, (w2.drewN n).cell? ⟨w.heap.size, 2, Option.none⟩ = some (.int .i64 s) := fun n => cell_of_row (w2.drewN n) w.heap.size 2 _ _ _ hc2
 have hbw : Below w.heap.size w w2 := ((Below.refl _ _).alloc (Nat.le_refl _) _).trans hb2'
 have HK0 := Lib.hid k0
 have HK1 := Lib.hid k1
 have HK2 := Lib.hid k2
 have HBW := Lib.hid hbw
 clear hc2 hb2' hz2 k0 k1 k2 hbw
 go_wp2_with fail
 refine (HUS.out mn hmn w2 w.heap.size (HK0.out 0) (HK1.out 0) (HK2.out 0)).mono ?_
 rintro e' w3 ⟨rfl, n3, rfl⟩
 rw [HU1.out]
 go_wp2_with fail
 refine (nudge_any U1 od _ (by omega) (by omega) (by omega) (by omega)).mono ?_
 rintro e' w' ⟨rfl, rfl⟩
 rw [show (U1 : Int) + (od : Int) = ((U1 + od : Nat) : Int) from by push_cast; rfl]
 go_wp2_with fail
 refine (ceil_any (U1 + od) _ (by omega)).mono ?_
 rintro e' w' ⟨rfl, rfl⟩
 obtain ⟨dmin, hdmin⟩ : ∃ d, d = (U1 + od + 3) / 4 := ⟨_, rfl⟩
 rw [← hdmin]
 have hdn : dmin ≤ 2305843009213693952 := by omega
 have HDN := Lib.hid hdmin
 clear hdmin
 go_wp2_with fail
 refine (HUS.out mx hmx _ w.heap.size (HK0.out n3) (HK1.out n3) (HK2.out n3)).mono ?_
 rintro e' w4 ⟨rfl, n4, rfl⟩
 rw [HU2.out]
 rw [World.drewN_drewN]
 go_wp2_with fail
 refine (nudge_any U2 (-(od : Int)) _ (by omega) (by omega) (by omega) (by omega)).mono ?_
 rintro e' w' ⟨rfl, rfl⟩
 rw [show (U2 : Int) + -(od : Int) = ((U2 - od : Nat) : Int) from by omega]
 go_wp2_with fail
 refine (floor_any (U2 - od) _ (by omega)).mono ?_
 rintro e' w' ⟨rfl, rfl⟩
 obtain ⟨dmax, hdmax⟩ : ∃ d, d = (U2 - od) / 4 := ⟨_, rfl⟩
 rw [← hdmax]
 have hdx : dmax ≤ 2305843009213693952 := by omega
 have HDX := Lib.hid hdmax
 clear hdmax
 have hm10 : IntKind.u64.wrap ((dmax : Int) / 10 * 10) = ((dmax / 10 * 10 : Nat) : Int) := by rw [IntKind.wrap_u64]; omega
 by_cases h1 : dmin ≤ dmax / 10 * 10
 ·have hi1 : decide ((dmin : Int) ≤ (dmax : Int) / 10 * 10) = true := by rw [decide_eq_true_eq]; omega
  have hi2 : decide (dmin ≤ dmax / 10 * 10) = true := by rw [decide_eq_true_eq]; omega
  have HF : Hid (pick3 dmin dmax ((U3 + 1 + U3 / 4 % 2) / 4) ((i : Int) - 348) = (dmax / 10, -((i : Int) - 348 - 1))) := Lib.hid (by unfold pick3; rw [if_pos h1])
  clear h1
  go_wp2_with fail
  refine bodyPost_ret (v := .tuple #[.int .u64 ((dmax : Int) / 10), .int .i64 (-((i : Int) - 348 - 1))]) (by simp [results, Tryz.results217, go_sem]) rfl ⟨?_, bDrewN HBW.out _⟩
  rw [← HDN.out, ← HDX.out, HF.out]
  push_cast
  rfl
 ·have hi1 : decide ((dmin : Int) ≤ (dmax : Int) / 10 * 10) = false := by rw [decide_eq_false_iff_not]; omega
  have hi2 : decide (dmin ≤ dmax / 10 * 10) = false := by rw [decide_eq_false_iff_not]; omega
  by_cases h2 : dmin < dmax
  ·have hi3 : decide (dmin < dmax) = true := by rw [decide_eq_true_eq]; omega
   have HF : Hid (pick3 dmin dmax ((U3 + 1 + U3 / 4 % 2) / 4) ((i : Int) - 348) = ((U3 + 1 + U3 / 4 % 2) / 4, -((i : Int) - 348))) := Lib.hid (by unfold pick3; rw [if_neg h1, if_pos h2])
   clear h1 h2
   go_wp2_with fail
   refine (HUS.out 9223372036854775808 (by omega) _ w.heap.size (HK0.out _) (HK1.out _) (HK2.out _)).mono ?_
   rintro e' w5 ⟨rfl, n5, rfl⟩
   rw [HU3.out, World.drewN_drewN]
   go_wp2_with fail
   refine (round_any U3 _ (by omega)).mono ?_
   rintro e' w' ⟨rfl, rfl⟩
   obtain ⟨d3, hd3⟩ : ∃ d, d = (U3 + 1 + U3 / 4 % 2) / 4 := ⟨_, rfl⟩
   rw [← hd3]
   have HD3 := Lib.hid hd3
   clear hd3
   go_wp2_with fail
   refine bodyPost_ret (v := .tuple #[.int .u64 (d3 : Int), .int .i64 (-((i : Int) - 348))]) (by simp [results, Tryz.results217, go_sem]) rfl ⟨?_, bDrewN HBW.out _⟩
   rw [← HDN.out, ← HDX.out, HF.out, ← HD3.out]
  ·have hi3 : decide (dmin < dmax) = false := by rw [decide_eq_false_iff_not]; omega
   have HF : Hid (pick3 dmin dmax ((U3 + 1 + U3 / 4 % 2) / 4) ((i : Int) - 348) = (dmin, -((i : Int) - 348))) := Lib.hid (by unfold pick3; rw [if_neg h1, if_neg h2])
   clear h1 h2
   go_wp2_with fail
   refine bodyPost_ret (v := .tuple #[.int .u64 (dmin : Int), .int .i64 (-((i : Int) - 348))]) (by simp [results, Tryz.results217, go_sem]) rfl ⟨?_, bDrewN HBW.out _⟩
   rw [← HDN.out, ← HDX.out, HF.out]
theorem short_Ctrue (m z mn mx i s U1 U2 U3 od : Nat) (w : World) (hg : Glob w) (e : Int) (hm2 : m < 18446744073709551616) (_hm1 : 9223372036854775808 ≤ m) (hmq : ((m : Int) == 9223372036854775808) = true) (hz1 : 12 ≤ z) (hz2 : z ≤ 63) (he : e + (z : Int) = -1074) (hn : (m : Int) - 2 ^ (z - 1) = mn) (hx : (m : Int) + 2 ^ (z - 1) = mx) (hp : -l10N (-1074) = (i : Int) - 348) (ho : m / 2 ^ z % 2 = od) (hss : -(e + lpN ((i : Int) - 348) + 3) = (s : Int))
  (hmn : mn < 18446744073709551616) (hmx : mx < 18446744073709551616) (hi : i < 696) (hod : od ≤ 1) (hs : s < 64)
  (hU1 : uscN mn (hiN i) (loN i) (2 ^ s) = U1) (hU2 : uscN mx (hiN i) (loN i) (2 ^ s) = U2)
  (hU3 : uscN m (hiN i) (loN i) (2 ^ s) = U3) (hb1 : U1 < 4611686018427387904) (hb2 : U2 < 4611686018427387904) (hb3 : U3 < 4611686018427387904) (hb4 : 1 ≤ U2) :
  Calls Tryz.prog 217 #[.int .u64 m, .int .i64 e] w fun e' w' =>
   e' = .returned (.tuple #[.int .u64 ((pick3 ((U1 + od + 3) / 4) ((U2 - od) / 4) ((U3 + 1 + U3 / 4 % 2) / 4) ((i : Int) - 348)).1 : Nat), .int .i64 (pick3 ((U1 + od + 3) / 4) ((U2 - od) / 4) ((U3 + 1 + U3 / 4 % 2) / 4) ((i : Int) - 348)).2]) ∧ Below w.heap.size w w' := by
 obtain ⟨hhi, hlo, hrow⟩ := row_is ((i : Int) - 348) (by omega) (by omega)
 rw [show ((i : Int) - 348 + 348).toNat = i from by omega] at hhi hlo hrow
 have hge : loN i ≤ hiN i * 18446744073709551616 := by omega
 have HUS := Lib.hid (fun (x : Nat) (hx : x < 18446744073709551616) (W : World) (b : Nat) (c0 : W.cell? ⟨b, 0, Option.none⟩ = some (.int .u64 (hiN i))) (c1 : W.cell? ⟨b, 1, Option.none⟩ = some (.int .u64 (loN i))) (c2 : W.cell? ⟨b, 2, Option.none⟩ = some (.int .i64 s)) => uscale_at b x (hiN i) (loN i) s W hx hhi hlo hge hs c0 c1 c2)
 have hlp : -5000 ≤ lpN ((i : Int) - 348) ∧ lpN ((i : Int) - 348) ≤ 5000 := by unfold lpN; omega
 have hga : Glob (w.alloc (.cells #[.int .u64 0, .int .u64 0, .int .i64 0] 245)) := hg.alloc _
 have hlt17 := hg.lt
 have HPR := Lib.hid (prescale_at w.heap.size i e (lpN ((i : Int) - 348)) 245 (.int .u64 0) (.int .u64 0) (.int .i64 0) (w.alloc (.cells #[.int .u64 0, .int .u64 0, .int .i64 0] 245)) hga (heap_alloc_new _ _) hlt17 hi (by omega) (by omega) hlp.1 hlp.2)
 have hzz : (11 : Int) + (-1085 - e) = (z : Int) := by omega
 obtain ⟨hn', hx', hodd⟩ := c_facts m z mn mx od hm2 hz1 hz2 hn hx ho hmn hmx
 clear hn hx
 have hgt : decide (-1085 < e) = false := by simp; omega
 have heq : decide (-1085 ≤ e) = false := by simp; omega
 have he1 : -1137 ≤ e := by omega
 have he2 : e ≤ -1086 := by omega
 clear ho
 have HSS := Lib.hid hss
 have HU1 := Lib.hid hU1
 have HU2 := Lib.hid hU2
 have HU3 := Lib.hid hU3
 clear hga hlt17 hrow hge hss hU1 hU2 hU3 hg hlo hhi
 go_enter Tryz.func217, Tryz.ntmps217
 go_wp2_with fail
 refine (l10_any _ _ (by omega) (by omega)).mono ?_
 rintro e' w' ⟨rfl, rfl⟩
 go_wp2_with fail
 refine (l2p_any _ _ (by omega) (by omega)).mono ?_
 rintro e' w' ⟨rfl, rfl⟩
 go_wp2_with fail
 refine HPR.out.mono ?_
 rintro e' w2 ⟨rfl, hc2, hb2', hz2⟩
 rw [HSS.out] at hc2
 have k0 : ∀ n, (w2.drewN n).cell? ⟨w.heap.size, 0, Option.none⟩ = some (.int .u64 (hiN i)) := fun n => cell_of_row (w2.drewN n) w.heap.size 0 _ _ _ hc2
 have k1 : ∀ n, (w2.drewN n).cell? ⟨w.heap.size, 1, Option.none⟩ = some (.int .u64 (loN i)) := fun n => cell_of_row (w2.drewN n) w.heap.size 1 _ _ _ hc2
 have k2 : ∀ n, (w2.drewN n).cell? ⟨w.heap.size, 2, Option.none⟩ = some (.int .i64 s) := fun n => cell_of_row (w2.drewN n) w.heap.size 2 _ _ _ hc2
 have hbw : Below w.heap.size w w2 := ((Below.refl _ _).alloc (Nat.le_refl _) _).trans hb2'
 have HK0 := Lib.hid k0
 have HK1 := Lib.hid k1
 have HK2 := Lib.hid k2
 have HBW := Lib.hid hbw
 clear hc2 hb2' hz2 k0 k1 k2 hbw
 go_wp2_with fail
 clear hn' hx' hodd he hgt heq hzz hp hlp
 refine (HUS.out mn hmn w2 w.heap.size (HK0.out 0) (HK1.out 0) (HK2.out 0)).mono ?_
 rintro e' w3 ⟨rfl, n3, rfl⟩
 rw [HU1.out]
 go_wp2_with fail
 refine (nudge_any U1 od _ (by omega) (by omega) (by omega) (by omega)).mono ?_
 rintro e' w' ⟨rfl, rfl⟩
 rw [show (U1 : Int) + (od : Int) = ((U1 + od : Nat) : Int) from by push_cast; rfl]
 go_wp2_with fail
 refine (ceil_any (U1 + od) _ (by omega)).mono ?_
 rintro e' w' ⟨rfl, rfl⟩
 obtain ⟨dmin, hdmin⟩ : ∃ d, d = (U1 + od + 3) / 4 := ⟨_, rfl⟩
 rw [← hdmin]
 have hdn : dmin ≤ 2305843009213693952 := by omega
 have HDN := Lib.hid hdmin
 clear hdmin
 go_wp2_with fail
 refine (HUS.out mx hmx _ w.heap.size (HK0.out n3) (HK1.out n3) (HK2.out n3)).mono ?_
 rintro e' w4 ⟨rfl, n4, rfl⟩
 rw [HU2.out]
 rw [World.drewN_drewN]
 go_wp2_with fail
 refine (nudge_any U2 (-(od : Int)) _ (by omega) (by omega) (by omega) (by omega)).mono ?_
 rintro e' w' ⟨rfl, rfl⟩
 rw [show (U2 : Int) + -(od : Int) = ((U2 - od : Nat) : Int) from by omega]
 go_wp2_with fail
 refine (floor_any (U2 - od) _ (by omega)).mono ?_
 rintro e' w' ⟨rfl, rfl⟩
 obtain ⟨dmax, hdmax⟩ : ∃ d, d = (U2 - od) / 4 := ⟨_, rfl⟩
 rw [← hdmax]
 have hdx : dmax ≤ 2305843009213693952 := by omega
 have HDX := Lib.hid hdmax
 clear hdmax
 have hm10 : IntKind.u64.wrap ((dmax : Int) / 10 * 10) = ((dmax / 10 * 10 : Nat) : Int) := by rw [IntKind.wrap_u64]; omega
 by_cases h1 : dmin ≤ dmax / 10 * 10
 ·have hi1 : decide ((dmin : Int) ≤ (dmax : Int) / 10 * 10) = true := by rw [decide_eq_true_eq]; omega
  have hi2 : decide (dmin ≤ dmax / 10 * 10) = true := by rw [decide_eq_true_eq]; omega
  have HF : Hid (pick3 dmin dmax ((U3 + 1 + U3 / 4 % 2) / 4) ((i : Int) - 348) = (dmax / 10, -((i : Int) - 348 - 1))) := Lib.hid (by unfold pick3; rw [if_pos h1])
  clear h1
  go_wp2_with fail
  refine bodyPost_ret (v := .tuple #[.int .u64 ((dmax : Int) / 10), .int .i64 (-((i : Int) - 348 - 1))]) (by simp [results, Tryz.results217, go_sem]) rfl ⟨?_, bDrewN HBW.out _⟩
  rw [← HDN.out, ← HDX.out, HF.out]
  push_cast
  rfl
 ·have hi1 : decide ((dmin : Int) ≤ (dmax : Int) / 10 * 10) = false := by rw [decide_eq_false_iff_not]; omega
  have hi2 : decide (dmin ≤ dmax / 10 * 10) = false := by rw [decide_eq_false_iff_not]; omega
  by_cases h2 : dmin < dmax
  ·have hi3 : decide (dmin < dmax) = true := by rw [decide_eq_true_eq]; omega
   have HF : Hid (pick3 dmin dmax ((U3 + 1 + U3 / 4 % 2) / 4) ((i : Int) - 348) = ((U3 + 1 + U3 / 4 % 2) / 4, -((i : Int) - 348))) := Lib.hid (by unfold pick3; rw [if_neg h1, if_pos h2])
   clear h1 h2
   go_wp2_with fail
   refine (HUS.out m (by omega) _ w.heap.size (HK0.out _) (HK1.out _) (HK2.out _)).mono ?_
   rintro e' w5 ⟨rfl, n5, rfl⟩
   rw [HU3.out, World.drewN_drewN]
   go_wp2_with fail
   refine (round_any U3 _ (by omega)).mono ?_
   rintro e' w' ⟨rfl, rfl⟩
   obtain ⟨d3, hd3⟩ : ∃ d, d = (U3 + 1 + U3 / 4 % 2) / 4 := ⟨_, rfl⟩
   rw [← hd3]
   have HD3 := Lib.hid hd3
   clear hd3
   go_wp2_with fail
   refine bodyPost_ret (v := .tuple #[.int .u64 (d3 : Int), .int .i64 (-((i : Int) - 348))]) (by simp [results, Tryz.results217, go_sem]) rfl ⟨?_, bDrewN HBW.out _⟩
   rw [← HDN.out, ← HDX.out, HF.out, ← HD3.out]
  ·have hi3 : decide (dmin < dmax) = false := by rw [decide_eq_false_iff_not]; omega
   have HF : Hid (pick3 dmin dmax ((U3 + 1 + U3 / 4 % 2) / 4) ((i : Int) - 348) = (dmin, -((i : Int) - 348))) := Lib.hid (by unfold pick3; rw [if_neg h1, if_neg h2])
   clear h1 h2
   go_wp2_with fail
   refine bodyPost_ret (v := .tuple #[.int .u64 (dmin : Int), .int .i64 (-((i : Int) - 348))]) (by simp [results, Tryz.results217, go_sem]) rfl ⟨?_, bDrewN HBW.out _⟩
   rw [← HDN.out, ← HDX.out, HF.out]
theorem short_Cfalse (m z mn mx i s U1 U2 U3 od : Nat) (w : World) (hg : Glob w) (e : Int) (hm2 : m < 18446744073709551616) (_hm1 : 9223372036854775808 ≤ m) (hmq : ((m : Int) == 9223372036854775808) = false) (hz1 : 12 ≤ z) (hz2 : z ≤ 63) (he : e + (z : Int) = -1074) (hn : (m : Int) - 2 ^ (z - 1) = mn) (hx : (m : Int) + 2 ^ (z - 1) = mx) (hp : -l10N (-1074) = (i : Int) - 348) (ho : m / 2 ^ z % 2 = od) (hss : -(e + lpN ((i : Int) - 348) + 3) = (s : Int))
  (hmn : mn < 18446744073709551616) (hmx : mx < 18446744073709551616) (hi : i < 696) (hod : od ≤ 1) (hs : s < 64)
  (hU1 : uscN mn (hiN i) (loN i) (2 ^ s) = U1) (hU2 : uscN mx (hiN i) (loN i) (2 ^ s) = U2)
  (hU3 : uscN m (hiN i) (loN i) (2 ^ s) = U3) (hb1 : U1 < 4611686018427387904) (hb2 : U2 < 4611686018427387904) (hb3 : U3 < 4611686018427387904) (hb4 : 1 ≤ U2) :
  Calls Tryz.prog 217 #[.int .u64 m, .int .i64 e] w fun e' w' =>
   e' = .returned (.tuple #[.int .u64 ((pick3 ((U1 + od + 3) / 4) ((U2 - od) / 4) ((U3 + 1 + U3 / 4 % 2) / 4) ((i : Int) - 348)).1 : Nat), .int .i64 (pick3 ((U1 + od + 3) / 4) ((U2 - od) / 4) ((U3 + 1 + U3 / 4 % 2) / 4) ((i : Int) - 348)).2]) ∧ Below w.heap.size w w' := by
 obtain ⟨hhi, hlo, hrow⟩ := row_is ((i : Int) - 348) (by omega) (by omega)
 rw [show ((i : Int) - 348 + 348).toNat = i from by omega] at hhi hlo hrow
 have hge : loN i ≤ hiN i * 18446744073709551616 := by omega
 have HUS := Lib.hid (fun (x : Nat) (hx : x < 18446744073709551616) (W : World) (b : Nat) (c0 : W.cell? ⟨b, 0, Option.none⟩ = some (.int .u64 (hiN i))) (c1 : W.cell? ⟨b, 1, Option.none⟩ = some (.int .u64 (loN i))) (c2 : W.cell? ⟨b, 2, Option.none⟩ = some (.int .i64 s)) => uscale_at b x (hiN i) (loN i) s W hx hhi hlo hge hs c0 c1 c2)
 have hlp : -5000 ≤ lpN ((i : Int) - 348) ∧ lpN ((i : Int) - 348) ≤ 5000 := by unfold lpN; omega
 have hga : Glob (w.alloc (.cells #[.int .u64 0, .int .u64 0, .int .i64 0] 245)) := hg.alloc _
 have hlt17 := hg.lt
 have HPR := Lib.hid (prescale_at w.heap.size i e (lpN ((i : Int) - 348)) 245 (.int .u64 0) (.int .u64 0) (.int .i64 0) (w.alloc (.cells #[.int .u64 0, .int .u64 0, .int .i64 0] 245)) hga (heap_alloc_new _ _) hlt17 hi (by omega) (by omega) hlp.1 hlp.2)
 have hzz : (11 : Int) + (-1085 - e) = (z : Int) := by omega
 obtain ⟨hn', hx', hodd⟩ := c_facts m z mn mx od hm2 hz1 hz2 hn hx ho hmn hmx
 clear hn hx
 have hgt : decide (-1085 < e) = false := by simp; omega
 have heq : decide (-1085 ≤ e) = false := by simp; omega
 have he1 : -1137 ≤ e := by omega
 have he2 : e ≤ -1086 := by omega
 clear ho
 have HSS := Lib.hid hss
 have HU1 := Lib.hid hU1
 have HU2 := Lib.hid hU2
 have HU3 := Lib.hid hU3
 clear hga hlt17 hrow hge hss hU1 hU2 hU3 hg hlo hhi
 go_enter Tryz.func217, Tryz.ntmps217
 go_wp2_with fail
 refine (l10_any _ _ (by omega) (by omega)).mono ?_
 rintro e' w' ⟨rfl, rfl⟩
 go_wp2_with fail
 refine (l2p_any _ _ (by omega) (by omega)).mono ?_
 rintro e' w' ⟨rfl, rfl⟩
 go_wp2_with fail
 refine HPR.out.mono ?_
 rintro e' w2 ⟨rfl, hc2, hb2', hz2⟩
 rw [HSS.out] at hc2
 have k0 : ∀ n, (w2.drewN n).cell? ⟨w.heap.size, 0, Option.none⟩ = some (.int .u64 (hiN i)) := fun n => cell_of_row (w2.drewN n) w.heap.size 0 _ _ _ hc2
 have k1 : ∀ n, (w2.drewN n).cell? ⟨w.heap.size, 1, Option.none⟩ = some (.int .u64 (loN i)) := fun n => cell_of_row (w2.drewN n) w.heap.size 1 _ _ _ hc2
 have k2 : ∀ n, (w2.drewN n).cell? ⟨w.heap.size, 2, Option.none⟩ = some (.int .i64 s) := fun n => cell_of_row (w2.drewN n) w.heap.size 2 _ _ _ hc2
 have hbw : Below w.heap.size w w2 := ((Below.refl _ _).alloc (Nat.le_refl _) _).trans hb2'
 have HK0 := Lib.hid k0
 have HK1 := Lib.hid k1
 have HK2 := Lib.hid k2
 have HBW := Lib.hid hbw
 clear hc2 hb2' hz2 k0 k1 k2 hbw
 go_wp2_with fail
 clear hn' hx' hodd he hgt heq hzz hp hlp
 refine (HUS.out mn hmn w2 w.heap.size (HK0.out 0) (HK1.out 0) (HK2.out 0)).mono ?_
 rintro e' w3 ⟨rfl, n3, rfl⟩
 rw [HU1.out]
 go_wp2_with fail
 refine (nudge_any U1 od _ (by omega) (by omega) (by omega) (by omega)).mono ?_
 rintro e' w' ⟨rfl, rfl⟩
 rw [show (U1 : Int) + (od : Int) = ((U1 + od : Nat) : Int) from by push_cast; rfl]
 go_wp2_with fail
 refine (ceil_any (U1 + od) _ (by omega)).mono ?_
 rintro e' w' ⟨rfl, rfl⟩
 obtain ⟨dmin, hdmin⟩ : ∃ d, d = (U1 + od + 3) / 4 := ⟨_, rfl⟩
 rw [← hdmin]
 have hdn : dmin ≤ 2305843009213693952 := by omega
 have HDN := Lib.hid hdmin
 clear hdmin
 go_wp2_with fail
 refine (HUS.out mx hmx _ w.heap.size (HK0.out n3) (HK1.out n3) (HK2.out n3)).mono ?_
 rintro e' w4 ⟨rfl, n4, rfl⟩
 rw [HU2.out]
 rw [World.drewN_drewN]
 go_wp2_with fail
 refine (nudge_any U2 (-(od : Int)) _ (by omega) (by omega) (by omega) (by omega)).mono ?_
 rintro e' w' ⟨rfl, rfl⟩
 rw [show (U2 : Int) + -(od : Int) = ((U2 - od : Nat) : Int) from by omega]
 go_wp2_with fail
 refine (floor_any (U2 - od) _ (by omega)).mono ?_
 rintro e' w' ⟨rfl, rfl⟩
 obtain ⟨dmax, hdmax⟩ : ∃ d, d = (U2 - od) / 4 := ⟨_, rfl⟩
 rw [← hdmax]
 have hdx : dmax ≤ 2305843009213693952 := by omega
 have HDX := Lib.hid hdmax
 clear hdmax
 have hm10 : IntKind.u64.wrap ((dmax : Int) / 10 * 10) = ((dmax / 10 * 10 : Nat) : Int) := by rw [IntKind.wrap_u64]; omega
 by_cases h1 : dmin ≤ dmax / 10 * 10
 ·have hi1 : decide ((dmin : Int) ≤ (dmax : Int) / 10 * 10) = true := by rw [decide_eq_true_eq]; omega
  have hi2 : decide (dmin ≤ dmax / 10 * 10) = true := by rw [decide_eq_true_eq]; omega
  have HF : Hid (pick3 dmin dmax ((U3 + 1 + U3 / 4 % 2) / 4) ((i : Int) - 348) = (dmax / 10, -((i : Int) - 348 - 1))) := Lib.hid (by unfold pick3; rw [if_pos h1])
  clear h1
  go_wp2_with fail
  refine bodyPost_ret (v := .tuple #[.int .u64 ((dmax : Int) / 10), .int .i64 (-((i : Int) - 348 - 1))]) (by simp [results, Tryz.results217, go_sem]) rfl ⟨?_, bDrewN HBW.out _⟩
  rw [← HDN.out, ← HDX.out, HF.out]
  push_cast
  rfl
 ·have hi1 : decide ((dmin : Int) ≤ (dmax : Int) / 10 * 10) = false := by rw [decide_eq_false_iff_not]; omega
  have hi2 : decide (dmin ≤ dmax / 10 * 10) = false := by rw [decide_eq_false_iff_not]; omega
  by_cases h2 : dmin < dmax
  ·have hi3 : decide (dmin < dmax) = true := by rw [decide_eq_true_eq]; omega
   have HF : Hid (pick3 dmin dmax ((U3 + 1 + U3 / 4 % 2) / 4) ((i : Int) - 348) = ((U3 + 1 + U3 / 4 % 2) / 4, -((i : Int) - 348))) := Lib.hid (by unfold pick3; rw [if_neg h1, if_pos h2])
   clear h1 h2
   go_wp2_with fail
   refine (HUS.out m (by omega) _ w.heap.size (HK0.out _) (HK1.out _) (HK2.out _)).mono ?_
   rintro e' w5 ⟨rfl, n5, rfl⟩
   rw [HU3.out, World.drewN_drewN]
   go_wp2_with fail
   refine (round_any U3 _ (by omega)).mono ?_
   rintro e' w' ⟨rfl, rfl⟩
   obtain ⟨d3, hd3⟩ : ∃ d, d = (U3 + 1 + U3 / 4 % 2) / 4 := ⟨_, rfl⟩
   rw [← hd3]
   have HD3 := Lib.hid hd3
   clear hd3
   go_wp2_with fail
   refine bodyPost_ret (v := .tuple #[.int .u64 (d3 : Int), .int .i64 (-((i : Int) - 348))]) (by simp [results, Tryz.results217, go_sem]) rfl ⟨?_, bDrewN HBW.out _⟩
   rw [← HDN.out, ← HDX.out, HF.out, ← HD3.out]
  ·have hi3 : decide (dmin < dmax) = false := by rw [decide_eq_false_iff_not]; omega
   have HF : Hid (pick3 dmin dmax ((U3 + 1 + U3 / 4 % 2) / 4) ((i : Int) - 348) = (dmin, -((i : Int) - 348))) := Lib.hid (by unfold pick3; rw [if_neg h1, if_neg h2])
   clear h1 h2
   go_wp2_with fail
   refine bodyPost_ret (v := .tuple #[.int .u64 (dmin : Int), .int .i64 (-((i : Int) - 348))]) (by simp [results, Tryz.results217, go_sem]) rfl ⟨?_, bDrewN HBW.out _⟩
   rw [← HDN.out, ← HDX.out, HF.out]
end Go.Proofs.YtckaoeloofbklaaGreatDoor
namespace Go.Proofs.YtckaoeloofbklaaGreatDoor
open Go Go.RowKit
def zN (e : Int) : Nat := if -1085 ≤ e then 11 else (-1074 - e).toNat
def skewB (m : Nat) (e : Int) : Bool := decide (m = 9223372036854775808) && decide (-1085 < e)
def ppN (sk : Bool) (e : Int) : Int := if sk then -skwN (e + 11) else -l10N (e + zN e)
def ssN (p e : Int) : Int := -(e + lpN p + 3)
def usN (p e : Int) (x : Nat) : Nat := uscN x (hiN (p + 348).toNat) (loN (p + 348).toNat) (2 ^ (ssN p e).toNat)
def shortN (m : Nat) (e : Int) : Nat × Int :=
 let sk := skewB m e
 let p := ppN sk e
 let od := if sk then 0 else m / 2 ^ zN e % 2
 pick3 ((usN p e (if sk then m - 512 else m - 2 ^ (zN e - 1)) + od + 3) / 4) ((usN p e (m + 2 ^ (zN e - 1)) - od) / 4) ((usN p e m + 1 + usN p e m / 4 % 2) / 4) p
def expOK (sk : Bool) (e : Int) : Bool := decide (-347 ≤ ppN sk e) && decide (ppN sk e ≤ 346) && decide (5 ≤ ssN (ppN sk e) e) && decide (ssN (ppN sk e) e ≤ 60)
def expAll : Nat → Int → Bool
 | 0, _ => true
 | n + 1, e => expOK false e && (expOK true e || decide (e ≤ -1085)) && expAll n (e + 1)
theorem expAll_get : ∀ (n : Nat) (e : Int), expAll n e = true → ∀ k : Nat, k < n → expOK false (e + k) = true ∧ (-1085 < e + k → expOK true (e + k) = true)
 | 0, _, _, _, h => by omega
 | n + 1, e, h, 0, _ => by
  simp only [expAll, Bool.and_eq_true, Bool.or_eq_true, decide_eq_true_eq] at h
  refine ⟨by simpa using h.1.1, fun h2 => ?_⟩
  rcases h.1.2 with h3 | h3
  ·simpa using h3
  ·simp at h2; omega
 | n + 1, e, h, k + 1, hk => by
  simp only [expAll, Bool.and_eq_true] at h
  have := expAll_get n (e + 1) h.2 k (by omega)
  rwa [show e + 1 + (k : Int) = e + ((k + 1 : Nat) : Int) from by push_cast; omega] at this
theorem exp_all : expAll 2200 (-1137) = true := by decide +kernel
theorem exp_ok (e : Int) (h1 : -1137 ≤ e) (h2 : e ≤ 1000) : expOK false e = true ∧ (-1085 < e → expOK true e = true) := by
 have := expAll_get 2200 (-1137) exp_all (e + 1137).toNat (by omega)
 rwa [show -1137 + ((e + 1137).toNat : Int) = e from by omega] at this
theorem uscR_ge (H mid m2 S : Nat) : (H - 1) / S ≤ uscR H mid m2 S := by
 unfold uscR
 simp only
 have h1 : (H - 1) / S ≤ H / S := Nat.div_le_div_right (Nat.sub_le _ _)
 split
 ·split
  ·split <;> omega
  ·split <;> omega
 ·omega
theorem us_bounds (p e : Int) (x : Nat) (h1 : -348 ≤ p) (h2 : p ≤ 347) (hs1 : 5 ≤ ssN p e) (hs2 : ssN p e ≤ 60) (hx : x < 18446744073709551616) :
  usN p e x < 1152921504606846976 ∧ (9223372036854774784 ≤ x → 3 ≤ usN p e x) := by
 obtain ⟨hhi, hlo, hrow⟩ := row_is p h1 h2
 obtain ⟨hb1, hb2⟩ := tab_bounds p h1 h2
 have hpm := pmN_lo p
 unfold usN
 rw [uscN_R]
 generalize hiN (p + 348).toNat = hi at *
 generalize loN (p + 348).toNat = lo at *
 have hpm2 : 2 ^ 127 ≤ pmN p := Nat.le_of_mul_le_mul_right (Nat.le_trans hb1 hpm) (DN_pos p)
 have hhi2 : 9223372036854775808 ≤ hi := by omega
 generalize hS : 2 ^ (ssN p e).toNat = S
 have hS1 : 32 ≤ S := by rw [← hS]; exact Nat.pow_le_pow_right (n := 2) (by decide) (show 5 ≤ (ssN p e).toNat by omega)
 have hS2 : S ≤ 1152921504606846976 := by rw [← hS]; exact Nat.pow_le_pow_right (n := 2) (by decide) (show (ssN p e).toNat ≤ 60 by omega)
 have hH : x * hi / 18446744073709551616 < 18446744073709551616 := by
  rw [Nat.div_lt_iff_lt_mul (by omega)]
  exact Nat.mul_lt_mul'' hx hhi
 constructor
 ·have h3 := uscR_le (x * hi / 18446744073709551616) (x * hi % 18446744073709551616) (x * lo / 18446744073709551616) S
  have h4 : x * hi / 18446744073709551616 / S ≤ x * hi / 18446744073709551616 / 32 := Nat.div_le_div_left hS1 (by decide)
  omega
 ·intro hx2
  have h3 := uscR_ge (x * hi / 18446744073709551616) (x * hi % 18446744073709551616) (x * lo / 18446744073709551616) S
  have h5 : 9223372036854774784 * 9223372036854775808 ≤ x * hi := Nat.mul_le_mul hx2 hhi2
  have h6 : 4611686018427387392 ≤ x * hi / 18446744073709551616 := by rw [Nat.le_div_iff_mul_le (by omega)]; omega
  have h7 : 3 ≤ (x * hi / 18446744073709551616 - 1) / S := by
   rw [Nat.le_div_iff_mul_le (by omega)]
   omega
  omega
theorem us_pos (p e : Int) (x : Nat) (h1 : -348 ≤ p) (h2 : p ≤ 347) (hs1 : 5 ≤ ssN p e) (hs2 : ssN p e ≤ 60) (_hx : x < 18446744073709551616) (hx2 : 4611686018427387904 ≤ x) : 1 ≤ usN p e x := by
 obtain ⟨hhi, hlo, hrow⟩ := row_is p h1 h2
 obtain ⟨hb1, hb2⟩ := tab_bounds p h1 h2
 have hpm := pmN_lo p
 unfold usN
 rw [uscN_R]
 generalize hiN (p + 348).toNat = hi at *
 generalize loN (p + 348).toNat = lo at *
 have hpm2 : 2 ^ 127 ≤ pmN p := Nat.le_of_mul_le_mul_right (Nat.le_trans hb1 hpm) (DN_pos p)
 have hhi2 : 9223372036854775808 ≤ hi := by omega
 generalize hS : 2 ^ (ssN p e).toNat = S
 have hS1 : 32 ≤ S := by rw [← hS]; exact Nat.pow_le_pow_right (n := 2) (by decide) (show 5 ≤ (ssN p e).toNat by omega)
 have hS2 : S ≤ 1152921504606846976 := by rw [← hS]; exact Nat.pow_le_pow_right (n := 2) (by decide) (show (ssN p e).toNat ≤ 60 by omega)
 have h3 := uscR_ge (x * hi / 18446744073709551616) (x * hi % 18446744073709551616) (x * lo / 18446744073709551616) S
 have h5 : 4611686018427387904 * 9223372036854775808 ≤ x * hi := Nat.mul_le_mul hx2 hhi2
 have h6 : 2305843009213693952 ≤ x * hi / 18446744073709551616 := by rw [Nat.le_div_iff_mul_le (by omega)]; omega
 have h7 : 1 ≤ (x * hi / 18446744073709551616 - 1) / S := by
  rw [Nat.le_div_iff_mul_le (by omega)]
  omega
 omega
end Go.Proofs.YtckaoeloofbklaaGreatDoor
namespace Go.Proofs.YtckaoeloofbklaaGreatDoor
open Go Go.RowKit
theorem zN_ge (e : Int) (h : -1137 ≤ e) : 11 ≤ zN e ∧ zN e ≤ 63 := by unfold zN; split <;> omega
theorem top_room (m z : Nat) (hz1 : 11 ≤ z) (hz2 : z ≤ 63) (hm : m < 18446744073709551616) (h0 : m % 2 ^ z = 0) : m + 2 ^ (z - 1) < 18446744073709551616 ∧ 2 ^ (z - 1) ≤ 4611686018427387904 ∧ 1024 ≤ 2 ^ (z - 1) := by
 have e1 : 2 ^ z = 2 * 2 ^ (z - 1) := by rw [← Nat.pow_succ', show (z - 1).succ = z from by omega]
 have e2 : 18446744073709551616 = 2 ^ z * 2 ^ (64 - z) := by rw [← Nat.pow_add, show z + (64 - z) = 64 from by omega]
 have h1 := Nat.div_add_mod m (2 ^ z)
 rw [h0, Nat.add_zero] at h1
 have h2 : m / 2 ^ z < 2 ^ (64 - z) := by rw [Nat.div_lt_iff_lt_mul (Nat.two_pow_pos z), Nat.mul_comm, ← e2]; exact hm
 have h3 : 2 ^ z * (m / 2 ^ z + 1) ≤ 18446744073709551616 := by rw [e2]; exact Nat.mul_le_mul_left _ h2
 have h4 : 2 ^ (z - 1) ≤ 2 ^ 62 := Nat.pow_le_pow_right (by decide) (by omega)
 have h5 : 2 ^ 10 ≤ 2 ^ (z - 1) := Nat.pow_le_pow_right (by decide) (by omega)
 rw [Nat.mul_add, h1, Nat.mul_one, e1] at h3
 generalize 2 ^ (z - 1) = P at *
 exact ⟨by omega, h4, h5⟩
theorem short_any (m : Nat) (e : Int) (w : World) (hg : Glob w) (hm1 : 9223372036854775808 ≤ m) (hm2 : m < 18446744073709551616) (h0 : m % 2 ^ zN e = 0) (he1 : -1137 ≤ e) (he2 : e ≤ 1000) :
  Calls Tryz.prog 217 #[.int .u64 m, .int .i64 e] w fun e' w' =>
   e' = .returned (.tuple #[.int .u64 ((shortN m e).1 : Nat), .int .i64 (shortN m e).2]) ∧ Below w.heap.size w w' := by
 obtain ⟨hz1, hz2⟩ := zN_ge e he1
 obtain ⟨ht1, ht2, ht3⟩ := top_room m (zN e) hz1 hz2 hm2 h0
 obtain ⟨ok0, ok1⟩ := exp_ok e he1 he2
 by_cases hsk : m = 9223372036854775808 ∧ -1085 < e
 ·
  obtain ⟨rfl, hgt⟩ := hsk
  have ok := ok1 hgt
  simp only [expOK, Bool.and_eq_true, decide_eq_true_eq] at ok
  have hsk : skewB 9223372036854775808 e = true := by simp [skewB, hgt]
  have hz : zN e = 11 := by unfold zN; rw [if_pos (by omega)]
  unfold shortN
  rw [hsk, hz]
  simp only [if_true]
  generalize hp : ppN true e = p at *
  obtain ⟨i, hi⟩ : ∃ i : Nat, p = (i : Int) - 348 := ⟨(p + 348).toNat, by omega⟩
  obtain ⟨b1, b1'⟩ := us_bounds p e (9223372036854775808 - 512) (by omega) (by omega) ok.1.2 ok.2 (by omega)
  obtain ⟨b2, b2'⟩ := us_bounds p e (9223372036854775808 + 2 ^ (11 - 1)) (by omega) (by omega) ok.1.2 ok.2 (by omega)
  obtain ⟨b3, _⟩ := us_bounds p e 9223372036854775808 (by omega) (by omega) ok.1.2 ok.2 (by omega)
  have hb4 := b2' (by omega)
  subst hi
  have hpi : ((i : Int) - 348 + 348).toNat = i := by omega
  have hss : -(e + lpN ((i : Int) - 348) + 3) = ((ssN ((i : Int) - 348) e).toNat : Int) := by have := ok.1.2; unfold ssN at *; omega
  have := short_A (9223372036854775808 - 512) (9223372036854775808 + 2 ^ (11 - 1)) i (ssN ((i : Int) - 348) e).toNat (od := 0) w hg e hgt he2 (by rfl) (by rfl) (by unfold ppN at hp; simpa using hp) rfl hss (by omega) (by omega) (by omega) (by omega) (by have := ok.2; omega)
   (U1 := usN ((i : Int) - 348) e (9223372036854775808 - 512)) (U2 := usN ((i : Int) - 348) e (9223372036854775808 + 2 ^ (11 - 1))) (U3 := usN ((i : Int) - 348) e 9223372036854775808)
   (by unfold usN; rw [hpi]) (by unfold usN; rw [hpi]) (by unfold usN; rw [hpi]) (by omega) (by omega) (by omega) (by omega)
  exact this
 ·have ok := ok0
  simp only [expOK, Bool.and_eq_true, decide_eq_true_eq] at ok
  have hsk' : skewB m e = false := by
   unfold skewB
   rw [Bool.and_eq_false_iff]
   by_cases h : m = 9223372036854775808
   ·right; rw [decide_eq_false_iff_not]; exact fun h2 => hsk ⟨h, h2⟩
   ·left; rw [decide_eq_false_iff_not]; exact h
  unfold shortN
  rw [hsk']
  simp only [if_false, Bool.false_eq_true]
  have hodl : m / 2 ^ zN e % 2 ≤ 1 := by omega
  generalize hod : m / 2 ^ zN e % 2 = od at *
  generalize hp : ppN false e = p at *
  obtain ⟨i, hi⟩ : ∃ i : Nat, p = (i : Int) - 348 := ⟨(p + 348).toNat, by omega⟩
  obtain ⟨b1, b1'⟩ := us_bounds p e (m - 2 ^ (zN e - 1)) (by omega) (by omega) ok.1.2 ok.2 (by omega)
  obtain ⟨b2, b2'⟩ := us_bounds p e (m + 2 ^ (zN e - 1)) (by omega) (by omega) ok.1.2 ok.2 (by omega)
  obtain ⟨b3, _⟩ := us_bounds p e m (by omega) (by omega) ok.1.2 ok.2 (by omega)
  have hb4 := b2' (by omega)
  subst hi
  have hpi : ((i : Int) - 348 + 348).toNat = i := by omega
  have hss : -(e + lpN ((i : Int) - 348) + 3) = ((ssN ((i : Int) - 348) e).toNat : Int) := by have := ok.1.2; unfold ssN at *; omega
  have hp' : -l10N (e + zN e) = (i : Int) - 348 := by unfold ppN at hp; simpa using hp
  have u1 : uscN (m - 2 ^ (zN e - 1)) (hiN i) (loN i) (2 ^ (ssN ((i : Int) - 348) e).toNat) = usN ((i : Int) - 348) e (m - 2 ^ (zN e - 1)) := by unfold usN; rw [hpi]
  have u2 : uscN (m + 2 ^ (zN e - 1)) (hiN i) (loN i) (2 ^ (ssN ((i : Int) - 348) e).toNat) = usN ((i : Int) - 348) e (m + 2 ^ (zN e - 1)) := by unfold usN; rw [hpi]
  have u3 : uscN m (hiN i) (loN i) (2 ^ (ssN ((i : Int) - 348) e).toNat) = usN ((i : Int) - 348) e m := by unfold usN; rw [hpi]
  by_cases hge : -1085 ≤ e
  ·have hz : zN e = 11 := by unfold zN; rw [if_pos hge]
   rw [hz] at hod hp' ht1 u1 u2 b1 b2 b2' hb4 ⊢
   by_cases hm : m = 9223372036854775808
   ·subst hm
    have hee : e = -1085 := by
     rcases Int.lt_or_le (-1085) e with h | h
     ·exact absurd ⟨rfl, h⟩ hsk
     ·omega
    exact short_B1 (9223372036854775808 - 2 ^ (11 - 1)) (9223372036854775808 + 2 ^ (11 - 1)) i (ssN ((i : Int) - 348) e).toNat _ _ _ od w hg e hee (by rfl) (by rfl) hp' (by rw [← hod]) hss (by omega) (by omega) (by omega) hodl (by have := ok.2; omega) u1 u2 u3 (by omega) (by omega) (by omega) (by omega)
   ·exact short_B m (m - 2 ^ (11 - 1)) (m + 2 ^ (11 - 1)) i (ssN ((i : Int) - 348) e).toNat _ _ _ od w hg e (by omega) hm2 hge he2 (by omega) (by omega) hp' (by rw [← hod]) hss (by omega) (by omega) (by omega) hodl (by have := ok.2; omega) u1 u2 u3 (by omega) (by omega) (by omega) (by omega)
  ·have hz : e + (zN e : Int) = -1074 := by unfold zN; rw [if_neg hge]; omega
   have hz12 : 12 ≤ zN e := by unfold zN; rw [if_neg hge]; omega
   rw [hz] at hp'
   have hn : (m : Int) - 2 ^ (zN e - 1) = ((m - 2 ^ (zN e - 1) : Nat) : Int) := by
    rw [Int.ofNat_sub (by omega)]; push_cast; rfl
   have hx : (m : Int) + 2 ^ (zN e - 1) = ((m + 2 ^ (zN e - 1) : Nat) : Int) := by push_cast; rfl
   have hmn : m - 2 ^ (zN e - 1) < 18446744073709551616 := by omega
   cases hmq : ((m : Int) == 9223372036854775808)
   ·exact short_Cfalse m (zN e) _ _ i (ssN ((i : Int) - 348) e).toNat _ _ _ od w hg e hm2 hm1 hmq hz12 hz2 hz hn hx hp' hod hss hmn ht1 (by omega) hodl (by have := ok.2; omega) u1 u2 u3 (by omega) (by omega) (by omega) (by omega)
   ·exact short_Ctrue m (zN e) _ _ i (ssN ((i : Int) - 348) e).toNat _ _ _ od w hg e hm2 hm1 hmq hz12 hz2 hz hn hx hp' hod hss hmn ht1 (by omega) hodl (by have := ok.2; omega) u1 u2 u3 (by omega) (by omega) (by omega) (by omega)
end Go.Proofs.YtckaoeloofbklaaGreatDoor
namespace Go.Proofs.YtckaoeloofbklaaGreatDoor
open Go Go.RowKit Go.Sort Go.Lib
def encB : UInt8 → Value := fun b => .int .u8 (b.toNat : Int)
def trimZ (l : List UInt8) : List UInt8 := (l.reverse.dropWhile (· == 48)).reverse
theorem dropWhile_all {α : Type} (p : α → Bool) : ∀ (a b : List α), (∀ x ∈ a, p x = true) → (a ++ b).dropWhile p = b.dropWhile p
 | [], _, _ => rfl
 | x :: a, b, h => by
  rw [List.cons_append, List.dropWhile_cons, if_pos (h x List.mem_cons_self)]
  exact dropWhile_all p a b fun y hy => h y (List.mem_cons_of_mem _ hy)
theorem trim_eq (l : List UInt8) (k : Nat) (hk : k ≤ l.length) (h1 : ∀ j (hj : j < l.length), k ≤ j → l[j] = 48) (h2 : ∀ (h : 0 < k), l[k - 1]'(by omega) ≠ 48) : trimZ l = l.take k := by
 unfold trimZ
 conv => lhs; rw [← List.take_append_drop k l]
 rw [List.reverse_append, dropWhile_all]
 ·cases k with
  | zero => simp
  | succ k =>
   have h3 := h2 (by omega)
   rw [List.take_succ_eq_append_getElem (by omega), List.reverse_append]
   rw [List.reverse_singleton, List.singleton_append, List.dropWhile_cons, if_neg (by simpa using h3)]
   simp
 ·intro x hx
  rw [List.mem_reverse, List.mem_iff_getElem] at hx
  obtain ⟨j, hj, rfl⟩ := hx
  rw [List.length_drop] at hj
  rw [List.getElem_drop, h1 (k + j) (by omega) (by omega)]
  rfl
def sig (d : Nat) : List UInt8 := trimZ (decDigits d)
theorem setDigits_any (b d cap : Nat) (p : Int) (w : World) (_hb : b < w.heap.size) (_hd1 : 1 ≤ d) (hd2 : d < 18446744073709551616) (hp1 : -5000 ≤ p) (hp2 : p ≤ 5000) (hn : nDigits d ≤ 20) (hcap : 32 ≤ cap) (hcap2 : cap ≤ 1000)
  (hH : Holds encB w b 0 (Array.replicate (nDigits d) (0 : UInt8))) :
  Calls Tryz.prog 212 #[.slice (some ⟨b, 0, Option.none⟩) 32 cap, .int .u64 d, .int .i64 p, .int .i64 (nDigits d : Nat)] w fun e w' =>
   e = .returned (.tuple #[.int .i64 ((nDigits d : Nat) + p), .int .i64 ((sig d).length : Nat)]) ∧ ∃ (n v' : Nat) (dk : Array UInt8), w' = (putRow encB w b 0 dk).drewN n ∧ FmtInv (nDigits d) d 0 v' dk := by
 have hpos := nDigits_pos d
 have HF := Lib.hid (Tryz.internal_strconv_formatBase10 b 0 cap d (Array.replicate (nDigits d) (0 : UInt8)) w hH (by rw [Array.size_replicate]; exact lt_pow_nDigits d) hd2 (by rw [Array.size_replicate]; omega))
 rw [Array.size_replicate] at HF
 have hld := decDigits_length d
 have HSG : Hid (sig d = trimZ (decDigits d)) := Lib.hid rfl
 have HRN := Lib.hid (fun (v' : Nat) (dk : Array UInt8) (h : FmtInv (nDigits d) d 0 v' dk) (j : Nat) (hj : j < (decDigits d).length) => row_is_numeral h j hj)
 have HH := Lib.hid hH
 have HLD := Lib.hid hld
 clear hH hld
 generalize nDigits d = N at *
 go_enter Tryz.func212, Tryz.ntmps212
 go_wp2_with fail
 refine HF.out.mono ?_
 rintro e w1 ⟨rfl, n, v', dk, hw1, hfmt⟩
 have hsz : dk.size = N := hfmt.size
 have hcell : ∀ j, j < N → w1.cell? ⟨b, j, Option.none⟩ = some (.int .u8 ((dk[j]!).toNat : Int)) := fun j hj => by
  have := cell?_putRow encB w b 0 (Array.replicate N (0 : UInt8)) dk HH.out (by rw [hsz, Array.size_replicate]) j (by omega)
  rw [Nat.zero_add] at this
  rw [hw1]
  exact this
 have hdig : ∀ j (hj : j < (decDigits d).length), (decDigits d)[j] = dk[j]! := fun j hj => HRN.out v' dk hfmt j hj
 have HFM := Lib.hid hfmt
 have HC := Lib.hid hcell
 have HD := Lib.hid hdig
 have HW1 : Hid (w1 = (putRow encB w b 0 dk).drewN n) := Lib.hid hw1
 clear hfmt hcell hdig hsz hw1
 go_wp2_with fail
 go_loop [3] (fun i => ∃ k : Nat, k ≤ N ∧ i = .int .i64 k ∧ ∀ j (hj : j < (decDigits d).length), k ≤ j → (decDigits d)[j] = 48) (fun i => (RowKit.intOf i).toNat)
 case atStart => exact ⟨N, Nat.le_refl _, rfl, fun j hj h => by have := HLD.out; omega⟩
 case round =>
  obtain ⟨k, hk, rfl, hP⟩ := hrel
  have HP := Lib.hid hP
  clear hP
  by_cases hk0 : k = 0
  ·subst hk0
   have HS2 : Hid (sig d = (decDigits d).take 0) := Lib.hid (by rw [HSG.out]; exact trim_eq _ 0 (by omega) (fun j hj h => HP.out j hj h) (fun h => by omega))
   go_wp2_with fail
   refine bodyPost_ret (v := .tuple #[.int .i64 ((N : Int) + p), .int .i64 0]) (by simp [results, Tryz.results212, go_sem]) rfl ⟨?_, n, v', dk, HW1.out, HFM.out⟩
   rw [HS2.out]; rfl
  ·obtain ⟨k, rfl⟩ : ∃ q, k = q + 1 := ⟨k - 1, by omega⟩
   have hkN : k < N := by omega
   have hk2 : k < (decDigits d).length := by have := HLD.out; omega
   have c0 := HC.out k hkN
   have hdk := HD.out k hk2
   have HDK := Lib.hid hdk
   clear hdk hk0
   have hb48 : ∀ x : UInt8, (x = 48) ↔ ((x.toNat : Int) = 48) := fun x => by rw [← UInt8.toNat_inj]; show x.toNat = 48 ↔ _; omega
   generalize dk[k]! = x at *
   by_cases hx : x = 48
   ·have hq : ((x.toNat : Int) == 48) = true := by rw [beq_iff_eq]; exact (hb48 x).1 hx
    have HX := Lib.hid hx
    clear hx hb48
    go_wp2_with fail
    go_round
    case rel =>
     refine ⟨k, by omega, by go_num, fun j hj h => ?_⟩
     by_cases hjk : j = k
     ·subst hjk; rw [HDK.out]; exact HX.out
     ·exact HP.out j hj (by omega)
    case measure => simp [RowKit.intOf] <;> omega
   ·have hq : ((x.toNat : Int) == 48) = false := by rw [beq_eq_false_iff_ne]; exact fun h => hx ((hb48 x).2 h)
    have HS2 : Hid (sig d = (decDigits d).take (k + 1)) := Lib.hid (by rw [HSG.out]; exact trim_eq _ (k + 1) (by omega) (fun j hj h => HP.out j hj h) (fun h => by simp only [Nat.add_sub_cancel]; rw [HDK.out]; exact hx))
    clear hx hb48
    go_wp2_with fail
    refine bodyPost_ret (v := .tuple #[.int .i64 ((N : Int) + p), .int .i64 ((k : Int) + 1)]) (by simp [results, Tryz.results212, go_sem]) rfl ⟨?_, n, v', dk, HW1.out, HFM.out⟩
    rw [HS2.out, List.length_take, Nat.min_eq_left (by omega)]; push_cast; rfl
end Go.Proofs.YtckaoeloofbklaaGreatDoor
