/- Joined texts: Vd. Each begins with its own remark. -/
import Derived.Test.YtmhagigokgklaaaGreatDoorJc
import Derived.Lib.RabinKarpLaws

/- The shortest digits, walked: shortFloat (printed by gen_short15.py). -/
namespace Go.Proofs.YtmhagigokgklaaaGreatDoor
open Go Go.RowKit

theorem uscR_le (H mid m2 S : Nat) : uscR H mid m2 S ≤ H / S + 1 := by
  unfold uscR
  simp only
  have h1 : (H - 1) / S ≤ H / S := Nat.div_le_div_right (Nat.sub_le _ _)
  split
  · split
    · split <;> omega
    · split <;> omega
  · omega

/-- the digits and their power, out of the three scaled numbers -/
def pick3 (dmin dmax u : Nat) (p : Int) : Nat × Int :=
  if dmin ≤ dmax / 10 * 10 then (dmax / 10, -(p - 1)) else if dmin < dmax then (u, -p) else (dmin, -p)

theorem c_fact1 (m P mn mx : Nat) (hP : P ≤ 4611686018427387904) (hn : (m : Int) - P = mn) (hx : (m : Int) + P = mx) (hmn : mn < 18446744073709551616) (hmx : mx < 18446744073709551616) :
    IntKind.u64.wrap ((m : Int) - IntKind.u64.wrap P) = (mn : Int) ∧ IntKind.u64.wrap ((m : Int) + IntKind.u64.wrap P) = (mx : Int) := by
  have hpu : IntKind.u64.wrap (P : Int) = P := by rw [IntKind.wrap_u64]; omega
  exact ⟨by rw [hpu, hn, IntKind.wrap_u64]; omega, by rw [hpu, hx, IntKind.wrap_u64]; omega⟩
theorem c_fact2 (Q od : Nat) (hQ : Q < 9223372036854775808) (ho : Q % 2 = od) : bits BinOp.and IntKind.i64 (wrap64 (Q : Int)) 1 = (od : Int) := by
  have h3 : wrap64 (Q : Int) = (Q : Int) := by unfold wrap64; omega
  rw [h3]
  have := Go.Proofs.and_one Q hQ
  rwa [ho] at this
theorem c_facts (m z mn mx od : Nat) (hm2 : m < 18446744073709551616) (hz1 : 12 ≤ z) (hz2 : z ≤ 63) (hn : (m : Int) - 2 ^ (z - 1) = mn) (hx : (m : Int) + 2 ^ (z - 1) = mx) (ho : m / 2 ^ z % 2 = od) (hmn : mn < 18446744073709551616) (hmx : mx < 18446744073709551616) :
    IntKind.u64.wrap ((m : Int) - IntKind.u64.wrap (2 ^ (z - 1))) = (mn : Int) ∧ IntKind.u64.wrap ((m : Int) + IntKind.u64.wrap (2 ^ (z - 1))) = (mx : Int) ∧ bits BinOp.and IntKind.i64 (wrap64 ((m : Int) / 2 ^ z)) 1 = (od : Int) := by
  have hpl : 2 ^ (z - 1) ≤ 2 ^ 62 := Nat.pow_le_pow_right (by decide) (show z - 1 ≤ 62 by omega)
  have hpw : (2 : Int) ^ (z - 1) = ((2 ^ (z - 1) : Nat) : Int) := by push_cast; rfl
  have hQ : (m : Int) / 2 ^ z = ((m / 2 ^ z : Nat) : Int) := by push_cast; rfl
  have h0 : 2 ^ 12 ≤ 2 ^ z := Nat.pow_le_pow_right (by decide) hz1
  have h1 : m / 2 ^ z ≤ m / 2 ^ 12 := Nat.div_le_div_left h0 (by decide)
  have h2 : m / 2 ^ z < 9223372036854775808 := Nat.lt_of_le_of_lt h1 (by clear hn hx ho hQ h0 h1 hpl hpw; omega)
  rw [hpw] at hn hx ⊢
  rw [hQ]
  obtain ⟨a, b⟩ := c_fact1 m _ mn mx hpl hn hx hmn hmx
  exact ⟨a, b, c_fact2 _ _ h2 ho⟩

theorem wrap_id64 (x : Int) (h1 : -5000 ≤ x) (h2 : x ≤ 5000) : IntKind.i64.wrap x = x := by rw [IntKind.wrap_i64]; omega

set_option maxRecDepth 100000 in
set_option maxHeartbeats 4000000 in
theorem short_B (m mn mx i s U1 U2 U3 od : Nat) (w : World) (hg : Glob w) (e : Int) (hm1 : 9223372036854775808 < m) (hm2 : m < 18446744073709551616) (he1 : -1085 ≤ e) (he2 : e ≤ 1000) (hn : (m : Int) - 1024 = mn) (hx : (m : Int) + 1024 = mx) (hp : -l10N (e + 11) = (i : Int) - 348) (ho : m / 2048 % 2 = od) (hss : -(e + lpN ((i : Int) - 348) + 3) = (s : Int))
    (hmn : mn < 18446744073709551616) (hmx : mx < 18446744073709551616) (hi : i < 696) (hod : od ≤ 1) (hs : s < 64)
    (hU1 : uscN mn (hiN i) (loN i) (2 ^ s) = U1) (hU2 : uscN mx (hiN i) (loN i) (2 ^ s) = U2)
    (hU3 : uscN m (hiN i) (loN i) (2 ^ s) = U3) (hb1 : U1 < 4611686018427387904) (hb2 : U2 < 4611686018427387904) (hb3 : U3 < 4611686018427387904) (hb4 : 1 ≤ U2) :
    Calls Tryz.prog 133 #[.int .u64 m, .int .i64 e] w fun e' w' =>
      e' = .returned (.tuple #[.int .u64 ((pick3 ((U1 + od + 3) / 4) ((U2 - od) / 4) ((U3 + 1 + U3 / 4 % 2) / 4) ((i : Int) - 348)).1 : Nat), .int .i64 (pick3 ((U1 + od + 3) / 4) ((U2 - od) / 4) ((U3 + 1 + U3 / 4 % 2) / 4) ((i : Int) - 348)).2]) ∧ Below w.heap.size w w' := by
  obtain ⟨hhi, hlo, hrow⟩ := row_is ((i : Int) - 348) (by omega) (by omega)
  rw [show ((i : Int) - 348 + 348).toNat = i from by omega] at hhi hlo hrow
  have hge : loN i ≤ hiN i * 18446744073709551616 := by omega
  have HUS := Lib.hid (fun (x : Nat) (hx : x < 18446744073709551616) (W : World) (b : Nat) (c0 : W.cell? ⟨b, 0, Option.none⟩ = some (.int .u64 (hiN i))) (c1 : W.cell? ⟨b, 1, Option.none⟩ = some (.int .u64 (loN i))) (c2 : W.cell? ⟨b, 2, Option.none⟩ = some (.int .i64 s)) => uscale_at b x (hiN i) (loN i) s W hx hhi hlo hge hs c0 c1 c2)
  have hlp : -5000 ≤ lpN ((i : Int) - 348) ∧ lpN ((i : Int) - 348) ≤ 5000 := by unfold lpN; omega
  have hga : Glob (w.alloc (.cells #[.int .u64 0, .int .u64 0, .int .i64 0] 190)) := hg.alloc _
  have hlt17 := hg.lt
  have HPR := Lib.hid (prescale_at w.heap.size i e (lpN ((i : Int) - 348)) 190 (.int .u64 0) (.int .u64 0) (.int .i64 0) (w.alloc (.cells #[.int .u64 0, .int .u64 0, .int .i64 0] 190)) hga (heap_alloc_new _ _) hlt17 hi (by omega) (by omega) hlp.1 hlp.2)
  have hmq : ((m : Int) == 9223372036854775808) = false := by simp; omega
  have heq : decide (-1085 ≤ e) = true := by simpa using he1
  have hodd : bits BinOp.and IntKind.i64 ((m : Int) / 2048) 1 = (od : Int) := by
    have := Go.Proofs.and_one (m / 2048) (by omega)
    rw [ho] at this
    rw [← this]; push_cast; rfl
  clear ho
  have HSS := Lib.hid hss
  have HU1 := Lib.hid hU1
  have HU2 := Lib.hid hU2
  have HU3 := Lib.hid hU3
  clear hga hlt17 hrow hge hss hU1 hU2 hU3 hg hlo hhi
  go_enter Tryz.func133, Tryz.ntmps133
  go_wp2_with fail
  refine (l10_any _ _ (by omega) (by omega)).mono ?_
  rintro e' w' ⟨rfl, rfl⟩
  go_wp2_with fail
  refine (l2p_any _ _ (by omega) (by omega)).mono ?_
  rintro e' w' ⟨rfl, rfl⟩
  go_wp2_with fail
  refine HPR.out.mono ?_
  rintro e' w2 ⟨rfl, hc2, hb2', hz2⟩
  rw [HSS.out] at hc2
  have k0 : ∀ n, (w2.drewN n).cell? ⟨w.heap.size, 0, Option.none⟩ = some (.int .u64 (hiN i)) := fun n => cell_of_row (w2.drewN n) w.heap.size 0 _ _ _ hc2
  have k1 : ∀ n, (w2.drewN n).cell? ⟨w.heap.size, 1, Option.none⟩ = some (.int .u64 (loN i)) := fun n => cell_of_row (w2.drewN n) w.heap.size 1 _ _ _ hc2
  have k2 : ∀ n, (w2.drewN n).cell? ⟨w.heap.size, 2, Option.none⟩ = some (.int .i64 s) := fun n => cell_of_row (w2.drewN n) w.heap.size 2 _ _ _ hc2
  have hbw : Below w.heap.size w w2 := ((Below.refl _ _).alloc (Nat.le_refl _) _).trans hb2'
  have HK0 := Lib.hid k0
  have HK1 := Lib.hid k1
  have HK2 := Lib.hid k2
  have HBW := Lib.hid hbw
  clear hc2 hb2' hz2 k0 k1 k2 hbw
  go_wp2_with fail
  refine (HUS.out mn hmn w2 w.heap.size (HK0.out 0) (HK1.out 0) (HK2.out 0)).mono ?_
  rintro e' w3 ⟨rfl, n3, rfl⟩
  rw [HU1.out]
  go_wp2_with fail
  refine (nudge_any U1 od _ (by omega) (by omega) (by omega) (by omega)).mono ?_
  rintro e' w' ⟨rfl, rfl⟩
  rw [show (U1 : Int) + (od : Int) = ((U1 + od : Nat) : Int) from by push_cast; rfl]
  go_wp2_with fail
  refine (ceil_any (U1 + od) _ (by omega)).mono ?_
  rintro e' w' ⟨rfl, rfl⟩
  obtain ⟨dmin, hdmin⟩ : ∃ d, d = (U1 + od + 3) / 4 := ⟨_, rfl⟩
  rw [← hdmin]
  have hdn : dmin ≤ 2305843009213693952 := by omega
  have HDN := Lib.hid hdmin
  clear hdmin
  go_wp2_with fail
  refine (HUS.out mx hmx _ w.heap.size (HK0.out n3) (HK1.out n3) (HK2.out n3)).mono ?_
  rintro e' w4 ⟨rfl, n4, rfl⟩
  rw [HU2.out]
  rw [World.drewN_drewN]
  go_wp2_with fail
  refine (nudge_any U2 (-(od : Int)) _ (by omega) (by omega) (by omega) (by omega)).mono ?_
  rintro e' w' ⟨rfl, rfl⟩
  rw [show (U2 : Int) + -(od : Int) = ((U2 - od : Nat) : Int) from by omega]
  go_wp2_with fail
  refine (floor_any (U2 - od) _ (by omega)).mono ?_
  rintro e' w' ⟨rfl, rfl⟩
  obtain ⟨dmax, hdmax⟩ : ∃ d, d = (U2 - od) / 4 := ⟨_, rfl⟩
  rw [← hdmax]
  have hdx : dmax ≤ 2305843009213693952 := by omega
  have HDX := Lib.hid hdmax
  clear hdmax
  have hm10 : IntKind.u64.wrap ((dmax : Int) / 10 * 10) = ((dmax / 10 * 10 : Nat) : Int) := by rw [IntKind.wrap_u64]; omega
  by_cases h1 : dmin ≤ dmax / 10 * 10
  · have hi1 : decide ((dmin : Int) ≤ (dmax : Int) / 10 * 10) = true := by rw [decide_eq_true_eq]; omega
    have hi2 : decide (dmin ≤ dmax / 10 * 10) = true := by rw [decide_eq_true_eq]; omega
    have HF : Hid (pick3 dmin dmax ((U3 + 1 + U3 / 4 % 2) / 4) ((i : Int) - 348) = (dmax / 10, -((i : Int) - 348 - 1))) := Lib.hid (by unfold pick3; rw [if_pos h1])
    clear h1
    go_wp2_with fail
    refine bodyPost_ret (v := .tuple #[.int .u64 ((dmax : Int) / 10), .int .i64 (-((i : Int) - 348 - 1))]) (by simp [results, Tryz.results133, go_sem]) rfl ⟨?_, bDrewN HBW.out _⟩
    rw [← HDN.out, ← HDX.out, HF.out]
    push_cast
    rfl
  · have hi1 : decide ((dmin : Int) ≤ (dmax : Int) / 10 * 10) = false := by rw [decide_eq_false_iff_not]; omega
    have hi2 : decide (dmin ≤ dmax / 10 * 10) = false := by rw [decide_eq_false_iff_not]; omega
    by_cases h2 : dmin < dmax
    · have hi3 : decide (dmin < dmax) = true := by rw [decide_eq_true_eq]; omega
      have HF : Hid (pick3 dmin dmax ((U3 + 1 + U3 / 4 % 2) / 4) ((i : Int) - 348) = ((U3 + 1 + U3 / 4 % 2) / 4, -((i : Int) - 348))) := Lib.hid (by unfold pick3; rw [if_neg h1, if_pos h2])
      clear h1 h2
      go_wp2_with fail
      refine (HUS.out m (by omega) _ w.heap.size (HK0.out _) (HK1.out _) (HK2.out _)).mono ?_
      rintro e' w5 ⟨rfl, n5, rfl⟩
      rw [HU3.out, World.drewN_drewN]
      go_wp2_with fail
      refine (round_any U3 _ (by omega)).mono ?_
      rintro e' w' ⟨rfl, rfl⟩
      obtain ⟨d3, hd3⟩ : ∃ d, d = (U3 + 1 + U3 / 4 % 2) / 4 := ⟨_, rfl⟩
      rw [← hd3]
      have HD3 := Lib.hid hd3
      clear hd3
      go_wp2_with fail
      refine bodyPost_ret (v := .tuple #[.int .u64 (d3 : Int), .int .i64 (-((i : Int) - 348))]) (by simp [results, Tryz.results133, go_sem]) rfl ⟨?_, bDrewN HBW.out _⟩
      rw [← HDN.out, ← HDX.out, HF.out, ← HD3.out]
    · have hi3 : decide (dmin < dmax) = false := by rw [decide_eq_false_iff_not]; omega
      have HF : Hid (pick3 dmin dmax ((U3 + 1 + U3 / 4 % 2) / 4) ((i : Int) - 348) = (dmin, -((i : Int) - 348))) := Lib.hid (by unfold pick3; rw [if_neg h1, if_neg h2])
      clear h1 h2
      go_wp2_with fail
      refine bodyPost_ret (v := .tuple #[.int .u64 (dmin : Int), .int .i64 (-((i : Int) - 348))]) (by simp [results, Tryz.results133, go_sem]) rfl ⟨?_, bDrewN HBW.out _⟩
      rw [← HDN.out, ← HDX.out, HF.out]

set_option maxRecDepth 100000 in
set_option maxHeartbeats 4000000 in
theorem short_A (mn mx i s U1 U2 U3 od : Nat) (w : World) (hg : Glob w) (e : Int) (he1 : -1085 < e) (he2 : e ≤ 1000) (hn : mn = 9223372036854775296) (hx : mx = 9223372036854776832) (hp : -skwN (e + 11) = (i : Int) - 348) (ho : od = 0) (hss : -(e + lpN ((i : Int) - 348) + 3) = (s : Int))
    (hmn : mn < 18446744073709551616) (hmx : mx < 18446744073709551616) (hi : i < 696) (hod : od ≤ 1) (hs : s < 64)
    (hU1 : uscN mn (hiN i) (loN i) (2 ^ s) = U1) (hU2 : uscN mx (hiN i) (loN i) (2 ^ s) = U2)
    (hU3 : uscN 9223372036854775808 (hiN i) (loN i) (2 ^ s) = U3) (hb1 : U1 < 4611686018427387904) (hb2 : U2 < 4611686018427387904) (hb3 : U3 < 4611686018427387904) (hb4 : 1 ≤ U2) :
    Calls Tryz.prog 133 #[.int .u64 9223372036854775808, .int .i64 e] w fun e' w' =>
      e' = .returned (.tuple #[.int .u64 ((pick3 ((U1 + od + 3) / 4) ((U2 - od) / 4) ((U3 + 1 + U3 / 4 % 2) / 4) ((i : Int) - 348)).1 : Nat), .int .i64 (pick3 ((U1 + od + 3) / 4) ((U2 - od) / 4) ((U3 + 1 + U3 / 4 % 2) / 4) ((i : Int) - 348)).2]) ∧ Below w.heap.size w w' := by
  obtain ⟨hhi, hlo, hrow⟩ := row_is ((i : Int) - 348) (by omega) (by omega)
  rw [show ((i : Int) - 348 + 348).toNat = i from by omega] at hhi hlo hrow
  have hge : loN i ≤ hiN i * 18446744073709551616 := by omega
  have HUS := Lib.hid (fun (x : Nat) (hx : x < 18446744073709551616) (W : World) (b : Nat) (c0 : W.cell? ⟨b, 0, Option.none⟩ = some (.int .u64 (hiN i))) (c1 : W.cell? ⟨b, 1, Option.none⟩ = some (.int .u64 (loN i))) (c2 : W.cell? ⟨b, 2, Option.none⟩ = some (.int .i64 s)) => uscale_at b x (hiN i) (loN i) s W hx hhi hlo hge hs c0 c1 c2)
  have hlp : -5000 ≤ lpN ((i : Int) - 348) ∧ lpN ((i : Int) - 348) ≤ 5000 := by unfold lpN; omega
  have hga : Glob (w.alloc (.cells #[.int .u64 0, .int .u64 0, .int .i64 0] 190)) := hg.alloc _
  have hlt17 := hg.lt
  have HPR := Lib.hid (prescale_at w.heap.size i e (lpN ((i : Int) - 348)) 190 (.int .u64 0) (.int .u64 0) (.int .i64 0) (w.alloc (.cells #[.int .u64 0, .int .u64 0, .int .i64 0] 190)) hga (heap_alloc_new _ _) hlt17 hi (by omega) (by omega) hlp.1 hlp.2)
  have hn' : (9223372036854775296 : Int) = (mn : Int) := by omega
  have hx' : (9223372036854776832 : Int) = (mx : Int) := by omega
  have hodd : bits BinOp.and IntKind.i64 4503599627370496 1 = (od : Int) := by rw [ho]; decide +kernel
  clear ho hn hx
  have HSS := Lib.hid hss
  have HU1 := Lib.hid hU1
  have HU2 := Lib.hid hU2
  have HU3 := Lib.hid hU3
  clear hga hlt17 hrow hge hss hU1 hU2 hU3 hg hlo hhi
  go_enter Tryz.func133, Tryz.ntmps133
  go_wp2_with fail
  refine (skewed_any _ _ (by omega) (by omega)).mono ?_
  rintro e' w' ⟨rfl, rfl⟩
  go_wp2_with fail
  refine (l2p_any _ _ (by omega) (by omega)).mono ?_
  rintro e' w' ⟨rfl, rfl⟩
  go_wp2_with fail
  refine HPR.out.mono ?_
  rintro e' w2 ⟨rfl, hc2, hb2', hz2⟩
  rw [HSS.out] at hc2
  have k0 : ∀ n, (w2.drewN n).cell? ⟨w.heap.size, 0, Option.none⟩ = some (.int .u64 (hiN i)) := fun n => cell_of_row (w2.drewN n) w.heap.size 0 _ _ _ hc2
  have k1 : ∀ n, (w2.drewN n).cell? ⟨w.heap.size, 1, Option.none⟩ = some (.int .u64 (loN i)) := fun n => cell_of_row (w2.drewN n) w.heap.size 1 _ _ _ hc2
  have k2 : ∀ n, (w2.drewN n).cell? ⟨w.heap.size, 2, Option.none⟩ = some (.int .i64 s) := fun n => cell_of_row (w2.drewN n) w.heap.size 2 _ _ _ hc2
  have hbw : Below w.heap.size w w2 := ((Below.refl _ _).alloc (Nat.le_refl _) _).trans hb2'
  have HK0 := Lib.hid k0
  have HK1 := Lib.hid k1
  have HK2 := Lib.hid k2
  have HBW := Lib.hid hbw
  clear hc2 hb2' hz2 k0 k1 k2 hbw
  go_wp2_with fail
  refine (HUS.out mn hmn w2 w.heap.size (HK0.out 0) (HK1.out 0) (HK2.out 0)).mono ?_
  rintro e' w3 ⟨rfl, n3, rfl⟩
  rw [HU1.out]
  go_wp2_with fail
  refine (nudge_any U1 od _ (by omega) (by omega) (by omega) (by omega)).mono ?_
  rintro e' w' ⟨rfl, rfl⟩
  rw [show (U1 : Int) + (od : Int) = ((U1 + od : Nat) : Int) from by push_cast; rfl]
  go_wp2_with fail
  refine (ceil_any (U1 + od) _ (by omega)).mono ?_
  rintro e' w' ⟨rfl, rfl⟩
  obtain ⟨dmin, hdmin⟩ : ∃ d, d = (U1 + od + 3) / 4 := ⟨_, rfl⟩
  rw [← hdmin]
  have hdn : dmin ≤ 2305843009213693952 := by omega
  have HDN := Lib.hid hdmin
  clear hdmin
  go_wp2_with fail
  refine (HUS.out mx hmx _ w.heap.size (HK0.out n3) (HK1.out n3) (HK2.out n3)).mono ?_
  rintro e' w4 ⟨rfl, n4, rfl⟩
  rw [HU2.out]
  rw [World.drewN_drewN]
  go_wp2_with fail
  refine (nudge_any U2 (-(od : Int)) _ (by omega) (by omega) (by omega) (by omega)).mono ?_
  rintro e' w' ⟨rfl, rfl⟩
  rw [show (U2 : Int) + -(od : Int) = ((U2 - od : Nat) : Int) from by omega]
  go_wp2_with fail
  refine (floor_any (U2 - od) _ (by omega)).mono ?_
  rintro e' w' ⟨rfl, rfl⟩
  obtain ⟨dmax, hdmax⟩ : ∃ d, d = (U2 - od) / 4 := ⟨_, rfl⟩
  rw [← hdmax]
  have hdx : dmax ≤ 2305843009213693952 := by omega
  have HDX := Lib.hid hdmax
  clear hdmax
  have hm10 : IntKind.u64.wrap ((dmax : Int) / 10 * 10) = ((dmax / 10 * 10 : Nat) : Int) := by rw [IntKind.wrap_u64]; omega
  by_cases h1 : dmin ≤ dmax / 10 * 10
  · have hi1 : decide ((dmin : Int) ≤ (dmax : Int) / 10 * 10) = true := by rw [decide_eq_true_eq]; omega
    have hi2 : decide (dmin ≤ dmax / 10 * 10) = true := by rw [decide_eq_true_eq]; omega
    have HF : Hid (pick3 dmin dmax ((U3 + 1 + U3 / 4 % 2) / 4) ((i : Int) - 348) = (dmax / 10, -((i : Int) - 348 - 1))) := Lib.hid (by unfold pick3; rw [if_pos h1])
    clear h1
    go_wp2_with fail
    refine bodyPost_ret (v := .tuple #[.int .u64 ((dmax : Int) / 10), .int .i64 (-((i : Int) - 348 - 1))]) (by simp [results, Tryz.results133, go_sem]) rfl ⟨?_, bDrewN HBW.out _⟩
    rw [← HDN.out, ← HDX.out, HF.out]
    push_cast
    rfl
  · have hi1 : decide ((dmin : Int) ≤ (dmax : Int) / 10 * 10) = false := by rw [decide_eq_false_iff_not]; omega
    have hi2 : decide (dmin ≤ dmax / 10 * 10) = false := by rw [decide_eq_false_iff_not]; omega
    by_cases h2 : dmin < dmax
    · have hi3 : decide (dmin < dmax) = true := by rw [decide_eq_true_eq]; omega
      have HF : Hid (pick3 dmin dmax ((U3 + 1 + U3 / 4 % 2) / 4) ((i : Int) - 348) = ((U3 + 1 + U3 / 4 % 2) / 4, -((i : Int) - 348))) := Lib.hid (by unfold pick3; rw [if_neg h1, if_pos h2])
      clear h1 h2
      go_wp2_with fail
      refine (HUS.out 9223372036854775808 (by omega) _ w.heap.size (HK0.out _) (HK1.out _) (HK2.out _)).mono ?_
      rintro e' w5 ⟨rfl, n5, rfl⟩
      rw [HU3.out, World.drewN_drewN]
      go_wp2_with fail
      refine (round_any U3 _ (by omega)).mono ?_
      rintro e' w' ⟨rfl, rfl⟩
      obtain ⟨d3, hd3⟩ : ∃ d, d = (U3 + 1 + U3 / 4 % 2) / 4 := ⟨_, rfl⟩
      rw [← hd3]
      have HD3 := Lib.hid hd3
      clear hd3
      go_wp2_with fail
      refine bodyPost_ret (v := .tuple #[.int .u64 (d3 : Int), .int .i64 (-((i : Int) - 348))]) (by simp [results, Tryz.results133, go_sem]) rfl ⟨?_, bDrewN HBW.out _⟩
      rw [← HDN.out, ← HDX.out, HF.out, ← HD3.out]
    · have hi3 : decide (dmin < dmax) = false := by rw [decide_eq_false_iff_not]; omega
      have HF : Hid (pick3 dmin dmax ((U3 + 1 + U3 / 4 % 2) / 4) ((i : Int) - 348) = (dmin, -((i : Int) - 348))) := Lib.hid (by unfold pick3; rw [if_neg h1, if_neg h2])
      clear h1 h2
      go_wp2_with fail
      refine bodyPost_ret (v := .tuple #[.int .u64 (dmin : Int), .int .i64 (-((i : Int) - 348))]) (by simp [results, Tryz.results133, go_sem]) rfl ⟨?_, bDrewN HBW.out _⟩
      rw [← HDN.out, ← HDX.out, HF.out]

set_option maxRecDepth 100000 in
set_option maxHeartbeats 4000000 in
theorem short_B1 (mn mx i s U1 U2 U3 od : Nat) (w : World) (hg : Glob w) (e : Int) (he : e = -1085) (hn : mn = 9223372036854774784) (hx : mx = 9223372036854776832) (hp : -l10N (e + 11) = (i : Int) - 348) (ho : od = 0) (hss : -(e + lpN ((i : Int) - 348) + 3) = (s : Int))
    (hmn : mn < 18446744073709551616) (hmx : mx < 18446744073709551616) (hi : i < 696) (hod : od ≤ 1) (hs : s < 64)
    (hU1 : uscN mn (hiN i) (loN i) (2 ^ s) = U1) (hU2 : uscN mx (hiN i) (loN i) (2 ^ s) = U2)
    (hU3 : uscN 9223372036854775808 (hiN i) (loN i) (2 ^ s) = U3) (hb1 : U1 < 4611686018427387904) (hb2 : U2 < 4611686018427387904) (hb3 : U3 < 4611686018427387904) (hb4 : 1 ≤ U2) :
    Calls Tryz.prog 133 #[.int .u64 9223372036854775808, .int .i64 e] w fun e' w' =>
      e' = .returned (.tuple #[.int .u64 ((pick3 ((U1 + od + 3) / 4) ((U2 - od) / 4) ((U3 + 1 + U3 / 4 % 2) / 4) ((i : Int) - 348)).1 : Nat), .int .i64 (pick3 ((U1 + od + 3) / 4) ((U2 - od) / 4) ((U3 + 1 + U3 / 4 % 2) / 4) ((i : Int) - 348)).2]) ∧ Below w.heap.size w w' := by
  obtain ⟨hhi, hlo, hrow⟩ := row_is ((i : Int) - 348) (by omega) (by omega)
  rw [show ((i : Int) - 348 + 348).toNat = i from by omega] at hhi hlo hrow
  have hge : loN i ≤ hiN i * 18446744073709551616 := by omega
  have HUS := Lib.hid (fun (x : Nat) (hx : x < 18446744073709551616) (W : World) (b : Nat) (c0 : W.cell? ⟨b, 0, Option.none⟩ = some (.int .u64 (hiN i))) (c1 : W.cell? ⟨b, 1, Option.none⟩ = some (.int .u64 (loN i))) (c2 : W.cell? ⟨b, 2, Option.none⟩ = some (.int .i64 s)) => uscale_at b x (hiN i) (loN i) s W hx hhi hlo hge hs c0 c1 c2)
  have hlp : -5000 ≤ lpN ((i : Int) - 348) ∧ lpN ((i : Int) - 348) ≤ 5000 := by unfold lpN; omega
  have hga : Glob (w.alloc (.cells #[.int .u64 0, .int .u64 0, .int .i64 0] 190)) := hg.alloc _
  have hlt17 := hg.lt
  have HPR := Lib.hid (prescale_at w.heap.size i e (lpN ((i : Int) - 348)) 190 (.int .u64 0) (.int .u64 0) (.int .i64 0) (w.alloc (.cells #[.int .u64 0, .int .u64 0, .int .i64 0] 190)) hga (heap_alloc_new _ _) hlt17 hi (by omega) (by omega) hlp.1 hlp.2)
  have hn' : (9223372036854774784 : Int) = (mn : Int) := by omega
  have hx' : (9223372036854776832 : Int) = (mx : Int) := by omega
  have hgt : decide (-1085 < e) = false := by simp; omega
  have heq : decide (-1085 ≤ e) = true := by simp; omega
  have hodd : bits BinOp.and IntKind.i64 4503599627370496 1 = (od : Int) := by rw [ho]; decide +kernel
  have he1 : -1085 ≤ e := by omega
  have he2 : e ≤ -1085 := by omega
  clear ho hn hx he
  have HSS := Lib.hid hss
  have HU1 := Lib.hid hU1
  have HU2 := Lib.hid hU2
  have HU3 := Lib.hid hU3
  clear hga hlt17 hrow hge hss hU1 hU2 hU3 hg hlo hhi
  go_enter Tryz.func133, Tryz.ntmps133
  go_wp2_with fail
  refine (l10_any _ _ (by omega) (by omega)).mono ?_
  rintro e' w' ⟨rfl, rfl⟩
  go_wp2_with fail
  refine (l2p_any _ _ (by omega) (by omega)).mono ?_
  rintro e' w' ⟨rfl, rfl⟩
  go_wp2_with fail
  refine HPR.out.mono ?_
  rintro e' w2 ⟨rfl, hc2, hb2', hz2⟩
  rw [HSS.out] at hc2
  have k0 : ∀ n, (w2.drewN n).cell? ⟨w.heap.size, 0, Option.none⟩ = some (.int .u64 (hiN i)) := fun n => cell_of_row (w2.drewN n) w.heap.size 0 _ _ _ hc2
  have k1 : ∀ n, (w2.drewN n).cell? ⟨w.heap.size, 1, Option.none⟩ = some (.int .u64 (loN i)) := fun n => cell_of_row (w2.drewN n) w.heap.size 1 _ _ _ hc2
  have k2 : ∀ n, (w2.drewN n).cell? ⟨w.heap.size, 2, Option.none⟩ = some (.int .i64 s) := fun n => cell_of_row (w2.drewN n) w.heap.size 2 _ _ _ hc2
  have hbw : Below w.heap.size w w2 := ((Below.refl _ _).alloc (Nat.le_refl _) _).trans hb2'
  have HK0 := Lib.hid k0
  have HK1 := Lib.hid k1
  have HK2 := Lib.hid k2
  have HBW := Lib.hid hbw
  clear hc2 hb2' hz2 k0 k1 k2 hbw
  go_wp2_with fail
  refine (HUS.out mn hmn w2 w.heap.size (HK0.out 0) (HK1.out 0) (HK2.out 0)).mono ?_
  rintro e' w3 ⟨rfl, n3, rfl⟩
  rw [HU1.out]
  go_wp2_with fail
  refine (nudge_any U1 od _ (by omega) (by omega) (by omega) (by omega)).mono ?_
  rintro e' w' ⟨rfl, rfl⟩
  rw [show (U1 : Int) + (od : Int) = ((U1 + od : Nat) : Int) from by push_cast; rfl]
  go_wp2_with fail
  refine (ceil_any (U1 + od) _ (by omega)).mono ?_
  rintro e' w' ⟨rfl, rfl⟩
  obtain ⟨dmin, hdmin⟩ : ∃ d, d = (U1 + od + 3) / 4 := ⟨_, rfl⟩
  rw [← hdmin]
  have hdn : dmin ≤ 2305843009213693952 := by omega
  have HDN := Lib.hid hdmin
  clear hdmin
  go_wp2_with fail
  refine (HUS.out mx hmx _ w.heap.size (HK0.out n3) (HK1.out n3) (HK2.out n3)).mono ?_
  rintro e' w4 ⟨rfl, n4, rfl⟩
  rw [HU2.out]
  rw [World.drewN_drewN]
  go_wp2_with fail
  refine (nudge_any U2 (-(od : Int)) _ (by omega) (by omega) (by omega) (by omega)).mono ?_
  rintro e' w' ⟨rfl, rfl⟩
  rw [show (U2 : Int) + -(od : Int) = ((U2 - od : Nat) : Int) from by omega]
  go_wp2_with fail
  refine (floor_any (U2 - od) _ (by omega)).mono ?_
  rintro e' w' ⟨rfl, rfl⟩
  obtain ⟨dmax, hdmax⟩ : ∃ d, d = (U2 - od) / 4 := ⟨_, rfl⟩
  rw [← hdmax]
  have hdx : dmax ≤ 2305843009213693952 := by omega
  have HDX := Lib.hid hdmax
  clear hdmax
  have hm10 : IntKind.u64.wrap ((dmax : Int) / 10 * 10) = ((dmax / 10 * 10 : Nat) : Int) := by rw [IntKind.wrap_u64]; omega
  by_cases h1 : dmin ≤ dmax / 10 * 10
  · have hi1 : decide ((dmin : Int) ≤ (dmax : Int) / 10 * 10) = true := by rw [decide_eq_true_eq]; omega
    have hi2 : decide (dmin ≤ dmax / 10 * 10) = true := by rw [decide_eq_true_eq]; omega
    have HF : Hid (pick3 dmin dmax ((U3 + 1 + U3 / 4 % 2) / 4) ((i : Int) - 348) = (dmax / 10, -((i : Int) - 348 - 1))) := Lib.hid (by unfold pick3; rw [if_pos h1])
    clear h1
    go_wp2_with fail
    refine bodyPost_ret (v := .tuple #[.int .u64 ((dmax : Int) / 10), .int .i64 (-((i : Int) - 348 - 1))]) (by simp [results, Tryz.results133, go_sem]) rfl ⟨?_, bDrewN HBW.out _⟩
    rw [← HDN.out, ← HDX.out, HF.out]
    push_cast
    rfl
  · have hi1 : decide ((dmin : Int) ≤ (dmax : Int) / 10 * 10) = false := by rw [decide_eq_false_iff_not]; omega
    have hi2 : decide (dmin ≤ dmax / 10 * 10) = false := by rw [decide_eq_false_iff_not]; omega
    by_cases h2 : dmin < dmax
    · have hi3 : decide (dmin < dmax) = true := by rw [decide_eq_true_eq]; omega
      have HF : Hid (pick3 dmin dmax ((U3 + 1 + U3 / 4 % 2) / 4) ((i : Int) - 348) = ((U3 + 1 + U3 / 4 % 2) / 4, -((i : Int) - 348))) := Lib.hid (by unfold pick3; rw [if_neg h1, if_pos h2])
      clear h1 h2
      go_wp2_with fail
      refine (HUS.out 9223372036854775808 (by omega) _ w.heap.size (HK0.out _) (HK1.out _) (HK2.out _)).mono ?_
      rintro e' w5 ⟨rfl, n5, rfl⟩
      rw [HU3.out, World.drewN_drewN]
      go_wp2_with fail
      refine (round_any U3 _ (by omega)).mono ?_
      rintro e' w' ⟨rfl, rfl⟩
      obtain ⟨d3, hd3⟩ : ∃ d, d = (U3 + 1 + U3 / 4 % 2) / 4 := ⟨_, rfl⟩
      rw [← hd3]
      have HD3 := Lib.hid hd3
      clear hd3
      go_wp2_with fail
      refine bodyPost_ret (v := .tuple #[.int .u64 (d3 : Int), .int .i64 (-((i : Int) - 348))]) (by simp [results, Tryz.results133, go_sem]) rfl ⟨?_, bDrewN HBW.out _⟩
      rw [← HDN.out, ← HDX.out, HF.out, ← HD3.out]
    · have hi3 : decide (dmin < dmax) = false := by rw [decide_eq_false_iff_not]; omega
      have HF : Hid (pick3 dmin dmax ((U3 + 1 + U3 / 4 % 2) / 4) ((i : Int) - 348) = (dmin, -((i : Int) - 348))) := Lib.hid (by unfold pick3; rw [if_neg h1, if_neg h2])
      clear h1 h2
      go_wp2_with fail
      refine bodyPost_ret (v := .tuple #[.int .u64 (dmin : Int), .int .i64 (-((i : Int) - 348))]) (by simp [results, Tryz.results133, go_sem]) rfl ⟨?_, bDrewN HBW.out _⟩
      rw [← HDN.out, ← HDX.out, HF.out]

set_option maxRecDepth 100000 in
set_option maxHeartbeats 4000000 in
theorem short_Ctrue (m z mn mx i s U1 U2 U3 od : Nat) (w : World) (hg : Glob w) (e : Int) (hm2 : m < 18446744073709551616) (_hm1 : 9223372036854775808 ≤ m) (hmq : ((m : Int) == 9223372036854775808) = true) (hz1 : 12 ≤ z) (hz2 : z ≤ 63) (he : e + (z : Int) = -1074) (hn : (m : Int) - 2 ^ (z - 1) = mn) (hx : (m : Int) + 2 ^ (z - 1) = mx) (hp : -l10N (-1074) = (i : Int) - 348) (ho : m / 2 ^ z % 2 = od) (hss : -(e + lpN ((i : Int) - 348) + 3) = (s : Int))
    (hmn : mn < 18446744073709551616) (hmx : mx < 18446744073709551616) (hi : i < 696) (hod : od ≤ 1) (hs : s < 64)
    (hU1 : uscN mn (hiN i) (loN i) (2 ^ s) = U1) (hU2 : uscN mx (hiN i) (loN i) (2 ^ s) = U2)
    (hU3 : uscN m (hiN i) (loN i) (2 ^ s) = U3) (hb1 : U1 < 4611686018427387904) (hb2 : U2 < 4611686018427387904) (hb3 : U3 < 4611686018427387904) (hb4 : 1 ≤ U2) :
    Calls Tryz.prog 133 #[.int .u64 m, .int .i64 e] w fun e' w' =>
      e' = .returned (.tuple #[.int .u64 ((pick3 ((U1 + od + 3) / 4) ((U2 - od) / 4) ((U3 + 1 + U3 / 4 % 2) / 4) ((i : Int) - 348)).1 : Nat), .int .i64 (pick3 ((U1 + od + 3) / 4) ((U2 - od) / 4) ((U3 + 1 + U3 / 4 % 2) / 4) ((i : Int) - 348)).2]) ∧ Below w.heap.size w w' := by
  obtain ⟨hhi, hlo, hrow⟩ := row_is ((i : Int) - 348) (by omega) (by omega)
  rw [show ((i : Int) - 348 + 348).toNat = i from by omega] at hhi hlo hrow
  have hge : loN i ≤ hiN i * 18446744073709551616 := by omega
  have HUS := Lib.hid (fun (x : Nat) (hx : x < 18446744073709551616) (W : World) (b : Nat) (c0 : W.cell? ⟨b, 0, Option.none⟩ = some (.int .u64 (hiN i))) (c1 : W.cell? ⟨b, 1, Option.none⟩ = some (.int .u64 (loN i))) (c2 : W.cell? ⟨b, 2, Option.none⟩ = some (.int .i64 s)) => uscale_at b x (hiN i) (loN i) s W hx hhi hlo hge hs c0 c1 c2)
  have hlp : -5000 ≤ lpN ((i : Int) - 348) ∧ lpN ((i : Int) - 348) ≤ 5000 := by unfold lpN; omega
  have hga : Glob (w.alloc (.cells #[.int .u64 0, .int .u64 0, .int .i64 0] 190)) := hg.alloc _
  have hlt17 := hg.lt
  have HPR := Lib.hid (prescale_at w.heap.size i e (lpN ((i : Int) - 348)) 190 (.int .u64 0) (.int .u64 0) (.int .i64 0) (w.alloc (.cells #[.int .u64 0, .int .u64 0, .int .i64 0] 190)) hga (heap_alloc_new _ _) hlt17 hi (by omega) (by omega) hlp.1 hlp.2)
  have hzz : (11 : Int) + (-1085 - e) = (z : Int) := by omega
  obtain ⟨hn', hx', hodd⟩ := c_facts m z mn mx od hm2 hz1 hz2 hn hx ho hmn hmx
  clear hn hx
  have hgt : decide (-1085 < e) = false := by simp; omega
  have heq : decide (-1085 ≤ e) = false := by simp; omega
  have he1 : -1137 ≤ e := by omega
  have he2 : e ≤ -1086 := by omega
  clear ho
  have HSS := Lib.hid hss
  have HU1 := Lib.hid hU1
  have HU2 := Lib.hid hU2
  have HU3 := Lib.hid hU3
  clear hga hlt17 hrow hge hss hU1 hU2 hU3 hg hlo hhi
  go_enter Tryz.func133, Tryz.ntmps133
  go_wp2_with fail
  refine (l10_any _ _ (by omega) (by omega)).mono ?_
  rintro e' w' ⟨rfl, rfl⟩
  go_wp2_with fail
  refine (l2p_any _ _ (by omega) (by omega)).mono ?_
  rintro e' w' ⟨rfl, rfl⟩
  go_wp2_with fail
  refine HPR.out.mono ?_
  rintro e' w2 ⟨rfl, hc2, hb2', hz2⟩
  rw [HSS.out] at hc2
  have k0 : ∀ n, (w2.drewN n).cell? ⟨w.heap.size, 0, Option.none⟩ = some (.int .u64 (hiN i)) := fun n => cell_of_row (w2.drewN n) w.heap.size 0 _ _ _ hc2
  have k1 : ∀ n, (w2.drewN n).cell? ⟨w.heap.size, 1, Option.none⟩ = some (.int .u64 (loN i)) := fun n => cell_of_row (w2.drewN n) w.heap.size 1 _ _ _ hc2
  have k2 : ∀ n, (w2.drewN n).cell? ⟨w.heap.size, 2, Option.none⟩ = some (.int .i64 s) := fun n => cell_of_row (w2.drewN n) w.heap.size 2 _ _ _ hc2
  have hbw : Below w.heap.size w w2 := ((Below.refl _ _).alloc (Nat.le_refl _) _).trans hb2'
  have HK0 := Lib.hid k0
  have HK1 := Lib.hid k1
  have HK2 := Lib.hid k2
  have HBW := Lib.hid hbw
  clear hc2 hb2' hz2 k0 k1 k2 hbw
  go_wp2_with fail
  clear hn' hx' hodd he hgt heq hzz hp hlp
  refine (HUS.out mn hmn w2 w.heap.size (HK0.out 0) (HK1.out 0) (HK2.out 0)).mono ?_
  rintro e' w3 ⟨rfl, n3, rfl⟩
  rw [HU1.out]
  go_wp2_with fail
  refine (nudge_any U1 od _ (by omega) (by omega) (by omega) (by omega)).mono ?_
  rintro e' w' ⟨rfl, rfl⟩
  rw [show (U1 : Int) + (od : Int) = ((U1 + od : Nat) : Int) from by push_cast; rfl]
  go_wp2_with fail
  refine (ceil_any (U1 + od) _ (by omega)).mono ?_
  rintro e' w' ⟨rfl, rfl⟩
  obtain ⟨dmin, hdmin⟩ : ∃ d, d = (U1 + od + 3) / 4 := ⟨_, rfl⟩
  rw [← hdmin]
  have hdn : dmin ≤ 2305843009213693952 := by omega
  have HDN := Lib.hid hdmin
  clear hdmin
  go_wp2_with fail
  refine (HUS.out mx hmx _ w.heap.size (HK0.out n3) (HK1.out n3) (HK2.out n3)).mono ?_
  rintro e' w4 ⟨rfl, n4, rfl⟩
  rw [HU2.out]
  rw [World.drewN_drewN]
  go_wp2_with fail
  refine (nudge_any U2 (-(od : Int)) _ (by omega) (by omega) (by omega) (by omega)).mono ?_
  rintro e' w' ⟨rfl, rfl⟩
  rw [show (U2 : Int) + -(od : Int) = ((U2 - od : Nat) : Int) from by omega]
  go_wp2_with fail
  refine (floor_any (U2 - od) _ (by omega)).mono ?_
  rintro e' w' ⟨rfl, rfl⟩
  obtain ⟨dmax, hdmax⟩ : ∃ d, d = (U2 - od) / 4 := ⟨_, rfl⟩
  rw [← hdmax]
  have hdx : dmax ≤ 2305843009213693952 := by omega
  have HDX := Lib.hid hdmax
  clear hdmax
  have hm10 : IntKind.u64.wrap ((dmax : Int) / 10 * 10) = ((dmax / 10 * 10 : Nat) : Int) := by rw [IntKind.wrap_u64]; omega
  by_cases h1 : dmin ≤ dmax / 10 * 10
  · have hi1 : decide ((dmin : Int) ≤ (dmax : Int) / 10 * 10) = true := by rw [decide_eq_true_eq]; omega
    have hi2 : decide (dmin ≤ dmax / 10 * 10) = true := by rw [decide_eq_true_eq]; omega
    have HF : Hid (pick3 dmin dmax ((U3 + 1 + U3 / 4 % 2) / 4) ((i : Int) - 348) = (dmax / 10, -((i : Int) - 348 - 1))) := Lib.hid (by unfold pick3; rw [if_pos h1])
    clear h1
    go_wp2_with fail
    refine bodyPost_ret (v := .tuple #[.int .u64 ((dmax : Int) / 10), .int .i64 (-((i : Int) - 348 - 1))]) (by simp [results, Tryz.results133, go_sem]) rfl ⟨?_, bDrewN HBW.out _⟩
    rw [← HDN.out, ← HDX.out, HF.out]
    push_cast
    rfl
  · have hi1 : decide ((dmin : Int) ≤ (dmax : Int) / 10 * 10) = false := by rw [decide_eq_false_iff_not]; omega
    have hi2 : decide (dmin ≤ dmax / 10 * 10) = false := by rw [decide_eq_false_iff_not]; omega
    by_cases h2 : dmin < dmax
    · have hi3 : decide (dmin < dmax) = true := by rw [decide_eq_true_eq]; omega
      have HF : Hid (pick3 dmin dmax ((U3 + 1 + U3 / 4 % 2) / 4) ((i : Int) - 348) = ((U3 + 1 + U3 / 4 % 2) / 4, -((i : Int) - 348))) := Lib.hid (by unfold pick3; rw [if_neg h1, if_pos h2])
      clear h1 h2
      go_wp2_with fail
      refine (HUS.out m (by omega) _ w.heap.size (HK0.out _) (HK1.out _) (HK2.out _)).mono ?_
      rintro e' w5 ⟨rfl, n5, rfl⟩
      rw [HU3.out, World.drewN_drewN]
      go_wp2_with fail
      refine (round_any U3 _ (by omega)).mono ?_
      rintro e' w' ⟨rfl, rfl⟩
      obtain ⟨d3, hd3⟩ : ∃ d, d = (U3 + 1 + U3 / 4 % 2) / 4 := ⟨_, rfl⟩
      rw [← hd3]
      have HD3 := Lib.hid hd3
      clear hd3
      go_wp2_with fail
      refine bodyPost_ret (v := .tuple #[.int .u64 (d3 : Int), .int .i64 (-((i : Int) - 348))]) (by simp [results, Tryz.results133, go_sem]) rfl ⟨?_, bDrewN HBW.out _⟩
      rw [← HDN.out, ← HDX.out, HF.out, ← HD3.out]
    · have hi3 : decide (dmin < dmax) = false := by rw [decide_eq_false_iff_not]; omega
      have HF : Hid (pick3 dmin dmax ((U3 + 1 + U3 / 4 % 2) / 4) ((i : Int) - 348) = (dmin, -((i : Int) - 348))) := Lib.hid (by unfold pick3; rw [if_neg h1, if_neg h2])
      clear h1 h2
      go_wp2_with fail
      refine bodyPost_ret (v := .tuple #[.int .u64 (dmin : Int), .int .i64 (-((i : Int) - 348))]) (by simp [results, Tryz.results133, go_sem]) rfl ⟨?_, bDrewN HBW.out _⟩
      rw [← HDN.out, ← HDX.out, HF.out]

set_option maxRecDepth 100000 in
set_option maxHeartbeats 4000000 in
theorem short_Cfalse (m z mn mx i s U1 U2 U3 od : Nat) (w : World) (hg : Glob w) (e : Int) (hm2 : m < 18446744073709551616) (_hm1 : 9223372036854775808 ≤ m) (hmq : ((m : Int) == 9223372036854775808) = false) (hz1 : 12 ≤ z) (hz2 : z ≤ 63) (he : e + (z : Int) = -1074) (hn : (m : Int) - 2 ^ (z - 1) = mn) (hx : (m : Int) + 2 ^ (z - 1) = mx) (hp : -l10N (-1074) = (i : Int) - 348) (ho : m / 2 ^ z % 2 = od) (hss : -(e + lpN ((i : Int) - 348) + 3) = (s : Int))
    (hmn : mn < 18446744073709551616) (hmx : mx < 18446744073709551616) (hi : i < 696) (hod : od ≤ 1) (hs : s < 64)
    (hU1 : uscN mn (hiN i) (loN i) (2 ^ s) = U1) (hU2 : uscN mx (hiN i) (loN i) (2 ^ s) = U2)
    (hU3 : uscN m (hiN i) (loN i) (2 ^ s) = U3) (hb1 : U1 < 4611686018427387904) (hb2 : U2 < 4611686018427387904) (hb3 : U3 < 4611686018427387904) (hb4 : 1 ≤ U2) :
    Calls Tryz.prog 133 #[.int .u64 m, .int .i64 e] w fun e' w' =>
      e' = .returned (.tuple #[.int .u64 ((pick3 ((U1 + od + 3) / 4) ((U2 - od) / 4) ((U3 + 1 + U3 / 4 % 2) / 4) ((i : Int) - 348)).1 : Nat), .int .i64 (pick3 ((U1 + od + 3) / 4) ((U2 - od) / 4) ((U3 + 1 + U3 / 4 % 2) / 4) ((i : Int) - 348)).2]) ∧ Below w.heap.size w w' := by
  obtain ⟨hhi, hlo, hrow⟩ := row_is ((i : Int) - 348) (by omega) (by omega)
  rw [show ((i : Int) - 348 + 348).toNat = i from by omega] at hhi hlo hrow
  have hge : loN i ≤ hiN i * 18446744073709551616 := by omega
  have HUS := Lib.hid (fun (x : Nat) (hx : x < 18446744073709551616) (W : World) (b : Nat) (c0 : W.cell? ⟨b, 0, Option.none⟩ = some (.int .u64 (hiN i))) (c1 : W.cell? ⟨b, 1, Option.none⟩ = some (.int .u64 (loN i))) (c2 : W.cell? ⟨b, 2, Option.none⟩ = some (.int .i64 s)) => uscale_at b x (hiN i) (loN i) s W hx hhi hlo hge hs c0 c1 c2)
  have hlp : -5000 ≤ lpN ((i : Int) - 348) ∧ lpN ((i : Int) - 348) ≤ 5000 := by unfold lpN; omega
  have hga : Glob (w.alloc (.cells #[.int .u64 0, .int .u64 0, .int .i64 0] 190)) := hg.alloc _
  have hlt17 := hg.lt
  have HPR := Lib.hid (prescale_at w.heap.size i e (lpN ((i : Int) - 348)) 190 (.int .u64 0) (.int .u64 0) (.int .i64 0) (w.alloc (.cells #[.int .u64 0, .int .u64 0, .int .i64 0] 190)) hga (heap_alloc_new _ _) hlt17 hi (by omega) (by omega) hlp.1 hlp.2)
  have hzz : (11 : Int) + (-1085 - e) = (z : Int) := by omega
  obtain ⟨hn', hx', hodd⟩ := c_facts m z mn mx od hm2 hz1 hz2 hn hx ho hmn hmx
  clear hn hx
  have hgt : decide (-1085 < e) = false := by simp; omega
  have heq : decide (-1085 ≤ e) = false := by simp; omega
  have he1 : -1137 ≤ e := by omega
  have he2 : e ≤ -1086 := by omega
  clear ho
  have HSS := Lib.hid hss
  have HU1 := Lib.hid hU1
  have HU2 := Lib.hid hU2
  have HU3 := Lib.hid hU3
  clear hga hlt17 hrow hge hss hU1 hU2 hU3 hg hlo hhi
  go_enter Tryz.func133, Tryz.ntmps133
  go_wp2_with fail
  refine (l10_any _ _ (by omega) (by omega)).mono ?_
  rintro e' w' ⟨rfl, rfl⟩
  go_wp2_with fail
  refine (l2p_any _ _ (by omega) (by omega)).mono ?_
  rintro e' w' ⟨rfl, rfl⟩
  go_wp2_with fail
  refine HPR.out.mono ?_
  rintro e' w2 ⟨rfl, hc2, hb2', hz2⟩
  rw [HSS.out] at hc2
  have k0 : ∀ n, (w2.drewN n).cell? ⟨w.heap.size, 0, Option.none⟩ = some (.int .u64 (hiN i)) := fun n => cell_of_row (w2.drewN n) w.heap.size 0 _ _ _ hc2
  have k1 : ∀ n, (w2.drewN n).cell? ⟨w.heap.size, 1, Option.none⟩ = some (.int .u64 (loN i)) := fun n => cell_of_row (w2.drewN n) w.heap.size 1 _ _ _ hc2
  have k2 : ∀ n, (w2.drewN n).cell? ⟨w.heap.size, 2, Option.none⟩ = some (.int .i64 s) := fun n => cell_of_row (w2.drewN n) w.heap.size 2 _ _ _ hc2
  have hbw : Below w.heap.size w w2 := ((Below.refl _ _).alloc (Nat.le_refl _) _).trans hb2'
  have HK0 := Lib.hid k0
  have HK1 := Lib.hid k1
  have HK2 := Lib.hid k2
  have HBW := Lib.hid hbw
  clear hc2 hb2' hz2 k0 k1 k2 hbw
  go_wp2_with fail
  clear hn' hx' hodd he hgt heq hzz hp hlp
  refine (HUS.out mn hmn w2 w.heap.size (HK0.out 0) (HK1.out 0) (HK2.out 0)).mono ?_
  rintro e' w3 ⟨rfl, n3, rfl⟩
  rw [HU1.out]
  go_wp2_with fail
  refine (nudge_any U1 od _ (by omega) (by omega) (by omega) (by omega)).mono ?_
  rintro e' w' ⟨rfl, rfl⟩
  rw [show (U1 : Int) + (od : Int) = ((U1 + od : Nat) : Int) from by push_cast; rfl]
  go_wp2_with fail
  refine (ceil_any (U1 + od) _ (by omega)).mono ?_
  rintro e' w' ⟨rfl, rfl⟩
  obtain ⟨dmin, hdmin⟩ : ∃ d, d = (U1 + od + 3) / 4 := ⟨_, rfl⟩
  rw [← hdmin]
  have hdn : dmin ≤ 2305843009213693952 := by omega
  have HDN := Lib.hid hdmin
  clear hdmin
  go_wp2_with fail
  refine (HUS.out mx hmx _ w.heap.size (HK0.out n3) (HK1.out n3) (HK2.out n3)).mono ?_
  rintro e' w4 ⟨rfl, n4, rfl⟩
  rw [HU2.out]
  rw [World.drewN_drewN]
  go_wp2_with fail
  refine (nudge_any U2 (-(od : Int)) _ (by omega) (by omega) (by omega) (by omega)).mono ?_
  rintro e' w' ⟨rfl, rfl⟩
  rw [show (U2 : Int) + -(od : Int) = ((U2 - od : Nat) : Int) from by omega]
  go_wp2_with fail
  refine (floor_any (U2 - od) _ (by omega)).mono ?_
  rintro e' w' ⟨rfl, rfl⟩
  obtain ⟨dmax, hdmax⟩ : ∃ d, d = (U2 - od) / 4 := ⟨_, rfl⟩
  rw [← hdmax]
  have hdx : dmax ≤ 2305843009213693952 := by omega
  have HDX := Lib.hid hdmax
  clear hdmax
  have hm10 : IntKind.u64.wrap ((dmax : Int) / 10 * 10) = ((dmax / 10 * 10 : Nat) : Int) := by rw [IntKind.wrap_u64]; omega
  by_cases h1 : dmin ≤ dmax / 10 * 10
  · have hi1 : decide ((dmin : Int) ≤ (dmax : Int) / 10 * 10) = true := by rw [decide_eq_true_eq]; omega
    have hi2 : decide (dmin ≤ dmax / 10 * 10) = true := by rw [decide_eq_true_eq]; omega
    have HF : Hid (pick3 dmin dmax ((U3 + 1 + U3 / 4 % 2) / 4) ((i : Int) - 348) = (dmax / 10, -((i : Int) - 348 - 1))) := Lib.hid (by unfold pick3; rw [if_pos h1])
    clear h1
    go_wp2_with fail
    refine bodyPost_ret (v := .tuple #[.int .u64 ((dmax : Int) / 10), .int .i64 (-((i : Int) - 348 - 1))]) (by simp [results, Tryz.results133, go_sem]) rfl ⟨?_, bDrewN HBW.out _⟩
    rw [← HDN.out, ← HDX.out, HF.out]
    push_cast
    rfl
  · have hi1 : decide ((dmin : Int) ≤ (dmax : Int) / 10 * 10) = false := by rw [decide_eq_false_iff_not]; omega
    have hi2 : decide (dmin ≤ dmax / 10 * 10) = false := by rw [decide_eq_false_iff_not]; omega
    by_cases h2 : dmin < dmax
    · have hi3 : decide (dmin < dmax) = true := by rw [decide_eq_true_eq]; omega
      have HF : Hid (pick3 dmin dmax ((U3 + 1 + U3 / 4 % 2) / 4) ((i : Int) - 348) = ((U3 + 1 + U3 / 4 % 2) / 4, -((i : Int) - 348))) := Lib.hid (by unfold pick3; rw [if_neg h1, if_pos h2])
      clear h1 h2
      go_wp2_with fail
      refine (HUS.out m (by omega) _ w.heap.size (HK0.out _) (HK1.out _) (HK2.out _)).mono ?_
      rintro e' w5 ⟨rfl, n5, rfl⟩
      rw [HU3.out, World.drewN_drewN]
      go_wp2_with fail
      refine (round_any U3 _ (by omega)).mono ?_
      rintro e' w' ⟨rfl, rfl⟩
      obtain ⟨d3, hd3⟩ : ∃ d, d = (U3 + 1 + U3 / 4 % 2) / 4 := ⟨_, rfl⟩
      rw [← hd3]
      have HD3 := Lib.hid hd3
      clear hd3
      go_wp2_with fail
      refine bodyPost_ret (v := .tuple #[.int .u64 (d3 : Int), .int .i64 (-((i : Int) - 348))]) (by simp [results, Tryz.results133, go_sem]) rfl ⟨?_, bDrewN HBW.out _⟩
      rw [← HDN.out, ← HDX.out, HF.out, ← HD3.out]
    · have hi3 : decide (dmin < dmax) = false := by rw [decide_eq_false_iff_not]; omega
      have HF : Hid (pick3 dmin dmax ((U3 + 1 + U3 / 4 % 2) / 4) ((i : Int) - 348) = (dmin, -((i : Int) - 348))) := Lib.hid (by unfold pick3; rw [if_neg h1, if_neg h2])
      clear h1 h2
      go_wp2_with fail
      refine bodyPost_ret (v := .tuple #[.int .u64 (dmin : Int), .int .i64 (-((i : Int) - 348))]) (by simp [results, Tryz.results133, go_sem]) rfl ⟨?_, bDrewN HBW.out _⟩
      rw [← HDN.out, ← HDX.out, HF.out]
end Go.Proofs.YtmhagigokgklaaaGreatDoor
