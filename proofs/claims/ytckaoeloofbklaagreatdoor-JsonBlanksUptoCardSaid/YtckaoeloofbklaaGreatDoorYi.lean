/- Joined texts: Pd Pf Vq Vr Pi Pa. Each begins with its own remark. -/
import Derived.Test.YtckaoeloofbklaaGreatDoorYg
import Derived.Test.YtckaoeloofbklaaGreatDoorYh
import Derived.Test.YtckaoeloofbklaaGreatDoorYf
import Derived.Test.YtckaoeloofbklaaGreatDoorYd
import Derived.Laws.BitsAllLaws
import Derived.Lib.AtoiErrMem
import Derived.Test.YtckaoeloofbklaaGreatDoorYb
namespace Go.Proofs.YtckaoeloofbklaaGreatDoor
open Go Go.RowKit
def errV (r : Nat) : Value := if r = INF then .iface 174 (.int .i64 1) else .nilIface
theorem pack_any (m : Nat) (E : Nat) (w : World) (hm : m < 9007199254740992) (hE : E = 0 ∨ 4503599627370496 ≤ m) (hE2 : E ≤ 4000) :
    Calls Tryz.prog 268 #[.int .u64 m, .int .i64 ((E : Int) - 1074)] w fun e' w' => e' = .returned (.tuple #[.float .f64 (min INF (E * BB + m)), errV (min INF (E * BB + m))]) ∧ w' = w := by
  by_cases h1 : m < 4503599627370496
  · have hE0 : E = 0 := by omega
    subst hE0
    have := pack_low m (((0 : Nat) : Int) - 1074) w h1
    have hr : min INF (0 * BB + m) = m := by unfold INF; omega
    rw [hr, show errV m = .nilIface from if_neg (by unfold INF; omega)]
    exact this
  · by_cases h2 : E < 2046
    · have := pack_mid m (E + 1) w hm (by omega) (by omega) (by omega)
      rw [show (((E + 1 : Nat) : Int) - 1075) = (E : Int) - 1074 by omega] at this
      have hr : min INF (E * BB + m) = (E + 1) * 4503599627370496 + (m - 4503599627370496) := by unfold INF BB; omega
      rw [hr, show errV ((E + 1) * 4503599627370496 + (m - 4503599627370496)) = .nilIface from if_neg (by unfold INF; omega)]
      exact this
    · have := pack_inf m ((E : Int) - 1074) w hm (by omega) (by omega) (by omega)
      have hr : min INF (E * BB + m) = INF := by unfold INF BB; omega
      rw [hr, show errV INF = .iface 174 (.int .i64 1) from if_pos rfl]
      exact this
def PfPost (d : Nat) (p : Int) (B : Nat) (w0 : World) (e : Ending) (w' : World) : Prop := ∃ r, Near (dX d p) (dQ p) r ∧ e = .returned (.tuple #[.float .f64 r, errV r]) ∧ Below B w0 w'
set_option maxRecDepth 100000 in
set_option maxHeartbeats 4000000 in
theorem pf_far (d b i s : Nat) (e : Int) (w : World) (hg : Glob w) (hd : d < 18446744073709551616) (hb : Lib.bitLen d = b) (hb1 : 1 ≤ b) (hb2 : b ≤ 64) (hi : i < 696)
    (he : min 1074 (53 - (b : Int) - lpN ((i : Int) - 348)) = e) (hs : -(e - (64 - (b : Int)) + lpN ((i : Int) - 348) + 3) = (s : Int)) (h64 : 64 ≤ s) :
    Calls Tryz.prog 259 #[.int .u64 d, .int .i64 ((i : Int) - 348), .int .u64 0] w fun e' w' => e' = .returned (.tuple #[.float .f64 0, .nilIface]) ∧ Below w.heap.size w w' := by
  have hlp : -1200 ≤ lpN ((i : Int) - 348) ∧ lpN ((i : Int) - 348) ≤ 1200 := by unfold lpN; omega
  have hga : Glob (w.alloc (.cells #[.int .u64 0, .int .u64 0, .int .i64 0] 245)) := hg.alloc _
  have hlt17 := hg.lt
  have HLEN := Lib.hid (fun (W : World) => Tryz.bits_Len64 (d : Int) W (by omega) (by omega))
  have hb0 : Lib.bitLen (d : Int).toNat = b := by simpa using hb
  have HB0 := Lib.hid hb0
  have hfb : ∀ W : World, (callFunc 257 #[.int .u64 0]).run Tryz.prog W = .ok (.value (.float .f64 0)) W := run_sfrom 0
  have hor : bits .or .u64 0 0 = 0 := by decide +kernel
  obtain ⟨LP, hLP⟩ : ∃ LP, lpN ((i : Int) - 348) = LP := ⟨_, rfl⟩
  have HL2 := Lib.hid (l2p_any ((i : Int) - 348) · (by omega) (by omega))
  rw [hLP] at HL2 he hs hlp
  have he1 : -5000 ≤ e := by omega
  have he2 : e ≤ 1074 := by omega
  have HPR := Lib.hid (prescale_at w.heap.size i (e - (64 - (b : Int))) LP 245 (.int .u64 0) (.int .u64 0) (.int .i64 0) (w.alloc (.cells #[.int .u64 0, .int .u64 0, .int .i64 0] 245)) hga (heap_alloc_new _ _) hlt17 hi (by omega) (by omega) (by omega) (by omega))
  rw [hs] at HPR
  have HE := Lib.hid he
  have h64' : (64 : Int) ≤ (s : Int) := by omega
  clear hga hlt17 hg hb hb0 hLP hs he h64
  go_enter Tryz.func259, Tryz.ntmps259
  go_wp2_with fail
  refine (HLEN.out _).mono ?_
  rintro e' w ⟨rfl, rfl⟩
  rw [HB0.out]
  go_wp2_with fail
  refine (HL2.out _).mono ?_
  rintro e' w' ⟨rfl, rfl⟩
  go_wp2_with fail
  rw [HE.out]
  refine HPR.out.mono ?_
  rintro e' w2 ⟨rfl, hc2, hb2', hz2⟩
  have k2 : w2.cell? ⟨w.heap.size, 2, Option.none⟩ = some (.int .i64 s) := cell_of_row w2 w.heap.size 2 _ _ _ hc2
  have hbw : Below w.heap.size w w2 := ((Below.refl _ _).alloc (Nat.le_refl _) _).trans hb2'
  have HBW := Lib.hid hbw
  clear hc2 hb2' hz2 hbw
  go_wp2_with fail
  refine bodyPost_ret (v := .tuple #[.float .f64 0, .nilIface]) (by simp [results, Tryz.results259, go_sem]) rfl ⟨rfl, HBW.out⟩
theorem u_or_low (U : Nat) : U ||| U % 2 = U := by
  rcases (by omega : U % 2 = 0 ∨ U % 2 = 1) with h | h
  · rw [h, Nat.or_zero]
  · rw [h]
    have h2 := Nat.div_add_mod (U ||| 1) 2
    rw [Nat.or_div_two, Nat.or_mod_two_eq_one.2 (.inr rfl)] at h2
    simp at h2
    omega
set_option maxRecDepth 100000 in
set_option maxHeartbeats 4000000 in
theorem pf_near (d b i s U m r : Nat) (ev : Value) (e k : Int) (sh : Bool) (w : World) (hg : Glob w) (hd : d < 18446744073709551616) (hb : Lib.bitLen d = b) (hb1 : 1 ≤ b) (hb2 : b ≤ 64) (hi : i < 696)
    (he : min 1074 (53 - (b : Int) - lpN ((i : Int) - 348)) = e) (hs : -(e - (64 - (b : Int)) + lpN ((i : Int) - 348) + 3) = (s : Int)) (h64 : s < 64)
    (hx : d * 2 ^ (64 - b) < 18446744073709551616) (hU : uscN (d * 2 ^ (64 - b)) (hiN i) (loN i) (2 ^ s) = U) (hUb : U < 4611686018427387904) (hsh : sh = decide (36028797018963966 ≤ U))
    (hm : m = ((if sh then 2 * (U / 4) + (if U % 4 = 0 then 0 else 1) else U) + 1 + (if sh then 2 * (U / 4) + (if U % 4 = 0 then 0 else 1) else U) / 4 % 2) / 4) (hk : k = -(e - (if sh then 1 else 0)))
    (hpk : ∀ W : World, Calls Tryz.prog 268 #[.int .u64 m, .int .i64 k] W fun e' w' => e' = .returned (.tuple #[.float .f64 r, ev]) ∧ w' = W) :
    Calls Tryz.prog 259 #[.int .u64 d, .int .i64 ((i : Int) - 348), .int .u64 0] w fun e' w' => e' = .returned (.tuple #[.float .f64 r, ev]) ∧ Below w.heap.size w w' := by
  have hlp : -1200 ≤ lpN ((i : Int) - 348) ∧ lpN ((i : Int) - 348) ≤ 1200 := by unfold lpN; omega
  have hga : Glob (w.alloc (.cells #[.int .u64 0, .int .u64 0, .int .i64 0] 245)) := hg.alloc _
  have hlt17 := hg.lt
  obtain ⟨hhi, hlo, hrow⟩ := row_is ((i : Int) - 348) (by omega) (by omega)
  rw [show ((i : Int) - 348 + 348).toNat = i from by omega] at hhi hlo hrow
  have hge : loN i ≤ hiN i * 18446744073709551616 := by omega
  have HUS := Lib.hid (fun (W : World) (b' : Nat) (c0 : W.cell? ⟨b', 0, Option.none⟩ = some (.int .u64 (hiN i))) (c1 : W.cell? ⟨b', 1, Option.none⟩ = some (.int .u64 (loN i))) (c2 : W.cell? ⟨b', 2, Option.none⟩ = some (.int .i64 s)) => uscale_at b' (d * 2 ^ (64 - b)) (hiN i) (loN i) s W hx hhi hlo hge h64 c0 c1 c2)
  rw [hU] at HUS
  have HLEN := Lib.hid (fun (W : World) => Tryz.bits_Len64 (d : Int) W (by omega) (by omega))
  have hb0 : Lib.bitLen (d : Int).toNat = b := by simpa using hb
  have HB0 := Lib.hid hb0
  obtain ⟨LP, hLP⟩ : ∃ LP, lpN ((i : Int) - 348) = LP := ⟨_, rfl⟩
  have HL2 := Lib.hid (l2p_any ((i : Int) - 348) · (by omega) (by omega))
  rw [hLP] at HL2 he hs hlp
  have he1 : -5000 ≤ e := by omega
  have he2 : e ≤ 1074 := by omega
  have HPR := Lib.hid (prescale_at w.heap.size i (e - (64 - (b : Int))) LP 245 (.int .u64 0) (.int .u64 0) (.int .i64 0) (w.alloc (.cells #[.int .u64 0, .int .u64 0, .int .i64 0] 245)) hga (heap_alloc_new _ _) hlt17 hi (by omega) (by omega) (by omega) (by omega))
  rw [hs] at HPR
  have HE := Lib.hid he
  have h64' : decide ((64 : Int) ≤ (s : Int)) = false := by rw [decide_eq_false_iff_not]; omega
  have hsx : IntKind.u64.wrap ((d : Int) * 2 ^ (64 - b)) = ((d * 2 ^ (64 - b) : Nat) : Int) := by
    rw [show ((d : Int) * 2 ^ (64 - b)) = ((d * 2 ^ (64 - b) : Nat) : Int) from by push_cast; rfl, IntKind.wrap_u64]; omega
  have hbs : ((64 : Int) - (b : Int)) = ((64 - b : Nat) : Int) := by omega
  have HBS := Lib.hid hbs
  have HB2 := Lib.hid (fun (x : Bool) (W : World) => b2i_any x W)
  have HUM : Hid (∀ W : World, Calls Tryz.prog 238 #[.int .u64 9007199254740992] W fun e w' => e = .returned (.int .u64 36028797018963966) ∧ W = w') := Lib.hid (fun W => unmin_any 9007199254740992 W (by decide) (by decide))
  have HPK := Lib.hid hpk
  have hx64 := hx
  obtain ⟨x, hxe⟩ : ∃ x, x = d * 2 ^ (64 - b) := ⟨_, rfl⟩
  rw [← hxe] at hsx HUS hx64
  have h8 : 36028797018963966 = 4 * 9007199254740992 - 2 := rfl
  have hand : bits .and .u64 (U : Int) 1 = (U : Int) % 2 := and_one_u64 (U : Int) (by omega) (by omega)
  have hoA : bits .or .u64 (U : Int) ((U : Int) % 2) = (U : Int) := by
    have := bits_or_u64_nat U (U % 2) (by omega) (by omega)
    rw [u_or_low] at this
    push_cast at this
    exact this
  have hoB : bits .or .u64 ((U : Int) / 2) ((U : Int) % 2) = ((2 * (U / 4) + (if U % 4 = 0 then 0 else 1) : Nat) : Int) := by
    have := bits_or_u64_nat (U / 2) (U % 2) (by omega) (by omega)
    rw [or_half] at this
    rw [← this]
    push_cast
    rfl
  have hU2 : 2 * (U / 4) + (if U % 4 = 0 then 0 else 1) < 4611686018427387904 := by split <;> omega
  obtain ⟨U2, hU2e⟩ : ∃ U2, U2 = 2 * (U / 4) + (if U % 4 = 0 then 0 else 1) := ⟨_, rfl⟩
  rw [← hU2e] at hoB hU2 hm
  have hgeq : decide ((36028797018963966 : Int) ≤ (U : Int)) = sh := by rw [hsh]; congr 1; exact propext ⟨fun h => by omega, fun h => by omega⟩
  have hmb : m < 4611686018427387904 := by rw [hm]; cases sh <;> simp only [if_true, if_false, Bool.false_eq_true] <;> omega
  have hor0 : bits .or .u64 0 (m : Int) = (m : Int) := by
    have := bits_or_u64_nat 0 m (by decide) (by omega)
    rw [Nat.zero_or] at this
    exact this
  have HM := Lib.hid hm
  have HK := Lib.hid hk
  clear hga hlt17 hg hb hb0 hLP hs he h64 hhi hlo hrow hge hx hxe hU hbs hpk hm hk hU2e hsh h8
  cases sh
  · simp only [if_false, Bool.false_eq_true] at HM HK
    go_enter Tryz.func259, Tryz.ntmps259
    go_wp2_with fail
    refine (HLEN.out _).mono ?_
    rintro e' w ⟨rfl, rfl⟩
    rw [HB0.out]
    go_wp2_with fail
    refine (HL2.out _).mono ?_
    rintro e' w' ⟨rfl, rfl⟩
    go_wp2_with fail
    rw [HE.out]
    refine HPR.out.mono ?_
    rintro e' w2 ⟨rfl, hc2, hb2', hz2⟩
    have k0 : w2.cell? ⟨w.heap.size, 0, Option.none⟩ = some (.int .u64 (hiN i)) := cell_of_row w2 w.heap.size 0 _ _ _ hc2
    have k1 : w2.cell? ⟨w.heap.size, 1, Option.none⟩ = some (.int .u64 (loN i)) := cell_of_row w2 w.heap.size 1 _ _ _ hc2
    have k2 : w2.cell? ⟨w.heap.size, 2, Option.none⟩ = some (.int .i64 s) := cell_of_row w2 w.heap.size 2 _ _ _ hc2
    have hbw : Below w.heap.size w w2 := ((Below.refl _ _).alloc (Nat.le_refl _) _).trans hb2'
    have HBW := Lib.hid hbw
    have HK0 := Lib.hid k0
    have HK1 := Lib.hid k1
    have HK2 := Lib.hid k2
    clear hc2 hb2' hz2 hbw k0 k1
    go_wp2_with fail
    refine (HUS.out w2 w.heap.size HK0.out HK1.out HK2.out).mono ?_
    rintro e' w3 ⟨rfl, n3, rfl⟩
    go_wp2_with fail
    refine (HUM.out _).mono ?_
    rintro e' w' ⟨rfl, rfl⟩
    go_wp2_with fail
    refine (HB2.out _ _).mono ?_
    rintro e' w' ⟨rfl, rfl⟩
    go_wp2_with fail
    refine (round_any U _ (by omega)).mono ?_
    rintro e' w' ⟨rfl, rfl⟩
    rw [← HM.out]
    go_wp2_with fail
    have HKE : Hid (-e = k) := Lib.hid (by have := HK.out; omega)
    rw [HKE.out]
    refine (HPK.out _).mono ?_
    rintro e' w4 ⟨rfl, hw4⟩
    subst hw4
    go_wp2_with fail
    refine bodyPost_ret (v := .tuple #[.float .f64 r, ev]) (by simp [results, Tryz.results259, go_sem]) rfl ⟨rfl, bDrewN HBW.out _⟩
  · simp only [if_true] at HM HK
    go_enter Tryz.func259, Tryz.ntmps259
    go_wp2_with fail
    refine (HLEN.out _).mono ?_
    rintro e' w ⟨rfl, rfl⟩
    rw [HB0.out]
    go_wp2_with fail
    refine (HL2.out _).mono ?_
    rintro e' w' ⟨rfl, rfl⟩
    go_wp2_with fail
    rw [HE.out]
    refine HPR.out.mono ?_
    rintro e' w2 ⟨rfl, hc2, hb2', hz2⟩
    have k0 : w2.cell? ⟨w.heap.size, 0, Option.none⟩ = some (.int .u64 (hiN i)) := cell_of_row w2 w.heap.size 0 _ _ _ hc2
    have k1 : w2.cell? ⟨w.heap.size, 1, Option.none⟩ = some (.int .u64 (loN i)) := cell_of_row w2 w.heap.size 1 _ _ _ hc2
    have k2 : w2.cell? ⟨w.heap.size, 2, Option.none⟩ = some (.int .i64 s) := cell_of_row w2 w.heap.size 2 _ _ _ hc2
    have hbw : Below w.heap.size w w2 := ((Below.refl _ _).alloc (Nat.le_refl _) _).trans hb2'
    have HBW := Lib.hid hbw
    have HK0 := Lib.hid k0
    have HK1 := Lib.hid k1
    have HK2 := Lib.hid k2
    clear hc2 hb2' hz2 hbw k0 k1
    go_wp2_with fail
    refine (HUS.out w2 w.heap.size HK0.out HK1.out HK2.out).mono ?_
    rintro e' w3 ⟨rfl, n3, rfl⟩
    go_wp2_with fail
    refine (HUM.out _).mono ?_
    rintro e' w' ⟨rfl, rfl⟩
    go_wp2_with fail
    refine (HB2.out _ _).mono ?_
    rintro e' w' ⟨rfl, rfl⟩
    go_wp2_with fail
    refine (round_any U2 _ (by omega)).mono ?_
    rintro e' w' ⟨rfl, rfl⟩
    rw [← HM.out]
    go_wp2_with fail
    have HKE : Hid (-(e - 1) = k) := Lib.hid (by have := HK.out; omega)
    rw [HKE.out]
    refine (HPK.out _).mono ?_
    rintro e' w4 ⟨rfl, hw4⟩
    subst hw4
    go_wp2_with fail
    refine bodyPost_ret (v := .tuple #[.float .f64 r, ev]) (by simp [results, Tryz.results259, go_sem]) rfl ⟨rfl, bDrewN HBW.out _⟩
theorem pf64_any (d : Nat) (p : Int) (w : World) (hg : Glob w) (h1 : 1 ≤ d) (h2 : d < 18446744073709551616) (hp1 : -348 ≤ p) (hp2 : p ≤ 347) :
    Calls Tryz.prog 259 #[.int .u64 d, .int .i64 p, .int .u64 0] w (PfPost d p w.heap.size w) := by
  obtain ⟨b1, b2, b3⟩ := bitLen_bounds d h1 h2
  have b4 := bitLen_le d 64 h1 h2 (by omega)
  obtain ⟨b, hb⟩ : ∃ b, Lib.bitLen d = b := ⟨_, rfl⟩
  rw [hb] at b1 b2 b3 b4
  obtain ⟨i, hi⟩ : ∃ i : Nat, p = (i : Int) - 348 := ⟨(p + 348).toNat, by omega⟩
  have hlp : -1200 ≤ lpN p ∧ lpN p ≤ 1200 := by unfold lpN; omega
  obtain ⟨e, he⟩ : ∃ e : Int, min 1074 (53 - (b : Int) - lpN p) = e := ⟨_, rfl⟩
  obtain ⟨s, hs⟩ : ∃ s : Nat, (s : Int) = 61 - b - e - lpN p := ⟨(61 - (b : Int) - e - lpN p).toNat, by omega⟩
  obtain ⟨E, hE⟩ : ∃ E : Nat, (E : Int) = 1074 - e := ⟨(1074 - e).toNat, by omega⟩
  obtain ⟨_, hlo, hrow⟩ := row_is p hp1 hp2
  rw [show (p + 348).toNat = i by omega] at hlo hrow
  obtain ⟨G, n, hG, hU, hn, hfar, hA, hB⟩ := parse_plain p hp1 hp2 d b s E (hiN i) (loN i) b1 b4 b2 b3 hlo hrow (by omega) (by omega) (by omega)
  have hsh : -(e - (64 - (b : Int)) + lpN p + 3) = (s : Int) := by omega
  by_cases h64 : 64 ≤ s
  · have := pf_far d b i s e w hg h2 hb b1 b4 (by omega) (by rw [← hi]; exact he) (by rw [← hi]; exact hsh) h64
    rw [← hi] at this
    exact this.mono fun e' w' ⟨h3, h4⟩ => ⟨0, hfar h64, h3, h4⟩
  · have hx2 : d * 2 ^ (64 - b) < 18446744073709551616 := by
      rw [show 18446744073709551616 = 2 ^ b * 2 ^ (64 - b) from by rw [← Nat.pow_add, show b + (64 - b) = 64 by omega]]
      exact (Nat.mul_lt_mul_right (Nat.two_pow_pos _)).2 b3
    have hfl := unr_floor n G hG
    have hq : n / G < 18014398509481983 := (Nat.div_lt_iff_lt_mul hG).2 hn
    have hat := unr_atleast n G 9007199254740992 hG (by decide)
    have hrd := unr_round n G hG
    have hha := unr_half n G hG
    have hrd2 := unr_round n (2 * G) (by omega)
    have hEE : E ≤ 3000 := by omega
    obtain ⟨U, hUe⟩ : ∃ U, unr n G = U := ⟨_, rfl⟩
    rw [hUe] at hU hfl hat hrd hha
    have hUb : U < 4611686018427387904 := by omega
    by_cases hsb : 36028797018963966 ≤ U
    · have hge : 18014398509481983 * G ≤ 2 * n := hat.1 hsb
      obtain ⟨m1, m2, m3⟩ := hB hge
      have := pf_near d b i s U (mOf n (2 * G)) _ _ e ((E + 1 : Nat) - 1074) true w hg h2 hb b1 b4 (by omega) (by rw [← hi]; exact he) (by rw [← hi]; exact hsh) (by omega) hx2 hU hUb (by rw [decide_eq_true hsb])
        (by simp only [if_true]; rw [hha, hrd2]; rfl) (by simp only [if_true]; omega) (fun W => pack_any (mOf n (2 * G)) (E + 1) W m1 (.inr m2) (by omega))
      rw [← hi] at this
      exact this.mono fun e' w' ⟨h3, h4⟩ => ⟨_, m3, h3, h4⟩
    · have hlt : 2 * n < 18014398509481983 * G := by
        rcases Nat.lt_or_ge (2 * n) (18014398509481983 * G) with h | h
        · exact h
        · exact absurd (hat.2 h) hsb
      obtain ⟨m1, m2, m3⟩ := hA hlt
      have := pf_near d b i s U (mOf n G) _ _ e ((E : Int) - 1074) false w hg h2 hb b1 b4 (by omega) (by rw [← hi]; exact he) (by rw [← hi]; exact hsh) (by omega) hx2 hU hUb (by rw [decide_eq_false hsb])
        (by simp only [if_false, Bool.false_eq_true]; rw [hrd]; rfl) (by simp only [if_false, Bool.false_eq_true]; omega) (fun W => pack_any (mOf n G) E W m1 m2 (by omega))
      rw [← hi] at this
      exact this.mono fun e' w' ⟨h3, h4⟩ => ⟨_, m3, h3, h4⟩
end Go.Proofs.YtckaoeloofbklaaGreatDoor
namespace Go.Proofs.YtckaoeloofbklaaGreatDoor
open Go Go.RowKit
set_option exponentiation.threshold 5000
structure GlobT (K : Nat) (w : World) : Prop where
  lt : 17 ≤ K
  le : K ≤ w.heap.size
  inf : w.cell? ⟨11, 0, Option.none⟩ = some (.int .u64 52) ∧ w.cell? ⟨11, 1, Option.none⟩ = some (.int .u64 11) ∧ w.cell? ⟨11, 2, Option.none⟩ = some (.int .i64 (-1023))
  p10 : ∃ b o cap : Nat, b < K ∧ w.cell? ⟨16, 0, Option.none⟩ = some (.slice (some ⟨b, o, Option.none⟩) 23 cap) ∧ ∀ k, k < 23 → w.cell? ⟨b, o + k, Option.none⟩ = some (.float .f64 (p10N k))
  deb : w.cell? ⟨7, 1, Option.none⟩ = some (.int .u8 1) ∧ w.cell? ⟨7, 15, Option.none⟩ = some (.int .u8 4)
  blk : ∃ (ca cb : Array Value) (ta tb : TypeId), w.heap[(10 : Nat)]? = some (.cells ca ta (0, 0)) ∧ w.heap[(11 : Nat)]? = some (.cells cb tb (0, 0))
  rng : ∃ te pe, w.cell? ⟨5, 0, Option.none⟩ = some (.iface te pe)
theorem GlobT.below {K : Nat} {w w' : World} {B : Nat} (h : GlobT K w) (hB : K ≤ B) (hb : Below B w w') : GlobT K w' := by
  have hlt := h.lt
  refine ⟨h.lt, Nat.le_trans h.le hb.size, ?_, ?_, ?_, ?_, ?_⟩
  · obtain ⟨a, b, c⟩ := h.inf
    have hg : 11 < B := Nat.lt_of_lt_of_le (by decide) (Nat.le_trans h.lt hB)
    exact ⟨(hb.cell (p := ⟨11, 0, Option.none⟩) hg).trans a, (hb.cell (p := ⟨11, 1, Option.none⟩) hg).trans b, (hb.cell (p := ⟨11, 2, Option.none⟩) hg).trans c⟩
  · obtain ⟨b, o, cap, h1, h2, h3⟩ := h.p10
    have hg : 16 < B := Nat.lt_of_lt_of_le (by decide) (Nat.le_trans h.lt hB)
    exact ⟨b, o, cap, h1, (hb.cell (p := ⟨16, 0, Option.none⟩) hg).trans h2, fun k hk => (hb.cell (p := ⟨b, o + k, Option.none⟩) (Nat.lt_of_lt_of_le h1 hB)).trans (h3 k hk)⟩
  · obtain ⟨a, b⟩ := h.deb
    have hg : 7 < B := Nat.lt_of_lt_of_le (by decide) (Nat.le_trans h.lt hB)
    exact ⟨(hb.cell (p := ⟨7, 1, Option.none⟩) hg).trans a, (hb.cell (p := ⟨7, 15, Option.none⟩) hg).trans b⟩
  · obtain ⟨ca, cb, ta, tb, h1, h2⟩ := h.blk
    have hg : ∀ b, b < 17 → b < B := fun b hb => Nat.lt_of_lt_of_le hb (Nat.le_trans h.lt hB)
    exact ⟨ca, cb, ta, tb, (hb.block _ (hg _ (by decide))).trans h1, (hb.block _ (hg _ (by decide))).trans h2⟩
  · obtain ⟨te, pe, h1⟩ := h.rng
    have hg : 5 < B := Nat.lt_of_lt_of_le (by decide) (Nat.le_trans h.lt hB)
    exact ⟨te, pe, (hb.cell (p := ⟨5, 0, Option.none⟩) hg).trans h1⟩
theorem GlobT.on {K : Nat} {w w' : World} (h : GlobT K w) (hb : Below w.heap.size w w') : GlobT K w' := h.below h.le hb
def ExPost (d : Nat) (p : Int) (w : World) (e : Ending) (w' : World) : Prop := ∃ (r : Nat) (ok : Bool), e = .returned (.tuple #[.float .f64 r, .bool ok]) ∧ (ok = true → Near (dX d p) (dQ p) r ∧ r < INF) ∧ w' = w
theorem near_fin {X Q r : Nat} (h : Near X Q r) (hX : X < Q * 2 ^ 2098) : r < INF := by
  have h1 := h.inf
  rcases Nat.lt_or_ge r INF with h2 | h2
  · exact h2
  · exfalso
    have hr : r = INF := by omega
    subst hr
    rcases h.lo with h3 | ⟨h3, _⟩
    · exact absurd h3 (by decide)
    · rw [V_INF, Nat.mul_add] at h3
      omega
set_option exponentiation.threshold 5000
theorem pow_ten_pos (k : Nat) : 0 < 10 ^ k := Nat.pow_pos (by decide)
theorem dX_pos (d k : Nat) : dX d (k : Int) = 2 * (d * 10 ^ k * 2 ^ 1074) := rfl
theorem dQ_pos1 (k : Nat) : dQ (k : Int) = 1 := by unfold dQ; rw [show (-(k : Int)).toNat = 0 by omega, Nat.pow_zero]
theorem dX_neg (d k : Nat) : dX d (-(k : Int)) = 2 * (d * 2 ^ 1074) := by unfold dX; rw [show (-(k : Int)).toNat = 0 by omega, Nat.pow_zero, Nat.mul_one]
theorem dQ_neg (k : Nat) : dQ (-(k : Int)) = 10 ^ k := by unfold dQ; rw [Int.neg_neg, Int.toNat_natCast]
theorem ten_lim (A : Nat) (h : A ≤ 10 ^ 38) : 2 * (A * 2 ^ 1074) < 1 * 2 ^ 2098 := by
  have h1 : A * 2 ^ 1074 ≤ 10 ^ 38 * 2 ^ 1074 := Nat.mul_le_mul_right _ h
  have h2 : 2 * (10 ^ 38 * 2 ^ 1074) < 1 * 2 ^ 2098 := by decide +kernel
  exact Nat.lt_of_le_of_lt (Nat.mul_le_mul_left 2 h1) h2
theorem ten_lim2 (A B : Nat) (h : A ≤ 10 ^ 38) (hB : 0 < B) : 2 * (A * 2 ^ 1074) < B * 2 ^ 2098 :=
  Nat.lt_of_lt_of_le (ten_lim A h) (Nat.mul_le_mul_right _ hB)
set_option maxRecDepth 100000 in
set_option maxHeartbeats 4000000 in
theorem exact_great (d : Nat) (p : Int) (K : Nat) (w : World) (hg : GlobT K w) (h1 : 4503599627370496 ≤ d) (_h2 : d < 18446744073709551616) :
    Calls Tryz.prog 258 #[.int .u64 d, .int .i64 p, .bool false] w (ExPost d p w) := by
  obtain ⟨i0, i1, i2⟩ := hg.inf
  have hq : ((d : Int) / 4503599627370496 != 0) = true := by rw [bne_iff_ne]; omega
  go_enter Tryz.func258, Tryz.ntmps258
  go_wp2_with fail
  refine bodyPost_ret (v := .tuple #[.float .f64 0, .bool false]) (by simp [results, Tryz.results258, go_sem]) rfl ⟨0, false, rfl, fun h => absurd h (by decide), rfl⟩
set_option maxRecDepth 100000 in
set_option maxHeartbeats 4000000 in
theorem exact_zero (d : Nat) (K : Nat) (w : World) (hg : GlobT K w) (_h1 : 1 ≤ d) (h2 : d < 4503599627370496) :
    Calls Tryz.prog 258 #[.int .u64 d, .int .i64 0, .bool false] w (ExPost d 0 w) := by
  obtain ⟨i0, i1, i2⟩ := hg.inf
  have hq : ((d : Int) / 4503599627370496 != 0) = false := by rw [bne_eq_false_iff_eq]; omega
  obtain ⟨v0, v1⟩ := conv_nat d (by omega)
  have hf : floatOfInt .f64 (d : Int) = Ieee.double.nearest false d 0 := by
    show Ieee.double.nearest (decide ((d : Int) < 0)) (d : Int).natAbs 0 = _
    rw [decide_eq_false (by omega)]; rfl
  generalize Ieee.double.nearest false d 0 = f0 at *
  have HN : Hid (Near (dX d 0) (dQ 0) f0 ∧ f0 < INF) := Lib.hid (by
    refine ⟨?_, v1⟩
    have := near_self f0 (Nat.le_of_lt v1)
    rw [v0] at this
    rw [show dX d 0 = 2 * (d * 2 ^ 1074) from dX_neg d 0, show dQ 0 = 1 from dQ_neg 0]
    exact this)
  clear v0
  go_enter Tryz.func258, Tryz.ntmps258
  go_wp2_with fail
  refine bodyPost_ret (v := .tuple #[.float .f64 f0, .bool true]) (by simp [results, Tryz.results258, go_sem]) rfl ⟨f0, true, rfl, fun _ => HN.out, rfl⟩
set_option maxRecDepth 100000 in
set_option maxHeartbeats 4000000 in
theorem exact_out (d : Nat) (p : Int) (K : Nat) (w : World) (hg : GlobT K w) (h1 : 1 ≤ d) (h2 : d < 4503599627370496) (hp : p < -22 ∨ 37 < p) :
    Calls Tryz.prog 258 #[.int .u64 d, .int .i64 p, .bool false] w (ExPost d p w) := by
  obtain ⟨i0, i1, i2⟩ := hg.inf
  have hq : ((d : Int) / 4503599627370496 != 0) = false := by rw [bne_eq_false_iff_eq]; omega
  obtain ⟨v0, v1⟩ := conv_nat d (by omega)
  have hf : floatOfInt .f64 (d : Int) = Ieee.double.nearest false d 0 := by
    show Ieee.double.nearest (decide ((d : Int) < 0)) (d : Int).natAbs 0 = _
    rw [decide_eq_false (by omega)]; rfl
  generalize Ieee.double.nearest false d 0 = f0 at *
  have h0 : (p == 0) = false := by rw [beq_eq_false_iff_ne]; omega
  clear v0
  rcases hp with hp | hp
  all_goals
    go_enter Tryz.func258, Tryz.ntmps258
    go_wp2_with fail
    refine bodyPost_ret (v := .tuple #[.float .f64 f0, .bool false]) (by simp [results, Tryz.results258, go_sem]) rfl ⟨f0, false, rfl, fun h => absurd h (by decide), rfl⟩
set_option maxRecDepth 100000 in
set_option maxHeartbeats 4000000 in
theorem exact_mul (d k : Nat) (K : Nat) (w : World) (hg : GlobT K w) (h1 : 1 ≤ d) (h2 : d < 4503599627370496) (hk1 : 1 ≤ k) (hk2 : k ≤ 22) :
    Calls Tryz.prog 258 #[.int .u64 d, .int .i64 k, .bool false] w (ExPost d k w) := by
  obtain ⟨i0, i1, i2⟩ := hg.inf
  have hq : ((d : Int) / 4503599627370496 != 0) = false := by rw [bne_eq_false_iff_eq]; omega
  obtain ⟨v0, v1⟩ := conv_nat d (by omega)
  have hf : floatOfInt .f64 (d : Int) = Ieee.double.nearest false d 0 := by
    show Ieee.double.nearest (decide ((d : Int) < 0)) (d : Int).natAbs 0 = _
    rw [decide_eq_false (by omega)]; rfl
  generalize Ieee.double.nearest false d 0 = f0 at *
  obtain ⟨b, o, cap, _, hs, hc⟩ := hg.p10
  have hck := hc k (by omega)
  obtain ⟨t1, t2⟩ := p10_is k (by omega)
  generalize p10N k = q at *
  have h0 : ((k : Int) == 0) = false := by rw [beq_eq_false_iff_ne]; omega
  have g2 := ord_lt15 f0 (Nat.le_of_lt v1)
  have g1 := ord_gt15 f0 (Nat.le_of_lt v1)
  have hself : Near (2 * (d * 2 ^ 1074)) 1 f0 := by rw [← v0]; exact near_self f0 (Nat.le_of_lt v1)
  by_cases hd : d ≤ 10 ^ 15
  · have hle := near_within d f0 hd hself
    rw [decide_eq_false (by omega)] at g1
    obtain ⟨r, hr, hn⟩ := mul_whole f0 q d (10 ^ k) v1 t2 v0 t1 h1 (pow_ten_pos k)
    have hm : ∀ W : World, (binOp .mul 128 (.float .f64 f0) (.float .f64 q)).run Tryz.prog W = .ok (.float .f64 r) W := fun W => run_float_arith W .mul _ .f64 f0 q r hr
    have HN : Hid (Near (dX d k) (dQ k) r ∧ r < INF) := Lib.hid (by
      have h38 : d * 10 ^ k ≤ 10 ^ 38 := by
        refine Nat.le_trans (Nat.mul_le_mul hd (Nat.pow_le_pow_right (by decide) hk2)) ?_
        rw [← Nat.pow_add]; exact Nat.pow_le_pow_right (by decide) (by decide)
      rw [dX_pos, dQ_pos1]
      exact ⟨hn, near_fin hn (ten_lim _ h38)⟩)
    clear v0 t1 hself hr hn hd hc hg
    go_enter Tryz.func258, Tryz.ntmps258
    go_wp2_with fail
    refine bodyPost_ret (v := .tuple #[.float .f64 r, .bool true]) (by simp [results, Tryz.results258, go_sem]) rfl ⟨r, true, rfl, fun _ => HN.out, rfl⟩
  · have hle := near_above d f0 (by omega) hself
    rw [decide_eq_true hle] at g1
    clear v0 t1 hself hd hc hg
    go_enter Tryz.func258, Tryz.ntmps258
    go_wp2_with fail
    refine bodyPost_ret (v := .tuple #[.float .f64 f0, .bool false]) (by simp [results, Tryz.results258, go_sem]) rfl ⟨f0, false, rfl, fun h => absurd h (by decide), rfl⟩
set_option maxRecDepth 100000 in
set_option maxHeartbeats 4000000 in
theorem exact_mul2 (d j : Nat) (K : Nat) (w : World) (hg : GlobT K w) (h1 : 1 ≤ d) (h2 : d < 4503599627370496) (hk1 : 1 ≤ j) (hk2 : j ≤ 15) :
    Calls Tryz.prog 258 #[.int .u64 d, .int .i64 ((j : Int) + 22), .bool false] w (ExPost d ((j : Int) + 22) w) := by
  obtain ⟨i0, i1, i2⟩ := hg.inf
  have hq : ((d : Int) / 4503599627370496 != 0) = false := by rw [bne_eq_false_iff_eq]; omega
  obtain ⟨v0, v1⟩ := conv_nat d (by omega)
  have hf : floatOfInt .f64 (d : Int) = Ieee.double.nearest false d 0 := by
    show Ieee.double.nearest (decide ((d : Int) < 0)) (d : Int).natAbs 0 = _
    rw [decide_eq_false (by omega)]; rfl
  generalize Ieee.double.nearest false d 0 = f0 at *
  obtain ⟨b, o, cap, _, hs, hc⟩ := hg.p10
  have hck := hc j (by omega)
  have hcl := hc 22 (by omega)
  obtain ⟨t1, t2⟩ := p10_is j (by omega)
  obtain ⟨t3, t4⟩ := p10_is 22 (by omega)
  generalize p10N j = q at *
  generalize p10N 22 = q2 at *
  have h0 : ((j : Int) + 22 == 0) = false := by rw [beq_eq_false_iff_ne]; omega
  obtain ⟨r1, hr, hn⟩ := mul_whole f0 q d (10 ^ j) v1 t2 v0 t1 h1 (pow_ten_pos j)
  have hm : ∀ W : World, (binOp .mul 128 (.float .f64 f0) (.float .f64 q)).run Tryz.prog W = .ok (.float .f64 r1) W := fun W => run_float_arith W .mul _ .f64 f0 q r1 hr
  have h38 : d * 10 ^ j ≤ 10 ^ 38 := by
    refine Nat.le_trans (Nat.mul_le_mul (show d ≤ 10 ^ 16 by omega) (Nat.pow_le_pow_right (by decide) hk2)) ?_
    rw [← Nat.pow_add]; exact Nat.pow_le_pow_right (by decide) (by decide)
  have hr1 := near_fin hn (ten_lim _ h38)
  have g2 := ord_lt15 r1 (Nat.le_of_lt hr1)
  have g1 := ord_gt15 r1 (Nat.le_of_lt hr1)
  by_cases hd : d * 10 ^ j ≤ 10 ^ 15
  · have hle := near_within _ r1 hd hn
    rw [decide_eq_false (by omega)] at g1
    obtain ⟨u0, u1⟩ := near_whole _ r1 (by omega) hn
    obtain ⟨r, hr2, hn2⟩ := mul_whole r1 q2 (d * 10 ^ j) (10 ^ 22) u1 t4 u0 t3 (Nat.mul_pos h1 (pow_ten_pos j)) (pow_ten_pos 22)
    have hm2 : ∀ W : World, (binOp .mul 128 (.float .f64 r1) (.float .f64 q2)).run Tryz.prog W = .ok (.float .f64 r) W := fun W => run_float_arith W .mul _ .f64 r1 q2 r hr2
    have HN : Hid (Near (dX d ((j : Int) + 22)) (dQ ((j : Int) + 22)) r ∧ r < INF) := Lib.hid (by
      have h38' : d * 10 ^ j * 10 ^ 22 ≤ 10 ^ 38 := by
        refine Nat.le_trans (Nat.mul_le_mul_right _ hd) ?_
        rw [← Nat.pow_add]; exact Nat.pow_le_pow_right (by decide) (by decide)
      rw [show ((j : Int) + 22) = ((j + 22 : Nat) : Int) from by push_cast; rfl, dX_pos, dQ_pos1, Nat.pow_add, ← Nat.mul_assoc d]
      exact ⟨hn2, near_fin hn2 (ten_lim _ h38')⟩)
    clear v0 t1 t3 hr hn hd hc hg u0 hr2 hn2 h38
    go_enter Tryz.func258, Tryz.ntmps258
    go_wp2_with fail
    refine bodyPost_ret (v := .tuple #[.float .f64 r, .bool true]) (by simp [results, Tryz.results258, go_sem]) rfl ⟨r, true, rfl, fun _ => HN.out, rfl⟩
  · have hle := near_above _ r1 (by omega) hn
    rw [decide_eq_true hle] at g1
    clear v0 t1 t3 hr hn hd hc hg h38
    go_enter Tryz.func258, Tryz.ntmps258
    go_wp2_with fail
    refine bodyPost_ret (v := .tuple #[.float .f64 r1, .bool false]) (by simp [results, Tryz.results258, go_sem]) rfl ⟨r1, false, rfl, fun h => absurd h (by decide), rfl⟩
set_option maxRecDepth 100000 in
set_option maxHeartbeats 4000000 in
theorem exact_div (d k : Nat) (K : Nat) (w : World) (hg : GlobT K w) (h1 : 1 ≤ d) (h2 : d < 4503599627370496) (hk1 : 1 ≤ k) (hk2 : k ≤ 22) :
    Calls Tryz.prog 258 #[.int .u64 d, .int .i64 (-(k : Int)), .bool false] w (ExPost d (-(k : Int)) w) := by
  obtain ⟨i0, i1, i2⟩ := hg.inf
  have hq : ((d : Int) / 4503599627370496 != 0) = false := by rw [bne_eq_false_iff_eq]; omega
  obtain ⟨v0, v1⟩ := conv_nat d (by omega)
  have hf : floatOfInt .f64 (d : Int) = Ieee.double.nearest false d 0 := by
    show Ieee.double.nearest (decide ((d : Int) < 0)) (d : Int).natAbs 0 = _
    rw [decide_eq_false (by omega)]; rfl
  generalize Ieee.double.nearest false d 0 = f0 at *
  obtain ⟨b, o, cap, _, hs, hc⟩ := hg.p10
  have hck := hc k (by omega)
  obtain ⟨t1, t2⟩ := p10_is k (by omega)
  generalize p10N k = q at *
  have h0 : (-(k : Int) == 0) = false := by rw [beq_eq_false_iff_ne]; omega
  have h0' : ((k : Int) == 0) = false := by rw [beq_eq_false_iff_ne]; omega
  obtain ⟨r, hr, hn⟩ := div_whole f0 q d (10 ^ k) v1 t2 v0 t1 h1 (pow_ten_pos k) (Nat.lt_of_le_of_lt (Nat.pow_le_pow_right (by decide) hk2) (by decide +kernel))
  have hm : ∀ W : World, (binOp .quo 128 (.float .f64 f0) (.float .f64 q)).run Tryz.prog W = .ok (.float .f64 r) W := fun W => run_float_arith W .quo _ .f64 f0 q r hr
  have HN : Hid (Near (dX d (-(k : Int))) (dQ (-(k : Int))) r ∧ r < INF) := Lib.hid (by
    rw [dX_neg, dQ_neg]
    exact ⟨hn, near_fin hn (ten_lim2 _ _ (show d ≤ 10 ^ 38 by omega) (pow_ten_pos k))⟩)
  clear v0 t1 hr hn hc hg
  go_enter Tryz.func258, Tryz.ntmps258
  go_wp2_with fail
  refine bodyPost_ret (v := .tuple #[.float .f64 r, .bool true]) (by simp [results, Tryz.results258, go_sem]) rfl ⟨r, true, rfl, fun _ => HN.out, rfl⟩
theorem exact_any (d : Nat) (p : Int) (K : Nat) (w : World) (hg : GlobT K w) (h1 : 1 ≤ d) (h2 : d < 18446744073709551616) :
    Calls Tryz.prog 258 #[.int .u64 d, .int .i64 p, .bool false] w (ExPost d p w) := by
  by_cases hd : 4503599627370496 ≤ d
  · exact exact_great d p K w hg hd h2
  · replace hd : d < 4503599627370496 := by omega
    rcases (by omega : p = 0 ∨ (p < -22 ∨ 37 < p) ∨ (1 ≤ p ∧ p ≤ 22) ∨ (23 ≤ p ∧ p ≤ 37) ∨ (-22 ≤ p ∧ p ≤ -1)) with rfl | h | h | h | h
    · exact exact_zero d K w hg h1 hd
    · exact exact_out d p K w hg h1 hd h
    · obtain ⟨k, rfl⟩ : ∃ k : Nat, p = k := ⟨p.toNat, by omega⟩
      exact exact_mul d k K w hg h1 hd (by omega) (by omega)
    · obtain ⟨k, rfl⟩ : ∃ k : Nat, p = (k : Int) + 22 := ⟨(p - 22).toNat, by omega⟩
      exact exact_mul2 d k K w hg h1 hd (by omega) (by omega)
    · obtain ⟨k, rfl⟩ : ∃ k : Nat, p = -(k : Int) := ⟨(-p).toNat, by omega⟩
      exact exact_div d k K w hg h1 hd (by omega) (by omega)
end Go.Proofs.YtckaoeloofbklaaGreatDoor
namespace Go.Proofs.YtckaoeloofbklaaGreatDoor
open Go Go.RowKit
theorem wrap_neg (x : Nat) (hx : x < 18446744073709551616) : decide (wrap64 (x : Int) < 0) = ngB x := by
  unfold ngB
  refine decide_eq_decide.2 ?_
  unfold wrap64
  omega
theorem mask_63 (x : Nat) (hx : x < 18446744073709551616) : bits .andNot .u64 (x : Int) 9223372036854775808 = ((ru x : Nat) : Int) := by
  have h := u64_andNot_nat x 9223372036854775808 hx (by decide)
  rw [show ((9223372036854775808 : Nat) : Int) = 9223372036854775808 from rfl] at h
  rw [h, show 18446744073709551615 - 9223372036854775808 = 2 ^ 63 - 1 from by decide, Nat.and_two_pow_sub_one_eq_mod]
  rfl
theorem ru_ru (x : Nat) : ru (ru x) = ru x := by unfold ru; omega
theorem ru_lt (x : Nat) : ru x < 9223372036854775808 := by unfold ru; omega
theorem ng_ru (x : Nat) : ngB (ru x) = false := by unfold ngB; exact decide_eq_false (by have := ru_lt x; omega)
set_option maxRecDepth 100000 in
set_option maxHeartbeats 1000000 in
theorem signbit_any (x : Nat) (w : World) (hx : x < 18446744073709551616) :
    Calls Tryz.prog 97 #[.float .f64 x] w fun e w' => e = .returned (.bool (ngB x)) ∧ w' = w := by
  have hb := run_mbits x
  have hw := wrap_neg x hx
  go_enter Tryz.func97, Tryz.ntmps97
  go_wp2_with fail
  go_ret
  exact ⟨ret_bool rfl, rfl⟩
set_option maxRecDepth 100000 in
set_option maxHeartbeats 1000000 in
theorem abs_any (x : Nat) (w : World) (hx : x < 18446744073709551616) :
    Calls Tryz.prog 100 #[.float .f64 x] w fun e w' => e = .returned (.float .f64 (ru x)) ∧ w' = w := by
  have hb := run_mbits x
  have hf := run_mfrom (ru x)
  have hm := mask_63 x hx
  go_enter Tryz.func100, Tryz.ntmps100
  go_wp2_with fail
  go_ret
  exact ⟨rfl, rfl⟩
set_option maxRecDepth 100000 in
set_option maxHeartbeats 1000000 in
theorem isinf_any (x : Nat) (w : World) (hx : x < 18446744073709551616) (h : ru x ≤ 9218868437227405312) :
    Calls Tryz.prog 98 #[.float .f64 x, .int .i64 0] w fun e w' => e = .returned (.bool (decide (ru x = 9218868437227405312))) ∧ w' = w := by
  have h1 := f_gt_max (ru x) (by have := ru_lt x; omega) (by rw [ru_ru]; exact h)
  rw [ru_ru, ng_ru, Bool.not_false, Bool.and_true] at h1
  have HA := Lib.hid (abs_any x w hx)
  generalize ru x = y at *
  go_enter Tryz.func98, Tryz.ntmps98
  go_wp2_with fail
  refine HA.out.mono ?_
  rintro e w5 ⟨rfl, rfl⟩
  go_wp2_with fail
  go_ret
  exact ⟨ret_bool rfl, rfl⟩
end Go.Proofs.YtckaoeloofbklaaGreatDoor
namespace Go.Proofs.YtckaoeloofbklaaGreatDoor
open Go Go.RowKit Go.Sort Go.Lib
structure Globs (w : World) : Prop where
  glob : Glob w
  mlen : ∃ m : Int, w.cell? ⟨9, 0, Option.none⟩ = some (.int .i64 m)
theorem Globs.below {w w' : World} {B : Nat} (h : Globs w) (hB : 17 ≤ B) (hb : Below B w w') : Globs w' := by
  obtain ⟨m, hm⟩ := h.mlen
  exact ⟨h.glob.below hB hb, m, (hb.cell (p := ⟨9, 0, Option.none⟩) (Nat.lt_of_lt_of_le (by decide) hB)).trans hm⟩
theorem Globs.on {w w' : World} (h : Globs w) (hb : Below w.heap.size w w') : Globs w' := h.below h.glob.lt hb
def sgS (x : Nat) : ByteArray := if ngB x then ⟨#[45]⟩ else ⟨#[]⟩
theorem show_nan_eq (x : Nat) (h : 9218868437227405312 < ru x) : showB x = nanB := by
  unfold showB; exact if_pos h
theorem show_sgn (x : Nat) (h : ru x ≤ 9218868437227405312) : showB x = (if ngB x then [45] else []) ++ (if ru x = 9218868437227405312 then infB else if ru x = 0 then [48] else showA (ru x)) := by
  unfold showB
  rw [if_neg (show ¬ 9218868437227405312 < x % 9223372036854775808 from Nat.not_lt.2 h)]
  unfold ngB
  by_cases hx : x < 9223372036854775808
  · rw [if_pos hx, decide_eq_false (by omega)]; rfl
  · rw [if_neg hx, decide_eq_true (by omega)]; rfl
set_option maxRecDepth 100000 in
set_option maxHeartbeats 1000000 in
theorem show_nan (x : Nat) (w : World) (hx : x < 18446744073709551616) (h : 9218868437227405312 < ru x) :
    Calls Tryz.prog 69 #[.int .u64 x] w fun e w' => e = .returned (.string ⟨(showB x).toArray⟩) ∧ Below w.heap.size w w' := by
  rw [show_nan_eq x h]
  have hb := run_mfrom x
  have h1 : (FloatKind.f64.format.order x x == some Ordering.eq) = false := by rw [f_self x hx, decide_eq_false (by omega)]
  have h2 : (FloatKind.f64.format.order x x != some Ordering.eq) = true := by rw [bne, h1]; rfl
  have HS := Lib.hid (signbit_any x w hx)
  cases hn : ngB x <;> rw [hn] at HS
  all_goals
    clear hn
    go_enter Tryz.func69, Tryz.ntmps69
    go_wp2_with fail
    refine HS.out.mono ?_
    rintro e w5 ⟨rfl, rfl⟩
    go_wp2_with fail
    go_ret
    exact ⟨rfl, Below.refl _ _⟩
set_option maxRecDepth 100000 in
set_option maxHeartbeats 1000000 in
theorem show_inf (x : Nat) (w : World) (hx : x < 18446744073709551616) (h : ru x = 9218868437227405312) :
    Calls Tryz.prog 69 #[.int .u64 x] w fun e w' => e = .returned (.string ⟨(showB x).toArray⟩) ∧ Below w.heap.size w w' := by
  rw [show_sgn x (by omega), if_pos h]
  have hb := run_mfrom x
  have h1 : (FloatKind.f64.format.order x x == some Ordering.eq) = true := by rw [f_self x hx, decide_eq_true (by omega)]
  have h2 : (FloatKind.f64.format.order x x != some Ordering.eq) = false := by rw [bne, h1]; rfl
  have HS := Lib.hid (signbit_any x w hx)
  have HI := Lib.hid (isinf_any x w hx (by omega))
  rw [decide_eq_true h] at HI
  cases hn : ngB x <;> rw [hn] at HS
  all_goals
    clear hn
    go_enter Tryz.func69, Tryz.ntmps69
    go_wp2_with fail
    refine HS.out.mono ?_
    rintro e w5 ⟨rfl, rfl⟩
    go_wp2_with fail
    refine HI.out.mono ?_
    rintro e w5 ⟨rfl, rfl⟩
    go_wp2_with fail
    go_ret
    exact ⟨rfl, Below.refl _ _⟩
set_option maxRecDepth 100000 in
set_option maxHeartbeats 1000000 in
theorem show_zero (x : Nat) (w : World) (hx : x < 18446744073709551616) (h : ru x = 0) :
    Calls Tryz.prog 69 #[.int .u64 x] w fun e w' => e = .returned (.string ⟨(showB x).toArray⟩) ∧ Below w.heap.size w w' := by
  rw [show_sgn x (by omega), if_neg (show ¬ ru x = 9218868437227405312 by omega), if_pos h]
  have hb := run_mfrom x
  have h1 : (FloatKind.f64.format.order x x == some Ordering.eq) = true := by rw [f_self x hx, decide_eq_true (by omega)]
  have h2 : (FloatKind.f64.format.order x x != some Ordering.eq) = false := by rw [bne, h1]; rfl
  have h3 : (FloatKind.f64.format.order x 0 == some Ordering.eq) = true := by rw [f_zero x hx (by omega), decide_eq_true h]
  have HS := Lib.hid (signbit_any x w hx)
  have HI := Lib.hid (isinf_any x w hx (by omega))
  rw [decide_eq_false (show ¬ ru x = 9218868437227405312 by omega)] at HI
  cases hn : ngB x <;> rw [hn] at HS
  all_goals
    clear hn
    go_enter Tryz.func69, Tryz.ntmps69
    go_wp2_with fail
    refine HS.out.mono ?_
    rintro e w5 ⟨rfl, rfl⟩
    go_wp2_with fail
    refine HI.out.mono ?_
    rintro e w5 ⟨rfl, rfl⟩
    go_wp2_with fail
    go_ret
    exact ⟨rfl, Below.refl _ _⟩
theorem placed_len (d : List UInt8) (p : Int) (h1 : d.length ≤ 20) (h2 : -5000 ≤ p) (h3 : p ≤ 5000) : (placedB d p).length ≤ 1000 := by
  have h4 : (decDigits (p - 1).natAbs).length ≤ 20 := by
    rw [decDigits_length]
    by_cases h0 : (p - 1).natAbs = 0
    · rw [h0, nDigits_small (by omega)]; omega
    · exact nDigits_le _ (by omega) (by omega)
  unfold placedB expS
  split
  · rw [List.length_append, List.length_replicate]; omega
  · split
    · rw [List.length_append, List.length_cons, List.length_take, List.length_drop]; omega
    · split
      · rw [List.length_cons, List.length_cons, List.length_append, List.length_replicate]; omega
      · rw [List.length_append, List.length_cons, List.length_cons]
        split
        · rw [List.length_append, List.length_cons, List.length_take, List.length_drop]; omega
        · omega
theorem ba_size (l : List UInt8) : (⟨l.toArray⟩ : ByteArray).size = l.length := rfl
theorem fmt_cut_run (y : Nat) (w : World) (hg : Globs w) (h1 : 0 < y) (h2 : y < 9218868437227405312) :
    Calls Tryz.prog 101 #[.string ⟨(fmtB y).toArray⟩, .string ⟨#[101]⟩] w fun e w' => e = .returned (.tuple #[.string ⟨(mantB (sig (shN y).1)).toArray⟩, .string ⟨(expB ((nDigits (shN y).1 : Nat) + (shN y).2 - 1)).toArray⟩, .bool true]) ∧ Below w.heap.size w w' := by
  obtain ⟨m, hm⟩ := hg.mlen
  refine (Tryz.strings_Cut ⟨(fmtB y).toArray⟩ ⟨#[101]⟩ m w (by rw [ba_size]; have := fmt_len y h1 h2; omega) hm).mono ?_
  rintro e w' ⟨he, n, rfl⟩
  rw [show (⟨#[101]⟩ : ByteArray).data.toList = [101] from rfl, fmt_cut y h1 h2] at he
  exact ⟨he, bDrewN (Below.refl _ _) n⟩
theorem mant_rep_run (y : Nat) (w : World) (hg : Globs w) (h1 : 0 < y) (h2 : y < 9218868437227405312) :
    Calls Tryz.prog 102 #[.string ⟨(mantB (sig (shN y).1)).toArray⟩, .string ⟨#[46]⟩, .string ⟨#[]⟩, .int .i64 1] w fun e w' => e = .returned (.string ⟨(sig (shN y).1).toArray⟩) ∧ Below w.heap.size w w' := by
  obtain ⟨m, hm⟩ := hg.mlen
  obtain ⟨h3, h4, _⟩ := sh_bounds y h1 h2
  have h5 := (sig_len _ h3 h4).2
  have h6 := mant_len (sig (shN y).1)
  refine (Tryz.strings_Replace ⟨(mantB (sig (shN y).1)).toArray⟩ ⟨#[46]⟩ ⟨#[]⟩ 1 m w (by rw [ba_size]; omega) hm (by decide) (by rw [ba_size, show (⟨#[]⟩ : ByteArray).size = 0 from rfl]; omega)).mono ?_
  rintro e w' ⟨he, hb⟩
  rw [show (⟨#[46]⟩ : ByteArray).data.toList = [46] from rfl, show (⟨#[]⟩ : ByteArray).data.toList = [] from rfl, mant_back _ (sig_digs _)] at he
  exact ⟨he, hb⟩
theorem exp_run (x : Int) (w : World) (h : x.natAbs < 1000) :
    Calls Tryz.prog 103 #[.string ⟨(expB x).toArray⟩] w fun e w' => e = .returned (.tuple #[.int .i64 x, .nilIface]) ∧ Below w.heap.size w w' := by
  refine (Tryz.strconv_Atoi ⟨(expB x).toArray⟩ x (by rw [ba_size]; have := exp_len x; omega) (atoi_exp x h) w).mono ?_
  rintro e w' ⟨he, t, rfl⟩
  exact ⟨he, bytesWorld_below w _ t⟩
set_option maxRecDepth 100000 in
set_option maxHeartbeats 1000000 in
theorem show_num (x : Nat) (w : World) (hg : Globs w) (hx : x < 18446744073709551616) (h : 0 < ru x) (h' : ru x < 9218868437227405312) :
    Calls Tryz.prog 69 #[.int .u64 x] w fun e w' => e = .returned (.string ⟨(showB x).toArray⟩) ∧ Below w.heap.size w w' := by
  rw [show_sgn x (by omega), if_neg (show ¬ ru x = 9218868437227405312 by omega), if_neg (show ¬ ru x = 0 by omega)]
  have hb := run_mfrom x
  have h1 : (FloatKind.f64.format.order x x == some Ordering.eq) = true := by rw [f_self x hx, decide_eq_true (by omega)]
  have h2 : (FloatKind.f64.format.order x x != some Ordering.eq) = false := by rw [bne, h1]; rfl
  have h3 : (FloatKind.f64.format.order x 0 == some Ordering.eq) = false := by rw [f_zero x hx (by omega), decide_eq_false (by omega)]
  have HS := Lib.hid (signbit_any x w hx)
  have HI := Lib.hid (isinf_any x w hx (by omega))
  rw [decide_eq_false (show ¬ ru x = 9218868437227405312 by omega)] at HI
  have HA := Lib.hid (abs_any x w hx)
  have HF := Lib.hid (format_any (ru x) w hg.glob h h')
  have HG := Lib.hid (fun (w' : World) (hb : Below w.heap.size w w') => hg.on hb)
  have HC := Lib.hid (fun (w' : World) (hb : Globs w') => fmt_cut_run (ru x) w' hb h h')
  have HR := Lib.hid (fun (w' : World) (hb : Globs w') => mant_rep_run (ru x) w' hb h h')
  obtain ⟨b1, b2, b3⟩ := sh_bounds (ru x) h h'
  have b4 := sig_len _ b1 b2
  have HX := Lib.hid (fun (w' : World) => exp_run ((nDigits (shN (ru x)).1 : Nat) + (shN (ru x)).2 - 1) w' b3)
  have hp : (nDigits (shN (ru x)).1 : Nat) + (shN (ru x)).2 - 1 + 1 = (nDigits (shN (ru x)).1 : Nat) + (shN (ru x)).2 := by omega
  have HP := Lib.hid (fun (w' : World) (hb : Globs w') => placed_any ⟨(sig (shN (ru x)).1).toArray⟩ ((nDigits (shN (ru x)).1 : Nat) + (shN (ru x)).2 - 1 + 1) w' hb.glob (by rw [ba_size]; omega) (by rw [ba_size]; omega) (by omega) (by omega))
  rw [hp] at HP
  change Hid (∀ (w' : World) (_ : Globs w'), Calls Tryz.prog 104 #[.string ⟨(sig (shN (ru x)).1).toArray⟩, .int .i64 ((nDigits (shN (ru x)).1 : Nat) + (shN (ru x)).2)] w' fun e w'' => e = .returned (.string ⟨(showA (ru x)).toArray⟩) ∧ Below w'.heap.size w' w'') at HP
  have hq : ((nDigits (shN (ru x)).1 : Nat) + (shN (ru x)).2).natAbs < 2000 := by omega
  have hzl : (⟨(showA (ru x)).toArray⟩ : ByteArray).size ≤ 1000 := by
    exact placed_len _ _ b4.2 (by omega) (by omega)
  have hR : sgS x ++ (⟨(showA (ru x)).toArray⟩ : ByteArray) = ⟨((if ngB x then [45] else []) ++ showA (ru x)).toArray⟩ := by
    refine str_is ?_
    unfold sgS
    cases ngB x <;> simp
  generalize (⟨((if ngB x then [45] else []) ++ showA (ru x)).toArray⟩ : ByteArray) = R at *
  generalize (⟨(showA (ru x)).toArray⟩ : ByteArray) = RR at *
  unfold sgS at hR
  generalize ((nDigits (shN (ru x)).1 : Nat) + (shN (ru x)).2 : Int) = q at *
  generalize expB (q - 1) = EE at *
  generalize sig (shN (ru x)).1 = SS at *
  generalize mantB SS = MM at *
  generalize fmtB (ru x) = FF at *
  cases hn : ngB x <;> rw [hn] at HS hR
  all_goals
    simp only [if_true, Bool.false_eq_true, if_false] at hR
    clear hn b1 b2 b3 b4 hp
    go_enter Tryz.func69, Tryz.ntmps69
    go_wp2_with fail
    refine HS.out.mono ?_
    rintro e w5 ⟨rfl, rfl⟩
    go_wp2_with fail
    refine HI.out.mono ?_
    rintro e w5 ⟨rfl, rfl⟩
    go_wp2_with fail
    refine HA.out.mono ?_
    rintro e w5 ⟨rfl, rfl⟩
    go_wp2_with fail
    refine HF.out.mono ?_
    rintro e w6 ⟨rfl, hb6⟩
    have HB6 := Lib.hid hb6
    clear hb6
    go_wp2_with fail
    refine (HC.out _ (HG.out _ HB6.out)).mono ?_
    rintro e w7 ⟨rfl, hb7⟩
    have HB7 := Lib.hid (HB6.out.trans (hb7.mono HB6.out.size))
    clear hb7
    go_wp2_with fail
    refine (HR.out _ (HG.out _ HB7.out)).mono ?_
    rintro e w8 ⟨rfl, hb8⟩
    have HB8 := Lib.hid (HB7.out.trans (hb8.mono HB7.out.size))
    clear hb8
    go_wp2_with fail
    refine (HX.out _).mono ?_
    rintro e w9 ⟨rfl, hb9⟩
    have HB9 := Lib.hid (HB8.out.trans (hb9.mono HB8.out.size))
    clear hb9
    go_wp2_with fail
    refine (HP.out _ (HG.out _ HB9.out)).mono ?_
    rintro e wa ⟨rfl, hba⟩
    have HBa := Lib.hid (HB9.out.trans (hba.mono HB9.out.size))
    clear hba
    go_wp2_with fail
    go_ret
    exact ⟨rfl, HBa.out⟩
theorem show_any (x : Nat) (w : World) (hg : Globs w) (hx : x < 18446744073709551616) :
    Calls Tryz.prog 69 #[.int .u64 x] w fun e w' => e = .returned (.string ⟨(showB x).toArray⟩) ∧ Below w.heap.size w w' := by
  by_cases h1 : 9218868437227405312 < ru x
  · exact show_nan x w hx h1
  · by_cases h2 : ru x = 9218868437227405312
    · exact show_inf x w hx h2
    · by_cases h3 : ru x = 0
      · exact show_zero x w hx h3
      · exact show_num x w hg hx (by omega) (by omega)
end Go.Proofs.YtckaoeloofbklaaGreatDoor
namespace Go.Proofs.YtckaoeloofbklaaGreatDoor
open Go Go.RowKit
set_option maxRecDepth 100000 in
set_option maxHeartbeats 4000000 in
theorem special_no (s : ByteArray) (w : World) (h0 : 0 < s.size) (hs : s.size ≤ 1000) (hb : s[0].toNat = 46 ∨ (48 ≤ s[0].toNat ∧ s[0].toNat ≤ 57)) :
    Calls Tryz.prog 247 #[.string s] w fun e w' => e = .returned (.tuple #[.float .f64 0, .int .i64 0, .bool false]) ∧ w' = w := by
  have hn1 : ((s.size : Int) == 0) = false := by rw [beq_eq_false_iff_ne]; omega
  have hn2 : (s.size == 0) = false := by rw [beq_eq_false_iff_ne]; omega
  have hn3 : ¬ s.size = 0 := by omega
  have t1 : (((s[0]'h0).toNat : Int) == 43) = false := by rw [beq_eq_false_iff_ne]; omega
  have t2 : (((s[0]'h0).toNat : Int) == 45) = false := by rw [beq_eq_false_iff_ne]; omega
  have t3 : (((s[0]'h0).toNat : Int) == 105) = false := by rw [beq_eq_false_iff_ne]; omega
  have t4 : (((s[0]'h0).toNat : Int) == 73) = false := by rw [beq_eq_false_iff_ne]; omega
  have t5 : (((s[0]'h0).toNat : Int) == 110) = false := by rw [beq_eq_false_iff_ne]; omega
  have t6 : (((s[0]'h0).toNat : Int) == 78) = false := by rw [beq_eq_false_iff_ne]; omega
  clear hb
  go_enter Tryz.func247, Tryz.ntmps247
  go_wp2_with fail
  refine bodyPost_ret (v := .tuple #[.float .f64 0, .int .i64 0, .bool false]) (by simp [results, Tryz.results247, go_sem]) rfl ⟨rfl, rfl⟩
def AfPost (d : Nat) (p : Int) (n : Nat) (w : World) (e : Ending) (w' : World) : Prop := ∃ r, Near (dX d p) (dQ p) r ∧ e = .returned (.tuple #[.float .f64 r, .int .i64 n, errV r]) ∧ Below w.heap.size w w'
theorem bits_or_zero : bits .or .u64 0 0 = 0 := by decide +kernel
theorem bits_or_inf : bits .or .u64 0 9218868437227405312 = 9218868437227405312 := by decide +kernel
set_option maxRecDepth 100000 in
set_option maxHeartbeats 4000000 in
theorem atof_dec (s : ByteArray) (d K : Nat) (p : Int) (w : World) (hG : Glob w) (hT : GlobT K w) (h0 : 0 < s.size) (hs : s.size ≤ 1000) (hb : s[0].toNat = 46 ∨ (48 ≤ s[0].toNat ∧ s[0].toNat ≤ 57)) (hd : d < 10 ^ 19)
    (hrf : Calls Tryz.prog 248 #[.string s] w fun e w' => e = .returned (.tuple #[.int .u64 d, .int .i64 p, .bool false, .bool false, .bool false, .int .i64 s.size, .bool true]) ∧ w' = w) :
    Calls Tryz.prog 225 #[.string s] w (AfPost d p s.size w) := by
  have hopt := hG.opt
  have HSP := Lib.hid (special_no s w h0 hs hb)
  have HRF := Lib.hid hrf
  have HBU : Hid (∀ W : World, Calls Tryz.prog 256 #[.bool false] W fun e w' => e = .returned (.int .u64 0) ∧ W = w') := Lib.hid (fun W => b2u_any false W)
  have hor := bits_or_zero
  have hor2 := bits_or_inf
  have hfb : ∀ W : World, (callFunc 257 #[.int .u64 0]).run Tryz.prog W = .ok (.value (.float .f64 0)) W := run_sfrom 0
  have hfi : ∀ W : World, (callFunc 257 #[.int .u64 9218868437227405312]).run Tryz.prog W = .ok (.value (.float .f64 9218868437227405312)) W := run_sfrom 9218868437227405312
  clear hrf hb h0
  by_cases hd0 : d = 0
  · subst hd0
    have HN := Lib.hid (zero_near p)
    go_enter Tryz.func225, Tryz.ntmps225
    go_wp2_with fail
    refine HSP.out.mono ?_
    rintro e w ⟨rfl, rfl⟩
    go_wp2_with fail
    refine HRF.out.mono ?_
    rintro e w ⟨rfl, rfl⟩
    go_wp2_with fail
    refine (HBU.out _).mono ?_
    rintro e w' ⟨rfl, rfl⟩
    go_wp2_with fail
    refine bodyPost_ret (v := .tuple #[.float .f64 0, .int .i64 s.size, .nilIface]) (by simp [results, Tryz.results225, go_sem]) rfl ⟨0, HN.out, rfl, Below.refl _ _⟩
  · have hdz : ((d : Int) == 0) = false := by rw [beq_eq_false_iff_ne]; omega
    have hdz2 : (d == 0) = false := by rw [beq_eq_false_iff_ne]; omega
    have hdz3 : ¬ d = 0 := hd0
    by_cases hp1 : 310 < p
    · have HN := Lib.hid (far_inf d p (by omega) (by omega))
      clear hd hdz3
      go_enter Tryz.func225, Tryz.ntmps225
      go_wp2_with fail
      refine HSP.out.mono ?_
      rintro e w ⟨rfl, rfl⟩
      go_wp2_with fail
      refine HRF.out.mono ?_
      rintro e w ⟨rfl, rfl⟩
      go_wp2_with fail
      refine (HBU.out _).mono ?_
      rintro e w' ⟨rfl, rfl⟩
      go_wp2_with fail
      refine bodyPost_ret (v := .tuple #[.float .f64 9218868437227405312, .int .i64 s.size, .iface 174 (.int .i64 1)]) (by simp [results, Tryz.results225, go_sem]) rfl ⟨INF, HN.out, rfl, Below.refl _ _⟩
    · by_cases hp2 : p < -345
      · have HN := Lib.hid (far_zero d 19 p hd (by omega))
        clear hd hdz3
        go_enter Tryz.func225, Tryz.ntmps225
        go_wp2_with fail
        refine HSP.out.mono ?_
        rintro e w ⟨rfl, rfl⟩
        go_wp2_with fail
        refine HRF.out.mono ?_
        rintro e w ⟨rfl, rfl⟩
        go_wp2_with fail
        refine (HBU.out _).mono ?_
        rintro e w' ⟨rfl, rfl⟩
        go_wp2_with fail
        refine bodyPost_ret (v := .tuple #[.float .f64 0, .int .i64 s.size, .nilIface]) (by simp [results, Tryz.results225, go_sem]) rfl ⟨0, HN.out, rfl, Below.refl _ _⟩
      · have hpa : -345 ≤ p := by omega
        have hpb : p ≤ 310 := by omega
        have HEX := Lib.hid (exact_any d p K w hT (by omega) (by omega))
        have HPF := Lib.hid (pf64_any d p w hG (by omega) (by omega) (by omega) (by omega))
        clear hd hdz3 hp1 hp2 hT
        go_enter Tryz.func225, Tryz.ntmps225
        go_wp2_with fail
        refine HSP.out.mono ?_
        rintro e w ⟨rfl, rfl⟩
        go_wp2_with fail
        refine HRF.out.mono ?_
        rintro e w ⟨rfl, rfl⟩
        go_wp2_with fail
        refine (HBU.out _).mono ?_
        rintro e w' ⟨rfl, rfl⟩
        go_wp2_with fail
        refine HEX.out.mono ?_
        rintro e w ⟨r, ok, rfl, hok, rfl⟩
        have HOK := Lib.hid hok
        clear hok
        cases ok
        · go_wp2_with fail
          refine HPF.out.mono ?_
          rintro e w2 ⟨r2, hn, rfl, hb⟩
          have HN := Lib.hid hn
          have HB := Lib.hid hb
          clear hn hb
          go_wp2_with fail
          refine bodyPost_ret (v := .tuple #[.float .f64 r2, .int .i64 s.size, errV r2]) (by simp [results, Tryz.results225, go_sem]) rfl ⟨r2, HN.out, rfl, HB.out⟩
        · go_wp2_with fail
          refine bodyPost_ret (v := .tuple #[.float .f64 r, .int .i64 s.size, .nilIface]) (by simp [results, Tryz.results225, go_sem]) rfl ⟨r, (HOK.out (by trivial)).1, ?_, Below.refl _ _⟩
          rw [show errV r = .nilIface from if_neg (Nat.ne_of_lt (HOK.out (by trivial)).2)]
def PlPost (X Q : Nat) (w : World) (e : Ending) (w' : World) : Prop := ∃ r ev, Near X Q r ∧ e = .returned (.tuple #[.float .f64 r, ev]) ∧ Below w.heap.size w w'
set_option maxRecDepth 100000 in
set_option maxHeartbeats 4000000 in
theorem pfloat_of (s : ByteArray) (X Q K : Nat) (w : World) (hT : GlobT K w) (hs : s.size ≤ 1000)
    (haf : Calls Tryz.prog 225 #[.string s] w fun e w' => ∃ r, Near X Q r ∧ e = .returned (.tuple #[.float .f64 r, .int .i64 s.size, errV r]) ∧ Below w.heap.size w w') :
    Calls Tryz.prog 122 #[.string s, .int .i64 64] w (PlPost X Q w) := by
  have HAF := Lib.hid haf
  have HT := Lib.hid hT
  clear haf hT
  have hpp : Calls Tryz.prog 198 #[.string s, .int .i64 64] w fun e w' => ∃ r, Near X Q r ∧ e = .returned (.tuple #[.float .f64 r, .int .i64 s.size, errV r]) ∧ Below w.heap.size w w' := by
    go_enter Tryz.func198, Tryz.ntmps198
    go_wp2_with fail
    refine HAF.out.mono ?_
    rintro e w2 ⟨r2, hn, rfl, hb⟩
    have HN := Lib.hid hn
    have HB := Lib.hid hb
    clear hn hb
    go_wp2_with fail
    refine bodyPost_ret (v := .tuple #[.float .f64 r2, .int .i64 s.size, errV r2]) (by simp [results, Tryz.results198, go_sem]) rfl ⟨r2, HN.out, rfl, HB.out⟩
  have HPP := Lib.hid hpp
  clear hpp
  have hpf : Calls Tryz.prog 164 #[.string s, .int .i64 64] w fun e w' => ∃ r, Near X Q r ∧ e = .returned (.tuple #[.float .f64 r, errV r]) ∧ Below w.heap.size w w' := by
    go_enter Tryz.func164, Tryz.ntmps164
    go_wp2_with fail
    refine HPP.out.mono ?_
    rintro e w2 ⟨r2, hn, rfl, hb⟩
    have HN := Lib.hid hn
    have HB := Lib.hid hb
    clear hn hb
    go_wp2_with fail
    refine bodyPost_ret (v := .tuple #[.float .f64 r2, errV r2]) (by simp [results, Tryz.results164, go_sem]) rfl ⟨r2, HN.out, rfl, HB.out⟩
  have HPF := Lib.hid hpf
  clear hpf
  go_enter Tryz.func122, Tryz.ntmps122
  go_wp2_with fail
  refine HPF.out.mono ?_
  rintro e w2 ⟨r2, hn, rfl, hb⟩
  have HN := Lib.hid hn
  have HB := Lib.hid hb
  clear hn
  by_cases hr : r2 = INF
  · have he : errV r2 = .iface 174 (.int .i64 1) := if_pos hr
    obtain ⟨te, pe, hv⟩ := (HT.out.on hb).rng
    have HTE := Lib.hid (Tryz.strconv_toError_range ⟨#[80, 97, 114, 115, 101, 70, 108, 111, 97, 116]⟩ s 0 64 (.iface te pe) w2 (by omega) hv (.inr ⟨te, pe, rfl⟩))
    clear hr hv hb
    rw [he]
    clear he
    go_wp2_with fail
    refine HTE.out.mono ?_
    rintro e w3 ⟨N, rfl, hN, hcell, hb3⟩
    have HB3 := Lib.hid hb3
    clear hb3 hcell hN
    go_wp2_with fail
    refine bodyPost_ret (v := .tuple #[.float .f64 r2, .iface 177 (.pointer (some ⟨N, 0, Option.none⟩))]) (by simp [results, Tryz.results122, go_sem]) rfl ⟨r2, _, HN.out, rfl, HB.out.trans (HB3.out.mono HB.out.size)⟩
  · have he : errV r2 = .nilIface := if_neg hr
    clear hr hb
    rw [he]
    clear he
    go_wp2_with fail
    refine bodyPost_ret (v := .tuple #[.float .f64 r2, .nilIface]) (by simp [results, Tryz.results122, go_sem]) rfl ⟨r2, _, HN.out, rfl, HB.out⟩
end Go.Proofs.YtckaoeloofbklaaGreatDoor
namespace Go.Proofs.YtckaoeloofbklaaGreatDoor
open Go Go.RowKit
def clsN (c : Nat) : Nat := if c = 48 then 1 else if 48 ≤ c ∧ c ≤ 57 then 2 else if c = 46 then 3 else if c = 69 ∨ c = 101 then 4 else if c = 43 ∨ c = 45 then 5 else if c = 95 then 6 else 0
theorem or32 (c : Nat) (h : c < 256) : (bits .or .u8 (c : Int) 32 = 101) = (c = 69 ∨ c = 101) := by
  have key : ∀ c : Fin 256, (bits .or .u8 ((c.val : Nat) : Int) 32 = 101) ↔ (c.val = 69 ∨ c.val = 101) := by decide +kernel
  exact propext (key ⟨c, h⟩)
theorem digit_yes (r : Int) (w : World) (h1 : 48 ≤ r) (h2 : r ≤ 57) :
    Calls Tryz.prog 53 #[.int .i32 r] w fun e w' => e = .returned (.bool true) ∧ w' = w := by
  go_enter Tryz.func53, Tryz.ntmps53
  go_wp2_with fail
  go_ret
  exact ⟨ret_bool (by first | rfl | (simp; done) | (simp; omega)), rfl⟩
theorem digit_low (r : Int) (w : World) (h1 : r < 48) :
    Calls Tryz.prog 53 #[.int .i32 r] w fun e w' => e = .returned (.bool false) ∧ w' = w := by
  go_enter Tryz.func53, Tryz.ntmps53
  go_wp2_with fail
  go_ret
  exact ⟨ret_bool (by simp), rfl⟩
theorem digit_high (r : Int) (w : World) (h1 : 57 < r) :
    Calls Tryz.prog 53 #[.int .i32 r] w fun e w' => e = .returned (.bool false) ∧ w' = w := by
  have h0 : 48 ≤ r := by omega
  go_enter Tryz.func53, Tryz.ntmps53
  go_wp2_with fail
  go_ret
  exact ⟨ret_bool (by simp; omega), rfl⟩
theorem digit_no (r : Int) (w : World) (h : ¬ (48 ≤ r ∧ r ≤ 57)) :
    Calls Tryz.prog 53 #[.int .i32 r] w fun e w' => e = .returned (.bool false) ∧ w' = w := by
  by_cases h1 : r < 48
  · exact digit_low r w h1
  · exact digit_high r w (by omega)
set_option maxRecDepth 100000 in
theorem class_0 (c : Nat) (w : World) (_h : c < 256) (hq : c = 48) :
    Calls Tryz.prog 197 #[.int .u8 c] w fun e w' => e = .returned (.int .i64 (clsN c)) ∧ w' = w := by
  have hv : clsN c = 1 := by unfold clsN; repeat (first | rw [if_pos (by omega)] | rw [if_neg (by omega)])
  rw [hv]
  have t0 : ((c : Int) == 48) = true := by rw [beq_iff_eq]; omega
  clear hv hq
  go_enter Tryz.func197, Tryz.ntmps197
  go_wp2_with fail
  go_ret
  exact ⟨rfl, rfl⟩
set_option maxRecDepth 100000 in
theorem class_1 (c : Nat) (w : World) (h : c < 256) (hq : 48 < c ∧ c ≤ 57) :
    Calls Tryz.prog 197 #[.int .u8 c] w fun e w' => e = .returned (.int .i64 (clsN c)) ∧ w' = w := by
  have hv : clsN c = 2 := by unfold clsN; repeat (first | rw [if_pos (by omega)] | rw [if_neg (by omega)])
  rw [hv]
  have HD := Lib.hid (digit_yes c w (by omega) (by omega))
  have t0 : ((c : Int) == 48) = false := by rw [beq_eq_false_iff_ne]; omega
  clear hv hq
  go_enter Tryz.func197, Tryz.ntmps197
  go_wp2_with fail
  refine HD.out.mono ?_
  rintro e w5 ⟨rfl, rfl⟩
  go_wp2_with fail
  go_ret
  exact ⟨rfl, rfl⟩
set_option maxRecDepth 100000 in
theorem class_2 (c : Nat) (w : World) (h : c < 256) (hq : c = 46) :
    Calls Tryz.prog 197 #[.int .u8 c] w fun e w' => e = .returned (.int .i64 (clsN c)) ∧ w' = w := by
  have hv : clsN c = 3 := by unfold clsN; repeat (first | rw [if_pos (by omega)] | rw [if_neg (by omega)])
  rw [hv]
  have HD := Lib.hid (digit_no c w (by omega))
  have t0 : ((c : Int) == 48) = false := by rw [beq_eq_false_iff_ne]; omega
  have t2 : ((c : Int) == 46) = true := by rw [beq_iff_eq]; omega
  clear hv hq
  go_enter Tryz.func197, Tryz.ntmps197
  go_wp2_with fail
  refine HD.out.mono ?_
  rintro e w5 ⟨rfl, rfl⟩
  go_wp2_with fail
  go_ret
  exact ⟨rfl, rfl⟩
set_option maxRecDepth 100000 in
theorem class_3 (c : Nat) (w : World) (h : c < 256) (hq : c = 69 ∨ c = 101) :
    Calls Tryz.prog 197 #[.int .u8 c] w fun e w' => e = .returned (.int .i64 (clsN c)) ∧ w' = w := by
  have hv : clsN c = 4 := by unfold clsN; repeat (first | rw [if_pos (by omega)] | rw [if_neg (by omega)])
  rw [hv]
  have ho := or32 c h
  have HD := Lib.hid (digit_no c w (by omega))
  have t0 : ((c : Int) == 48) = false := by rw [beq_eq_false_iff_ne]; omega
  have t2 : ((c : Int) == 46) = false := by rw [beq_eq_false_iff_ne]; omega
  have t3 : (bits .or .u8 (c : Int) 32 == 101) = true := by rw [beq_iff_eq, ho]; omega
  clear hv ho hq
  go_enter Tryz.func197, Tryz.ntmps197
  go_wp2_with fail
  refine HD.out.mono ?_
  rintro e w5 ⟨rfl, rfl⟩
  go_wp2_with fail
  go_ret
  exact ⟨rfl, rfl⟩
set_option maxRecDepth 100000 in
theorem class_4 (c : Nat) (w : World) (h : c < 256) (hq : c = 43) :
    Calls Tryz.prog 197 #[.int .u8 c] w fun e w' => e = .returned (.int .i64 (clsN c)) ∧ w' = w := by
  have hv : clsN c = 5 := by unfold clsN; repeat (first | rw [if_pos (by omega)] | rw [if_neg (by omega)])
  rw [hv]
  have ho := or32 c h
  have HD := Lib.hid (digit_no c w (by omega))
  have t0 : ((c : Int) == 48) = false := by rw [beq_eq_false_iff_ne]; omega
  have t2 : ((c : Int) == 46) = false := by rw [beq_eq_false_iff_ne]; omega
  have t3 : (bits .or .u8 (c : Int) 32 == 101) = false := by rw [beq_eq_false_iff_ne, ne_eq, ho]; omega
  have t4 : ((c : Int) == 43) = true := by rw [beq_iff_eq]; omega
  clear hv ho hq
  go_enter Tryz.func197, Tryz.ntmps197
  go_wp2_with fail
  refine HD.out.mono ?_
  rintro e w5 ⟨rfl, rfl⟩
  go_wp2_with fail
  go_ret
  exact ⟨rfl, rfl⟩
set_option maxRecDepth 100000 in
theorem class_5 (c : Nat) (w : World) (h : c < 256) (hq : c = 45) :
    Calls Tryz.prog 197 #[.int .u8 c] w fun e w' => e = .returned (.int .i64 (clsN c)) ∧ w' = w := by
  have hv : clsN c = 5 := by unfold clsN; repeat (first | rw [if_pos (by omega)] | rw [if_neg (by omega)])
  rw [hv]
  have ho := or32 c h
  have HD := Lib.hid (digit_no c w (by omega))
  have t0 : ((c : Int) == 48) = false := by rw [beq_eq_false_iff_ne]; omega
  have t2 : ((c : Int) == 46) = false := by rw [beq_eq_false_iff_ne]; omega
  have t3 : (bits .or .u8 (c : Int) 32 == 101) = false := by rw [beq_eq_false_iff_ne, ne_eq, ho]; omega
  have t4 : ((c : Int) == 43) = false := by rw [beq_eq_false_iff_ne]; omega
  have t5 : ((c : Int) == 45) = true := by rw [beq_iff_eq]; omega
  clear hv ho hq
  go_enter Tryz.func197, Tryz.ntmps197
  go_wp2_with fail
  refine HD.out.mono ?_
  rintro e w5 ⟨rfl, rfl⟩
  go_wp2_with fail
  go_ret
  exact ⟨rfl, rfl⟩
set_option maxRecDepth 100000 in
theorem class_6 (c : Nat) (w : World) (h : c < 256) (hq : c = 95) :
    Calls Tryz.prog 197 #[.int .u8 c] w fun e w' => e = .returned (.int .i64 (clsN c)) ∧ w' = w := by
  have hv : clsN c = 6 := by unfold clsN; repeat (first | rw [if_pos (by omega)] | rw [if_neg (by omega)])
  rw [hv]
  have ho := or32 c h
  have HD := Lib.hid (digit_no c w (by omega))
  have t0 : ((c : Int) == 48) = false := by rw [beq_eq_false_iff_ne]; omega
  have t2 : ((c : Int) == 46) = false := by rw [beq_eq_false_iff_ne]; omega
  have t3 : (bits .or .u8 (c : Int) 32 == 101) = false := by rw [beq_eq_false_iff_ne, ne_eq, ho]; omega
  have t4 : ((c : Int) == 43) = false := by rw [beq_eq_false_iff_ne]; omega
  have t5 : ((c : Int) == 45) = false := by rw [beq_eq_false_iff_ne]; omega
  have t6 : ((c : Int) == 95) = true := by rw [beq_iff_eq]; omega
  clear hv ho hq
  go_enter Tryz.func197, Tryz.ntmps197
  go_wp2_with fail
  refine HD.out.mono ?_
  rintro e w5 ⟨rfl, rfl⟩
  go_wp2_with fail
  go_ret
  exact ⟨rfl, rfl⟩
set_option maxRecDepth 100000 in
theorem class_7 (c : Nat) (w : World) (h : c < 256) (hq : ¬ (48 ≤ c ∧ c ≤ 57) ∧ c ≠ 46 ∧ c ≠ 69 ∧ c ≠ 101 ∧ c ≠ 43 ∧ c ≠ 45 ∧ c ≠ 95) :
    Calls Tryz.prog 197 #[.int .u8 c] w fun e w' => e = .returned (.int .i64 (clsN c)) ∧ w' = w := by
  have hv : clsN c = 0 := by unfold clsN; repeat (first | rw [if_pos (by omega)] | rw [if_neg (by omega)])
  rw [hv]
  have ho := or32 c h
  have HD := Lib.hid (digit_no c w (by omega))
  have t0 : ((c : Int) == 48) = false := by rw [beq_eq_false_iff_ne]; omega
  have t2 : ((c : Int) == 46) = false := by rw [beq_eq_false_iff_ne]; omega
  have t3 : (bits .or .u8 (c : Int) 32 == 101) = false := by rw [beq_eq_false_iff_ne, ne_eq, ho]; omega
  have t4 : ((c : Int) == 43) = false := by rw [beq_eq_false_iff_ne]; omega
  have t5 : ((c : Int) == 45) = false := by rw [beq_eq_false_iff_ne]; omega
  have t6 : ((c : Int) == 95) = false := by rw [beq_eq_false_iff_ne]; omega
  clear hv ho hq
  go_enter Tryz.func197, Tryz.ntmps197
  go_wp2_with fail
  refine HD.out.mono ?_
  rintro e w5 ⟨rfl, rfl⟩
  go_wp2_with fail
  go_ret
  exact ⟨rfl, rfl⟩
theorem class_any (c : Nat) (w : World) (h : c < 256) :
    Calls Tryz.prog 197 #[.int .u8 c] w fun e w' => e = .returned (.int .i64 (clsN c)) ∧ w' = w := by
  by_cases q0 : c = 48
  · exact class_0 c w h q0
  by_cases q1 : 48 < c ∧ c ≤ 57
  · exact class_1 c w h q1
  by_cases q2 : c = 46
  · exact class_2 c w h q2
  by_cases q3 : c = 69 ∨ c = 101
  · exact class_3 c w h q3
  by_cases q4 : c = 43
  · exact class_4 c w h q4
  by_cases q5 : c = 45
  · exact class_5 c w h q5
  by_cases q6 : c = 95
  · exact class_6 c w h q6
  exact class_7 c w h (by omega)
end Go.Proofs.YtckaoeloofbklaaGreatDoor
