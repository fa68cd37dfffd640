/- Joined texts: Tb Tc. Each begins with its own remark. -/
import Derived.Test.YtckaoeloofbklaaGreatDoorWp
import Derived.Test.YtckaoeloofbklaaGreatDoorWi
import Derived.Test.YtckaoeloofbklaaGreatDoorWq
set_option maxRecDepth 100000
set_option maxHeartbeats 8000000
namespace Go.Proofs.YtckaoeloofbklaaGreatDoor
open Go Go.RowKit Go.Sort Go.Lib
set_option exponentiation.threshold 3000
theorem div_lt2 (x m Y X k : Nat) (h : x + m * (Y * 2 ^ k) = X) (hX : X < 2 ^ 60 * Y) : m < 1152921504606846976 := by
 rcases Nat.lt_or_ge m 1152921504606846976 with g | g
 ·exact g
 ·exfalso
  have h1 : 2 ^ 60 * Y ≤ m * (Y * 2 ^ k) := Nat.mul_le_mul g (Nat.le_mul_of_pos_right _ (Nat.two_pow_pos k))
  omega
theorem near_any (vp vq : Value) (P Q K : Nat) (x : Int) (X Y : Nat) (w : World) (hp : IsNum w vp P) (hq : IsNum w vq Q) (hQ : 0 < Q) (hK : K ≤ 2000) (hP : P < 256 ^ K) (hQK : Q < 256 ^ K) (hx : -2000 ≤ x ∧ x ≤ 2000)
  (hX : P * 10 ^ x.toNat = X) (hY : Q * 10 ^ (-x).toNat = Y) (hlt : X < 2 ^ 60 * Y) :
  Calls Tryz.prog 171 #[vp, vq, .int .i64 x] w fun e w' => e = .returned (.tuple #[.int .u64 ((X / Y : Nat) : Int), .bool (decide (upG X Y = 0))]) ∧ Below w.heap.size w w' := by
 have HSH : Hid (∀ (v : Value) (x n : Nat) (W : World), IsNum W v x → x < 256 ^ (K + 2100) → n ≤ 100000 → Calls Tryz.prog 168 #[v, .int .i64 n] W fun e w' => (∃ v', e = .returned v' ∧ IsNum w' v' (x * 2 ^ n)) ∧ Below W.heap.size W w') := Lib.hid fun v x n W h hx hn => shift_any v x n (K + 2100) W h (by omega) hx hn
 have HCM : Hid (∀ (va vb : Value) (x y : Nat) (W : World), IsNum W va x → IsNum W vb y → x < 256 ^ (K + 2300) → y < 256 ^ (K + 2300) → Calls Tryz.prog 169 #[va, vb] W fun e w' => e = .returned (.int .i64 (cmpN x y)) ∧ Below W.heap.size W w') := Lib.hid fun va vb x y W ha hb hx hy => cmp_any va vb x y (K + 2300) W ha hb (by omega) hx hy
 have HMI : Hid (∀ (va vb : Value) (x y : Nat) (W : World), IsNum W va x → IsNum W vb y → x < 256 ^ (K + 2300) → y ≤ x → Calls Tryz.prog 204 #[va, vb] W fun e w' => (∃ v', e = .returned v' ∧ IsNum w' v' (x - y)) ∧ Below W.heap.size W w') := Lib.hid fun va vb x y W ha hb hx hy => minus_any va vb x y (K + 2300) W ha hb (by omega) hx hy
 have hten : ∀ n, n ≤ 2000 → 10 ^ n ≤ 256 ^ 2000 := fun n hn => Nat.le_trans (Nat.pow_le_pow_left (by decide) n) (Nat.pow_le_pow_right (by decide) hn)
 have hXB : X < 256 ^ (K + 2000) := by
  rw [← hX, Nat.pow_add]
  exact Nat.lt_of_lt_of_le ((Nat.mul_lt_mul_right (Nat.pow_pos (by decide))).2 hP) (Nat.mul_le_mul_left _ (hten _ (by omega)))
 have hYB : Y < 256 ^ (K + 2000) := by
  rw [← hY, Nat.pow_add]
  exact Nat.lt_of_lt_of_le ((Nat.mul_lt_mul_right (Nat.pow_pos (by decide))).2 hQK) (Nat.mul_le_mul_left _ (hten _ (by omega)))
 have HYP : Hid (0 < Y) := Lib.hid (by rw [← hY]; exact Nat.mul_pos hQ (Nat.pow_pos (by decide)))
 have HTB : Hid (∀ k, k ≤ 61 → Y * 2 ^ k < 256 ^ (K + 2300)) := Lib.hid fun k hk => by
  have h1 : 2 ^ k ≤ 256 ^ 8 := by
   have : 2 ^ k ≤ 2 ^ 64 := Nat.pow_le_pow_right (by decide) (by omega)
   exact this
  have h2 : Y * 2 ^ k < 256 ^ (K + 2000) * 256 ^ 8 := Nat.lt_of_lt_of_le ((Nat.mul_lt_mul_right (Nat.two_pow_pos k)).2 hYB) (Nat.mul_le_mul_left _ h1)
  rw [← Nat.pow_add] at h2
  exact Nat.lt_of_lt_of_le h2 (Nat.pow_le_pow_right (by decide) (by omega))
 have HXB3 : Hid (∀ x, x ≤ 2 * X → x < 256 ^ (K + 2300)) := Lib.hid fun x hx => by
  have h1 : 2 * 256 ^ (K + 2000) ≤ 256 ^ (K + 2300) := by
   have : 256 ^ (K + 2001) ≤ 256 ^ (K + 2300) := Nat.pow_le_pow_right (by decide) (by omega)
   rw [Nat.pow_succ] at this; omega
  omega
 have HTEN : Hid (∀ (v : Value) (z n : Nat) (W : World), IsNum W v z → z < 256 ^ K → n ≤ 2000 → Calls Tryz.prog 170 #[v, .int .i64 n] W fun e w' => (∃ v', e = .returned v' ∧ IsNum w' v' (z * 10 ^ n)) ∧ Below W.heap.size W w') := Lib.hid fun v z n W h hz hn => ten_any v z n K W h (by omega) hz (by omega)
 have HXB : Hid (X < 256 ^ (K + 2100)) := Lib.hid (Nat.lt_of_lt_of_le hXB (Nat.pow_le_pow_right (by decide) (by omega)))
 have HYB : Hid (Y < 256 ^ (K + 2100)) := Lib.hid (Nat.lt_of_lt_of_le hYB (Nat.pow_le_pow_right (by decide) (by omega)))
 have HLT := Lib.hid hlt
 have HPN := Lib.hid hp
 have HQN := Lib.hid hq
 have hcase : (∃ n : Nat, x = (n : Int) ∧ n ≤ 2000 ∧ P * 10 ^ n = X ∧ Q = Y) ∨ (∃ n : Nat, x = -((n + 1 : Nat) : Int) ∧ n + 1 ≤ 2000 ∧ P = X ∧ Q * 10 ^ (n + 1) = Y) := by
  by_cases h0 : 0 ≤ x
  ·refine .inl ⟨x.toNat, by omega, by omega, hX, ?_⟩
   rw [← hY, show (-x).toNat = 0 by omega, Nat.pow_zero, Nat.mul_one]
  ·refine .inr ⟨(-x).toNat - 1, by omega, by omega, ?_, ?_⟩
   ·rw [← hX, show x.toNat = 0 by omega, Nat.pow_zero, Nat.mul_one]
   ·rw [← hY, show (-x).toNat - 1 + 1 = (-x).toNat by omega]
 clear hp hq hlt hXB hYB hten hX hY hx
 generalize 256 ^ (K + 2100) = B1 at *
 generalize 256 ^ (K + 2300) = B2 at *
 generalize 256 ^ K = B0 at *
 rcases hcase with ⟨n, rfl, hn, hPX, hQY⟩ | ⟨n, rfl, hn, hPX, hQY⟩
 ·have HT : Hid (∀ W : World, Below w.heap.size w W → Calls Tryz.prog 170 #[vp, .int .i64 n] W fun e w' => (∃ v', e = .returned v' ∧ IsNum w' v' X) ∧ Below W.heap.size W w') := Lib.hid fun W hW => by
   have := HTEN.out vp P n W (HPN.out.go hW) hP (by omega)
   rwa [hPX] at this
  subst hQY
  clear hPX hP hQK hQ
  have hn0 : (0 : Int) ≤ (n : Int) := by omega
  go_enter Tryz.func171, Tryz.ntmps171
  go_wp2_with fail
  refine (HT.out _ (Below.refl _ _)).mono ?_
  rintro e w1 ⟨⟨vx, rfl, hv1⟩, hb1⟩
  have HX1 := Lib.hid hv1
  have HY1 := Lib.hid (HQN.out.go hb1)
  have HB1 := Lib.hid hb1
  obtain ⟨vy, hvy⟩ : ∃ v, v = vq := ⟨_, rfl⟩
  subst hvy
  obtain ⟨Y, hYQ⟩ : ∃ y, y = Q := ⟨_, rfl⟩
  subst hYQ
  clear hv1 hb1 HT hn0 hn HPN HQN
  go_wp2_with fail
  go_loopg [0, 8, 9, 10] 61 (fun g s0 s8 s9 _ wr => ∃ (x m : Nat) (i : Int), g ≤ 61 ∧ i = (g : Int) - 1 ∧ s9 = .int .i64 i ∧ s8 = .int .u64 m ∧ x + m * (Y * 2 ^ g) = X ∧ x < Y * 2 ^ g ∧ IsNum wr s0 x ∧ Below w1.heap.size w1 wr)
  case atStart =>
   exact ⟨X, 0, 60, Nat.le_refl _, by omega, rfl, rfl, by rw [Nat.zero_mul, Nat.add_zero], by
    have h1 := HLT.out
    have h2 : 2 ^ 60 * Y ≤ Y * 2 ^ 61 := by rw [Nat.mul_comm]; exact Nat.mul_le_mul_left _ (Nat.pow_le_pow_right (by decide) (by decide))
    omega, HX1.out, Below.refl _ _⟩
  case round =>
   obtain ⟨x, m, i, hg, hi, rfl, rfl, hsum, hlt, hnum, hb6⟩ := hrel
   have hm60 := div_lt2 x m Y X gk hsum HLT.out
   have HSUM := Lib.hid hsum
   have HLX := Lib.hid hlt
   have HXN := Lib.hid hnum
   have HB6 := Lib.hid hb6
   clear hsum hlt hnum hb6
   by_cases h0 : gk = 0
   ·obtain ⟨hdiv, hmod⟩ := div_end x m Y X (by have := HSUM.out; rw [h0] at this; exact this) (by have := HLX.out; rw [h0] at this; exact this)
    obtain rfl : i = -1 := by omega
    clear hi hg h0
    have hup := up_cases x m Y X hdiv hmod
    have hxX : x ≤ X := by have := HSUM.out; omega
    have HSX : Hid (∀ W : World, Below wr.heap.size wr W → Calls Tryz.prog 168 #[u0, .int .i64 1] W fun e w' => (∃ v', e = .returned v' ∧ IsNum w' v' (x * 2)) ∧ Below W.heap.size W w') := Lib.hid fun W hW => HSH.out u0 x 1 W (HXN.out.go hW) (Nat.lt_of_le_of_lt hxX HXB.out) (by decide)
    have HCX : Hid (∀ (v : Value) (W : World), Below wr.heap.size wr W → IsNum W v (x * 2) → Calls Tryz.prog 169 #[v, vy] W fun e w' => e = .returned (.int .i64 (cmpN (x * 2) Y)) ∧ Below W.heap.size W w') := Lib.hid fun v W hW hv => HCM.out v vy (x * 2) Y W hv ((HY1.out.go HB6.out).go hW) (HXB3.out _ (by omega)) (by have := HTB.out 0 (by omega); rwa [Nat.pow_zero, Nat.mul_one] at this)
    obtain ⟨D, hD⟩ : ∃ D, X / Y = D := ⟨_, rfl⟩
    obtain ⟨up, hup'⟩ : ∃ u, upG X Y = u := ⟨_, rfl⟩
    have HDE := Lib.hid hD
    have HUE := Lib.hid hup'
    rw [hup'] at hup
    have hmD : m = D := by omega
    subst hmD
    clear hdiv hmod hxX HSUM HLX HXN HSH HCM HMI HTB HXB3 HXB HYB HLT HX1 HY1 hD hup'
    obtain ⟨c, hc⟩ : ∃ c, cmpN (x * 2) Y = c := ⟨_, rfl⟩
    rw [hc] at HCX hup
    clear hc
    go_wp2_with fail
    refine (HSX.out _ (Below.refl _ _)).mono ?_
    rintro e6 w6 ⟨⟨v6, rfl, hv6⟩, hb6⟩
    have H6 := Lib.hid hv6
    have B6 := Lib.hid hb6
    clear hv6 hb6
    go_wp2_with fail
    refine (HCX.out _ _ B6.out H6.out).mono ?_
    rintro e7 w7 ⟨rfl, hb7⟩
    have B7 := Lib.hid (B6.out.trans (hb7.mono B6.out.size))
    have B8 := Lib.hid ((HB1.out.trans (HB6.out.mono HB1.out.size)).trans (B7.out.mono (HB1.out.trans (HB6.out.mono HB1.out.size)).size))
    clear hb7 B7 B6 H6 HSX HCX HB6 HB1
    rcases hup with ⟨rfl, rfl⟩ | ⟨rfl, hpar, rfl⟩ | ⟨rfl, hpar, rfl⟩ | ⟨rfl, rfl⟩
    ·go_wp2_with fail
     go_ret2
     exact ⟨by rw [HDE.out, HUE.out]; rfl, B8.out⟩
    ·have hpi : (m : Int).tmod 2 = 0 := by rw [Int.tmod_eq_emod_of_nonneg (by omega)]; omega
     have hpj : (m : Int) % 2 = 0 := by omega
     clear hpar
     go_wp2_with fail
     go_ret2
     exact ⟨by rw [HDE.out, HUE.out]; rfl, B8.out⟩
    ·have hpi : (m : Int).tmod 2 = 1 := by rw [Int.tmod_eq_emod_of_nonneg (by omega)]; omega
     have hpj : (m : Int) % 2 = 1 := by omega
     clear hpar
     go_wp2_with fail
     go_ret2
     exact ⟨by rw [HDE.out, HUE.out]; rfl, B8.out⟩
    ·go_wp2_with fail
     go_ret2
     exact ⟨by rw [HDE.out, HUE.out]; rfl, B8.out⟩
   ·obtain ⟨k, rfl⟩ : ∃ k, gk = k + 1 := ⟨gk - 1, by omega⟩
    obtain rfl : i = (k : Int) := by omega
    have hds := div_step x m Y X k HSUM.out HLX.out
    have hxX : x ≤ X := by have := HSUM.out; omega
    have HTK := Lib.hid (fun (W : World) (hW : Below wr.heap.size wr W) => HSH.out vy Y k W ((HY1.out.go HB6.out).go hW) HYB.out (by omega))
    have HCX : Hid (∀ (v : Value) (W : World), Below wr.heap.size wr W → IsNum W v (Y * 2 ^ k) → Calls Tryz.prog 169 #[u0, v] W fun e w' => e = .returned (.int .i64 (cmpN x (Y * 2 ^ k))) ∧ Below W.heap.size W w') := Lib.hid fun v W hW hv => HCM.out u0 v x (Y * 2 ^ k) W (HXN.out.go hW) hv (HXB3.out _ (by omega)) (HTB.out k (by omega))
    have HMX : Hid (∀ (v : Value) (W : World), Below wr.heap.size wr W → IsNum W v (Y * 2 ^ k) → Y * 2 ^ k ≤ x → Calls Tryz.prog 204 #[u0, v] W fun e w' => (∃ v', e = .returned v' ∧ IsNum w' v' (x - Y * 2 ^ k)) ∧ Below W.heap.size W w') := Lib.hid fun v W hW hv hle => HMI.out u0 v x (Y * 2 ^ k) W (HXN.out.go hW) hv (HXB3.out _ (by omega)) hle
    have HDS := Lib.hid hds
    have hki : (0 : Int) ≤ (k : Int) := by omega
    obtain ⟨T, hT⟩ : ∃ T, Y * 2 ^ k = T := ⟨_, rfl⟩
    rw [hT] at HTK HCX HMX HDS
    have HTE := Lib.hid hT
    clear hds hi hxX hT
    by_cases hxt : x < T
    ·have hc : cmpN x T = -1 := by unfold cmpN; rw [if_pos hxt]
     rw [hc] at HCX
     have HD1 := Lib.hid (HDS.out.1 hxt)
     have HXT := Lib.hid hxt
     clear hc hxt
     go_wp2_with fail
     refine (HTK.out _ (Below.refl _ _)).mono ?_
     rintro e6 w6 ⟨⟨v6, rfl, hv6⟩, hb6⟩
     have H6 := Lib.hid hv6
     have B6 := Lib.hid hb6
     clear hv6 hb6
     go_wp2_with fail
     refine (HCX.out _ _ B6.out H6.out).mono ?_
     rintro e7 w7 ⟨rfl, hb7⟩
     have B7 := Lib.hid (B6.out.trans (hb7.mono B6.out.size))
     clear hb7
     go_wp2_with fail
     go_roundg k
     case measure => omega
     case rel => exact ⟨x, m * 2, _, by omega, rfl, by go_num, by go_num, by rw [HTE.out]; exact HD1.out, by rw [HTE.out]; exact HXT.out, HXN.out.go B7.out, HB6.out.trans (B7.out.mono HB6.out.size)⟩
    ·have hle : T ≤ x := by omega
     have hc : 0 ≤ cmpN x T := by unfold cmpN; rw [if_neg hxt]; split <;> omega
     have hc2 : -1 ≤ cmpN x T ∧ cmpN x T ≤ 1 := by unfold cmpN; rw [if_neg hxt]; split <;> omega
     generalize cmpN x T = c at *
     have HD1 := Lib.hid (HDS.out.2 hle)
     have HLE := Lib.hid hle
     clear hxt hle
     go_wp2_with fail
     refine (HTK.out _ (Below.refl _ _)).mono ?_
     rintro e6 w6 ⟨⟨v6, rfl, hv6⟩, hb6⟩
     have H6 := Lib.hid hv6
     have B6 := Lib.hid hb6
     clear hv6 hb6
     go_wp2_with fail
     refine (HCX.out _ _ B6.out H6.out).mono ?_
     rintro e7 w7 ⟨rfl, hb7⟩
     have B7 := Lib.hid (B6.out.trans (hb7.mono B6.out.size))
     have H67 := Lib.hid (H6.out.go hb7)
     clear hb7
     go_wp2_with fail
     refine (HMX.out _ _ B7.out H67.out HLE.out).mono ?_
     rintro e8 w8 ⟨⟨v8, rfl, hv8⟩, hb8⟩
     have H8 := Lib.hid hv8
     have B8 := Lib.hid (B7.out.trans (hb8.mono B7.out.size))
     clear hv8 hb8
     go_wp2_with fail
     go_roundg k
     case measure => omega
     case rel => exact ⟨x - T, m * 2 + 1, _, by omega, rfl, by go_num, by go_num, by rw [HTE.out]; exact HD1.out.1, by rw [HTE.out]; exact HD1.out.2, H8.out, HB6.out.trans (B8.out.mono HB6.out.size)⟩
 ·have HT : Hid (∀ W : World, Below w.heap.size w W → Calls Tryz.prog 170 #[vq, .int .i64 ((n + 1 : Nat) : Int)] W fun e w' => (∃ v', e = .returned v' ∧ IsNum w' v' Y) ∧ Below W.heap.size W w') := Lib.hid fun W hW => by
   have := HTEN.out vq Q (n + 1) W (HQN.out.go hW) hQK (by omega)
   rwa [hQY] at this
  subst hPX
  clear hQY hP hQK hQ
  have hn0 : ¬ (0 : Int) ≤ -((n + 1 : Nat) : Int) := by omega
  have hnn : -(-((n + 1 : Nat) : Int)) = ((n + 1 : Nat) : Int) := by omega
  have hNb : ((n + 1 : Nat) : Int) ≤ 2000 := by omega
  have hNp : (0 : Int) < ((n + 1 : Nat) : Int) := by omega
  generalize ((n + 1 : Nat) : Int) = N at *
  go_enter Tryz.func171, Tryz.ntmps171
  go_wp2_with fail
  refine (HT.out _ (Below.refl _ _)).mono ?_
  rintro e w1 ⟨⟨vy, rfl, hv1⟩, hb1⟩
  have HY1 := Lib.hid hv1
  have HX1 := Lib.hid (HPN.out.go hb1)
  have HB1 := Lib.hid hb1
  obtain ⟨X, hXP⟩ : ∃ y, y = P := ⟨_, rfl⟩
  subst hXP
  clear hv1 hb1 HT hn0 hnn hn HPN HQN hNb hNp
  go_wp2_with fail
  go_loopg [0, 8, 9, 10] 61 (fun g s0 s8 s9 _ wr => ∃ (x m : Nat) (i : Int), g ≤ 61 ∧ i = (g : Int) - 1 ∧ s9 = .int .i64 i ∧ s8 = .int .u64 m ∧ x + m * (Y * 2 ^ g) = X ∧ x < Y * 2 ^ g ∧ IsNum wr s0 x ∧ Below w1.heap.size w1 wr)
  case atStart =>
   exact ⟨X, 0, 60, Nat.le_refl _, by omega, rfl, rfl, by rw [Nat.zero_mul, Nat.add_zero], by
    have h1 := HLT.out
    have h2 : 2 ^ 60 * Y ≤ Y * 2 ^ 61 := by rw [Nat.mul_comm]; exact Nat.mul_le_mul_left _ (Nat.pow_le_pow_right (by decide) (by decide))
    omega, HX1.out, Below.refl _ _⟩
  case round =>
   obtain ⟨x, m, i, hg, hi, rfl, rfl, hsum, hlt, hnum, hb6⟩ := hrel
   have hm60 := div_lt2 x m Y X gk hsum HLT.out
   have HSUM := Lib.hid hsum
   have HLX := Lib.hid hlt
   have HXN := Lib.hid hnum
   have HB6 := Lib.hid hb6
   clear hsum hlt hnum hb6
   by_cases h0 : gk = 0
   ·obtain ⟨hdiv, hmod⟩ := div_end x m Y X (by have := HSUM.out; rw [h0] at this; exact this) (by have := HLX.out; rw [h0] at this; exact this)
    obtain rfl : i = -1 := by omega
    clear hi hg h0
    have hup := up_cases x m Y X hdiv hmod
    have hxX : x ≤ X := by have := HSUM.out; omega
    have HSX : Hid (∀ W : World, Below wr.heap.size wr W → Calls Tryz.prog 168 #[u0, .int .i64 1] W fun e w' => (∃ v', e = .returned v' ∧ IsNum w' v' (x * 2)) ∧ Below W.heap.size W w') := Lib.hid fun W hW => HSH.out u0 x 1 W (HXN.out.go hW) (Nat.lt_of_le_of_lt hxX HXB.out) (by decide)
    have HCX : Hid (∀ (v : Value) (W : World), Below wr.heap.size wr W → IsNum W v (x * 2) → Calls Tryz.prog 169 #[v, vy] W fun e w' => e = .returned (.int .i64 (cmpN (x * 2) Y)) ∧ Below W.heap.size W w') := Lib.hid fun v W hW hv => HCM.out v vy (x * 2) Y W hv ((HY1.out.go HB6.out).go hW) (HXB3.out _ (by omega)) (by have := HTB.out 0 (by omega); rwa [Nat.pow_zero, Nat.mul_one] at this)
    obtain ⟨D, hD⟩ : ∃ D, X / Y = D := ⟨_, rfl⟩
    obtain ⟨up, hup'⟩ : ∃ u, upG X Y = u := ⟨_, rfl⟩
    have HDE := Lib.hid hD
    have HUE := Lib.hid hup'
    rw [hup'] at hup
    have hmD : m = D := by omega
    subst hmD
    clear hdiv hmod hxX HSUM HLX HXN HSH HCM HMI HTB HXB3 HXB HYB HLT HX1 HY1 hD hup'
    obtain ⟨c, hc⟩ : ∃ c, cmpN (x * 2) Y = c := ⟨_, rfl⟩
    rw [hc] at HCX hup
    clear hc
    go_wp2_with fail
    refine (HSX.out _ (Below.refl _ _)).mono ?_
    rintro e6 w6 ⟨⟨v6, rfl, hv6⟩, hb6⟩
    have H6 := Lib.hid hv6
    have B6 := Lib.hid hb6
    clear hv6 hb6
    go_wp2_with fail
    refine (HCX.out _ _ B6.out H6.out).mono ?_
    rintro e7 w7 ⟨rfl, hb7⟩
    have B7 := Lib.hid (B6.out.trans (hb7.mono B6.out.size))
    have B8 := Lib.hid ((HB1.out.trans (HB6.out.mono HB1.out.size)).trans (B7.out.mono (HB1.out.trans (HB6.out.mono HB1.out.size)).size))
    clear hb7 B7 B6 H6 HSX HCX HB6 HB1
    rcases hup with ⟨rfl, rfl⟩ | ⟨rfl, hpar, rfl⟩ | ⟨rfl, hpar, rfl⟩ | ⟨rfl, rfl⟩
    ·go_wp2_with fail
     go_ret2
     exact ⟨by rw [HDE.out, HUE.out]; rfl, B8.out⟩
    ·have hpi : (m : Int).tmod 2 = 0 := by rw [Int.tmod_eq_emod_of_nonneg (by omega)]; omega
     have hpj : (m : Int) % 2 = 0 := by omega
     clear hpar
     go_wp2_with fail
     go_ret2
     exact ⟨by rw [HDE.out, HUE.out]; rfl, B8.out⟩
    ·have hpi : (m : Int).tmod 2 = 1 := by rw [Int.tmod_eq_emod_of_nonneg (by omega)]; omega
     have hpj : (m : Int) % 2 = 1 := by omega
     clear hpar
     go_wp2_with fail
     go_ret2
     exact ⟨by rw [HDE.out, HUE.out]; rfl, B8.out⟩
    ·go_wp2_with fail
     go_ret2
     exact ⟨by rw [HDE.out, HUE.out]; rfl, B8.out⟩
   ·obtain ⟨k, rfl⟩ : ∃ k, gk = k + 1 := ⟨gk - 1, by omega⟩
    obtain rfl : i = (k : Int) := by omega
    have hds := div_step x m Y X k HSUM.out HLX.out
    have hxX : x ≤ X := by have := HSUM.out; omega
    have HTK := Lib.hid (fun (W : World) (hW : Below wr.heap.size wr W) => HSH.out vy Y k W ((HY1.out.go HB6.out).go hW) HYB.out (by omega))
    have HCX : Hid (∀ (v : Value) (W : World), Below wr.heap.size wr W → IsNum W v (Y * 2 ^ k) → Calls Tryz.prog 169 #[u0, v] W fun e w' => e = .returned (.int .i64 (cmpN x (Y * 2 ^ k))) ∧ Below W.heap.size W w') := Lib.hid fun v W hW hv => HCM.out u0 v x (Y * 2 ^ k) W (HXN.out.go hW) hv (HXB3.out _ (by omega)) (HTB.out k (by omega))
    have HMX : Hid (∀ (v : Value) (W : World), Below wr.heap.size wr W → IsNum W v (Y * 2 ^ k) → Y * 2 ^ k ≤ x → Calls Tryz.prog 204 #[u0, v] W fun e w' => (∃ v', e = .returned v' ∧ IsNum w' v' (x - Y * 2 ^ k)) ∧ Below W.heap.size W w') := Lib.hid fun v W hW hv hle => HMI.out u0 v x (Y * 2 ^ k) W (HXN.out.go hW) hv (HXB3.out _ (by omega)) hle
    have HDS := Lib.hid hds
    have hki : (0 : Int) ≤ (k : Int) := by omega
    obtain ⟨T, hT⟩ : ∃ T, Y * 2 ^ k = T := ⟨_, rfl⟩
    rw [hT] at HTK HCX HMX HDS
    have HTE := Lib.hid hT
    clear hds hi hxX hT
    by_cases hxt : x < T
    ·have hc : cmpN x T = -1 := by unfold cmpN; rw [if_pos hxt]
     rw [hc] at HCX
     have HD1 := Lib.hid (HDS.out.1 hxt)
     have HXT := Lib.hid hxt
     clear hc hxt
     go_wp2_with fail
     refine (HTK.out _ (Below.refl _ _)).mono ?_
     rintro e6 w6 ⟨⟨v6, rfl, hv6⟩, hb6⟩
     have H6 := Lib.hid hv6
     have B6 := Lib.hid hb6
     clear hv6 hb6
     go_wp2_with fail
     refine (HCX.out _ _ B6.out H6.out).mono ?_
     rintro e7 w7 ⟨rfl, hb7⟩
     have B7 := Lib.hid (B6.out.trans (hb7.mono B6.out.size))
     clear hb7
     go_wp2_with fail
     go_roundg k
     case measure => omega
     case rel => exact ⟨x, m * 2, _, by omega, rfl, by go_num, by go_num, by rw [HTE.out]; exact HD1.out, by rw [HTE.out]; exact HXT.out, HXN.out.go B7.out, HB6.out.trans (B7.out.mono HB6.out.size)⟩
    ·have hle : T ≤ x := by omega
     have hc : 0 ≤ cmpN x T := by unfold cmpN; rw [if_neg hxt]; split <;> omega
     have hc2 : -1 ≤ cmpN x T ∧ cmpN x T ≤ 1 := by unfold cmpN; rw [if_neg hxt]; split <;> omega
     generalize cmpN x T = c at *
     have HD1 := Lib.hid (HDS.out.2 hle)
     have HLE := Lib.hid hle
     clear hxt hle
     go_wp2_with fail
     refine (HTK.out _ (Below.refl _ _)).mono ?_
     rintro e6 w6 ⟨⟨v6, rfl, hv6⟩, hb6⟩
     have H6 := Lib.hid hv6
     have B6 := Lib.hid hb6
     clear hv6 hb6
     go_wp2_with fail
     refine (HCX.out _ _ B6.out H6.out).mono ?_
     rintro e7 w7 ⟨rfl, hb7⟩
     have B7 := Lib.hid (B6.out.trans (hb7.mono B6.out.size))
     have H67 := Lib.hid (H6.out.go hb7)
     clear hb7
     go_wp2_with fail
     refine (HMX.out _ _ B7.out H67.out HLE.out).mono ?_
     rintro e8 w8 ⟨⟨v8, rfl, hv8⟩, hb8⟩
     have H8 := Lib.hid hv8
     have B8 := Lib.hid (B7.out.trans (hb8.mono B7.out.size))
     clear hv8 hb8
     go_wp2_with fail
     go_roundg k
     case measure => omega
     case rel => exact ⟨x - T, m * 2 + 1, _, by omega, rfl, by go_num, by go_num, by rw [HTE.out]; exact HD1.out.1, by rw [HTE.out]; exact HD1.out.2, H8.out, HB6.out.trans (B8.out.mono HB6.out.size)⟩
def TxRel (N k : Nat) (l : List UInt8) : Prop := decDigits N = (if k < 10 then [] else decDigits (k / 10)) ++ l
theorem txrel_0 (N : Nat) : TxRel N N [UInt8.ofNat (48 + N % 10)] := by
 unfold TxRel
 rw [decDigits]
 split
 ·rename_i h; rw [Nat.mod_eq_of_lt h]; rfl
 ·rfl
theorem txrel_step (N k : Nat) (l : List UInt8) (h : TxRel N k l) (hk : 10 ≤ k) : TxRel N (k / 10) (UInt8.ofNat (48 + k / 10 % 10) :: l) := by
 unfold TxRel at *
 rw [h, if_neg (by omega)]
 have h0 := txrel_0 (k / 10)
 unfold TxRel at h0
 rw [h0, List.append_assoc]; rfl
theorem txrel_len (N k : Nat) (l : List UInt8) (h : TxRel N k l) : l.length ≤ (decDigits N).length := by
 unfold TxRel at h
 rw [h, List.length_append]; omega
theorem text_any (N : Nat) (w : World) (hN : N < 18446744073709551616) :
  Calls Tryz.prog 128 #[.int .u64 N] w fun e w' => e = .returned (.string ⟨(decDigits N).toArray⟩) ∧ Below w.heap.size w w' := by
 have HLEN : Hid ((decDigits N).length ≤ 20) := Lib.hid (by
  rw [decDigits_length]
  exact nd_le 19 _ (by omega))
 have H0 := Lib.hid (txrel_0 N)
 obtain ⟨d, hd⟩ : ∃ d, N % 10 = d := ⟨_, rfl⟩
 rw [hd] at H0
 have hd10 : d < 10 := by omega
 have hk10 : (N : Int) % 10 = (d : Int) := by omega
 have hk10b : (N : Int).tmod 10 = (d : Int) := by rw [Int.tmod_eq_emod_of_nonneg (by omega)]; omega
 obtain ⟨c, hcd⟩ : ∃ c, UInt8.ofNat (48 + d) = c := ⟨_, rfl⟩
 have hct : ((c.toNat : Nat) : Int) = 48 + (d : Int) := by
  rw [← hcd, UInt8.toNat_ofNat', Nat.mod_eq_of_lt (show 48 + d < 2 ^ 8 by omega)]; push_cast; rfl
 have hds := fun W => str_of1 c W
 rw [hct] at hds
 rw [hcd] at H0
 clear hd hct hcd
 go_enter Tryz.func128, Tryz.ntmps128
 go_wp2_with fail
 clear hk10 hk10b hd10 hds
 go_loopg [0, 3] N (fun g s0 s3 wr => ∃ l : List UInt8, TxRel N g l ∧ g ≤ N ∧ s0 = .int .u64 g ∧ s3 = .string ⟨l.toArray⟩ ∧ Below w.heap.size w wr)
 case atStart => exact ⟨[c], H0.out, Nat.le_refl _, rfl, rfl, (Below.refl _ _).alloc (Nat.le_refl _) _⟩
 case round =>
  obtain ⟨l, hr, hg, rfl, rfl, hb⟩ := hrel
  have HB := Lib.hid hb
  have HR := Lib.hid hr
  have hl := Nat.le_trans (txrel_len _ _ _ hr) HLEN.out
  clear hb hr H0
  by_cases hk : 10 ≤ gk
  ·have HST := txrel_step N gk l HR.out hk
   obtain ⟨k', hk'⟩ : ∃ k', gk / 10 = k' := ⟨_, rfl⟩
   rw [hk'] at HST
   obtain ⟨d', hd'⟩ : ∃ d, k' % 10 = d := ⟨_, rfl⟩
   rw [hd'] at HST
   have hd10 : d' < 10 := by omega
   have hkd : (gk : Int).tdiv 10 = (k' : Int) := by rw [Int.tdiv_eq_ediv_of_nonneg (by omega)]; omega
   have hkd2 : (gk : Int) / 10 = (k' : Int) := by omega
   have hk10 : (k' : Int) % 10 = (d' : Int) := by omega
   have hk10b : (k' : Int).tmod 10 = (d' : Int) := by rw [Int.tmod_eq_emod_of_nonneg (by omega)]; omega
   obtain ⟨c', hcd⟩ : ∃ c, UInt8.ofNat (48 + d') = c := ⟨_, rfl⟩
   have hct : ((c'.toNat : Nat) : Int) = 48 + (d' : Int) := by
    rw [← hcd, UInt8.toNat_ofNat', Nat.mod_eq_of_lt (show 48 + d' < 2 ^ 8 by omega)]; push_cast; rfl
   have hds := fun W => str_of1 c' W
   rw [hct] at hds
   rw [hcd] at HST
   have HST := Lib.hid HST
   have hcs := cons_str c' l
   have hkl : k' < gk := by omega
   have hki : (10 : Int) ≤ (gk : Int) := by omega
   have hgN : (gk : Int) < 18446744073709551616 := by omega
   have hsz : (⟨l.toArray⟩ : ByteArray).size ≤ 20 := hl
   have HKL := Lib.hid hkl
   have HGN := Lib.hid hg
   clear hd' hct hcd hk' hkl hk hg
   go_wp2_with fail
   go_roundg k'
   case measure => exact HKL.out
   case rel => exact ⟨c' :: l, HST.out, Nat.le_trans (Nat.le_of_lt HKL.out) HGN.out, rfl, rfl, HB.out.alloc HB.out.size _⟩
  ·have hki : ¬ (10 : Int) ≤ (gk : Int) := by omega
   have HD : Hid (decDigits N = l) := Lib.hid (by
    have := HR.out
    unfold TxRel at this
    rw [this, if_pos (by omega), List.nil_append])
   clear hk
   go_wp2_with fail
   go_ret
   exact ⟨by rw [HD.out]; rfl, HB.out⟩
def nzS (k : Nat) : ByteArray := ⟨(List.replicate k (48 : UInt8)).toArray⟩
theorem nzS_snoc (k : Nat) : nzS k ++ ⟨#[48]⟩ = nzS (k + 1) := by
 apply ByteArray.ext
 rw [ByteArray.data_append]
 apply Array.toList_inj.1
 unfold nzS
 rw [List.replicate_succ']
 simp
theorem nzS_size (k : Nat) : (nzS k).size = k := zz k
theorem rzeros_any (n : Nat) (w : World) (hn : n ≤ 100000) :
  Calls Tryz.prog 127 #[.int .i64 n] w fun e w' => e = .returned (.string ⟨(List.replicate n (48 : UInt8)).toArray⟩) ∧ w' = w := by
 go_enter Tryz.func127, Tryz.ntmps127
 go_wp2_with fail
 go_loopg [3, 4] n (fun g s3 s4 wr => ∃ k : Nat, k + g = n ∧ s3 = .string (nzS k) ∧ s4 = .int .i64 k ∧ wr = w)
 case atStart => exact ⟨0, by omega, rfl, rfl, rfl⟩
 case round =>
  obtain ⟨k, hk, rfl, rfl, rfl⟩ := hrel
  have hz := nzS_size k
  have hcs := nzS_snoc k
  by_cases hkn : k < n
  ·have hki : (k : Int) < (n : Int) := by omega
   go_wp2_with fail
   go_roundg (gk - 1)
   case measure => omega
   case rel => exact ⟨k + 1, by omega, rfl, by go_num, rfl⟩
  ·obtain rfl : k = n := by omega
   have hki : ¬ (k : Int) < (k : Int) := by omega
   go_wp2_with fail
   go_ret
   exact ⟨rfl, rfl⟩
theorem rd_pos {D n r : Nat} (h : Near (2 * (D * 10 ^ n * 2 ^ 1074)) 1 r) : Near (dX D (n : Int)) (dQ (n : Int)) r := by
 rw [dX_pos, dQ_pos1]; exact h
theorem rd_neg {D n r : Nat} {x : Int} (hx : x = -(n : Int)) (h : Near (2 * (D * 2 ^ 1074)) (10 ^ n) r) : Near (dX D x) (dQ x) r := by
 rw [hx, dX_neg, dQ_neg]; exact h
theorem rdec_any (s : ByteArray) (x : Int) (w : World) (hs : s.size ≤ 1000) (hdg : ∀ c ∈ s.data.toList, isDig c) (hx : -2999 ≤ x ∧ x ≤ 2999) :
  Calls Tryz.prog 172 #[.string s, .int .i64 x] w fun e w' => (∃ r : Nat, e = .returned (.int .u64 r) ∧ Near (dX (dvl 10 s.data.toList) x) (dQ x) r) ∧ Below w.heap.size w w' := by
 obtain ⟨l, hl⟩ : ∃ l, s.data.toList = l := ⟨_, rfl⟩
 have hlen : l.length = s.size := by rw [← hl]; simp
 rw [hl] at hdg
 have HDG := Lib.hid hdg
 have HLEN := Lib.hid hlen
 have HL := Lib.hid hl
 have HVB : Hid (∀ k, k ≤ s.size → dvl 10 (l.take k) < 256 ^ k) := Lib.hid fun k hk => by
  have h1 := dvl_lt 10 (by decide) (l.take k) (fun y hy => okD_dv (by decide) (.inl (hdg y (List.mem_of_mem_take hy))))
  have h2 : (l.take k).length = k := by rw [List.length_take]; omega
  rw [h2] at h1
  exact Nat.lt_of_lt_of_le h1 (Nat.pow_le_pow_left (by decide) k)
 rw [hl]
 clear hl hdg hlen
 go_enter Tryz.func172, Tryz.ntmps172
 go_wp2_with fail
 go_loopg [5, 6] s.size (fun g s5 s6 wr => ∃ k : Nat, k + g = s.size ∧ s6 = .int .i64 k ∧ IsNum wr s5 (dvl 10 (l.take k)) ∧ Below w.heap.size w wr)
 case atStart => exact ⟨0, by omega, rfl, ⟨[], .inl ⟨rfl, rfl⟩, rfl, by simp [NormB]⟩, Below.refl _ _⟩
 case round =>
  obtain ⟨k, hkg, rfl, hnum, hb⟩ := hrel
  have HN := Lib.hid hnum
  have HB := Lib.hid hb
  clear hnum hb
  by_cases hk : k < s.size
  ·have hkl : k < l.length := by rw [HLEN.out]; exact hk
   have hd := HDG.out l[k] (List.getElem_mem hkl)
   have hgk : l[k] = s[k] := by
    have h1 := HL.out
    subst h1
    rfl
   have hnx : dvl 10 (l.take (k + 1)) = dvl 10 (l.take k) * 10 + (s[k].toNat - 48) := by
    rw [List.take_succ_eq_append_getElem hkl, dvl_snoc, hgk]
    congr 1
    rw [hgk] at hd
    unfold dv
    exact if_pos hd
   rw [hgk] at hd
   have hd1 : 48 ≤ s[k].toNat := hd.1
   have hd2 : s[k].toNat ≤ 57 := hd.2
   have HT : Hid (∀ W : World, Below wr.heap.size wr W → Calls Tryz.prog 203 #[u5, .int .i64 10, .int .i64 ((s[k].toNat : Int) - 48)] W fun e w' => (∃ v', e = .returned v' ∧ IsNum w' v' (dvl 10 (l.take (k + 1)))) ∧ Below W.heap.size W w') := Lib.hid fun W hW => by
    have := times_any u5 (dvl 10 (l.take k)) 10 (s[k].toNat - 48) k W (HN.out.go hW) (by omega) (HVB.out k (by omega)) (by decide) (by omega)
    rw [← hnx, show ((s[k].toNat - 48 : Nat) : Int) = (s[k].toNat : Int) - 48 from by omega] at this
    exact this
   have hki : (k : Int) < (s.size : Int) := by omega
   clear hnx hgk hd hkl
   go_wp2_with fail
   refine (HT.out _ (Below.refl _ _)).mono ?_
   rintro e w5 ⟨⟨v', rfl, hn5⟩, hb5⟩
   have H5 := Lib.hid hn5
   have B5 := Lib.hid (HB.out.trans (hb5.mono HB.out.size))
   clear hn5 hb5
   go_wp2_with fail
   go_roundg (gk - 1)
   case measure => omega
   case rel => exact ⟨k + 1, by omega, by go_num, H5.out, B5.out⟩
  ·obtain rfl : k = s.size := by omega
   have hki : ¬ (s.size : Int) < (s.size : Int) := by omega
   have htk : l.take s.size = l := List.take_of_length_le (by rw [HLEN.out]; exact Nat.le_refl _)
   rw [htk] at HN
   have hvb := HVB.out s.size (Nat.le_refl _)
   rw [htk] at hvb
   obtain ⟨D, hD⟩ : ∃ D, dvl 10 l = D := ⟨_, rfl⟩
   rw [hD] at HN hvb
   have HDE := Lib.hid hD
   clear hD
   clear htk hkg hk HVB HDG HLEN HL
   have hten : ∀ n, n ≤ 2999 → 10 ^ n < 256 ^ 3000 := fun n hn => Nat.lt_of_le_of_lt (Nat.pow_le_pow_left (show 10 ≤ 256 by decide) n) ((Nat.pow_lt_pow_iff_right (by decide)).2 (by omega))
   by_cases h0 : 0 ≤ x
   ·obtain ⟨n, rfl⟩ : ∃ n : Nat, x = (n : Int) := ⟨x.toNat, by omega⟩
    have HP : Hid (D * 10 ^ n < 256 ^ (s.size + 3000)) := Lib.hid (by
     rw [Nat.pow_add]
     exact Nat.lt_of_lt_of_le ((Nat.mul_lt_mul_right (Nat.pow_pos (by decide))).2 hvb) (Nat.mul_le_mul_left _ (Nat.le_of_lt (hten n (by omega)))))
    have HT : Hid (∀ W : World, Below wr.heap.size wr W → Calls Tryz.prog 170 #[u5, .int .i64 n] W fun e w' => (∃ v', e = .returned v' ∧ IsNum w' v' (D * 10 ^ n)) ∧ Below W.heap.size W w') := Lib.hid fun W hW => ten_any u5 D n s.size W (HN.out.go hW) (by omega) hvb (by omega)
    have HR : Hid (∀ (vp vq : Value) (W : World), IsNum W vp (D * 10 ^ n) → IsNum W vq 1 → Calls Tryz.prog 205 #[vp, vq] W (RdPost (D * 10 ^ n) 1 W)) := Lib.hid fun vp vq W h1 h2 => rround_any vp vq _ 1 (s.size + 3000) W h1 h2 (by decide) (by omega) HP.out (Nat.one_lt_pow (by omega) (by decide))
    clear hvb hten h0 HP
    go_wp2_with fail
    refine (HT.out _ ((Below.refl _ _).alloc (Nat.le_refl _) _)).mono ?_
    rintro e w5 ⟨⟨v5, rfl, hn5⟩, hb5⟩
    have H5 := Lib.hid hn5
    have HQ5 := Lib.hid ((one_num wr).go hb5)
    have B5 := Lib.hid ((HB.out.trans (((Below.refl _ _).alloc (Nat.le_refl _) _).mono HB.out.size)).trans (hb5.mono (HB.out.trans (((Below.refl _ _).alloc (Nat.le_refl _) _).mono HB.out.size)).size))
    clear hn5 hb5
    go_wp2_with fail
    refine (HR.out _ _ _ H5.out HQ5.out).mono ?_
    rintro e w6 ⟨⟨r, rfl, hr6⟩, hb6⟩
    have HR6 := Lib.hid hr6
    have B6 := Lib.hid (B5.out.trans (hb6.mono B5.out.size))
    clear hr6 hb6
    go_wp2_with fail
    go_ret
    exact ⟨⟨r, rfl, by rw [HDE.out]; exact rd_pos HR6.out⟩, B6.out⟩
   ·obtain ⟨n, hn⟩ : ∃ n : Nat, x = -(n : Int) := ⟨(-x).toNat, by omega⟩
    have hn3 : n ≤ 2999 := by omega
    have HT : Hid (∀ (W : World) (v : Value), IsNum W v 1 → Calls Tryz.prog 170 #[v, .int .i64 n] W fun e w' => (∃ v', e = .returned v' ∧ IsNum w' v' (10 ^ n)) ∧ Below W.heap.size W w') := Lib.hid fun W v hv => by
     have := ten_any v 1 n 1 W hv (by decide) (by decide) (by omega)
     rwa [Nat.one_mul] at this
    have HR : Hid (∀ (vp vq : Value) (W : World), IsNum W vp D → IsNum W vq (10 ^ n) → Calls Tryz.prog 205 #[vp, vq] W (RdPost D (10 ^ n) W)) := Lib.hid fun vp vq W h1 h2 => rround_any vp vq _ _ (s.size + 3000) W h1 h2 (Nat.pow_pos (by decide)) (by omega)
     (Nat.lt_of_lt_of_le hvb (Nat.pow_le_pow_right (by decide) (by omega))) (Nat.lt_of_lt_of_le (hten n hn3) (Nat.pow_le_pow_right (by decide) (by omega)))
    have hxn : -x = (n : Int) := by omega
    have HXE := Lib.hid hn
    clear hvb hten hn
    go_wp2_with fail
    refine (HT.out _ _ (one_num wr)).mono ?_
    rintro e w5 ⟨⟨v5, rfl, hn5⟩, hb5⟩
    have H5 := Lib.hid hn5
    have HP5 := Lib.hid ((HN.out.go ((Below.refl _ _).alloc (Nat.le_refl _) _)).go hb5)
    have B5 := Lib.hid ((HB.out.trans (((Below.refl _ _).alloc (Nat.le_refl _) _).mono HB.out.size)).trans (hb5.mono (HB.out.trans (((Below.refl _ _).alloc (Nat.le_refl _) _).mono HB.out.size)).size))
    clear hn5 hb5
    go_wp2_with fail
    refine (HR.out _ _ _ HP5.out H5.out).mono ?_
    rintro e w6 ⟨⟨r, rfl, hr6⟩, hb6⟩
    have HR6 := Lib.hid hr6
    have B6 := Lib.hid (B5.out.trans (hb6.mono B5.out.size))
    clear hr6 hb6
    go_wp2_with fail
    go_ret
    exact ⟨⟨r, rfl, by rw [HDE.out]; exact rd_neg HXE.out HR6.out⟩, B6.out⟩
end Go.Proofs.YtckaoeloofbklaaGreatDoor
namespace Go.Proofs.YtckaoeloofbklaaGreatDoor
open Go Go.RowKit Go.Sort Go.Lib
set_option exponentiation.threshold 5000
theorem ten_neg (v : Value) (x : Int) (w : World) (hx : x < 0) :
  Calls Tryz.prog 170 #[v, .int .i64 x] w fun e w' => e = .returned v ∧ w' = w := by
 go_enter Tryz.func170, Tryz.ntmps170
 go_wp2_with fail
 go_loopg [0, 5] 0 (fun g s0 s5 wr => g ≤ 0 ∧ s0 = v ∧ s5 = .int .i64 0 ∧ wr = w)
 case atStart => exact ⟨Nat.le_refl _, rfl, rfl, rfl⟩
 case round =>
  obtain ⟨_, rfl, rfl, rfl⟩ := hrel
  have hx0 : ¬ (0 : Int) < x := by omega
  go_wp2_with fail
  go_ret
  exact ⟨rfl, rfl⟩
theorem same_sig {d d' : Nat} {q q' : Int} (h : SameV d q d' q') (h1 : 1 ≤ d) (h2 : 1 ≤ d') : sig d = sig d' ∧ ((nDigits d : Nat) : Int) + q = (nDigits d' : Nat) + q' := by
 obtain ⟨k, ⟨rfl, rfl⟩ | ⟨rfl, rfl⟩⟩ := h
 ·rw [sig_tens d' h2 k, nd_tens d' h2 k]
  exact ⟨rfl, by push_cast; omega⟩
 ·rw [sig_tens d h1 k, nd_tens d h1 k]
  exact ⟨rfl, by push_cast; omega⟩
theorem parts_ratio (a m : Nat) (x : Int) (P Q : Nat) (hx : -1074 ≤ x) (hv : V a = m * 2 ^ (x + 1074).toNat) (hP : P = m * 2 ^ x.toNat) (hQ : Q = 2 ^ (-x).toNat) : P * 2 ^ 1074 = V a * Q := by
 subst hP hQ
 rw [hv, Nat.mul_assoc, Nat.mul_assoc, ← Nat.pow_add, ← Nat.pow_add]
 congr 2
 omega
theorem ratio_lev (a P Q : Nat) (j : Int) (h : P * 2 ^ 1074 = V a * Q) : P * 10 ^ j.toNat * DE j = NU a j * (Q * 10 ^ (-j).toNat) := by
 unfold DE NU
 generalize 2 ^ 1074 = W at *
 generalize 10 ^ j.toNat = s
 generalize 10 ^ (-j).toNat = t
 rw [show P * s * (W * t) = P * W * (s * t) from by ac_rfl, h]
 ac_rfl
theorem lev_iff (a P Q : Nat) (j : Int) (hQ : 0 < Q) (h : P * 2 ^ 1074 = V a * Q) : DE j ≤ NU a j ↔ Q * 10 ^ (-j).toNat ≤ P * 10 ^ j.toNat := by
 have e := ratio_lev a P Q j h
 have hD := DE_pos j
 have hY : 0 < Q * 10 ^ (-j).toNat := Nat.mul_pos hQ (Nat.pow_pos (by decide))
 generalize Q * 10 ^ (-j).toNat = Y at *
 generalize P * 10 ^ j.toNat = X at *
 generalize DE j = D at *
 generalize NU a j = n at *
 constructor
 ·intro h1
  refine Nat.le_of_mul_le_mul_right ?_ hD
  rw [e, Nat.mul_comm]
  exact Nat.mul_le_mul_right _ h1
 ·intro h1
  refine Nat.le_of_mul_le_mul_right ?_ hY
  rw [← e, Nat.mul_comm]
  exact Nat.mul_le_mul_right _ h1
theorem int_beq (r a : Nat) : ((r : Int) == (a : Int)) = decide (r = a) := by
 by_cases h : r = a
 ·rw [h, decide_eq_true rfl, beq_iff_eq]
 ·rw [decide_eq_false h, beq_eq_false_iff_ne]; omega
theorem in_read (a d : Nat) (j : Int) (r : Nat) (h : Near (dX d (-j)) (dQ (-j)) r) : ((r : Int) == (a : Int)) = inB a j d := by
 rw [int_beq]
 by_cases hr : r = a
 ·rw [decide_eq_true hr]
  rw [hr] at h
  exact (inB_iff.2 h).symm
 ·rw [decide_eq_false hr]
  cases hb : inB a j d
  ·rfl
  ·exact absurd (near_unique h (inB_iff.1 hb)) hr
def ShInv (P Q : Nat) (x : Int) : Prop := (0 < x ∧ Q * 10 ^ x.toNat ≤ P) ∨ (x ≤ 0 ∧ P * 10 ^ (-x).toNat < 10 * Q)
theorem pow_room (b P K : Nat) (h : 10 ^ b ≤ P) (hP : P < 2 ^ K) : b < K := by
 have h1 : 2 ^ b ≤ 10 ^ b := Nat.pow_le_pow_left (by decide) b
 exact (Nat.pow_lt_pow_iff_right (show 1 < 2 by decide)).1 (Nat.lt_of_le_of_lt (Nat.le_trans h1 h) hP)
theorem fl_pos (a : Nat) (x : Int) (n : Nat) (hn : 1 ≤ n) (hx1 : DE (-x) ≤ NU a (-x)) : 1 ≤ flJ a ((n : Int) - 1 - x) := by
 have h : 10 ^ (n - 1) ≤ flJ a ((n : Int) - 1 - x) := by
  rw [fl_ge]
  have g := (lev_le a 1 (-x) (n - 1)).1 (by rwa [Nat.one_mul])
  rwa [Nat.one_mul, show -x + ((n - 1 : Nat) : Int) = (n : Int) - 1 - x from by omega] at g
 exact Nat.le_trans (Nat.pow_pos (by decide)) h
def ShPost (a : Nat) (w : World) (e : Ending) (w' : World) : Prop := (∃ (D : Nat) (q : Int), SameV D q (shN a).1 (shN a).2 ∧ 1 ≤ D ∧ D ≤ 1152921504606846976 ∧ e = .returned (.tuple #[.string ⟨(decDigits D).toArray⟩, .int .i64 (((nDigits D : Nat) : Int) + q)])) ∧ Below w.heap.size w w'
theorem shortest_any (a : Nat) (w : World) (h1 : 0 < a) (h2 : a < 9218868437227405312) :
  Calls Tryz.prog 126 #[.int .u64 a] w (ShPost a w) := by
 have HPA : Hid (∀ W, Calls Tryz.prog 166 #[.int .u64 a] W fun e w' => (∃ (m : Nat) (x : Int), e = .returned (.tuple #[.int .u64 m, .int .i64 x]) ∧ -1074 ≤ x ∧ x ≤ 971 ∧ m < 9007199254740992 ∧ V a = m * 2 ^ (x + 1074).toNat) ∧ w' = W) := Lib.hid fun W => parts_any a W h2
 have HLA : Hid (∀ (m : Nat) (W : World), m < 9007199254740992 → Calls Tryz.prog 167 #[.int .u64 m] W fun e w' => (∃ v', e = .returned v' ∧ IsNum w' v' m) ∧ Below W.heap.size W w') := Lib.hid fun m W hm => large_any m W (by omega)
 have HV0 : Hid (0 < V a) := Lib.hid (by
  rcases Nat.eq_zero_or_pos (V a) with g | g
  ·exfalso
   have := V_lt_succ (a - 1)
   rw [Nat.sub_add_cancel h1] at this
   omega
  ·exact g)
 have HSH : Hid (∀ (v : Value) (x n : Nat) (W : World), IsNum W v x → x < 256 ^ 10 → n ≤ 2000 → Calls Tryz.prog 168 #[v, .int .i64 n] W fun e w' => (∃ v', e = .returned v' ∧ IsNum w' v' (x * 2 ^ n)) ∧ Below W.heap.size W w') := Lib.hid fun v x n W h hx hn => shift_any v x n 10 W h (by decide) hx (by omega)
 have HREF : Hid (∀ x : Int, DE (-x) ≤ NU a (-x) → NU a (-(x + 1)) < DE (-(x + 1)) → ∃ n0 : Nat, 1 ≤ n0 ∧ n0 ≤ 19 ∧ candJ a ((n0 : Int) - 1 - x) ∧ (∀ n : Nat, 1 ≤ n → n ≤ n0 → flJ a ((n : Int) - 1 - x) < 1152921504606846976) ∧
   ∀ n : Nat, 1 ≤ n → candJ a ((n : Int) - 1 - x) → (∀ k : Nat, 1 ≤ k → k < n → ¬ candJ a ((k : Int) - 1 - x)) → SameV (resJ a ((n : Int) - 1 - x)) (x - n + 1) (shN a).1 (shN a).2) := Lib.hid fun x g1 g2 => ref_any a h1 h2 x g1 g2
 have hai : (a : Int) < 18446744073709551616 := by omega
 clear h1 h2
 go_enter Tryz.func126, Tryz.ntmps126
 go_wp2_with fail
 refine (HPA.out _).mono ?_
 rintro e w1 ⟨⟨m, x, rfl, hx1, hx2, hm, hv⟩, rfl⟩
 have HVV := Lib.hid hv
 have hm0 : 0 < m := by
  rcases Nat.eq_zero_or_pos m with g | g
  ·have := HV0.out
   rw [hv, g, Nat.zero_mul] at this
   omega
  ·exact g
 clear hv HPA
 go_wp2_with fail
 refine (HLA.out m _ hm).mono ?_
 rintro e w2 ⟨⟨vm, rfl, hvm⟩, hb2⟩
 have HM2 := Lib.hid hvm
 have HB2 := Lib.hid hb2
 clear hvm hb2 HLA
 have HQ1 : Hid (IsNum (w2.alloc (.cells #[.int .u8 1] 5)) (.slice (some ⟨w2.heap.size, 0, Option.none⟩) 1 1) 1) := Lib.hid (one_num w2)
 have HBA : Hid (Below w2.heap.size w2 (w2.alloc (.cells #[.int .u8 1] 5))) := Lib.hid ((Below.refl _ _).alloc (Nat.le_refl _) _)
 have HSHM : Hid (∀ n : Nat, n ≤ 2000 → Calls Tryz.prog 168 #[vm, .int .i64 n] (w2.alloc (.cells #[.int .u8 1] 5)) fun e w' => (∃ v', e = .returned v' ∧ IsNum w' v' (m * 2 ^ n)) ∧ Below (w2.alloc (.cells #[.int .u8 1] 5)).heap.size (w2.alloc (.cells #[.int .u8 1] 5)) w') := Lib.hid fun n hn => HSH.out vm m n _ (HM2.out.go HBA.out) (Nat.lt_of_lt_of_le hm (by decide)) hn
 have HSHQ : Hid (∀ n : Nat, n ≤ 2000 → Calls Tryz.prog 168 #[.slice (some ⟨w2.heap.size, 0, Option.none⟩) 1 1, .int .i64 n] (w2.alloc (.cells #[.int .u8 1] 5)) fun e w' => (∃ v', e = .returned v' ∧ IsNum w' v' (1 * 2 ^ n)) ∧ Below (w2.alloc (.cells #[.int .u8 1] 5)).heap.size (w2.alloc (.cells #[.int .u8 1] 5)) w') := Lib.hid fun n hn => HSH.out _ 1 n _ HQ1.out (by decide) hn
 have hcase : (∃ n : Nat, x = (n : Int) ∧ n ≤ 971) ∨ (∃ n : Nat, x = -((n + 1 : Nat) : Int) ∧ n + 1 ≤ 1074) := by
  by_cases h0 : 0 ≤ x
  ·exact .inl ⟨x.toNat, by omega, by omega⟩
  ·exact .inr ⟨(-x).toNat - 1, by omega, by omega⟩
 have HMB : Hid (∀ n : Nat, n ≤ 1074 → m * 2 ^ n < 2 ^ 1130 ∧ 1 * 2 ^ n < 2 ^ 1100) := Lib.hid fun n hn => by
  constructor
  ·have h1 : m * 2 ^ n < 2 ^ 53 * 2 ^ n := (Nat.mul_lt_mul_right (Nat.two_pow_pos n)).2 (Nat.lt_of_lt_of_le hm (by decide))
   rw [← Nat.pow_add] at h1
   exact Nat.lt_of_lt_of_le h1 (Nat.pow_le_pow_right (by decide) (by omega))
  ·rw [Nat.one_mul]
   exact (Nat.pow_lt_pow_iff_right (by decide)).2 (by omega)
 have hx2k : x ≤ 2000 := by omega
 have hm0k := hm0
 clear HSH hm hai
 go_upto_if 26 with (fail)
 go_cut [6, 7] from 25 to 33 (fun s6 s7 wx => ∃ (vp vq : Value) (P Q : Nat), s6 = vp ∧ s7 = vq ∧ P * 2 ^ 1074 = V a * Q ∧ 0 < P ∧ 0 < Q ∧ P < 2 ^ 1130 ∧ Q < 2 ^ 1100 ∧ IsNum wx vp P ∧ IsNum wx vq Q ∧ Below w1.heap.size w1 wx)
 case first =>
  rcases hcase with ⟨n, rfl, hn⟩ | ⟨n, rfl, hn⟩
  ·have HT := Lib.hid (HSHM.out n (by omega))
   have HPR : Hid (m * 2 ^ n * 2 ^ 1074 = V a * 1) := Lib.hid (parts_ratio a m n (m * 2 ^ n) 1 (by omega) HVV.out (by rw [Int.toNat_natCast]) (by rw [show (-(n : Int)).toNat = 0 by omega, Nat.pow_zero]))
   have HPB := Lib.hid (HMB.out n (by omega)).1
   have hn0 : (0 : Int) ≤ (n : Int) := by omega
   clear HSHM HSHQ HVV HMB
   go_wp2_with fail
   refine HT.out.mono ?_
   rintro e w5 ⟨⟨v5, rfl, hn5⟩, hb5⟩
   have H5 := Lib.hid hn5
   have B5 := Lib.hid hb5
   clear hn5 hb5 HT
   go_wp2_with fail
   go_meet
   exact ⟨_, _, m * 2 ^ n, 1, rfl, rfl, HPR.out, Nat.mul_pos hm0 (Nat.two_pow_pos n), by decide, HPB.out, by decide, H5.out, HQ1.out.go B5.out, (HB2.out.trans (HBA.out.mono HB2.out.size)).trans (B5.out.mono (HB2.out.trans (HBA.out.mono HB2.out.size)).size)⟩
  ·have HT := Lib.hid (HSHQ.out (n + 1) (by omega))
   have HPR : Hid (m * 2 ^ 1074 = V a * (1 * 2 ^ (n + 1))) := Lib.hid (parts_ratio a m (-((n + 1 : Nat) : Int)) m (1 * 2 ^ (n + 1)) (by omega) HVV.out (by rw [show (-((n + 1 : Nat) : Int)).toNat = 0 by omega, Nat.pow_zero, Nat.mul_one]) (by rw [Int.neg_neg, Int.toNat_natCast, Nat.one_mul]))
   have HPB := Lib.hid (HMB.out 0 (by omega)).1
   have HQB := Lib.hid (HMB.out (n + 1) (by omega)).2
   have hn0 : ¬ (0 : Int) ≤ -((n + 1 : Nat) : Int) := by omega
   have hnn : -(-((n + 1 : Nat) : Int)) = ((n + 1 : Nat) : Int) := by omega
   generalize ((n + 1 : Nat) : Int) = N at *
   clear HSHM HSHQ HVV HMB
   go_wp2_with fail
   refine HT.out.mono ?_
   rintro e w5 ⟨⟨v5, rfl, hn5⟩, hb5⟩
   have H5 := Lib.hid hn5
   have B5 := Lib.hid hb5
   clear hn5 hb5 HT
   go_wp2_with fail
   go_meet
   exact ⟨_, _, m, 1 * 2 ^ (n + 1), rfl, rfl, HPR.out, hm0, Nat.mul_pos (by decide) (Nat.two_pow_pos _), by have := HPB.out; rwa [Nat.pow_zero, Nat.mul_one] at this, HQB.out, (HM2.out.go HBA.out).go B5.out, H5.out, (HB2.out.trans (HBA.out.mono HB2.out.size)).trans (B5.out.mono (HB2.out.trans (HBA.out.mono HB2.out.size)).size)⟩
 case rest =>
  clear HSHM HSHQ HVV HMB HQ1 HBA HM2 HB2 hcase hm0k hx2k hm0 hx1 hx2
  obtain ⟨vp, vq, P, Q, rfl, rfl, hPQ, hP0, hQ0, hP, hQ, hvp, hvq, hbw⟩ := hcut
  obtain ⟨vp, hvp0⟩ : ∃ v, v = u6 := ⟨_, rfl⟩
  subst hvp0
  obtain ⟨vq, hvq0⟩ : ∃ v, v = u7 := ⟨_, rfl⟩
  subst hvq0
  obtain ⟨wo, rfl⟩ : ∃ wo : World, wo = wc := ⟨_, rfl⟩
  have HPQ := Lib.hid hPQ
  have HPN := Lib.hid hvp
  have HQN := Lib.hid hvq
  have HBW := Lib.hid hbw
  have HP0 := Lib.hid hP0
  have HQ0 := Lib.hid hQ0
  have HP := Lib.hid hP
  have HQ := Lib.hid hQ
  have h256 : ∀ k n, n ≤ 8 * k → 2 ^ n ≤ 256 ^ k := fun k n h => by
   rw [show (256 : Nat) = 2 ^ 8 from by decide, ← Nat.pow_mul]
   exact Nat.pow_le_pow_right (by decide) h
  have HP2 : Hid (P < 256 ^ 142) := Lib.hid (Nat.lt_of_lt_of_le hP (h256 142 1130 (by decide)))
  have HQ2 : Hid (Q < 256 ^ 142) := Lib.hid (Nat.lt_of_lt_of_le hQ (h256 142 1100 (by decide)))
  have HPR1 : Hid (∀ b, 10 ^ b ≤ P → b ≤ 1130) := Lib.hid fun b h => Nat.le_of_lt (pow_room b P 1130 h hP)
  have HPR2 : Hid (∀ n, P * 10 ^ n < 10 * Q → n < 1104) := Lib.hid fun n h => by
   refine pow_room n (P * 10 ^ n) 1104 (Nat.le_mul_of_pos_left _ hP0) ?_
   have h1 : 10 * Q < 2 ^ 4 * 2 ^ 1100 := Nat.mul_lt_mul_of_lt_of_le (by decide) (Nat.le_of_lt hQ) (Nat.two_pow_pos 1100)
   rw [← Nat.pow_add] at h1
   omega
  clear hPQ hvp hvq hbw hP0 hQ0 hP hQ h256 HP HQ
  have HTEN : Hid (∀ (v : Value) (y n : Nat) (W : World), IsNum W v y → y < 256 ^ 2000 → n ≤ 2000 → Calls Tryz.prog 170 #[v, .int .i64 n] W fun e w' => (∃ v', e = .returned v' ∧ IsNum w' v' (y * 10 ^ n)) ∧ Below W.heap.size W w') := Lib.hid fun v y n W h hy hn => ten_any v y n 2000 W h (by decide) hy (by omega)
  have HCM : Hid (∀ (va vb : Value) (x y : Nat) (W : World), IsNum W va x → IsNum W vb y → x < 256 ^ 4000 → y < 256 ^ 4000 → Calls Tryz.prog 169 #[va, vb] W fun e w' => e = .returned (.int .i64 (cmpN x y)) ∧ Below W.heap.size W w') := Lib.hid fun va vb x y W ha hb hx hy => cmp_any va vb x y 4000 W ha hb (by decide) hx hy
  have HBG : Hid (∀ y n, y < 256 ^ 142 → n ≤ 1300 → y * 10 ^ n < 256 ^ 2000) := Lib.hid fun y n hy hn => by
   have h1 : 10 ^ n ≤ 256 ^ 1300 := Nat.le_trans (Nat.pow_le_pow_left (by decide) n) (Nat.pow_le_pow_right (by decide) hn)
   have h2 : y * 10 ^ n < 256 ^ 142 * 256 ^ 1300 := Nat.lt_of_lt_of_le ((Nat.mul_lt_mul_right (Nat.pow_pos (by decide))).2 hy) (Nat.mul_le_mul_left _ h1)
   rw [← Nat.pow_add] at h2
   exact Nat.lt_of_lt_of_le h2 (Nat.pow_le_pow_right (by decide) (by decide))
  have HB4 : Hid (256 ^ 2000 ≤ 256 ^ 4000) := Lib.hid (Nat.pow_le_pow_right (by decide) (by decide))
  have HB2 : Hid (256 ^ 142 ≤ 256 ^ 2000) := Lib.hid (Nat.pow_le_pow_right (by decide) (by decide))
  have HNEAR0 : Hid (∀ (j : Int) (X Y : Nat) (W : World), IsNum W vp P → IsNum W vq Q → (-2000 ≤ j ∧ j ≤ 2000) → P * 10 ^ j.toNat = X → Q * 10 ^ (-j).toNat = Y → X < 2 ^ 60 * Y → Calls Tryz.prog 171 #[vp, vq, .int .i64 j] W fun e w' => e = .returned (.tuple #[.int .u64 ((X / Y : Nat) : Int), .bool (decide (upG X Y = 0))]) ∧ Below W.heap.size W w') := Lib.hid fun j X Y W h1 h2 h3 h4 h5 h6 => near_any vp vq P Q 142 j X Y W h1 h2 HQ0.out (by decide) HP2.out HQ2.out h3 h4 h5 h6
  generalize 256 ^ 142 = C1 at *
  generalize 256 ^ 2000 = C2 at *
  generalize 256 ^ 4000 = C4 at *
  go_wp2_with fail
  go_loopg [8, 9] 1200 (fun g s8 s9 wr => ∃ k : Nat, k + g = 1200 ∧ s8 = .int .i64 k ∧ (k = 0 ∨ Q * 10 ^ k ≤ P) ∧ IsNum wr s9 (Q * 10 ^ k) ∧ Below wo.heap.size wo wr)
  case atStart => exact ⟨0, rfl, rfl, .inl rfl, by rw [Nat.pow_zero, Nat.mul_one]; exact HQN.out, Below.refl _ _⟩
  case round =>
   obtain ⟨k, hkg, rfl, hk, hnum, hb⟩ := hrel
   have hk1 : k ≤ 1130 := by
    rcases hk with h | h
    ·omega
    ·exact HPR1.out k (Nat.le_trans (Nat.le_mul_of_pos_left _ HQ0.out) h)
   have HK := Lib.hid hk
   have HTN := Lib.hid hnum
   have HB := Lib.hid hb
   clear hk hnum hb
   have HT : Hid (∀ W : World, Below wr.heap.size wr W → Calls Tryz.prog 170 #[u9, .int .i64 1] W fun e w' => (∃ v', e = .returned v' ∧ IsNum w' v' (Q * 10 ^ (k + 1))) ∧ Below W.heap.size W w') := Lib.hid fun W hW => by
    have := HTEN.out u9 (Q * 10 ^ k) 1 W (HTN.out.go hW) (HBG.out _ _ HQ2.out (by omega)) (by decide)
    rwa [Nat.pow_one, Nat.mul_assoc, ← Nat.pow_succ] at this
   have HC : Hid (∀ (v : Value) (W : World), Below wr.heap.size wr W → IsNum W v (Q * 10 ^ (k + 1)) → Calls Tryz.prog 169 #[vp, v] W fun e w' => e = .returned (.int .i64 (cmpN P (Q * 10 ^ (k + 1)))) ∧ Below W.heap.size W w') := Lib.hid fun v W hW hv => HCM.out vp v _ _ W ((HPN.out.go HB.out).go hW) hv (Nat.lt_of_lt_of_le HP2.out (Nat.le_trans HB2.out HB4.out)) (Nat.lt_of_lt_of_le (HBG.out _ _ HQ2.out (by omega)) HB4.out)
   go_wp2_with fail
   refine (HT.out _ (Below.refl _ _)).mono ?_
   rintro e w5 ⟨⟨v5, rfl, hn5⟩, hb5⟩
   have H5 := Lib.hid hn5
   have B5 := Lib.hid hb5
   clear hn5 hb5
   go_wp2_with fail
   refine (HC.out _ _ B5.out H5.out).mono ?_
   rintro e w6 ⟨rfl, hb6⟩
   have B6 := Lib.hid (B5.out.trans (hb6.mono B5.out.size))
   clear hb6 H5 HC
   have HT6 := Lib.hid (HT.out w6 B6.out)
   clear HT
   by_cases hge : Q * 10 ^ (k + 1) ≤ P
   ·have hc : cmpN P (Q * 10 ^ (k + 1)) = 0 ∨ cmpN P (Q * 10 ^ (k + 1)) = 1 := by
     unfold cmpN; rw [if_neg (by omega)]; split
     ·exact .inr rfl
     ·exact .inl rfl
    have HGE := Lib.hid hge
    have hc0 : (0 : Int) ≤ cmpN P (Q * 10 ^ (k + 1)) := by omega
    generalize cmpN P (Q * 10 ^ (k + 1)) = c at *
    clear hc hge
    go_wp2_with fail
    refine HT6.out.mono ?_
    rintro e w7 ⟨⟨v7, rfl, hn7⟩, hb7⟩
    have H7 := Lib.hid hn7
    have B7 := Lib.hid ((HB.out.trans (B6.out.mono HB.out.size)).trans (hb7.mono (HB.out.trans (B6.out.mono HB.out.size)).size))
    clear hn7 hb7
    go_wp2_with fail
    go_roundg (gk - 1)
    case measure => omega
    case rel => exact ⟨k + 1, by omega, by go_num, .inr HGE.out, H7.out, B7.out⟩
   ·have hc : cmpN P (Q * 10 ^ (k + 1)) = -1 := by unfold cmpN; rw [if_pos (by omega)]
    rw [hc]
    have HSTART : Hid (ShInv P Q k ∧ P < Q * 10 ^ (k + 1)) := Lib.hid (by
     refine ⟨?_, by omega⟩
     rcases Nat.eq_zero_or_pos k with h | h
     ·refine .inr ⟨by omega, ?_⟩
      subst h
      rw [Nat.zero_add, Nat.pow_one] at hge
      simp
      omega
     ·refine .inl ⟨by omega, ?_⟩
      rw [Int.toNat_natCast]
      exact HK.out.resolve_left (by omega))
    have HBO := Lib.hid (HB.out.trans (B6.out.mono HB.out.size))
    clear hge hc HK HTN HT6 hkg HB B5 B6
    go_upto_block 2 with fail
    go_cut [8] from 44 to 56 (fun s8 wx => ∃ x : Int, s8 = .int .i64 x ∧ -1200 ≤ x ∧ x ≤ 1200 ∧ DE (-x) ≤ NU a (-x) ∧ NU a (-(x + 1)) < DE (-(x + 1)) ∧ Below wo.heap.size wo wx)
    case first =>
     go_wp2_with fail
     go_loopg [8] 1300 (fun g s8 wr => ∃ x : Int, g ≤ 1300 ∧ (x = (k : Int) ∨ x ≤ 0) ∧ (1300 : Int) - g = (if x ≤ 0 then -x else 0) ∧ s8 = .int .i64 x ∧ ShInv P Q x ∧ Below wo.heap.size wo wr)
     case atStart => exact ⟨k, Nat.le_refl _, .inl rfl, by split <;> omega, rfl, HSTART.out.1, HBO.out⟩
     case round =>
      obtain ⟨x, hg, hxk, hgx, rfl, hinv, hb⟩ := hrel
      have HIV := Lib.hid hinv
      have HB := Lib.hid hb
      have HBEF := HSTART.out.2
      have HBEF := Lib.hid HBEF
      clear hinv hb HBO HSTART
      by_cases hx0 : 0 < x
      ·obtain rfl : x = (k : Int) := by omega
       have hle : Q * 10 ^ k ≤ P := by
        rcases HIV.out with h | h
        ·have := h.2; rwa [Int.toNat_natCast] at this
        ·omega
       have hqp : Q ≤ P := Nat.le_trans (Nat.le_mul_of_pos_right _ (Nat.pow_pos (by decide))) hle
       have HFA : Hid (DE (-(k : Int)) ≤ NU a (-(k : Int)) ∧ NU a (-((k : Int) + 1)) < DE (-((k : Int) + 1))) := Lib.hid (by
        constructor
        ·rw [lev_iff a P Q _ HQ0.out HPQ.out, Int.neg_neg, Int.toNat_natCast, show (-(k : Int)).toNat = 0 by omega, Nat.pow_zero, Nat.mul_one]
         exact hle
        ·refine Nat.lt_of_not_le fun h => ?_
         rw [lev_iff a P Q _ HQ0.out HPQ.out, Int.neg_neg, show ((k : Int) + 1).toNat = k + 1 by omega, show (-((k : Int) + 1)).toNat = 0 by omega, Nat.pow_zero, Nat.mul_one] at h
         have := HBEF.out
         omega)
       have hc : 0 ≤ cmpN P Q := by unfold cmpN; rw [if_neg (by omega)]; split <;> omega
       have hc2 : -1 ≤ cmpN P Q ∧ cmpN P Q ≤ 1 := by unfold cmpN; rw [if_neg (by omega)]; split <;> omega
       have HTN : Hid (∀ W : World, Calls Tryz.prog 170 #[vp, .int .i64 (-(k : Int))] W fun e w' => e = .returned vp ∧ w' = W) := Lib.hid fun W => ten_neg vp _ W (by omega)
       have HC : Hid (∀ W : World, Below wr.heap.size wr W → Calls Tryz.prog 169 #[vp, vq] W fun e w' => e = .returned (.int .i64 (cmpN P Q)) ∧ Below W.heap.size W w') := Lib.hid fun W hW => HCM.out vp vq _ _ W ((HPN.out.go HB.out).go hW) ((HQN.out.go HB.out).go hW) (Nat.lt_of_lt_of_le HP2.out (Nat.le_trans HB2.out HB4.out)) (Nat.lt_of_lt_of_le HQ2.out (Nat.le_trans HB2.out HB4.out))
       generalize cmpN P Q = c at *
       clear hle hqp hg hgx hxk HIV HBEF
       go_wp2_with fail
       refine (HTN.out _).mono ?_
       rintro e w5 ⟨rfl, rfl⟩
       go_wp2_with fail
       refine (HC.out _ (Below.refl _ _)).mono ?_
       rintro e w6 ⟨rfl, hb6⟩
       have B6 := Lib.hid (HB.out.trans (hb6.mono HB.out.size))
       clear hb6
       go_wp2_with fail
       go_meet
       exact ⟨k, rfl, by omega, by omega, HFA.out.1, HFA.out.2, B6.out⟩
      ·obtain ⟨n, rfl⟩ : ∃ n : Nat, x = -(n : Int) := ⟨(-x).toNat, by omega⟩
       have hinv : P * 10 ^ n < 10 * Q := by
        rcases HIV.out with h | h
        ·omega
        ·have := h.2; rwa [Int.neg_neg, Int.toNat_natCast] at this
       have hn1 : n < 1104 := HPR2.out n hinv
       have HINV := Lib.hid hinv
       have hnn : -(-(n : Int)) = (n : Int) := by omega
       have hgn : gk + n = 1300 := by
        rw [if_pos (by omega)] at hgx
        omega
       have HTN : Hid (∀ W : World, Below wr.heap.size wr W → Calls Tryz.prog 170 #[vp, .int .i64 n] W fun e w' => (∃ v', e = .returned v' ∧ IsNum w' v' (P * 10 ^ n)) ∧ Below W.heap.size W w') := Lib.hid fun W hW => HTEN.out vp P n W ((HPN.out.go HB.out).go hW) (Nat.lt_of_lt_of_le HP2.out HB2.out) (by omega)
       have HC : Hid (∀ (v : Value) (W : World), Below wr.heap.size wr W → IsNum W v (P * 10 ^ n) → Calls Tryz.prog 169 #[v, vq] W fun e w' => e = .returned (.int .i64 (cmpN (P * 10 ^ n) Q)) ∧ Below W.heap.size W w') := Lib.hid fun v W hW hv => HCM.out v vq _ _ W hv ((HQN.out.go HB.out).go hW) (Nat.lt_of_lt_of_le (HBG.out _ _ HP2.out (by omega)) HB4.out) (Nat.lt_of_lt_of_le HQ2.out (Nat.le_trans HB2.out HB4.out))
       by_cases hlt : P * 10 ^ n < Q
       ·have hc : cmpN (P * 10 ^ n) Q = -1 := by unfold cmpN; rw [if_pos hlt]
        rw [hc] at HC
        have HNX : Hid (ShInv P Q (-(n : Int) - 1)) := Lib.hid (.inr ⟨by omega, by
         rw [show (-(-(n : Int) - 1)).toNat = n + 1 by omega, Nat.pow_succ, ← Nat.mul_assoc]
         omega⟩)
        have hxle : -(n : Int) ≤ 0 := by omega
        clear hc hlt hinv HIV HBEF hxk hgx
        go_wp2_with fail
        refine (HTN.out _ (Below.refl _ _)).mono ?_
        rintro e w5 ⟨⟨v5, rfl, hn5⟩, hb5⟩
        have H5 := Lib.hid hn5
        have B5 := Lib.hid hb5
        clear hn5 hb5
        go_wp2_with fail
        refine (HC.out _ _ B5.out H5.out).mono ?_
        rintro e w6 ⟨rfl, hb6⟩
        have B6 := Lib.hid (HB.out.trans ((B5.out.trans (hb6.mono B5.out.size)).mono HB.out.size))
        clear hb6
        go_wp2_with fail
        go_roundg (gk - 1)
        case measure => omega
        case rel => exact ⟨-(n : Int) - 1, by omega, .inr (by omega), by rw [if_pos (by omega)]; omega, by go_num, HNX.out, B6.out⟩
       ·have hc : 0 ≤ cmpN (P * 10 ^ n) Q := by unfold cmpN; rw [if_neg hlt]; split <;> omega
        have hc2 : -1 ≤ cmpN (P * 10 ^ n) Q ∧ cmpN (P * 10 ^ n) Q ≤ 1 := by unfold cmpN; rw [if_neg hlt]; split <;> omega
        have HFA : Hid (DE (-(-(n : Int))) ≤ NU a (-(-(n : Int))) ∧ NU a (-(-(n : Int) + 1)) < DE (-(-(n : Int) + 1))) := Lib.hid (by
         constructor
         ·rw [lev_iff a P Q _ HQ0.out HPQ.out, show (-(-(-(n : Int)))).toNat = 0 by omega, show (-(-(n : Int))).toNat = n by omega, Nat.pow_zero, Nat.mul_one]
          omega
         ·refine Nat.lt_of_not_le fun h => ?_
          rw [lev_iff a P Q _ HQ0.out HPQ.out, Int.neg_neg] at h
          rcases Nat.eq_zero_or_pos n with h0 | h0
          ·subst h0
           rw [show (-((0 : Nat) : Int) + 1).toNat = 1 by omega, show (-(-((0 : Nat) : Int) + 1)).toNat = 0 by omega, Nat.pow_one, Nat.pow_zero] at h
           rw [Nat.pow_zero] at hinv
           omega
          ·obtain ⟨i, rfl⟩ : ∃ i, n = i + 1 := ⟨n - 1, by omega⟩
           rw [show (-((i + 1 : Nat) : Int) + 1).toNat = 0 by omega, show (-(-((i + 1 : Nat) : Int) + 1)).toNat = i by omega, Nat.pow_zero, Nat.mul_one] at h
           rw [Nat.pow_succ, ← Nat.mul_assoc] at hinv
           omega)
        generalize cmpN (P * 10 ^ n) Q = c at *
        clear hlt hinv HIV HBEF hxk hgx
        go_wp2_with fail
        refine (HTN.out _ (Below.refl _ _)).mono ?_
        rintro e w5 ⟨⟨v5, rfl, hn5⟩, hb5⟩
        have H5 := Lib.hid hn5
        have B5 := Lib.hid hb5
        clear hn5 hb5
        go_wp2_with fail
        refine (HC.out _ _ B5.out H5.out).mono ?_
        rintro e w6 ⟨rfl, hb6⟩
        have B6 := Lib.hid (HB.out.trans ((B5.out.trans (hb6.mono B5.out.size)).mono HB.out.size))
        clear hb6
        go_wp2_with fail
        go_meet
        exact ⟨-(n : Int), rfl, by omega, by omega, HFA.out.1, HFA.out.2, B6.out⟩
    case rest =>
     obtain ⟨x, rfl, hx1, hx2, hd1, hd2, hb⟩ := hcut
     obtain ⟨ws, rfl⟩ : ∃ ws : World, ws = wc := ⟨_, rfl⟩
     obtain ⟨n0, hn01, hn019, hcand, hfl, hsame⟩ := HREF.out x hd1 hd2
     have HFP : Hid (∀ n : Nat, 1 ≤ n → 1 ≤ flJ a ((n : Int) - 1 - x)) := Lib.hid fun n hn => fl_pos a x n hn hd1
     have HCD := Lib.hid hcand
     have HFL := Lib.hid hfl
     have HSM := Lib.hid hsame
     have HBS := Lib.hid hb
     clear hcand hfl hsame hb hd1 hd2 HREF HSTART HBO HTEN HCM HBG HB4
     go_wp2_with fail
     go_loopg [10, 11, 12, 13, 14, 15, 16] (n0 - 1) (fun g s10 _ _ _ _ _ _ wr => ∃ n : Nat, n + g = n0 ∧ 1 ≤ n ∧ s10 = .int .i64 n ∧ (∀ k : Nat, 1 ≤ k → k < n → ¬ candJ a ((k : Int) - 1 - x)) ∧ Below wo.heap.size wo wr)
     case atStart => exact ⟨1, by omega, Nat.le_refl _, rfl, fun k h1 h2 => by omega, HBS.out⟩
     case round =>
      clear HBS
      obtain ⟨n, hng, hn1, rfl, hno, hb⟩ := hrel
      have HNO := Lib.hid hno
      have HB := Lib.hid hb
      have hlow1 := HFP.out n hn1
      have hlow2 := HFL.out n hn1 (by omega)
      obtain ⟨j, hj⟩ : ∃ j : Int, (n : Int) - 1 - x = j := ⟨_, rfl⟩
      have hjq : x - (n : Int) + 1 = -j := by omega
      have hSM := HSM.out n hn1
      have hND : candJ a ((n : Int) - 1 - x) ∨ n < n0 := by
       rcases Nat.lt_or_ge n n0 with h | h
       ·exact .inr h
       ·obtain rfl : n = n0 := by omega
        exact .inl HCD.out
      rw [hj] at hlow1 hlow2 hSM hND
      rw [hjq] at hSM
      have hSM2 := fun hc => hSM hc HNO.out
      have HNX : Hid (¬ candJ a j → ∀ k : Nat, 1 ≤ k → k < n + 1 → ¬ candJ a ((k : Int) - 1 - x)) := Lib.hid (fun hnc k h1 h2 => by
       rcases Nat.lt_or_ge k n with h | h
       ·exact HNO.out k h1 h
       ·obtain rfl : k = n := by omega
        rw [hj]
        exact hnc)
      have HND := Lib.hid hND
      have hjb : -2000 ≤ j ∧ j ≤ 2000 := by omega
      have hY0 : 0 < Q * 10 ^ (-j).toNat := Nat.mul_pos HQ0.out (Nat.pow_pos (by decide))
      obtain ⟨hr1, hr2⟩ := ratio_div hY0 (DE_pos j) (ratio_lev a P Q j HPQ.out)
      have hr1' : P * 10 ^ j.toNat / (Q * 10 ^ (-j).toNat) = flJ a j := hr1
      have hr2' : upG (P * 10 ^ j.toNat) (Q * 10 ^ (-j).toNat) = upJ a j := hr2
      have HNEAR : Hid (Calls Tryz.prog 171 #[vp, vq, .int .i64 j] wr fun e w' => e = .returned (.tuple #[.int .u64 ((flJ a j : Nat) : Int), .bool (decide (upJ a j = 0))]) ∧ Below wr.heap.size wr w') := Lib.hid (by
       have := HNEAR0.out j _ _ wr (HPN.out.go HB.out) (HQN.out.go HB.out) hjb rfl rfl (by
        refine (Nat.div_lt_iff_lt_mul hY0).1 ?_
        rw [hr1']
        exact hlow2)
       rwa [hr1', hr2'] at this)
      have hres : (inB a j (flJ a j) = true ∧ (decide (upJ a j = 0) = true ∨ inB a j (flJ a j + 1) = false) → resJ a j = flJ a j ∧ candJ a j) ∧
        (¬ (inB a j (flJ a j) = true ∧ (decide (upJ a j = 0) = true ∨ inB a j (flJ a j + 1) = false)) → inB a j (flJ a j + 1) = true → resJ a j = flJ a j + 1 ∧ candJ a j) ∧
        (inB a j (flJ a j) = false → inB a j (flJ a j + 1) = false → ¬ candJ a j) := by
       refine ⟨fun h => ⟨?_, .inl (inB_iff.1 h.1)⟩, fun h h2 => ⟨?_, .inr (inB_iff.1 h2)⟩, fun h h2 hc => ?_⟩
       ·unfold resJ
        rw [if_pos]
        rw [h.1, Bool.true_and]
        rcases h.2 with g | g
        ·rw [g, Bool.true_or]
        ·rw [g]; simp
       ·unfold resJ
        rw [if_neg]
        intro hh
        rw [Bool.and_eq_true, Bool.or_eq_true, Bool.not_eq_true'] at hh
        exact h ⟨hh.1, hh.2⟩
       ·rcases hc with g | g
        ·rw [inB_iff.2 g] at h; cases h
        ·rw [inB_iff.2 g] at h2; cases h2
      obtain ⟨low, hlow⟩ : ∃ low, flJ a j = low := ⟨_, rfl⟩
      rw [hlow] at hlow1 hlow2 hres HNEAR
      have HRD : Hid (∀ (d r : Nat), Near (dX d (-j)) (dQ (-j)) r → ((r : Int) == (a : Int)) = inB a j d) := Lib.hid fun d r h => in_read a d j r h
      have HDEC : Hid (∀ (d : Nat) (W : World), d ≤ 1152921504606846976 → Calls Tryz.prog 172 #[.string ⟨(decDigits d).toArray⟩, .int .i64 (-j)] W fun e w' => (∃ r : Nat, e = .returned (.int .u64 r) ∧ ((r : Int) == (a : Int)) = inB a j d) ∧ Below W.heap.size W w') := Lib.hid fun d W hd => by
       have hsz : (⟨(decDigits d).toArray⟩ : ByteArray).size ≤ 1000 := by
        show (decDigits d).toArray.size ≤ 1000
        rw [List.size_toArray, decDigits_length]
        exact Nat.le_trans (nd_le 18 d (by omega)) (by decide)
       refine (rdec_any ⟨(decDigits d).toArray⟩ (-j) W hsz (fun c hc => dec_digs d c (by simpa using hc)) (by omega)).mono ?_
       rintro e w' ⟨⟨r, rfl, hr⟩, hb⟩
       refine ⟨⟨r, rfl, HRD.out d r ?_⟩, hb⟩
       have e1 : dvl 10 (⟨(decDigits d).toArray⟩ : ByteArray).data.toList = d := dvl_dec d
       rwa [e1] at hr
      have HTX : Hid (∀ (d : Nat) (W : World), d ≤ 1152921504606846976 → Calls Tryz.prog 128 #[.int .u64 d] W fun e w' => e = .returned (.string ⟨(decDigits d).toArray⟩) ∧ Below W.heap.size W w') := Lib.hid fun d W hd => text_any d W (by omega)
      have HT1 := Lib.hid (fun W => HTX.out low W (by omega))
      have HT2 := Lib.hid (fun W => HTX.out (low + 1) W (by omega))
      have HD1 := Lib.hid (fun W => HDEC.out low W (by omega))
      have HD2 := Lib.hid (fun W => HDEC.out (low + 1) W (by omega))
      have hfin : ∀ d, 1 ≤ d → d ≤ 1152921504606846976 → (resJ a j = d ∧ candJ a j) → ∀ wz z, Below w1.heap.size w1 wz → z = ((nDigits d : Nat) : Int) + -j → ShPost a w1 (.returned (.tuple #[.string ⟨(decDigits d).toArray⟩, .int .i64 z])) wz := fun d h1 h2 h3 wz z h4 h5 => by
       refine ⟨⟨d, -j, ?_, h1, h2, by rw [h5]⟩, h4⟩
       have := hSM2 h3.2
       rwa [h3.1] at this
      have hs1 : (⟨(decDigits low).toArray⟩ : ByteArray).size = nDigits low := by
       show (decDigits low).toArray.size = _
       rw [List.size_toArray, decDigits_length]
      have hs2 : (⟨(decDigits (low + 1)).toArray⟩ : ByteArray).size = nDigits (low + 1) := by
       show (decDigits (low + 1)).toArray.size = _
       rw [List.size_toArray, decDigits_length]
      have HF1 := Lib.hid (hfin low hlow1 (by omega))
      have HF2 := Lib.hid (hfin (low + 1) (by omega) (by omega))
      have hnd1 : nDigits low ≤ 19 := nd_le 18 low (by omega)
      have hnd2 : nDigits (low + 1) ≤ 19 := nd_le 18 (low + 1) (by omega)
      have HRES := Lib.hid hres
      clear hno hb hSM hSM2 hND hY0 hr1 hr2 hr1' hr2' hres hfin hlow HRD HDEC HTX HNO HCD HFL HFP HSM HPQ
      generalize inB a j low = b1 at *
      generalize inB a j (low + 1) = b2 at *
      generalize decide (upJ a j = 0) = lw at *
      generalize (⟨(decDigits low).toArray⟩ : ByteArray) = sl at *
      generalize (⟨(decDigits (low + 1)).toArray⟩ : ByteArray) = sh at *
      have hlowi : (0 : Int) < (low : Int) := by omega
      have hj1 := Lib.hid hj
      have hjq1 : x - (n : Int) + 1 = -j := hjq
      go_wp2_with fail
      refine HNEAR.out.mono ?_
      rintro e w5 ⟨rfl, hb5⟩
      have B5 := Lib.hid (HB.out.trans (hb5.mono HB.out.size))
      clear hb5 HNEAR HB hj
      go_wp2_with fail
      refine (HT1.out _).mono ?_
      rintro e w6 ⟨rfl, hb6⟩
      have B6 := Lib.hid (B5.out.trans (hb6.mono B5.out.size))
      clear hb6 B5
      go_wp2_with fail
      refine (HT2.out _).mono ?_
      rintro e w7 ⟨rfl, hb7⟩
      have B7 := Lib.hid (B6.out.trans (hb7.mono B6.out.size))
      clear hb7 B6
      go_wp2_with fail
      refine (HD1.out _).mono ?_
      rintro e w8 ⟨⟨r1, rfl, hr1⟩, hb8⟩
      have B8 := Lib.hid (B7.out.trans (hb8.mono B7.out.size))
      clear hb8 B7
      go_wp2_with fail
      refine (HD2.out _).mono ?_
      rintro e w9 ⟨⟨r2, rfl, hr2⟩, hb9⟩
      have B9 := Lib.hid (B8.out.trans (hb9.mono B8.out.size))
      clear hb9 B8 HT1 HT2 HD1 HD2 hjq hjq1
      have HE1 := Lib.hid (fun h => HF1.out (HRES.out.1 h) w9)
      have HE2 := Lib.hid (fun h h2 => HF2.out (HRES.out.2.1 h h2) w9)
      have HE3 := Lib.hid HRES.out.2.2
      clear HF1 HF2 HRES
      cases b1 <;> cases b2 <;> cases lw
      ·have hnc := HE3.out (by simp) (by simp)
       have hlt := HND.out.resolve_left hnc
       have HN1 := Lib.hid (HNX.out hnc)
       clear hnc
       go_wp2_with fail
       go_roundg (gk - 1)
       case measure => omega
       case rel => exact ⟨n + 1, by omega, by omega, by go_num, HN1.out, B9.out⟩
      ·have hnc := HE3.out (by simp) (by simp)
       have hlt := HND.out.resolve_left hnc
       have HN1 := Lib.hid (HNX.out hnc)
       clear hnc
       go_wp2_with fail
       go_roundg (gk - 1)
       case measure => omega
       case rel => exact ⟨n + 1, by omega, by omega, by go_num, HN1.out, B9.out⟩
      ·go_wp2_with fail
       go_ret2
       exact HE2.out (by simp) (by simp) _ (HBW.out.trans (B9.out.mono HBW.out.size)) (by have := hj1.out; omega)
      ·go_wp2_with fail
       go_ret2
       exact HE2.out (by simp) (by simp) _ (HBW.out.trans (B9.out.mono HBW.out.size)) (by have := hj1.out; omega)
      ·go_wp2_with fail
       go_ret2
       exact HE1.out (by simp) _ (HBW.out.trans (B9.out.mono HBW.out.size)) (by have := hj1.out; omega)
      ·go_wp2_with fail
       go_ret2
       exact HE1.out (by simp) _ (HBW.out.trans (B9.out.mono HBW.out.size)) (by have := hj1.out; omega)
      ·go_wp2_with fail
       go_ret2
       exact HE2.out (by simp) (by simp) _ (HBW.out.trans (B9.out.mono HBW.out.size)) (by have := hj1.out; omega)
      ·go_wp2_with fail
       go_ret2
       exact HE1.out (by simp) _ (HBW.out.trans (B9.out.mono HBW.out.size)) (by have := hj1.out; omega)
end Go.Proofs.YtckaoeloofbklaaGreatDoor
