/- Joined texts: Sg Sh Ta. Each begins with its own remark. -/
import Derived.Test.YtckaoeloofbklaaGreatDoorWo
import Derived.Test.YtckaoeloofbklaaGreatDoorWh
import Derived.Deep.LoopGhost
import Derived.Deep.CutRange
import Derived.Test.YtckaoeloofbklaaGreatDoorWi
set_option maxRecDepth 100000
set_option maxHeartbeats 16000000
namespace Go.Proofs.YtckaoeloofbklaaGreatDoor
open Go Go.RowKit Go.Sort Go.Lib
set_option exponentiation.threshold 3000
theorem div_step (x m Y X k : Nat) (h : x + m * (Y * 2 ^ (k + 1)) = X) (hlt : x < Y * 2 ^ (k + 1)) :
  (x < Y * 2 ^ k → x + (m * 2) * (Y * 2 ^ k) = X) ∧ (Y * 2 ^ k ≤ x → x - Y * 2 ^ k + (m * 2 + 1) * (Y * 2 ^ k) = X ∧ x - Y * 2 ^ k < Y * 2 ^ k) := by
 have e1 : Y * 2 ^ (k + 1) = 2 * (Y * 2 ^ k) := by rw [Nat.pow_succ]; ac_rfl
 rw [e1] at h hlt
 generalize Y * 2 ^ k = T at *
 have e2 : m * (2 * T) = m * 2 * T := by ac_rfl
 rw [e2] at h
 refine ⟨fun _ => h, fun g => ⟨?_, by omega⟩⟩
 rw [Nat.add_mul, Nat.one_mul]; omega
theorem div_lt (x m Y X k : Nat) (h : x + m * (Y * 2 ^ k) = X) (hX : X < 2 ^ 54 * Y) : m < 18014398509481984 := by
 rcases Nat.lt_or_ge m 18014398509481984 with g | g
 ·exact g
 ·exfalso
  have h1 : 2 ^ 54 * Y ≤ m * (Y * 2 ^ k) := Nat.mul_le_mul g (Nat.le_mul_of_pos_right _ (Nat.two_pow_pos k))
  omega
theorem div_end (x m Y X : Nat) (h : x + m * (Y * 2 ^ 0) = X) (hlt : x < Y * 2 ^ 0) : X / Y = m ∧ X % Y = x := by
 rw [Nat.pow_zero, Nat.mul_one] at h hlt
 have hY : 0 < Y := by omega
 rw [← h, Nat.add_mul_div_right _ _ hY, Nat.div_eq_of_lt hlt, Nat.zero_add, Nat.add_mul_mod_self_right, Nat.mod_eq_of_lt hlt]
 exact ⟨rfl, rfl⟩
theorem up_cases (x m Y X : Nat) (h1 : X / Y = m) (h2 : X % Y = x) :
  (cmpN (x * 2) Y = -1 ∧ upG X Y = 0) ∨ (cmpN (x * 2) Y = 0 ∧ m % 2 = 0 ∧ upG X Y = 0) ∨ (cmpN (x * 2) Y = 0 ∧ m % 2 = 1 ∧ upG X Y = 1) ∨ (cmpN (x * 2) Y = 1 ∧ upG X Y = 1) := by
 unfold cmpN upG
 rw [h1, h2, Nat.mul_comm x 2]
 rcases Nat.lt_trichotomy (2 * x) Y with h | h | h
 ·left; rw [if_pos h, if_pos h]; exact ⟨rfl, rfl⟩
 ·rw [if_neg (show ¬ 2 * x < Y by omega), if_neg (show ¬ Y < 2 * x by omega), if_neg (show ¬ 2 * x < Y by omega), if_pos h]
  rcases Nat.mod_two_eq_zero_or_one m with g | g
  ·right; left; exact ⟨rfl, g, g⟩
  ·right; right; left; exact ⟨rfl, g, g⟩
 ·right; right; right
  rw [if_neg (show ¬ 2 * x < Y by omega), if_pos h, if_neg (show ¬ 2 * x < Y by omega), if_neg (show ¬ 2 * x = Y by omega)]
  exact ⟨rfl, rfl⟩
theorem rnd_cases (e : Int) (M : Nat) (h1 : -1074 ≤ e) :
  (M = 9007199254740992 ∧ 971 < e + 1 ∧ rndN e M = 9218868437227405312) ∨ (M = 9007199254740992 ∧ ¬ 971 < e + 1 ∧ ∃ d : Nat, e + 1 + 1075 = (d : Int) ∧ d ≤ 2046 ∧ rndN e M = d * 4503599627370496) ∨
  (M ≠ 9007199254740992 ∧ 971 < e ∧ rndN e M = 9218868437227405312) ∨ (M ≠ 9007199254740992 ∧ ¬ 971 < e ∧ M < 4503599627370496 ∧ rndN e M = M) ∨
  (M ≠ 9007199254740992 ∧ ¬ 971 < e ∧ ¬ M < 4503599627370496 ∧ ∃ d : Nat, e + 1075 = (d : Int) ∧ d ≤ 2046 ∧ rndN e M = M - 4503599627370496 + d * 4503599627370496) := by
 unfold rndN
 by_cases hm : M = 9007199254740992
 ·simp only [if_pos hm]
  by_cases he : 971 < e + 1
  ·left; rw [if_pos he]; exact ⟨hm, he, rfl⟩
  ·right; left
   rw [if_neg he, if_neg (by decide)]
   exact ⟨hm, he, (e + 1 + 1075).toNat, by omega, by omega, by omega⟩
 ·simp only [if_neg hm]
  by_cases he : 971 < e
  ·right; right; left; rw [if_pos he]; exact ⟨hm, he, rfl⟩
  ·right; right; right
   rw [if_neg he]
   by_cases hb : M < 4503599627370496
   ·left; rw [if_pos hb]; exact ⟨hm, he, hb, rfl⟩
   ·right; rw [if_neg hb]
    exact ⟨hm, he, hb, (e + 1075).toNat, by omega, by omega, rfl⟩
def RdPost (P Q : Nat) (w : World) (e : Ending) (w' : World) : Prop := (∃ r : Nat, e = .returned (.int .u64 r) ∧ Near (2 * (P * 2 ^ 1074)) Q r) ∧ Below w.heap.size w w'
theorem round_zero (vp vq : Value) (Q : Nat) (w : World) (hp : IsNum w vp 0) (hQ : 0 < Q) :
  Calls Tryz.prog 205 #[vp, vq] w (RdPost 0 Q w) := by
 obtain ⟨l, h1, h2, h3⟩ := hp
 obtain rfl := (norm_zero l h3).1 h2
 obtain ⟨p, c, rfl⟩ := h1.form
 have HR : Hid (Near (2 * (0 * 2 ^ 1074)) Q 0) := Lib.hid (near_zero _ _ hQ (by omega))
 clear h1 h2 h3
 go_enter Tryz.func205, Tryz.ntmps205
 go_wp2_with fail
 go_ret
 exact ⟨⟨0, rfl, HR.out⟩, Below.refl _ _⟩
theorem num_ne (w : World) (v : Value) (P : Nat) (h : IsNum w v P) (h0 : 0 < P) : ∃ p n c, v = .slice p n c ∧ 0 < n := by
 obtain ⟨l, h1, h2, h3⟩ := h
 obtain ⟨p, c, rfl⟩ := h1.form
 refine ⟨p, l.length, c, rfl, ?_⟩
 rcases Nat.eq_zero_or_pos l.length with g | g
 ·exfalso
  obtain rfl := List.eq_nil_of_length_eq_zero g
  simp [leV] at h2; omega
 ·exact g
theorem e_bound (P Q K : Nat) (e : Int) (hP : P < 256 ^ K) (hQ : 0 < Q) (h : e = -1074 ∨ 2 ^ 52 * ysN Q e ≤ xsN P e) : e ≤ 8 * (K : Int) := by
 rcases h with h | h
 ·omega
 ·by_cases he : e < 0
  ·omega
  ·unfold xsN ysN at h
   rw [show (-e).toNat = 0 by omega, Nat.pow_zero, Nat.mul_one] at h
   have h1 : 2 ^ e.toNat ≤ P := Nat.le_trans (Nat.le_trans (Nat.le_mul_of_pos_left _ hQ) (Nat.le_mul_of_pos_left _ (by decide))) h
   have h2 : 2 ^ e.toNat < 2 ^ (8 * K) := by
    rw [Nat.pow_mul]; exact Nat.lt_of_le_of_lt h1 hP
   have := (Nat.pow_lt_pow_iff_right (by decide)).1 h2
   omega
theorem xs_bound (P K : Nat) (e : Int) (h1 : -1074 ≤ e) (hP : P < 256 ^ K) : xsN P e < 256 ^ (2 * K + 200) := by
 unfold xsN
 have h2 : 2 ^ (-e).toNat ≤ 256 ^ 200 := by
  rw [show (256 : Nat) = 2 ^ 8 from by decide, ← Nat.pow_mul]
  exact Nat.pow_le_pow_right (by decide) (by omega)
 have h3 : P * 2 ^ (-e).toNat < 256 ^ K * 256 ^ 200 := Nat.lt_of_lt_of_le ((Nat.mul_lt_mul_right (Nat.two_pow_pos _)).2 hP) (Nat.mul_le_mul_left _ h2)
 rw [← Nat.pow_add] at h3
 exact Nat.lt_of_lt_of_le h3 (Nat.pow_le_pow_right (by decide) (by omega))
theorem ys_bound (Q K : Nat) (e : Int) (h1 : e ≤ 8 * (K : Int)) (hQ : Q < 256 ^ K) : ysN Q e < 256 ^ (2 * K + 200) := by
 unfold ysN
 have h2 : 2 ^ e.toNat ≤ 256 ^ K := by
  rw [show (256 : Nat) = 2 ^ 8 from by decide, ← Nat.pow_mul]
  exact Nat.pow_le_pow_right (by decide) (by omega)
 have h3 : Q * 2 ^ e.toNat < 256 ^ K * 256 ^ K := Nat.lt_of_lt_of_le ((Nat.mul_lt_mul_right (Nat.two_pow_pos _)).2 hQ) (Nat.mul_le_mul_left _ h2)
 rw [← Nat.pow_add] at h3
 exact Nat.lt_of_lt_of_le h3 (Nat.pow_le_pow_right (by decide) (by omega))
theorem round_pos (vp vq : Value) (P Q K : Nat) (w : World) (hp : IsNum w vp P) (hq : IsNum w vq Q) (hP0 : 0 < P) (hQ : 0 < Q) (hK : K ≤ 5000) (hP : P < 256 ^ K) (hQK : Q < 256 ^ K) :
  Calls Tryz.prog 205 #[vp, vq] w (RdPost P Q w) := by
 have HBP : Hid (∀ W : World, Below w.heap.size w W → Calls Tryz.prog 227 #[vp] W fun e w' => (∃ n : Nat, e = .returned (.int .i64 n) ∧ BitsAre P n) ∧ w' = W) := Lib.hid fun W h => bits_any vp P K W (hp.go h) (by omega) hP
 have HBQ : Hid (∀ W : World, Below w.heap.size w W → Calls Tryz.prog 227 #[vq] W fun e w' => (∃ n : Nat, e = .returned (.int .i64 n) ∧ BitsAre Q n) ∧ w' = W) := Lib.hid fun W h => bits_any vq Q K W (hq.go h) (by omega) hQK
 have HSH : Hid (∀ (v : Value) (x n : Nat) (W : World), IsNum W v x → x < 256 ^ (2 * K + 200) → n ≤ 100000 → Calls Tryz.prog 168 #[v, .int .i64 n] W fun e w' => (∃ v', e = .returned v' ∧ IsNum w' v' (x * 2 ^ n)) ∧ Below W.heap.size W w') := Lib.hid fun v x n W h hx hn => shift_any v x n (2 * K + 200) W h (by omega) hx hn
 have HCM : Hid (∀ (va vb : Value) (x y : Nat) (W : World), IsNum W va x → IsNum W vb y → x < 256 ^ (2 * K + 300) → y < 256 ^ (2 * K + 300) → Calls Tryz.prog 169 #[va, vb] W fun e w' => e = .returned (.int .i64 (cmpN x y)) ∧ Below W.heap.size W w') := Lib.hid fun va vb x y W ha hb hx hy => cmp_any va vb x y (2 * K + 300) W ha hb (by omega) hx hy
 have HMI : Hid (∀ (va vb : Value) (x y : Nat) (W : World), IsNum W va x → IsNum W vb y → x < 256 ^ (2 * K + 300) → y ≤ x → Calls Tryz.prog 204 #[va, vb] W fun e w' => (∃ v', e = .returned v' ∧ IsNum w' v' (x - y)) ∧ Below W.heap.size W w') := Lib.hid fun va vb x y W ha hb hx hy => minus_any va vb x y (2 * K + 300) W ha hb (by omega) hx hy
 have HST : Hid (∀ bp bq e, BitsAre P bp → BitsAre Q bq → e = max ((bp : Int) - bq - 53) (-1074) → xsN P e < 2 ^ 54 * ysN Q e ∧ (e = -1074 ∨ 2 ^ 52 * ysN Q e ≤ xsN P e)) := Lib.hid fun bp bq e h1 h2 h3 => sc_start P Q bp bq e hP0 hQ h1 h2 h3
 have HEB : Hid (∀ e : Int, -1074 ≤ e → (e = -1074 ∨ 2 ^ 52 * ysN Q e ≤ xsN P e) → e ≤ 8 * (K : Int) ∧ xsN P e < 256 ^ (2 * K + 200) ∧ ysN Q e < 256 ^ (2 * K + 200)) := Lib.hid fun e h1 h => by
  have h3 := e_bound P Q K e hP hQ h
  exact ⟨h3, xs_bound P K e h1 hP, ys_bound Q K e h3 hQK⟩
 have HBL : Hid (∀ bp, BitsAre P bp → bp ≤ 8 * K) := Lib.hid fun bp h => by
  rcases Nat.eq_zero_or_pos bp with g | g
  ·omega
  ·have h1 := Nat.lt_of_le_of_lt (h.2 g) hP
   rw [show (256 : Nat) = 2 ^ 8 from by decide, ← Nat.pow_mul] at h1
   have := (Nat.pow_lt_pow_iff_right (by decide)).1 h1
   omega
 have HBL2 : Hid (∀ bp, BitsAre Q bp → bp ≤ 8 * K) := Lib.hid fun bp h => by
  rcases Nat.eq_zero_or_pos bp with g | g
  ·omega
  ·have h1 := Nat.lt_of_le_of_lt (h.2 g) hQK
   rw [show (256 : Nat) = 2 ^ 8 from by decide, ← Nat.pow_mul] at h1
   have := (Nat.pow_lt_pow_iff_right (by decide)).1 h1
   omega
 have HPB : Hid (P < 256 ^ (2 * K + 200)) := Lib.hid (Nat.lt_of_lt_of_le hP (Nat.pow_le_pow_right (by decide) (by omega)))
 have HQB : Hid (Q < 256 ^ (2 * K + 200)) := Lib.hid (Nat.lt_of_lt_of_le hQK (Nat.pow_le_pow_right (by decide) (by omega)))
 have HTB0 : Hid (∀ Y, Y < 256 ^ (2 * K + 200) → ∀ k, k ≤ 54 → Y * 2 ^ k < 256 ^ (2 * K + 300)) := Lib.hid fun Y hY k hk => by
  have h1 : 2 ^ k ≤ 256 ^ 7 := by
   have : 2 ^ k ≤ 2 ^ 56 := Nat.pow_le_pow_right (by decide) (by omega)
   exact this
  have h2 : Y * 2 ^ k < 256 ^ (2 * K + 200) * 256 ^ 7 := Nat.lt_of_lt_of_le ((Nat.mul_lt_mul_right (Nat.two_pow_pos k)).2 hY) (Nat.mul_le_mul_left _ h1)
  rw [← Nat.pow_add] at h2
  exact Nat.lt_of_lt_of_le h2 (Nat.pow_le_pow_right (by decide) (by omega))
 have HXB0 : Hid (∀ X, X < 256 ^ (2 * K + 200) → ∀ x, x ≤ 2 * X → x < 256 ^ (2 * K + 300)) := Lib.hid fun X hX x hx => by
  have h1 : 2 * 256 ^ (2 * K + 200) ≤ 256 ^ (2 * K + 300) := by
   have : 256 ^ (2 * K + 201) ≤ 256 ^ (2 * K + 300) := Nat.pow_le_pow_right (by decide) (by omega)
   rw [Nat.pow_succ] at this; omega
  omega
 generalize 256 ^ (2 * K + 200) = B1 at *
 generalize 256 ^ (2 * K + 300) = B2 at *
 obtain ⟨pp, np, cp, rfl, hnp⟩ := num_ne w vp P hp hP0
 obtain ⟨vp, hvp⟩ : ∃ v : Value, v = .slice pp np cp := ⟨_, rfl⟩
 have HPN := Lib.hid hp
 have HQN := Lib.hid hq
 have HQ := Lib.hid hQ
 have HPP := Lib.hid hP
 have HQP := Lib.hid hQK
 have HKK := Lib.hid hK
 clear hp hq hQ hP hQK hP0
 have hlen0 : ((np : Int) == 0) = false := by rw [beq_eq_false_iff_ne]; omega
 clear hvp vp
 go_enter Tryz.func205, Tryz.ntmps205
 go_wp2_with fail
 refine (HBP.out _ (Below.refl _ _)).mono ?_
 rintro e w1 ⟨⟨bp, rfl, hbp⟩, rfl⟩
 have hbp1 := HBL.out bp hbp
 have HB1 := Lib.hid hbp
 clear hbp
 go_wp2_with fail
 refine (HBQ.out _ (Below.refl _ _)).mono ?_
 rintro e w2 ⟨⟨bq, rfl, hbq⟩, rfl⟩
 have hbq1 := HBL2.out bq hbq
 have HB2 := Lib.hid hbq
 clear hbq
 obtain ⟨e0, he0⟩ : ∃ e0, max ((bp : Int) - bq - 53) (-1074) = e0 := ⟨_, rfl⟩
 have HS0 := Lib.hid (HST.out bp bq e0 HB1.out HB2.out he0.symm)
 have hge0 : -1074 ≤ e0 := by omega
 clear HBP HBQ HST HBL HBL2
 go_wp2_with fail
 clear he0 hbp1 hbq1 HB1 HB2
 go_loopg [5, 6, 7, 8, 9, 10, 11] 1 (fun g s5 _ _ _ _ _ _ wr => ∃ e : Int, g ≤ 1 ∧ s5 = .int .i64 e ∧ -1074 ≤ e ∧ xsN P e < 2 ^ (53 + g) * ysN Q e ∧ (e = -1074 ∨ 2 ^ 52 * ysN Q e ≤ xsN P e) ∧ Below w2.heap.size w2 wr)
 case atStart => exact ⟨e0, Nat.le_refl _, rfl, hge0, HS0.out.1, HS0.out.2, Below.refl _ _⟩
 case round =>
  clear HS0 hge0
  obtain ⟨e, hg1, rfl, hge, hup, hlo, hbw⟩ := hrel
  obtain ⟨heK, hxb, hyb⟩ := HEB.out e hge hlo
  have he5 : e ≤ 40000 := by have := HKK.out; omega
  have HBW := Lib.hid hbw
  have HXB := Lib.hid hxb
  have HYB := Lib.hid hyb
  have HUP := Lib.hid hup
  have HLO := Lib.hid hlo
  clear hbw hxb hyb hup hlo heK HEB
  obtain ⟨wo, hwo⟩ : ∃ x, x = wr := ⟨_, rfl⟩
  subst hwo
  obtain ⟨go, hgo⟩ : ∃ x, x = gk := ⟨_, rfl⟩
  subst hgo
  have HYP : Hid (0 < ysN Q e) := Lib.hid (ysN_pos HQ.out e)
  have HUP2 : Hid (xsN P e < 2 ^ 54 * ysN Q e) := Lib.hid (Nat.lt_of_lt_of_le HUP.out (Nat.mul_le_mul_right _ (Nat.pow_le_pow_right (by decide) (by omega))))
  have HUPN : Hid (go = 0 → xsN P e < 2 ^ 53 * ysN Q e) := Lib.hid (fun h => by have := HUP.out; rw [h] at this; exact this)
  have HNX : Hid (2 ^ 53 * ysN Q e ≤ xsN P e → xsN P (e + 1) < 2 ^ (53 + 0) * ysN Q (e + 1) ∧ (e + 1 = -1074 ∨ 2 ^ 52 * ysN Q (e + 1) ≤ xsN P (e + 1))) := Lib.hid (fun h => ⟨sc_up P Q 53 e HUP2.out, .inr (sc_lo P Q 52 e h)⟩)
  have HNR : Hid (xsN P e < 2 ^ 53 * ysN Q e → Near (2 * (P * 2 ^ 1074)) Q (rndN e (xsN P e / ysN Q e + upG (xsN P e) (ysN Q e)))) := Lib.hid (fun h => round_near P Q e HQ.out hge h HLO.out)
  clear HUP HLO
  go_upto_if 25 with (fail)
  go_cut [6, 7] from 22 to 89 (fun s6 s7 wx => ∃ vx vy : Value, s6 = vx ∧ s7 = vy ∧ IsNum wx vx (xsN P e) ∧ IsNum wx vy (ysN Q e) ∧ Below w2.heap.size w2 wx)
  case first =>
   by_cases hneg : e < 0
   ·obtain ⟨n, hn⟩ : ∃ n : Nat, -e = (n : Int) := ⟨(-e).toNat, by omega⟩
    have HSHP : Hid (∀ W : World, Below wo.heap.size wo W → Calls Tryz.prog 168 #[.slice pp np cp, .int .i64 n] W fun e' w' => (∃ v', e' = .returned v' ∧ IsNum w' v' (xsN P e)) ∧ Below W.heap.size W w') := Lib.hid fun W hW => by
     have := HSH.out (.slice pp np cp) P n W ((HPN.out.go HBW.out).go hW) HPB.out (by omega)
     unfold xsN
     rw [show (-e).toNat = n by omega]
     exact this
    have HY0 : Hid (IsNum wo vq (ysN Q e)) := Lib.hid (by
     have := HQN.out.go HBW.out
     unfold ysN
     rw [show e.toNat = 0 by omega, Nat.pow_zero, Nat.mul_one]
     exact this)
    go_wp2_with fail
    refine (HSHP.out _ (Below.refl _ _)).mono ?_
    rintro e5 w5 ⟨⟨vx, rfl, hvx⟩, hb5⟩
    have HX5 := Lib.hid hvx
    have HY5 := Lib.hid (HY0.out.go hb5)
    have HBW5 := Lib.hid (HBW.out.trans (hb5.mono HBW.out.size))
    clear hvx hb5 HY0 hn
    go_wp2_with fail
    go_meet
    exact ⟨_, _, rfl, rfl, HX5.out, HY5.out, HBW5.out⟩
   ·obtain ⟨n, hn⟩ : ∃ n : Nat, e = (n : Int) := ⟨e.toNat, by omega⟩
    have HSHP : Hid (∀ W : World, Below wo.heap.size wo W → Calls Tryz.prog 168 #[vq, .int .i64 e] W fun e' w' => (∃ v', e' = .returned v' ∧ IsNum w' v' (ysN Q e)) ∧ Below W.heap.size W w') := Lib.hid fun W hW => by
     have := HSH.out vq Q n W ((HQN.out.go HBW.out).go hW) HQB.out (by omega)
     unfold ysN
     rw [show e.toNat = n by omega, hn]
     exact this
    have HX0 : Hid (IsNum wo (.slice pp np cp) (xsN P e)) := Lib.hid (by
     have := HPN.out.go HBW.out
     unfold xsN
     rw [show (-e).toNat = 0 by omega, Nat.pow_zero, Nat.mul_one]
     exact this)
    clear hn
    go_wp2_with fail
    refine (HSHP.out _ (Below.refl _ _)).mono ?_
    rintro e5 w5 ⟨⟨vy, rfl, hvy⟩, hb5⟩
    have HY5 := Lib.hid hvy
    have HX5 := Lib.hid (HX0.out.go hb5)
    have HBW5 := Lib.hid (HBW.out.trans (hb5.mono HBW.out.size))
    clear hvy hb5 HX0
    go_wp2_with fail
    go_meet
    exact ⟨_, _, rfl, rfl, HX5.out, HY5.out, HBW5.out⟩
  case rest =>
   obtain ⟨vx, vy, rfl, rfl, hvx, hvy, hb5⟩ := hcut
   obtain ⟨w5, rfl⟩ : ∃ w5 : World, w5 = wc := ⟨_, rfl⟩
   have HX5 := Lib.hid hvx
   have HY5 := Lib.hid hvy
   have HBW5 := Lib.hid hb5
   clear hvx hvy hb5 HBW
   clear HPB HQB
   generalize xsN P e = X at *
   generalize ysN Q e = Y at *
   have HTB := Lib.hid (HTB0.out Y HYB.out)
   have HXB3 := Lib.hid (HXB0.out X HXB.out)
   clear HTB0 HXB0
   go_wp2_with fail
   go_loopg [6, 8, 9, 10] 55 (fun g s6 s8 s9 _ wr => ∃ (x m : Nat) (i : Int), g ≤ 55 ∧ i = (g : Int) - 1 ∧ s9 = .int .i64 i ∧ s8 = .int .u64 m ∧ x + m * (Y * 2 ^ g) = X ∧ x < Y * 2 ^ g ∧ IsNum wr s6 x ∧ Below w5.heap.size w5 wr)
   case atStart =>
    exact ⟨X, 0, 54, Nat.le_refl _, by omega, rfl, rfl, by rw [Nat.zero_mul, Nat.add_zero], by
     have h1 := HUP2.out
     have h2 : 2 ^ 54 * Y ≤ Y * 2 ^ 55 := by rw [Nat.mul_comm]; exact Nat.mul_le_mul_left _ (Nat.pow_le_pow_right (by decide) (by decide))
     omega, HX5.out, Below.refl _ _⟩
   case round =>
    obtain ⟨x, m, i, hg, hi, rfl, rfl, hsum, hlt, hnum, hb6⟩ := hrel
    have hm54 := div_lt x m Y X gk hsum HUP2.out
    have HSUM := Lib.hid hsum
    have HLT := Lib.hid hlt
    have HXN := Lib.hid hnum
    have HB6 := Lib.hid hb6
    clear hsum hlt hnum hb6
    by_cases h0 : gk = 0
    ·obtain ⟨hdiv, hmod⟩ := div_end x m Y X (by have := HSUM.out; rw [h0] at this; exact this) (by have := HLT.out; rw [h0] at this; exact this)
     obtain rfl : i = -1 := by omega
     clear hi hg h0
     by_cases hbig : 9007199254740992 ≤ m
     ·have hXY : 2 ^ 53 * Y ≤ X := by
       have h1 := (Nat.le_div_iff_mul_le HYP.out).1 (show 9007199254740992 ≤ X / Y by omega)
       exact h1
      have hgo : go = 1 := by
       have h1 := HUPN.out
       have : go ≠ 0 := fun h => by have := h1 h; omega
       omega
      have HNX2 := Lib.hid (HNX.out hXY)
      have hbi : (9007199254740992 : Int) ≤ (m : Int) := by omega
      have HB7 : Hid (Below w2.heap.size w2 wr) := Lib.hid (HBW5.out.trans (HB6.out.mono HBW5.out.size))
      clear hdiv hmod hXY hbig HUPN HNX HNR
      go_wp2_with fail
      go_roundg 0
      case measure => omega
      case rel => exact ⟨e + 1, by omega, by go_num, by omega, HNX2.out.1, HNX2.out.2, HB7.out⟩
     ·have hXY : X < 2 ^ 53 * Y := by
       have h1 := (Nat.div_lt_iff_lt_mul HYP.out).1 (show X / Y < 9007199254740992 by omega)
       exact h1
      have hnr := HNR.out hXY
      have hbi : ¬ (9007199254740992 : Int) ≤ (m : Int) := by omega
      have hup := up_cases x m Y X hdiv hmod
      have HB7 : Hid (Below w2.heap.size w2 wr) := Lib.hid (HBW5.out.trans (HB6.out.mono HBW5.out.size))
      have hxX : x ≤ X := by have := HSUM.out; omega
      have HSX : Hid (∀ W : World, Below wr.heap.size wr W → Calls Tryz.prog 168 #[u6, .int .i64 1] W fun e w' => (∃ v', e = .returned v' ∧ IsNum w' v' (x * 2)) ∧ Below W.heap.size W w') := Lib.hid fun W hW => HSH.out u6 x 1 W (HXN.out.go hW) (Nat.lt_of_le_of_lt hxX HXB.out) (by decide)
      have HCX : Hid (∀ (v : Value) (W : World), Below wr.heap.size wr W → IsNum W v (x * 2) → Calls Tryz.prog 169 #[v, u7] W fun e w' => e = .returned (.int .i64 (cmpN (x * 2) Y)) ∧ Below W.heap.size W w') := Lib.hid fun v W hW hv => HCM.out v u7 (x * 2) Y W hv ((HY5.out.go HB6.out).go hW) (HXB3.out _ (by omega)) (by have := HTB.out 0 (by omega); rwa [Nat.pow_zero, Nat.mul_one] at this)
      rw [hdiv] at hnr
      generalize cmpN (x * 2) Y = c at *
      generalize upG X Y = up at *
      have hmle : m < 9007199254740992 := by omega
      clear hdiv hmod hXY hbig HUPN HNX HNR hxX hm54 HSUM HLT HXN HSH HCM HMI HTB HXB3
      go_wp2_with fail
      refine (HSX.out _ (Below.refl _ _)).mono ?_
      rintro e6 w6 ⟨⟨v6, rfl, hv6⟩, hb6⟩
      have H6 := Lib.hid hv6
      have B6 := Lib.hid hb6
      clear hv6 hb6
      go_wp2_with fail
      refine (HCX.out _ _ B6.out H6.out).mono ?_
      rintro e7 w7 ⟨rfl, hb7⟩
      have B8 := Lib.hid (HB7.out.trans ((B6.out.trans (hb7.mono B6.out.size)).mono HB7.out.size))
      clear hb7 HSX HCX H6 B6 HB7 HB6 HY5 HX5 HBW5 HUP2 HXB HYB HYP
      rcases hup with ⟨rfl, rfl⟩ | ⟨rfl, hpar, rfl⟩ | ⟨rfl, hpar, rfl⟩ | ⟨rfl, rfl⟩
      ·obtain ⟨M, hM⟩ : ∃ M, m + 0 = M := ⟨_, rfl⟩
       rw [hM] at hnr
       have hrc := rnd_cases e M hge
       obtain rfl : m = M := by omega
       clear hM
       rcases hrc with ⟨hm1, he1, hres⟩ | ⟨hm1, he1, d, hd, hd2, hres⟩ | ⟨hm1, he1, hres⟩ | ⟨hm1, he1, hb1, hres⟩ | ⟨hm1, he1, hb1, d, hd, hd2, hres⟩
       ·omega
       ·omega
       ·rw [hres] at hnr
        have HNR := Lib.hid hnr
        clear hnr hres
        have hm2 : (((m : Nat) : Int) == 9007199254740992) = false := by rw [beq_eq_false_iff_ne]; omega
        have hm3 : ¬ ((m : Nat) : Int) = 9007199254740992 := by omega
        have HB1 := Lib.hid hmle
        clear hmle
        go_wp2_with fail
        go_ret
        exact ⟨⟨_, rfl, HNR.out⟩, B8.out⟩
       ·rw [hres] at hnr
        have HNR := Lib.hid hnr
        clear hnr hres
        have hm2 : (((m : Nat) : Int) == 9007199254740992) = false := by rw [beq_eq_false_iff_ne]; omega
        have hm3 : ¬ ((m : Nat) : Int) = 9007199254740992 := by omega
        have hq1 : decide (971 < e) = false := decide_eq_false he1
        have hbi2 : ((m : Nat) : Int) < 4503599627370496 := by omega
        have HB1 := Lib.hid hmle
        clear hmle hb1
        go_wp2_with fail
        go_ret
        exact ⟨⟨_, rfl, HNR.out⟩, B8.out⟩
       ·rw [hres] at hnr
        have HNR := Lib.hid hnr
        clear hnr hres
        have hm2 : (((m : Nat) : Int) == 9007199254740992) = false := by rw [beq_eq_false_iff_ne]; omega
        have hm3 : ¬ ((m : Nat) : Int) = 9007199254740992 := by omega
        have hq1 : decide (971 < e) = false := decide_eq_false he1
        have hq2 : decide (((m : Nat) : Int) < 4503599627370496) = false := decide_eq_false (by omega)
        have hbi2 : ¬ ((m : Nat) : Int) < 4503599627370496 := by omega
        obtain ⟨R, hR⟩ : ∃ R, m - 4503599627370496 + d * 4503599627370496 = R := ⟨_, rfl⟩
        rw [hR] at HNR
        have hRi : ((m : Nat) : Int) - 4503599627370496 + (d : Int) * 4503599627370496 = (R : Int) := by omega
        have HB1 := Lib.hid hmle
        clear hmle hb1
        go_wp2_with fail
        go_ret
        have hb1 : 4503599627370496 ≤ m := by omega
        exact ⟨⟨R, by first | rfl | (rw [← hRi]; rfl), HNR.out⟩, B8.out⟩
      ·obtain ⟨M, hM⟩ : ∃ M, m + 0 = M := ⟨_, rfl⟩
       rw [hM] at hnr
       have hpi : (m : Int).tmod 2 = 0 := by rw [Int.tmod_eq_emod_of_nonneg (by omega)]; omega
       have hpj : (m : Int) % 2 = 0 := by omega
       clear hpar
       have hrc := rnd_cases e M hge
       obtain rfl : m = M := by omega
       clear hM
       rcases hrc with ⟨hm1, he1, hres⟩ | ⟨hm1, he1, d, hd, hd2, hres⟩ | ⟨hm1, he1, hres⟩ | ⟨hm1, he1, hb1, hres⟩ | ⟨hm1, he1, hb1, d, hd, hd2, hres⟩
       ·omega
       ·omega
       ·rw [hres] at hnr
        have HNR := Lib.hid hnr
        clear hnr hres
        have hm2 : (((m : Nat) : Int) == 9007199254740992) = false := by rw [beq_eq_false_iff_ne]; omega
        have hm3 : ¬ ((m : Nat) : Int) = 9007199254740992 := by omega
        have HB1 := Lib.hid hmle
        clear hmle
        go_wp2_with fail
        go_ret
        exact ⟨⟨_, rfl, HNR.out⟩, B8.out⟩
       ·rw [hres] at hnr
        have HNR := Lib.hid hnr
        clear hnr hres
        have hm2 : (((m : Nat) : Int) == 9007199254740992) = false := by rw [beq_eq_false_iff_ne]; omega
        have hm3 : ¬ ((m : Nat) : Int) = 9007199254740992 := by omega
        have hq1 : decide (971 < e) = false := decide_eq_false he1
        have hbi2 : ((m : Nat) : Int) < 4503599627370496 := by omega
        have HB1 := Lib.hid hmle
        clear hmle hb1
        go_wp2_with fail
        go_ret
        exact ⟨⟨_, rfl, HNR.out⟩, B8.out⟩
       ·rw [hres] at hnr
        have HNR := Lib.hid hnr
        clear hnr hres
        have hm2 : (((m : Nat) : Int) == 9007199254740992) = false := by rw [beq_eq_false_iff_ne]; omega
        have hm3 : ¬ ((m : Nat) : Int) = 9007199254740992 := by omega
        have hq1 : decide (971 < e) = false := decide_eq_false he1
        have hq2 : decide (((m : Nat) : Int) < 4503599627370496) = false := decide_eq_false (by omega)
        have hbi2 : ¬ ((m : Nat) : Int) < 4503599627370496 := by omega
        obtain ⟨R, hR⟩ : ∃ R, m - 4503599627370496 + d * 4503599627370496 = R := ⟨_, rfl⟩
        rw [hR] at HNR
        have hRi : ((m : Nat) : Int) - 4503599627370496 + (d : Int) * 4503599627370496 = (R : Int) := by omega
        have HB1 := Lib.hid hmle
        clear hmle hb1
        go_wp2_with fail
        go_ret
        have hb1 : 4503599627370496 ≤ m := by omega
        exact ⟨⟨R, by first | rfl | (rw [← hRi]; rfl), HNR.out⟩, B8.out⟩
      ·obtain ⟨M, hM⟩ : ∃ M, m + 1 = M := ⟨_, rfl⟩
       rw [hM] at hnr
       have hpi : (m : Int).tmod 2 = 1 := by rw [Int.tmod_eq_emod_of_nonneg (by omega)]; omega
       have hpj : (m : Int) % 2 = 1 := by omega
       clear hpar
       have hrc := rnd_cases e M hge
       have hMi : (m : Int) + 1 = (M : Int) := by omega
       have hM1 : 1 ≤ M := by omega
       have hMle : M ≤ 9007199254740992 := by omega
       rcases hrc with ⟨hm1, he1, hres⟩ | ⟨hm1, he1, d, hd, hd2, hres⟩ | ⟨hm1, he1, hres⟩ | ⟨hm1, he1, hb1, hres⟩ | ⟨hm1, he1, hb1, d, hd, hd2, hres⟩
       ·rw [hres] at hnr
        have HNR := Lib.hid hnr
        clear hnr hres
        obtain rfl : m = 9007199254740991 := by omega
        subst hm1
        clear hM hMi hM1 hMle hmle
        go_wp2_with fail
        go_ret
        exact ⟨⟨_, rfl, HNR.out⟩, B8.out⟩
       ·rw [hres] at hnr
        have HNR := Lib.hid hnr
        clear hnr hres
        obtain rfl : m = 9007199254740991 := by omega
        subst hm1
        clear hM hMi hM1 hMle hmle
        go_wp2_with fail
        go_ret
        exact ⟨⟨_, rfl, HNR.out⟩, B8.out⟩
       ·rw [hres] at hnr
        have HNR := Lib.hid hnr
        clear hnr hres
        have HM := Lib.hid hM
        clear hM
        have hm2 : (((M : Nat) : Int) == 9007199254740992) = false := by rw [beq_eq_false_iff_ne]; omega
        have hm3 : ¬ ((M : Nat) : Int) = 9007199254740992 := by omega
        have HB1 := Lib.hid hmle
        clear hmle
        go_wp2_with fail
        go_ret
        exact ⟨⟨_, rfl, HNR.out⟩, B8.out⟩
       ·rw [hres] at hnr
        have HNR := Lib.hid hnr
        clear hnr hres
        have HM := Lib.hid hM
        clear hM
        have hm2 : (((M : Nat) : Int) == 9007199254740992) = false := by rw [beq_eq_false_iff_ne]; omega
        have hm3 : ¬ ((M : Nat) : Int) = 9007199254740992 := by omega
        have hq1 : decide (971 < e) = false := decide_eq_false he1
        have hbi2 : ((M : Nat) : Int) < 4503599627370496 := by omega
        have HB1 := Lib.hid hmle
        clear hmle hb1
        go_wp2_with fail
        go_ret
        exact ⟨⟨_, rfl, HNR.out⟩, B8.out⟩
       ·rw [hres] at hnr
        have HNR := Lib.hid hnr
        clear hnr hres
        have HM := Lib.hid hM
        clear hM
        have hm2 : (((M : Nat) : Int) == 9007199254740992) = false := by rw [beq_eq_false_iff_ne]; omega
        have hm3 : ¬ ((M : Nat) : Int) = 9007199254740992 := by omega
        have hq1 : decide (971 < e) = false := decide_eq_false he1
        have hq2 : decide (((M : Nat) : Int) < 4503599627370496) = false := decide_eq_false (by omega)
        have hbi2 : ¬ ((M : Nat) : Int) < 4503599627370496 := by omega
        obtain ⟨R, hR⟩ : ∃ R, M - 4503599627370496 + d * 4503599627370496 = R := ⟨_, rfl⟩
        rw [hR] at HNR
        have hRi : ((M : Nat) : Int) - 4503599627370496 + (d : Int) * 4503599627370496 = (R : Int) := by omega
        have HB1 := Lib.hid hmle
        clear hmle hb1
        go_wp2_with fail
        go_ret
        have hb1 : 4503599627370496 ≤ M := by omega
        exact ⟨⟨R, by first | rfl | (rw [← hRi]; rfl), HNR.out⟩, B8.out⟩
      ·obtain ⟨M, hM⟩ : ∃ M, m + 1 = M := ⟨_, rfl⟩
       rw [hM] at hnr
       have hrc := rnd_cases e M hge
       have hMi : (m : Int) + 1 = (M : Int) := by omega
       have hM1 : 1 ≤ M := by omega
       have hMle : M ≤ 9007199254740992 := by omega
       rcases hrc with ⟨hm1, he1, hres⟩ | ⟨hm1, he1, d, hd, hd2, hres⟩ | ⟨hm1, he1, hres⟩ | ⟨hm1, he1, hb1, hres⟩ | ⟨hm1, he1, hb1, d, hd, hd2, hres⟩
       ·rw [hres] at hnr
        have HNR := Lib.hid hnr
        clear hnr hres
        obtain rfl : m = 9007199254740991 := by omega
        subst hm1
        clear hM hMi hM1 hMle hmle
        go_wp2_with fail
        go_ret
        exact ⟨⟨_, rfl, HNR.out⟩, B8.out⟩
       ·rw [hres] at hnr
        have HNR := Lib.hid hnr
        clear hnr hres
        obtain rfl : m = 9007199254740991 := by omega
        subst hm1
        clear hM hMi hM1 hMle hmle
        go_wp2_with fail
        go_ret
        exact ⟨⟨_, rfl, HNR.out⟩, B8.out⟩
       ·rw [hres] at hnr
        have HNR := Lib.hid hnr
        clear hnr hres
        have HM := Lib.hid hM
        clear hM
        have hm2 : (((M : Nat) : Int) == 9007199254740992) = false := by rw [beq_eq_false_iff_ne]; omega
        have hm3 : ¬ ((M : Nat) : Int) = 9007199254740992 := by omega
        have HB1 := Lib.hid hmle
        clear hmle
        go_wp2_with fail
        go_ret
        exact ⟨⟨_, rfl, HNR.out⟩, B8.out⟩
       ·rw [hres] at hnr
        have HNR := Lib.hid hnr
        clear hnr hres
        have HM := Lib.hid hM
        clear hM
        have hm2 : (((M : Nat) : Int) == 9007199254740992) = false := by rw [beq_eq_false_iff_ne]; omega
        have hm3 : ¬ ((M : Nat) : Int) = 9007199254740992 := by omega
        have hq1 : decide (971 < e) = false := decide_eq_false he1
        have hbi2 : ((M : Nat) : Int) < 4503599627370496 := by omega
        have HB1 := Lib.hid hmle
        clear hmle hb1
        go_wp2_with fail
        go_ret
        exact ⟨⟨_, rfl, HNR.out⟩, B8.out⟩
       ·rw [hres] at hnr
        have HNR := Lib.hid hnr
        clear hnr hres
        have HM := Lib.hid hM
        clear hM
        have hm2 : (((M : Nat) : Int) == 9007199254740992) = false := by rw [beq_eq_false_iff_ne]; omega
        have hm3 : ¬ ((M : Nat) : Int) = 9007199254740992 := by omega
        have hq1 : decide (971 < e) = false := decide_eq_false he1
        have hq2 : decide (((M : Nat) : Int) < 4503599627370496) = false := decide_eq_false (by omega)
        have hbi2 : ¬ ((M : Nat) : Int) < 4503599627370496 := by omega
        obtain ⟨R, hR⟩ : ∃ R, M - 4503599627370496 + d * 4503599627370496 = R := ⟨_, rfl⟩
        rw [hR] at HNR
        have hRi : ((M : Nat) : Int) - 4503599627370496 + (d : Int) * 4503599627370496 = (R : Int) := by omega
        have HB1 := Lib.hid hmle
        clear hmle hb1
        go_wp2_with fail
        go_ret
        have hb1 : 4503599627370496 ≤ M := by omega
        exact ⟨⟨R, by first | rfl | (rw [← hRi]; rfl), HNR.out⟩, B8.out⟩
    ·obtain ⟨k, rfl⟩ : ∃ k, gk = k + 1 := ⟨gk - 1, by omega⟩
     obtain rfl : i = (k : Int) := by omega
     have hds := div_step x m Y X k HSUM.out HLT.out
     have hxX : x ≤ X := by have := HSUM.out; omega
     have HTK := Lib.hid (fun (W : World) (hW : Below wr.heap.size wr W) => HSH.out u7 Y k W ((HY5.out.go HB6.out).go hW) HYB.out (by omega))
     have HCX : Hid (∀ (v : Value) (W : World), Below wr.heap.size wr W → IsNum W v (Y * 2 ^ k) → Calls Tryz.prog 169 #[u6, v] W fun e w' => e = .returned (.int .i64 (cmpN x (Y * 2 ^ k))) ∧ Below W.heap.size W w') := Lib.hid fun v W hW hv => HCM.out u6 v x (Y * 2 ^ k) W (HXN.out.go hW) hv (HXB3.out _ (by omega)) (HTB.out k (by omega))
     have HMX : Hid (∀ (v : Value) (W : World), Below wr.heap.size wr W → IsNum W v (Y * 2 ^ k) → Y * 2 ^ k ≤ x → Calls Tryz.prog 204 #[u6, v] W fun e w' => (∃ v', e = .returned v' ∧ IsNum w' v' (x - Y * 2 ^ k)) ∧ Below W.heap.size W w') := Lib.hid fun v W hW hv hle => HMI.out u6 v x (Y * 2 ^ k) W (HXN.out.go hW) hv (HXB3.out _ (by omega)) hle
     have HDS := Lib.hid hds
     have hki : (0 : Int) ≤ (k : Int) := by omega
     obtain ⟨T, hT⟩ : ∃ T, Y * 2 ^ k = T := ⟨_, rfl⟩
     rw [hT] at HTK HCX HMX HDS
     have HTE := Lib.hid hT
     clear hds hi hxX hT
     by_cases hxt : x < T
     ·have hc : cmpN x T = -1 := by unfold cmpN; rw [if_pos hxt]
      rw [hc] at HCX
      have HD1 := Lib.hid (HDS.out.1 hxt)
      have HXT := Lib.hid hxt
      clear hc hxt
      go_wp2_with fail
      refine (HTK.out _ (Below.refl _ _)).mono ?_
      rintro e6 w6 ⟨⟨v6, rfl, hv6⟩, hb6⟩
      have H6 := Lib.hid hv6
      have B6 := Lib.hid hb6
      clear hv6 hb6
      go_wp2_with fail
      refine (HCX.out _ _ B6.out H6.out).mono ?_
      rintro e7 w7 ⟨rfl, hb7⟩
      have B7 := Lib.hid (B6.out.trans (hb7.mono B6.out.size))
      clear hb7
      go_wp2_with fail
      go_roundg k
      case measure => omega
      case rel => exact ⟨x, m * 2, _, by omega, rfl, by go_num, by go_num, by rw [HTE.out]; exact HD1.out, by rw [HTE.out]; exact HXT.out, HXN.out.go B7.out, HB6.out.trans (B7.out.mono HB6.out.size)⟩
     ·have hle : T ≤ x := by omega
      have hc : 0 ≤ cmpN x T := by unfold cmpN; rw [if_neg hxt]; split <;> omega
      have hc2 : -1 ≤ cmpN x T ∧ cmpN x T ≤ 1 := by unfold cmpN; rw [if_neg hxt]; split <;> omega
      generalize cmpN x T = c at *
      have HD1 := Lib.hid (HDS.out.2 hle)
      have HLE := Lib.hid hle
      clear hxt hle
      go_wp2_with fail
      refine (HTK.out _ (Below.refl _ _)).mono ?_
      rintro e6 w6 ⟨⟨v6, rfl, hv6⟩, hb6⟩
      have H6 := Lib.hid hv6
      have B6 := Lib.hid hb6
      clear hv6 hb6
      go_wp2_with fail
      refine (HCX.out _ _ B6.out H6.out).mono ?_
      rintro e7 w7 ⟨rfl, hb7⟩
      have H7 := Lib.hid (H6.out.go hb7)
      have B7 := Lib.hid (B6.out.trans (hb7.mono B6.out.size))
      clear hb7
      go_wp2_with fail
      refine (HMX.out _ _ B7.out H7.out HLE.out).mono ?_
      rintro e8 w8 ⟨⟨v8, rfl, hv8⟩, hb8⟩
      have H8 := Lib.hid hv8
      have B8 := Lib.hid (B7.out.trans (hb8.mono B7.out.size))
      clear hv8 hb8
      go_wp2_with fail
      go_roundg k
      case measure => omega
      case rel => exact ⟨x - T, m * 2 + 1, _, by omega, rfl, by go_num, by go_num, by rw [HTE.out]; exact HD1.out.1, by rw [HTE.out]; exact HD1.out.2, H8.out, HB6.out.trans (B8.out.mono HB6.out.size)⟩
end Go.Proofs.YtckaoeloofbklaaGreatDoor
namespace Go.Proofs.YtckaoeloofbklaaGreatDoor
open Go Go.RowKit Go.Sort Go.Lib
set_option exponentiation.threshold 3000
theorem rround_any (vp vq : Value) (P Q K : Nat) (w : World) (hp : IsNum w vp P) (hq : IsNum w vq Q) (hQ : 0 < Q) (hK : K ≤ 5000) (hP : P < 256 ^ K) (hQK : Q < 256 ^ K) :
  Calls Tryz.prog 205 #[vp, vq] w (RdPost P Q w) := by
 rcases Nat.eq_zero_or_pos P with h | h
 ·subst h
  exact round_zero vp vq Q w hp hQ
 ·exact round_pos vp vq P Q K w hp hq h hQ hK hP hQK
theorem one_num (W : World) : IsNum (W.alloc (.cells #[.int .u8 1] 5)) (.slice (some ⟨W.heap.size, 0, Option.none⟩) 1 1) 1 := by
 refine ⟨[1], .inr ⟨W.heap.size, 0, 1, rfl, Nat.le_refl _, by simp, fun j x hx => ?_⟩, by decide, by unfold NormB; decide⟩
 match j with
 | 0 =>
  simp at hx
  subst hx
  simp [go_sem]
 | j + 1 => simp at hx
end Go.Proofs.YtckaoeloofbklaaGreatDoor
namespace Go.Proofs.YtckaoeloofbklaaGreatDoor
open Go Go.RowKit Go.Lib
set_option exponentiation.threshold 3000
theorem nearB_of {X Q r : Nat} (h : Near X Q r) : nearB X Q r = true := by
 simp only [nearB, Bool.and_eq_true, Bool.or_eq_true, decide_eq_true_eq]
 refine ⟨⟨⟨h.pos, h.inf⟩, ?_⟩, ?_⟩
 ·rcases h.lo with g | ⟨g, g'⟩
  ·exact .inl g
  ·refine .inr ⟨g, ?_⟩
   by_cases ho : r % 2 = 1
   ·exact .inr (g' ho)
   ·exact .inl ho
 ·rcases h.hi with g | ⟨g, g'⟩
  ·exact .inl g
  ·refine .inr ⟨g, ?_⟩
   by_cases ho : r % 2 = 1
   ·exact .inr (g' ho)
   ·exact .inl ho
theorem nearB_iff {X Q r : Nat} : nearB X Q r = true ↔ Near X Q r := ⟨nearB_is, nearB_of⟩
def InJ (a : Nat) (j : Int) (d : Nat) : Prop := Near (dX d (-j)) (dQ (-j)) a
def inB (a : Nat) (j : Int) (d : Nat) : Bool := nearB (dX d (-j)) (dQ (-j)) a
theorem inB_iff {a d : Nat} {j : Int} : inB a j d = true ↔ InJ a j d := nearB_iff
def flJ (a : Nat) (j : Int) : Nat := NU a j / DE j
def upJ (a : Nat) (j : Int) : Nat := upG (NU a j) (DE j)
def candJ (a : Nat) (j : Int) : Prop := InJ a j (flJ a j) ∨ InJ a j (flJ a j + 1)
def resJ (a : Nat) (j : Int) : Nat := if inB a j (flJ a j) && (decide (upJ a j = 0) || !inB a j (flJ a j + 1)) then flJ a j else flJ a j + 1
def SameV (d : Nat) (q : Int) (d' : Nat) (q' : Int) : Prop := ∃ k : Nat, (d = d' * 10 ^ k ∧ q' = q + k) ∨ (d' = d * 10 ^ k ∧ q = q' + k)
structure ShOk (a : Nat) (p : Int) (dmin dmax u : Nat) : Prop where
 form : shN a = pick3 dmin dmax u p
 isin : ∀ d, InJ a p d ↔ dmin ≤ d ∧ d ≤ dmax
 le : dmin ≤ dmax
 one : 1 ≤ dmin
 wide : dmax ≤ dmin + 9
 big : DE p ≤ NU a p
 mid : dmin < dmax → u = flJ a p + upJ a p ∧ dmin ≤ u ∧ u ≤ dmax
 top : dmin ≤ dmax / 10 * 10 → 10 * DE p ≤ NU a p ∨ (u = dmax / 10 * 10 ∧ dmin < dmax)
 small : flJ a p < 1152921504606846976
def trP (a : Nat) : Int := ppN (skewB (MN a) (EN a)) (EN a)
def trO (a : Nat) : Nat := if skewB (MN a) (EN a) then 0 else MN a / 2 ^ zN (EN a) % 2
def trMin (a : Nat) : Nat := (usN (trP a) (EN a) (if skewB (MN a) (EN a) then MN a - 512 else MN a - 2 ^ (zN (EN a) - 1)) + trO a + 3) / 4
def trMax (a : Nat) : Nat := (usN (trP a) (EN a) (MN a + 2 ^ (zN (EN a) - 1)) - trO a) / 4
def trU (a : Nat) : Nat := (usN (trP a) (EN a) (MN a) + 1 + usN (trP a) (EN a) (MN a) / 4 % 2) / 4
theorem tr_form (a : Nat) : shN a = pick3 (trMin a) (trMax a) (trU a) (trP a) := rfl
def okQ (a : Nat) (p : Int) (dmin dmax u : Nat) : Bool :=
 inB a p dmin && inB a p dmax && !inB a p (dmin - 1) && !inB a p (dmax + 1) && decide (dmin ≤ dmax) && decide (1 ≤ dmin) && decide (dmax ≤ dmin + 9) && decide (DE p ≤ NU a p) &&
  (!decide (dmin < dmax) || (decide (u = flJ a p + upJ a p) && decide (dmin ≤ u) && decide (u ≤ dmax))) &&
  (!decide (dmin ≤ dmax / 10 * 10) || (decide (10 * DE p ≤ NU a p) || (decide (u = dmax / 10 * 10) && decide (dmin < dmax)))) && decide (flJ a p < 1152921504606846976)
def okS (a : Nat) : Bool := okQ a (trP a) (trMin a) (trMax a) (trU a)
theorem okS_is (a : Nat) (h : okS a = true) : ShOk a (trP a) (trMin a) (trMax a) (trU a) := by
 unfold okS at h
 generalize hp : trP a = p at *
 generalize h1 : trMin a = dmin at *
 generalize h2 : trMax a = dmax at *
 generalize h3 : trU a = u at *
 have hf : shN a = pick3 dmin dmax u p := by rw [tr_form, hp, h1, h2, h3]
 clear hp h1 h2 h3
 simp only [okQ, Bool.and_eq_true, Bool.or_eq_true, Bool.not_eq_true', decide_eq_true_eq, decide_eq_false_iff_not, inB_iff] at h
 obtain ⟨⟨⟨⟨⟨⟨⟨⟨⟨⟨g1, g2⟩, g3⟩, g4⟩, g5⟩, g6⟩, g7⟩, g8⟩, g9⟩, g10⟩, g11⟩ := h
 have n3 : ¬ InJ a p (dmin - 1) := fun hh => by rw [inB_iff.2 hh] at g3; cases g3
 have n4 : ¬ InJ a p (dmax + 1) := fun hh => by rw [inB_iff.2 hh] at g4; cases g4
 refine ⟨hf, fun d => ⟨fun hd => ⟨?_, ?_⟩, fun hd => near_between g1 g2 (dX_mono _ hd.1) (dX_mono _ hd.2)⟩, g5, g6, g7, g8, fun hh => ?_, fun hh => ?_, g11⟩
 ·rcases Nat.lt_or_ge d dmin with g | g
  ·exact absurd (near_between hd g1 (dX_mono _ (show d ≤ dmin - 1 by omega)) (dX_mono _ (show dmin - 1 ≤ dmin by omega))) n3
  ·exact g
 ·rcases Nat.lt_or_ge dmax d with g | g
  ·exact absurd (near_between g2 hd (dX_mono _ (show dmax ≤ dmax + 1 by omega)) (dX_mono _ (show dmax + 1 ≤ d by omega))) n4
  ·exact g
 ·rcases g9 with g | g
  ·exact absurd hh g
  ·exact ⟨g.1.1, g.1.2, g.2⟩
 ·rcases g10 with g | g
  ·exact absurd hh g
  ·exact g
def lowP (f : Nat → Bool) : Nat → Nat → Bool
 | 0, _ => true
 | n + 1, a => f a && lowP f n (2 * a)
def highP (f : Nat → Bool) : Nat → Nat → Bool
 | 0, _ => true
 | n + 1, a => f a && highP f n (a + 4503599627370496)
theorem lowP_get (f : Nat → Bool) : ∀ (n a : Nat), lowP f n a = true → ∀ i, i < n → f (a * 2 ^ i) = true
 | 0, _, _, i, h => by omega
 | n + 1, a, h, 0, _ => by
  simp only [lowP, Bool.and_eq_true] at h
  simpa using h.1
 | n + 1, a, h, i + 1, hi => by
  simp only [lowP, Bool.and_eq_true] at h
  have := lowP_get f n (2 * a) h.2 i (by omega)
  rwa [show 2 * a * 2 ^ i = a * 2 ^ (i + 1) from by rw [Nat.pow_succ]; ac_rfl] at this
theorem highP_get (f : Nat → Bool) : ∀ (n a : Nat), highP f n a = true → ∀ i, i < n → f (a + i * 4503599627370496) = true
 | 0, _, _, i, h => by omega
 | n + 1, a, h, 0, _ => by
  simp only [highP, Bool.and_eq_true] at h
  simpa using h.1
 | n + 1, a, h, i + 1, hi => by
  simp only [highP, Bool.and_eq_true] at h
  have := highP_get f n (a + 4503599627370496) h.2 i (by omega)
  rwa [show a + 4503599627370496 + i * 4503599627370496 = a + (i + 1) * 4503599627370496 from by rw [Nat.add_mul, Nat.one_mul]; omega] at this
theorem lowS : lowP okS 52 1 = true := by decide +kernel
theorem highS : highP okS 2046 4503599627370496 = true := by decide +kernel
theorem ok_any (a : Nat) (h1 : 0 < a) (h2 : a < 9218868437227405312) : ∃ p dmin dmax u, ShOk a p dmin dmax u := by
 by_cases hm : MN a = 9223372036854775808
 ·rcases pow_rung a h1 h2 hm with ⟨i, hi, rfl⟩ | ⟨i, hi, rfl⟩
  ·exact ⟨_, _, _, _, okS_is _ (lowP_get okS _ _ lowS i hi)⟩
  ·exact ⟨_, _, _, _, okS_is _ (highP_get okS _ _ highS i hi)⟩
 ·obtain ⟨p, dmin, dmax, u, hs⟩ := sh_is a h1 h2 hm
  have ht := hs.top
  exact ⟨p, dmin, dmax, u, hs.form, hs.isin, Nat.le_trans hs.lo hs.hi, hs.one, hs.wide, by omega, fun _ => ⟨hs.mid, hs.lo, hs.hi⟩, fun _ => .inl ht, hs.small⟩
theorem lev_eq (a : Nat) (j : Int) (k : Nat) : NU a (j + k) * DE j = NU a j * 10 ^ k * DE (j + k) := by
 unfold NU DE
 have h : 10 ^ (j + k).toNat * 10 ^ (-j).toNat = 10 ^ j.toNat * 10 ^ k * 10 ^ (-(j + k)).toNat := by
  rw [← Nat.pow_add, ← Nat.pow_add, ← Nat.pow_add]
  congr 1
  omega
 generalize 10 ^ (j + k).toNat = t1 at *
 generalize 10 ^ (-j).toNat = t2 at *
 generalize 10 ^ j.toNat = t3 at *
 generalize 10 ^ k = t4 at *
 generalize 10 ^ (-(j + k)).toNat = t5 at *
 generalize 2 ^ 1074 = W
 have e1 : V a * t1 * (W * t2) = V a * W * (t1 * t2) := by ac_rfl
 have e2 : V a * t3 * t4 * (W * t5) = V a * W * (t3 * t4 * t5) := by ac_rfl
 rw [e1, e2, h]
theorem lev_le (a y : Nat) (j : Int) (k : Nat) : y * DE j ≤ NU a j ↔ y * 10 ^ k * DE (j + k) ≤ NU a (j + k) := by
 have e := lev_eq a j k
 have hD := DE_pos j
 have hT : 0 < 10 ^ k * DE (j + k) := Nat.mul_pos (Nat.pow_pos (by decide)) (DE_pos _)
 generalize DE (j + k) = E at *
 generalize 10 ^ k = T at *
 generalize DE j = D at *
 generalize NU a (j + k) = n1 at *
 generalize NU a j = n0 at *
 have e1 : y * T * E * D = y * D * (T * E) := by ac_rfl
 have e2 : n1 * D = n0 * (T * E) := by rw [e]; ac_rfl
 constructor
 ·intro h
  refine Nat.le_of_mul_le_mul_right ?_ hD
  rw [e1, e2]
  exact Nat.mul_le_mul_right _ h
 ·intro h
  refine Nat.le_of_mul_le_mul_right ?_ hT
  rw [← e1, ← e2]
  exact Nat.mul_le_mul_right _ h
theorem fl_ge (a y : Nat) (j : Int) : y ≤ flJ a j ↔ y * DE j ≤ NU a j := Nat.le_div_iff_mul_le (DE_pos j)
theorem fl_mono (a : Nat) (j : Int) (k : Nat) : flJ a j ≤ flJ a (j + k) := by
 rw [fl_ge]
 have h := (lev_le a (flJ a j) j k).1 ((fl_ge a _ j).1 (Nat.le_refl _))
 exact Nat.le_trans (Nat.mul_le_mul_right _ (Nat.le_mul_of_pos_right _ (Nat.pow_pos (by decide)))) h
theorem in_up (a d : Nat) (j : Int) (k : Nat) (h : InJ a j d) : InJ a (j + k) (d * 10 ^ k) := by
 refine near_down d k a (-(j + k)) ?_
 rw [show -(j + k) + (k : Int) = -j from by omega]
 exact h
theorem in_down (a d : Nat) (j : Int) (k : Nat) (h : InJ a (j + k) (d * 10 ^ k)) : InJ a j d := by
 have := near_up d k a (-(j + k)) h
 rwa [show -(j + k) + (k : Int) = -j from by omega] at this
theorem v_near (a : Nat) (h : a ≤ INF) (j : Int) : Near (2 * V a * dQ (-j)) (dQ (-j)) a := near_ratio (near_self a h) (dQ_pos _) (by rw [Nat.mul_one])
theorem dX_v (d a : Nat) (j : Int) : dX d (-j) = 2 * (d * DE j) ∧ 2 * V a * dQ (-j) = 2 * NU a j := by
 unfold dX dQ DE NU
 rw [Int.neg_neg]
 constructor <;> ac_rfl
theorem in_fl (a d : Nat) (j : Int) (ha : a ≤ INF) (h : InJ a j d) : (d ≤ flJ a j → InJ a j (flJ a j)) ∧ (flJ a j + 1 ≤ d → InJ a j (flJ a j + 1)) := by
 have hv := v_near a ha j
 constructor
 ·intro hd
  refine near_between h hv (dX_mono _ hd) ?_
  rw [(dX_v _ a j).1, (dX_v 0 a j).2]
  exact Nat.mul_le_mul_left 2 ((fl_ge a _ j).1 (Nat.le_refl _))
 ·intro hd
  refine near_between hv h ?_ (dX_mono _ hd)
  rw [(dX_v _ a j).1, (dX_v 0 a j).2]
  refine Nat.mul_le_mul_left 2 (Nat.le_of_lt (Nat.lt_of_not_le fun hh => ?_))
  have := (fl_ge a _ j).2 hh
  omega
theorem cand_of (a d : Nat) (j : Int) (ha : a ≤ INF) (h : InJ a j d) : candJ a j := by
 obtain ⟨h1, h2⟩ := in_fl a d j ha h
 rcases Nat.lt_or_ge (flJ a j) d with g | g
 ·exact .inr (h2 g)
 ·exact .inl (h1 g)
theorem res_one (a d : Nat) (j : Int) (hc : candJ a j) (hu : ∀ x, InJ a j x → x = d) : resJ a j = d := by
 unfold resJ
 by_cases h1 : InJ a j (flJ a j)
 ·have h2 : ¬ InJ a j (flJ a j + 1) := fun h => by
   have e1 := hu _ h1
   have e2 := hu _ h
   omega
  have h3 : inB a j (flJ a j + 1) = false := by
   cases hb : inB a j (flJ a j + 1)
   ·rfl
   ·exact absurd (inB_iff.1 hb) h2
  rw [inB_iff.2 h1, h3]
  simp [hu _ h1]
 ·have h3 : inB a j (flJ a j) = false := by
   cases hb : inB a j (flJ a j)
   ·rfl
   ·exact absurd (inB_iff.1 hb) h1
  rw [h3]
  have h2 := hc.resolve_left h1
  simp [hu _ h2]
theorem up_two (n G : Nat) : upG n G = 0 ∨ upG n G = 1 := by
 unfold upG
 split
 ·exact .inl rfl
 ·split
  ·exact Nat.mod_two_eq_zero_or_one _
  ·exact .inr rfl
theorem res_mid (a u : Nat) (j : Int) (hu : u = flJ a j + upJ a j) (hi : InJ a j u) : resJ a j = u := by
 unfold resJ
 rcases up_two (NU a j) (DE j) with h | h
 ·have h0 : upJ a j = 0 := h
  rw [h0, Nat.add_zero] at hu
  rw [hu] at hi
  rw [inB_iff.2 hi, h0, hu]
  simp
 ·have h0 : upJ a j = 1 := h
  rw [h0] at hu
  rw [hu] at hi
  rw [inB_iff.2 hi, h0, hu]
  simp
theorem ref_any (a : Nat) (h1 : 0 < a) (h2 : a < 9218868437227405312) (x : Int) (hx1 : DE (-x) ≤ NU a (-x)) (hx2 : NU a (-(x + 1)) < DE (-(x + 1))) :
  ∃ n0 : Nat, 1 ≤ n0 ∧ n0 ≤ 19 ∧ candJ a ((n0 : Int) - 1 - x) ∧ (∀ n : Nat, 1 ≤ n → n ≤ n0 → flJ a ((n : Int) - 1 - x) < 1152921504606846976) ∧
   ∀ n : Nat, 1 ≤ n → candJ a ((n : Int) - 1 - x) → (∀ k : Nat, 1 ≤ k → k < n → ¬ candJ a ((k : Int) - 1 - x)) → SameV (resJ a ((n : Int) - 1 - x)) (x - n + 1) (shN a).1 (shN a).2 := by
 obtain ⟨p, dmin, dmax, u, hs⟩ := ok_any a h1 h2
 have hinf : a ≤ INF := by unfold INF; omega
 have s1 := hs.one
 have s2 := hs.wide
 have s3 := hs.le
 have hform := hs.form
 have hfar : ∀ (j : Int), DE j ≤ NU a j → -x ≤ j := fun j hj => by
  rcases (show j < -x ∨ -x ≤ j by omega) with g | g
  ·exfalso
   obtain ⟨k, hk⟩ : ∃ k : Nat, -(x + 1) = j + k := ⟨(-(x + 1) - j).toNat, by omega⟩
   have g2 := (lev_le a 1 j k).1 (by rwa [Nat.one_mul])
   rw [← hk] at g2
   have g3 : DE (-(x + 1)) ≤ 1 * 10 ^ k * DE (-(x + 1)) := Nat.le_mul_of_pos_left _ (Nat.mul_pos (by decide) (Nat.pow_pos (by decide)))
   omega
  ·exact g
 have hp := hfar p hs.big
 obtain ⟨np, hnp⟩ : ∃ np : Nat, p = (np : Int) - 1 - x := ⟨(p + 1 + x).toNat, by omega⟩
 have hnp1 : 1 ≤ np := by omega
 have hten : ∀ n : Nat, 1 ≤ n → 10 ^ (n - 1) ≤ flJ a ((n : Int) - 1 - x) := fun n hn => by
  rw [fl_ge]
  have g := (lev_le a 1 (-x) (n - 1)).1 (by rwa [Nat.one_mul])
  rwa [Nat.one_mul, show -x + ((n - 1 : Nat) : Int) = (n : Int) - 1 - x from by omega] at g
 have hflb : ∀ n : Nat, 1 ≤ n → n ≤ np → flJ a ((n : Int) - 1 - x) < 1152921504606846976 := fun n hn1 hn2 => by
  have g := fl_mono a ((n : Int) - 1 - x) (np - n)
  rw [show (n : Int) - 1 - x + ((np - n : Nat) : Int) = p from by omega] at g
  exact Nat.lt_of_le_of_lt g hs.small
 have hnp19 : np ≤ 19 := by
  have g1 := hten np hnp1
  have g2 := hflb np hnp1 (Nat.le_refl _)
  rcases Nat.lt_or_ge 19 np with g | g
  ·exfalso
   have g3 : 10 ^ 19 ≤ 10 ^ (np - 1) := Nat.pow_le_pow_right (by decide) (by omega)
   have g4 := Nat.le_trans g3 g1
   omega
  ·exact g
 by_cases hA : dmin ≤ dmax / 10 * 10
 ·obtain ⟨c, hc⟩ : ∃ c, dmax / 10 = c := ⟨_, rfl⟩
  have hsh : shN a = (c, -(p - 1)) := by rw [hform]; unfold pick3; rw [if_pos hA, hc]
  have hc10 : InJ a p (c * 10) := (hs.isin _).2 (by omega)
  have huniq : ∀ (k d : Nat), InJ a (p - 1 - k) d → d * 10 ^ k = c := fun k d hd => by
   have g := in_up a d _ (k + 1) hd
   rw [show p - 1 - (k : Int) + ((k + 1 : Nat) : Int) = p from by omega, Nat.pow_succ, ← Nat.mul_assoc] at g
   have g2 := (hs.isin _).1 g
   omega
  have hone : ∀ (k d d' : Nat), InJ a (p - 1 - k) d → InJ a (p - 1 - k) d' → d = d' := fun k d d' g1 g2 => by
   have e1 := huniq k d g1
   have e2 := huniq k d' g2
   exact Nat.eq_of_mul_eq_mul_right (Nat.pow_pos (n := k) (show 0 < 10 by decide)) (by rw [e1, e2])
  rw [hsh]
  by_cases hbig : 10 * DE p ≤ NU a p
  ·have hp1 : -x ≤ p - 1 := by
    refine hfar _ ?_
    have g := (lev_le a 1 (p - 1) 1).2 (by rw [show p - 1 + ((1 : Nat) : Int) = p from by omega]; simpa using hbig)
    rwa [Nat.one_mul] at g
   have hcand : candJ a (p - 1) := cand_of a c _ hinf (in_down a c (p - 1) 1 (by rw [show p - 1 + ((1 : Nat) : Int) = p from by omega, Nat.pow_one]; exact hc10))
   refine ⟨np - 1, by omega, by omega, ?_, fun n g1 g2 => hflb n g1 (by omega), fun n hn1 hn2 hn3 => ?_⟩
   ·rw [show ((np - 1 : Nat) : Int) - 1 - x = p - 1 from by omega]
    exact hcand
   ·have hle : n ≤ np - 1 := by
     rcases Nat.lt_or_ge (np - 1) n with g | g
     ·exfalso
      refine hn3 (np - 1) (by omega) g ?_
      rw [show ((np - 1 : Nat) : Int) - 1 - x = p - 1 from by omega]
      exact hcand
     ·exact g
    obtain ⟨k, hk⟩ : ∃ k : Nat, (n : Int) - 1 - x = p - 1 - k := ⟨np - 1 - n, by omega⟩
    rw [hk] at hn2 ⊢
    rcases hn2 with g | g
    ·have e := res_one a _ _ (.inl g) (fun y hy => hone k y _ hy g)
     rw [e]
     exact ⟨k, .inr ⟨(huniq k _ g).symm, by omega⟩⟩
    ·have e := res_one a _ _ (.inr g) (fun y hy => hone k y _ hy g)
     rw [e]
     exact ⟨k, .inr ⟨(huniq k _ g).symm, by omega⟩⟩
  ·obtain ⟨t1, t2⟩ := (hs.top hA).resolve_left hbig
   have hpx : p = -x := by
    rcases (show -x < p ∨ p ≤ -x by omega) with g | g
    ·exfalso
     obtain ⟨k, hk⟩ : ∃ k : Nat, p = -x + ((k + 1 : Nat) : Int) := ⟨(p + x - 1).toNat, by omega⟩
     have g2 := (lev_le a 1 (-x) (k + 1)).1 (by rwa [Nat.one_mul])
     rw [← hk, Nat.one_mul, Nat.pow_succ] at g2
     have g3 : 10 * DE p ≤ 10 ^ k * 10 * DE p := Nat.mul_le_mul_right _ (Nat.le_mul_of_pos_left _ (Nat.pow_pos (by decide)))
     omega
    ·omega
   obtain ⟨m1, m2, m3⟩ := hs.mid t2
   have hu : InJ a p u := (hs.isin u).2 ⟨m2, m3⟩
   have hcand : candJ a p := cand_of a u p hinf hu
   have hl : ((1 : Nat) : Int) - 1 - x = p := by omega
   refine ⟨1, Nat.le_refl _, by omega, by rw [hl]; exact hcand, fun n g1 g2 => hflb n g1 (by omega), fun n hn1 hn2 hn3 => ?_⟩
   obtain rfl : n = 1 := by
    rcases Nat.lt_or_ge 1 n with g | g
    ·exact absurd (by rw [hl]; exact hcand) (hn3 1 (Nat.le_refl _) g)
    ·omega
   rw [hl, res_mid a u p m1 hu]
   exact ⟨1, .inl ⟨by rw [t1, hc, Nat.pow_one], by omega⟩⟩
 ·have hnone : ∀ (k d : Nat), 1 ≤ k → ¬ InJ a (p - k) d := fun k d hk hd => by
   have g := in_up a d _ k hd
   obtain ⟨i, rfl⟩ : ∃ i, k = i + 1 := ⟨k - 1, by omega⟩
   rw [show p - ((i + 1 : Nat) : Int) + ((i + 1 : Nat) : Int) = p from by omega, Nat.pow_succ, ← Nat.mul_assoc] at g
   have g2 := (hs.isin _).1 g
   omega
  have hmin : InJ a p dmin := (hs.isin _).2 ⟨Nat.le_refl _, s3⟩
  have hcand : candJ a p := cand_of a dmin p hinf hmin
  refine ⟨np, hnp1, hnp19, by rw [← hnp]; exact hcand, hflb, fun n hn1 hn2 hn3 => ?_⟩
  obtain rfl : n = np := by
   rcases Nat.lt_trichotomy n np with g | g | g
   ·exfalso
    obtain ⟨k, hk1, hk2⟩ : ∃ k : Nat, 1 ≤ k ∧ (n : Int) - 1 - x = p - k := ⟨np - n, by omega, by omega⟩
    rw [hk2] at hn2
    rcases hn2 with g | g
    ·exact hnone k _ hk1 g
    ·exact hnone k _ hk1 g
   ·exact g
   ·exact absurd (by rw [← hnp]; exact hcand) (hn3 np hnp1 g)
  rw [← hnp, show x - (n : Int) + 1 = -p from by omega, hform]
  unfold pick3
  rw [if_neg hA]
  by_cases hlt : dmin < dmax
  ·obtain ⟨m1, m2, m3⟩ := hs.mid hlt
   rw [if_pos hlt, res_mid a u p m1 ((hs.isin u).2 ⟨m2, m3⟩)]
   exact ⟨0, .inl ⟨by simp, by simp⟩⟩
  ·rw [if_neg hlt, res_one a dmin p hcand (fun y hy => by have := (hs.isin y).1 hy; omega)]
   exact ⟨0, .inl ⟨by simp, by simp⟩⟩
end Go.Proofs.YtckaoeloofbklaaGreatDoor
