/- Joined texts: Sg Sh Si Sj. Each begins with its own remark. -/
import Derived.Test.YtmhagigokgklaaaGreatDoorJo
import Derived.Test.YtmhagigokgklaaaGreatDoorJg
import Derived.Deep.LoopGhost
import Derived.Deep.CutRange
import Derived.Test.YtmhagigokgklaaaGreatDoorJm

/- The reference's rounding, walked. -/
namespace Go.Proofs.YtmhagigokgklaaaGreatDoor
open Go Go.RowKit Go.Sort Go.Lib
set_option exponentiation.threshold 3000

/-- one step of a division by halves -/
theorem div_step (x m Y X k : Nat) (h : x + m * (Y * 2 ^ (k + 1)) = X) (hlt : x < Y * 2 ^ (k + 1)) :
    (x < Y * 2 ^ k → x + (m * 2) * (Y * 2 ^ k) = X) ∧ (Y * 2 ^ k ≤ x → x - Y * 2 ^ k + (m * 2 + 1) * (Y * 2 ^ k) = X ∧ x - Y * 2 ^ k < Y * 2 ^ k) := by
  have e1 : Y * 2 ^ (k + 1) = 2 * (Y * 2 ^ k) := by rw [Nat.pow_succ]; ac_rfl
  rw [e1] at h hlt
  generalize Y * 2 ^ k = T at *
  have e2 : m * (2 * T) = m * 2 * T := by ac_rfl
  rw [e2] at h
  refine ⟨fun _ => h, fun g => ⟨?_, by omega⟩⟩
  rw [Nat.add_mul, Nat.one_mul]; omega
theorem div_lt (x m Y X k : Nat) (h : x + m * (Y * 2 ^ k) = X) (hX : X < 2 ^ 54 * Y) : m < 18014398509481984 := by
  rcases Nat.lt_or_ge m 18014398509481984 with g | g
  · exact g
  · exfalso
    have h1 : 2 ^ 54 * Y ≤ m * (Y * 2 ^ k) := Nat.mul_le_mul g (Nat.le_mul_of_pos_right _ (Nat.two_pow_pos k))
    omega
theorem div_end (x m Y X : Nat) (h : x + m * (Y * 2 ^ 0) = X) (hlt : x < Y * 2 ^ 0) : X / Y = m ∧ X % Y = x := by
  rw [Nat.pow_zero, Nat.mul_one] at h hlt
  have hY : 0 < Y := by omega
  rw [← h, Nat.add_mul_div_right _ _ hY, Nat.div_eq_of_lt hlt, Nat.zero_add, Nat.add_mul_mod_self_right, Nat.mod_eq_of_lt hlt]
  exact ⟨rfl, rfl⟩

/-- how the rest decides -/
theorem up_cases (x m Y X : Nat) (h1 : X / Y = m) (h2 : X % Y = x) :
    (cmpN (x * 2) Y = -1 ∧ upG X Y = 0) ∨ (cmpN (x * 2) Y = 0 ∧ m % 2 = 0 ∧ upG X Y = 0) ∨ (cmpN (x * 2) Y = 0 ∧ m % 2 = 1 ∧ upG X Y = 1) ∨ (cmpN (x * 2) Y = 1 ∧ upG X Y = 1) := by
  unfold cmpN upG
  rw [h1, h2, Nat.mul_comm x 2]
  rcases Nat.lt_trichotomy (2 * x) Y with h | h | h
  · left; rw [if_pos h, if_pos h]; exact ⟨rfl, rfl⟩
  · rw [if_neg (show ¬ 2 * x < Y by omega), if_neg (show ¬ Y < 2 * x by omega), if_neg (show ¬ 2 * x < Y by omega), if_pos h]
    rcases Nat.mod_two_eq_zero_or_one m with g | g
    · right; left; exact ⟨rfl, g, g⟩
    · right; right; left; exact ⟨rfl, g, g⟩
  · right; right; right
    rw [if_neg (show ¬ 2 * x < Y by omega), if_pos h, if_neg (show ¬ 2 * x < Y by omega), if_neg (show ¬ 2 * x = Y by omega)]
    exact ⟨rfl, rfl⟩

/-- what is left to do behind the digits -/
theorem rnd_cases (e : Int) (M : Nat) (h1 : -1074 ≤ e) :
    (M = 9007199254740992 ∧ 971 < e + 1 ∧ rndN e M = 9218868437227405312) ∨ (M = 9007199254740992 ∧ ¬ 971 < e + 1 ∧ ∃ d : Nat, e + 1 + 1075 = (d : Int) ∧ d ≤ 2046 ∧ rndN e M = d * 4503599627370496) ∨
    (M ≠ 9007199254740992 ∧ 971 < e ∧ rndN e M = 9218868437227405312) ∨ (M ≠ 9007199254740992 ∧ ¬ 971 < e ∧ M < 4503599627370496 ∧ rndN e M = M) ∨
    (M ≠ 9007199254740992 ∧ ¬ 971 < e ∧ ¬ M < 4503599627370496 ∧ ∃ d : Nat, e + 1075 = (d : Int) ∧ d ≤ 2046 ∧ rndN e M = M - 4503599627370496 + d * 4503599627370496) := by
  unfold rndN
  by_cases hm : M = 9007199254740992
  · simp only [if_pos hm]
    by_cases he : 971 < e + 1
    · left; rw [if_pos he]; exact ⟨hm, he, rfl⟩
    · right; left
      rw [if_neg he, if_neg (by decide)]
      exact ⟨hm, he, (e + 1 + 1075).toNat, by omega, by omega, by omega⟩
  · simp only [if_neg hm]
    by_cases he : 971 < e
    · right; right; left; rw [if_pos he]; exact ⟨hm, he, rfl⟩
    · right; right; right
      rw [if_neg he]
      by_cases hb : M < 4503599627370496
      · left; rw [if_pos hb]; exact ⟨hm, he, hb, rfl⟩
      · right; rw [if_neg hb]
        exact ⟨hm, he, hb, (e + 1075).toNat, by omega, by omega, rfl⟩

def RdPost (P Q : Nat) (w : World) (e : Ending) (w' : World) : Prop := (∃ r : Nat, e = .returned (.int .u64 r) ∧ Near (2 * (P * 2 ^ 1074)) Q r) ∧ Below w.heap.size w w'

set_option maxRecDepth 100000 in
set_option maxHeartbeats 4000000 in
theorem round_zero (vp vq : Value) (Q : Nat) (w : World) (hp : IsNum w vp 0) (hQ : 0 < Q) :
    Calls Tryz.prog 32 #[vp, vq] w (RdPost 0 Q w) := by
  obtain ⟨l, h1, h2, h3⟩ := hp
  obtain rfl := (norm_zero l h3).1 h2
  obtain ⟨p, c, rfl⟩ := h1.form
  have HR : Hid (Near (2 * (0 * 2 ^ 1074)) Q 0) := Lib.hid (near_zero _ _ hQ (by omega))
  clear h1 h2 h3
  go_enter Tryz.func32, Tryz.ntmps32
  go_wp2_with fail
  go_ret
  exact ⟨⟨0, rfl, HR.out⟩, Below.refl _ _⟩

/-- the number of bytes of a number that is not nought -/
theorem num_ne (w : World) (v : Value) (P : Nat) (h : IsNum w v P) (h0 : 0 < P) : ∃ p n c, v = .slice p n c ∧ 0 < n := by
  obtain ⟨l, h1, h2, h3⟩ := h
  obtain ⟨p, c, rfl⟩ := h1.form
  refine ⟨p, l.length, c, rfl, ?_⟩
  rcases Nat.eq_zero_or_pos l.length with g | g
  · exfalso
    obtain rfl := List.eq_nil_of_length_eq_zero g
    simp [leV] at h2; omega
  · exact g

theorem e_bound (P Q K : Nat) (e : Int) (hP : P < 256 ^ K) (hQ : 0 < Q) (h : e = -1074 ∨ 2 ^ 52 * ysN Q e ≤ xsN P e) : e ≤ 8 * (K : Int) := by
  rcases h with h | h
  · omega
  · by_cases he : e < 0
    · omega
    · unfold xsN ysN at h
      rw [show (-e).toNat = 0 by omega, Nat.pow_zero, Nat.mul_one] at h
      have h1 : 2 ^ e.toNat ≤ P := Nat.le_trans (Nat.le_trans (Nat.le_mul_of_pos_left _ hQ) (Nat.le_mul_of_pos_left _ (by decide))) h
      have h2 : 2 ^ e.toNat < 2 ^ (8 * K) := by
        rw [Nat.pow_mul]; exact Nat.lt_of_le_of_lt h1 hP
      have := (Nat.pow_lt_pow_iff_right (by decide)).1 h2
      omega
theorem xs_bound (P K : Nat) (e : Int) (h1 : -1074 ≤ e) (hP : P < 256 ^ K) : xsN P e < 256 ^ (2 * K + 200) := by
  unfold xsN
  have h2 : 2 ^ (-e).toNat ≤ 256 ^ 200 := by
    rw [show (256 : Nat) = 2 ^ 8 from by decide, ← Nat.pow_mul]
    exact Nat.pow_le_pow_right (by decide) (by omega)
  have h3 : P * 2 ^ (-e).toNat < 256 ^ K * 256 ^ 200 := Nat.lt_of_lt_of_le ((Nat.mul_lt_mul_right (Nat.two_pow_pos _)).2 hP) (Nat.mul_le_mul_left _ h2)
  rw [← Nat.pow_add] at h3
  exact Nat.lt_of_lt_of_le h3 (Nat.pow_le_pow_right (by decide) (by omega))
theorem ys_bound (Q K : Nat) (e : Int) (h1 : e ≤ 8 * (K : Int)) (hQ : Q < 256 ^ K) : ysN Q e < 256 ^ (2 * K + 200) := by
  unfold ysN
  have h2 : 2 ^ e.toNat ≤ 256 ^ K := by
    rw [show (256 : Nat) = 2 ^ 8 from by decide, ← Nat.pow_mul]
    exact Nat.pow_le_pow_right (by decide) (by omega)
  have h3 : Q * 2 ^ e.toNat < 256 ^ K * 256 ^ K := Nat.lt_of_lt_of_le ((Nat.mul_lt_mul_right (Nat.two_pow_pos _)).2 hQ) (Nat.mul_le_mul_left _ h2)
  rw [← Nat.pow_add] at h3
  exact Nat.lt_of_lt_of_le h3 (Nat.pow_le_pow_right (by decide) (by omega))

set_option maxRecDepth 100000 in
set_option maxHeartbeats 16000000 in
theorem round_pos (vp vq : Value) (P Q K : Nat) (w : World) (hp : IsNum w vp P) (hq : IsNum w vq Q) (hP0 : 0 < P) (hQ : 0 < Q) (hK : K ≤ 5000) (hP : P < 256 ^ K) (hQK : Q < 256 ^ K) :
    Calls Tryz.prog 32 #[vp, vq] w (RdPost P Q w) := by
  have HBP : Hid (∀ W : World, Below w.heap.size w W → Calls Tryz.prog 65 #[vp] W fun e w' => (∃ n : Nat, e = .returned (.int .i64 n) ∧ BitsAre P n) ∧ w' = W) := Lib.hid fun W h => bits_any vp P K W (hp.go h) (by omega) hP
  have HBQ : Hid (∀ W : World, Below w.heap.size w W → Calls Tryz.prog 65 #[vq] W fun e w' => (∃ n : Nat, e = .returned (.int .i64 n) ∧ BitsAre Q n) ∧ w' = W) := Lib.hid fun W h => bits_any vq Q K W (hq.go h) (by omega) hQK
  have HSH : Hid (∀ (v : Value) (x n : Nat) (W : World), IsNum W v x → x < 256 ^ (2 * K + 200) → n ≤ 100000 → Calls Tryz.prog 66 #[v, .int .i64 n] W fun e w' => (∃ v', e = .returned v' ∧ IsNum w' v' (x * 2 ^ n)) ∧ Below W.heap.size W w') := Lib.hid fun v x n W h hx hn => shift_any v x n (2 * K + 200) W h (by omega) hx hn
  have HCM : Hid (∀ (va vb : Value) (x y : Nat) (W : World), IsNum W va x → IsNum W vb y → x < 256 ^ (2 * K + 300) → y < 256 ^ (2 * K + 300) → Calls Tryz.prog 67 #[va, vb] W fun e w' => e = .returned (.int .i64 (cmpN x y)) ∧ Below W.heap.size W w') := Lib.hid fun va vb x y W ha hb hx hy => cmp_any va vb x y (2 * K + 300) W ha hb (by omega) hx hy
  have HMI : Hid (∀ (va vb : Value) (x y : Nat) (W : World), IsNum W va x → IsNum W vb y → x < 256 ^ (2 * K + 300) → y ≤ x → Calls Tryz.prog 68 #[va, vb] W fun e w' => (∃ v', e = .returned v' ∧ IsNum w' v' (x - y)) ∧ Below W.heap.size W w') := Lib.hid fun va vb x y W ha hb hx hy => minus_any va vb x y (2 * K + 300) W ha hb (by omega) hx hy
  have HST : Hid (∀ bp bq e, BitsAre P bp → BitsAre Q bq → e = max ((bp : Int) - bq - 53) (-1074) → xsN P e < 2 ^ 54 * ysN Q e ∧ (e = -1074 ∨ 2 ^ 52 * ysN Q e ≤ xsN P e)) := Lib.hid fun bp bq e h1 h2 h3 => sc_start P Q bp bq e hP0 hQ h1 h2 h3
  have HEB : Hid (∀ e : Int, -1074 ≤ e → (e = -1074 ∨ 2 ^ 52 * ysN Q e ≤ xsN P e) → e ≤ 8 * (K : Int) ∧ xsN P e < 256 ^ (2 * K + 200) ∧ ysN Q e < 256 ^ (2 * K + 200)) := Lib.hid fun e h1 h => by
    have h3 := e_bound P Q K e hP hQ h
    exact ⟨h3, xs_bound P K e h1 hP, ys_bound Q K e h3 hQK⟩
  have HBL : Hid (∀ bp, BitsAre P bp → bp ≤ 8 * K) := Lib.hid fun bp h => by
    rcases Nat.eq_zero_or_pos bp with g | g
    · omega
    · have h1 := Nat.lt_of_le_of_lt (h.2 g) hP
      rw [show (256 : Nat) = 2 ^ 8 from by decide, ← Nat.pow_mul] at h1
      have := (Nat.pow_lt_pow_iff_right (by decide)).1 h1
      omega
  have HBL2 : Hid (∀ bp, BitsAre Q bp → bp ≤ 8 * K) := Lib.hid fun bp h => by
    rcases Nat.eq_zero_or_pos bp with g | g
    · omega
    · have h1 := Nat.lt_of_le_of_lt (h.2 g) hQK
      rw [show (256 : Nat) = 2 ^ 8 from by decide, ← Nat.pow_mul] at h1
      have := (Nat.pow_lt_pow_iff_right (by decide)).1 h1
      omega
  have HPB : Hid (P < 256 ^ (2 * K + 200)) := Lib.hid (Nat.lt_of_lt_of_le hP (Nat.pow_le_pow_right (by decide) (by omega)))
  have HQB : Hid (Q < 256 ^ (2 * K + 200)) := Lib.hid (Nat.lt_of_lt_of_le hQK (Nat.pow_le_pow_right (by decide) (by omega)))
  have HTB0 : Hid (∀ Y, Y < 256 ^ (2 * K + 200) → ∀ k, k ≤ 54 → Y * 2 ^ k < 256 ^ (2 * K + 300)) := Lib.hid fun Y hY k hk => by
    have h1 : 2 ^ k ≤ 256 ^ 7 := by
      have : 2 ^ k ≤ 2 ^ 56 := Nat.pow_le_pow_right (by decide) (by omega)
      exact this
    have h2 : Y * 2 ^ k < 256 ^ (2 * K + 200) * 256 ^ 7 := Nat.lt_of_lt_of_le ((Nat.mul_lt_mul_right (Nat.two_pow_pos k)).2 hY) (Nat.mul_le_mul_left _ h1)
    rw [← Nat.pow_add] at h2
    exact Nat.lt_of_lt_of_le h2 (Nat.pow_le_pow_right (by decide) (by omega))
  have HXB0 : Hid (∀ X, X < 256 ^ (2 * K + 200) → ∀ x, x ≤ 2 * X → x < 256 ^ (2 * K + 300)) := Lib.hid fun X hX x hx => by
    have h1 : 2 * 256 ^ (2 * K + 200) ≤ 256 ^ (2 * K + 300) := by
      have : 256 ^ (2 * K + 201) ≤ 256 ^ (2 * K + 300) := Nat.pow_le_pow_right (by decide) (by omega)
      rw [Nat.pow_succ] at this; omega
    omega
  generalize 256 ^ (2 * K + 200) = B1 at *
  generalize 256 ^ (2 * K + 300) = B2 at *
  obtain ⟨pp, np, cp, rfl, hnp⟩ := num_ne w vp P hp hP0
  obtain ⟨vp, hvp⟩ : ∃ v : Value, v = .slice pp np cp := ⟨_, rfl⟩
  have HPN := Lib.hid hp
  have HQN := Lib.hid hq
  have HQ := Lib.hid hQ
  have HPP := Lib.hid hP
  have HQP := Lib.hid hQK
  have HKK := Lib.hid hK
  clear hp hq hQ hP hQK hP0
  have hlen0 : ((np : Int) == 0) = false := by rw [beq_eq_false_iff_ne]; omega
  clear hvp vp
  go_enter Tryz.func32, Tryz.ntmps32
  go_wp2_with fail
  refine (HBP.out _ (Below.refl _ _)).mono ?_
  rintro e w1 ⟨⟨bp, rfl, hbp⟩, rfl⟩
  have hbp1 := HBL.out bp hbp
  have HB1 := Lib.hid hbp
  clear hbp
  go_wp2_with fail
  refine (HBQ.out _ (Below.refl _ _)).mono ?_
  rintro e w2 ⟨⟨bq, rfl, hbq⟩, rfl⟩
  have hbq1 := HBL2.out bq hbq
  have HB2 := Lib.hid hbq
  clear hbq
  obtain ⟨e0, he0⟩ : ∃ e0, max ((bp : Int) - bq - 53) (-1074) = e0 := ⟨_, rfl⟩
  have HS0 := Lib.hid (HST.out bp bq e0 HB1.out HB2.out he0.symm)
  have hge0 : -1074 ≤ e0 := by omega
  clear HBP HBQ HST HBL HBL2
  go_wp2_with fail
  clear he0 hbp1 hbq1 HB1 HB2
  go_loopg [5, 6, 7, 8, 9, 10, 11] 1 (fun g s5 _ _ _ _ _ _ wr => ∃ e : Int, g ≤ 1 ∧ s5 = .int .i64 e ∧ -1074 ≤ e ∧ xsN P e < 2 ^ (53 + g) * ysN Q e ∧ (e = -1074 ∨ 2 ^ 52 * ysN Q e ≤ xsN P e) ∧ Below w2.heap.size w2 wr)
  case atStart => exact ⟨e0, Nat.le_refl _, rfl, hge0, HS0.out.1, HS0.out.2, Below.refl _ _⟩
  case round =>
    clear HS0 hge0
    obtain ⟨e, hg1, rfl, hge, hup, hlo, hbw⟩ := hrel
    obtain ⟨heK, hxb, hyb⟩ := HEB.out e hge hlo
    have he5 : e ≤ 40000 := by have := HKK.out; omega
    have HBW := Lib.hid hbw
    have HXB := Lib.hid hxb
    have HYB := Lib.hid hyb
    have HUP := Lib.hid hup
    have HLO := Lib.hid hlo
    clear hbw hxb hyb hup hlo heK HEB
    obtain ⟨wo, hwo⟩ : ∃ x, x = wr := ⟨_, rfl⟩
    subst hwo
    obtain ⟨go, hgo⟩ : ∃ x, x = gk := ⟨_, rfl⟩
    subst hgo
    have HYP : Hid (0 < ysN Q e) := Lib.hid (ysN_pos HQ.out e)
    have HUP2 : Hid (xsN P e < 2 ^ 54 * ysN Q e) := Lib.hid (Nat.lt_of_lt_of_le HUP.out (Nat.mul_le_mul_right _ (Nat.pow_le_pow_right (by decide) (by omega))))
    have HUPN : Hid (go = 0 → xsN P e < 2 ^ 53 * ysN Q e) := Lib.hid (fun h => by have := HUP.out; rw [h] at this; exact this)
    have HNX : Hid (2 ^ 53 * ysN Q e ≤ xsN P e → xsN P (e + 1) < 2 ^ (53 + 0) * ysN Q (e + 1) ∧ (e + 1 = -1074 ∨ 2 ^ 52 * ysN Q (e + 1) ≤ xsN P (e + 1))) := Lib.hid (fun h => ⟨sc_up P Q 53 e HUP2.out, .inr (sc_lo P Q 52 e h)⟩)
    have HNR : Hid (xsN P e < 2 ^ 53 * ysN Q e → Near (2 * (P * 2 ^ 1074)) Q (rndN e (xsN P e / ysN Q e + upG (xsN P e) (ysN Q e)))) := Lib.hid (fun h => round_near P Q e HQ.out hge h HLO.out)
    clear HUP HLO
    go_upto_if 25 with (fail)
    go_cut [6, 7] from 22 to 89 (fun s6 s7 wx => ∃ vx vy : Value, s6 = vx ∧ s7 = vy ∧ IsNum wx vx (xsN P e) ∧ IsNum wx vy (ysN Q e) ∧ Below w2.heap.size w2 wx)
    case first =>
      by_cases hneg : e < 0
      · obtain ⟨n, hn⟩ : ∃ n : Nat, -e = (n : Int) := ⟨(-e).toNat, by omega⟩
        have HSHP : Hid (∀ W : World, Below wo.heap.size wo W → Calls Tryz.prog 66 #[.slice pp np cp, .int .i64 n] W fun e' w' => (∃ v', e' = .returned v' ∧ IsNum w' v' (xsN P e)) ∧ Below W.heap.size W w') := Lib.hid fun W hW => by
          have := HSH.out (.slice pp np cp) P n W ((HPN.out.go HBW.out).go hW) HPB.out (by omega)
          unfold xsN
          rw [show (-e).toNat = n by omega]
          exact this
        have HY0 : Hid (IsNum wo vq (ysN Q e)) := Lib.hid (by
          have := HQN.out.go HBW.out
          unfold ysN
          rw [show e.toNat = 0 by omega, Nat.pow_zero, Nat.mul_one]
          exact this)
        go_wp2_with fail
        refine (HSHP.out _ (Below.refl _ _)).mono ?_
        rintro e5 w5 ⟨⟨vx, rfl, hvx⟩, hb5⟩
        have HX5 := Lib.hid hvx
        have HY5 := Lib.hid (HY0.out.go hb5)
        have HBW5 := Lib.hid (HBW.out.trans (hb5.mono HBW.out.size))
        clear hvx hb5 HY0 hn
        go_wp2_with fail
        go_meet
        exact ⟨_, _, rfl, rfl, HX5.out, HY5.out, HBW5.out⟩
      · obtain ⟨n, hn⟩ : ∃ n : Nat, e = (n : Int) := ⟨e.toNat, by omega⟩
        have HSHP : Hid (∀ W : World, Below wo.heap.size wo W → Calls Tryz.prog 66 #[vq, .int .i64 e] W fun e' w' => (∃ v', e' = .returned v' ∧ IsNum w' v' (ysN Q e)) ∧ Below W.heap.size W w') := Lib.hid fun W hW => by
          have := HSH.out vq Q n W ((HQN.out.go HBW.out).go hW) HQB.out (by omega)
          unfold ysN
          rw [show e.toNat = n by omega, hn]
          exact this
        have HX0 : Hid (IsNum wo (.slice pp np cp) (xsN P e)) := Lib.hid (by
          have := HPN.out.go HBW.out
          unfold xsN
          rw [show (-e).toNat = 0 by omega, Nat.pow_zero, Nat.mul_one]
          exact this)
        clear hn
        go_wp2_with fail
        refine (HSHP.out _ (Below.refl _ _)).mono ?_
        rintro e5 w5 ⟨⟨vy, rfl, hvy⟩, hb5⟩
        have HY5 := Lib.hid hvy
        have HX5 := Lib.hid (HX0.out.go hb5)
        have HBW5 := Lib.hid (HBW.out.trans (hb5.mono HBW.out.size))
        clear hvy hb5 HX0
        go_wp2_with fail
        go_meet
        exact ⟨_, _, rfl, rfl, HX5.out, HY5.out, HBW5.out⟩
    case rest =>
      obtain ⟨vx, vy, rfl, rfl, hvx, hvy, hb5⟩ := hcut
      obtain ⟨w5, rfl⟩ : ∃ w5 : World, w5 = wc := ⟨_, rfl⟩
      have HX5 := Lib.hid hvx
      have HY5 := Lib.hid hvy
      have HBW5 := Lib.hid hb5
      clear hvx hvy hb5 HBW
      clear HPB HQB
      generalize xsN P e = X at *
      generalize ysN Q e = Y at *
      have HTB := Lib.hid (HTB0.out Y HYB.out)
      have HXB3 := Lib.hid (HXB0.out X HXB.out)
      clear HTB0 HXB0
      go_wp2_with fail
      go_loopg [6, 8, 9, 10] 55 (fun g s6 s8 s9 _ wr => ∃ (x m : Nat) (i : Int), g ≤ 55 ∧ i = (g : Int) - 1 ∧ s9 = .int .i64 i ∧ s8 = .int .u64 m ∧ x + m * (Y * 2 ^ g) = X ∧ x < Y * 2 ^ g ∧ IsNum wr s6 x ∧ Below w5.heap.size w5 wr)
      case atStart =>
        exact ⟨X, 0, 54, Nat.le_refl _, by omega, rfl, rfl, by rw [Nat.zero_mul, Nat.add_zero], by
          have h1 := HUP2.out
          have h2 : 2 ^ 54 * Y ≤ Y * 2 ^ 55 := by rw [Nat.mul_comm]; exact Nat.mul_le_mul_left _ (Nat.pow_le_pow_right (by decide) (by decide))
          omega, HX5.out, Below.refl _ _⟩
      case round =>
        obtain ⟨x, m, i, hg, hi, rfl, rfl, hsum, hlt, hnum, hb6⟩ := hrel
        have hm54 := div_lt x m Y X gk hsum HUP2.out
        have HSUM := Lib.hid hsum
        have HLT := Lib.hid hlt
        have HXN := Lib.hid hnum
        have HB6 := Lib.hid hb6
        clear hsum hlt hnum hb6
        by_cases h0 : gk = 0
        · obtain ⟨hdiv, hmod⟩ := div_end x m Y X (by have := HSUM.out; rw [h0] at this; exact this) (by have := HLT.out; rw [h0] at this; exact this)
          obtain rfl : i = -1 := by omega
          clear hi hg h0
          by_cases hbig : 9007199254740992 ≤ m
          · have hXY : 2 ^ 53 * Y ≤ X := by
              have h1 := (Nat.le_div_iff_mul_le HYP.out).1 (show 9007199254740992 ≤ X / Y by omega)
              exact h1
            have hgo : go = 1 := by
              have h1 := HUPN.out
              have : go ≠ 0 := fun h => by have := h1 h; omega
              omega
            have HNX2 := Lib.hid (HNX.out hXY)
            have hbi : (9007199254740992 : Int) ≤ (m : Int) := by omega
            have HB7 : Hid (Below w2.heap.size w2 wr) := Lib.hid (HBW5.out.trans (HB6.out.mono HBW5.out.size))
            clear hdiv hmod hXY hbig HUPN HNX HNR
            go_wp2_with fail
            go_roundg 0
            case measure => omega
            case rel => exact ⟨e + 1, by omega, by go_num, by omega, HNX2.out.1, HNX2.out.2, HB7.out⟩
          · have hXY : X < 2 ^ 53 * Y := by
              have h1 := (Nat.div_lt_iff_lt_mul HYP.out).1 (show X / Y < 9007199254740992 by omega)
              exact h1
            have hnr := HNR.out hXY
            have hbi : ¬ (9007199254740992 : Int) ≤ (m : Int) := by omega
            have hup := up_cases x m Y X hdiv hmod
            have HB7 : Hid (Below w2.heap.size w2 wr) := Lib.hid (HBW5.out.trans (HB6.out.mono HBW5.out.size))
            have hxX : x ≤ X := by have := HSUM.out; omega
            have HSX : Hid (∀ W : World, Below wr.heap.size wr W → Calls Tryz.prog 66 #[u6, .int .i64 1] W fun e w' => (∃ v', e = .returned v' ∧ IsNum w' v' (x * 2)) ∧ Below W.heap.size W w') := Lib.hid fun W hW => HSH.out u6 x 1 W (HXN.out.go hW) (Nat.lt_of_le_of_lt hxX HXB.out) (by decide)
            have HCX : Hid (∀ (v : Value) (W : World), Below wr.heap.size wr W → IsNum W v (x * 2) → Calls Tryz.prog 67 #[v, u7] W fun e w' => e = .returned (.int .i64 (cmpN (x * 2) Y)) ∧ Below W.heap.size W w') := Lib.hid fun v W hW hv => HCM.out v u7 (x * 2) Y W hv ((HY5.out.go HB6.out).go hW) (HXB3.out _ (by omega)) (by have := HTB.out 0 (by omega); rwa [Nat.pow_zero, Nat.mul_one] at this)
            rw [hdiv] at hnr
            generalize cmpN (x * 2) Y = c at *
            generalize upG X Y = up at *
            have hmle : m < 9007199254740992 := by omega
            clear hdiv hmod hXY hbig HUPN HNX HNR hxX hm54 HSUM HLT HXN HSH HCM HMI HTB HXB3
            go_wp2_with fail
            refine (HSX.out _ (Below.refl _ _)).mono ?_
            rintro e6 w6 ⟨⟨v6, rfl, hv6⟩, hb6⟩
            have H6 := Lib.hid hv6
            have B6 := Lib.hid hb6
            clear hv6 hb6
            go_wp2_with fail
            refine (HCX.out _ _ B6.out H6.out).mono ?_
            rintro e7 w7 ⟨rfl, hb7⟩
            have B8 := Lib.hid (HB7.out.trans ((B6.out.trans (hb7.mono B6.out.size)).mono HB7.out.size))
            clear hb7 HSX HCX H6 B6 HB7 HB6 HY5 HX5 HBW5 HUP2 HXB HYB HYP
            rcases hup with ⟨rfl, rfl⟩ | ⟨rfl, hpar, rfl⟩ | ⟨rfl, hpar, rfl⟩ | ⟨rfl, rfl⟩
            · obtain ⟨M, hM⟩ : ∃ M, m + 0 = M := ⟨_, rfl⟩
              rw [hM] at hnr
              have hrc := rnd_cases e M hge
              obtain rfl : m = M := by omega
              clear hM
              rcases hrc with ⟨hm1, he1, hres⟩ | ⟨hm1, he1, d, hd, hd2, hres⟩ | ⟨hm1, he1, hres⟩ | ⟨hm1, he1, hb1, hres⟩ | ⟨hm1, he1, hb1, d, hd, hd2, hres⟩
              · omega
              · omega
              · rw [hres] at hnr
                have HNR := Lib.hid hnr
                clear hnr hres
                have hm2 : (((m : Nat) : Int) == 9007199254740992) = false := by rw [beq_eq_false_iff_ne]; omega
                have hm3 : ¬ ((m : Nat) : Int) = 9007199254740992 := by omega
                have HB1 := Lib.hid hmle
                clear hmle
                go_wp2_with fail
                go_ret
                exact ⟨⟨_, rfl, HNR.out⟩, B8.out⟩
              · rw [hres] at hnr
                have HNR := Lib.hid hnr
                clear hnr hres
                have hm2 : (((m : Nat) : Int) == 9007199254740992) = false := by rw [beq_eq_false_iff_ne]; omega
                have hm3 : ¬ ((m : Nat) : Int) = 9007199254740992 := by omega
                have hq1 : decide (971 < e) = false := decide_eq_false he1
                have hbi2 : ((m : Nat) : Int) < 4503599627370496 := by omega
                have HB1 := Lib.hid hmle
                clear hmle hb1
                go_wp2_with fail
                go_ret
                exact ⟨⟨_, rfl, HNR.out⟩, B8.out⟩
              · rw [hres] at hnr
                have HNR := Lib.hid hnr
                clear hnr hres
                have hm2 : (((m : Nat) : Int) == 9007199254740992) = false := by rw [beq_eq_false_iff_ne]; omega
                have hm3 : ¬ ((m : Nat) : Int) = 9007199254740992 := by omega
                have hq1 : decide (971 < e) = false := decide_eq_false he1
                have hq2 : decide (((m : Nat) : Int) < 4503599627370496) = false := decide_eq_false (by omega)
                have hbi2 : ¬ ((m : Nat) : Int) < 4503599627370496 := by omega
                obtain ⟨R, hR⟩ : ∃ R, m - 4503599627370496 + d * 4503599627370496 = R := ⟨_, rfl⟩
                rw [hR] at HNR
                have hRi : ((m : Nat) : Int) - 4503599627370496 + (d : Int) * 4503599627370496 = (R : Int) := by omega
                have HB1 := Lib.hid hmle
                clear hmle hb1
                go_wp2_with fail
                go_ret
                have hb1 : 4503599627370496 ≤ m := by omega
                exact ⟨⟨R, by first | rfl | (rw [← hRi]; rfl), HNR.out⟩, B8.out⟩
            · obtain ⟨M, hM⟩ : ∃ M, m + 0 = M := ⟨_, rfl⟩
              rw [hM] at hnr
              have hpi : (m : Int).tmod 2 = 0 := by rw [Int.tmod_eq_emod_of_nonneg (by omega)]; omega
              have hpj : (m : Int) % 2 = 0 := by omega
              clear hpar
              have hrc := rnd_cases e M hge
              obtain rfl : m = M := by omega
              clear hM
              rcases hrc with ⟨hm1, he1, hres⟩ | ⟨hm1, he1, d, hd, hd2, hres⟩ | ⟨hm1, he1, hres⟩ | ⟨hm1, he1, hb1, hres⟩ | ⟨hm1, he1, hb1, d, hd, hd2, hres⟩
              · omega
              · omega
              · rw [hres] at hnr
                have HNR := Lib.hid hnr
                clear hnr hres
                have hm2 : (((m : Nat) : Int) == 9007199254740992) = false := by rw [beq_eq_false_iff_ne]; omega
                have hm3 : ¬ ((m : Nat) : Int) = 9007199254740992 := by omega
                have HB1 := Lib.hid hmle
                clear hmle
                go_wp2_with fail
                go_ret
                exact ⟨⟨_, rfl, HNR.out⟩, B8.out⟩
              · rw [hres] at hnr
                have HNR := Lib.hid hnr
                clear hnr hres
                have hm2 : (((m : Nat) : Int) == 9007199254740992) = false := by rw [beq_eq_false_iff_ne]; omega
                have hm3 : ¬ ((m : Nat) : Int) = 9007199254740992 := by omega
                have hq1 : decide (971 < e) = false := decide_eq_false he1
                have hbi2 : ((m : Nat) : Int) < 4503599627370496 := by omega
                have HB1 := Lib.hid hmle
                clear hmle hb1
                go_wp2_with fail
                go_ret
                exact ⟨⟨_, rfl, HNR.out⟩, B8.out⟩
              · rw [hres] at hnr
                have HNR := Lib.hid hnr
                clear hnr hres
                have hm2 : (((m : Nat) : Int) == 9007199254740992) = false := by rw [beq_eq_false_iff_ne]; omega
                have hm3 : ¬ ((m : Nat) : Int) = 9007199254740992 := by omega
                have hq1 : decide (971 < e) = false := decide_eq_false he1
                have hq2 : decide (((m : Nat) : Int) < 4503599627370496) = false := decide_eq_false (by omega)
                have hbi2 : ¬ ((m : Nat) : Int) < 4503599627370496 := by omega
                obtain ⟨R, hR⟩ : ∃ R, m - 4503599627370496 + d * 4503599627370496 = R := ⟨_, rfl⟩
                rw [hR] at HNR
                have hRi : ((m : Nat) : Int) - 4503599627370496 + (d : Int) * 4503599627370496 = (R : Int) := by omega
                have HB1 := Lib.hid hmle
                clear hmle hb1
                go_wp2_with fail
                go_ret
                have hb1 : 4503599627370496 ≤ m := by omega
                exact ⟨⟨R, by first | rfl | (rw [← hRi]; rfl), HNR.out⟩, B8.out⟩
            · obtain ⟨M, hM⟩ : ∃ M, m + 1 = M := ⟨_, rfl⟩
              rw [hM] at hnr
              have hpi : (m : Int).tmod 2 = 1 := by rw [Int.tmod_eq_emod_of_nonneg (by omega)]; omega
              have hpj : (m : Int) % 2 = 1 := by omega
              clear hpar
              have hrc := rnd_cases e M hge
              have hMi : (m : Int) + 1 = (M : Int) := by omega
              have hM1 : 1 ≤ M := by omega
              have hMle : M ≤ 9007199254740992 := by omega
              rcases hrc with ⟨hm1, he1, hres⟩ | ⟨hm1, he1, d, hd, hd2, hres⟩ | ⟨hm1, he1, hres⟩ | ⟨hm1, he1, hb1, hres⟩ | ⟨hm1, he1, hb1, d, hd, hd2, hres⟩
              · rw [hres] at hnr
                have HNR := Lib.hid hnr
                clear hnr hres
                obtain rfl : m = 9007199254740991 := by omega
                subst hm1
                clear hM hMi hM1 hMle hmle

                go_wp2_with fail
                go_ret
                exact ⟨⟨_, rfl, HNR.out⟩, B8.out⟩
              · rw [hres] at hnr
                have HNR := Lib.hid hnr
                clear hnr hres
                obtain rfl : m = 9007199254740991 := by omega
                subst hm1
                clear hM hMi hM1 hMle hmle

                go_wp2_with fail
                go_ret
                exact ⟨⟨_, rfl, HNR.out⟩, B8.out⟩
              · rw [hres] at hnr
                have HNR := Lib.hid hnr
                clear hnr hres
                have HM := Lib.hid hM
                clear hM
                have hm2 : (((M : Nat) : Int) == 9007199254740992) = false := by rw [beq_eq_false_iff_ne]; omega
                have hm3 : ¬ ((M : Nat) : Int) = 9007199254740992 := by omega
                have HB1 := Lib.hid hmle
                clear hmle
                go_wp2_with fail
                go_ret
                exact ⟨⟨_, rfl, HNR.out⟩, B8.out⟩
              · rw [hres] at hnr
                have HNR := Lib.hid hnr
                clear hnr hres
                have HM := Lib.hid hM
                clear hM
                have hm2 : (((M : Nat) : Int) == 9007199254740992) = false := by rw [beq_eq_false_iff_ne]; omega
                have hm3 : ¬ ((M : Nat) : Int) = 9007199254740992 := by omega
                have hq1 : decide (971 < e) = false := decide_eq_false he1
                have hbi2 : ((M : Nat) : Int) < 4503599627370496 := by omega
                have HB1 := Lib.hid hmle
                clear hmle hb1
                go_wp2_with fail
                go_ret
                exact ⟨⟨_, rfl, HNR.out⟩, B8.out⟩
              · rw [hres] at hnr
                have HNR := Lib.hid hnr
                clear hnr hres
                have HM := Lib.hid hM
                clear hM
                have hm2 : (((M : Nat) : Int) == 9007199254740992) = false := by rw [beq_eq_false_iff_ne]; omega
                have hm3 : ¬ ((M : Nat) : Int) = 9007199254740992 := by omega
                have hq1 : decide (971 < e) = false := decide_eq_false he1
                have hq2 : decide (((M : Nat) : Int) < 4503599627370496) = false := decide_eq_false (by omega)
                have hbi2 : ¬ ((M : Nat) : Int) < 4503599627370496 := by omega
                obtain ⟨R, hR⟩ : ∃ R, M - 4503599627370496 + d * 4503599627370496 = R := ⟨_, rfl⟩
                rw [hR] at HNR
                have hRi : ((M : Nat) : Int) - 4503599627370496 + (d : Int) * 4503599627370496 = (R : Int) := by omega
                have HB1 := Lib.hid hmle
                clear hmle hb1
                go_wp2_with fail
                go_ret
                have hb1 : 4503599627370496 ≤ M := by omega
                exact ⟨⟨R, by first | rfl | (rw [← hRi]; rfl), HNR.out⟩, B8.out⟩
            · obtain ⟨M, hM⟩ : ∃ M, m + 1 = M := ⟨_, rfl⟩
              rw [hM] at hnr
              have hrc := rnd_cases e M hge
              have hMi : (m : Int) + 1 = (M : Int) := by omega
              have hM1 : 1 ≤ M := by omega
              have hMle : M ≤ 9007199254740992 := by omega
              rcases hrc with ⟨hm1, he1, hres⟩ | ⟨hm1, he1, d, hd, hd2, hres⟩ | ⟨hm1, he1, hres⟩ | ⟨hm1, he1, hb1, hres⟩ | ⟨hm1, he1, hb1, d, hd, hd2, hres⟩
              · rw [hres] at hnr
                have HNR := Lib.hid hnr
                clear hnr hres
                obtain rfl : m = 9007199254740991 := by omega
                subst hm1
                clear hM hMi hM1 hMle hmle

                go_wp2_with fail
                go_ret
                exact ⟨⟨_, rfl, HNR.out⟩, B8.out⟩
              · rw [hres] at hnr
                have HNR := Lib.hid hnr
                clear hnr hres
                obtain rfl : m = 9007199254740991 := by omega
                subst hm1
                clear hM hMi hM1 hMle hmle

                go_wp2_with fail
                go_ret
                exact ⟨⟨_, rfl, HNR.out⟩, B8.out⟩
              · rw [hres] at hnr
                have HNR := Lib.hid hnr
                clear hnr hres
                have HM := Lib.hid hM
                clear hM
                have hm2 : (((M : Nat) : Int) == 9007199254740992) = false := by rw [beq_eq_false_iff_ne]; omega
                have hm3 : ¬ ((M : Nat) : Int) = 9007199254740992 := by omega
                have HB1 := Lib.hid hmle
                clear hmle
                go_wp2_with fail
                go_ret
                exact ⟨⟨_, rfl, HNR.out⟩, B8.out⟩
              · rw [hres] at hnr
                have HNR := Lib.hid hnr
                clear hnr hres
                have HM := Lib.hid hM
                clear hM
                have hm2 : (((M : Nat) : Int) == 9007199254740992) = false := by rw [beq_eq_false_iff_ne]; omega
                have hm3 : ¬ ((M : Nat) : Int) = 9007199254740992 := by omega
                have hq1 : decide (971 < e) = false := decide_eq_false he1
                have hbi2 : ((M : Nat) : Int) < 4503599627370496 := by omega
                have HB1 := Lib.hid hmle
                clear hmle hb1
                go_wp2_with fail
                go_ret
                exact ⟨⟨_, rfl, HNR.out⟩, B8.out⟩
              · rw [hres] at hnr
                have HNR := Lib.hid hnr
                clear hnr hres
                have HM := Lib.hid hM
                clear hM
                have hm2 : (((M : Nat) : Int) == 9007199254740992) = false := by rw [beq_eq_false_iff_ne]; omega
                have hm3 : ¬ ((M : Nat) : Int) = 9007199254740992 := by omega
                have hq1 : decide (971 < e) = false := decide_eq_false he1
                have hq2 : decide (((M : Nat) : Int) < 4503599627370496) = false := decide_eq_false (by omega)
                have hbi2 : ¬ ((M : Nat) : Int) < 4503599627370496 := by omega
                obtain ⟨R, hR⟩ : ∃ R, M - 4503599627370496 + d * 4503599627370496 = R := ⟨_, rfl⟩
                rw [hR] at HNR
                have hRi : ((M : Nat) : Int) - 4503599627370496 + (d : Int) * 4503599627370496 = (R : Int) := by omega
                have HB1 := Lib.hid hmle
                clear hmle hb1
                go_wp2_with fail
                go_ret
                have hb1 : 4503599627370496 ≤ M := by omega
                exact ⟨⟨R, by first | rfl | (rw [← hRi]; rfl), HNR.out⟩, B8.out⟩
        · obtain ⟨k, rfl⟩ : ∃ k, gk = k + 1 := ⟨gk - 1, by omega⟩
          obtain rfl : i = (k : Int) := by omega
          have hds := div_step x m Y X k HSUM.out HLT.out
          have hxX : x ≤ X := by have := HSUM.out; omega
          have HTK := Lib.hid (fun (W : World) (hW : Below wr.heap.size wr W) => HSH.out u7 Y k W ((HY5.out.go HB6.out).go hW) HYB.out (by omega))
          have HCX : Hid (∀ (v : Value) (W : World), Below wr.heap.size wr W → IsNum W v (Y * 2 ^ k) → Calls Tryz.prog 67 #[u6, v] W fun e w' => e = .returned (.int .i64 (cmpN x (Y * 2 ^ k))) ∧ Below W.heap.size W w') := Lib.hid fun v W hW hv => HCM.out u6 v x (Y * 2 ^ k) W (HXN.out.go hW) hv (HXB3.out _ (by omega)) (HTB.out k (by omega))
          have HMX : Hid (∀ (v : Value) (W : World), Below wr.heap.size wr W → IsNum W v (Y * 2 ^ k) → Y * 2 ^ k ≤ x → Calls Tryz.prog 68 #[u6, v] W fun e w' => (∃ v', e = .returned v' ∧ IsNum w' v' (x - Y * 2 ^ k)) ∧ Below W.heap.size W w') := Lib.hid fun v W hW hv hle => HMI.out u6 v x (Y * 2 ^ k) W (HXN.out.go hW) hv (HXB3.out _ (by omega)) hle
          have HDS := Lib.hid hds
          have hki : (0 : Int) ≤ (k : Int) := by omega
          obtain ⟨T, hT⟩ : ∃ T, Y * 2 ^ k = T := ⟨_, rfl⟩
          rw [hT] at HTK HCX HMX HDS
          have HTE := Lib.hid hT
          clear hds hi hxX hT
          by_cases hxt : x < T
          · have hc : cmpN x T = -1 := by unfold cmpN; rw [if_pos hxt]
            rw [hc] at HCX
            have HD1 := Lib.hid (HDS.out.1 hxt)
            have HXT := Lib.hid hxt
            clear hc hxt
            go_wp2_with fail
            refine (HTK.out _ (Below.refl _ _)).mono ?_
            rintro e6 w6 ⟨⟨v6, rfl, hv6⟩, hb6⟩
            have H6 := Lib.hid hv6
            have B6 := Lib.hid hb6
            clear hv6 hb6
            go_wp2_with fail
            refine (HCX.out _ _ B6.out H6.out).mono ?_
            rintro e7 w7 ⟨rfl, hb7⟩
            have B7 := Lib.hid (B6.out.trans (hb7.mono B6.out.size))
            clear hb7
            go_wp2_with fail
            go_roundg k
            case measure => omega
            case rel => exact ⟨x, m * 2, _, by omega, rfl, by go_num, by go_num, by rw [HTE.out]; exact HD1.out, by rw [HTE.out]; exact HXT.out, HXN.out.go B7.out, HB6.out.trans (B7.out.mono HB6.out.size)⟩
          · have hle : T ≤ x := by omega
            have hc : 0 ≤ cmpN x T := by unfold cmpN; rw [if_neg hxt]; split <;> omega
            have hc2 : -1 ≤ cmpN x T ∧ cmpN x T ≤ 1 := by unfold cmpN; rw [if_neg hxt]; split <;> omega
            generalize cmpN x T = c at *
            have HD1 := Lib.hid (HDS.out.2 hle)
            have HLE := Lib.hid hle
            clear hxt hle
            go_wp2_with fail
            refine (HTK.out _ (Below.refl _ _)).mono ?_
            rintro e6 w6 ⟨⟨v6, rfl, hv6⟩, hb6⟩
            have H6 := Lib.hid hv6
            have B6 := Lib.hid hb6
            clear hv6 hb6
            go_wp2_with fail
            refine (HCX.out _ _ B6.out H6.out).mono ?_
            rintro e7 w7 ⟨rfl, hb7⟩
            have H7 := Lib.hid (H6.out.go hb7)
            have B7 := Lib.hid (B6.out.trans (hb7.mono B6.out.size))
            clear hb7
            go_wp2_with fail
            refine (HMX.out _ _ B7.out H7.out HLE.out).mono ?_
            rintro e8 w8 ⟨⟨v8, rfl, hv8⟩, hb8⟩
            have H8 := Lib.hid hv8
            have B8 := Lib.hid (B7.out.trans (hb8.mono B7.out.size))
            clear hv8 hb8
            go_wp2_with fail
            go_roundg k
            case measure => omega
            case rel => exact ⟨x - T, m * 2 + 1, _, by omega, rfl, by go_num, by go_num, by rw [HTE.out]; exact HD1.out.1, by rw [HTE.out]; exact HD1.out.2, H8.out, HB6.out.trans (B8.out.mono HB6.out.size)⟩

end Go.Proofs.YtmhagigokgklaaaGreatDoor

/- The reference's rounding at every number; OfInt (walked). -/
namespace Go.Proofs.YtmhagigokgklaaaGreatDoor
open Go Go.RowKit Go.Sort Go.Lib
set_option exponentiation.threshold 3000

theorem rround_any (vp vq : Value) (P Q K : Nat) (w : World) (hp : IsNum w vp P) (hq : IsNum w vq Q) (hQ : 0 < Q) (hK : K ≤ 5000) (hP : P < 256 ^ K) (hQK : Q < 256 ^ K) :
    Calls Tryz.prog 32 #[vp, vq] w (RdPost P Q w) := by
  rcases Nat.eq_zero_or_pos P with h | h
  · subst h
    exact round_zero vp vq Q w hp hQ
  · exact round_pos vp vq P Q K w hp hq h hQ hK hP hQK

/-- the number one, made anew -/
theorem one_num (W : World) : IsNum (W.alloc (.cells #[.int .u8 1] 5)) (.slice (some ⟨W.heap.size, 0, Option.none⟩) 1 1) 1 := by
  refine ⟨[1], .inr ⟨W.heap.size, 0, 1, rfl, Nat.le_refl _, by simp, fun j x hx => ?_⟩, by decide, by unfold NormB; decide⟩
  match j with
  | 0 =>
    simp at hx
    subst hx
    simp [go_sem]
  | j + 1 => simp at hx

set_option maxRecDepth 100000 in
set_option maxHeartbeats 4000000 in
/-- the reference's OfInt is the same as the program's -/
theorem rofint_any (n : Int) (w : World) (hn : -9223372036854775808 ≤ n ∧ n ≤ 9223372036854775807) :
    Calls Tryz.prog 18 #[.int .i64 n] w fun e w' => e = .returned (.int .u64 (oiN n)) ∧ Below w.heap.size w w' := by
  obtain ⟨N, hN⟩ : ∃ N, n.natAbs = N := ⟨_, rfl⟩
  have HL : Hid (∀ (z : Int) (W : World), z = (N : Int) → Below w.heap.size w W → Calls Tryz.prog 48 #[.int .u64 z] W fun e w' => (∃ v', e = .returned v' ∧ IsNum w' v' N) ∧ Below W.heap.size W w') := Lib.hid fun z W hz _ => by
    subst hz
    exact large_any N W (by omega)
  obtain ⟨r, hr, hnr⟩ := oi_nat N
  have HR : Hid (∀ (vp : Value) (W W' : World), IsNum W vp N → W' = W.alloc (.cells #[.int .u8 1] 5) → Calls Tryz.prog 32 #[vp, .slice (some ⟨W.heap.size, 0, Option.none⟩) 1 1] W' fun e w' => e = .returned (.int .u64 r) ∧ Below W'.heap.size W' w') := Lib.hid fun vp W W' h1 h2 => by
    subst h2
    have hb : Below W.heap.size W (W.alloc (.cells #[.int .u8 1] 5)) := (Below.refl _ _).alloc (Nat.le_refl _) _
    refine (rround_any vp _ N 1 9 _ (h1.go hb) (one_num W) (by decide) (by decide) (Nat.lt_of_lt_of_le (show N < 18446744073709551616 by omega) (by decide)) (by decide)).mono ?_
    rintro e w' ⟨⟨r', rfl, h3⟩, h4⟩
    rw [near_unique h3 hnr]
    exact ⟨rfl, h4⟩
  have hrI := hnr.inf
  unfold INF at hrI
  have hr2 : oiN n = if n < 0 then 9223372036854775808 + r else r := by
    by_cases h0 : n < 0
    · rw [if_pos h0, show n = -(N : Int) by omega, oi_neg N (by omega), hr]
    · rw [if_neg h0, show n = (N : Int) by omega, hr]
  rw [hr2]
  clear hr hr2 hnr
  by_cases h0 : n < 0
  · rw [if_pos h0]
    by_cases hmin : n = -9223372036854775808
    · subst hmin
      obtain rfl : N = 9223372036854775808 := by rw [← hN]; rfl
      clear hN hn h0
      go_enter Tryz.func18, Tryz.ntmps18
      go_wp2_with fail
      refine (HL.out _ _ (by first | omega | decide +kernel) (Below.refl _ _)).mono ?_
      rintro e w1 ⟨⟨v1, rfl, hv1⟩, hb1⟩
      have H1 := Lib.hid hv1
      have B1 := Lib.hid hb1
      clear hv1 hb1
      go_wp2_with fail
      refine (HR.out _ w1 _ H1.out rfl).mono ?_
      rintro e w2 ⟨rfl, hb2⟩
      have B2 := Lib.hid (B1.out.trans ((((Below.refl w1.heap.size w1).alloc (Nat.le_refl _) _).trans (hb2.mono (by simp))).mono B1.out.size))
      clear hb2
      go_wp2_with fail
      go_ret
      exact ⟨by rw [show ((9223372036854775808 + r : Nat) : Int) = 9223372036854775808 + (r : Int) from by omega]; rfl, B2.out⟩
    · have hnn : -n = (N : Int) := by omega
      have hN63 : N < 9223372036854775808 := by omega
      clear hN
      go_enter Tryz.func18, Tryz.ntmps18
      go_wp2_with fail
      refine (HL.out _ _ (by first | omega | decide +kernel) (Below.refl _ _)).mono ?_
      rintro e w1 ⟨⟨v1, rfl, hv1⟩, hb1⟩
      have H1 := Lib.hid hv1
      have B1 := Lib.hid hb1
      clear hv1 hb1
      go_wp2_with fail
      refine (HR.out _ w1 _ H1.out rfl).mono ?_
      rintro e w2 ⟨rfl, hb2⟩
      have B2 := Lib.hid (B1.out.trans ((((Below.refl w1.heap.size w1).alloc (Nat.le_refl _) _).trans (hb2.mono (by simp))).mono B1.out.size))
      clear hb2
      go_wp2_with fail
      go_ret
      exact ⟨by rw [show ((9223372036854775808 + r : Nat) : Int) = 9223372036854775808 + (r : Int) from by omega]; rfl, B2.out⟩
  · rw [if_neg h0]
    obtain rfl : n = (N : Int) := by omega
    clear hN
    go_enter Tryz.func18, Tryz.ntmps18
    go_wp2_with fail
    refine (HL.out _ _ (by first | omega | decide +kernel) (Below.refl _ _)).mono ?_
    rintro e w1 ⟨⟨v1, rfl, hv1⟩, hb1⟩
    have H1 := Lib.hid hv1
    have B1 := Lib.hid hb1
    clear hv1 hb1
    go_wp2_with fail
    refine (HR.out _ w1 _ H1.out rfl).mono ?_
    rintro e w2 ⟨rfl, hb2⟩
    have B2 := Lib.hid (B1.out.trans ((((Below.refl w1.heap.size w1).alloc (Nat.le_refl _) _).trans (hb2.mono (by simp))).mono B1.out.size))
    clear hb2
    go_wp2_with fail
    go_ret
    exact ⟨rfl, B2.out⟩
end Go.Proofs.YtmhagigokgklaaaGreatDoor

/- The reference's parts and Int (walked). -/
namespace Go.Proofs.YtmhagigokgklaaaGreatDoor
open Go Go.RowKit Go.Sort Go.Lib
set_option exponentiation.threshold 3000

theorem parts_any (a : Nat) (w : World) (ha : a < 9218868437227405312) :
    Calls Tryz.prog 47 #[.int .u64 a] w fun e w' => (∃ (m : Nat) (x : Int), e = .returned (.tuple #[.int .u64 m, .int .i64 x]) ∧ -1074 ≤ x ∧ x ≤ 971 ∧ m < 9007199254740992 ∧ V a = m * 2 ^ (x + 1074).toNat) ∧ w' = w := by
  obtain ⟨q, hq⟩ : ∃ q, a / 4503599627370496 = q := ⟨_, rfl⟩
  obtain ⟨r, hr⟩ : ∃ r, a % 4503599627370496 = r := ⟨_, rfl⟩
  have hq1 : (a : Int) / 4503599627370496 = (q : Int) := by omega
  have hq2 : (a : Int).tdiv 4503599627370496 = (q : Int) := by rw [Int.tdiv_eq_ediv_of_nonneg (by omega)]; omega
  have hr1 : (a : Int) % 4503599627370496 = (r : Int) := by omega
  have hr2 : (a : Int).tmod 4503599627370496 = (r : Int) := by rw [Int.tmod_eq_emod_of_nonneg (by omega)]; omega
  have hq5 : q ≤ 2046 := by omega
  have hq3 : (q : Int) % 2048 = (q : Int) := by omega
  have hq4 : (q : Int).tmod 2048 = (q : Int) := by rw [Int.tmod_eq_emod_of_nonneg (by omega)]; omega
  have hr3 : r < 4503599627370496 := by omega
  have HV : Hid (V a = if q = 0 then r else (4503599627370496 + r) * 2 ^ (q - 1)) := Lib.hid (by
    unfold V BB
    rw [hq, hr]
    by_cases h0 : q = 0
    · rw [if_pos h0, if_pos (by omega)]; omega
    · rw [if_neg h0, if_neg (by omega)])
  clear hq hr ha
  by_cases h0 : q = 0
  · have HV0 : Hid (V a = r) := Lib.hid (by rw [HV.out, if_pos h0])
    subst h0
    have hz : ((0 : Nat) : Int) = 0 := rfl
    rw [hz] at hq1 hq2
    clear HV hq3 hq4 hq5 hz
    go_enter Tryz.func47, Tryz.ntmps47
    go_wp2_with fail
    go_ret2
    refine ⟨⟨r, -1074, rfl, by decide, by decide, by omega, ?_⟩, rfl⟩
    rw [HV0.out]
    simp
  · have hq0 : ((q : Int) == 0) = false := by rw [beq_eq_false_iff_ne]; omega
    have hq0' : ¬ (q : Int) = 0 := by omega
    go_enter Tryz.func47, Tryz.ntmps47
    go_wp2_with fail
    go_ret2
    refine ⟨⟨r + 4503599627370496, (q : Int) - 1075, by rw [show ((r + 4503599627370496 : Nat) : Int) = (r : Int) + 4503599627370496 from by omega]; rfl, by omega, by omega, by omega, ?_⟩, rfl⟩
    rw [HV.out, if_neg h0, show ((q : Int) - 1075 + 1074).toNat = q - 1 by omega, Nat.add_comm]


/-- halves taken off a whole number of units -/
theorem pw_odd (v m k : Nat) (hv : v = m * 2 ^ k) (hk : k < 1074) (hm : m % 2 = 1) : ¬ v % 2 ^ 1074 = 0 := by
  intro h
  have h1 : 2 ^ 1074 ∣ m * 2 ^ k := by rw [← hv]; exact Nat.dvd_of_mod_eq_zero h
  obtain ⟨j, hj⟩ : ∃ j, 1074 = (j + 1) + k := ⟨1073 - k, by omega⟩
  rw [hj, Nat.pow_add] at h1
  have h2 := Nat.dvd_of_mul_dvd_mul_right (Nat.two_pow_pos k) h1
  obtain ⟨c, hc⟩ := h2
  rw [Nat.pow_succ] at hc
  generalize 2 ^ j = t at hc
  rw [hc, show t * 2 * c = 2 * (t * c) from by ac_rfl] at hm
  omega
theorem pw_whole (v m : Nat) (k : Nat) (hv : v = m * 2 ^ (k + 1074)) : v % 2 ^ 1074 = 0 ∧ v / 2 ^ 1074 = m * 2 ^ k := by
  rw [hv, Nat.pow_add, ← Nat.mul_assoc]
  exact ⟨Nat.mul_mod_left _ _, Nat.mul_div_cancel _ (Nat.two_pow_pos _)⟩

theorem ng_of_ge (x : Nat) : (ngB x = true ↔ 9223372036854775808 ≤ x) ∧ ru x = x % 9223372036854775808 := by
  unfold ngB ru
  constructor
  · simp
  · rfl

-- END OF HEAD
theorem intV_no (x : Nat) (h : ¬ intOK x) : intV x = (0, false) := by unfold intV; rw [if_neg h]
theorem intV_neg (x : Nat) (h : intOK x) (hn : ngB x = true) : intV x = (-(FL (ru x) : Int), true) := by unfold intV; rw [if_pos h, hn]; rfl
theorem intV_pos (x : Nat) (h : intOK x) (hn : ngB x = false) : intV x = ((FL (ru x) : Int), true) := by unfold intV; rw [if_pos h, hn]; rfl

/-- a whole number that fits -/
def WhN (a : Nat) : Prop := V a % 2 ^ 1074 = 0 ∧ FL a ≠ 0 ∧ FL a ≤ 9223372036854775808
def WhP (a : Nat) : Prop := V a % 2 ^ 1074 = 0 ∧ FL a < 9223372036854775808

def RintPost (x : Nat) (w : World) (e : Ending) (w' : World) : Prop := e = .returned (.tuple #[.int .i64 (intV x).1, .bool (intV x).2]) ∧ w' = w

set_option maxRecDepth 100000 in
set_option maxHeartbeats 4000000 in
theorem rint_pos (x a : Nat) (w : World) (hx : a = x) (h0 : 0 < a) (h1 : a < 9218868437227405312) :
    Calls Tryz.prog 16 #[.int .u64 x] w (RintPost x w) := by
  have HPA : Hid (∀ W, Calls Tryz.prog 47 #[.int .u64 a] W fun e w' => (∃ (m : Nat) (x : Int), e = .returned (.tuple #[.int .u64 m, .int .i64 x]) ∧ -1074 ≤ x ∧ x ≤ 971 ∧ m < 9007199254740992 ∧ V a = m * 2 ^ (x + 1074).toNat) ∧ w' = W) := Lib.hid fun W => parts_any a W h1
  have hng : ngB x = false := by unfold ngB; rw [decide_eq_false_iff_not]; omega
  have hru : ru x = a := by unfold ru; omega
  have HV0 : Hid (0 < V a) := Lib.hid (by have := V_mono h0; rwa [V_zero] at this)
  have HOK : Hid (intOK x ↔ WhP a) := Lib.hid (by
    unfold intOK WhP
    rw [hng, hru]
    simp only [Bool.false_eq_true, if_false]
    exact ⟨fun h => h.2, fun h => ⟨h1, h⟩⟩)
  have HNO : Hid (¬ WhP a → RintPost x w (.returned (.tuple #[.int .i64 0, .bool false])) w) := Lib.hid fun h => by
    refine ⟨?_, rfl⟩
    rw [intV_no x (fun g => h (HOK.out.1 g))]
  have HYES : Hid (WhP a → RintPost x w (.returned (.tuple #[.int .i64 ((FL a : Int)), .bool true])) w) := Lib.hid fun h => by
    refine ⟨?_, rfl⟩
    rw [intV_pos x (HOK.out.2 h) hng, hru]
  clear HOK
  clear hng hru
  subst hx
  have hai : (a : Int) < 9218868437227405312 := by omega
  have ha0 : ((a : Int) == 0) = false := by rw [beq_eq_false_iff_ne]; omega
  have ha0n : ¬ (a : Int) = 0 := by omega
  have hpg : ¬ 9223372036854775808 ≤ (a : Int) := by omega
  have hai2 : ¬ 9218868437227405312 ≤ (a : Int) := by omega
  clear h0 h1
  go_enter Tryz.func16, Tryz.ntmps16
  go_wp2_with fail
  refine (HPA.out _).mono ?_
  rintro e w1 ⟨⟨m0, x0, rfl, hx1, hx2, hm, hv⟩, rfl⟩
  have HVV := Lib.hid hv
  clear hv HPA
  go_wp2_with fail
  clear ha0 ha0n hai hai2 hpg
  go_loopg [5, 6] (-x0).toNat (fun g s5 s6 wr => ∃ (m : Nat) (e : Int), g = (-e).toNat ∧ -1074 ≤ e ∧ e ≤ 971 ∧ m < 9007199254740992 ∧ V a = m * 2 ^ (e + 1074).toNat ∧ s5 = .int .u64 m ∧ s6 = .int .i64 e ∧ wr = w1)
  case atStart => exact ⟨m0, x0, rfl, hx1, hx2, hm, HVV.out, rfl, rfl, rfl⟩
  case round =>
    clear HVV hx1 hx2 hm
    obtain ⟨m, e, hg, he1, he2, hm, hv, rfl, rfl, rfl⟩ := hrel
    have HV := Lib.hid hv
    clear hv
    by_cases he : e < 0
    · by_cases hodd : m % 2 = 1
      · have HE := Lib.hid (HNO.out (fun g => pw_odd _ m _ HV.out (by omega) hodd g.1))
        have hi1 : (m : Int) % 2 = 1 := by omega
        have hi2 : (m : Int).tmod 2 = 1 := by rw [Int.tmod_eq_emod_of_nonneg (by omega)]; omega
        clear hodd
        go_wp2_with fail
        go_ret2
        exact HE.out
      · have hi1 : (m : Int) % 2 = 0 := by omega
        have hi2 : (m : Int).tmod 2 = 0 := by rw [Int.tmod_eq_emod_of_nonneg (by omega)]; omega
        obtain ⟨k, rfl⟩ : ∃ k, m = 2 * k := ⟨m / 2, by omega⟩
        have hd1 : ((2 * k : Nat) : Int) / 2 = (k : Int) := by omega
        have hd2 : ((2 * k : Nat) : Int).tdiv 2 = (k : Int) := by rw [Int.tdiv_eq_ediv_of_nonneg (by omega)]; omega
        have HN : Hid (V a = k * 2 ^ (e + 1 + 1074).toNat) := Lib.hid (by
          rw [HV.out, show (e + 1 + 1074).toNat = (e + 1074).toNat + 1 by omega, Nat.pow_succ]; ac_rfl)
        obtain ⟨z, hz⟩ : ∃ z : Nat, z = 2 * k := ⟨_, rfl⟩
        rw [← hz] at hi1 hi2 hd1 hd2 hm
        rw [← hz]
        have hkm : k < 9007199254740992 := by omega
        clear hodd HV
        go_wp2_with fail
        go_roundg (-(e + 1)).toNat
        case measure => omega
        case rel => exact ⟨k, e + 1, rfl, by omega, by omega, hkm, HN.out, rfl, rfl, rfl⟩
    · obtain ⟨k, rfl⟩ : ∃ k : Nat, e = (k : Int) := ⟨e.toNat, by omega⟩
      have hw := pw_whole (V a) m k (by have := HV.out; rwa [show ((k : Int) + 1074).toNat = k + 1074 by omega] at this)
      have HW := Lib.hid hw.1
      have HF : Hid (FL a = m * 2 ^ k) := Lib.hid hw.2
      have HF0 : Hid (0 < FL a) := Lib.hid (by
        rcases Nat.eq_zero_or_pos (FL a) with g | g
        · exfalso
          have h1 := Nat.div_add_mod (V a) (2 ^ 1074)
          have h2 : V a / 2 ^ 1074 = 0 := g
          rw [h2, HW.out, Nat.mul_zero] at h1
          have := HV0.out
          omega
        · exact g)
      clear hw HV he hg he1
      go_wp2_with fail
      obtain ⟨wo, hwo⟩ : ∃ wo, wo = wr := ⟨_, rfl⟩
      subst hwo
      go_loopg [5, 6] k (fun g s5 s6 wr => ∃ m : Nat, m < 18446744073709551616 ∧ g ≤ 971 ∧ FL a = m * 2 ^ g ∧ s5 = .int .u64 m ∧ s6 = .int .i64 g ∧ wr = wo)
      case atStart => exact ⟨m, by omega, by omega, HF.out, rfl, rfl, rfl⟩
      case round =>
        clear HF hm
        obtain ⟨m, hm, hg, hf, rfl, rfl, rfl⟩ := hrel
        have HF := Lib.hid hf
        clear hf
        by_cases h0 : gk = 0
        · subst h0
          have hfm : FL a = m := by have := HF.out; rwa [Nat.pow_zero, Nat.mul_one] at this
          have hm0 : 0 < m := by rw [← hfm]; exact HF0.out
          by_cases hbig : 9223372036854775808 < m
          · have HE := Lib.hid (HNO.out (fun g => by have := g.2; omega))
            have hbi : (9223372036854775808 : Int) < (m : Int) := by omega
            clear hfm hbig
            go_wp2_with fail
            go_ret2
            exact HE.out
          · have hbi : ¬ (9223372036854775808 : Int) < (m : Int) := by omega
            by_cases heq : m = 9223372036854775808
            · have HE := Lib.hid (HNO.out (fun g => by have := g.2; omega))
              subst heq
              clear hfm hbig hm0 hbi
              go_wp2_with fail
              go_ret2
              exact HE.out
            · have HE := Lib.hid (HYES.out ⟨HW.out, by omega⟩)
              rw [hfm] at HE
              have hbe : ((m : Int) == 9223372036854775808) = false := by rw [beq_eq_false_iff_ne]; omega
              have hbe2 : ¬ (m : Int) = 9223372036854775808 := by omega
              have hml : (m : Int) < 9223372036854775808 := by omega
              clear hfm hbig heq
              go_wp2_with fail
              go_ret2
              exact HE.out
        · obtain ⟨j, rfl⟩ : ∃ j, gk = j + 1 := ⟨gk - 1, by omega⟩
          have hji : (0 : Int) < ((j + 1 : Nat) : Int) := by omega
          by_cases hbig : 9223372036854775808 ≤ m
          · have hlow : 18446744073709551616 ≤ FL a := by
              rw [HF.out, Nat.pow_succ]
              have h1 := Nat.two_pow_pos j
              exact Nat.le_trans (show 18446744073709551616 ≤ m * (1 * 2) by omega) (Nat.mul_le_mul_left _ (Nat.mul_le_mul_right _ h1))
            have HE := Lib.hid (HNO.out (fun g => by have := g.2; omega))
            have hbi : (9223372036854775808 : Int) ≤ (m : Int) := by omega
            clear hlow h0
            go_wp2_with fail
            go_ret2
            exact HE.out
          · have hbi : ¬ (9223372036854775808 : Int) ≤ (m : Int) := by omega
            have HN : Hid (FL a = m * 2 * 2 ^ j) := Lib.hid (by rw [HF.out, Nat.pow_succ]; ac_rfl)
            clear h0
            go_wp2_with fail
            go_roundg j
            case measure => omega
            case rel => exact ⟨m * 2, by omega, by omega, HN.out, by go_num, by go_num, rfl⟩

set_option maxRecDepth 100000 in
set_option maxHeartbeats 4000000 in
theorem rint_neg (x a : Nat) (w : World) (hx : x = a + 9223372036854775808) (h0 : 0 < a) (h1 : a < 9218868437227405312) :
    Calls Tryz.prog 16 #[.int .u64 x] w (RintPost x w) := by
  have HPA : Hid (∀ W, Calls Tryz.prog 47 #[.int .u64 a] W fun e w' => (∃ (m : Nat) (x : Int), e = .returned (.tuple #[.int .u64 m, .int .i64 x]) ∧ -1074 ≤ x ∧ x ≤ 971 ∧ m < 9007199254740992 ∧ V a = m * 2 ^ (x + 1074).toNat) ∧ w' = W) := Lib.hid fun W => parts_any a W h1
  have hng : ngB x = true := by unfold ngB; rw [decide_eq_true_eq]; omega
  have hru : ru x = a := by unfold ru; omega
  have HV0 : Hid (0 < V a) := Lib.hid (by have := V_mono h0; rwa [V_zero] at this)
  have HOK : Hid (intOK x ↔ WhN a) := Lib.hid (by
    unfold intOK WhN
    rw [hng, hru]
    simp only [if_true]
    exact ⟨fun h => h.2, fun h => ⟨h1, h⟩⟩)
  have HNO : Hid (¬ WhN a → RintPost x w (.returned (.tuple #[.int .i64 0, .bool false])) w) := Lib.hid fun h => by
    refine ⟨?_, rfl⟩
    rw [intV_no x (fun g => h (HOK.out.1 g))]
  have HYES : Hid (WhN a → RintPost x w (.returned (.tuple #[.int .i64 (-(FL a : Int)), .bool true])) w) := Lib.hid fun h => by
    refine ⟨?_, rfl⟩
    rw [intV_neg x (HOK.out.2 h) hng, hru]
  clear HOK
  clear hng hru
  subst hx
  have hai : (a : Int) < 9218868437227405312 := by omega
  have ha0 : ((a : Int) == 0) = false := by rw [beq_eq_false_iff_ne]; omega
  have ha0n : ¬ (a : Int) = 0 := by omega
  have hpc : ((a + 9223372036854775808 : Nat) : Int) = (a : Int) + 9223372036854775808 := by omega
  have hps : (a : Int) + 9223372036854775808 - 9223372036854775808 = (a : Int) := by omega
  have hpg : 9223372036854775808 ≤ (a : Int) + 9223372036854775808 := by omega
  have hai2 : ¬ 9218868437227405312 ≤ (a : Int) := by omega
  clear h0 h1
  go_enter Tryz.func16, Tryz.ntmps16
  go_wp2_with fail
  refine (HPA.out _).mono ?_
  rintro e w1 ⟨⟨m0, x0, rfl, hx1, hx2, hm, hv⟩, rfl⟩
  have HVV := Lib.hid hv
  clear hv HPA
  go_wp2_with fail
  clear ha0 ha0n hai hai2 hpg hpc hps
  go_loopg [5, 6] (-x0).toNat (fun g s5 s6 wr => ∃ (m : Nat) (e : Int), g = (-e).toNat ∧ -1074 ≤ e ∧ e ≤ 971 ∧ m < 9007199254740992 ∧ V a = m * 2 ^ (e + 1074).toNat ∧ s5 = .int .u64 m ∧ s6 = .int .i64 e ∧ wr = w1)
  case atStart => exact ⟨m0, x0, rfl, hx1, hx2, hm, HVV.out, rfl, rfl, rfl⟩
  case round =>
    clear HVV hx1 hx2 hm
    obtain ⟨m, e, hg, he1, he2, hm, hv, rfl, rfl, rfl⟩ := hrel
    have HV := Lib.hid hv
    clear hv
    by_cases he : e < 0
    · by_cases hodd : m % 2 = 1
      · have HE := Lib.hid (HNO.out (fun g => pw_odd _ m _ HV.out (by omega) hodd g.1))
        have hi1 : (m : Int) % 2 = 1 := by omega
        have hi2 : (m : Int).tmod 2 = 1 := by rw [Int.tmod_eq_emod_of_nonneg (by omega)]; omega
        clear hodd
        go_wp2_with fail
        go_ret2
        exact HE.out
      · have hi1 : (m : Int) % 2 = 0 := by omega
        have hi2 : (m : Int).tmod 2 = 0 := by rw [Int.tmod_eq_emod_of_nonneg (by omega)]; omega
        obtain ⟨k, rfl⟩ : ∃ k, m = 2 * k := ⟨m / 2, by omega⟩
        have hd1 : ((2 * k : Nat) : Int) / 2 = (k : Int) := by omega
        have hd2 : ((2 * k : Nat) : Int).tdiv 2 = (k : Int) := by rw [Int.tdiv_eq_ediv_of_nonneg (by omega)]; omega
        have HN : Hid (V a = k * 2 ^ (e + 1 + 1074).toNat) := Lib.hid (by
          rw [HV.out, show (e + 1 + 1074).toNat = (e + 1074).toNat + 1 by omega, Nat.pow_succ]; ac_rfl)
        obtain ⟨z, hz⟩ : ∃ z : Nat, z = 2 * k := ⟨_, rfl⟩
        rw [← hz] at hi1 hi2 hd1 hd2 hm
        rw [← hz]
        have hkm : k < 9007199254740992 := by omega
        clear hodd HV
        go_wp2_with fail
        go_roundg (-(e + 1)).toNat
        case measure => omega
        case rel => exact ⟨k, e + 1, rfl, by omega, by omega, hkm, HN.out, rfl, rfl, rfl⟩
    · obtain ⟨k, rfl⟩ : ∃ k : Nat, e = (k : Int) := ⟨e.toNat, by omega⟩
      have hw := pw_whole (V a) m k (by have := HV.out; rwa [show ((k : Int) + 1074).toNat = k + 1074 by omega] at this)
      have HW := Lib.hid hw.1
      have HF : Hid (FL a = m * 2 ^ k) := Lib.hid hw.2
      have HF0 : Hid (0 < FL a) := Lib.hid (by
        rcases Nat.eq_zero_or_pos (FL a) with g | g
        · exfalso
          have h1 := Nat.div_add_mod (V a) (2 ^ 1074)
          have h2 : V a / 2 ^ 1074 = 0 := g
          rw [h2, HW.out, Nat.mul_zero] at h1
          have := HV0.out
          omega
        · exact g)
      clear hw HV he hg he1
      go_wp2_with fail
      obtain ⟨wo, hwo⟩ : ∃ wo, wo = wr := ⟨_, rfl⟩
      subst hwo
      go_loopg [5, 6] k (fun g s5 s6 wr => ∃ m : Nat, m < 18446744073709551616 ∧ g ≤ 971 ∧ FL a = m * 2 ^ g ∧ s5 = .int .u64 m ∧ s6 = .int .i64 g ∧ wr = wo)
      case atStart => exact ⟨m, by omega, by omega, HF.out, rfl, rfl, rfl⟩
      case round =>
        clear HF hm
        obtain ⟨m, hm, hg, hf, rfl, rfl, rfl⟩ := hrel
        have HF := Lib.hid hf
        clear hf
        by_cases h0 : gk = 0
        · subst h0
          have hfm : FL a = m := by have := HF.out; rwa [Nat.pow_zero, Nat.mul_one] at this
          have hm0 : 0 < m := by rw [← hfm]; exact HF0.out
          by_cases hbig : 9223372036854775808 < m
          · have HE := Lib.hid (HNO.out (fun g => by have := g.2.2; omega))
            have hbi : (9223372036854775808 : Int) < (m : Int) := by omega
            clear hfm hbig
            go_wp2_with fail
            go_ret2
            exact HE.out
          · have HE := Lib.hid (HYES.out ⟨HW.out, by omega, by omega⟩)
            rw [hfm] at HE
            have hbi : ¬ (9223372036854775808 : Int) < (m : Int) := by omega
            have hmi : -((m : Int) - 1) - 1 = -(m : Int) := by omega
            by_cases heq : m = 9223372036854775808
            · subst heq
              clear hfm hbig hm0 hmi
              go_wp2_with fail
              go_ret2
              exact HE.out
            · have hbe : ((m : Int) == 9223372036854775808) = false := by rw [beq_eq_false_iff_ne]; omega
              have hbe2 : ¬ (m : Int) = 9223372036854775808 := by omega
              clear hfm hbig heq
              go_wp2_with fail
              go_ret2
              exact HE.out
        · obtain ⟨j, rfl⟩ : ∃ j, gk = j + 1 := ⟨gk - 1, by omega⟩
          have hji : (0 : Int) < ((j + 1 : Nat) : Int) := by omega
          by_cases hbig : 9223372036854775808 ≤ m
          · have hlow : 18446744073709551616 ≤ FL a := by
              rw [HF.out, Nat.pow_succ]
              have h1 := Nat.two_pow_pos j
              exact Nat.le_trans (show 18446744073709551616 ≤ m * (1 * 2) by omega) (Nat.mul_le_mul_left _ (Nat.mul_le_mul_right _ h1))
            have HE := Lib.hid (HNO.out (fun g => by have := g.2; omega))
            have hbi : (9223372036854775808 : Int) ≤ (m : Int) := by omega
            clear hlow h0
            go_wp2_with fail
            go_ret2
            exact HE.out
          · have hbi : ¬ (9223372036854775808 : Int) ≤ (m : Int) := by omega
            have HN : Hid (FL a = m * 2 * 2 ^ j) := Lib.hid (by rw [HF.out, Nat.pow_succ]; ac_rfl)
            clear h0
            go_wp2_with fail
            go_roundg j
            case measure => omega
            case rel => exact ⟨m * 2, by omega, by omega, HN.out, by go_num, by go_num, rfl⟩


/-- the reference's Int, at every number -/
theorem rint_any (x : Nat) (w : World) (hx : x < 18446744073709551616) : Calls Tryz.prog 16 #[.int .u64 x] w (RintPost x w) := by
  by_cases hn : 9223372036854775808 ≤ x
  · obtain ⟨a, ha⟩ : ∃ a, x = a + 9223372036854775808 := ⟨x - 9223372036854775808, by omega⟩
    rcases Nat.eq_zero_or_pos a with h0 | h0
    · subst h0
      obtain rfl : x = 9223372036854775808 := by omega
      have HE : Hid (intV 9223372036854775808 = (0, false)) := Lib.hid (intV_no _ (fun h => by
        have h1 := h.2.2
        rw [show ngB 9223372036854775808 = true from by decide, show ru 9223372036854775808 = 0 from by decide] at h1
        simp only [if_true] at h1
        exact h1.1 (by unfold FL; rw [V_zero, Nat.zero_div])))
      clear hx hn ha
      go_enter Tryz.func16, Tryz.ntmps16
      go_wp2_with fail
      go_ret2
      exact ⟨by rw [HE.out]; rfl, rfl⟩
    · rcases Nat.lt_or_ge a 9218868437227405312 with h1 | h1
      · exact rint_neg x a w ha h0 h1
      · have HE : Hid (intV x = (0, false)) := Lib.hid (intV_no _ (fun h => by
          have h1 := h.1
          unfold ru at h1
          omega))
        subst ha
        have hpc : ((a + 9223372036854775808 : Nat) : Int) = (a : Int) + 9223372036854775808 := by omega
        have hps : (a : Int) + 9223372036854775808 - 9223372036854775808 = (a : Int) := by omega
        have hpg : 9223372036854775808 ≤ (a : Int) + 9223372036854775808 := by omega
        have hax : (a : Int) < 9223372036854775808 := by omega
        have ha0 : ((a : Int) == 0) = false := by rw [beq_eq_false_iff_ne]; omega
        have ha0n : ¬ (a : Int) = 0 := by omega
        have hai : (9218868437227405312 : Int) ≤ (a : Int) := by omega
        clear h0 h1 hx hn
        go_enter Tryz.func16, Tryz.ntmps16
        go_wp2_with fail
        go_ret2
        exact ⟨by rw [HE.out]; rfl, rfl⟩
  · rcases Nat.eq_zero_or_pos x with h0 | h0
    · subst h0
      have HE : Hid (intV 0 = (0, true)) := Lib.hid (by
        have h1 : intOK 0 := ⟨by decide, by rw [show ru 0 = 0 from rfl, V_zero, Nat.zero_mod], by
          rw [show ngB 0 = false from by decide, show ru 0 = 0 from rfl]
          simp only [Bool.false_eq_true, if_false]
          unfold FL
          rw [V_zero, Nat.zero_div]; decide⟩
        rw [intV_pos 0 h1 (by decide), show ru 0 = 0 from rfl]
        unfold FL
        rw [V_zero, Nat.zero_div]; rfl)
      clear hx hn
      go_enter Tryz.func16, Tryz.ntmps16
      go_wp2_with fail
      go_ret2
      exact ⟨by rw [HE.out]; rfl, rfl⟩
    · rcases Nat.lt_or_ge x 9218868437227405312 with h1 | h1
      · exact rint_pos x x w rfl h0 h1
      · have HE : Hid (intV x = (0, false)) := Lib.hid (intV_no _ (fun h => by
          have h1 := h.1
          unfold ru at h1
          omega))
        have hpg : ¬ 9223372036854775808 ≤ (x : Int) := by omega
        have ha0 : ((x : Int) == 0) = false := by rw [beq_eq_false_iff_ne]; omega
        have ha0n : ¬ (x : Int) = 0 := by omega
        have hai : (9218868437227405312 : Int) ≤ (x : Int) := by omega
        clear h0 h1 hx hn
        go_enter Tryz.func16, Tryz.ntmps16
        go_wp2_with fail
        go_ret2
        exact ⟨by rw [HE.out]; rfl, rfl⟩
end Go.Proofs.YtmhagigokgklaaaGreatDoor

/- NumInts, walked: it returns true. -/
namespace Go.Proofs.YtmhagigokgklaaaGreatDoor
open Go Go.RowKit Go.Sort Go.Lib

set_option maxRecDepth 100000 in
set_option maxHeartbeats 4000000 in
theorem ints_walk (n m : Int) (K : Nat) (w : World) (hG : Globs w) (hT : GlobT K w) (hn : -9223372036854775808 ≤ n ∧ n ≤ 9223372036854775807) (hm : 0 ≤ m ∧ m ≤ 18446744073709551615) :
    Calls Tryz.prog 5 #[.int .i64 n, .int .u64 m] w fun e w' => e = .returned (.bool true) ∧ Below w.heap.size w w' := by
  obtain ⟨x, rfl⟩ : ∃ x : Nat, m = x := ⟨m.toNat, by omega⟩
  have hx : x < 18446744073709551616 := by omega
  clear hm
  have HW := Lib.hid (works_any K w hG hT)
  have HOI : Hid (∀ W : World, Calls Tryz.prog 17 #[.int .i64 n] W fun e w' => e = .returned (.int .u64 (oiN n)) ∧ w' = W) := Lib.hid fun W => ofint_any n W
  have HRO : Hid (∀ W : World, Calls Tryz.prog 18 #[.int .i64 n] W fun e w' => e = .returned (.int .u64 (oiN n)) ∧ Below W.heap.size W w') := Lib.hid fun W => rofint_any n W hn
  have HIN : Hid (∀ W : World, Calls Tryz.prog 15 #[.int .u64 x] W fun e w' => e = .returned (.tuple #[.int .i64 (intV x).1, .bool (intV x).2]) ∧ Below W.heap.size W w') := Lib.hid fun W => int_any x W hx
  have HRI : Hid (∀ W : World, Calls Tryz.prog 16 #[.int .u64 x] W fun e w' => e = .returned (.tuple #[.int .i64 (intV x).1, .bool (intV x).2]) ∧ w' = W) := Lib.hid fun W => rint_any x W hx
  generalize oiN n = o at *
  rcases hix : intV x with ⟨y, b⟩
  rw [hix] at HIN HRI
  clear hG hT hix hn
  go_enter Tryz.func5, Tryz.ntmps5
  go_wp2_with fail
  refine HW.out.mono ?_
  rintro e w1 ⟨rfl, hb1⟩
  have B1 := Lib.hid hb1
  clear hb1
  go_wp2_with fail
  refine (HIN.out _).mono ?_
  rintro e w2 ⟨rfl, hb2⟩
  have B2 := Lib.hid (B1.out.trans (hb2.mono B1.out.size))
  clear hb2
  go_wp2_with fail
  refine (HRI.out _).mono ?_
  rintro e w3 ⟨rfl, rfl⟩
  go_wp2_with fail
  refine (HOI.out _).mono ?_
  rintro e w4 ⟨rfl, rfl⟩
  go_wp2_with fail
  refine (HRO.out _).mono ?_
  rintro e w5 ⟨rfl, hb5⟩
  have B5 := Lib.hid (B2.out.trans (hb5.mono B2.out.size))
  clear hb5
  go_wp2_with fail
  go_ret
  exact ⟨rfl, B5.out⟩
end Go.Proofs.YtmhagigokgklaaaGreatDoor
