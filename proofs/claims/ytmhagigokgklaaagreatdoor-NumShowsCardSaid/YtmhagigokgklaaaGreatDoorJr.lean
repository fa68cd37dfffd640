/- Joined texts: Tc Td Te. Each begins with its own remark. -/
import Derived.Test.YtmhagigokgklaaaGreatDoorJq

/- The reference's shortest digits (walked). -/
namespace Go.Proofs.YtmhagigokgklaaaGreatDoor
open Go Go.RowKit Go.Sort Go.Lib
set_option exponentiation.threshold 5000

theorem ten_neg (v : Value) (x : Int) (w : World) (hx : x < 0) :
    Calls Tryz.prog 78 #[v, .int .i64 x] w fun e w' => e = .returned v ∧ w' = w := by
  go_enter Tryz.func78, Tryz.ntmps78
  go_wp2_with fail
  go_loopg [0, 5] 0 (fun g s0 s5 wr => g ≤ 0 ∧ s0 = v ∧ s5 = .int .i64 0 ∧ wr = w)
  case atStart => exact ⟨Nat.le_refl _, rfl, rfl, rfl⟩
  case round =>
    obtain ⟨_, rfl, rfl, rfl⟩ := hrel
    have hx0 : ¬ (0 : Int) < x := by omega
    go_wp2_with fail
    go_ret
    exact ⟨rfl, rfl⟩

theorem same_sig {d d' : Nat} {q q' : Int} (h : SameV d q d' q') (h1 : 1 ≤ d) (h2 : 1 ≤ d') : sig d = sig d' ∧ ((nDigits d : Nat) : Int) + q = (nDigits d' : Nat) + q' := by
  obtain ⟨k, ⟨rfl, rfl⟩ | ⟨rfl, rfl⟩⟩ := h
  · rw [sig_tens d' h2 k, nd_tens d' h2 k]
    exact ⟨rfl, by push_cast; omega⟩
  · rw [sig_tens d h1 k, nd_tens d h1 k]
    exact ⟨rfl, by push_cast; omega⟩

/-- the two numbers of parts, held against V -/
theorem parts_ratio (a m : Nat) (x : Int) (P Q : Nat) (hx : -1074 ≤ x) (hv : V a = m * 2 ^ (x + 1074).toNat) (hP : P = m * 2 ^ x.toNat) (hQ : Q = 2 ^ (-x).toNat) : P * 2 ^ 1074 = V a * Q := by
  subst hP hQ
  rw [hv, Nat.mul_assoc, Nat.mul_assoc, ← Nat.pow_add, ← Nat.pow_add]
  congr 2
  omega
theorem ratio_lev (a P Q : Nat) (j : Int) (h : P * 2 ^ 1074 = V a * Q) : P * 10 ^ j.toNat * DE j = NU a j * (Q * 10 ^ (-j).toNat) := by
  unfold DE NU
  generalize 2 ^ 1074 = W at *
  generalize 10 ^ j.toNat = s
  generalize 10 ^ (-j).toNat = t
  rw [show P * s * (W * t) = P * W * (s * t) from by ac_rfl, h]
  ac_rfl
theorem lev_iff (a P Q : Nat) (j : Int) (hQ : 0 < Q) (h : P * 2 ^ 1074 = V a * Q) : DE j ≤ NU a j ↔ Q * 10 ^ (-j).toNat ≤ P * 10 ^ j.toNat := by
  have e := ratio_lev a P Q j h
  have hD := DE_pos j
  have hY : 0 < Q * 10 ^ (-j).toNat := Nat.mul_pos hQ (Nat.pow_pos (by decide))
  generalize Q * 10 ^ (-j).toNat = Y at *
  generalize P * 10 ^ j.toNat = X at *
  generalize DE j = D at *
  generalize NU a j = n at *
  constructor
  · intro h1
    refine Nat.le_of_mul_le_mul_right ?_ hD
    rw [e, Nat.mul_comm]
    exact Nat.mul_le_mul_right _ h1
  · intro h1
    refine Nat.le_of_mul_le_mul_right ?_ hY
    rw [← e, Nat.mul_comm]
    exact Nat.mul_le_mul_right _ h1

theorem int_beq (r a : Nat) : ((r : Int) == (a : Int)) = decide (r = a) := by
  by_cases h : r = a
  · rw [h, decide_eq_true rfl, beq_iff_eq]
  · rw [decide_eq_false h, beq_eq_false_iff_ne]; omega
/-- what is read of digits is the number, or is not -/
theorem in_read (a d : Nat) (j : Int) (r : Nat) (h : Near (dX d (-j)) (dQ (-j)) r) : ((r : Int) == (a : Int)) = inB a j d := by
  rw [int_beq]
  by_cases hr : r = a
  · rw [decide_eq_true hr]
    rw [hr] at h
    exact (inB_iff.2 h).symm
  · rw [decide_eq_false hr]
    cases hb : inB a j d
    · rfl
    · exact absurd (near_unique h (inB_iff.1 hb)) hr

/-- the first digit's place -/
def ShInv (P Q : Nat) (x : Int) : Prop := (0 < x ∧ Q * 10 ^ x.toNat ≤ P) ∨ (x ≤ 0 ∧ P * 10 ^ (-x).toNat < 10 * Q)

theorem pow_room (b P K : Nat) (h : 10 ^ b ≤ P) (hP : P < 2 ^ K) : b < K := by
  have h1 : 2 ^ b ≤ 10 ^ b := Nat.pow_le_pow_left (by decide) b
  exact (Nat.pow_lt_pow_iff_right (show 1 < 2 by decide)).1 (Nat.lt_of_le_of_lt (Nat.le_trans h1 h) hP)

theorem fl_pos (a : Nat) (x : Int) (n : Nat) (hn : 1 ≤ n) (hx1 : DE (-x) ≤ NU a (-x)) : 1 ≤ flJ a ((n : Int) - 1 - x) := by
  have h : 10 ^ (n - 1) ≤ flJ a ((n : Int) - 1 - x) := by
    rw [fl_ge]
    have g := (lev_le a 1 (-x) (n - 1)).1 (by rwa [Nat.one_mul])
    rwa [Nat.one_mul, show -x + ((n - 1 : Nat) : Int) = (n : Int) - 1 - x from by omega] at g
  exact Nat.le_trans (Nat.pow_pos (by decide)) h

def ShPost (a : Nat) (w : World) (e : Ending) (w' : World) : Prop := (∃ (D : Nat) (q : Int), SameV D q (shN a).1 (shN a).2 ∧ 1 ≤ D ∧ D ≤ 1152921504606846976 ∧ e = .returned (.tuple #[.string ⟨(decDigits D).toArray⟩, .int .i64 (((nDigits D : Nat) : Int) + q)])) ∧ Below w.heap.size w w'

set_option maxRecDepth 100000 in
set_option maxHeartbeats 4000000 in
theorem shortest_any (a : Nat) (w : World) (h1 : 0 < a) (h2 : a < 9218868437227405312) :
    Calls Tryz.prog 43 #[.int .u64 a] w (ShPost a w) := by
  have HPA : Hid (∀ W, Calls Tryz.prog 47 #[.int .u64 a] W fun e w' => (∃ (m : Nat) (x : Int), e = .returned (.tuple #[.int .u64 m, .int .i64 x]) ∧ -1074 ≤ x ∧ x ≤ 971 ∧ m < 9007199254740992 ∧ V a = m * 2 ^ (x + 1074).toNat) ∧ w' = W) := Lib.hid fun W => parts_any a W h2
  have HLA : Hid (∀ (m : Nat) (W : World), m < 9007199254740992 → Calls Tryz.prog 48 #[.int .u64 m] W fun e w' => (∃ v', e = .returned v' ∧ IsNum w' v' m) ∧ Below W.heap.size W w') := Lib.hid fun m W hm => large_any m W (by omega)
  have HV0 : Hid (0 < V a) := Lib.hid (by
    rcases Nat.eq_zero_or_pos (V a) with g | g
    · exfalso
      have := V_lt_succ (a - 1)
      rw [Nat.sub_add_cancel h1] at this
      omega
    · exact g)
  have HSH : Hid (∀ (v : Value) (x n : Nat) (W : World), IsNum W v x → x < 256 ^ 10 → n ≤ 2000 → Calls Tryz.prog 66 #[v, .int .i64 n] W fun e w' => (∃ v', e = .returned v' ∧ IsNum w' v' (x * 2 ^ n)) ∧ Below W.heap.size W w') := Lib.hid fun v x n W h hx hn => shift_any v x n 10 W h (by decide) hx (by omega)
  have HREF : Hid (∀ x : Int, DE (-x) ≤ NU a (-x) → NU a (-(x + 1)) < DE (-(x + 1)) → ∃ n0 : Nat, 1 ≤ n0 ∧ n0 ≤ 19 ∧ candJ a ((n0 : Int) - 1 - x) ∧ (∀ n : Nat, 1 ≤ n → n ≤ n0 → flJ a ((n : Int) - 1 - x) < 1152921504606846976) ∧
      ∀ n : Nat, 1 ≤ n → candJ a ((n : Int) - 1 - x) → (∀ k : Nat, 1 ≤ k → k < n → ¬ candJ a ((k : Int) - 1 - x)) → SameV (resJ a ((n : Int) - 1 - x)) (x - n + 1) (shN a).1 (shN a).2) := Lib.hid fun x g1 g2 => ref_any a h1 h2 x g1 g2
  have hai : (a : Int) < 18446744073709551616 := by omega
  clear h1 h2
  go_enter Tryz.func43, Tryz.ntmps43
  go_wp2_with fail
  refine (HPA.out _).mono ?_
  rintro e w1 ⟨⟨m, x, rfl, hx1, hx2, hm, hv⟩, rfl⟩
  have HVV := Lib.hid hv
  have hm0 : 0 < m := by
    rcases Nat.eq_zero_or_pos m with g | g
    · have := HV0.out
      rw [hv, g, Nat.zero_mul] at this
      omega
    · exact g
  clear hv HPA
  go_wp2_with fail
  refine (HLA.out m _ hm).mono ?_
  rintro e w2 ⟨⟨vm, rfl, hvm⟩, hb2⟩
  have HM2 := Lib.hid hvm
  have HB2 := Lib.hid hb2
  clear hvm hb2 HLA
  have HQ1 : Hid (IsNum (w2.alloc (.cells #[.int .u8 1] 5)) (.slice (some ⟨w2.heap.size, 0, Option.none⟩) 1 1) 1) := Lib.hid (one_num w2)
  have HBA : Hid (Below w2.heap.size w2 (w2.alloc (.cells #[.int .u8 1] 5))) := Lib.hid ((Below.refl _ _).alloc (Nat.le_refl _) _)
  have HSHM : Hid (∀ n : Nat, n ≤ 2000 → Calls Tryz.prog 66 #[vm, .int .i64 n] (w2.alloc (.cells #[.int .u8 1] 5)) fun e w' => (∃ v', e = .returned v' ∧ IsNum w' v' (m * 2 ^ n)) ∧ Below (w2.alloc (.cells #[.int .u8 1] 5)).heap.size (w2.alloc (.cells #[.int .u8 1] 5)) w') := Lib.hid fun n hn => HSH.out vm m n _ (HM2.out.go HBA.out) (Nat.lt_of_lt_of_le hm (by decide)) hn
  have HSHQ : Hid (∀ n : Nat, n ≤ 2000 → Calls Tryz.prog 66 #[.slice (some ⟨w2.heap.size, 0, Option.none⟩) 1 1, .int .i64 n] (w2.alloc (.cells #[.int .u8 1] 5)) fun e w' => (∃ v', e = .returned v' ∧ IsNum w' v' (1 * 2 ^ n)) ∧ Below (w2.alloc (.cells #[.int .u8 1] 5)).heap.size (w2.alloc (.cells #[.int .u8 1] 5)) w') := Lib.hid fun n hn => HSH.out _ 1 n _ HQ1.out (by decide) hn
  have hcase : (∃ n : Nat, x = (n : Int) ∧ n ≤ 971) ∨ (∃ n : Nat, x = -((n + 1 : Nat) : Int) ∧ n + 1 ≤ 1074) := by
    by_cases h0 : 0 ≤ x
    · exact .inl ⟨x.toNat, by omega, by omega⟩
    · exact .inr ⟨(-x).toNat - 1, by omega, by omega⟩
  have HMB : Hid (∀ n : Nat, n ≤ 1074 → m * 2 ^ n < 2 ^ 1130 ∧ 1 * 2 ^ n < 2 ^ 1100) := Lib.hid fun n hn => by
    constructor
    · have h1 : m * 2 ^ n < 2 ^ 53 * 2 ^ n := (Nat.mul_lt_mul_right (Nat.two_pow_pos n)).2 (Nat.lt_of_lt_of_le hm (by decide))
      rw [← Nat.pow_add] at h1
      exact Nat.lt_of_lt_of_le h1 (Nat.pow_le_pow_right (by decide) (by omega))
    · rw [Nat.one_mul]
      exact (Nat.pow_lt_pow_iff_right (by decide)).2 (by omega)
  have hx2k : x ≤ 2000 := by omega
  have hm0k := hm0
  clear HSH hm hai
  go_upto_if 26 with (fail)
  go_cut [6, 7] from 25 to 33 (fun s6 s7 wx => ∃ (vp vq : Value) (P Q : Nat), s6 = vp ∧ s7 = vq ∧ P * 2 ^ 1074 = V a * Q ∧ 0 < P ∧ 0 < Q ∧ P < 2 ^ 1130 ∧ Q < 2 ^ 1100 ∧ IsNum wx vp P ∧ IsNum wx vq Q ∧ Below w1.heap.size w1 wx)
  case first =>
    rcases hcase with ⟨n, rfl, hn⟩ | ⟨n, rfl, hn⟩
    · have HT := Lib.hid (HSHM.out n (by omega))
      have HPR : Hid (m * 2 ^ n * 2 ^ 1074 = V a * 1) := Lib.hid (parts_ratio a m n (m * 2 ^ n) 1 (by omega) HVV.out (by rw [Int.toNat_natCast]) (by rw [show (-(n : Int)).toNat = 0 by omega, Nat.pow_zero]))
      have HPB := Lib.hid (HMB.out n (by omega)).1
      have hn0 : (0 : Int) ≤ (n : Int) := by omega
      clear HSHM HSHQ HVV HMB
      go_wp2_with fail
      refine HT.out.mono ?_
      rintro e w5 ⟨⟨v5, rfl, hn5⟩, hb5⟩
      have H5 := Lib.hid hn5
      have B5 := Lib.hid hb5
      clear hn5 hb5 HT
      go_wp2_with fail
      go_meet
      exact ⟨_, _, m * 2 ^ n, 1, rfl, rfl, HPR.out, Nat.mul_pos hm0 (Nat.two_pow_pos n), by decide, HPB.out, by decide, H5.out, HQ1.out.go B5.out, (HB2.out.trans (HBA.out.mono HB2.out.size)).trans (B5.out.mono (HB2.out.trans (HBA.out.mono HB2.out.size)).size)⟩
    · have HT := Lib.hid (HSHQ.out (n + 1) (by omega))
      have HPR : Hid (m * 2 ^ 1074 = V a * (1 * 2 ^ (n + 1))) := Lib.hid (parts_ratio a m (-((n + 1 : Nat) : Int)) m (1 * 2 ^ (n + 1)) (by omega) HVV.out (by rw [show (-((n + 1 : Nat) : Int)).toNat = 0 by omega, Nat.pow_zero, Nat.mul_one]) (by rw [Int.neg_neg, Int.toNat_natCast, Nat.one_mul]))
      have HPB := Lib.hid (HMB.out 0 (by omega)).1
      have HQB := Lib.hid (HMB.out (n + 1) (by omega)).2
      have hn0 : ¬ (0 : Int) ≤ -((n + 1 : Nat) : Int) := by omega
      have hnn : -(-((n + 1 : Nat) : Int)) = ((n + 1 : Nat) : Int) := by omega
      generalize ((n + 1 : Nat) : Int) = N at *
      clear HSHM HSHQ HVV HMB
      go_wp2_with fail
      refine HT.out.mono ?_
      rintro e w5 ⟨⟨v5, rfl, hn5⟩, hb5⟩
      have H5 := Lib.hid hn5
      have B5 := Lib.hid hb5
      clear hn5 hb5 HT
      go_wp2_with fail
      go_meet
      exact ⟨_, _, m, 1 * 2 ^ (n + 1), rfl, rfl, HPR.out, hm0, Nat.mul_pos (by decide) (Nat.two_pow_pos _), by have := HPB.out; rwa [Nat.pow_zero, Nat.mul_one] at this, HQB.out, (HM2.out.go HBA.out).go B5.out, H5.out, (HB2.out.trans (HBA.out.mono HB2.out.size)).trans (B5.out.mono (HB2.out.trans (HBA.out.mono HB2.out.size)).size)⟩
  case rest =>
    clear HSHM HSHQ HVV HMB HQ1 HBA HM2 HB2 hcase hm0k hx2k hm0 hx1 hx2
    obtain ⟨vp, vq, P, Q, rfl, rfl, hPQ, hP0, hQ0, hP, hQ, hvp, hvq, hbw⟩ := hcut
    obtain ⟨vp, hvp0⟩ : ∃ v, v = u6 := ⟨_, rfl⟩
    subst hvp0
    obtain ⟨vq, hvq0⟩ : ∃ v, v = u7 := ⟨_, rfl⟩
    subst hvq0
    obtain ⟨wo, rfl⟩ : ∃ wo : World, wo = wc := ⟨_, rfl⟩
    have HPQ := Lib.hid hPQ
    have HPN := Lib.hid hvp
    have HQN := Lib.hid hvq
    have HBW := Lib.hid hbw
    have HP0 := Lib.hid hP0
    have HQ0 := Lib.hid hQ0
    have HP := Lib.hid hP
    have HQ := Lib.hid hQ
    have h256 : ∀ k n, n ≤ 8 * k → 2 ^ n ≤ 256 ^ k := fun k n h => by
      rw [show (256 : Nat) = 2 ^ 8 from by decide, ← Nat.pow_mul]
      exact Nat.pow_le_pow_right (by decide) h
    have HP2 : Hid (P < 256 ^ 142) := Lib.hid (Nat.lt_of_lt_of_le hP (h256 142 1130 (by decide)))
    have HQ2 : Hid (Q < 256 ^ 142) := Lib.hid (Nat.lt_of_lt_of_le hQ (h256 142 1100 (by decide)))
    have HPR1 : Hid (∀ b, 10 ^ b ≤ P → b ≤ 1130) := Lib.hid fun b h => Nat.le_of_lt (pow_room b P 1130 h hP)
    have HPR2 : Hid (∀ n, P * 10 ^ n < 10 * Q → n < 1104) := Lib.hid fun n h => by
      refine pow_room n (P * 10 ^ n) 1104 (Nat.le_mul_of_pos_left _ hP0) ?_
      have h1 : 10 * Q < 2 ^ 4 * 2 ^ 1100 := Nat.mul_lt_mul_of_lt_of_le (by decide) (Nat.le_of_lt hQ) (Nat.two_pow_pos 1100)
      rw [← Nat.pow_add] at h1
      omega
    clear hPQ hvp hvq hbw hP0 hQ0 hP hQ h256 HP HQ
    have HTEN : Hid (∀ (v : Value) (y n : Nat) (W : World), IsNum W v y → y < 256 ^ 2000 → n ≤ 2000 → Calls Tryz.prog 78 #[v, .int .i64 n] W fun e w' => (∃ v', e = .returned v' ∧ IsNum w' v' (y * 10 ^ n)) ∧ Below W.heap.size W w') := Lib.hid fun v y n W h hy hn => ten_any v y n 2000 W h (by decide) hy (by omega)
    have HCM : Hid (∀ (va vb : Value) (x y : Nat) (W : World), IsNum W va x → IsNum W vb y → x < 256 ^ 4000 → y < 256 ^ 4000 → Calls Tryz.prog 67 #[va, vb] W fun e w' => e = .returned (.int .i64 (cmpN x y)) ∧ Below W.heap.size W w') := Lib.hid fun va vb x y W ha hb hx hy => cmp_any va vb x y 4000 W ha hb (by decide) hx hy
    have HBG : Hid (∀ y n, y < 256 ^ 142 → n ≤ 1300 → y * 10 ^ n < 256 ^ 2000) := Lib.hid fun y n hy hn => by
      have h1 : 10 ^ n ≤ 256 ^ 1300 := Nat.le_trans (Nat.pow_le_pow_left (by decide) n) (Nat.pow_le_pow_right (by decide) hn)
      have h2 : y * 10 ^ n < 256 ^ 142 * 256 ^ 1300 := Nat.lt_of_lt_of_le ((Nat.mul_lt_mul_right (Nat.pow_pos (by decide))).2 hy) (Nat.mul_le_mul_left _ h1)
      rw [← Nat.pow_add] at h2
      exact Nat.lt_of_lt_of_le h2 (Nat.pow_le_pow_right (by decide) (by decide))
    have HB4 : Hid (256 ^ 2000 ≤ 256 ^ 4000) := Lib.hid (Nat.pow_le_pow_right (by decide) (by decide))
    have HB2 : Hid (256 ^ 142 ≤ 256 ^ 2000) := Lib.hid (Nat.pow_le_pow_right (by decide) (by decide))
    have HNEAR0 : Hid (∀ (j : Int) (X Y : Nat) (W : World), IsNum W vp P → IsNum W vq Q → (-2000 ≤ j ∧ j ≤ 2000) → P * 10 ^ j.toNat = X → Q * 10 ^ (-j).toNat = Y → X < 2 ^ 60 * Y → Calls Tryz.prog 79 #[vp, vq, .int .i64 j] W fun e w' => e = .returned (.tuple #[.int .u64 ((X / Y : Nat) : Int), .bool (decide (upG X Y = 0))]) ∧ Below W.heap.size W w') := Lib.hid fun j X Y W h1 h2 h3 h4 h5 h6 => near_any vp vq P Q 142 j X Y W h1 h2 HQ0.out (by decide) HP2.out HQ2.out h3 h4 h5 h6
    generalize 256 ^ 142 = C1 at *
    generalize 256 ^ 2000 = C2 at *
    generalize 256 ^ 4000 = C4 at *
    go_wp2_with fail
    go_loopg [8, 9] 1200 (fun g s8 s9 wr => ∃ k : Nat, k + g = 1200 ∧ s8 = .int .i64 k ∧ (k = 0 ∨ Q * 10 ^ k ≤ P) ∧ IsNum wr s9 (Q * 10 ^ k) ∧ Below wo.heap.size wo wr)
    case atStart => exact ⟨0, rfl, rfl, .inl rfl, by rw [Nat.pow_zero, Nat.mul_one]; exact HQN.out, Below.refl _ _⟩
    case round =>
      obtain ⟨k, hkg, rfl, hk, hnum, hb⟩ := hrel
      have hk1 : k ≤ 1130 := by
        rcases hk with h | h
        · omega
        · exact HPR1.out k (Nat.le_trans (Nat.le_mul_of_pos_left _ HQ0.out) h)
      have HK := Lib.hid hk
      have HTN := Lib.hid hnum
      have HB := Lib.hid hb
      clear hk hnum hb
      have HT : Hid (∀ W : World, Below wr.heap.size wr W → Calls Tryz.prog 78 #[u9, .int .i64 1] W fun e w' => (∃ v', e = .returned v' ∧ IsNum w' v' (Q * 10 ^ (k + 1))) ∧ Below W.heap.size W w') := Lib.hid fun W hW => by
        have := HTEN.out u9 (Q * 10 ^ k) 1 W (HTN.out.go hW) (HBG.out _ _ HQ2.out (by omega)) (by decide)
        rwa [Nat.pow_one, Nat.mul_assoc, ← Nat.pow_succ] at this
      have HC : Hid (∀ (v : Value) (W : World), Below wr.heap.size wr W → IsNum W v (Q * 10 ^ (k + 1)) → Calls Tryz.prog 67 #[vp, v] W fun e w' => e = .returned (.int .i64 (cmpN P (Q * 10 ^ (k + 1)))) ∧ Below W.heap.size W w') := Lib.hid fun v W hW hv => HCM.out vp v _ _ W ((HPN.out.go HB.out).go hW) hv (Nat.lt_of_lt_of_le HP2.out (Nat.le_trans HB2.out HB4.out)) (Nat.lt_of_lt_of_le (HBG.out _ _ HQ2.out (by omega)) HB4.out)
      go_wp2_with fail
      refine (HT.out _ (Below.refl _ _)).mono ?_
      rintro e w5 ⟨⟨v5, rfl, hn5⟩, hb5⟩
      have H5 := Lib.hid hn5
      have B5 := Lib.hid hb5
      clear hn5 hb5
      go_wp2_with fail
      refine (HC.out _ _ B5.out H5.out).mono ?_
      rintro e w6 ⟨rfl, hb6⟩
      have B6 := Lib.hid (B5.out.trans (hb6.mono B5.out.size))
      clear hb6 H5 HC
      have HT6 := Lib.hid (HT.out w6 B6.out)
      clear HT
      by_cases hge : Q * 10 ^ (k + 1) ≤ P
      · have hc : cmpN P (Q * 10 ^ (k + 1)) = 0 ∨ cmpN P (Q * 10 ^ (k + 1)) = 1 := by
          unfold cmpN; rw [if_neg (by omega)]; split
          · exact .inr rfl
          · exact .inl rfl
        have HGE := Lib.hid hge
        have hc0 : (0 : Int) ≤ cmpN P (Q * 10 ^ (k + 1)) := by omega
        generalize cmpN P (Q * 10 ^ (k + 1)) = c at *
        clear hc hge
        go_wp2_with fail
        refine HT6.out.mono ?_
        rintro e w7 ⟨⟨v7, rfl, hn7⟩, hb7⟩
        have H7 := Lib.hid hn7
        have B7 := Lib.hid ((HB.out.trans (B6.out.mono HB.out.size)).trans (hb7.mono (HB.out.trans (B6.out.mono HB.out.size)).size))
        clear hn7 hb7
        go_wp2_with fail
        go_roundg (gk - 1)
        case measure => omega
        case rel => exact ⟨k + 1, by omega, by go_num, .inr HGE.out, H7.out, B7.out⟩
      · have hc : cmpN P (Q * 10 ^ (k + 1)) = -1 := by unfold cmpN; rw [if_pos (by omega)]
        rw [hc]
        have HSTART : Hid (ShInv P Q k ∧ P < Q * 10 ^ (k + 1)) := Lib.hid (by
          refine ⟨?_, by omega⟩
          rcases Nat.eq_zero_or_pos k with h | h
          · refine .inr ⟨by omega, ?_⟩
            subst h
            rw [Nat.zero_add, Nat.pow_one] at hge
            simp
            omega
          · refine .inl ⟨by omega, ?_⟩
            rw [Int.toNat_natCast]
            exact HK.out.resolve_left (by omega))
        have HBO := Lib.hid (HB.out.trans (B6.out.mono HB.out.size))
        clear hge hc HK HTN HT6 hkg HB B5 B6
        go_upto_block 2 with fail
        go_cut [8] from 44 to 56 (fun s8 wx => ∃ x : Int, s8 = .int .i64 x ∧ -1200 ≤ x ∧ x ≤ 1200 ∧ DE (-x) ≤ NU a (-x) ∧ NU a (-(x + 1)) < DE (-(x + 1)) ∧ Below wo.heap.size wo wx)
        case first =>
          go_wp2_with fail
          go_loopg [8] 1300 (fun g s8 wr => ∃ x : Int, g ≤ 1300 ∧ (x = (k : Int) ∨ x ≤ 0) ∧ (1300 : Int) - g = (if x ≤ 0 then -x else 0) ∧ s8 = .int .i64 x ∧ ShInv P Q x ∧ Below wo.heap.size wo wr)
          case atStart => exact ⟨k, Nat.le_refl _, .inl rfl, by split <;> omega, rfl, HSTART.out.1, HBO.out⟩
          case round =>
            obtain ⟨x, hg, hxk, hgx, rfl, hinv, hb⟩ := hrel
            have HIV := Lib.hid hinv
            have HB := Lib.hid hb
            have HBEF := HSTART.out.2
            have HBEF := Lib.hid HBEF
            clear hinv hb HBO HSTART
            by_cases hx0 : 0 < x
            · obtain rfl : x = (k : Int) := by omega
              have hle : Q * 10 ^ k ≤ P := by
                rcases HIV.out with h | h
                · have := h.2; rwa [Int.toNat_natCast] at this
                · omega
              have hqp : Q ≤ P := Nat.le_trans (Nat.le_mul_of_pos_right _ (Nat.pow_pos (by decide))) hle
              have HFA : Hid (DE (-(k : Int)) ≤ NU a (-(k : Int)) ∧ NU a (-((k : Int) + 1)) < DE (-((k : Int) + 1))) := Lib.hid (by
                constructor
                · rw [lev_iff a P Q _ HQ0.out HPQ.out, Int.neg_neg, Int.toNat_natCast, show (-(k : Int)).toNat = 0 by omega, Nat.pow_zero, Nat.mul_one]
                  exact hle
                · refine Nat.lt_of_not_le fun h => ?_
                  rw [lev_iff a P Q _ HQ0.out HPQ.out, Int.neg_neg, show ((k : Int) + 1).toNat = k + 1 by omega, show (-((k : Int) + 1)).toNat = 0 by omega, Nat.pow_zero, Nat.mul_one] at h
                  have := HBEF.out
                  omega)
              have hc : 0 ≤ cmpN P Q := by unfold cmpN; rw [if_neg (by omega)]; split <;> omega
              have hc2 : -1 ≤ cmpN P Q ∧ cmpN P Q ≤ 1 := by unfold cmpN; rw [if_neg (by omega)]; split <;> omega
              have HTN : Hid (∀ W : World, Calls Tryz.prog 78 #[vp, .int .i64 (-(k : Int))] W fun e w' => e = .returned vp ∧ w' = W) := Lib.hid fun W => ten_neg vp _ W (by omega)
              have HC : Hid (∀ W : World, Below wr.heap.size wr W → Calls Tryz.prog 67 #[vp, vq] W fun e w' => e = .returned (.int .i64 (cmpN P Q)) ∧ Below W.heap.size W w') := Lib.hid fun W hW => HCM.out vp vq _ _ W ((HPN.out.go HB.out).go hW) ((HQN.out.go HB.out).go hW) (Nat.lt_of_lt_of_le HP2.out (Nat.le_trans HB2.out HB4.out)) (Nat.lt_of_lt_of_le HQ2.out (Nat.le_trans HB2.out HB4.out))
              generalize cmpN P Q = c at *
              clear hle hqp hg hgx hxk HIV HBEF
              go_wp2_with fail
              refine (HTN.out _).mono ?_
              rintro e w5 ⟨rfl, rfl⟩
              go_wp2_with fail
              refine (HC.out _ (Below.refl _ _)).mono ?_
              rintro e w6 ⟨rfl, hb6⟩
              have B6 := Lib.hid (HB.out.trans (hb6.mono HB.out.size))
              clear hb6
              go_wp2_with fail
              go_meet
              exact ⟨k, rfl, by omega, by omega, HFA.out.1, HFA.out.2, B6.out⟩
            · obtain ⟨n, rfl⟩ : ∃ n : Nat, x = -(n : Int) := ⟨(-x).toNat, by omega⟩
              have hinv : P * 10 ^ n < 10 * Q := by
                rcases HIV.out with h | h
                · omega
                · have := h.2; rwa [Int.neg_neg, Int.toNat_natCast] at this
              have hn1 : n < 1104 := HPR2.out n hinv
              have HINV := Lib.hid hinv
              have hnn : -(-(n : Int)) = (n : Int) := by omega
              have hgn : gk + n = 1300 := by
                rw [if_pos (by omega)] at hgx
                omega
              have HTN : Hid (∀ W : World, Below wr.heap.size wr W → Calls Tryz.prog 78 #[vp, .int .i64 n] W fun e w' => (∃ v', e = .returned v' ∧ IsNum w' v' (P * 10 ^ n)) ∧ Below W.heap.size W w') := Lib.hid fun W hW => HTEN.out vp P n W ((HPN.out.go HB.out).go hW) (Nat.lt_of_lt_of_le HP2.out HB2.out) (by omega)
              have HC : Hid (∀ (v : Value) (W : World), Below wr.heap.size wr W → IsNum W v (P * 10 ^ n) → Calls Tryz.prog 67 #[v, vq] W fun e w' => e = .returned (.int .i64 (cmpN (P * 10 ^ n) Q)) ∧ Below W.heap.size W w') := Lib.hid fun v W hW hv => HCM.out v vq _ _ W hv ((HQN.out.go HB.out).go hW) (Nat.lt_of_lt_of_le (HBG.out _ _ HP2.out (by omega)) HB4.out) (Nat.lt_of_lt_of_le HQ2.out (Nat.le_trans HB2.out HB4.out))
              by_cases hlt : P * 10 ^ n < Q
              · have hc : cmpN (P * 10 ^ n) Q = -1 := by unfold cmpN; rw [if_pos hlt]
                rw [hc] at HC
                have HNX : Hid (ShInv P Q (-(n : Int) - 1)) := Lib.hid (.inr ⟨by omega, by
                  rw [show (-(-(n : Int) - 1)).toNat = n + 1 by omega, Nat.pow_succ, ← Nat.mul_assoc]
                  omega⟩)
                have hxle : -(n : Int) ≤ 0 := by omega
                clear hc hlt hinv HIV HBEF hxk hgx
                go_wp2_with fail
                refine (HTN.out _ (Below.refl _ _)).mono ?_
                rintro e w5 ⟨⟨v5, rfl, hn5⟩, hb5⟩
                have H5 := Lib.hid hn5
                have B5 := Lib.hid hb5
                clear hn5 hb5
                go_wp2_with fail
                refine (HC.out _ _ B5.out H5.out).mono ?_
                rintro e w6 ⟨rfl, hb6⟩
                have B6 := Lib.hid (HB.out.trans ((B5.out.trans (hb6.mono B5.out.size)).mono HB.out.size))
                clear hb6
                go_wp2_with fail
                go_roundg (gk - 1)
                case measure => omega
                case rel => exact ⟨-(n : Int) - 1, by omega, .inr (by omega), by rw [if_pos (by omega)]; omega, by go_num, HNX.out, B6.out⟩
              · have hc : 0 ≤ cmpN (P * 10 ^ n) Q := by unfold cmpN; rw [if_neg hlt]; split <;> omega
                have hc2 : -1 ≤ cmpN (P * 10 ^ n) Q ∧ cmpN (P * 10 ^ n) Q ≤ 1 := by unfold cmpN; rw [if_neg hlt]; split <;> omega
                have HFA : Hid (DE (-(-(n : Int))) ≤ NU a (-(-(n : Int))) ∧ NU a (-(-(n : Int) + 1)) < DE (-(-(n : Int) + 1))) := Lib.hid (by
                  constructor
                  · rw [lev_iff a P Q _ HQ0.out HPQ.out, show (-(-(-(n : Int)))).toNat = 0 by omega, show (-(-(n : Int))).toNat = n by omega, Nat.pow_zero, Nat.mul_one]
                    omega
                  · refine Nat.lt_of_not_le fun h => ?_
                    rw [lev_iff a P Q _ HQ0.out HPQ.out, Int.neg_neg] at h
                    rcases Nat.eq_zero_or_pos n with h0 | h0
                    · subst h0
                      rw [show (-((0 : Nat) : Int) + 1).toNat = 1 by omega, show (-(-((0 : Nat) : Int) + 1)).toNat = 0 by omega, Nat.pow_one, Nat.pow_zero] at h
                      rw [Nat.pow_zero] at hinv
                      omega
                    · obtain ⟨i, rfl⟩ : ∃ i, n = i + 1 := ⟨n - 1, by omega⟩
                      rw [show (-((i + 1 : Nat) : Int) + 1).toNat = 0 by omega, show (-(-((i + 1 : Nat) : Int) + 1)).toNat = i by omega, Nat.pow_zero, Nat.mul_one] at h
                      rw [Nat.pow_succ, ← Nat.mul_assoc] at hinv
                      omega)
                generalize cmpN (P * 10 ^ n) Q = c at *
                clear hlt hinv HIV HBEF hxk hgx
                go_wp2_with fail
                refine (HTN.out _ (Below.refl _ _)).mono ?_
                rintro e w5 ⟨⟨v5, rfl, hn5⟩, hb5⟩
                have H5 := Lib.hid hn5
                have B5 := Lib.hid hb5
                clear hn5 hb5
                go_wp2_with fail
                refine (HC.out _ _ B5.out H5.out).mono ?_
                rintro e w6 ⟨rfl, hb6⟩
                have B6 := Lib.hid (HB.out.trans ((B5.out.trans (hb6.mono B5.out.size)).mono HB.out.size))
                clear hb6
                go_wp2_with fail
                go_meet
                exact ⟨-(n : Int), rfl, by omega, by omega, HFA.out.1, HFA.out.2, B6.out⟩
        case rest =>
          obtain ⟨x, rfl, hx1, hx2, hd1, hd2, hb⟩ := hcut
          obtain ⟨ws, rfl⟩ : ∃ ws : World, ws = wc := ⟨_, rfl⟩
          obtain ⟨n0, hn01, hn019, hcand, hfl, hsame⟩ := HREF.out x hd1 hd2
          have HFP : Hid (∀ n : Nat, 1 ≤ n → 1 ≤ flJ a ((n : Int) - 1 - x)) := Lib.hid fun n hn => fl_pos a x n hn hd1
          have HCD := Lib.hid hcand
          have HFL := Lib.hid hfl
          have HSM := Lib.hid hsame
          have HBS := Lib.hid hb
          clear hcand hfl hsame hb hd1 hd2 HREF HSTART HBO HTEN HCM HBG HB4
          go_wp2_with fail
          go_loopg [10, 11, 12, 13, 14, 15, 16] (n0 - 1) (fun g s10 _ _ _ _ _ _ wr => ∃ n : Nat, n + g = n0 ∧ 1 ≤ n ∧ s10 = .int .i64 n ∧ (∀ k : Nat, 1 ≤ k → k < n → ¬ candJ a ((k : Int) - 1 - x)) ∧ Below wo.heap.size wo wr)
          case atStart => exact ⟨1, by omega, Nat.le_refl _, rfl, fun k h1 h2 => by omega, HBS.out⟩
          case round =>
            clear HBS
            obtain ⟨n, hng, hn1, rfl, hno, hb⟩ := hrel
            have HNO := Lib.hid hno
            have HB := Lib.hid hb
            have hlow1 := HFP.out n hn1
            have hlow2 := HFL.out n hn1 (by omega)
            obtain ⟨j, hj⟩ : ∃ j : Int, (n : Int) - 1 - x = j := ⟨_, rfl⟩
            have hjq : x - (n : Int) + 1 = -j := by omega
            have hSM := HSM.out n hn1
            have hND : candJ a ((n : Int) - 1 - x) ∨ n < n0 := by
              rcases Nat.lt_or_ge n n0 with h | h
              · exact .inr h
              · obtain rfl : n = n0 := by omega
                exact .inl HCD.out
            rw [hj] at hlow1 hlow2 hSM hND
            rw [hjq] at hSM
            have hSM2 := fun hc => hSM hc HNO.out
            have HNX : Hid (¬ candJ a j → ∀ k : Nat, 1 ≤ k → k < n + 1 → ¬ candJ a ((k : Int) - 1 - x)) := Lib.hid (fun hnc k h1 h2 => by
              rcases Nat.lt_or_ge k n with h | h
              · exact HNO.out k h1 h
              · obtain rfl : k = n := by omega
                rw [hj]
                exact hnc)
            have HND := Lib.hid hND
            have hjb : -2000 ≤ j ∧ j ≤ 2000 := by omega
            have hY0 : 0 < Q * 10 ^ (-j).toNat := Nat.mul_pos HQ0.out (Nat.pow_pos (by decide))
            obtain ⟨hr1, hr2⟩ := ratio_div hY0 (DE_pos j) (ratio_lev a P Q j HPQ.out)
            have hr1' : P * 10 ^ j.toNat / (Q * 10 ^ (-j).toNat) = flJ a j := hr1
            have hr2' : upG (P * 10 ^ j.toNat) (Q * 10 ^ (-j).toNat) = upJ a j := hr2
            have HNEAR : Hid (Calls Tryz.prog 79 #[vp, vq, .int .i64 j] wr fun e w' => e = .returned (.tuple #[.int .u64 ((flJ a j : Nat) : Int), .bool (decide (upJ a j = 0))]) ∧ Below wr.heap.size wr w') := Lib.hid (by
              have := HNEAR0.out j _ _ wr (HPN.out.go HB.out) (HQN.out.go HB.out) hjb rfl rfl (by
                refine (Nat.div_lt_iff_lt_mul hY0).1 ?_
                rw [hr1']
                exact hlow2)
              rwa [hr1', hr2'] at this)
            have hres : (inB a j (flJ a j) = true ∧ (decide (upJ a j = 0) = true ∨ inB a j (flJ a j + 1) = false) → resJ a j = flJ a j ∧ candJ a j) ∧
                (¬ (inB a j (flJ a j) = true ∧ (decide (upJ a j = 0) = true ∨ inB a j (flJ a j + 1) = false)) → inB a j (flJ a j + 1) = true → resJ a j = flJ a j + 1 ∧ candJ a j) ∧
                (inB a j (flJ a j) = false → inB a j (flJ a j + 1) = false → ¬ candJ a j) := by
              refine ⟨fun h => ⟨?_, .inl (inB_iff.1 h.1)⟩, fun h h2 => ⟨?_, .inr (inB_iff.1 h2)⟩, fun h h2 hc => ?_⟩
              · unfold resJ
                rw [if_pos]
                rw [h.1, Bool.true_and]
                rcases h.2 with g | g
                · rw [g, Bool.true_or]
                · rw [g]; simp
              · unfold resJ
                rw [if_neg]
                intro hh
                rw [Bool.and_eq_true, Bool.or_eq_true, Bool.not_eq_true'] at hh
                exact h ⟨hh.1, hh.2⟩
              · rcases hc with g | g
                · rw [inB_iff.2 g] at h; cases h
                · rw [inB_iff.2 g] at h2; cases h2
            obtain ⟨low, hlow⟩ : ∃ low, flJ a j = low := ⟨_, rfl⟩
            rw [hlow] at hlow1 hlow2 hres HNEAR
            have HRD : Hid (∀ (d r : Nat), Near (dX d (-j)) (dQ (-j)) r → ((r : Int) == (a : Int)) = inB a j d) := Lib.hid fun d r h => in_read a d j r h
            have HDEC : Hid (∀ (d : Nat) (W : World), d ≤ 1152921504606846976 → Calls Tryz.prog 69 #[.string ⟨(decDigits d).toArray⟩, .int .i64 (-j)] W fun e w' => (∃ r : Nat, e = .returned (.int .u64 r) ∧ ((r : Int) == (a : Int)) = inB a j d) ∧ Below W.heap.size W w') := Lib.hid fun d W hd => by
              have hsz : (⟨(decDigits d).toArray⟩ : ByteArray).size ≤ 1000 := by
                show (decDigits d).toArray.size ≤ 1000
                rw [List.size_toArray, decDigits_length]
                exact Nat.le_trans (nd_le 18 d (by omega)) (by decide)
              refine (rdec_any ⟨(decDigits d).toArray⟩ (-j) W hsz (fun c hc => dec_digs d c (by simpa using hc)) (by omega)).mono ?_
              rintro e w' ⟨⟨r, rfl, hr⟩, hb⟩
              refine ⟨⟨r, rfl, HRD.out d r ?_⟩, hb⟩
              have e1 : dvl 10 (⟨(decDigits d).toArray⟩ : ByteArray).data.toList = d := dvl_dec d
              rwa [e1] at hr
            have HTX : Hid (∀ (d : Nat) (W : World), d ≤ 1152921504606846976 → Calls Tryz.prog 45 #[.int .u64 d] W fun e w' => e = .returned (.string ⟨(decDigits d).toArray⟩) ∧ Below W.heap.size W w') := Lib.hid fun d W hd => text_any d W (by omega)
            have HT1 := Lib.hid (fun W => HTX.out low W (by omega))
            have HT2 := Lib.hid (fun W => HTX.out (low + 1) W (by omega))
            have HD1 := Lib.hid (fun W => HDEC.out low W (by omega))
            have HD2 := Lib.hid (fun W => HDEC.out (low + 1) W (by omega))
            have hfin : ∀ d, 1 ≤ d → d ≤ 1152921504606846976 → (resJ a j = d ∧ candJ a j) → ∀ wz z, Below w1.heap.size w1 wz → z = ((nDigits d : Nat) : Int) + -j → ShPost a w1 (.returned (.tuple #[.string ⟨(decDigits d).toArray⟩, .int .i64 z])) wz := fun d h1 h2 h3 wz z h4 h5 => by
              refine ⟨⟨d, -j, ?_, h1, h2, by rw [h5]⟩, h4⟩
              have := hSM2 h3.2
              rwa [h3.1] at this
            have hs1 : (⟨(decDigits low).toArray⟩ : ByteArray).size = nDigits low := by
              show (decDigits low).toArray.size = _
              rw [List.size_toArray, decDigits_length]
            have hs2 : (⟨(decDigits (low + 1)).toArray⟩ : ByteArray).size = nDigits (low + 1) := by
              show (decDigits (low + 1)).toArray.size = _
              rw [List.size_toArray, decDigits_length]
            have HF1 := Lib.hid (hfin low hlow1 (by omega))
            have HF2 := Lib.hid (hfin (low + 1) (by omega) (by omega))
            have hnd1 : nDigits low ≤ 19 := nd_le 18 low (by omega)
            have hnd2 : nDigits (low + 1) ≤ 19 := nd_le 18 (low + 1) (by omega)
            have HRES := Lib.hid hres
            clear hno hb hSM hSM2 hND hY0 hr1 hr2 hr1' hr2' hres hfin hlow HRD HDEC HTX HNO HCD HFL HFP HSM HPQ
            generalize inB a j low = b1 at *
            generalize inB a j (low + 1) = b2 at *
            generalize decide (upJ a j = 0) = lw at *
            generalize (⟨(decDigits low).toArray⟩ : ByteArray) = sl at *
            generalize (⟨(decDigits (low + 1)).toArray⟩ : ByteArray) = sh at *
            have hlowi : (0 : Int) < (low : Int) := by omega
            have hj1 := Lib.hid hj
            have hjq1 : x - (n : Int) + 1 = -j := hjq
            go_wp2_with fail
            refine HNEAR.out.mono ?_
            rintro e w5 ⟨rfl, hb5⟩
            have B5 := Lib.hid (HB.out.trans (hb5.mono HB.out.size))
            clear hb5 HNEAR HB hj
            go_wp2_with fail
            refine (HT1.out _).mono ?_
            rintro e w6 ⟨rfl, hb6⟩
            have B6 := Lib.hid (B5.out.trans (hb6.mono B5.out.size))
            clear hb6 B5
            go_wp2_with fail
            refine (HT2.out _).mono ?_
            rintro e w7 ⟨rfl, hb7⟩
            have B7 := Lib.hid (B6.out.trans (hb7.mono B6.out.size))
            clear hb7 B6
            go_wp2_with fail
            refine (HD1.out _).mono ?_
            rintro e w8 ⟨⟨r1, rfl, hr1⟩, hb8⟩
            have B8 := Lib.hid (B7.out.trans (hb8.mono B7.out.size))
            clear hb8 B7
            go_wp2_with fail
            refine (HD2.out _).mono ?_
            rintro e w9 ⟨⟨r2, rfl, hr2⟩, hb9⟩
            have B9 := Lib.hid (B8.out.trans (hb9.mono B8.out.size))
            clear hb9 B8 HT1 HT2 HD1 HD2 hjq hjq1
            have HE1 := Lib.hid (fun h => HF1.out (HRES.out.1 h) w9)
            have HE2 := Lib.hid (fun h h2 => HF2.out (HRES.out.2.1 h h2) w9)
            have HE3 := Lib.hid HRES.out.2.2
            clear HF1 HF2 HRES
            cases b1 <;> cases b2 <;> cases lw
            · have hnc := HE3.out (by simp) (by simp)
              have hlt := HND.out.resolve_left hnc
              have HN1 := Lib.hid (HNX.out hnc)
              clear hnc
              go_wp2_with fail
              go_roundg (gk - 1)
              case measure => omega
              case rel => exact ⟨n + 1, by omega, by omega, by go_num, HN1.out, B9.out⟩
            · have hnc := HE3.out (by simp) (by simp)
              have hlt := HND.out.resolve_left hnc
              have HN1 := Lib.hid (HNX.out hnc)
              clear hnc
              go_wp2_with fail
              go_roundg (gk - 1)
              case measure => omega
              case rel => exact ⟨n + 1, by omega, by omega, by go_num, HN1.out, B9.out⟩
            · go_wp2_with fail
              go_ret2
              exact HE2.out (by simp) (by simp) _ (HBW.out.trans (B9.out.mono HBW.out.size)) (by have := hj1.out; omega)
            · go_wp2_with fail
              go_ret2
              exact HE2.out (by simp) (by simp) _ (HBW.out.trans (B9.out.mono HBW.out.size)) (by have := hj1.out; omega)
            · go_wp2_with fail
              go_ret2
              exact HE1.out (by simp) _ (HBW.out.trans (B9.out.mono HBW.out.size)) (by have := hj1.out; omega)
            · go_wp2_with fail
              go_ret2
              exact HE1.out (by simp) _ (HBW.out.trans (B9.out.mono HBW.out.size)) (by have := hj1.out; omega)
            · go_wp2_with fail
              go_ret2
              exact HE2.out (by simp) (by simp) _ (HBW.out.trans (B9.out.mono HBW.out.size)) (by have := hj1.out; omega)
            · go_wp2_with fail
              go_ret2
              exact HE1.out (by simp) _ (HBW.out.trans (B9.out.mono HBW.out.size)) (by have := hj1.out; omega)
end Go.Proofs.YtmhagigokgklaaaGreatDoor

/- The reference's Show (walked): it is what the program shows. -/
namespace Go.Proofs.YtmhagigokgklaaaGreatDoor
open Go Go.RowKit Go.Sort Go.Lib
set_option exponentiation.threshold 3000

def rsL (x : Nat) : List UInt8 := if x < 9223372036854775808 then [] else [45]
def rsS (x : Nat) : ByteArray := if x < 9223372036854775808 then ⟨#[]⟩ else ⟨#[45]⟩
theorem sgS_list (x : Nat) : (rsS x).data.toList = rsL x := by unfold rsS rsL; split <;> rfl
theorem sgS_size (x : Nat) : (rsS x).size ≤ 1 := by unfold rsS; split <;> decide
theorem show_nanB (x : Nat) (h : 9218868437227405312 < ru x) : showB x = nanB := by unfold showB; exact if_pos h
theorem show_infB (x : Nat) (h : ru x = 9218868437227405312) : showB x = rsL x ++ infB := by
  unfold showB
  unfold ru at h
  rw [if_neg (show ¬ 9218868437227405312 < x % 9223372036854775808 by omega), if_pos h]; rfl
theorem show_zeroB (x : Nat) (h : ru x = 0) : showB x = rsL x ++ [48] := by
  unfold showB
  unfold ru at h
  rw [if_neg (show ¬ 9218868437227405312 < x % 9223372036854775808 by omega), if_neg (show ¬ x % 9223372036854775808 = 9218868437227405312 by omega), if_pos h]; rfl
theorem show_finB (x : Nat) (h1 : 0 < ru x) (h2 : ru x < 9218868437227405312) : showB x = rsL x ++ showA (ru x) := by
  unfold showB
  unfold ru at *
  rw [if_neg (show ¬ 9218868437227405312 < x % 9223372036854775808 by omega), if_neg (show ¬ x % 9223372036854775808 = 9218868437227405312 by omega), if_neg (show ¬ x % 9223372036854775808 = 0 by omega)]; rfl
theorem last_dec (t : Nat) (h : t % 10 ≠ 0) : ∃ l c, decDigits t = l ++ [c] ∧ c.toNat ≠ 48 := by
  rw [decDigits]
  have key : ∀ k : Fin 10, k.val ≠ 0 → (UInt8.ofNat (48 + k.val)).toNat ≠ 48 := by decide +kernel
  split
  · rename_i h1
    exact ⟨[], _, rfl, key ⟨t, h1⟩ (fun e => by simp only at e; omega)⟩
  · exact ⟨_, _, rfl, key ⟨t % 10, Nat.mod_lt _ (by decide)⟩ h⟩

/-- digits with noughts behind -/
def dzS (t i : Nat) : ByteArray := ⟨(decDigits t ++ List.replicate i 48).toArray⟩
theorem dzS_size (t i : Nat) : (dzS t i).size = (decDigits t).length + i := by
  show (decDigits t ++ List.replicate i 48).toArray.size = _
  rw [List.size_toArray, List.length_append, List.length_replicate]
theorem dzS_get (t i k : Nat) (h : k < (dzS t i).size) : (dzS t i)[k] = (decDigits t ++ List.replicate i 48)[k]'(by rw [dzS_size] at h; simpa using h) := rfl
theorem dzS_last0 (t i : Nat) (h : (decDigits t).length + i < (dzS t (i + 1)).size) : (dzS t (i + 1))[(decDigits t).length + i].toNat = 48 := by
  rw [dzS_get, List.getElem_append_right (by omega), List.getElem_replicate]; rfl
theorem dzS_last (t m : Nat) (h : t % 10 ≠ 0) (hm : (decDigits t).length = m + 1) (h' : m < (dzS t 0).size) : (dzS t 0)[m].toNat ≠ 48 := by
  obtain ⟨l, c, e1, e2⟩ := last_dec t h
  rw [dzS_get]
  have e3 : m = l.length := by
    have := congrArg List.length e1
    rw [hm, List.length_append, List.length_singleton] at this
    omega
  subst e3
  simp only [List.replicate_zero, List.append_nil, e1]
  rw [List.getElem_append_right (Nat.le_refl _)]
  simpa using e2
theorem dzS_cut (t i : Nat) : (dzS t (i + 1)).extract 0 ((decDigits t).length + i) = dzS t i := by
  refine str_is ?_
  rw [ByteArray.data_extract]
  simp only [dzS, Array.toList_extract, List.extract_eq_take_drop, List.drop_zero, Nat.sub_zero]
  rw [List.take_append, List.take_of_length_le (by omega), show (decDigits t).length + i - (decDigits t).length = i by omega, List.take_replicate, Nat.min_eq_left (by omega)]

def RsPost (x : Nat) (w : World) (e : Ending) (w' : World) : Prop := e = .returned (.string ⟨(showB x).toArray⟩) ∧ Below w.heap.size w w'

set_option maxRecDepth 100000 in
set_option maxHeartbeats 16000000 in
/-- the reference's Show -/
theorem rshow_any (x : Nat) (w : World) (hx : x < 18446744073709551616) : Calls Tryz.prog 14 #[.int .u64 x] w (RsPost x w) := by
  obtain ⟨r, hr⟩ : ∃ r, ru x = r := ⟨_, rfl⟩
  have hr63 : r < 9223372036854775808 := by rw [← hr]; exact Nat.mod_lt _ (by decide)
  have hxr : (x < 9223372036854775808 ∧ x = r ∧ rsS x = ⟨#[]⟩) ∨ (9223372036854775808 ≤ x ∧ x = r + 9223372036854775808 ∧ rsS x = ⟨#[45]⟩) := by
    unfold ru at hr
    rcases Nat.lt_or_ge x 9223372036854775808 with h | h
    · exact .inl ⟨h, by omega, by unfold rsS; rw [if_pos h]⟩
    · exact .inr ⟨h, by omega, by unfold rsS; rw [if_neg (by omega)]⟩
  have hS1 := sgS_size x
  have HNAN : Hid (9218868437227405312 < r → RsPost x w (.returned (.string ⟨#[78, 97, 78]⟩)) w) := Lib.hid fun h => by
    refine ⟨?_, Below.refl _ _⟩
    rw [show_nanB x (by omega)]; rfl
  have HINF : Hid (r = 9218868437227405312 → RsPost x w (.returned (.string (rsS x ++ ⟨#[73, 110, 102, 105, 110, 105, 116, 121]⟩))) w) := Lib.hid fun h => by
    refine ⟨?_, Below.refl _ _⟩
    rw [show_infB x (by omega), str_is (s := rsS x ++ ⟨#[73, 110, 102, 105, 110, 105, 116, 121]⟩) (l := rsL x ++ infB) (by rw [ByteArray.data_append, Array.toList_append, sgS_list]; rfl)]
  have HZERO : Hid (r = 0 → RsPost x w (.returned (.string (rsS x ++ ⟨#[48]⟩))) w) := Lib.hid fun h => by
    refine ⟨?_, Below.refl _ _⟩
    rw [show_zeroB x (by omega), str_is (s := rsS x ++ ⟨#[48]⟩) (l := rsL x ++ [48]) (by rw [ByteArray.data_append, Array.toList_append, sgS_list])]
  have HFIN : Hid (0 < r → r < 9218868437227405312 → ∀ (D : Nat) (q : Int), SameV D q (shN r).1 (shN r).2 → 1 ≤ D → D ≤ 1152921504606846976 → ∃ (t i : Nat) (p : Int), D = t * 10 ^ i ∧ t % 10 ≠ 0 ∧ decDigits D = decDigits t ++ List.replicate i 48 ∧ i ≤ 20 ∧ ((nDigits D : Nat) : Int) + q = p ∧ (p - 1).natAbs < 1000 ∧ 1 ≤ (decDigits t).length ∧ (decDigits t).length ≤ 20 ∧ ∀ (W : World) (s : ByteArray), s.data.toList = rsL x ++ placedB (decDigits t) p → Below w.heap.size w W → RsPost x w (.returned (.string s)) W) := Lib.hid fun h1 h2 D q hs hD1 hD2 => by
    obtain ⟨b1, b2, b3⟩ := sh_bounds r h1 h2
    obtain ⟨e1, e2⟩ := same_sig hs hD1 b1
    obtain ⟨t, i, e3, e4⟩ := strip_ex D hD1
    have ht0 : 1 ≤ t := by omega
    have hsig : sig D = decDigits t := by rw [e3, sig_tens t ht0, sig_odd t e4]
    have hi : nDigits D = nDigits t + i := by rw [e3, nd_tens t ht0]
    have hnd := nd_le 18 D (by omega)
    have htp := nDigits_pos t
    refine ⟨t, i, _, e3, e4, by rw [e3, dec_tens t ht0], by omega, rfl, by rw [e2]; exact b3, by rw [decDigits_length]; exact htp, by rw [decDigits_length]; omega, fun W s h hb => ⟨?_, hb⟩⟩
    rw [str_is h, show_finB x (by omega) (by omega), hr]
    unfold showA
    rw [← e1, hsig, e2]
  clear hr
  have HSL : Hid ((rsS x).data.toList = rsL x) := Lib.hid (sgS_list x)
  generalize rsS x = S at *
  have HXR := Lib.hid hxr
  have hx64 : (x : Int) < 18446744073709551616 := by omega
  clear hxr
  go_enter Tryz.func14, Tryz.ntmps14
  go_upto_if 8 with (fail)
  go_cut [0, 3] from 7 to 10 (fun s0 s3 wx => s0 = .int .u64 r ∧ s3 = .string S ∧ wx = w)
  case first =>
    rcases HXR.out with ⟨h1, h2, h3⟩ | ⟨h1, h2, h3⟩
    · subst h2 h3
      have hi : decide ((9223372036854775808 : Int) ≤ (x : Int)) = false := decide_eq_false (by omega)
      rw [hi]
      clear HNAN HINF HZERO HFIN HXR h1 hr63 hx hx64 hi
      go_wp2_with fail
      go_meet
      exact ⟨rfl, rfl, rfl⟩
    · subst h3
      have hi : decide ((9223372036854775808 : Int) ≤ (x : Int)) = true := decide_eq_true (by omega)
      rw [hi]
      have hi2 : (x : Int) - 9223372036854775808 = (r : Int) := by omega
      have hr0 : (0 : Int) ≤ (r : Int) := by omega
      have hr64 : (r : Int) < 9223372036854775808 := by omega
      clear HNAN HINF HZERO HFIN HXR h1 h2 hx hx64 hr63 hi
      go_wp2_with fail
      go_meet
      exact ⟨rfl, rfl, rfl⟩
  case rest =>
    obtain ⟨rfl, rfl, rfl⟩ := hcut
    clear HXR
    clear hx64 hx
    by_cases h1 : 9218868437227405312 < r
    · have HE := Lib.hid (HNAN.out h1)
      have hi : (9218868437227405312 : Int) < (r : Int) := by omega
      clear HNAN HINF HZERO HFIN h1
      go_wp2_with fail
      go_ret
      exact HE.out
    · by_cases h2 : r = 9218868437227405312
      · have HE := Lib.hid (HINF.out h2)
        subst h2
        clear HNAN HINF HZERO HFIN h1
        go_wp2_with fail
        go_ret
        exact HE.out
      · by_cases h3 : r = 0
        · have HE := Lib.hid (HZERO.out h3)
          subst h3
          clear HNAN HINF HZERO HFIN h1 h2
          go_wp2_with fail
          go_ret
          exact HE.out
        · have HF := Lib.hid (HFIN.out (by omega) (by omega))
          have HS := Lib.hid (shortest_any r wc (by omega) (by omega))
          have hi1 : ¬ (9218868437227405312 : Int) < (r : Int) := by omega
          have hi2 : ((r : Int) == 9218868437227405312) = false := by rw [beq_eq_false_iff_ne]; omega
          have hi2n : ¬ (r : Int) = 9218868437227405312 := by omega
          have hi3 : ((r : Int) == 0) = false := by rw [beq_eq_false_iff_ne]; omega
          have hi3n : ¬ (r : Int) = 0 := by omega
          clear HNAN HINF HZERO HFIN h1 h2 h3
          go_wp2_with fail
          refine HS.out.mono ?_
          rintro e w1 ⟨⟨D, q, hsame, hD1, hD2, rfl⟩, hb1⟩
          obtain ⟨t, i, p, g1, g2, g3, g4, g5, g6, g7, g8, g9⟩ := HF.out D q hsame hD1 hD2
          have hds : (⟨(decDigits D).toArray⟩ : ByteArray) = dzS t i := by unfold dzS; rw [g3]
          rw [hds, g5]
          have B1 := Lib.hid hb1
          have HP := Lib.hid g9
          have HT := Lib.hid g2
          clear hb1 hsame hD1 hD2 g1 g2 g3 g5 g9 hds HF HS hi1 hi2 hi2n hi3 hi3n hr63
          obtain ⟨N, hN⟩ : ∃ N, (decDigits t).length = N := ⟨_, rfl⟩
          rw [hN] at g7 g8
          have HN := Lib.hid hN
          clear hN
          go_wp2_with fail
          go_loopg [4] i (fun g s4 wr => g ≤ i ∧ s4 = .string (dzS t g) ∧ wr = w1)
          case atStart => exact ⟨Nat.le_refl _, rfl, rfl⟩
          case round =>
            obtain ⟨hgi, rfl, hwr⟩ := hrel
            obtain rfl : w1 = wr := hwr.symm
            by_cases h0 : gk = 0
            · subst h0
              have hs : (dzS t 0).size = N := by rw [dzS_size, HN.out]; rfl
              obtain ⟨m, rfl⟩ : ∃ m, N = m + 1 := ⟨N - 1, by omega⟩
              have hm : m < (dzS t 0).size := by omega
              have hl := dzS_last t m HT.out HN.out hm
              have hl2 : (((dzS t 0)[m].toNat : Int) == 48) = false := by rw [beq_eq_false_iff_ne]; omega
              have hl3 : ¬ ((dzS t 0)[m].toNat : Int) = 48 := by omega
              have hmm : ((m + 1 : Nat) : Int) - 1 = (m : Int) := by omega
              have hmm2 : (m : Int) + 1 - 1 = (m : Int) := by omega
              have hd : (dzS t 0).data.toList = decDigits t := by simp [dzS]
              have HD := Lib.hid hd
              generalize dzS t 0 = d at *
              clear hd hgi
              by_cases c1 : ((m + 1 : Nat) : Int) ≤ p ∧ p ≤ 21
              · obtain ⟨ca, cb⟩ := c1
                obtain ⟨k, hk⟩ : ∃ k : Nat, p - ((m + 1 : Nat) : Int) = (k : Int) := ⟨(p - ((m + 1 : Nat) : Int)).toNat, by omega⟩
                have hk2 : p - ((m : Int) + 1) = (k : Int) := by omega
                have HZ := Lib.hid (fun W => rzeros_any k W (by omega))
                have hz : (⟨(List.replicate k (48 : UInt8)).toArray⟩ : ByteArray).size ≤ 100 := by rw [zz]; omega
                have HE : Hid (RsPost x wc (.returned (.string (S ++ d ++ ⟨(List.replicate k (48 : UInt8)).toArray⟩))) w1) := Lib.hid (by
                  refine HP.out w1 _ ?_ B1.out
                  rw [placedB, HN.out, if_pos ⟨ca, cb⟩, hk, Int.toNat_natCast]
                  simp only [ByteArray.data_append, Array.toList_append, HD.out, HSL.out, List.append_assoc])
                have hcc : (m : Int) + 1 ≤ p := by omega
                generalize (⟨(List.replicate k (48 : UInt8)).toArray⟩ : ByteArray) = Z at *
                clear hk
                go_wp2_with fail
                all_goals
                  refine (HZ.out _).mono ?_
                  rintro e w5 ⟨rfl, rfl⟩
                  go_wp2_with fail
                  go_ret
                  exact HE.out
              · by_cases c2 : 0 < p ∧ p < ((m + 1 : Nat) : Int)
                · obtain ⟨ca, cb⟩ := c2
                  obtain ⟨k, rfl⟩ : ∃ k : Nat, p = (k : Int) := ⟨p.toNat, by omega⟩
                  have hA : ∀ W : World, (Instr.slice 9 (.string d) none (some (.int .i64 k)) none).run Tryz.prog W = .ok (.string (d.extract 0 k)) W := fun W => run_slice_string_h W _ d Tryz.underlying9 .i64 k (by omega) (by omega)
                  have hC : ∀ W : World, (Instr.slice 9 (.string d) (some (.int .i64 k)) none none).run Tryz.prog W = .ok (.string (d.extract k d.size)) W := fun W => run_slice_string_l W _ d Tryz.underlying9 .i64 k (by omega) (by omega)
                  have za : (d.extract 0 k).size ≤ 100 := by rw [ByteArray.size_extract]; omega
                  have zc : (d.extract k d.size).size ≤ 100 := by rw [ByteArray.size_extract]; omega
                  have hdl : d.data.toList.length = m + 1 := by rw [HD.out]; exact HN.out
                  have HE : Hid (∀ n : Nat, RsPost x wc (.returned (.string (S ++ d.extract 0 k ++ ⟨#[46]⟩ ++ d.extract k d.size))) (w1.drewN n)) := Lib.hid (fun n => by
                    refine HP.out (w1.drewN n) _ ?_ (bDrewN B1.out _)
                    rw [placedB, HN.out, if_neg c1, if_pos ⟨ca, cb, by omega⟩, Int.toNat_natCast]
                    simp only [ByteArray.data_append, Array.toList_append, HSL.out, List.append_assoc, ByteArray.data_extract, Array.toList_extract, List.extract_eq_take_drop, List.drop_zero, Nat.sub_zero, HD.out]
                    rw [List.take_of_length_le (i := d.size - k) (by rw [List.length_drop, HN.out]; omega)]
                    rfl)
                  generalize d.extract 0 k = dA at *
                  generalize d.extract k d.size = dC at *
                  have hcc : ¬ (m : Int) + 1 ≤ (k : Int) := by omega
                  have hcd : (k : Int) < (m : Int) + 1 := by omega
                  clear c1 cb hdl
                  go_wp2_with fail
                  go_quiet (fail)
                  go_wp2
                  go_ret
                  exact HE.out _
                · by_cases c3 : -6 < p ∧ p ≤ 0
                  · obtain ⟨ca, cb⟩ := c3
                    obtain ⟨k, hk⟩ : ∃ k : Nat, -p = (k : Int) := ⟨(-p).toNat, by omega⟩
                    have HZ := Lib.hid (fun W => rzeros_any k W (by omega))
                    have hz : (⟨(List.replicate k (48 : UInt8)).toArray⟩ : ByteArray).size ≤ 100 := by rw [zz]; omega
                    have HE : Hid (RsPost x wc (.returned (.string (S ++ ⟨#[48, 46]⟩ ++ ⟨(List.replicate k (48 : UInt8)).toArray⟩ ++ d))) w1) := Lib.hid (by
                      refine HP.out w1 _ ?_ B1.out
                      rw [placedB, HN.out, if_neg c1, if_neg (fun h => c2 ⟨h.1, h.2.1⟩), if_pos ⟨ca, cb⟩, hk, Int.toNat_natCast]
                      simp only [ByteArray.data_append, Array.toList_append, HD.out, HSL.out, List.append_assoc]
                      rfl)
                    have hcc : ¬ (m : Int) + 1 ≤ p := by omega
                    have hcd : ¬ 0 < p := by omega
                    generalize (⟨(List.replicate k (48 : UInt8)).toArray⟩ : ByteArray) = Z at *
                    clear c1 c2
                    go_wp2_with fail
                    all_goals
                      refine (HZ.out _).mono ?_
                      rintro e w5 ⟨rfl, rfl⟩
                      go_wp2_with fail
                      go_ret
                      exact HE.out
                  · have hfar : 21 < p ∨ p ≤ -6 := by omega
                    have hcc : ((m : Int) + 1 ≤ p ∧ 21 < p) ∨ (¬ (m : Int) + 1 ≤ p ∧ p ≤ -6) := by omega
                    have HPL : Hid (placedB (decDigits t) p = (if 1 < m + 1 then (decDigits t).take 1 ++ 46 :: (decDigits t).drop 1 else decDigits t) ++ expS (p - 1)) := Lib.hid (by
                      rw [placedB, HN.out, if_neg c1, if_neg (fun h => c2 ⟨h.1, h.2.1⟩), if_neg c3])
                    clear c1 c2 c3 hfar
                    by_cases hm0 : m = 0
                    · subst hm0
                      rcases hcc with ⟨ca, cb⟩ | ⟨ca, cb⟩
                      · obtain ⟨k, hk⟩ : ∃ k : Nat, p - 1 = (k : Int) := ⟨(p - 1).toNat, by omega⟩
                        have hexp : expS (p - 1) = 101 :: 43 :: decDigits k := by
                          unfold expS
                          rw [if_neg (show ¬ p - 1 < 0 by omega), show (p - 1).natAbs = k by omega]
                        have HTX := Lib.hid (fun W => text_any k W (by omega))
                        have hzt : (⟨(decDigits k).toArray⟩ : ByteArray).size ≤ 100 := by
                          show (decDigits k).toArray.size ≤ 100
                          rw [List.size_toArray, decDigits_length]
                          exact Nat.le_trans (nd_le 3 _ (by omega)) (by decide)
                        have HE : Hid (∀ W, Below w1.heap.size w1 W → RsPost x wc (.returned (.string (S ++ d ++ ⟨#[101, 43]⟩ ++ ⟨(decDigits k).toArray⟩))) W) := Lib.hid (fun W hW => by
                          refine HP.out W _ ?_ (B1.out.trans (hW.mono B1.out.size))
                          rw [HPL.out, if_neg (by decide), hexp]
                          simp only [ByteArray.data_append, Array.toList_append, HD.out, HSL.out, List.append_assoc]
                          rfl)
                        generalize (⟨(decDigits k).toArray⟩ : ByteArray) = Z at *
                        have q1 : ¬ p ≤ 21 := by omega
                        have q2 : 0 < p := by omega
                        have q3 : ¬ p < 1 := by omega
                        have q4 : -6 < p := by omega
                        have q5 : ¬ p ≤ 0 := by omega
                        have HPL' := HPL
                        clear HPL HPL' hexp cb
                        clear ca
                        have ca : (1 : Int) ≤ p := by omega
                        go_wp2_with fail
                        refine (HTX.out _).mono ?_
                        rintro e w5 ⟨rfl, hb5⟩
                        have B5 := Lib.hid hb5
                        clear hb5
                        go_wp2_with fail
                        go_ret
                        exact HE.out _ B5.out
                      · obtain ⟨k, hk⟩ : ∃ k : Nat, 1 - p = (k : Int) := ⟨(1 - p).toNat, by omega⟩
                        have hexp : expS (p - 1) = 101 :: 45 :: decDigits k := by
                          unfold expS
                          rw [if_pos (show p - 1 < 0 by omega), show (p - 1).natAbs = k by omega]
                        have HTX := Lib.hid (fun W => text_any k W (by omega))
                        have hzt : (⟨(decDigits k).toArray⟩ : ByteArray).size ≤ 100 := by
                          show (decDigits k).toArray.size ≤ 100
                          rw [List.size_toArray, decDigits_length]
                          exact Nat.le_trans (nd_le 3 _ (by omega)) (by decide)
                        have HE : Hid (∀ W, Below w1.heap.size w1 W → RsPost x wc (.returned (.string (S ++ d ++ ⟨#[101, 45]⟩ ++ ⟨(decDigits k).toArray⟩))) W) := Lib.hid (fun W hW => by
                          refine HP.out W _ ?_ (B1.out.trans (hW.mono B1.out.size))
                          rw [HPL.out, if_neg (by decide), hexp]
                          simp only [ByteArray.data_append, Array.toList_append, HD.out, HSL.out, List.append_assoc]
                          rfl)
                        generalize (⟨(decDigits k).toArray⟩ : ByteArray) = Z at *
                        have q2 : ¬ 0 < p := by omega
                        have q4 : ¬ -6 < p := by omega
                        have HPL' := HPL
                        clear HPL HPL' hexp cb
                        clear ca
                        have ca : ¬ (1 : Int) ≤ p := by omega
                        go_wp2_with fail
                        refine (HTX.out _).mono ?_
                        rintro e w5 ⟨rfl, hb5⟩
                        have B5 := Lib.hid hb5
                        clear hb5
                        go_wp2_with fail
                        go_ret
                        exact HE.out _ B5.out

                    · obtain ⟨m', rfl⟩ : ∃ m', m = m' + 1 := ⟨m - 1, by omega⟩
                      have hA : ∀ W : World, (Instr.slice 9 (.string d) none (some (.int .i64 1)) none).run Tryz.prog W = .ok (.string (d.extract 0 1)) W := fun W => run_slice_string_h W _ d Tryz.underlying9 .i64 1 (by omega) (by omega)
                      have hC : ∀ W : World, (Instr.slice 9 (.string d) (some (.int .i64 1)) none none).run Tryz.prog W = .ok (.string (d.extract 1 d.size)) W := fun W => run_slice_string_l W _ d Tryz.underlying9 .i64 1 (by omega) (by omega)
                      have za : (d.extract 0 1).size ≤ 100 := by rw [ByteArray.size_extract]; omega
                      have zc : (d.extract 1 d.size).size ≤ 100 := by rw [ByteArray.size_extract]; omega
                      rcases hcc with ⟨ca, cb⟩ | ⟨ca, cb⟩
                      · obtain ⟨k, hk⟩ : ∃ k : Nat, p - 1 = (k : Int) := ⟨(p - 1).toNat, by omega⟩
                        have hexp : expS (p - 1) = 101 :: 43 :: decDigits k := by
                          unfold expS
                          rw [if_neg (show ¬ p - 1 < 0 by omega), show (p - 1).natAbs = k by omega]
                        have HTX := Lib.hid (fun W => text_any k W (by omega))
                        have hzt : (⟨(decDigits k).toArray⟩ : ByteArray).size ≤ 100 := by
                          show (decDigits k).toArray.size ≤ 100
                          rw [List.size_toArray, decDigits_length]
                          exact Nat.le_trans (nd_le 3 _ (by omega)) (by decide)
                        have HE : Hid (∀ (n : Nat) (W : World), Below (w1.drewN n).heap.size (w1.drewN n) W → RsPost x wc (.returned (.string (S ++ (d.extract 0 1 ++ ⟨#[46]⟩ ++ d.extract 1 d.size) ++ ⟨#[101, 43]⟩ ++ ⟨(decDigits k).toArray⟩))) W) := Lib.hid (fun n W hW => by
                          refine HP.out W _ ?_ ((bDrewN B1.out n).trans (hW.mono (bDrewN B1.out n).size))
                          rw [HPL.out, if_pos (by omega), hexp]
                          simp only [ByteArray.data_append, Array.toList_append, HSL.out, List.append_assoc, ByteArray.data_extract, Array.toList_extract, List.extract_eq_take_drop, List.drop_zero, Nat.sub_zero, HD.out]
                          rw [List.take_of_length_le (i := d.size - 1) (by rw [List.length_drop, HN.out]; omega)]
                          rfl)
                        generalize d.extract 0 1 = dA at *
                        generalize d.extract 1 d.size = dC at *
                        have hmgt : (1 : Int) < ((m' + 1 : Nat) : Int) + 1 := by omega
                        generalize (⟨(decDigits k).toArray⟩ : ByteArray) = Z at *
                        have q1 : ¬ p ≤ 21 := by omega
                        have q2 : 0 < p := by omega
                        have q3 : ¬ p < ((m' + 1 : Nat) : Int) + 1 := by omega
                        have q4 : -6 < p := by omega
                        have q5 : ¬ p ≤ 0 := by omega
                        have HPL' := HPL
                        clear HPL HPL' hexp cb
                        go_wp2_with fail
                        go_quiet (fail)
                        go_wp2_with fail
                        refine (HTX.out _).mono ?_
                        rintro e w5 ⟨rfl, hb5⟩
                        have B5 := Lib.hid hb5
                        clear hb5
                        go_wp2_with fail
                        go_ret
                        exact HE.out _ _ B5.out
                      · obtain ⟨k, hk⟩ : ∃ k : Nat, 1 - p = (k : Int) := ⟨(1 - p).toNat, by omega⟩
                        have hexp : expS (p - 1) = 101 :: 45 :: decDigits k := by
                          unfold expS
                          rw [if_pos (show p - 1 < 0 by omega), show (p - 1).natAbs = k by omega]
                        have HTX := Lib.hid (fun W => text_any k W (by omega))
                        have hzt : (⟨(decDigits k).toArray⟩ : ByteArray).size ≤ 100 := by
                          show (decDigits k).toArray.size ≤ 100
                          rw [List.size_toArray, decDigits_length]
                          exact Nat.le_trans (nd_le 3 _ (by omega)) (by decide)
                        have HE : Hid (∀ (n : Nat) (W : World), Below (w1.drewN n).heap.size (w1.drewN n) W → RsPost x wc (.returned (.string (S ++ (d.extract 0 1 ++ ⟨#[46]⟩ ++ d.extract 1 d.size) ++ ⟨#[101, 45]⟩ ++ ⟨(decDigits k).toArray⟩))) W) := Lib.hid (fun n W hW => by
                          refine HP.out W _ ?_ ((bDrewN B1.out n).trans (hW.mono (bDrewN B1.out n).size))
                          rw [HPL.out, if_pos (by omega), hexp]
                          simp only [ByteArray.data_append, Array.toList_append, HSL.out, List.append_assoc, ByteArray.data_extract, Array.toList_extract, List.extract_eq_take_drop, List.drop_zero, Nat.sub_zero, HD.out]
                          rw [List.take_of_length_le (i := d.size - 1) (by rw [List.length_drop, HN.out]; omega)]
                          rfl)
                        generalize d.extract 0 1 = dA at *
                        generalize d.extract 1 d.size = dC at *
                        have hmgt : (1 : Int) < ((m' + 1 : Nat) : Int) + 1 := by omega
                        generalize (⟨(decDigits k).toArray⟩ : ByteArray) = Z at *
                        have q2 : ¬ 0 < p := by omega
                        have q4 : ¬ -6 < p := by omega
                        have HPL' := HPL
                        clear HPL HPL' hexp cb
                        go_wp2_with fail
                        go_quiet (fail)
                        go_wp2_with fail
                        refine (HTX.out _).mono ?_
                        rintro e w5 ⟨rfl, hb5⟩
                        have B5 := Lib.hid hb5
                        clear hb5
                        go_wp2_with fail
                        go_ret
                        exact HE.out _ _ B5.out
            · obtain ⟨g, rfl⟩ : ∃ g, gk = g + 1 := ⟨gk - 1, by omega⟩
              obtain ⟨m, hm'⟩ : ∃ m, m = N + g := ⟨_, rfl⟩
              have hs : (dzS t (g + 1)).size = m + 1 := by rw [dzS_size, HN.out]; omega
              have hm : m < (dzS t (g + 1)).size := by omega
              have hl : (dzS t (g + 1))[m].toNat = 48 := by
                have e0 : m = (decDigits t).length + g := by rw [HN.out]; exact hm'
                have := dzS_last0 t g (by rw [← e0]; exact hm)
                simpa only [← e0] using this
              have hcut := dzS_cut t g
              rw [HN.out, ← hm'] at hcut
              have hmp : 0 < m := by omega
              have hmk : m ≤ 100 := by omega
              have hmm : ((m + 1 : Nat) : Int) - 1 = (m : Int) := by omega
              have hmm2 : (m : Int) + 1 - 1 = (m : Int) := by omega
              have h1m : (1 : Int) < (m : Int) + 1 := by omega
              have hA : ∀ W : World, (Instr.slice 9 (.string (dzS t (g + 1))) none (some (.int .i64 m)) none).run Tryz.prog W = .ok (.string (dzS t g)) W := fun W => by
                rw [← hcut]
                exact run_slice_string_h W _ _ Tryz.underlying9 .i64 m (by omega) (by omega)
              have HGI := Lib.hid hgi
              have HMM := Lib.hid hm'
              clear hcut hm' h0 hgi
              generalize dzS t (g + 1) = d at *
              go_wp2_with fail
              go_roundg g
              case measure => omega
              case rel => exact ⟨by have := HGI.out; omega, rfl, rfl⟩
end Go.Proofs.YtmhagigokgklaaaGreatDoor

/- NumShows, walked: it returns true. -/
namespace Go.Proofs.YtmhagigokgklaaaGreatDoor
open Go Go.RowKit Go.Sort Go.Lib

set_option maxRecDepth 100000 in
set_option maxHeartbeats 4000000 in
theorem shows_walk (n : Int) (K : Nat) (w : World) (hG : Globs w) (hT : GlobT K w) (hn : 0 ≤ n ∧ n ≤ 18446744073709551615) :
    Calls Tryz.prog 4 #[.int .u64 n] w fun e w' => e = .returned (.bool true) ∧ Below w.heap.size w w' := by
  obtain ⟨x, rfl⟩ : ∃ x : Nat, n = x := ⟨n.toNat, by omega⟩
  have hx : x < 18446744073709551616 := by omega
  clear hn
  have HW := Lib.hid (works_any K w hG hT)
  have HGS := Lib.hid hG
  have HS : Hid (∀ W : World, Globs W → Calls Tryz.prog 13 #[.int .u64 (x : Nat)] W fun e w' => e = .returned (.string ⟨(showB x).toArray⟩) ∧ Below W.heap.size W w') := Lib.hid fun W h => show_any x W h hx
  have HR : Hid (∀ W : World, Calls Tryz.prog 14 #[.int .u64 (x : Nat)] W fun e w' => e = .returned (.string ⟨(showB x).toArray⟩) ∧ Below W.heap.size W w') := Lib.hid fun W => rshow_any x W hx
  generalize (⟨(showB x).toArray⟩ : ByteArray) = S at *
  clear hG hT
  go_enter Tryz.func4, Tryz.ntmps4
  go_wp2_with fail
  refine HW.out.mono ?_
  rintro e w1 ⟨rfl, hb1⟩
  have B1 := Lib.hid hb1
  clear hb1
  go_wp2_with fail
  refine (HS.out _ (HGS.out.on B1.out)).mono ?_
  rintro e w2 ⟨rfl, hb2⟩
  have B2 := Lib.hid (B1.out.trans (hb2.mono B1.out.size))
  clear hb2
  go_wp2_with fail
  refine (HR.out _).mono ?_
  rintro e w3 ⟨rfl, hb3⟩
  have B3 := Lib.hid (B2.out.trans (hb3.mono B2.out.size))
  clear hb3
  go_wp2_with fail
  go_ret
  exact ⟨rfl, B3.out⟩
end Go.Proofs.YtmhagigokgklaaaGreatDoor
