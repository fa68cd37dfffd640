/- Joined texts: Qd Qe Qf Qg Qh Qi Qj Qk. Each begins with its own remark. -/
import Derived.Test.YtmhagigokgklaaaGreatDoorJl
import Derived.Test.YtmhagigokgklaaaGreatDoorJj
import Derived.Laws.BytesArg

/- The shortest digits of a number that is no power of two: they are read as it, and none that are fewer (plain). -/
namespace Go.Proofs.YtmhagigokgklaaaGreatDoor
open Go Go.RowKit Go.Lib
set_option exponentiation.threshold 3000

theorem nd_le : ∀ (k u : Nat), u < 10 ^ (k + 1) → nDigits u ≤ k + 1
  | 0, u, h => by rw [nDigits_small (by simpa using h)]; exact Nat.le_refl _
  | k + 1, u, h => by
    by_cases h2 : u < 10
    · rw [nDigits_small h2]; omega
    · rw [nDigits_big h2]
      have := nd_le k (u / 10) (by rw [Nat.div_lt_iff_lt_mul (by decide), ← Nat.pow_succ]; exact h)
      omega
theorem nd_ge (k u : Nat) (h : 10 ^ k ≤ u) : k + 1 ≤ nDigits u :=
  (Nat.pow_lt_pow_iff_right (by decide)).1 (Nat.lt_of_le_of_lt h (lt_pow_nDigits u))
theorem nd_mono {x y : Nat} (h : x ≤ y) : nDigits x ≤ nDigits y := by
  have h1 := lt_pow_nDigits y
  have h2 := nDigits_pos y
  have := nd_le (nDigits y - 1) x (by rw [Nat.sub_add_cancel h2]; omega)
  omega
theorem nd_ten (x : Nat) (h : 1 ≤ x) : nDigits (x * 10) = nDigits x + 1 := by
  rw [nDigits_big (by omega), Nat.mul_div_cancel _ (by decide)]
theorem nd_add (x i : Nat) (h : 1 ≤ x) (hi : i < 10) : nDigits (x * 10 + i) = nDigits x + 1 := by
  rw [nDigits_big (by omega), show (x * 10 + i) / 10 = x from by omega]
theorem nd_tens (x : Nat) (h : 1 ≤ x) : ∀ k, nDigits (x * 10 ^ k) = nDigits x + k
  | 0 => by rw [Nat.pow_zero, Nat.mul_one]; rfl
  | k + 1 => by
    rw [Nat.pow_succ, ← Nat.mul_assoc, nd_ten _ (Nat.mul_pos h (Nat.pow_pos (by decide))), nd_tens x h k]; omega

theorem sig_ten (d : Nat) (h : 1 ≤ d) : sig (d * 10) = sig d := by
  unfold sig
  have e : decDigits (d * 10) = decDigits d ++ [48] := by
    rw [decDigits, dif_neg (by omega), Nat.mul_div_cancel _ (by decide), Nat.mul_mod_left]; rfl
  rw [e]
  unfold trimZ
  rw [List.reverse_append]
  rfl
theorem sig_tens (d : Nat) (h : 1 ≤ d) : ∀ k, sig (d * 10 ^ k) = sig d
  | 0 => by rw [Nat.pow_zero, Nat.mul_one]
  | k + 1 => by rw [Nat.pow_succ, ← Nat.mul_assoc, sig_ten _ (Nat.mul_pos h (Nat.pow_pos (by decide))), sig_tens d h k]
theorem sig_nd (d : Nat) : (sig d).length ≤ nDigits d := by
  obtain ⟨k, h1, h2⟩ := sig_take d
  rw [h2, List.length_take, decDigits_length]
  exact Nat.min_le_right _ _

theorem near_between {X Y Z Q a : Nat} (hx : Near X Q a) (hy : Near Y Q a) (h1 : X ≤ Z) (h2 : Z ≤ Y) : Near Z Q a := by
  refine ⟨hx.pos, hx.inf, ?_, ?_⟩
  · rcases hx.lo with h | ⟨h, h'⟩
    · exact .inl h
    · exact .inr ⟨Nat.le_trans h h1, fun ho => Nat.lt_of_lt_of_le (h' ho) h1⟩
  · rcases hy.hi with h | ⟨h, h'⟩
    · exact .inl h
    · exact .inr ⟨Nat.le_trans h2 h, fun ho => Nat.lt_of_le_of_lt h2 (h' ho)⟩
theorem dX_mono {d d' : Nat} (q : Int) (h : d ≤ d') : dX d q ≤ dX d' q := by
  unfold dX
  exact Nat.mul_le_mul_left 2 (Nat.mul_le_mul_right _ (Nat.mul_le_mul_right _ h))

theorem mid_le (n G f r u hA : Nat) (hn : n = G * f + r) (hu : u = f + (if 2 * r < G then 0 else if 2 * r = G then f % 2 else 1)) (hr : r < G) (hw : G ≤ 2 * hA) :
    (n - hA ≤ u * G ∧ u * G ≤ n + hA) ∧ ((G < 2 * hA ∨ r = 0) → 0 < hA → hA ≤ n → n - hA < u * G ∧ u * G < n + hA) := by
  subst hn hu
  split
  · rw [Nat.add_zero, Nat.mul_comm]
    generalize G * f = t
    omega
  · split
    · rcases Nat.mod_two_eq_zero_or_one f with h | h <;> rw [h]
      · rw [Nat.add_zero, Nat.mul_comm]
        generalize G * f = t
        omega
      · rw [Nat.add_mul, Nat.one_mul, Nat.mul_comm f]
        generalize G * f = t
        omega
    · rw [Nat.add_mul, Nat.one_mul, Nat.mul_comm f]
      generalize G * f = t
      omega

/-- a number times a power of ten, as two whole numbers -/
def NU (a : Nat) (j : Int) : Nat := V a * 10 ^ j.toNat
def DE (j : Int) : Nat := 2 ^ 1074 * 10 ^ (-j).toNat
theorem DE_pos (j : Int) : 0 < DE j := Nat.mul_pos (Nat.two_pow_pos _) (Nat.pow_pos (by decide))
theorem ratio_div {X D n G : Nat} (hD : 0 < D) (hG : 0 < G) (h : X * G = n * D) : X / D = n / G ∧ upG X D = upG n G := by
  have hf : X / D = n / G := by
    have h1 := Nat.div_add_mod n G
    have h2 := Nat.mod_lt n hG
    rw [Nat.div_eq_iff hD]
    constructor
    · refine Nat.le_of_mul_le_mul_right ?_ hG
      rw [h, Nat.mul_right_comm]
      exact Nat.mul_le_mul_right _ (Nat.div_mul_le_self n G)
    · refine Nat.le_sub_one_of_lt (Nat.lt_of_mul_lt_mul_right (a := G) ?_)
      rw [h, show (n / G * D + D) * G = (n / G * G + G) * D from by rw [Nat.add_mul, Nat.add_mul]; congr 1 <;> ac_rfl]
      refine (Nat.mul_lt_mul_right hD).2 ?_
      rw [Nat.mul_comm (n / G)]
      omega
  have hr : X % D * G = n % G * D := by
    have h1 := Nat.div_add_mod n G
    have h2 := Nat.div_add_mod X D
    rw [hf] at h2
    have e1 : (D * (n / G) + X % D) * G = (G * (n / G) + n % G) * D := by rw [h2, h1, h]
    rw [Nat.add_mul, Nat.add_mul, show D * (n / G) * G = G * (n / G) * D from by ac_rfl] at e1
    omega
  refine ⟨hf, ?_⟩
  have c1 : 2 * (X % D) < D ↔ 2 * (n % G) < G := by
    rw [← Nat.mul_lt_mul_right hG, Nat.mul_assoc, hr, ← Nat.mul_lt_mul_right (b := 2 * (n % G)) hD, Nat.mul_assoc, Nat.mul_comm G D]
  have c2 : 2 * (X % D) = D ↔ 2 * (n % G) = G := by
    rw [← Nat.mul_left_inj (Nat.ne_of_gt hG), Nat.mul_assoc, hr, ← Nat.mul_left_inj (a := D) (b := 2 * (n % G)) (Nat.ne_of_gt hD), Nat.mul_assoc, Nat.mul_comm G D]
  unfold upG
  rw [hf]
  simp only [c1, c2]
theorem top_small : ∀ a, a < 16 → 0 < a → MN a ≠ 9223372036854775808 → 10 * DE (ppN false (EN a)) ≤ NU a (ppN false (EN a)) := by decide +kernel
theorem ulp_room (a : Nat) (h : 16 ≤ a) : 10 * (V (a + 1) - V a) ≤ V a := by
  obtain ⟨E, m, rfl, h2, h3⟩ := V_parts a
  rw [V_succ E m h2 h3, V_at E m (Nat.le_of_lt h2) h3, ← Nat.sub_mul, ← Nat.mul_assoc]
  refine Nat.mul_le_mul_right _ ?_
  rcases h3 with h3 | h3
  · subst h3; omega
  · unfold BB at h3; omega

/-- the three scaled numbers of a number that is no power of two -/
structure ShIs (a : Nat) (p : Int) (dmin dmax u : Nat) : Prop where
  form : shN a = pick3 dmin dmax u p
  isin : ∀ d, Near (dX d (-p)) (dQ (-p)) a ↔ dmin ≤ d ∧ d ≤ dmax
  lo : dmin ≤ u
  hi : u ≤ dmax
  one : 1 ≤ dmin
  wide : dmax ≤ dmin + 9
  mid : u = NU a p / DE p + upG (NU a p) (DE p)
  top : 10 * DE p ≤ NU a p
  small : NU a p / DE p < 1152921504606846976

theorem sh_is (a : Nat) (h1 : 0 < a) (h2 : a < 9218868437227405312) (hm : MN a ≠ 9223372036854775808) : ∃ p dmin dmax u, ShIs a p dmin dmax u := by
  obtain ⟨m1, m2, m3, m4, m5⟩ := me_ok a h1 h2
  obtain ⟨vv0, vv1, v2, vpar⟩ := me_val a h1 h2
  obtain ⟨v3, _⟩ := v2 hm
  obtain ⟨hz1, hz2⟩ := zN_ge (EN a) m4
  obtain ⟨t1, t2, t3⟩ := top_room (MN a) (zN (EN a)) hz1 hz2 m2 m3
  have ok := (exp_ok (EN a) m4 m5).1
  simp only [expOK, Bool.and_eq_true, decide_eq_true_eq] at ok
  obtain ⟨⟨⟨o1, o2⟩, o3⟩, o4⟩ := ok
  obtain ⟨w1, w2⟩ := wid (EN a) m4 m5
  have hin := in_iff a h1 h2 hm (ppN false (EN a)) o3
  have e1 : 2 ^ zN (EN a) = 2 * 2 ^ (zN (EN a) - 1) := by rw [← Nat.pow_succ', show (zN (EN a) - 1).succ = zN (EN a) from by omega]
  have e2 : 2 ^ (zN (EN a) - 1) = 1024 * 2 ^ (zN (EN a) - 11) := by
    rw [show (1024 : Nat) = 2 ^ 10 from rfl, ← Nat.pow_add]; congr 1; omega
  have e3 : 9223372036854775808 = 2 ^ zN (EN a) * 2 ^ (63 - zN (EN a)) := by
    rw [← Nat.pow_add, show zN (EN a) + (63 - zN (EN a)) = 63 by omega]
  obtain ⟨c, hc⟩ : ∃ c, MN a = 2 ^ zN (EN a) * c := ⟨MN a / 2 ^ zN (EN a), by have := Nat.div_add_mod (MN a) (2 ^ zN (EN a)); omega⟩
  -- above the least power of two by a whole place
  have hge : 9223372036854775808 + 2 ^ zN (EN a) ≤ MN a := by
    rw [hc] at m1 hm ⊢
    rw [e3] at m1 hm ⊢
    rw [← Nat.mul_succ]
    refine Nat.mul_le_mul_left _ ?_
    have g1 := Nat.le_of_mul_le_mul_left m1 (Nat.two_pow_pos _)
    have g2 : c ≠ 2 ^ (63 - zN (EN a)) := fun h => hm (by rw [h])
    omega
  have hsk : skewB (MN a) (EN a) = false := by unfold skewB; rw [decide_eq_false hm]; rfl
  have hform : shN a = pick3 ((usN (ppN false (EN a)) (EN a) (MN a - 2 ^ (zN (EN a) - 1)) + a % 2 + 3) / 4) ((usN (ppN false (EN a)) (EN a) (MN a + 2 ^ (zN (EN a) - 1)) - a % 2) / 4)
      ((usN (ppN false (EN a)) (EN a) (MN a) + 1 + usN (ppN false (EN a)) (EN a) (MN a) / 4 % 2) / 4) (ppN false (EN a)) := by
    unfold shN shortN
    rw [hsk]
    simp only [Bool.false_eq_true, if_false]
    rw [vpar]
  have hG := GN_pos (ppN false (EN a)) (EN a)
  have hA := AN_pos (ppN false (EN a))
  have hNU : NU a (ppN false (EN a)) * GN (ppN false (EN a)) (EN a) = MN a * AN (ppN false (EN a)) * DE (ppN false (EN a)) := by
    obtain ⟨s1, s2⟩ := sc_eq (ppN false (EN a)) (EN a) o3 (by omega) (MN a) 1
    rw [← vv0] at s1
    rw [Nat.one_mul, Nat.one_mul] at s2
    unfold NU DE
    have d1 : dQ (-(ppN false (EN a))) = 10 ^ (ppN false (EN a)).toNat := by unfold dQ; rw [Int.neg_neg]
    have d2 : dQ (ppN false (EN a)) = 10 ^ (-(ppN false (EN a))).toNat := rfl
    rw [d1] at s1
    rw [d2] at s2
    have hT := Nat.two_pow_pos (EN a + 1138).toNat
    rw [show (2 : Nat) ^ 1138 = 2 ^ 1074 * 2 ^ 64 from by rw [← Nat.pow_add]] at s2
    generalize 2 ^ (EN a + 1138).toNat = T at *
    generalize 2 ^ (127 - lpN (ppN false (EN a))).toNat = K at *
    generalize 10 ^ (ppN false (EN a)).toNat = P at *
    generalize 10 ^ (-(ppN false (EN a))).toNat = P' at *
    generalize GN (ppN false (EN a)) (EN a) = G at *
    generalize AN (ppN false (EN a)) = A at *
    generalize 2 ^ 1074 = W at *
    generalize 2 ^ 64 = Z at *
    refine Nat.eq_of_mul_eq_mul_right hT ?_
    rw [Nat.mul_assoc (V a * P), ← s2, show V a * P * (P' * (W * Z) * K) = P * (V a * Z) * K * (W * P') from by ac_rfl, s1]
    ac_rfl
  have htop : 10 * DE (ppN false (EN a)) ≤ NU a (ppN false (EN a)) := by
    by_cases h16 : a < 16
    · exact top_small a h16 h1 hm
    · have hr := ulp_room a (by omega)
      have hd : (V (a + 1) - V a) * 2 ^ 64 = 2 ^ zN (EN a) * 2 ^ (EN a + 1138).toNat := by
        rw [Nat.sub_mul, vv1, vv0, ← Nat.sub_mul, Nat.add_sub_cancel_left]
      have h10 : 10 * 2 ^ zN (EN a) ≤ MN a := by
        refine Nat.le_of_mul_le_mul_right ?_ (Nat.two_pow_pos (EN a + 1138).toNat)
        rw [Nat.mul_assoc, ← hd, ← vv0, ← Nat.mul_assoc]
        exact Nat.mul_le_mul_right _ hr
      refine Nat.le_of_mul_le_mul_right ?_ hG
      rw [hNU, Nat.mul_right_comm]
      refine Nat.mul_le_mul_right _ ?_
      refine Nat.le_trans (Nat.mul_le_mul_left 10 w1) ?_
      rw [← Nat.mul_assoc]
      exact Nat.mul_le_mul_right _ h10
  have hus := (us_bounds (ppN false (EN a)) (EN a) (MN a) (by omega) (by omega) o3 o4 m2).1
  clear vv0 vv1
  have u1 := us_exact (ppN false (EN a)) (EN a) (by omega) (by omega) o3
  generalize GN (ppN false (EN a)) (EN a) = G at *
  generalize AN (ppN false (EN a)) = A at *
  generalize ppN false (EN a) = p at *
  rw [e1] at w1 w2
  have x1 : usN p (EN a) (MN a - 2 ^ (zN (EN a) - 1)) = unr ((MN a - 2 ^ (zN (EN a) - 1)) * A) G := by
    obtain ⟨z, hz⟩ : ∃ z, MN a - 2 ^ (zN (EN a) - 1) = 512 * z := ⟨(MN a - 2 ^ (zN (EN a) - 1)) / 512, by rw [hc, e1, e2]; rw [show 2 * (1024 * 2 ^ (zN (EN a) - 11)) * c = 1024 * (2 * 2 ^ (zN (EN a) - 11) * c) from by ac_rfl]; omega⟩
    rw [hz]
    exact u1 z (by omega) (by omega)
  have x2 : usN p (EN a) (MN a + 2 ^ (zN (EN a) - 1)) = unr ((MN a + 2 ^ (zN (EN a) - 1)) * A) G := by
    obtain ⟨z, hz⟩ : ∃ z, MN a + 2 ^ (zN (EN a) - 1) = 512 * z := ⟨(MN a + 2 ^ (zN (EN a) - 1)) / 512, by rw [hc, e1, e2]; rw [show 2 * (1024 * 2 ^ (zN (EN a) - 11)) * c = 1024 * (2 * 2 ^ (zN (EN a) - 11) * c) from by ac_rfl]; omega⟩
    rw [hz]
    exact u1 z (by omega) (by omega)
  have x3 : usN p (EN a) (MN a) = unr (MN a * A) G := by
    obtain ⟨z, hz⟩ : ∃ z, MN a = 512 * z := ⟨MN a / 512, by rw [hc, e1, e2]; rw [show 2 * (1024 * 2 ^ (zN (EN a) - 11)) * c = 1024 * (2 * 2 ^ (zN (EN a) - 11) * c) from by ac_rfl]; omega⟩
    rw [hz]
    exact u1 z (by omega) (by omega)
  have hsm : MN a * A / G < 1152921504606846976 := by
    have hur := unr_round (MN a * A) G hG
    rw [← x3] at hur
    omega
  obtain ⟨hrf, hru⟩ := ratio_div (DE_pos p) hG hNU
  rw [x1, x2, x3, unr_round _ _ hG] at hform
  rw [e1] at hge
  clear u1 x1 x2 x3 o1 o2 o3 o4 hsk e3 vpar v3 v2 t1 t2 t3
  have hcc : MN a * A = 2 * (2 ^ (zN (EN a) - 1) * A) * c := by rw [hc, e1]; ac_rfl
  generalize 2 ^ (zN (EN a) - 1) = h at *
  have hle : h ≤ MN a := by omega
  have hmul1 : (MN a - h) * A = MN a * A - h * A := Nat.sub_mul _ _ _
  have hmul2 : (MN a + h) * A = MN a * A + h * A := Nat.add_mul _ _ _
  rw [Nat.mul_assoc] at w1 w2
  have hhA : h * A ≤ MN a * A := Nat.mul_le_mul_right _ hle
  have hh0 : 0 < h := by omega
  have hpos : 0 < h * A := Nat.mul_pos hh0 hA
  have hpos2 : 0 < (MN a - h) * A := Nat.mul_pos (by omega) hA
  have hdm := Nat.div_add_mod (MN a * A) G
  have hml := Nat.mod_lt (MN a * A) hG
  have hmid := mid_le (MN a * A) G (MN a * A / G) (MN a * A % G) (MN a * A / G + upG (MN a * A) G) (h * A) hdm.symm rfl hml w1
  have hstrict : G < 2 * (h * A) ∨ MN a * A % G = 0 := by
    rcases Nat.lt_or_ge G (2 * (h * A)) with g | g
    · exact .inl g
    · right
      have : 2 * (h * A) = G := by omega
      rw [hcc, this, Nat.mul_mod_right]
  have hst := hmid.2 hstrict hpos hhA
  rw [← hmul1, ← hmul2] at hmid hst
  have hGn : G ≤ (MN a + h) * A := by rw [hmul2]; omega
  have huIn : Near (dX (MN a * A / G + upG (MN a * A) G) (-p)) (dQ (-p)) a := (hin _).2 ⟨⟨hmid.1.1, fun _ => hst.1⟩, ⟨hmid.1.2, fun _ => hst.2⟩⟩
  have hiff : ∀ d, Near (dX d (-p)) (dQ (-p)) a ↔ (unr ((MN a - h) * A) G + a % 2 + 3) / 4 ≤ d ∧ d ≤ (unr ((MN a + h) * A) G - a % 2) / 4 := fun d => by
    rw [hin d]
    rcases Nat.mod_two_eq_zero_or_one a with ho | ho
    · rw [ho, Nat.add_zero, Nat.sub_zero, unr_ceil _ _ _ hG, unr_below _ _ _ hG]
      exact ⟨fun h => ⟨h.1.1, h.2.1⟩, fun h => ⟨⟨h.1, fun h => absurd h (by decide)⟩, ⟨h.2, fun h => absurd h (by decide)⟩⟩⟩
    · rw [ho, unr_above _ _ _ hG, unr_under _ _ _ hG hGn]
      exact ⟨fun h => ⟨h.1.2 rfl, h.2.2 rfl⟩, fun h => ⟨⟨Nat.le_of_lt h.1, fun _ => h.1⟩, ⟨Nat.le_of_lt h.2, fun _ => h.2⟩⟩⟩
  obtain ⟨lo, hi⟩ := (hiff _).1 huIn
  refine ⟨p, _, _, _, hform, hiff, lo, hi, ?_, ?_, by rw [hrf, hru], htop, by rw [hrf]; exact hsm⟩
  · have hn := (hin _).1 ((hiff _).2 ⟨Nat.le_refl _, Nat.le_trans lo hi⟩)
    rcases Nat.eq_zero_or_pos ((unr ((MN a - h) * A) G + a % 2 + 3) / 4) with g | g
    · rw [g, Nat.zero_mul] at hn
      omega
    · exact g
  · have n1 := (hin _).1 ((hiff _).2 ⟨Nat.le_refl _, Nat.le_trans lo hi⟩)
    have n2 := (hin _).1 ((hiff _).2 ⟨Nat.le_trans lo hi, Nat.le_refl _⟩)
    generalize (unr ((MN a - h) * A) G + a % 2 + 3) / 4 = dmin at *
    generalize (unr ((MN a + h) * A) G - a % 2) / 4 = dmax at *
    rcases Nat.lt_or_ge (dmin + 9) dmax with g | g
    · exfalso
      have g2 : (dmin + 10) * G ≤ dmax * G := Nat.mul_le_mul_right _ g
      rw [Nat.add_mul] at g2
      have a1 := n1.1.1
      have a2 := n2.2.1
      rw [hmul1] at a1
      rw [hmul2] at a2
      omega
    · exact g

/-- A: what is shown of it is read as it -/
theorem sh_near (a : Nat) (h1 : 0 < a) (h2 : a < 9218868437227405312) (hm : MN a ≠ 9223372036854775808) : Near (dX (shN a).1 (shN a).2) (dQ (shN a).2) a := by
  obtain ⟨p, dmin, dmax, u, hs⟩ := sh_is a h1 h2 hm
  rw [hs.form]
  unfold pick3
  split
  · rename_i h
    have := (hs.isin _).2 ⟨h, by omega⟩
    have e := near_up (dmax / 10) 1 a (-p) (by rwa [Nat.pow_one])
    rwa [show -p + ((1 : Nat) : Int) = -(p - 1) from by omega] at e
  · split
    · exact (hs.isin u).2 ⟨hs.lo, hs.hi⟩
    · have := hs.lo
      have := hs.hi
      exact (hs.isin dmin).2 ⟨Nat.le_refl _, by omega⟩

/-- B: no fewer digits are -/
theorem sh_least (a : Nat) (h1 : 0 < a) (h2 : a < 9218868437227405312) (hm : MN a ≠ 9223372036854775808) (d : Nat) (q : Int) (hd : 1 ≤ d) (hn : Near (dX d q) (dQ q) a) :
    (sig (shN a).1).length ≤ nDigits d := by
  obtain ⟨p, dmin, dmax, u, hs⟩ := sh_is a h1 h2 hm
  have s1 := hs.one
  have s2 := hs.wide
  have s3 := hs.lo
  have s4 := hs.hi
  -- what is shown, of at most the digits of what it is made of
  have hres : ∀ k, (∀ x, dmin ≤ x → x ≤ dmax → ¬ dmin ≤ dmax / 10 * 10 → nDigits x ≤ k) → (dmin ≤ dmax / 10 * 10 → (sig (dmax / 10)).length ≤ k) → (sig (shN a).1).length ≤ k := fun k g1 g2 => by
    rw [hs.form]
    unfold pick3
    split
    · rename_i h; exact g2 h
    · rename_i h
      split
      · exact Nat.le_trans (sig_nd u) (g1 u s3 s4 h)
      · exact Nat.le_trans (sig_nd dmin) (g1 dmin (Nat.le_refl _) (by omega) h)
  by_cases hq : -p + 1 ≤ q
  · -- a multiple of ten
    obtain ⟨k, hk⟩ : ∃ k : Nat, q = -p + ((k + 1 : Nat) : Int) := ⟨(q + p - 1).toNat, by omega⟩
    rw [hk] at hn
    have ht := (hs.isin _).1 (near_down d (k + 1) a (-p) hn)
    rw [Nat.pow_succ, ← Nat.mul_assoc] at ht
    have hx : 1 ≤ d * 10 ^ k := Nat.mul_pos hd (Nat.pow_pos (by decide))
    have e : dmax / 10 = d * 10 ^ k := by omega
    refine hres _ (fun x _ _ hno => absurd (by omega) hno) (fun _ => ?_)
    rw [e, sig_tens d hd k]
    exact sig_nd d
  · by_cases hq2 : q = -p
    · rw [hq2] at hn
      have ht := (hs.isin d).1 hn
      refine hres _ (fun x x1 x2 hno => ?_) (fun hy => Nat.le_trans (sig_nd _) (nd_mono (by omega)))
      -- one decade
      by_cases h0 : dmax / 10 = 0
      · rw [nDigits_small (show x < 10 by omega)]; exact nDigits_pos d
      · rw [show x = dmax / 10 * 10 + (x - dmax / 10 * 10) from by omega, nd_add _ _ (by omega) (by omega), show d = dmax / 10 * 10 + (d - dmax / 10 * 10) from by omega, nd_add _ _ (by omega) (by omega)]
        exact Nat.le_refl _
    · -- a finer power
      obtain ⟨k, hk⟩ : ∃ k : Nat, -p = q + ((k + 1 : Nat) : Int) := ⟨(-p - q - 1).toNat, by omega⟩
      have hU := near_down u (k + 1) a q (by rw [← hk]; exact (hs.isin u).2 ⟨s3, s4⟩)
      have hlt : (dmin - 1) * 10 ^ (k + 1) < d := by
        rcases Nat.lt_or_ge ((dmin - 1) * 10 ^ (k + 1)) d with g | g
        · exact g
        · exfalso
          have g2 := near_between hn hU (dX_mono q g) (dX_mono q (Nat.mul_le_mul_right _ (show dmin - 1 ≤ u by omega)))
          have g3 := near_up (dmin - 1) (k + 1) a q g2
          rw [← hk] at g3
          have := (hs.isin _).1 g3
          omega
      by_cases hx : dmin = 1
      · refine hres _ (fun x x1 x2 hno => ?_) (fun hy => ?_)
        · rw [nDigits_small (show x < 10 by omega)]; exact nDigits_pos d
        · rw [show dmax / 10 = 1 from by omega]
          exact Nat.le_trans (sig_nd 1) (by rw [nDigits_small (by decide)]; exact nDigits_pos d)
      · have hD : nDigits (dmin - 1) + 1 ≤ nDigits d := by
          have g1 := nd_tens (dmin - 1) (by omega) (k + 1)
          have g2 := nd_mono (Nat.le_of_lt hlt)
          omega
        have hb := lt_pow_nDigits (dmin - 1)
        have hpw : 10 ≤ 10 ^ nDigits (dmin - 1) := by
          have := Nat.pow_le_pow_right (show 0 < 10 by decide) (nDigits_pos (dmin - 1))
          omega
        have hup : ∀ x, x ≤ dmin + 9 → nDigits x ≤ nDigits (dmin - 1) + 1 := fun x hx => by
          refine nd_le _ _ ?_
          rw [Nat.pow_succ]
          omega
        refine hres _ (fun x x1 x2 hno => Nat.le_trans (hup x (by omega)) hD) (fun hy => Nat.le_trans (sig_nd _) (Nat.le_trans (hup _ (by omega)) hD))
end Go.Proofs.YtmhagigokgklaaaGreatDoor

/- The shortest digits of powers of two are read as them (by the kernel, one by one). -/
namespace Go.Proofs.YtmhagigokgklaaaGreatDoor
open Go Go.RowKit Go.Lib
set_option exponentiation.threshold 3000

def nearB (X Q r : Nat) : Bool :=
  decide (0 < Q) && decide (r ≤ INF) && (decide (r = 0) || (decide (Q * (V (r - 1) + V r) ≤ X) && (decide (r % 2 ≠ 1) || decide (Q * (V (r - 1) + V r) < X)))) &&
    (decide (r = INF) || (decide (X ≤ Q * (V r + V (r + 1))) && (decide (r % 2 ≠ 1) || decide (X < Q * (V r + V (r + 1))))))
theorem nearB_is {X Q r : Nat} (h : nearB X Q r = true) : Near X Q r := by
  simp only [nearB, Bool.and_eq_true, Bool.or_eq_true, decide_eq_true_eq] at h
  obtain ⟨⟨⟨h1, h2⟩, h3⟩, h4⟩ := h
  refine ⟨h1, h2, h3.imp id fun h => ⟨h.1, fun ho => h.2.resolve_left (fun hh => hh ho)⟩, h4.imp id fun h => ⟨h.1, fun ho => h.2.resolve_left (fun hh => hh ho)⟩⟩
def okA (a : Nat) : Bool := let s := shN a; nearB (dX s.1 s.2) (dQ s.2) a
def lowAll : Nat → Nat → Bool
  | 0, _ => true
  | n + 1, a => okA a && lowAll n (2 * a)
def highAll : Nat → Nat → Bool
  | 0, _ => true
  | n + 1, a => okA a && highAll n (a + 4503599627370496)
theorem lowAll_get : ∀ (n a : Nat), lowAll n a = true → ∀ i, i < n → okA (a * 2 ^ i) = true
  | 0, _, _, i, h => by omega
  | n + 1, a, h, 0, _ => by
    simp only [lowAll, Bool.and_eq_true] at h
    simpa using h.1
  | n + 1, a, h, i + 1, hi => by
    simp only [lowAll, Bool.and_eq_true] at h
    have := lowAll_get n (2 * a) h.2 i (by omega)
    rwa [show 2 * a * 2 ^ i = a * 2 ^ (i + 1) from by rw [Nat.pow_succ]; ac_rfl] at this
theorem highAll_get : ∀ (n a : Nat), highAll n a = true → ∀ i, i < n → okA (a + i * 4503599627370496) = true
  | 0, _, _, i, h => by omega
  | n + 1, a, h, 0, _ => by
    simp only [highAll, Bool.and_eq_true] at h
    simpa using h.1
  | n + 1, a, h, i + 1, hi => by
    simp only [highAll, Bool.and_eq_true] at h
    have := highAll_get n (a + 4503599627370496) h.2 i (by omega)
    rwa [show a + 4503599627370496 + i * 4503599627370496 = a + (i + 1) * 4503599627370496 from by rw [Nat.add_mul, Nat.one_mul]; omega] at this
theorem low_all : lowAll 52 1 = true := by decide +kernel
theorem high_all : highAll 2046 4503599627370496 = true := by decide +kernel

theorem pow_rung (a : Nat) (h1 : 0 < a) (h2 : a < 9218868437227405312) (hm : MN a = 9223372036854775808) : (∃ i, i < 52 ∧ a = 1 * 2 ^ i) ∨ ∃ i, i < 2046 ∧ a = 4503599627370496 + i * 4503599627370496 := by
  by_cases hs : a < 4503599627370496
  · left
    have hmt : mtN a = a := by unfold mtN; rw [if_pos hs]
    obtain ⟨hL1, hL2, _⟩ := bitLen_bounds a h1 (by omega)
    have hL := bitLen_le a 52 h1 (by omega) hs
    have hM : MN a = a * 2 ^ (64 - Lib.bitLen a) := by unfold MN sN; rw [hmt]
    refine ⟨Lib.bitLen a - 1, by omega, ?_⟩
    rw [Nat.one_mul]
    rw [hM] at hm
    have e : 9223372036854775808 = 2 ^ (Lib.bitLen a - 1) * 2 ^ (64 - Lib.bitLen a) := by
      rw [← Nat.pow_add, show Lib.bitLen a - 1 + (64 - Lib.bitLen a) = 63 by omega]
    rw [e] at hm
    exact Nat.eq_of_mul_eq_mul_right (Nat.two_pow_pos _) hm
  · right
    have hmt : mtN a = a % 4503599627370496 + 4503599627370496 := by unfold mtN; rw [if_neg hs]
    have hr := Nat.mod_lt a (show 0 < 4503599627370496 by decide)
    have hL1 := bitLen_le (a % 4503599627370496 + 4503599627370496) 53 (by omega) (by omega) (by omega)
    have hL2 := bitLen_gt (a % 4503599627370496 + 4503599627370496) 52 (by omega) (by omega) (by omega)
    have hL : Lib.bitLen (a % 4503599627370496 + 4503599627370496) = 53 := by omega
    have hM : MN a = (a % 4503599627370496 + 4503599627370496) * 2 ^ 11 := by unfold MN sN; rw [hmt, hL]
    rw [hM] at hm
    have h0 : a % 4503599627370496 = 0 := by omega
    have hdm := Nat.div_add_mod a 4503599627370496
    exact ⟨a / 4503599627370496 - 1, by omega, by omega⟩

/-- what is shown of any number is read as it -/
theorem shown_near (a : Nat) (h1 : 0 < a) (h2 : a < 9218868437227405312) : Near (dX (shN a).1 (shN a).2) (dQ (shN a).2) a := by
  by_cases hm : MN a = 9223372036854775808
  · rcases pow_rung a h1 h2 hm with ⟨i, hi, rfl⟩ | ⟨i, hi, rfl⟩
    · exact nearB_is (lowAll_get _ _ low_all i hi)
    · exact nearB_is (highAll_get _ _ high_all i hi)
  · exact sh_near a h1 h2 hm
end Go.Proofs.YtmhagigokgklaaaGreatDoor

/- An integer of at most 53 bits is shown by its digits (plain). -/
namespace Go.Proofs.YtmhagigokgklaaaGreatDoor
open Go Go.RowKit Go.Lib
set_option exponentiation.threshold 3000

theorem strip_ex : ∀ N : Nat, 1 ≤ N → ∃ t j, N = t * 10 ^ j ∧ t % 10 ≠ 0 := by
  intro N
  induction N using Nat.strongRecOn with
  | _ N ih =>
    intro h
    by_cases h0 : N % 10 = 0
    · obtain ⟨t, j, h1, h2⟩ := ih (N / 10) (by omega) (by omega)
      exact ⟨t, j + 1, by rw [Nat.pow_succ, ← Nat.mul_assoc, ← h1]; omega, h2⟩
    · exact ⟨N, 0, by simp, h0⟩
theorem trimZ_last (l : List UInt8) (c : UInt8) (h : c ≠ 48) : trimZ (l ++ [c]) = l ++ [c] := by
  unfold trimZ
  rw [List.reverse_append, List.reverse_singleton, List.singleton_append, List.dropWhile_cons, if_neg (by simpa using h)]
  simp
theorem sig_odd (t : Nat) (h : t % 10 ≠ 0) : sig t = decDigits t := by
  unfold sig
  by_cases h1 : t < 10
  · rw [decDigits, dif_pos h1]
    exact trimZ_last [] _ (by
      have key : ∀ k : Fin 10, k.val ≠ 0 → UInt8.ofNat (48 + k.val) ≠ 48 := by decide +kernel
      exact key ⟨t, h1⟩ (by show t ≠ 0; omega))
  · rw [decDigits, dif_neg h1]
    exact trimZ_last _ _ (by
      have key : ∀ k : Fin 10, k.val ≠ 0 → UInt8.ofNat (48 + k.val) ≠ 48 := by decide +kernel
      exact key ⟨t % 10, by omega⟩ h)
theorem dec_tens (t : Nat) (h : 1 ≤ t) : ∀ j, decDigits (t * 10 ^ j) = decDigits t ++ List.replicate j 48
  | 0 => by simp
  | j + 1 => by
    have hp : 1 ≤ t * 10 ^ j := Nat.mul_pos h (Nat.pow_pos (by decide))
    rw [Nat.pow_succ, ← Nat.mul_assoc, decDigits, dif_neg (by omega), Nat.mul_div_cancel _ (by decide), Nat.mul_mod_left, dec_tens t h j, List.replicate_succ', List.append_assoc]
    rfl

theorem strip_unique (t j t' j' : Nat) (h : t * 10 ^ j = t' * 10 ^ j') (h1 : t % 10 ≠ 0) (h2 : t' % 10 ≠ 0) : t = t' ∧ j = j' := by
  rcases Nat.lt_trichotomy j j' with g | g | g
  · exfalso
    obtain ⟨k, rfl⟩ : ∃ k, j' = j + (k + 1) := ⟨j' - j - 1, by omega⟩
    rw [Nat.pow_add, Nat.mul_comm (10 ^ j), ← Nat.mul_assoc] at h
    have := Nat.eq_of_mul_eq_mul_right (Nat.pow_pos (by decide)) h
    rw [this, Nat.pow_succ, ← Nat.mul_assoc, Nat.mul_mod_left] at h1
    exact h1 rfl
  · subst g
    exact ⟨Nat.eq_of_mul_eq_mul_right (Nat.pow_pos (by decide)) h, rfl⟩
  · exfalso
    obtain ⟨k, rfl⟩ : ∃ k, j = j' + (k + 1) := ⟨j - j' - 1, by omega⟩
    rw [Nat.pow_add, Nat.mul_comm (10 ^ j'), ← Nat.mul_assoc] at h
    have := Nat.eq_of_mul_eq_mul_right (Nat.pow_pos (by decide)) h.symm
    rw [this, Nat.pow_succ, ← Nat.mul_assoc, Nat.mul_mod_left] at h2
    exact h2 rfl

theorem rung_53 : V 4845873199050653696 = 9007199254740992 * 2 ^ 1074 := by decide +kernel
theorem whole_rung' (t : Nat) (h : t ≤ 9007199254740992) : ∃ r, r ≤ INF ∧ V r = t * 2 ^ 1074 := by
  rcases Nat.lt_or_ge t 9007199254740992 with g | g
  · exact whole_rung t g
  · exact ⟨4845873199050653696, by decide, by rw [show t = 9007199254740992 from by omega]; exact rung_53⟩
theorem oi_val (N : Nat) (h : N ≤ 9007199254740992) : V (oiN (N : Int)) = N * 2 ^ 1074 ∧ oiN (N : Int) < 9218868437227405312 := by
  obtain ⟨r, h1, h2⟩ := oi_nat N
  obtain ⟨s, h3, h4⟩ := whole_rung' N h
  have h5 := near_self s h3
  rw [h4] at h5
  have h6 := near_unique h2 h5
  rw [h1, h6]
  refine ⟨h4, ?_⟩
  rcases Nat.lt_or_ge s 9218868437227405312 with g | g
  · exact g
  · exfalso
    have hI : V 9218868437227405312 ≤ V s := V_le g
    rw [h4] at hI
    have hv : 9007199254740993 * 2 ^ 1074 ≤ V 9218868437227405312 := by decide +kernel
    have := Nat.le_trans hv hI
    have := Nat.le_of_mul_le_mul_right this (Nat.two_pow_pos 1074)
    omega

/-- the digits of a whole number that is no power of two -/
theorem exact_digits (N a : Nat) (hN1 : 1 ≤ N) (hN2 : N < 9007199254740992) (h1 : 0 < a) (h2 : a < 9218868437227405312) (hv : V a = N * 2 ^ 1074) (hm : MN a ≠ 9223372036854775808) (hN3 : 2 ≤ N) :
    ∃ t j, N = t * 10 ^ j ∧ t % 10 ≠ 0 ∧ sig (shN a).1 = decDigits t ∧ ((nDigits (shN a).1 : Nat) : Int) + (shN a).2 = ((nDigits t + j : Nat) : Int) := by
  obtain ⟨t, j, e1, e2⟩ := strip_ex N hN1
  have ht0 : 1 ≤ t := by omega
  refine ⟨t, j, e1, e2, ?_⟩
  have hA := shown_near a h1 h2
  obtain ⟨b1, _, _⟩ := sh_bounds a h1 h2
  have hB := sh_least a h1 h2 hm t (j : Int) ht0 (by
    have := near_self a (by unfold INF; omega)
    rw [hv] at this
    rw [dX_pos, dQ_pos1, ← e1]
    exact this)
  generalize (shN a).1 = d at *
  generalize (shN a).2 = q at *
  obtain ⟨d0, i, f1, f2⟩ := strip_ex d b1
  have hd0 : 1 ≤ d0 := by omega
  have hsig : sig d = decDigits d0 := by rw [f1, sig_tens d0 hd0, sig_odd d0 f2]
  have hnd : nDigits d = nDigits d0 + i := by rw [f1, nd_tens d0 hd0]
  rw [hsig, decDigits_length] at hB
  rw [f1] at hA
  have hA0 := near_up d0 i a q hA
  -- the neighbours
  have hvl : (N - 1) * 2 ^ 1074 ≤ V (a - 1) := by
    obtain ⟨r, _, hr⟩ := whole_rung' (N - 1) (by omega)
    have hlt : r < a := by
      rcases Nat.lt_or_ge r a with g | g
      · exact g
      · exfalso
        have := V_le g
        rw [hr, hv] at this
        have := Nat.le_of_mul_le_mul_right this (Nat.two_pow_pos 1074)
        omega
    rw [← hr]; exact V_le (by omega)
  have hvh : V (a + 1) ≤ (N + 1) * 2 ^ 1074 := by
    obtain ⟨r, _, hr⟩ := whole_rung' (N + 1) (by omega)
    have hlt : a < r := by
      rcases Nat.lt_or_ge a r with g | g
      · exact g
      · exfalso
        have := V_le g
        rw [hr, hv] at this
        have := Nat.le_of_mul_le_mul_right this (Nat.two_pow_pos 1074)
        omega
    rw [← hr]; exact V_le hlt
  have hlo := (hA0.lo.resolve_left (by omega)).1
  have hhi := (hA0.hi.resolve_left (by unfold INF; omega)).1
  rw [hv] at hlo hhi
  have hlo2 : dQ (q + i) * ((2 * N - 1) * 2 ^ 1074) ≤ dX d0 (q + i) := by
    refine Nat.le_trans (Nat.mul_le_mul_left _ ?_) hlo
    rw [show 2 * N - 1 = (N - 1) + N from by omega, Nat.add_mul]
    exact Nat.add_le_add_right hvl _
  have hhi2 : dX d0 (q + i) ≤ dQ (q + i) * ((2 * N + 1) * 2 ^ 1074) := by
    refine Nat.le_trans hhi (Nat.mul_le_mul_left _ ?_)
    rw [show 2 * N + 1 = N + (N + 1) from by omega, Nat.add_mul]
    exact Nat.add_le_add_left hvh _
  clear hlo hhi hvl hvh hA hA0
  by_cases hq : 0 ≤ q + i
  · obtain ⟨k, hk⟩ : ∃ k : Nat, q + i = (k : Int) := ⟨(q + i).toNat, by omega⟩
    rw [hk, dX_pos, dQ_pos1, Nat.one_mul, ← Nat.mul_assoc] at hlo2 hhi2
    have g1 := Nat.le_of_mul_le_mul_right hlo2 (Nat.two_pow_pos 1074)
    have g2 := Nat.le_of_mul_le_mul_right hhi2 (Nat.two_pow_pos 1074)
    have hN' : d0 * 10 ^ k = N := by omega
    obtain ⟨rfl, rfl⟩ := strip_unique d0 k t j (by rw [hN', e1]) f2 e2
    exact ⟨hsig, by rw [hnd]; push_cast; omega⟩
  · exfalso
    obtain ⟨k, hk⟩ : ∃ k : Nat, q + i = -((k + 1 : Nat) : Int) := ⟨(-(q + i) - 1).toNat, by omega⟩
    rw [hk, dX_neg, dQ_neg, ← Nat.mul_assoc, ← Nat.mul_assoc] at hlo2
    have g1 := Nat.le_of_mul_le_mul_right hlo2 (Nat.two_pow_pos 1074)
    have hp : 1 ≤ 10 ^ k := Nat.pow_pos (by decide)
    have g2 : 10 * (2 * N - 1) ≤ 10 ^ (k + 1) * (2 * N - 1) := by
      rw [Nat.pow_succ, Nat.mul_comm (10 ^ k)]
      exact Nat.mul_le_mul_right _ (by omega)
    have g3 : (N - 1) * 10 + 5 ≤ d0 := by omega
    have g4 := nd_mono g3
    rw [nd_add _ _ (by omega) (by decide)] at g4
    -- the digits of t are no more than those of N - 1
    have g5 : nDigits t ≤ nDigits (N - 1) := by
      cases j with
      | zero =>
        rw [Nat.pow_zero, Nat.mul_one] at e1
        subst e1
        by_cases h10 : N < 10
        · rw [nDigits_small h10, nDigits_small (show N - 1 < 10 by omega)]; exact Nat.le_refl _
        · rw [show N = N / 10 * 10 + N % 10 from by omega, nd_add _ _ (by omega) (by omega), show N / 10 * 10 + N % 10 - 1 = N / 10 * 10 + (N % 10 - 1) from by omega, nd_add _ _ (by omega) (by omega)]
          exact Nat.le_refl _
      | succ j =>
        refine nd_mono ?_
        rw [Nat.pow_succ, ← Nat.mul_assoc] at e1
        have : t ≤ t * 10 ^ j := Nat.le_mul_of_pos_right _ (Nat.pow_pos (by decide))
        omega
    omega
end Go.Proofs.YtmhagigokgklaaaGreatDoor

/- NumExact. -/
namespace Go.Proofs.YtmhagigokgklaaaGreatDoor
open Go Go.RowKit Go.Sort Go.Lib Go.Shelf
set_option exponentiation.threshold 3000

theorem pow2_shown : ∀ i : Fin 54, showB (oiN ((2 ^ i.val : Nat) : Int)) = decDigits (2 ^ i.val) := by decide +kernel
theorem pow_of_rung (N a : Nat) (hN2 : N ≤ 9007199254740992) (h1 : 0 < a) (h2 : a < 9218868437227405312) (hv : V a = N * 2 ^ 1074) (hm : MN a = 9223372036854775808) : ∃ i, i < 54 ∧ N = 2 ^ i := by
  obtain ⟨v0, _⟩ := me_val a h1 h2
  rw [hm, hv, show 9223372036854775808 = 2 ^ 63 from by decide, ← Nat.pow_add, Nat.mul_assoc, ← Nat.pow_add] at v0
  generalize 63 + (EN a + 1138).toNat = K at *
  have hN1 : 1 ≤ N := by
    rcases Nat.eq_zero_or_pos N with g | g
    · rw [g, Nat.zero_mul] at v0
      exact absurd v0.symm (Nat.ne_of_gt (Nat.two_pow_pos K))
    · exact g
  have hK : 1138 ≤ K := by
    rcases Nat.lt_or_ge K 1138 with g | g
    · exfalso
      have g1 := (Nat.pow_lt_pow_iff_right (show 1 < 2 by decide)).2 g
      have g2 : 2 ^ 1138 ≤ N * 2 ^ (1074 + 64) := Nat.le_mul_of_pos_left _ hN1
      omega
    · exact g
  obtain ⟨i, rfl⟩ : ∃ i, K = i + 1138 := ⟨K - 1138, by omega⟩
  rw [Nat.pow_add 2 i] at v0
  have e := Nat.eq_of_mul_eq_mul_right (Nat.two_pow_pos 1138) v0
  refine ⟨i, ?_, e⟩
  rw [e, show 9007199254740992 = 2 ^ 53 from by decide] at hN2
  have := (Nat.pow_le_pow_iff_right (show 1 < 2 by decide)).1 hN2
  omega

/-- a whole number of at most 53 bits is shown by its digits -/
theorem whole_shown (N : Nat) (hN : N ≤ 9007199254740992) : showB (oiN (N : Int)) = decDigits N := by
  rcases Nat.eq_zero_or_pos N with g | g
  · subst g; decide +kernel
  · obtain ⟨hv, hlt⟩ := oi_val N hN
    by_cases hp : ∃ i, i < 54 ∧ N = 2 ^ i
    · obtain ⟨i, hi, rfl⟩ := hp
      exact pow2_shown ⟨i, hi⟩
    · generalize oiN (N : Int) = a at *
      have ha : 0 < a := by
        rcases Nat.eq_zero_or_pos a with h | h
        · rw [h] at hv
          have : 0 < N * 2 ^ 1074 := Nat.mul_pos g (Nat.two_pow_pos _)
          rw [← hv] at this
          exact absurd this (by decide)
        · exact h
      have hm : MN a ≠ 9223372036854775808 := fun h => hp (pow_of_rung N a hN ha hlt hv h)
      have hN2 : N < 9007199254740992 := by
        rcases Nat.lt_or_ge N 9007199254740992 with h | h
        · exact h
        · exact absurd ⟨53, by decide, by rw [show (2 : Nat) ^ 53 = 9007199254740992 from by decide]; omega⟩ hp
      have hN3 : 2 ≤ N := by
        rcases Nat.lt_or_ge N 2 with h | h
        · exact absurd ⟨0, by decide, by rw [Nat.pow_zero]; omega⟩ hp
        · exact h
      obtain ⟨t, j, e1, e2, e3, e4⟩ := exact_digits N a g hN2 ha hlt hv hm hN3
      have ht : 1 ≤ t := by omega
      have hnd : nDigits N = nDigits t + j := by rw [e1, nd_tens t ht]
      have h16 : nDigits N ≤ 15 + 1 := nd_le 15 N (by omega)
      unfold showB showA placedB
      rw [Nat.mod_eq_of_lt (show a < 9223372036854775808 by omega), if_neg (by omega), if_pos (by omega), if_neg (by omega), if_neg (by omega), e3, e4, decDigits_length, if_pos ⟨by omega, by omega⟩, List.nil_append,
        show (((nDigits t + j : Nat) : Int) - (nDigits t : Int)).toNat = j from by omega, ← dec_tens t ht j, ← e1]

theorem oi_neg (N : Nat) (h : 1 ≤ N) : oiN (-(N : Int)) = 9223372036854775808 + oiN (N : Int) := by
  obtain ⟨r, h1, h2⟩ := nearest_is true N
  obtain ⟨s, h3, h4⟩ := oi_nat N
  have hrs := near_unique h2 h4
  obtain ⟨w1, w2, w3⟩ := word_parts true r h2.inf
  have hl : Ieee.double.word true r = 9223372036854775808 + r := by
    unfold ngB at w2
    unfold ru at w3
    rw [decide_eq_true_iff] at w2
    omega
  rw [h3, ← hrs, ← hl, ← h1]
  show Ieee.double.nearest (decide (-(N : Int) < 0)) (-(N : Int)).natAbs 0 = _
  rw [decide_eq_true (by omega), Int.natAbs_neg]; rfl
theorem neg_shown (N : Nat) (h1 : 1 ≤ N) (hN : N ≤ 9007199254740992) : showB (oiN (-(N : Int))) = 45 :: decDigits N := by
  obtain ⟨_, hlt⟩ := oi_val N hN
  have hw := whole_shown N hN
  rw [oi_neg N h1]
  generalize oiN (N : Int) = a at *
  unfold showB at hw ⊢
  rw [Nat.mod_eq_of_lt (show a < 9223372036854775808 by omega), if_neg (by omega), if_pos (show a < 9223372036854775808 by omega), List.nil_append] at hw
  rw [show (9223372036854775808 + a) % 9223372036854775808 = a from by omega, if_neg (by omega), if_neg (show ¬ 9223372036854775808 + a < 9223372036854775808 by omega), hw]
  rfl
theorem int_exact (n : Int) (h1 : -9007199254740992 ≤ n) (h2 : n ≤ 9007199254740992) : intV (oiN n) = (n, true) := by
  have fl : ∀ N : Nat, N ≤ 9007199254740992 → FL (oiN (N : Int)) = N ∧ V (oiN (N : Int)) % 2 ^ 1074 = 0 := fun N h => by
    obtain ⟨hv, _⟩ := oi_val N h
    unfold FL
    rw [hv]
    exact ⟨Nat.mul_div_cancel _ (Nat.two_pow_pos _), Nat.mul_mod_left _ _⟩
  by_cases hn : 0 ≤ n
  · obtain ⟨N, rfl⟩ : ∃ N : Nat, n = N := ⟨n.toNat, by omega⟩
    obtain ⟨f1, f2⟩ := fl N (by omega)
    obtain ⟨_, hlt⟩ := oi_val N (by omega)
    generalize oiN (N : Int) = a at *
    have hr : ru a = a := Nat.mod_eq_of_lt (by omega)
    have hg : ngB a = false := by unfold ngB; rw [decide_eq_false_iff_not]; omega
    have hok : intOK a := by
      unfold intOK
      rw [hr, hg, f1]
      exact ⟨hlt, f2, by show N < _; omega⟩
    unfold intV
    rw [if_pos hok, hr, hg, f1]; rfl
  · obtain ⟨N, rfl⟩ : ∃ N : Nat, n = -(N : Int) := ⟨n.natAbs, by omega⟩
    obtain ⟨f1, f2⟩ := fl N (by omega)
    obtain ⟨_, hlt⟩ := oi_val N (by omega)
    rw [oi_neg N (by omega)]
    generalize oiN (N : Int) = a at *
    have hr : ru (9223372036854775808 + a) = a := by unfold ru; omega
    have hg : ngB (9223372036854775808 + a) = true := by unfold ngB; rw [decide_eq_true_iff]; omega
    have hok : intOK (9223372036854775808 + a) := by
      unfold intOK
      rw [hr, hg, f1]
      exact ⟨hlt, f2, by show N ≠ 0 ∧ N ≤ _; omega⟩
    unfold intV
    rw [if_pos hok, hr, hg, f1]; rfl
end Go.Proofs.YtmhagigokgklaaaGreatDoor

/- NumExact, walked: it returns true. -/
namespace Go.Proofs.YtmhagigokgklaaaGreatDoor
open Go Go.RowKit Go.Sort Go.Lib

theorem digit_str (W : World) (x : UInt8) : (convert 34 9 (.slice (some ⟨W.heap.size, 0, Option.none⟩) 1 1)).run Tryz.prog (W.alloc (.cells #[.int .u8 (x.toNat : Int)] 5)) = .ok (.string ⟨#[x]⟩) (W.alloc (.cells #[.int .u8 (x.toNat : Int)] 5)) := by
  have := run_convert_bytes_arg (P := Tryz.prog) (W.alloc (.cells #[.int .u8 (x.toNat : Int)] 5)) _ _ Tryz.underlying34 Tryz.underlying5 W.heap.size 0 1 1 [(x.toNat : Int)] rfl (fun i hi => by
    obtain rfl : i = 0 := by simp at hi; omega
    simp [go_sem]) _ Tryz.underlying9
  rw [this]
  simp [strOfNums]

/-- the digits gathered so far, and what is left -/
def ExRel (N : Nat) (g k : Nat) (l : List UInt8) : Prop := (l = [] ∧ k = N ∧ g = N + 1) ∨ (l ≠ [] ∧ g = k ∧ decDigits N = (if k = 0 then [] else decDigits k) ++ l)
theorem exrel_step (N g k : Nat) (l : List UInt8) (h : ExRel N g k l) (hc : 0 < k ∨ l = []) : ExRel N (k / 10) (k / 10) (UInt8.ofNat (48 + k % 10) :: l) ∧ k / 10 < g := by
  have hd : decDigits k = (if k / 10 = 0 then [] else decDigits (k / 10)) ++ [UInt8.ofNat (48 + k % 10)] := by
    rw [decDigits]
    split
    · rename_i h; rw [if_pos (by omega), Nat.mod_eq_of_lt h]; rfl
    · rename_i h; rw [if_neg (by omega)]
  rcases h with ⟨rfl, rfl, rfl⟩ | ⟨h1, rfl, h2⟩
  · exact ⟨.inr ⟨by simp, rfl, hd⟩, by omega⟩
  · have hk : 0 < g := hc.resolve_right h1
    refine ⟨.inr ⟨by simp, rfl, ?_⟩, by omega⟩
    rw [h2, if_neg (by omega), hd, List.append_assoc]; rfl
theorem exrel_end (N g : Nat) (l : List UInt8) (h : ExRel N g 0 l) (hl : l ≠ []) : l = decDigits N := by
  rcases h with ⟨h1, _⟩ | ⟨_, _, h2⟩
  · exact absurd h1 hl
  · rw [if_pos rfl, List.nil_append] at h2; exact h2.symm
theorem exrel_len (N g k : Nat) (l : List UInt8) (h : ExRel N g k l) : l.length ≤ (decDigits N).length := by
  rcases h with ⟨h1, _⟩ | ⟨_, _, h2⟩
  · rw [h1]; exact Nat.zero_le _
  · rw [h2, List.length_append]; omega
theorem cons_str (x : UInt8) (l : List UInt8) : (⟨#[x]⟩ : ByteArray) ++ ⟨l.toArray⟩ = ⟨(x :: l).toArray⟩ := by
  apply ByteArray.ext
  rw [ByteArray.data_append]
  apply Array.toList_inj.1
  simp
theorem nil_list (l : List UInt8) : ((⟨l.toArray⟩ : ByteArray).toList == []) = decide (l = []) := by
  rw [ByteArray.toList_eq]
  cases l <;> rfl

set_option maxRecDepth 100000 in
set_option maxHeartbeats 4000000 in
theorem exact_walk (n : Int) (K : Nat) (w : World) (hG : Globs w) (hT : GlobT K w) (hn : -9223372036854775808 ≤ n ∧ n ≤ 9223372036854775807) :
    Calls Tryz.prog 7 #[.int .i64 n] w fun e w' => e = .returned (.bool true) ∧ Below w.heap.size w w' := by
  have HW := Lib.hid (works_any K w hG hT)
  have HGS := Lib.hid hG
  clear hG hT
  by_cases hout : n < -9007199254740992 ∨ 9007199254740992 < n
  · by_cases hm : n < -9007199254740992
    · go_enter Tryz.func7, Tryz.ntmps7
      go_wp2_with fail
      refine HW.out.mono ?_
      rintro e w1 ⟨rfl, hb⟩
      go_wp2_with fail
      go_ret
      exact ⟨rfl, hb⟩
    · have hm2 : 9007199254740992 < n := by omega
      go_enter Tryz.func7, Tryz.ntmps7
      go_wp2_with fail
      refine HW.out.mono ?_
      rintro e w1 ⟨rfl, hb⟩
      go_wp2_with fail
      go_ret
      exact ⟨rfl, hb⟩
  · have hm1 : ¬ n < -9007199254740992 := fun h => hout (.inl h)
    have hm2 : ¬ 9007199254740992 < n := fun h => hout (.inr h)
    have hlt : oiN n < 18446744073709551616 := by
      by_cases h0 : 0 ≤ n
      · obtain ⟨N, rfl⟩ : ∃ N : Nat, n = N := ⟨n.toNat, by omega⟩
        have := (oi_val N (by omega)).2
        omega
      · obtain ⟨N, rfl⟩ : ∃ N : Nat, n = -(N : Int) := ⟨n.natAbs, by omega⟩
        have := (oi_val N (by omega)).2
        rw [oi_neg N (by omega)]
        omega
    have hshow : showB (oiN n) = if n < 0 then 45 :: decDigits n.natAbs else decDigits n.natAbs := by
      by_cases h0 : n < 0
      · rw [if_pos h0]
        obtain ⟨N, rfl⟩ : ∃ N : Nat, n = -(N : Int) := ⟨n.natAbs, by omega⟩
        rw [neg_shown N (by omega) (by omega), Int.natAbs_neg]; rfl
      · rw [if_neg h0]
        obtain ⟨N, rfl⟩ : ∃ N : Nat, n = N := ⟨n.toNat, by omega⟩
        exact whole_shown N (by omega)
    have HI : Hid (∀ W : World, Calls Tryz.prog 15 #[.int .u64 (oiN n)] W fun e w' => e = .returned (.tuple #[.int .i64 n, .bool true]) ∧ Below W.heap.size W w') := Lib.hid fun W => by
      have := int_any (oiN n) W hlt
      rw [int_exact n (by omega) (by omega)] at this
      exact this
    have HO : Hid (∀ W : World, Calls Tryz.prog 17 #[.int .i64 n] W fun e w' => e = .returned (.int .u64 (oiN n)) ∧ w' = W) := Lib.hid fun W => ofint_any n W
    have HS : Hid (∀ W : World, Globs W → Calls Tryz.prog 13 #[.int .u64 (oiN n)] W fun e w' => e = .returned (.string ⟨(if n < 0 then 45 :: decDigits n.natAbs else decDigits n.natAbs).toArray⟩) ∧ Below W.heap.size W w') := Lib.hid fun W h => by
      have := show_any (oiN n) W h hlt
      rw [hshow] at this
      exact this
    clear hout hlt hshow
    generalize oiN n = x at *
    have hlen : (decDigits n.natAbs).length ≤ 16 := by
      rw [decDigits_length]
      exact nd_le 15 _ (by omega)
    obtain ⟨N, hN⟩ : ∃ N, n.natAbs = N := ⟨_, rfl⟩
    rw [hN] at HS hlen
    have HLEN := Lib.hid hlen
    have hsgn : n < 0 ∧ n = -(N : Int) ∨ ¬ n < 0 ∧ n = (N : Int) := by omega
    have hNle : N ≤ 9007199254740992 := by omega
    clear hN hlen hn
    rcases hsgn with ⟨hneg, hnN⟩ | ⟨hneg, hnN⟩
    all_goals
      first | rw [if_pos hneg] at HS | rw [if_neg hneg] at HS
      have HN := Lib.hid hnN
      first | (have hnn : -n = (N : Int) := by omega) | skip
      clear hnN
      go_enter Tryz.func7, Tryz.ntmps7
      go_wp2_with fail
      refine HW.out.mono ?_
      rintro e w1 ⟨rfl, hb1⟩
      have B1 := Lib.hid hb1
      clear hb1
      go_wp2_with fail
      refine (HO.out _).mono ?_
      rintro e w1 ⟨rfl, rfl⟩
      go_wp2_with fail
      refine (HI.out _).mono ?_
      rintro e w2 ⟨rfl, hb2⟩
      have B2 := Lib.hid (B1.out.trans (hb2.mono B1.out.size))
      clear hb2
      go_wp2_with fail
      go_loopg [7, 8] (N + 1) (fun g s7 s8 wr => ∃ (k : Nat) (l : List UInt8), ExRel N g k l ∧ k ≤ 9007199254740992 ∧ l.length ≤ 16 ∧ s7 = .string ⟨l.toArray⟩ ∧ s8 = .int .i64 k ∧ Below w.heap.size w wr)
      case atStart => exact ⟨N, [], .inl ⟨rfl, rfl, rfl⟩, hNle, by simp, rfl, by first | rfl | rw [HN.out], B2.out⟩
      case round =>
        obtain ⟨k, l, hr, hk, hl, rfl, rfl, hb⟩ := hrel
        have HB := Lib.hid hb
        have HR := Lib.hid hr
        clear hb hr
        by_cases hc : 0 < k ∨ l = []
        · have hst := exrel_step N gk k l HR.out hc
          obtain ⟨d, hd⟩ : ∃ d, k % 10 = d := ⟨_, rfl⟩
          obtain ⟨k', hk'⟩ : ∃ k', k / 10 = k' := ⟨_, rfl⟩
          have hd10 : d < 10 := by omega
          rw [hd, hk'] at hst
          have HST := Lib.hid hst
          have hk10 : (k : Int) % 10 = (d : Int) := by omega
          have hk10b : (k : Int).tmod 10 = (d : Int) := by rw [Int.tmod_eq_emod_of_nonneg (by omega)]; omega
          have hkd : (k : Int).tdiv 10 = (k' : Int) := by rw [Int.tdiv_eq_ediv_of_nonneg (by omega)]; omega
          have hkd2 : (k : Int) / 10 = (k' : Int) := by omega
          have hk'le : k' ≤ 9007199254740992 := by omega
          obtain ⟨c, hcd⟩ : ∃ c, UInt8.ofNat (48 + d) = c := ⟨_, rfl⟩
          have hct : ((c.toNat : Nat) : Int) = 48 + (d : Int) := by
            rw [← hcd, UInt8.toNat_ofNat', Nat.mod_eq_of_lt (show 48 + d < 2 ^ 8 by omega)]; push_cast; rfl
          have hds := fun W => digit_str W c
          rw [hct] at hds
          rw [hcd] at HST
          have hcs := cons_str c l
          have hl2 : l.length + 1 ≤ 17 := by omega
          have HK := Lib.hid hkd
          clear hd hk' hst hcd hct
          have hsz : (⟨l.toArray⟩ : ByteArray).size ≤ 16 := hl
          by_cases hk0 : 0 < k
          · have hki : (0 : Int) < (k : Int) := by omega
            go_wp2_with fail
            go_roundg k'
            case measure => exact HST.out.2
            case rel => exact ⟨k', c :: l, HST.out.1, hk'le, Nat.le_trans (exrel_len _ _ _ _ HST.out.1) HLEN.out, rfl, rfl, HB.out.alloc HB.out.size _⟩
          · have hl0 : l = [] := hc.resolve_left hk0
            have hki : ¬ (0 : Int) < (k : Int) := by omega
            have hle : l.isEmpty = true := by rw [hl0]; rfl
            have hcn := cons_str c []
            go_wp2_with fail
            go_roundg k'
            case measure => exact HST.out.2
            case rel => exact ⟨k', c :: l, HST.out.1, hk'le, Nat.le_trans (exrel_len _ _ _ _ HST.out.1) HLEN.out, by rw [hl0] <;> first | rfl | (congr 1), rfl, HB.out.alloc HB.out.size _⟩
        · have hk0 : k = 0 := by omega
          have hl0 : l ≠ [] := fun h => hc (.inr h)
          subst hk0
          have HD := Lib.hid (exrel_end N gk l HR.out hl0)
          have hle : l.isEmpty = false := by cases l; exact absurd rfl hl0; rfl
          have hsz : (⟨l.toArray⟩ : ByteArray).size ≤ 16 := hl
          clear hc hl0
          go_wp2_with fail
          refine (HS.out _ (HGS.out.on HB.out)).mono ?_
          rintro e w9 ⟨rfl, hb9⟩
          have B9 := Lib.hid (HB.out.trans (hb9.mono HB.out.size))
          clear hb9
          have hdd := HD.out
          first | (have hcs := cons_str 45 l) | skip
          subst hdd
          go_wp2_with fail
          go_ret
          exact ⟨rfl, B9.out⟩
end Go.Proofs.YtmhagigokgklaaaGreatDoor

/- num.Parse of texts whose digits behind the 19th are noughts. -/
namespace Go.Proofs.YtmhagigokgklaaaGreatDoor
open Go Go.RowKit Go.Sort Go.Lib

theorem dvl_nought (b : Nat) (l : List UInt8) (h : ∀ x ∈ l, x = 48) : dvl b l = 0 := by
  rw [List.eq_replicate_of_mem h]
  exact dvl_zeros b _

theorem rf_noughts (M W F : List UInt8) (dot : Bool) (h : MantF M W F dot) (hz : ∀ x ∈ (dropZ (W ++ F)).drop 19, x = 48) (x : Int) :
    ∃ k : Nat, dvl 10 (W ++ F) = (rfF 10 19 M).mant * 10 ^ k ∧ (rfF 10 19 M).tr = false ∧ (rfF 10 19 M).mant < 10 ^ 19 ∧ ((rfF 10 19 M).mant ≠ 0 → rfExp (rfF 10 19 M) x = x - F.length + k) := by
  obtain ⟨i, hd, he, _, _⟩ := rf_mant 10 19 M W F dot h.eq (fun x hx => dig_ne46 (h.w x hx)) (fun x hx => dig_ne46 (h.f x hx)) h.nodot
  have hall : ∀ x ∈ W ++ F, isDig x := fun x hx => (List.mem_append.1 hx).elim (h.w x) (h.f x)
  refine ⟨((dropZ (W ++ F)).drop 19).length, ?_, ?_, ?_, ?_⟩
  · rw [i.mant, ← dvl_dropZ 10 (W ++ F)]
    conv => lhs; rw [← List.take_append_drop 19 (dropZ (W ++ F)), dvl_app, dvl_nought 10 _ hz, Nat.add_zero]
  · rw [i.tr, List.any_eq_false]
    intro x hx
    rw [hz x hx]; decide
  · rw [i.mant]
    refine Nat.lt_of_lt_of_le (dvl_lt 10 (by decide) _ fun x hx => okD_dv (by decide) (.inl (hall x ((List.dropWhile_sublist _).subset (List.mem_of_mem_take hx))))) (Nat.pow_le_pow_right (by decide) ?_)
    rw [List.length_take]; exact Nat.min_le_left _ _
  · intro h0
    unfold rfExp
    rw [if_neg h0]
    have h1 := i.nd
    have h2 := i.nm
    rw [List.length_drop]
    omega

theorem near_pow2 {d k : Nat} {p q : Int} {r : Nat} (h : Near (dX d p) (dQ p) r) (he : d ≠ 0 → p = q + k) : Near (dX (d * 10 ^ k) q) (dQ q) r := by
  by_cases h0 : d = 0
  · subst h0
    rw [Nat.zero_mul]
    obtain rfl := near_unique h (zero_near p)
    exact zero_near q
  · rw [he h0] at h; exact near_down d k r q h

theorem pfloat_noughts (l D : List UInt8) (p : Int) (K : Nat) (w : World) (hG : Globs w) (hT : GlobT K w) (hl : l.length ≤ 1000) (hi : DecIs l D p) (hz : ∀ x ∈ (dropZ D).drop 19, x = 48) :
    Calls Tryz.prog 23 #[.string ⟨(noBars l).toArray⟩, .int .i64 64] w (PlPost (dX (dvl 10 D) p) (dQ p) w) := by
  obtain ⟨W, F, dot, M, hM, hne, rfl, hx⟩ := hi
  have hnl := noBars_len l
  refine pfloat_of _ _ _ K w hT (by rw [ba_size]; omega) ?_
  rcases hx with ⟨h1, rfl⟩ | ⟨eb, sg, X, hp, hX, h1, rfl⟩
  · rw [h1] at hnl ⊢
    obtain ⟨k, e1, e2, e3, e4⟩ := rf_noughts M W F dot hM hz 0
    have hz := ba_first M [] W F dot hM hne
    rw [List.append_nil] at hz
    obtain ⟨h0, hb⟩ := hz
    have hrf := rf_plain ⟨M.toArray⟩ w (by rw [ba_size]; omega) W F dot (by rw [ba_of]; exact hM) hne
    rw [ba_of, e2] at hrf
    have := atof_dec ⟨M.toArray⟩ _ K _ w hG.glob hT h0 (by rw [ba_size]; omega) hb e3 hrf
    refine this.mono ?_
    rintro e w' ⟨r, hn, he, hb⟩
    refine ⟨r, ?_, he, hb⟩
    rw [e1]
    exact near_pow2 hn fun h => by rw [e4 h, Int.zero_sub]
  · rw [h1] at hnl ⊢
    obtain ⟨k, e1, e2, e3, e4⟩ := rf_noughts M W F dot hM hz ((exF X : Int) * sgZ sg)
    obtain ⟨h0, hb⟩ := ba_first M (powT eb sg X) W F dot hM hne
    have hrf := rf_pow ⟨(M ++ powT eb sg X).toArray⟩ w (by rw [ba_size]; omega) M W F dot eb sg X hM hne hp hX (ba_of _)
    rw [e2] at hrf
    have := atof_dec ⟨(M ++ powT eb sg X).toArray⟩ _ K _ w hG.glob hT h0 (by rw [ba_size]; omega) hb e3 hrf
    refine this.mono ?_
    rintro e w' ⟨r, hn, he, hb⟩
    refine ⟨r, ?_, he, hb⟩
    rw [e1]
    exact near_pow2 hn fun h => e4 h

theorem parse_noughts (s : ByteArray) (neg : Bool) (l D : List UInt8) (p : Int) (K : Nat) (w : World) (hG : Globs w) (hT : GlobT K w) (hs : s.data.toList = sgB neg ++ l) (hlen : s.size ≤ 400) (hd : decB l = true) (hi : DecIs l D p) (hz : ∀ x ∈ (dropZ D).drop 19, x = 48) :
    Calls Tryz.prog 11 #[.string s] w (PaPost (dX (dvl 10 D) p) (dQ p) neg w) := by
  have hll : l.length ≤ 400 := by
    have : s.size = s.data.toList.length := by simp
    rw [hs, List.length_append] at this
    omega
  exact parse_dec s neg l _ _ K w hG hT hs hlen hd fun W hg ht => pfloat_noughts l D p K W hg ht (by omega) hi hz
end Go.Proofs.YtmhagigokgklaaaGreatDoor

/- What is shown of a number has the form of a decimal text, and is that number (plain). -/
namespace Go.Proofs.YtmhagigokgklaaaGreatDoor
open Go Go.RowKit Go.Lib

def foldS (q : Nat) (l : List UInt8) : Nat := l.foldl (fun q c => nextN q (clsN c.toNat)) q
theorem foldS_app (q : Nat) (l m : List UInt8) : foldS q (l ++ m) = foldS (foldS q l) m := by unfold foldS; rw [List.foldl_append]
theorem foldS_cons (q : Nat) (c : UInt8) (l : List UInt8) : foldS q (c :: l) = foldS (nextN q (clsN c.toNat)) l := rfl
theorem dig_class {c : UInt8} (h : isDig c) : clsN c.toNat = 1 ∨ clsN c.toNat = 2 := by
  unfold clsN
  obtain ⟨h1, h2⟩ := h
  split
  · exact .inl rfl
  · rw [if_pos ⟨h1, h2⟩]; exact .inr rfl
theorem dig_class2 {c : UInt8} (h : isDig c) (h0 : c ≠ 48) : clsN c.toNat = 2 := by
  unfold clsN
  obtain ⟨h1, h2⟩ := h
  rw [if_neg (fun hh => h0 (UInt8.toNat_inj.1 (by rw [hh]; rfl))), if_pos ⟨h1, h2⟩]
theorem foldS_digs (q : Nat) (h1 : nextN q 1 = q) (h2 : nextN q 2 = q) : ∀ l : List UInt8, (∀ x ∈ l, isDig x) → foldS q l = q
  | [], _ => rfl
  | c :: l, h => by
    rw [foldS_cons]
    have hc := dig_class (h c (by simp))
    have : nextN q (clsN c.toNat) = q := by rcases hc with g | g <;> rw [g] <;> assumption
    rw [this]
    exact foldS_digs q h1 h2 l fun x hx => h x (by simp [hx])
theorem foldS_digs1 (q q' : Nat) (g1 : nextN q 1 = q') (g2 : nextN q 2 = q') (h1 : nextN q' 1 = q') (h2 : nextN q' 2 = q') (l : List UInt8) (hne : l ≠ []) (h : ∀ x ∈ l, isDig x) : foldS q l = q' := by
  cases l with
  | nil => exact absurd rfl hne
  | cons c l =>
    rw [foldS_cons]
    have hc := dig_class (h c (by simp))
    have : nextN q (clsN c.toNat) = q' := by rcases hc with g | g <;> rw [g] <;> assumption
    rw [this]
    exact foldS_digs q' h1 h2 l fun x hx => h x (by simp [hx])

theorem dv_digit (k : Nat) (h : k < 10) : dv (UInt8.ofNat (48 + k)).toNat = k := by
  have key : ∀ k : Fin 10, dv (UInt8.ofNat (48 + k.val)).toNat = k.val := by decide +kernel
  exact key ⟨k, h⟩
theorem dvl_dec (u : Nat) : dvl 10 (decDigits u) = u := by
  induction u using Nat.strongRecOn with
  | _ u ih =>
    rw [decDigits]
    split
    · rename_i h; have := dv_digit u h; simp only [dvl, List.foldl_cons, List.foldl_nil, Nat.zero_mul, Nat.zero_add]; exact this
    · rename_i h
      rw [dvl_snoc, ih (u / 10) (by omega), dv_digit _ (by omega)]; omega
theorem ex_digit (k : Nat) (h : k < 10) : (UInt8.ofNat (48 + k)).toNat - 48 = k := by
  have key : ∀ k : Fin 10, (UInt8.ofNat (48 + k.val)).toNat - 48 = k.val := by decide +kernel
  exact key ⟨k, h⟩
theorem ex_dec (u : Nat) (hu : u < 100000) : exF (decDigits u) = u := by
  induction u using Nat.strongRecOn with
  | _ u ih =>
    rw [decDigits]
    split
    · rename_i h; have := ex_digit u h; simp only [exF, List.foldl_cons, List.foldl_nil]; rw [if_pos (by decide)]; omega
    · rename_i h
      rw [ex_snoc, ih (u / 10) (by omega) (by omega), if_pos (by omega), ex_digit _ (by omega)]; omega

theorem bars_digs (l : List UInt8) (h : ∀ x ∈ l, x ≠ 95) : noBars l = l := bars_none l h
theorem dig95 {x : UInt8} (h : isDig x) : x ≠ 95 := by rintro rfl; exact absurd h.2 (by decide)
theorem z48 (k : Nat) : ∀ x ∈ List.replicate k (48 : UInt8), x = 48 := fun _ hx => List.eq_of_mem_replicate hx

/-- the text of digits t (not a multiple of ten) at the power x -/
theorem placed_form (t : Nat) (x : Int) (ht : t % 10 ≠ 0) (h19 : nDigits t ≤ 19) (hx : (((nDigits t : Nat) : Int) + x - 1).natAbs < 1000) :
    decB (placedB (decDigits t) ((nDigits t : Nat) + x)) = true ∧ ∃ D y k, DecIs (placedB (decDigits t) ((nDigits t : Nat) + x)) D y ∧ (∀ c ∈ (dropZ D).drop 19, c = 48) ∧ dvl 10 D = t * 10 ^ k ∧ x = y + (k : Nat) := by
  have ht1 : 1 ≤ t := by omega
  obtain ⟨c0, l0, hS, hc0⟩ := dec_head t ht1
  have hdig : ∀ c ∈ decDigits t, isDig c := dec_digs t
  have hlen : (decDigits t).length = nDigits t := decDigits_length t
  have hv : dvl 10 (decDigits t) = t := dvl_dec t
  have hfold : foldS 1 (decDigits t) = 3 := by
    rw [hS, foldS_cons, dig_class2 (hdig c0 (by rw [hS]; simp)) hc0]
    exact foldS_digs 3 (by decide) (by decide) l0 fun c hc => hdig c (by rw [hS]; simp [hc])
  have hdz : ∀ R, dropZ (decDigits t ++ R) = decDigits t ++ R := fun R => by
    rw [hS]; unfold dropZ
    rw [List.cons_append, List.dropWhile_cons, if_neg (by simpa using hc0)]
  have hdz0 : dropZ (decDigits t) = decDigits t := by have := hdz []; rwa [List.append_nil] at this
  have hne : decDigits t ≠ [] := by rw [hS]; simp
  have hnd := nDigits_pos t
  generalize decDigits t = S at *
  have hz19 : S.drop 19 = [] := List.drop_eq_nil_of_le (by omega)
  have hdd : ∀ c ∈ (dropZ S).drop 19, c = 48 := fun c hc => by rw [hdz0, hz19] at hc; simp at hc
  unfold placedB
  split
  · -- a whole number
    rename_i h
    obtain ⟨k, hk⟩ : ∃ k : Nat, x = k := ⟨x.toNat, by omega⟩
    have e : (((nDigits t : Nat) : Int) + x - (S.length : Nat)).toNat = k := by omega
    rw [e]
    have hall : ∀ c ∈ S ++ List.replicate k 48, isDig c := fun c hc => (List.mem_append.1 hc).elim (hdig c) fun h => by rw [z48 k c h]; exact dig48
    refine ⟨?_, S ++ List.replicate k 48, 0, k, ⟨S ++ List.replicate k 48, [], false, _, mant_w hall, by simp [hne], by simp, .inl ⟨bars_digs _ fun c hc => dig95 (hall c hc), by simp⟩⟩, ?_, ?_, by omega⟩
    · show endB (foldS 1 _) = true
      rw [foldS_app, hfold, foldS_digs 3 (by decide) (by decide) _ fun c hc => by rw [z48 k c hc]; exact dig48]
      rfl
    · rw [hdz]
      intro c hc
      rw [List.drop_append, hz19, List.nil_append] at hc
      exact z48 k c (List.mem_of_mem_drop hc)
    · rw [dvl_app, hv, dvl_zeros, List.length_replicate, Nat.add_zero]
  · split
    · -- a point among the digits
      rename_i h
      obtain ⟨j, hj⟩ : ∃ j : Nat, ((nDigits t : Nat) : Int) + x = j := ⟨(((nDigits t : Nat) : Int) + x).toNat, by omega⟩
      rw [hj, Int.toNat_natCast]
      have hw : ∀ c ∈ S.take j, isDig c := fun c hc => hdig c (List.mem_of_mem_take hc)
      have hf : ∀ c ∈ S.drop j, isDig c := fun c hc => hdig c (List.mem_of_mem_drop hc)
      have hfne : S.drop j ≠ [] := by
        intro h2
        have := congrArg List.length h2
        rw [List.length_drop] at this
        simp at this
        omega
      refine ⟨?_, S, x, 0, ⟨S.take j, S.drop j, true, S.take j ++ 46 :: S.drop j, ⟨rfl, hw, hf, by simp⟩, by rw [List.take_append_drop]; exact hne, (List.take_append_drop j S).symm, .inl ⟨bars_digs _ fun c hc => ?_, ?_⟩⟩, hdd, by rw [hv, Nat.pow_zero, Nat.mul_one], by simp⟩
      · show endB (foldS 1 _) = true
        have h3 : foldS 1 (S.take j) = 3 := by
          obtain ⟨j', rfl⟩ : ∃ j', j = j' + 1 := ⟨j - 1, by omega⟩
          rw [hS, List.take_succ_cons, foldS_cons, dig_class2 (hdig c0 (by rw [hS]; simp)) hc0]
          exact foldS_digs 3 (by decide) (by decide) _ fun c hc => hdig c (by rw [hS]; exact List.mem_cons_of_mem _ (List.mem_of_mem_take hc))
        rw [foldS_app, h3, foldS_cons, show nextN 3 (clsN (46 : UInt8).toNat) = 12 from by decide, foldS_digs1 12 6 (by decide) (by decide) (by decide) (by decide) _ hfne hf]
        rfl
      · rcases List.mem_append.1 hc with h2 | h2
        · exact dig95 (hw c h2)
        · rcases List.mem_cons.1 h2 with h3 | h3
          · rw [h3]; decide
          · exact dig95 (hf c h3)
      · rw [List.length_drop]; omega
    · split
      · -- below one
        rename_i h
        obtain ⟨j, hj⟩ : ∃ j : Nat, -(((nDigits t : Nat) : Int) + x) = j := ⟨(-(((nDigits t : Nat) : Int) + x)).toNat, by omega⟩
        rw [hj, Int.toNat_natCast]
        have hall : ∀ c ∈ List.replicate j 48 ++ S, isDig c := fun c hc => (List.mem_append.1 hc).elim (fun h => by rw [z48 j c h]; exact dig48) (hdig c)
        refine ⟨?_, 48 :: (List.replicate j 48 ++ S), x, 0, ⟨[48], List.replicate j 48 ++ S, true, 48 :: 46 :: (List.replicate j 48 ++ S), ⟨rfl, fun c hc => by simp at hc; rw [hc]; exact dig48, hall, by simp⟩, by simp, rfl, .inl ⟨bars_digs _ fun c hc => ?_, ?_⟩⟩, ?_, ?_, by simp⟩
        · show endB (foldS 1 _) = true
          rw [foldS_cons, show nextN 1 (clsN (48 : UInt8).toNat) = 2 from by decide, foldS_cons, show nextN 2 (clsN (46 : UInt8).toNat) = 12 from by decide, foldS_digs1 12 6 (by decide) (by decide) (by decide) (by decide) _ (by simp [hne]) hall]
          rfl
        · rcases List.mem_cons.1 hc with h2 | h2
          · rw [h2]; decide
          · rcases List.mem_cons.1 h2 with h3 | h3
            · rw [h3]; decide
            · exact dig95 (hall c h3)
        · rw [List.length_append, List.length_replicate]; omega
        · have hd : dropZ (48 :: (List.replicate j 48 ++ S)) = S := by
            unfold dropZ at hdz0 ⊢
            rw [List.dropWhile_cons, if_pos (by decide), dropWhile_all _ _ _ (fun c hc => by rw [z48 j c hc]; rfl), hdz0]
          rw [hd, hz19]; simp
        · have e := dvl_app 10 (48 :: List.replicate j 48) S
          rw [show (48 : UInt8) :: List.replicate j 48 = List.replicate (j + 1) 48 from rfl, dvl_zeros, Nat.zero_mul, Nat.zero_add, hv] at e
          rw [Nat.pow_zero, Nat.mul_one]
          exact e
      · -- with a power
        rename_i g1 g2 g3
        obtain ⟨y, hy⟩ : ∃ y : Int, ((nDigits t : Nat) : Int) + x - 1 = y := ⟨_, rfl⟩
        rw [hy] at hx ⊢
        have hX : ∀ c ∈ decDigits y.natAbs, isDig c := dec_digs _
        have hXne : decDigits y.natAbs ≠ [] := by
          intro h2
          have := congrArg List.length h2
          rw [decDigits_length] at this
          have := nDigits_pos y.natAbs
          simp at *; omega
        obtain ⟨sgb, hsg, hsgc⟩ : ∃ sgb : UInt8, (if y < 0 then (45 : UInt8) else 43) = sgb ∧ (sgb = 43 ∨ sgb = 45) := by
          split
          · exact ⟨45, rfl, .inr rfl⟩
          · exact ⟨43, rfl, .inl rfl⟩
        have hpow : PowF (powT 101 [sgb] (decDigits y.natAbs)) 101 [sgb] (decDigits y.natAbs) := ⟨rfl, .inr rfl, by rcases hsgc with h | h <;> rw [h] <;> simp, hX⟩
        have htail : expS y = powT 101 [sgb] (decDigits y.natAbs) := by unfold expS powT; rw [hsg]; rfl
        have hval : (exF (decDigits y.natAbs) : Int) * sgZ [sgb] = y := by
          rw [ex_dec _ (by omega), ← hsg]
          unfold sgZ
          by_cases hneg : y < 0
          · rw [if_pos hneg, if_pos rfl]; omega
          · rw [if_neg hneg, if_neg (by decide)]; omega
        have hbt : ∀ c ∈ powT 101 [sgb] (decDigits y.natAbs), c ≠ 95 := fun c hc => by
          unfold powT at hc
          rcases List.mem_cons.1 hc with h | h
          · rw [h]; decide
          · rcases List.mem_append.1 h with h | h
            · simp at h; rw [h]; rcases hsgc with h | h <;> rw [h] <;> decide
            · exact dig95 (hX c h)
        have hft : ∀ q, nextN q 4 = 8 → foldS q (powT 101 [sgb] (decDigits y.natAbs)) = 10 := fun q hq => by
          unfold powT
          rw [foldS_cons, show clsN (101 : UInt8).toNat = 4 from by decide, hq, foldS_app]
          have h9 : foldS 8 [sgb] = 9 := by rcases hsgc with h | h <;> rw [h] <;> decide
          rw [h9]
          exact foldS_digs1 9 10 (by decide) (by decide) (by decide) (by decide) _ hXne hX
        rw [htail]
        by_cases h1 : 1 < S.length
        · rw [if_pos h1]
          have hw : ∀ c ∈ S.take 1, isDig c := fun c hc => hdig c (List.mem_of_mem_take hc)
          have hf : ∀ c ∈ S.drop 1, isDig c := fun c hc => hdig c (List.mem_of_mem_drop hc)
          have hfne : S.drop 1 ≠ [] := by
            intro h2
            have := congrArg List.length h2
            rw [List.length_drop] at this
            simp at this
            omega
          refine ⟨?_, S, x, 0, ⟨S.take 1, S.drop 1, true, S.take 1 ++ 46 :: S.drop 1, ⟨rfl, hw, hf, by simp⟩, by rw [List.take_append_drop]; exact hne, (List.take_append_drop 1 S).symm, .inr ⟨101, [sgb], decDigits y.natAbs, hpow, hXne, bars_digs _ fun c hc => ?_, ?_⟩⟩, hdd, by rw [hv, Nat.pow_zero, Nat.mul_one], by simp⟩
          · show endB (foldS 1 _) = true
            have h3 : foldS 1 (S.take 1) = 3 := by
              rw [hS, List.take_succ_cons, List.take_zero, foldS_cons, dig_class2 (hdig c0 (by rw [hS]; simp)) hc0]; rfl
            rw [foldS_app, foldS_app, h3, foldS_cons, show nextN 3 (clsN (46 : UInt8).toNat) = 12 from by decide, foldS_digs1 12 6 (by decide) (by decide) (by decide) (by decide) _ hfne hf, hft 6 (by decide)]
            rfl
          · rcases List.mem_append.1 hc with h2 | h2
            · rcases List.mem_append.1 h2 with h3 | h3
              · exact dig95 (hw c h3)
              · rcases List.mem_cons.1 h3 with h4 | h4
                · rw [h4]; decide
                · exact dig95 (hf c h4)
            · exact hbt c h2
          · rw [hval, List.length_drop]; omega
        · rw [if_neg h1]
          refine ⟨?_, S, x, 0, ⟨S, [], false, S, mant_w hdig, by simp [hne], by simp, .inr ⟨101, [sgb], decDigits y.natAbs, hpow, hXne, bars_digs _ fun c hc => ?_, ?_⟩⟩, hdd, by rw [hv, Nat.pow_zero, Nat.mul_one], by simp⟩
          · show endB (foldS 1 _) = true
            rw [foldS_app, hfold, hft 3 (by decide)]
            rfl
          · rcases List.mem_append.1 hc with h2 | h2
            · exact dig95 (hdig c h2)
            · exact hbt c h2
          · rw [hval, List.length_nil]; omega
end Go.Proofs.YtmhagigokgklaaaGreatDoor

/- What is shown of any number is read as that number; NumBack's walk. -/
namespace Go.Proofs.YtmhagigokgklaaaGreatDoor
open Go Go.RowKit Go.Sort Go.Lib

theorem placed_len2 (d : List UInt8) (p : Int) (h1 : d.length ≤ 20) (h2 : (p - 1).natAbs < 1000) : (placedB d p).length ≤ 100 := by
  have h4 : (decDigits (p - 1).natAbs).length ≤ 3 := by
    rw [decDigits_length]
    exact nd_le 2 _ (by omega)
  unfold placedB expS
  split
  · rw [List.length_append, List.length_replicate]; omega
  · split
    · rw [List.length_append, List.length_cons, List.length_take, List.length_drop]; omega
    · split
      · rw [List.length_cons, List.length_cons, List.length_append, List.length_replicate]; omega
      · rw [List.length_append, List.length_cons, List.length_cons]
        split
        · rw [List.length_append, List.length_cons, List.length_take, List.length_drop]; omega
        · omega

/-- what is shown of a finite number without a sign: its form, and its value -/
theorem shown_form (a : Nat) (h1 : 0 < a) (h2 : a < 9218868437227405312) :
    decB (showA a) = true ∧ (showA a).length ≤ 100 ∧ ∃ D y, DecIs (showA a) D y ∧ (∀ c ∈ (dropZ D).drop 19, c = 48) ∧ Near (dX (dvl 10 D) y) (dQ y) a := by
  obtain ⟨b1, b2, b3⟩ := sh_bounds a h1 h2
  have hA := shown_near a h1 h2
  obtain ⟨g1, g2, g3, g4, g5⟩ := me_ok a h1 h2
  obtain ⟨k1, k2, k3, k4⟩ := short_bounds (MN a) (EN a) g1 g2 g3 g4 g5
  have hlt : (shN a).1 < 10 ^ 19 := by
    have : (shN a).1 = (shortN (MN a) (EN a)).1 := rfl
    rw [this]
    omega
  have hsl := sig_len _ b1 b2
  unfold showA
  have hlen := placed_len2 (sig (shN a).1) ((nDigits (shN a).1 : Nat) + (shN a).2) hsl.2 b3
  generalize (shN a).1 = d at *
  generalize (shN a).2 = q at *
  obtain ⟨t, i, e1, e2⟩ := strip_ex d b1
  have ht0 : 1 ≤ t := by omega
  have hsig : sig d = decDigits t := by rw [e1, sig_tens t ht0, sig_odd t e2]
  have hnd : nDigits d = nDigits t + i := by rw [e1, nd_tens t ht0]
  have hp : ((nDigits d : Nat) : Int) + q = (nDigits t : Nat) + (q + i) := by rw [hnd]; push_cast; omega
  have h19 : nDigits t ≤ 19 := nd_le 18 _ (Nat.lt_of_le_of_lt (by rw [e1]; exact Nat.le_mul_of_pos_right _ (Nat.pow_pos (by decide))) hlt)
  rw [hp] at b3
  obtain ⟨f1, D, y, k, f2, f3, f4, f5⟩ := placed_form t (q + i) e2 h19 b3
  rw [← hp, ← hsig] at f1 f2
  refine ⟨f1, hlen, D, y, f2, f3, ?_⟩
  rw [f4]
  rw [e1] at hA
  have := near_up t i a q hA
  rw [f5] at this
  exact near_down t k a y this

def backN (x : Nat) : Nat := if 9218868437227405312 < ru x then 9221120237041090560 else x

theorem sg_of (x : Nat) : (if ngB x then [(45 : UInt8)] else []) = sgB (ngB x) := rfl
theorem ru_sg (x : Nat) (hx : x < 18446744073709551616) : ru x + sgW (ngB x) = x := by
  unfold ru ngB sgW
  by_cases h : 9223372036854775808 ≤ x
  · rw [decide_eq_true h, if_pos rfl]; omega
  · rw [decide_eq_false h, if_neg (by decide)]; omega

theorem parse_back (x K : Nat) (w : World) (hx : x < 18446744073709551616) (hG : Globs w) (hT : GlobT K w) :
    Calls Tryz.prog 11 #[.string ⟨(showB x).toArray⟩] w fun e w' => e = .returned (.tuple #[.int .u64 (backN x : Nat), .int .i64 0]) ∧ Below w.heap.size w w' := by
  unfold backN
  by_cases h1 : 9218868437227405312 < ru x
  · rw [show_nan_eq x h1, if_pos h1]
    exact parse_nan _ false w rfl
  · rw [if_neg h1]
    rw [show_sgn x (by omega), sg_of]
    have hsg := ru_sg x hx
    by_cases h2 : ru x = 9218868437227405312
    · rw [if_pos h2]
      have := parse_inf ⟨(sgB (ngB x) ++ infB).toArray⟩ (ngB x) w rfl
      rw [← h2, hsg] at this
      exact this
    · rw [if_neg h2]
      by_cases h3 : ru x = 0
      · rw [if_pos h3]
        have := parse_small ⟨(sgB (ngB x) ++ [48]).toArray⟩ (ngB x) [48] [48] 0 K w hG hT rfl (by cases ngB x <;> decide) (by decide +kernel) ⟨[48], [], false, [48], mant_w (fun c hc => by simp at hc; rw [hc]; exact dig48), by simp, rfl, .inl ⟨rfl, rfl⟩⟩ (by decide)
        refine this.mono ?_
        rintro e w' ⟨r, hn, rfl, hb⟩
        have h0 : dvl 10 [48] = 0 := by decide
        rw [h0] at hn
        obtain rfl := near_unique hn (zero_near 0)
        refine ⟨?_, hb⟩
        rw [h3] at hsg
        rw [hsg]
      · rw [if_neg h3]
        obtain ⟨f1, f2, D, y, f3, f4, f5⟩ := shown_form (ru x) (by omega) (by omega)
        have := parse_noughts ⟨(sgB (ngB x) ++ showA (ru x)).toArray⟩ (ngB x) (showA (ru x)) D y K w hG hT rfl (by rw [ba_size, List.length_append]; cases ngB x <;> simp [sgB] <;> omega) f1 f3 f4
        refine this.mono ?_
        rintro e w' ⟨r, hn, rfl, hb⟩
        obtain rfl := near_unique hn f5
        refine ⟨?_, hb⟩
        rw [hsg]

theorem nan_text (x : Nat) : ((⟨(showB x).toArray⟩ : ByteArray).toList == [78, 97, 78]) = decide (9218868437227405312 < ru x) := by
  rw [ByteArray.toList_eq]
  by_cases h1 : 9218868437227405312 < ru x
  · rw [show_nan_eq x h1, decide_eq_true h1]; rfl
  · rw [decide_eq_false h1, beq_eq_false_iff_ne]
    show showB x ≠ [78, 97, 78]
    rw [show_sgn x (by omega), sg_of]
    cases ngB x
    · show (if ru x = 9218868437227405312 then infB else if ru x = 0 then [48] else showA (ru x)) ≠ _
      split
      · decide
      · split
        · decide
        · intro h
          have := (shown_form (ru x) (by omega) (by omega)).1
          rw [h] at this
          revert this; decide +kernel
    · intro h
      have := congrArg List.head? h
      revert this; show some (45 : UInt8) ≠ some 78
      decide

set_option maxRecDepth 100000 in
set_option maxHeartbeats 4000000 in
theorem back_walk (n : Int) (K : Nat) (w : World) (hG : Globs w) (hT : GlobT K w) (hn : 0 ≤ n ∧ n ≤ 18446744073709551615) :
    Calls Tryz.prog 6 #[.int .u64 n] w fun e w' => e = .returned (.bool true) ∧ Below w.heap.size w w' := by
  obtain ⟨x, rfl⟩ : ∃ x : Nat, n = x := ⟨n.toNat, by omega⟩
  have hx : x < 18446744073709551616 := by omega
  clear hn
  have HW := Lib.hid (works_any K w hG hT)
  have HGS := Lib.hid hG
  have HTS := Lib.hid hT
  have HS : Hid (∀ W : World, Globs W → Calls Tryz.prog 13 #[.int .u64 (x : Nat)] W fun e w' => e = .returned (.string ⟨(showB x).toArray⟩) ∧ Below W.heap.size W w') := Lib.hid fun W h => show_any x W h hx
  have HP : Hid (∀ W : World, Globs W → GlobT K W → Calls Tryz.prog 11 #[.string ⟨(showB x).toArray⟩] W fun e w' => e = .returned (.tuple #[.int .u64 (backN x : Nat), .int .i64 0]) ∧ Below W.heap.size W w') := Lib.hid fun W h h2 => parse_back x K W hx h h2
  have hnan := nan_text x
  unfold backN at HP
  generalize (⟨(showB x).toArray⟩ : ByteArray) = S at *
  clear hG hT
  by_cases h1 : 9218868437227405312 < ru x
  · rw [decide_eq_true h1] at hnan
    rw [if_pos h1] at HP
    clear h1
    go_enter Tryz.func6, Tryz.ntmps6
    go_wp2_with fail
    refine HW.out.mono ?_
    rintro e w1 ⟨rfl, hb1⟩
    have B1 := Lib.hid hb1
    clear hb1
    go_wp2_with fail
    refine (HS.out _ (HGS.out.on B1.out)).mono ?_
    rintro e w2 ⟨rfl, hb2⟩
    have B2 := Lib.hid (B1.out.trans (hb2.mono B1.out.size))
    clear hb2
    go_wp2_with fail
    refine (HP.out _ (HGS.out.on B2.out) (HTS.out.on B2.out)).mono ?_
    rintro e w3 ⟨rfl, hb3⟩
    have B3 := Lib.hid (B2.out.trans (hb3.mono B2.out.size))
    clear hb3
    go_wp2_with fail
    go_ret
    exact ⟨rfl, B3.out⟩
  · rw [decide_eq_false h1] at hnan
    rw [if_neg h1] at HP
    clear h1
    go_enter Tryz.func6, Tryz.ntmps6
    go_wp2_with fail
    refine HW.out.mono ?_
    rintro e w1 ⟨rfl, hb1⟩
    have B1 := Lib.hid hb1
    clear hb1
    go_wp2_with fail
    refine (HS.out _ (HGS.out.on B1.out)).mono ?_
    rintro e w2 ⟨rfl, hb2⟩
    have B2 := Lib.hid (B1.out.trans (hb2.mono B1.out.size))
    clear hb2
    go_wp2_with fail
    refine (HP.out _ (HGS.out.on B2.out) (HTS.out.on B2.out)).mono ?_
    rintro e w3 ⟨rfl, hb3⟩
    have B3 := Lib.hid (B2.out.trans (hb3.mono B2.out.size))
    clear hb3
    go_wp2_with fail
    refine (HS.out _ (HGS.out.on B3.out)).mono ?_
    rintro e w4 ⟨rfl, hb4⟩
    have B4 := Lib.hid (B3.out.trans (hb4.mono B3.out.size))
    clear hb4
    go_wp2_with fail
    go_ret
    exact ⟨rfl, B4.out⟩
end Go.Proofs.YtmhagigokgklaaaGreatDoor
