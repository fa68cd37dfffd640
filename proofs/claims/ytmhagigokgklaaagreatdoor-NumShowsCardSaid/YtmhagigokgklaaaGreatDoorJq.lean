/- Joined texts: Ta Tb. Each begins with its own remark. -/
import Derived.Test.YtmhagigokgklaaaGreatDoorJm
import Derived.Test.YtmhagigokgklaaaGreatDoorJp

/- The digits that the reference chooses are those that are shown (plain). -/
namespace Go.Proofs.YtmhagigokgklaaaGreatDoor
open Go Go.RowKit Go.Lib
set_option exponentiation.threshold 3000

theorem nearB_of {X Q r : Nat} (h : Near X Q r) : nearB X Q r = true := by
  simp only [nearB, Bool.and_eq_true, Bool.or_eq_true, decide_eq_true_eq]
  refine ⟨⟨⟨h.pos, h.inf⟩, ?_⟩, ?_⟩
  · rcases h.lo with g | ⟨g, g'⟩
    · exact .inl g
    · refine .inr ⟨g, ?_⟩
      by_cases ho : r % 2 = 1
      · exact .inr (g' ho)
      · exact .inl ho
  · rcases h.hi with g | ⟨g, g'⟩
    · exact .inl g
    · refine .inr ⟨g, ?_⟩
      by_cases ho : r % 2 = 1
      · exact .inr (g' ho)
      · exact .inl ho
theorem nearB_iff {X Q r : Nat} : nearB X Q r = true ↔ Near X Q r := ⟨nearB_is, nearB_of⟩

/-- digits d, j places behind the point, are read as the number -/
def InJ (a : Nat) (j : Int) (d : Nat) : Prop := Near (dX d (-j)) (dQ (-j)) a
def inB (a : Nat) (j : Int) (d : Nat) : Bool := nearB (dX d (-j)) (dQ (-j)) a
theorem inB_iff {a d : Nat} {j : Int} : inB a j d = true ↔ InJ a j d := nearB_iff
/-- the whole digits below, j places behind the point -/
def flJ (a : Nat) (j : Int) : Nat := NU a j / DE j
def upJ (a : Nat) (j : Int) : Nat := upG (NU a j) (DE j)
def candJ (a : Nat) (j : Int) : Prop := InJ a j (flJ a j) ∨ InJ a j (flJ a j + 1)
/-- which of the two is taken -/
def resJ (a : Nat) (j : Int) : Nat := if inB a j (flJ a j) && (decide (upJ a j = 0) || !inB a j (flJ a j + 1)) then flJ a j else flJ a j + 1
/-- the same number -/
def SameV (d : Nat) (q : Int) (d' : Nat) (q' : Int) : Prop := ∃ k : Nat, (d = d' * 10 ^ k ∧ q' = q + k) ∨ (d' = d * 10 ^ k ∧ q = q' + k)

structure ShOk (a : Nat) (p : Int) (dmin dmax u : Nat) : Prop where
  form : shN a = pick3 dmin dmax u p
  isin : ∀ d, InJ a p d ↔ dmin ≤ d ∧ d ≤ dmax
  le : dmin ≤ dmax
  one : 1 ≤ dmin
  wide : dmax ≤ dmin + 9
  big : DE p ≤ NU a p
  mid : dmin < dmax → u = flJ a p + upJ a p ∧ dmin ≤ u ∧ u ≤ dmax
  top : dmin ≤ dmax / 10 * 10 → 10 * DE p ≤ NU a p ∨ (u = dmax / 10 * 10 ∧ dmin < dmax)
  small : flJ a p < 1152921504606846976

/-- the scaled numbers, apart -/
def trP (a : Nat) : Int := ppN (skewB (MN a) (EN a)) (EN a)
def trO (a : Nat) : Nat := if skewB (MN a) (EN a) then 0 else MN a / 2 ^ zN (EN a) % 2
def trMin (a : Nat) : Nat := (usN (trP a) (EN a) (if skewB (MN a) (EN a) then MN a - 512 else MN a - 2 ^ (zN (EN a) - 1)) + trO a + 3) / 4
def trMax (a : Nat) : Nat := (usN (trP a) (EN a) (MN a + 2 ^ (zN (EN a) - 1)) - trO a) / 4
def trU (a : Nat) : Nat := (usN (trP a) (EN a) (MN a) + 1 + usN (trP a) (EN a) (MN a) / 4 % 2) / 4
theorem tr_form (a : Nat) : shN a = pick3 (trMin a) (trMax a) (trU a) (trP a) := rfl
def okQ (a : Nat) (p : Int) (dmin dmax u : Nat) : Bool :=
  inB a p dmin && inB a p dmax && !inB a p (dmin - 1) && !inB a p (dmax + 1) && decide (dmin ≤ dmax) && decide (1 ≤ dmin) && decide (dmax ≤ dmin + 9) && decide (DE p ≤ NU a p) &&
    (!decide (dmin < dmax) || (decide (u = flJ a p + upJ a p) && decide (dmin ≤ u) && decide (u ≤ dmax))) &&
    (!decide (dmin ≤ dmax / 10 * 10) || (decide (10 * DE p ≤ NU a p) || (decide (u = dmax / 10 * 10) && decide (dmin < dmax)))) && decide (flJ a p < 1152921504606846976)
def okS (a : Nat) : Bool := okQ a (trP a) (trMin a) (trMax a) (trU a)
theorem okS_is (a : Nat) (h : okS a = true) : ShOk a (trP a) (trMin a) (trMax a) (trU a) := by
  unfold okS at h
  generalize hp : trP a = p at *
  generalize h1 : trMin a = dmin at *
  generalize h2 : trMax a = dmax at *
  generalize h3 : trU a = u at *
  have hf : shN a = pick3 dmin dmax u p := by rw [tr_form, hp, h1, h2, h3]
  clear hp h1 h2 h3
  simp only [okQ, Bool.and_eq_true, Bool.or_eq_true, Bool.not_eq_true', decide_eq_true_eq, decide_eq_false_iff_not, inB_iff] at h
  obtain ⟨⟨⟨⟨⟨⟨⟨⟨⟨⟨g1, g2⟩, g3⟩, g4⟩, g5⟩, g6⟩, g7⟩, g8⟩, g9⟩, g10⟩, g11⟩ := h
  have n3 : ¬ InJ a p (dmin - 1) := fun hh => by rw [inB_iff.2 hh] at g3; cases g3
  have n4 : ¬ InJ a p (dmax + 1) := fun hh => by rw [inB_iff.2 hh] at g4; cases g4
  refine ⟨hf, fun d => ⟨fun hd => ⟨?_, ?_⟩, fun hd => near_between g1 g2 (dX_mono _ hd.1) (dX_mono _ hd.2)⟩, g5, g6, g7, g8, fun hh => ?_, fun hh => ?_, g11⟩
  · rcases Nat.lt_or_ge d dmin with g | g
    · exact absurd (near_between hd g1 (dX_mono _ (show d ≤ dmin - 1 by omega)) (dX_mono _ (show dmin - 1 ≤ dmin by omega))) n3
    · exact g
  · rcases Nat.lt_or_ge dmax d with g | g
    · exact absurd (near_between g2 hd (dX_mono _ (show dmax ≤ dmax + 1 by omega)) (dX_mono _ (show dmax + 1 ≤ d by omega))) n4
    · exact g
  · rcases g9 with g | g
    · exact absurd hh g
    · exact ⟨g.1.1, g.1.2, g.2⟩
  · rcases g10 with g | g
    · exact absurd hh g
    · exact g
def lowP (f : Nat → Bool) : Nat → Nat → Bool
  | 0, _ => true
  | n + 1, a => f a && lowP f n (2 * a)
def highP (f : Nat → Bool) : Nat → Nat → Bool
  | 0, _ => true
  | n + 1, a => f a && highP f n (a + 4503599627370496)
theorem lowP_get (f : Nat → Bool) : ∀ (n a : Nat), lowP f n a = true → ∀ i, i < n → f (a * 2 ^ i) = true
  | 0, _, _, i, h => by omega
  | n + 1, a, h, 0, _ => by
    simp only [lowP, Bool.and_eq_true] at h
    simpa using h.1
  | n + 1, a, h, i + 1, hi => by
    simp only [lowP, Bool.and_eq_true] at h
    have := lowP_get f n (2 * a) h.2 i (by omega)
    rwa [show 2 * a * 2 ^ i = a * 2 ^ (i + 1) from by rw [Nat.pow_succ]; ac_rfl] at this
theorem highP_get (f : Nat → Bool) : ∀ (n a : Nat), highP f n a = true → ∀ i, i < n → f (a + i * 4503599627370496) = true
  | 0, _, _, i, h => by omega
  | n + 1, a, h, 0, _ => by
    simp only [highP, Bool.and_eq_true] at h
    simpa using h.1
  | n + 1, a, h, i + 1, hi => by
    simp only [highP, Bool.and_eq_true] at h
    have := highP_get f n (a + 4503599627370496) h.2 i (by omega)
    rwa [show a + 4503599627370496 + i * 4503599627370496 = a + (i + 1) * 4503599627370496 from by rw [Nat.add_mul, Nat.one_mul]; omega] at this
theorem lowS : lowP okS 52 1 = true := by decide +kernel
theorem highS : highP okS 2046 4503599627370496 = true := by decide +kernel

theorem ok_any (a : Nat) (h1 : 0 < a) (h2 : a < 9218868437227405312) : ∃ p dmin dmax u, ShOk a p dmin dmax u := by
  by_cases hm : MN a = 9223372036854775808
  · rcases pow_rung a h1 h2 hm with ⟨i, hi, rfl⟩ | ⟨i, hi, rfl⟩
    · exact ⟨_, _, _, _, okS_is _ (lowP_get okS _ _ lowS i hi)⟩
    · exact ⟨_, _, _, _, okS_is _ (highP_get okS _ _ highS i hi)⟩
  · obtain ⟨p, dmin, dmax, u, hs⟩ := sh_is a h1 h2 hm
    have ht := hs.top
    exact ⟨p, dmin, dmax, u, hs.form, hs.isin, Nat.le_trans hs.lo hs.hi, hs.one, hs.wide, by omega, fun _ => ⟨hs.mid, hs.lo, hs.hi⟩, fun _ => .inl ht, hs.small⟩

theorem lev_eq (a : Nat) (j : Int) (k : Nat) : NU a (j + k) * DE j = NU a j * 10 ^ k * DE (j + k) := by
  unfold NU DE
  have h : 10 ^ (j + k).toNat * 10 ^ (-j).toNat = 10 ^ j.toNat * 10 ^ k * 10 ^ (-(j + k)).toNat := by
    rw [← Nat.pow_add, ← Nat.pow_add, ← Nat.pow_add]
    congr 1
    omega
  generalize 10 ^ (j + k).toNat = t1 at *
  generalize 10 ^ (-j).toNat = t2 at *
  generalize 10 ^ j.toNat = t3 at *
  generalize 10 ^ k = t4 at *
  generalize 10 ^ (-(j + k)).toNat = t5 at *
  generalize 2 ^ 1074 = W
  have e1 : V a * t1 * (W * t2) = V a * W * (t1 * t2) := by ac_rfl
  have e2 : V a * t3 * t4 * (W * t5) = V a * W * (t3 * t4 * t5) := by ac_rfl
  rw [e1, e2, h]
theorem lev_le (a y : Nat) (j : Int) (k : Nat) : y * DE j ≤ NU a j ↔ y * 10 ^ k * DE (j + k) ≤ NU a (j + k) := by
  have e := lev_eq a j k
  have hD := DE_pos j
  have hT : 0 < 10 ^ k * DE (j + k) := Nat.mul_pos (Nat.pow_pos (by decide)) (DE_pos _)
  generalize DE (j + k) = E at *
  generalize 10 ^ k = T at *
  generalize DE j = D at *
  generalize NU a (j + k) = n1 at *
  generalize NU a j = n0 at *
  have e1 : y * T * E * D = y * D * (T * E) := by ac_rfl
  have e2 : n1 * D = n0 * (T * E) := by rw [e]; ac_rfl
  constructor
  · intro h
    refine Nat.le_of_mul_le_mul_right ?_ hD
    rw [e1, e2]
    exact Nat.mul_le_mul_right _ h
  · intro h
    refine Nat.le_of_mul_le_mul_right ?_ hT
    rw [← e1, ← e2]
    exact Nat.mul_le_mul_right _ h
theorem fl_ge (a y : Nat) (j : Int) : y ≤ flJ a j ↔ y * DE j ≤ NU a j := Nat.le_div_iff_mul_le (DE_pos j)
theorem fl_mono (a : Nat) (j : Int) (k : Nat) : flJ a j ≤ flJ a (j + k) := by
  rw [fl_ge]
  have h := (lev_le a (flJ a j) j k).1 ((fl_ge a _ j).1 (Nat.le_refl _))
  exact Nat.le_trans (Nat.mul_le_mul_right _ (Nat.le_mul_of_pos_right _ (Nat.pow_pos (by decide)))) h

theorem in_up (a d : Nat) (j : Int) (k : Nat) (h : InJ a j d) : InJ a (j + k) (d * 10 ^ k) := by
  refine near_down d k a (-(j + k)) ?_
  rw [show -(j + k) + (k : Int) = -j from by omega]
  exact h
theorem in_down (a d : Nat) (j : Int) (k : Nat) (h : InJ a (j + k) (d * 10 ^ k)) : InJ a j d := by
  have := near_up d k a (-(j + k)) h
  rwa [show -(j + k) + (k : Int) = -j from by omega] at this

theorem v_near (a : Nat) (h : a ≤ INF) (j : Int) : Near (2 * V a * dQ (-j)) (dQ (-j)) a := near_ratio (near_self a h) (dQ_pos _) (by rw [Nat.mul_one])
theorem dX_v (d a : Nat) (j : Int) : dX d (-j) = 2 * (d * DE j) ∧ 2 * V a * dQ (-j) = 2 * NU a j := by
  unfold dX dQ DE NU
  rw [Int.neg_neg]
  constructor <;> ac_rfl
/-- what lies with the number has the whole digits below, or those above, between -/
theorem in_fl (a d : Nat) (j : Int) (ha : a ≤ INF) (h : InJ a j d) : (d ≤ flJ a j → InJ a j (flJ a j)) ∧ (flJ a j + 1 ≤ d → InJ a j (flJ a j + 1)) := by
  have hv := v_near a ha j
  constructor
  · intro hd
    refine near_between h hv (dX_mono _ hd) ?_
    rw [(dX_v _ a j).1, (dX_v 0 a j).2]
    exact Nat.mul_le_mul_left 2 ((fl_ge a _ j).1 (Nat.le_refl _))
  · intro hd
    refine near_between hv h ?_ (dX_mono _ hd)
    rw [(dX_v _ a j).1, (dX_v 0 a j).2]
    refine Nat.mul_le_mul_left 2 (Nat.le_of_lt (Nat.lt_of_not_le fun hh => ?_))
    have := (fl_ge a _ j).2 hh
    omega
theorem cand_of (a d : Nat) (j : Int) (ha : a ≤ INF) (h : InJ a j d) : candJ a j := by
  obtain ⟨h1, h2⟩ := in_fl a d j ha h
  rcases Nat.lt_or_ge (flJ a j) d with g | g
  · exact .inr (h2 g)
  · exact .inl (h1 g)
/-- where only one lies with the number, it is taken -/
theorem res_one (a d : Nat) (j : Int) (hc : candJ a j) (hu : ∀ x, InJ a j x → x = d) : resJ a j = d := by
  unfold resJ
  by_cases h1 : InJ a j (flJ a j)
  · have h2 : ¬ InJ a j (flJ a j + 1) := fun h => by
      have e1 := hu _ h1
      have e2 := hu _ h
      omega
    have h3 : inB a j (flJ a j + 1) = false := by
      cases hb : inB a j (flJ a j + 1)
      · rfl
      · exact absurd (inB_iff.1 hb) h2
    rw [inB_iff.2 h1, h3]
    simp [hu _ h1]
  · have h3 : inB a j (flJ a j) = false := by
      cases hb : inB a j (flJ a j)
      · rfl
      · exact absurd (inB_iff.1 hb) h1
    rw [h3]
    have h2 := hc.resolve_left h1
    simp [hu _ h2]
theorem up_two (n G : Nat) : upG n G = 0 ∨ upG n G = 1 := by
  unfold upG
  split
  · exact .inl rfl
  · split
    · exact Nat.mod_two_eq_zero_or_one _
    · exact .inr rfl
/-- where the rounded digits lie with the number, they are taken -/
theorem res_mid (a u : Nat) (j : Int) (hu : u = flJ a j + upJ a j) (hi : InJ a j u) : resJ a j = u := by
  unfold resJ
  rcases up_two (NU a j) (DE j) with h | h
  · have h0 : upJ a j = 0 := h
    rw [h0, Nat.add_zero] at hu
    rw [hu] at hi
    rw [inB_iff.2 hi, h0, hu]
    simp
  · have h0 : upJ a j = 1 := h
    rw [h0] at hu
    rw [hu] at hi
    rw [inB_iff.2 hi, h0, hu]
    simp

theorem ref_any (a : Nat) (h1 : 0 < a) (h2 : a < 9218868437227405312) (x : Int) (hx1 : DE (-x) ≤ NU a (-x)) (hx2 : NU a (-(x + 1)) < DE (-(x + 1))) :
    ∃ n0 : Nat, 1 ≤ n0 ∧ n0 ≤ 19 ∧ candJ a ((n0 : Int) - 1 - x) ∧ (∀ n : Nat, 1 ≤ n → n ≤ n0 → flJ a ((n : Int) - 1 - x) < 1152921504606846976) ∧
      ∀ n : Nat, 1 ≤ n → candJ a ((n : Int) - 1 - x) → (∀ k : Nat, 1 ≤ k → k < n → ¬ candJ a ((k : Int) - 1 - x)) → SameV (resJ a ((n : Int) - 1 - x)) (x - n + 1) (shN a).1 (shN a).2 := by
  obtain ⟨p, dmin, dmax, u, hs⟩ := ok_any a h1 h2
  have hinf : a ≤ INF := by unfold INF; omega
  have s1 := hs.one
  have s2 := hs.wide
  have s3 := hs.le
  have hform := hs.form
  -- no number's first digit stands behind its place
  have hfar : ∀ (j : Int), DE j ≤ NU a j → -x ≤ j := fun j hj => by
    rcases (show j < -x ∨ -x ≤ j by omega) with g | g
    · exfalso
      obtain ⟨k, hk⟩ : ∃ k : Nat, -(x + 1) = j + k := ⟨(-(x + 1) - j).toNat, by omega⟩
      have g2 := (lev_le a 1 j k).1 (by rwa [Nat.one_mul])
      rw [← hk] at g2
      have g3 : DE (-(x + 1)) ≤ 1 * 10 ^ k * DE (-(x + 1)) := Nat.le_mul_of_pos_left _ (Nat.mul_pos (by decide) (Nat.pow_pos (by decide)))
      omega
    · exact g
  have hp := hfar p hs.big
  obtain ⟨np, hnp⟩ : ∃ np : Nat, p = (np : Int) - 1 - x := ⟨(p + 1 + x).toNat, by omega⟩
  have hnp1 : 1 ≤ np := by omega
  have hten : ∀ n : Nat, 1 ≤ n → 10 ^ (n - 1) ≤ flJ a ((n : Int) - 1 - x) := fun n hn => by
    rw [fl_ge]
    have g := (lev_le a 1 (-x) (n - 1)).1 (by rwa [Nat.one_mul])
    rwa [Nat.one_mul, show -x + ((n - 1 : Nat) : Int) = (n : Int) - 1 - x from by omega] at g
  have hflb : ∀ n : Nat, 1 ≤ n → n ≤ np → flJ a ((n : Int) - 1 - x) < 1152921504606846976 := fun n hn1 hn2 => by
    have g := fl_mono a ((n : Int) - 1 - x) (np - n)
    rw [show (n : Int) - 1 - x + ((np - n : Nat) : Int) = p from by omega] at g
    exact Nat.lt_of_le_of_lt g hs.small
  have hnp19 : np ≤ 19 := by
    have g1 := hten np hnp1
    have g2 := hflb np hnp1 (Nat.le_refl _)
    rcases Nat.lt_or_ge 19 np with g | g
    · exfalso
      have g3 : 10 ^ 19 ≤ 10 ^ (np - 1) := Nat.pow_le_pow_right (by decide) (by omega)
      have g4 := Nat.le_trans g3 g1
      omega
    · exact g
  by_cases hA : dmin ≤ dmax / 10 * 10
  · obtain ⟨c, hc⟩ : ∃ c, dmax / 10 = c := ⟨_, rfl⟩
    have hsh : shN a = (c, -(p - 1)) := by rw [hform]; unfold pick3; rw [if_pos hA, hc]
    have hc10 : InJ a p (c * 10) := (hs.isin _).2 (by omega)
    have huniq : ∀ (k d : Nat), InJ a (p - 1 - k) d → d * 10 ^ k = c := fun k d hd => by
      have g := in_up a d _ (k + 1) hd
      rw [show p - 1 - (k : Int) + ((k + 1 : Nat) : Int) = p from by omega, Nat.pow_succ, ← Nat.mul_assoc] at g
      have g2 := (hs.isin _).1 g
      omega
    have hone : ∀ (k d d' : Nat), InJ a (p - 1 - k) d → InJ a (p - 1 - k) d' → d = d' := fun k d d' g1 g2 => by
      have e1 := huniq k d g1
      have e2 := huniq k d' g2
      exact Nat.eq_of_mul_eq_mul_right (Nat.pow_pos (n := k) (show 0 < 10 by decide)) (by rw [e1, e2])
    rw [hsh]
    by_cases hbig : 10 * DE p ≤ NU a p
    · have hp1 : -x ≤ p - 1 := by
        refine hfar _ ?_
        have g := (lev_le a 1 (p - 1) 1).2 (by rw [show p - 1 + ((1 : Nat) : Int) = p from by omega]; simpa using hbig)
        rwa [Nat.one_mul] at g
      have hcand : candJ a (p - 1) := cand_of a c _ hinf (in_down a c (p - 1) 1 (by rw [show p - 1 + ((1 : Nat) : Int) = p from by omega, Nat.pow_one]; exact hc10))
      refine ⟨np - 1, by omega, by omega, ?_, fun n g1 g2 => hflb n g1 (by omega), fun n hn1 hn2 hn3 => ?_⟩
      · rw [show ((np - 1 : Nat) : Int) - 1 - x = p - 1 from by omega]
        exact hcand
      · have hle : n ≤ np - 1 := by
          rcases Nat.lt_or_ge (np - 1) n with g | g
          · exfalso
            refine hn3 (np - 1) (by omega) g ?_
            rw [show ((np - 1 : Nat) : Int) - 1 - x = p - 1 from by omega]
            exact hcand
          · exact g
        obtain ⟨k, hk⟩ : ∃ k : Nat, (n : Int) - 1 - x = p - 1 - k := ⟨np - 1 - n, by omega⟩
        rw [hk] at hn2 ⊢
        rcases hn2 with g | g
        · have e := res_one a _ _ (.inl g) (fun y hy => hone k y _ hy g)
          rw [e]
          exact ⟨k, .inr ⟨(huniq k _ g).symm, by omega⟩⟩
        · have e := res_one a _ _ (.inr g) (fun y hy => hone k y _ hy g)
          rw [e]
          exact ⟨k, .inr ⟨(huniq k _ g).symm, by omega⟩⟩
    · obtain ⟨t1, t2⟩ := (hs.top hA).resolve_left hbig
      have hpx : p = -x := by
        rcases (show -x < p ∨ p ≤ -x by omega) with g | g
        · exfalso
          obtain ⟨k, hk⟩ : ∃ k : Nat, p = -x + ((k + 1 : Nat) : Int) := ⟨(p + x - 1).toNat, by omega⟩
          have g2 := (lev_le a 1 (-x) (k + 1)).1 (by rwa [Nat.one_mul])
          rw [← hk, Nat.one_mul, Nat.pow_succ] at g2
          have g3 : 10 * DE p ≤ 10 ^ k * 10 * DE p := Nat.mul_le_mul_right _ (Nat.le_mul_of_pos_left _ (Nat.pow_pos (by decide)))
          omega
        · omega
      obtain ⟨m1, m2, m3⟩ := hs.mid t2
      have hu : InJ a p u := (hs.isin u).2 ⟨m2, m3⟩
      have hcand : candJ a p := cand_of a u p hinf hu
      have hl : ((1 : Nat) : Int) - 1 - x = p := by omega
      refine ⟨1, Nat.le_refl _, by omega, by rw [hl]; exact hcand, fun n g1 g2 => hflb n g1 (by omega), fun n hn1 hn2 hn3 => ?_⟩
      obtain rfl : n = 1 := by
        rcases Nat.lt_or_ge 1 n with g | g
        · exact absurd (by rw [hl]; exact hcand) (hn3 1 (Nat.le_refl _) g)
        · omega
      rw [hl, res_mid a u p m1 hu]
      exact ⟨1, .inl ⟨by rw [t1, hc, Nat.pow_one], by omega⟩⟩
  · have hnone : ∀ (k d : Nat), 1 ≤ k → ¬ InJ a (p - k) d := fun k d hk hd => by
      have g := in_up a d _ k hd
      obtain ⟨i, rfl⟩ : ∃ i, k = i + 1 := ⟨k - 1, by omega⟩
      rw [show p - ((i + 1 : Nat) : Int) + ((i + 1 : Nat) : Int) = p from by omega, Nat.pow_succ, ← Nat.mul_assoc] at g
      have g2 := (hs.isin _).1 g
      omega
    have hmin : InJ a p dmin := (hs.isin _).2 ⟨Nat.le_refl _, s3⟩
    have hcand : candJ a p := cand_of a dmin p hinf hmin
    refine ⟨np, hnp1, hnp19, by rw [← hnp]; exact hcand, hflb, fun n hn1 hn2 hn3 => ?_⟩
    obtain rfl : n = np := by
      rcases Nat.lt_trichotomy n np with g | g | g
      · exfalso
        obtain ⟨k, hk1, hk2⟩ : ∃ k : Nat, 1 ≤ k ∧ (n : Int) - 1 - x = p - k := ⟨np - n, by omega, by omega⟩
        rw [hk2] at hn2
        rcases hn2 with g | g
        · exact hnone k _ hk1 g
        · exact hnone k _ hk1 g
      · exact g
      · exact absurd (by rw [← hnp]; exact hcand) (hn3 np hnp1 g)
    rw [← hnp, show x - (n : Int) + 1 = -p from by omega, hform]
    unfold pick3
    rw [if_neg hA]
    by_cases hlt : dmin < dmax
    · obtain ⟨m1, m2, m3⟩ := hs.mid hlt
      rw [if_pos hlt, res_mid a u p m1 ((hs.isin u).2 ⟨m2, m3⟩)]
      exact ⟨0, .inl ⟨by simp, by simp⟩⟩
    · rw [if_neg hlt, res_one a dmin p hcand (fun y hy => by have := (hs.isin y).1 hy; omega)]
      exact ⟨0, .inl ⟨by simp, by simp⟩⟩
end Go.Proofs.YtmhagigokgklaaaGreatDoor

/- The reference's near, text, zeros, decimal, parts (walked). -/
namespace Go.Proofs.YtmhagigokgklaaaGreatDoor
open Go Go.RowKit Go.Sort Go.Lib
set_option exponentiation.threshold 3000

theorem div_lt2 (x m Y X k : Nat) (h : x + m * (Y * 2 ^ k) = X) (hX : X < 2 ^ 60 * Y) : m < 1152921504606846976 := by
  rcases Nat.lt_or_ge m 1152921504606846976 with g | g
  · exact g
  · exfalso
    have h1 : 2 ^ 60 * Y ≤ m * (Y * 2 ^ k) := Nat.mul_le_mul g (Nat.le_mul_of_pos_right _ (Nat.two_pow_pos k))
    omega

set_option maxRecDepth 100000 in
set_option maxHeartbeats 8000000 in
theorem near_any (vp vq : Value) (P Q K : Nat) (x : Int) (X Y : Nat) (w : World) (hp : IsNum w vp P) (hq : IsNum w vq Q) (hQ : 0 < Q) (hK : K ≤ 2000) (hP : P < 256 ^ K) (hQK : Q < 256 ^ K) (hx : -2000 ≤ x ∧ x ≤ 2000)
    (hX : P * 10 ^ x.toNat = X) (hY : Q * 10 ^ (-x).toNat = Y) (hlt : X < 2 ^ 60 * Y) :
    Calls Tryz.prog 79 #[vp, vq, .int .i64 x] w fun e w' => e = .returned (.tuple #[.int .u64 ((X / Y : Nat) : Int), .bool (decide (upG X Y = 0))]) ∧ Below w.heap.size w w' := by
  have HSH : Hid (∀ (v : Value) (x n : Nat) (W : World), IsNum W v x → x < 256 ^ (K + 2100) → n ≤ 100000 → Calls Tryz.prog 66 #[v, .int .i64 n] W fun e w' => (∃ v', e = .returned v' ∧ IsNum w' v' (x * 2 ^ n)) ∧ Below W.heap.size W w') := Lib.hid fun v x n W h hx hn => shift_any v x n (K + 2100) W h (by omega) hx hn
  have HCM : Hid (∀ (va vb : Value) (x y : Nat) (W : World), IsNum W va x → IsNum W vb y → x < 256 ^ (K + 2300) → y < 256 ^ (K + 2300) → Calls Tryz.prog 67 #[va, vb] W fun e w' => e = .returned (.int .i64 (cmpN x y)) ∧ Below W.heap.size W w') := Lib.hid fun va vb x y W ha hb hx hy => cmp_any va vb x y (K + 2300) W ha hb (by omega) hx hy
  have HMI : Hid (∀ (va vb : Value) (x y : Nat) (W : World), IsNum W va x → IsNum W vb y → x < 256 ^ (K + 2300) → y ≤ x → Calls Tryz.prog 68 #[va, vb] W fun e w' => (∃ v', e = .returned v' ∧ IsNum w' v' (x - y)) ∧ Below W.heap.size W w') := Lib.hid fun va vb x y W ha hb hx hy => minus_any va vb x y (K + 2300) W ha hb (by omega) hx hy
  have hten : ∀ n, n ≤ 2000 → 10 ^ n ≤ 256 ^ 2000 := fun n hn => Nat.le_trans (Nat.pow_le_pow_left (by decide) n) (Nat.pow_le_pow_right (by decide) hn)
  have hXB : X < 256 ^ (K + 2000) := by
    rw [← hX, Nat.pow_add]
    exact Nat.lt_of_lt_of_le ((Nat.mul_lt_mul_right (Nat.pow_pos (by decide))).2 hP) (Nat.mul_le_mul_left _ (hten _ (by omega)))
  have hYB : Y < 256 ^ (K + 2000) := by
    rw [← hY, Nat.pow_add]
    exact Nat.lt_of_lt_of_le ((Nat.mul_lt_mul_right (Nat.pow_pos (by decide))).2 hQK) (Nat.mul_le_mul_left _ (hten _ (by omega)))
  have HYP : Hid (0 < Y) := Lib.hid (by rw [← hY]; exact Nat.mul_pos hQ (Nat.pow_pos (by decide)))
  have HTB : Hid (∀ k, k ≤ 61 → Y * 2 ^ k < 256 ^ (K + 2300)) := Lib.hid fun k hk => by
    have h1 : 2 ^ k ≤ 256 ^ 8 := by
      have : 2 ^ k ≤ 2 ^ 64 := Nat.pow_le_pow_right (by decide) (by omega)
      exact this
    have h2 : Y * 2 ^ k < 256 ^ (K + 2000) * 256 ^ 8 := Nat.lt_of_lt_of_le ((Nat.mul_lt_mul_right (Nat.two_pow_pos k)).2 hYB) (Nat.mul_le_mul_left _ h1)
    rw [← Nat.pow_add] at h2
    exact Nat.lt_of_lt_of_le h2 (Nat.pow_le_pow_right (by decide) (by omega))
  have HXB3 : Hid (∀ x, x ≤ 2 * X → x < 256 ^ (K + 2300)) := Lib.hid fun x hx => by
    have h1 : 2 * 256 ^ (K + 2000) ≤ 256 ^ (K + 2300) := by
      have : 256 ^ (K + 2001) ≤ 256 ^ (K + 2300) := Nat.pow_le_pow_right (by decide) (by omega)
      rw [Nat.pow_succ] at this; omega
    omega
  have HTEN : Hid (∀ (v : Value) (z n : Nat) (W : World), IsNum W v z → z < 256 ^ K → n ≤ 2000 → Calls Tryz.prog 78 #[v, .int .i64 n] W fun e w' => (∃ v', e = .returned v' ∧ IsNum w' v' (z * 10 ^ n)) ∧ Below W.heap.size W w') := Lib.hid fun v z n W h hz hn => ten_any v z n K W h (by omega) hz (by omega)
  have HXB : Hid (X < 256 ^ (K + 2100)) := Lib.hid (Nat.lt_of_lt_of_le hXB (Nat.pow_le_pow_right (by decide) (by omega)))
  have HYB : Hid (Y < 256 ^ (K + 2100)) := Lib.hid (Nat.lt_of_lt_of_le hYB (Nat.pow_le_pow_right (by decide) (by omega)))
  have HLT := Lib.hid hlt
  have HPN := Lib.hid hp
  have HQN := Lib.hid hq
  have hcase : (∃ n : Nat, x = (n : Int) ∧ n ≤ 2000 ∧ P * 10 ^ n = X ∧ Q = Y) ∨ (∃ n : Nat, x = -((n + 1 : Nat) : Int) ∧ n + 1 ≤ 2000 ∧ P = X ∧ Q * 10 ^ (n + 1) = Y) := by
    by_cases h0 : 0 ≤ x
    · refine .inl ⟨x.toNat, by omega, by omega, hX, ?_⟩
      rw [← hY, show (-x).toNat = 0 by omega, Nat.pow_zero, Nat.mul_one]
    · refine .inr ⟨(-x).toNat - 1, by omega, by omega, ?_, ?_⟩
      · rw [← hX, show x.toNat = 0 by omega, Nat.pow_zero, Nat.mul_one]
      · rw [← hY, show (-x).toNat - 1 + 1 = (-x).toNat by omega]
  clear hp hq hlt hXB hYB hten hX hY hx
  generalize 256 ^ (K + 2100) = B1 at *
  generalize 256 ^ (K + 2300) = B2 at *
  generalize 256 ^ K = B0 at *
  rcases hcase with ⟨n, rfl, hn, hPX, hQY⟩ | ⟨n, rfl, hn, hPX, hQY⟩
  · have HT : Hid (∀ W : World, Below w.heap.size w W → Calls Tryz.prog 78 #[vp, .int .i64 n] W fun e w' => (∃ v', e = .returned v' ∧ IsNum w' v' X) ∧ Below W.heap.size W w') := Lib.hid fun W hW => by
      have := HTEN.out vp P n W (HPN.out.go hW) hP (by omega)
      rwa [hPX] at this
    subst hQY
    clear hPX hP hQK hQ
    have hn0 : (0 : Int) ≤ (n : Int) := by omega
    go_enter Tryz.func79, Tryz.ntmps79
    go_wp2_with fail
    refine (HT.out _ (Below.refl _ _)).mono ?_
    rintro e w1 ⟨⟨vx, rfl, hv1⟩, hb1⟩
    have HX1 := Lib.hid hv1
    have HY1 := Lib.hid (HQN.out.go hb1)
    have HB1 := Lib.hid hb1
    obtain ⟨vy, hvy⟩ : ∃ v, v = vq := ⟨_, rfl⟩
    subst hvy
    obtain ⟨Y, hYQ⟩ : ∃ y, y = Q := ⟨_, rfl⟩
    subst hYQ
    clear hv1 hb1 HT hn0 hn HPN HQN
    go_wp2_with fail
    go_loopg [0, 8, 9, 10] 61 (fun g s0 s8 s9 _ wr => ∃ (x m : Nat) (i : Int), g ≤ 61 ∧ i = (g : Int) - 1 ∧ s9 = .int .i64 i ∧ s8 = .int .u64 m ∧ x + m * (Y * 2 ^ g) = X ∧ x < Y * 2 ^ g ∧ IsNum wr s0 x ∧ Below w1.heap.size w1 wr)
    case atStart =>
      exact ⟨X, 0, 60, Nat.le_refl _, by omega, rfl, rfl, by rw [Nat.zero_mul, Nat.add_zero], by
        have h1 := HLT.out
        have h2 : 2 ^ 60 * Y ≤ Y * 2 ^ 61 := by rw [Nat.mul_comm]; exact Nat.mul_le_mul_left _ (Nat.pow_le_pow_right (by decide) (by decide))
        omega, HX1.out, Below.refl _ _⟩
    case round =>
      obtain ⟨x, m, i, hg, hi, rfl, rfl, hsum, hlt, hnum, hb6⟩ := hrel
      have hm60 := div_lt2 x m Y X gk hsum HLT.out
      have HSUM := Lib.hid hsum
      have HLX := Lib.hid hlt
      have HXN := Lib.hid hnum
      have HB6 := Lib.hid hb6
      clear hsum hlt hnum hb6
      by_cases h0 : gk = 0
      · obtain ⟨hdiv, hmod⟩ := div_end x m Y X (by have := HSUM.out; rw [h0] at this; exact this) (by have := HLX.out; rw [h0] at this; exact this)
        obtain rfl : i = -1 := by omega
        clear hi hg h0
        have hup := up_cases x m Y X hdiv hmod
        have hxX : x ≤ X := by have := HSUM.out; omega
        have HSX : Hid (∀ W : World, Below wr.heap.size wr W → Calls Tryz.prog 66 #[u0, .int .i64 1] W fun e w' => (∃ v', e = .returned v' ∧ IsNum w' v' (x * 2)) ∧ Below W.heap.size W w') := Lib.hid fun W hW => HSH.out u0 x 1 W (HXN.out.go hW) (Nat.lt_of_le_of_lt hxX HXB.out) (by decide)
        have HCX : Hid (∀ (v : Value) (W : World), Below wr.heap.size wr W → IsNum W v (x * 2) → Calls Tryz.prog 67 #[v, vy] W fun e w' => e = .returned (.int .i64 (cmpN (x * 2) Y)) ∧ Below W.heap.size W w') := Lib.hid fun v W hW hv => HCM.out v vy (x * 2) Y W hv ((HY1.out.go HB6.out).go hW) (HXB3.out _ (by omega)) (by have := HTB.out 0 (by omega); rwa [Nat.pow_zero, Nat.mul_one] at this)
        obtain ⟨D, hD⟩ : ∃ D, X / Y = D := ⟨_, rfl⟩
        obtain ⟨up, hup'⟩ : ∃ u, upG X Y = u := ⟨_, rfl⟩
        have HDE := Lib.hid hD
        have HUE := Lib.hid hup'
        rw [hup'] at hup
        have hmD : m = D := by omega
        subst hmD
        clear hdiv hmod hxX HSUM HLX HXN HSH HCM HMI HTB HXB3 HXB HYB HLT HX1 HY1 hD hup'
        obtain ⟨c, hc⟩ : ∃ c, cmpN (x * 2) Y = c := ⟨_, rfl⟩
        rw [hc] at HCX hup
        clear hc
        go_wp2_with fail
        refine (HSX.out _ (Below.refl _ _)).mono ?_
        rintro e6 w6 ⟨⟨v6, rfl, hv6⟩, hb6⟩
        have H6 := Lib.hid hv6
        have B6 := Lib.hid hb6
        clear hv6 hb6
        go_wp2_with fail
        refine (HCX.out _ _ B6.out H6.out).mono ?_
        rintro e7 w7 ⟨rfl, hb7⟩
        have B7 := Lib.hid (B6.out.trans (hb7.mono B6.out.size))
        have B8 := Lib.hid ((HB1.out.trans (HB6.out.mono HB1.out.size)).trans (B7.out.mono (HB1.out.trans (HB6.out.mono HB1.out.size)).size))
        clear hb7 B7 B6 H6 HSX HCX HB6 HB1
        rcases hup with ⟨rfl, rfl⟩ | ⟨rfl, hpar, rfl⟩ | ⟨rfl, hpar, rfl⟩ | ⟨rfl, rfl⟩
        · go_wp2_with fail
          go_ret2
          exact ⟨by rw [HDE.out, HUE.out]; rfl, B8.out⟩
        · have hpi : (m : Int).tmod 2 = 0 := by rw [Int.tmod_eq_emod_of_nonneg (by omega)]; omega
          have hpj : (m : Int) % 2 = 0 := by omega
          clear hpar
          go_wp2_with fail
          go_ret2
          exact ⟨by rw [HDE.out, HUE.out]; rfl, B8.out⟩
        · have hpi : (m : Int).tmod 2 = 1 := by rw [Int.tmod_eq_emod_of_nonneg (by omega)]; omega
          have hpj : (m : Int) % 2 = 1 := by omega
          clear hpar
          go_wp2_with fail
          go_ret2
          exact ⟨by rw [HDE.out, HUE.out]; rfl, B8.out⟩
        · go_wp2_with fail
          go_ret2
          exact ⟨by rw [HDE.out, HUE.out]; rfl, B8.out⟩
      · obtain ⟨k, rfl⟩ : ∃ k, gk = k + 1 := ⟨gk - 1, by omega⟩
        obtain rfl : i = (k : Int) := by omega
        have hds := div_step x m Y X k HSUM.out HLX.out
        have hxX : x ≤ X := by have := HSUM.out; omega
        have HTK := Lib.hid (fun (W : World) (hW : Below wr.heap.size wr W) => HSH.out vy Y k W ((HY1.out.go HB6.out).go hW) HYB.out (by omega))
        have HCX : Hid (∀ (v : Value) (W : World), Below wr.heap.size wr W → IsNum W v (Y * 2 ^ k) → Calls Tryz.prog 67 #[u0, v] W fun e w' => e = .returned (.int .i64 (cmpN x (Y * 2 ^ k))) ∧ Below W.heap.size W w') := Lib.hid fun v W hW hv => HCM.out u0 v x (Y * 2 ^ k) W (HXN.out.go hW) hv (HXB3.out _ (by omega)) (HTB.out k (by omega))
        have HMX : Hid (∀ (v : Value) (W : World), Below wr.heap.size wr W → IsNum W v (Y * 2 ^ k) → Y * 2 ^ k ≤ x → Calls Tryz.prog 68 #[u0, v] W fun e w' => (∃ v', e = .returned v' ∧ IsNum w' v' (x - Y * 2 ^ k)) ∧ Below W.heap.size W w') := Lib.hid fun v W hW hv hle => HMI.out u0 v x (Y * 2 ^ k) W (HXN.out.go hW) hv (HXB3.out _ (by omega)) hle
        have HDS := Lib.hid hds
        have hki : (0 : Int) ≤ (k : Int) := by omega
        obtain ⟨T, hT⟩ : ∃ T, Y * 2 ^ k = T := ⟨_, rfl⟩
        rw [hT] at HTK HCX HMX HDS
        have HTE := Lib.hid hT
        clear hds hi hxX hT
        by_cases hxt : x < T
        · have hc : cmpN x T = -1 := by unfold cmpN; rw [if_pos hxt]
          rw [hc] at HCX
          have HD1 := Lib.hid (HDS.out.1 hxt)
          have HXT := Lib.hid hxt
          clear hc hxt
          go_wp2_with fail
          refine (HTK.out _ (Below.refl _ _)).mono ?_
          rintro e6 w6 ⟨⟨v6, rfl, hv6⟩, hb6⟩
          have H6 := Lib.hid hv6
          have B6 := Lib.hid hb6
          clear hv6 hb6
          go_wp2_with fail
          refine (HCX.out _ _ B6.out H6.out).mono ?_
          rintro e7 w7 ⟨rfl, hb7⟩
          have B7 := Lib.hid (B6.out.trans (hb7.mono B6.out.size))
          clear hb7
          go_wp2_with fail
          go_roundg k
          case measure => omega
          case rel => exact ⟨x, m * 2, _, by omega, rfl, by go_num, by go_num, by rw [HTE.out]; exact HD1.out, by rw [HTE.out]; exact HXT.out, HXN.out.go B7.out, HB6.out.trans (B7.out.mono HB6.out.size)⟩
        · have hle : T ≤ x := by omega
          have hc : 0 ≤ cmpN x T := by unfold cmpN; rw [if_neg hxt]; split <;> omega
          have hc2 : -1 ≤ cmpN x T ∧ cmpN x T ≤ 1 := by unfold cmpN; rw [if_neg hxt]; split <;> omega
          generalize cmpN x T = c at *
          have HD1 := Lib.hid (HDS.out.2 hle)
          have HLE := Lib.hid hle
          clear hxt hle
          go_wp2_with fail
          refine (HTK.out _ (Below.refl _ _)).mono ?_
          rintro e6 w6 ⟨⟨v6, rfl, hv6⟩, hb6⟩
          have H6 := Lib.hid hv6
          have B6 := Lib.hid hb6
          clear hv6 hb6
          go_wp2_with fail
          refine (HCX.out _ _ B6.out H6.out).mono ?_
          rintro e7 w7 ⟨rfl, hb7⟩
          have B7 := Lib.hid (B6.out.trans (hb7.mono B6.out.size))
          have H67 := Lib.hid (H6.out.go hb7)
          clear hb7
          go_wp2_with fail
          refine (HMX.out _ _ B7.out H67.out HLE.out).mono ?_
          rintro e8 w8 ⟨⟨v8, rfl, hv8⟩, hb8⟩
          have H8 := Lib.hid hv8
          have B8 := Lib.hid (B7.out.trans (hb8.mono B7.out.size))
          clear hv8 hb8
          go_wp2_with fail
          go_roundg k
          case measure => omega
          case rel => exact ⟨x - T, m * 2 + 1, _, by omega, rfl, by go_num, by go_num, by rw [HTE.out]; exact HD1.out.1, by rw [HTE.out]; exact HD1.out.2, H8.out, HB6.out.trans (B8.out.mono HB6.out.size)⟩
  · have HT : Hid (∀ W : World, Below w.heap.size w W → Calls Tryz.prog 78 #[vq, .int .i64 ((n + 1 : Nat) : Int)] W fun e w' => (∃ v', e = .returned v' ∧ IsNum w' v' Y) ∧ Below W.heap.size W w') := Lib.hid fun W hW => by
      have := HTEN.out vq Q (n + 1) W (HQN.out.go hW) hQK (by omega)
      rwa [hQY] at this
    subst hPX
    clear hQY hP hQK hQ
    have hn0 : ¬ (0 : Int) ≤ -((n + 1 : Nat) : Int) := by omega
    have hnn : -(-((n + 1 : Nat) : Int)) = ((n + 1 : Nat) : Int) := by omega
    have hNb : ((n + 1 : Nat) : Int) ≤ 2000 := by omega
    have hNp : (0 : Int) < ((n + 1 : Nat) : Int) := by omega
    generalize ((n + 1 : Nat) : Int) = N at *
    go_enter Tryz.func79, Tryz.ntmps79
    go_wp2_with fail
    refine (HT.out _ (Below.refl _ _)).mono ?_
    rintro e w1 ⟨⟨vy, rfl, hv1⟩, hb1⟩
    have HY1 := Lib.hid hv1
    have HX1 := Lib.hid (HPN.out.go hb1)
    have HB1 := Lib.hid hb1
    obtain ⟨X, hXP⟩ : ∃ y, y = P := ⟨_, rfl⟩
    subst hXP
    clear hv1 hb1 HT hn0 hnn hn HPN HQN hNb hNp
    go_wp2_with fail
    go_loopg [0, 8, 9, 10] 61 (fun g s0 s8 s9 _ wr => ∃ (x m : Nat) (i : Int), g ≤ 61 ∧ i = (g : Int) - 1 ∧ s9 = .int .i64 i ∧ s8 = .int .u64 m ∧ x + m * (Y * 2 ^ g) = X ∧ x < Y * 2 ^ g ∧ IsNum wr s0 x ∧ Below w1.heap.size w1 wr)
    case atStart =>
      exact ⟨X, 0, 60, Nat.le_refl _, by omega, rfl, rfl, by rw [Nat.zero_mul, Nat.add_zero], by
        have h1 := HLT.out
        have h2 : 2 ^ 60 * Y ≤ Y * 2 ^ 61 := by rw [Nat.mul_comm]; exact Nat.mul_le_mul_left _ (Nat.pow_le_pow_right (by decide) (by decide))
        omega, HX1.out, Below.refl _ _⟩
    case round =>
      obtain ⟨x, m, i, hg, hi, rfl, rfl, hsum, hlt, hnum, hb6⟩ := hrel
      have hm60 := div_lt2 x m Y X gk hsum HLT.out
      have HSUM := Lib.hid hsum
      have HLX := Lib.hid hlt
      have HXN := Lib.hid hnum
      have HB6 := Lib.hid hb6
      clear hsum hlt hnum hb6
      by_cases h0 : gk = 0
      · obtain ⟨hdiv, hmod⟩ := div_end x m Y X (by have := HSUM.out; rw [h0] at this; exact this) (by have := HLX.out; rw [h0] at this; exact this)
        obtain rfl : i = -1 := by omega
        clear hi hg h0
        have hup := up_cases x m Y X hdiv hmod
        have hxX : x ≤ X := by have := HSUM.out; omega
        have HSX : Hid (∀ W : World, Below wr.heap.size wr W → Calls Tryz.prog 66 #[u0, .int .i64 1] W fun e w' => (∃ v', e = .returned v' ∧ IsNum w' v' (x * 2)) ∧ Below W.heap.size W w') := Lib.hid fun W hW => HSH.out u0 x 1 W (HXN.out.go hW) (Nat.lt_of_le_of_lt hxX HXB.out) (by decide)
        have HCX : Hid (∀ (v : Value) (W : World), Below wr.heap.size wr W → IsNum W v (x * 2) → Calls Tryz.prog 67 #[v, vy] W fun e w' => e = .returned (.int .i64 (cmpN (x * 2) Y)) ∧ Below W.heap.size W w') := Lib.hid fun v W hW hv => HCM.out v vy (x * 2) Y W hv ((HY1.out.go HB6.out).go hW) (HXB3.out _ (by omega)) (by have := HTB.out 0 (by omega); rwa [Nat.pow_zero, Nat.mul_one] at this)
        obtain ⟨D, hD⟩ : ∃ D, X / Y = D := ⟨_, rfl⟩
        obtain ⟨up, hup'⟩ : ∃ u, upG X Y = u := ⟨_, rfl⟩
        have HDE := Lib.hid hD
        have HUE := Lib.hid hup'
        rw [hup'] at hup
        have hmD : m = D := by omega
        subst hmD
        clear hdiv hmod hxX HSUM HLX HXN HSH HCM HMI HTB HXB3 HXB HYB HLT HX1 HY1 hD hup'
        obtain ⟨c, hc⟩ : ∃ c, cmpN (x * 2) Y = c := ⟨_, rfl⟩
        rw [hc] at HCX hup
        clear hc
        go_wp2_with fail
        refine (HSX.out _ (Below.refl _ _)).mono ?_
        rintro e6 w6 ⟨⟨v6, rfl, hv6⟩, hb6⟩
        have H6 := Lib.hid hv6
        have B6 := Lib.hid hb6
        clear hv6 hb6
        go_wp2_with fail
        refine (HCX.out _ _ B6.out H6.out).mono ?_
        rintro e7 w7 ⟨rfl, hb7⟩
        have B7 := Lib.hid (B6.out.trans (hb7.mono B6.out.size))
        have B8 := Lib.hid ((HB1.out.trans (HB6.out.mono HB1.out.size)).trans (B7.out.mono (HB1.out.trans (HB6.out.mono HB1.out.size)).size))
        clear hb7 B7 B6 H6 HSX HCX HB6 HB1
        rcases hup with ⟨rfl, rfl⟩ | ⟨rfl, hpar, rfl⟩ | ⟨rfl, hpar, rfl⟩ | ⟨rfl, rfl⟩
        · go_wp2_with fail
          go_ret2
          exact ⟨by rw [HDE.out, HUE.out]; rfl, B8.out⟩
        · have hpi : (m : Int).tmod 2 = 0 := by rw [Int.tmod_eq_emod_of_nonneg (by omega)]; omega
          have hpj : (m : Int) % 2 = 0 := by omega
          clear hpar
          go_wp2_with fail
          go_ret2
          exact ⟨by rw [HDE.out, HUE.out]; rfl, B8.out⟩
        · have hpi : (m : Int).tmod 2 = 1 := by rw [Int.tmod_eq_emod_of_nonneg (by omega)]; omega
          have hpj : (m : Int) % 2 = 1 := by omega
          clear hpar
          go_wp2_with fail
          go_ret2
          exact ⟨by rw [HDE.out, HUE.out]; rfl, B8.out⟩
        · go_wp2_with fail
          go_ret2
          exact ⟨by rw [HDE.out, HUE.out]; rfl, B8.out⟩
      · obtain ⟨k, rfl⟩ : ∃ k, gk = k + 1 := ⟨gk - 1, by omega⟩
        obtain rfl : i = (k : Int) := by omega
        have hds := div_step x m Y X k HSUM.out HLX.out
        have hxX : x ≤ X := by have := HSUM.out; omega
        have HTK := Lib.hid (fun (W : World) (hW : Below wr.heap.size wr W) => HSH.out vy Y k W ((HY1.out.go HB6.out).go hW) HYB.out (by omega))
        have HCX : Hid (∀ (v : Value) (W : World), Below wr.heap.size wr W → IsNum W v (Y * 2 ^ k) → Calls Tryz.prog 67 #[u0, v] W fun e w' => e = .returned (.int .i64 (cmpN x (Y * 2 ^ k))) ∧ Below W.heap.size W w') := Lib.hid fun v W hW hv => HCM.out u0 v x (Y * 2 ^ k) W (HXN.out.go hW) hv (HXB3.out _ (by omega)) (HTB.out k (by omega))
        have HMX : Hid (∀ (v : Value) (W : World), Below wr.heap.size wr W → IsNum W v (Y * 2 ^ k) → Y * 2 ^ k ≤ x → Calls Tryz.prog 68 #[u0, v] W fun e w' => (∃ v', e = .returned v' ∧ IsNum w' v' (x - Y * 2 ^ k)) ∧ Below W.heap.size W w') := Lib.hid fun v W hW hv hle => HMI.out u0 v x (Y * 2 ^ k) W (HXN.out.go hW) hv (HXB3.out _ (by omega)) hle
        have HDS := Lib.hid hds
        have hki : (0 : Int) ≤ (k : Int) := by omega
        obtain ⟨T, hT⟩ : ∃ T, Y * 2 ^ k = T := ⟨_, rfl⟩
        rw [hT] at HTK HCX HMX HDS
        have HTE := Lib.hid hT
        clear hds hi hxX hT
        by_cases hxt : x < T
        · have hc : cmpN x T = -1 := by unfold cmpN; rw [if_pos hxt]
          rw [hc] at HCX
          have HD1 := Lib.hid (HDS.out.1 hxt)
          have HXT := Lib.hid hxt
          clear hc hxt
          go_wp2_with fail
          refine (HTK.out _ (Below.refl _ _)).mono ?_
          rintro e6 w6 ⟨⟨v6, rfl, hv6⟩, hb6⟩
          have H6 := Lib.hid hv6
          have B6 := Lib.hid hb6
          clear hv6 hb6
          go_wp2_with fail
          refine (HCX.out _ _ B6.out H6.out).mono ?_
          rintro e7 w7 ⟨rfl, hb7⟩
          have B7 := Lib.hid (B6.out.trans (hb7.mono B6.out.size))
          clear hb7
          go_wp2_with fail
          go_roundg k
          case measure => omega
          case rel => exact ⟨x, m * 2, _, by omega, rfl, by go_num, by go_num, by rw [HTE.out]; exact HD1.out, by rw [HTE.out]; exact HXT.out, HXN.out.go B7.out, HB6.out.trans (B7.out.mono HB6.out.size)⟩
        · have hle : T ≤ x := by omega
          have hc : 0 ≤ cmpN x T := by unfold cmpN; rw [if_neg hxt]; split <;> omega
          have hc2 : -1 ≤ cmpN x T ∧ cmpN x T ≤ 1 := by unfold cmpN; rw [if_neg hxt]; split <;> omega
          generalize cmpN x T = c at *
          have HD1 := Lib.hid (HDS.out.2 hle)
          have HLE := Lib.hid hle
          clear hxt hle
          go_wp2_with fail
          refine (HTK.out _ (Below.refl _ _)).mono ?_
          rintro e6 w6 ⟨⟨v6, rfl, hv6⟩, hb6⟩
          have H6 := Lib.hid hv6
          have B6 := Lib.hid hb6
          clear hv6 hb6
          go_wp2_with fail
          refine (HCX.out _ _ B6.out H6.out).mono ?_
          rintro e7 w7 ⟨rfl, hb7⟩
          have B7 := Lib.hid (B6.out.trans (hb7.mono B6.out.size))
          have H67 := Lib.hid (H6.out.go hb7)
          clear hb7
          go_wp2_with fail
          refine (HMX.out _ _ B7.out H67.out HLE.out).mono ?_
          rintro e8 w8 ⟨⟨v8, rfl, hv8⟩, hb8⟩
          have H8 := Lib.hid hv8
          have B8 := Lib.hid (B7.out.trans (hb8.mono B7.out.size))
          clear hv8 hb8
          go_wp2_with fail
          go_roundg k
          case measure => omega
          case rel => exact ⟨x - T, m * 2 + 1, _, by omega, rfl, by go_num, by go_num, by rw [HTE.out]; exact HD1.out.1, by rw [HTE.out]; exact HD1.out.2, H8.out, HB6.out.trans (B8.out.mono HB6.out.size)⟩

/-- the digits that stand already -/
def TxRel (N k : Nat) (l : List UInt8) : Prop := decDigits N = (if k < 10 then [] else decDigits (k / 10)) ++ l
theorem txrel_0 (N : Nat) : TxRel N N [UInt8.ofNat (48 + N % 10)] := by
  unfold TxRel
  rw [decDigits]
  split
  · rename_i h; rw [Nat.mod_eq_of_lt h]; rfl
  · rfl
theorem txrel_step (N k : Nat) (l : List UInt8) (h : TxRel N k l) (hk : 10 ≤ k) : TxRel N (k / 10) (UInt8.ofNat (48 + k / 10 % 10) :: l) := by
  unfold TxRel at *
  rw [h, if_neg (by omega)]
  have h0 := txrel_0 (k / 10)
  unfold TxRel at h0
  rw [h0, List.append_assoc]; rfl
theorem txrel_len (N k : Nat) (l : List UInt8) (h : TxRel N k l) : l.length ≤ (decDigits N).length := by
  unfold TxRel at h
  rw [h, List.length_append]; omega

set_option maxRecDepth 100000 in
set_option maxHeartbeats 4000000 in
theorem text_any (N : Nat) (w : World) (hN : N < 18446744073709551616) :
    Calls Tryz.prog 45 #[.int .u64 N] w fun e w' => e = .returned (.string ⟨(decDigits N).toArray⟩) ∧ Below w.heap.size w w' := by
  have HLEN : Hid ((decDigits N).length ≤ 20) := Lib.hid (by
    rw [decDigits_length]
    exact nd_le 19 _ (by omega))
  have H0 := Lib.hid (txrel_0 N)
  obtain ⟨d, hd⟩ : ∃ d, N % 10 = d := ⟨_, rfl⟩
  rw [hd] at H0
  have hd10 : d < 10 := by omega
  have hk10 : (N : Int) % 10 = (d : Int) := by omega
  have hk10b : (N : Int).tmod 10 = (d : Int) := by rw [Int.tmod_eq_emod_of_nonneg (by omega)]; omega
  obtain ⟨c, hcd⟩ : ∃ c, UInt8.ofNat (48 + d) = c := ⟨_, rfl⟩
  have hct : ((c.toNat : Nat) : Int) = 48 + (d : Int) := by
    rw [← hcd, UInt8.toNat_ofNat', Nat.mod_eq_of_lt (show 48 + d < 2 ^ 8 by omega)]; push_cast; rfl
  have hds := fun W => digit_str W c
  rw [hct] at hds
  rw [hcd] at H0
  clear hd hct hcd
  go_enter Tryz.func45, Tryz.ntmps45
  go_wp2_with fail
  clear hk10 hk10b hd10 hds
  go_loopg [0, 3] N (fun g s0 s3 wr => ∃ l : List UInt8, TxRel N g l ∧ g ≤ N ∧ s0 = .int .u64 g ∧ s3 = .string ⟨l.toArray⟩ ∧ Below w.heap.size w wr)
  case atStart => exact ⟨[c], H0.out, Nat.le_refl _, rfl, rfl, (Below.refl _ _).alloc (Nat.le_refl _) _⟩
  case round =>
    obtain ⟨l, hr, hg, rfl, rfl, hb⟩ := hrel
    have HB := Lib.hid hb
    have HR := Lib.hid hr
    have hl := Nat.le_trans (txrel_len _ _ _ hr) HLEN.out
    clear hb hr H0
    by_cases hk : 10 ≤ gk
    · have HST := txrel_step N gk l HR.out hk
      obtain ⟨k', hk'⟩ : ∃ k', gk / 10 = k' := ⟨_, rfl⟩
      rw [hk'] at HST
      obtain ⟨d', hd'⟩ : ∃ d, k' % 10 = d := ⟨_, rfl⟩
      rw [hd'] at HST
      have hd10 : d' < 10 := by omega
      have hkd : (gk : Int).tdiv 10 = (k' : Int) := by rw [Int.tdiv_eq_ediv_of_nonneg (by omega)]; omega
      have hkd2 : (gk : Int) / 10 = (k' : Int) := by omega
      have hk10 : (k' : Int) % 10 = (d' : Int) := by omega
      have hk10b : (k' : Int).tmod 10 = (d' : Int) := by rw [Int.tmod_eq_emod_of_nonneg (by omega)]; omega
      obtain ⟨c', hcd⟩ : ∃ c, UInt8.ofNat (48 + d') = c := ⟨_, rfl⟩
      have hct : ((c'.toNat : Nat) : Int) = 48 + (d' : Int) := by
        rw [← hcd, UInt8.toNat_ofNat', Nat.mod_eq_of_lt (show 48 + d' < 2 ^ 8 by omega)]; push_cast; rfl
      have hds := fun W => digit_str W c'
      rw [hct] at hds
      rw [hcd] at HST
      have HST := Lib.hid HST
      have hcs := cons_str c' l
      have hkl : k' < gk := by omega
      have hki : (10 : Int) ≤ (gk : Int) := by omega
      have hgN : (gk : Int) < 18446744073709551616 := by omega
      have hsz : (⟨l.toArray⟩ : ByteArray).size ≤ 20 := hl
      have HKL := Lib.hid hkl
      have HGN := Lib.hid hg
      clear hd' hct hcd hk' hkl hk hg
      go_wp2_with fail
      go_roundg k'
      case measure => exact HKL.out
      case rel => exact ⟨c' :: l, HST.out, Nat.le_trans (Nat.le_of_lt HKL.out) HGN.out, rfl, rfl, HB.out.alloc HB.out.size _⟩
    · have hki : ¬ (10 : Int) ≤ (gk : Int) := by omega
      have HD : Hid (decDigits N = l) := Lib.hid (by
        have := HR.out
        unfold TxRel at this
        rw [this, if_pos (by omega), List.nil_append])
      clear hk
      go_wp2_with fail
      go_ret
      exact ⟨by rw [HD.out]; rfl, HB.out⟩

/-- noughts -/
def nzS (k : Nat) : ByteArray := ⟨(List.replicate k (48 : UInt8)).toArray⟩
theorem nzS_snoc (k : Nat) : nzS k ++ ⟨#[48]⟩ = nzS (k + 1) := by
  apply ByteArray.ext
  rw [ByteArray.data_append]
  apply Array.toList_inj.1
  unfold nzS
  rw [List.replicate_succ']
  simp
theorem nzS_size (k : Nat) : (nzS k).size = k := zz k

set_option maxRecDepth 100000 in
set_option maxHeartbeats 4000000 in
theorem rzeros_any (n : Nat) (w : World) (hn : n ≤ 100000) :
    Calls Tryz.prog 44 #[.int .i64 n] w fun e w' => e = .returned (.string ⟨(List.replicate n (48 : UInt8)).toArray⟩) ∧ w' = w := by
  go_enter Tryz.func44, Tryz.ntmps44
  go_wp2_with fail
  go_loopg [3, 4] n (fun g s3 s4 wr => ∃ k : Nat, k + g = n ∧ s3 = .string (nzS k) ∧ s4 = .int .i64 k ∧ wr = w)
  case atStart => exact ⟨0, by omega, rfl, rfl, rfl⟩
  case round =>
    obtain ⟨k, hk, rfl, rfl, rfl⟩ := hrel
    have hz := nzS_size k
    have hcs := nzS_snoc k
    by_cases hkn : k < n
    · have hki : (k : Int) < (n : Int) := by omega
      go_wp2_with fail
      go_roundg (gk - 1)
      case measure => omega
      case rel => exact ⟨k + 1, by omega, rfl, by go_num, rfl⟩
    · obtain rfl : k = n := by omega
      have hki : ¬ (k : Int) < (k : Int) := by omega
      go_wp2_with fail
      go_ret
      exact ⟨rfl, rfl⟩

theorem rd_pos {D n r : Nat} (h : Near (2 * (D * 10 ^ n * 2 ^ 1074)) 1 r) : Near (dX D (n : Int)) (dQ (n : Int)) r := by
  rw [dX_pos, dQ_pos1]; exact h
theorem rd_neg {D n r : Nat} {x : Int} (hx : x = -(n : Int)) (h : Near (2 * (D * 2 ^ 1074)) (10 ^ n) r) : Near (dX D x) (dQ x) r := by
  rw [hx, dX_neg, dQ_neg]; exact h

set_option maxRecDepth 100000 in
set_option maxHeartbeats 4000000 in
/-- the reference's decimal: digits times a power of ten -/
theorem rdec_any (s : ByteArray) (x : Int) (w : World) (hs : s.size ≤ 1000) (hdg : ∀ c ∈ s.data.toList, isDig c) (hx : -2999 ≤ x ∧ x ≤ 2999) :
    Calls Tryz.prog 69 #[.string s, .int .i64 x] w fun e w' => (∃ r : Nat, e = .returned (.int .u64 r) ∧ Near (dX (dvl 10 s.data.toList) x) (dQ x) r) ∧ Below w.heap.size w w' := by
  obtain ⟨l, hl⟩ : ∃ l, s.data.toList = l := ⟨_, rfl⟩
  have hlen : l.length = s.size := by rw [← hl]; simp
  rw [hl] at hdg
  have HDG := Lib.hid hdg
  have HLEN := Lib.hid hlen
  have HL := Lib.hid hl
  have HVB : Hid (∀ k, k ≤ s.size → dvl 10 (l.take k) < 256 ^ k) := Lib.hid fun k hk => by
    have h1 := dvl_lt 10 (by decide) (l.take k) (fun y hy => okD_dv (by decide) (.inl (hdg y (List.mem_of_mem_take hy))))
    have h2 : (l.take k).length = k := by rw [List.length_take]; omega
    rw [h2] at h1
    exact Nat.lt_of_lt_of_le h1 (Nat.pow_le_pow_left (by decide) k)
  rw [hl]
  clear hl hdg hlen
  go_enter Tryz.func69, Tryz.ntmps69
  go_wp2_with fail
  go_loopg [5, 6] s.size (fun g s5 s6 wr => ∃ k : Nat, k + g = s.size ∧ s6 = .int .i64 k ∧ IsNum wr s5 (dvl 10 (l.take k)) ∧ Below w.heap.size w wr)
  case atStart => exact ⟨0, by omega, rfl, ⟨[], .inl ⟨rfl, rfl⟩, rfl, by simp [NormB]⟩, Below.refl _ _⟩
  case round =>
    obtain ⟨k, hkg, rfl, hnum, hb⟩ := hrel
    have HN := Lib.hid hnum
    have HB := Lib.hid hb
    clear hnum hb
    by_cases hk : k < s.size
    · have hkl : k < l.length := by rw [HLEN.out]; exact hk
      have hd := HDG.out l[k] (List.getElem_mem hkl)
      have hgk : l[k] = s[k] := by
        have h1 := HL.out
        subst h1
        rfl
      have hnx : dvl 10 (l.take (k + 1)) = dvl 10 (l.take k) * 10 + (s[k].toNat - 48) := by
        rw [List.take_succ_eq_append_getElem hkl, dvl_snoc, hgk]
        congr 1
        rw [hgk] at hd
        unfold dv
        exact if_pos hd
      rw [hgk] at hd
      have hd1 : 48 ≤ s[k].toNat := hd.1
      have hd2 : s[k].toNat ≤ 57 := hd.2
      have HT : Hid (∀ W : World, Below wr.heap.size wr W → Calls Tryz.prog 30 #[u5, .int .i64 10, .int .i64 ((s[k].toNat : Int) - 48)] W fun e w' => (∃ v', e = .returned v' ∧ IsNum w' v' (dvl 10 (l.take (k + 1)))) ∧ Below W.heap.size W w') := Lib.hid fun W hW => by
        have := times_any u5 (dvl 10 (l.take k)) 10 (s[k].toNat - 48) k W (HN.out.go hW) (by omega) (HVB.out k (by omega)) (by decide) (by omega)
        rw [← hnx, show ((s[k].toNat - 48 : Nat) : Int) = (s[k].toNat : Int) - 48 from by omega] at this
        exact this
      have hki : (k : Int) < (s.size : Int) := by omega
      clear hnx hgk hd hkl
      go_wp2_with fail
      refine (HT.out _ (Below.refl _ _)).mono ?_
      rintro e w5 ⟨⟨v', rfl, hn5⟩, hb5⟩
      have H5 := Lib.hid hn5
      have B5 := Lib.hid (HB.out.trans (hb5.mono HB.out.size))
      clear hn5 hb5
      go_wp2_with fail
      go_roundg (gk - 1)
      case measure => omega
      case rel => exact ⟨k + 1, by omega, by go_num, H5.out, B5.out⟩
    · obtain rfl : k = s.size := by omega
      have hki : ¬ (s.size : Int) < (s.size : Int) := by omega
      have htk : l.take s.size = l := List.take_of_length_le (by rw [HLEN.out]; exact Nat.le_refl _)
      rw [htk] at HN
      have hvb := HVB.out s.size (Nat.le_refl _)
      rw [htk] at hvb
      obtain ⟨D, hD⟩ : ∃ D, dvl 10 l = D := ⟨_, rfl⟩
      rw [hD] at HN hvb
      have HDE := Lib.hid hD
      clear hD
      clear htk hkg hk HVB HDG HLEN HL
      have hten : ∀ n, n ≤ 2999 → 10 ^ n < 256 ^ 3000 := fun n hn => Nat.lt_of_le_of_lt (Nat.pow_le_pow_left (show 10 ≤ 256 by decide) n) ((Nat.pow_lt_pow_iff_right (by decide)).2 (by omega))
      by_cases h0 : 0 ≤ x
      · obtain ⟨n, rfl⟩ : ∃ n : Nat, x = (n : Int) := ⟨x.toNat, by omega⟩
        have HP : Hid (D * 10 ^ n < 256 ^ (s.size + 3000)) := Lib.hid (by
          rw [Nat.pow_add]
          exact Nat.lt_of_lt_of_le ((Nat.mul_lt_mul_right (Nat.pow_pos (by decide))).2 hvb) (Nat.mul_le_mul_left _ (Nat.le_of_lt (hten n (by omega)))))
        have HT : Hid (∀ W : World, Below wr.heap.size wr W → Calls Tryz.prog 78 #[u5, .int .i64 n] W fun e w' => (∃ v', e = .returned v' ∧ IsNum w' v' (D * 10 ^ n)) ∧ Below W.heap.size W w') := Lib.hid fun W hW => ten_any u5 D n s.size W (HN.out.go hW) (by omega) hvb (by omega)
        have HR : Hid (∀ (vp vq : Value) (W : World), IsNum W vp (D * 10 ^ n) → IsNum W vq 1 → Calls Tryz.prog 32 #[vp, vq] W (RdPost (D * 10 ^ n) 1 W)) := Lib.hid fun vp vq W h1 h2 => rround_any vp vq _ 1 (s.size + 3000) W h1 h2 (by decide) (by omega) HP.out (Nat.one_lt_pow (by omega) (by decide))
        clear hvb hten h0 HP
        go_wp2_with fail
        refine (HT.out _ ((Below.refl _ _).alloc (Nat.le_refl _) _)).mono ?_
        rintro e w5 ⟨⟨v5, rfl, hn5⟩, hb5⟩
        have H5 := Lib.hid hn5
        have HQ5 := Lib.hid ((one_num wr).go hb5)
        have B5 := Lib.hid ((HB.out.trans (((Below.refl _ _).alloc (Nat.le_refl _) _).mono HB.out.size)).trans (hb5.mono (HB.out.trans (((Below.refl _ _).alloc (Nat.le_refl _) _).mono HB.out.size)).size))
        clear hn5 hb5
        go_wp2_with fail
        refine (HR.out _ _ _ H5.out HQ5.out).mono ?_
        rintro e w6 ⟨⟨r, rfl, hr6⟩, hb6⟩
        have HR6 := Lib.hid hr6
        have B6 := Lib.hid (B5.out.trans (hb6.mono B5.out.size))
        clear hr6 hb6
        go_wp2_with fail
        go_ret
        exact ⟨⟨r, rfl, by rw [HDE.out]; exact rd_pos HR6.out⟩, B6.out⟩
      · obtain ⟨n, hn⟩ : ∃ n : Nat, x = -(n : Int) := ⟨(-x).toNat, by omega⟩
        have hn3 : n ≤ 2999 := by omega
        have HT : Hid (∀ (W : World) (v : Value), IsNum W v 1 → Calls Tryz.prog 78 #[v, .int .i64 n] W fun e w' => (∃ v', e = .returned v' ∧ IsNum w' v' (10 ^ n)) ∧ Below W.heap.size W w') := Lib.hid fun W v hv => by
          have := ten_any v 1 n 1 W hv (by decide) (by decide) (by omega)
          rwa [Nat.one_mul] at this
        have HR : Hid (∀ (vp vq : Value) (W : World), IsNum W vp D → IsNum W vq (10 ^ n) → Calls Tryz.prog 32 #[vp, vq] W (RdPost D (10 ^ n) W)) := Lib.hid fun vp vq W h1 h2 => rround_any vp vq _ _ (s.size + 3000) W h1 h2 (Nat.pow_pos (by decide)) (by omega)
          (Nat.lt_of_lt_of_le hvb (Nat.pow_le_pow_right (by decide) (by omega))) (Nat.lt_of_lt_of_le (hten n hn3) (Nat.pow_le_pow_right (by decide) (by omega)))
        have hxn : -x = (n : Int) := by omega
        have HXE := Lib.hid hn
        clear hvb hten hn
        go_wp2_with fail
        refine (HT.out _ _ (one_num wr)).mono ?_
        rintro e w5 ⟨⟨v5, rfl, hn5⟩, hb5⟩
        have H5 := Lib.hid hn5
        have HP5 := Lib.hid ((HN.out.go ((Below.refl _ _).alloc (Nat.le_refl _) _)).go hb5)
        have B5 := Lib.hid ((HB.out.trans (((Below.refl _ _).alloc (Nat.le_refl _) _).mono HB.out.size)).trans (hb5.mono (HB.out.trans (((Below.refl _ _).alloc (Nat.le_refl _) _).mono HB.out.size)).size))
        clear hn5 hb5
        go_wp2_with fail
        refine (HR.out _ _ _ HP5.out H5.out).mono ?_
        rintro e w6 ⟨⟨r, rfl, hr6⟩, hb6⟩
        have HR6 := Lib.hid hr6
        have B6 := Lib.hid (B5.out.trans (hb6.mono B5.out.size))
        clear hr6 hb6
        go_wp2_with fail
        go_ret
        exact ⟨⟨r, rfl, by rw [HDE.out]; exact rd_neg HXE.out HR6.out⟩, B6.out⟩
end Go.Proofs.YtmhagigokgklaaaGreatDoor
