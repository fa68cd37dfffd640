/- Joined texts: Uh Ui Uj Ul Uo Qb Qc Pc. Each begins with its own remark. -/
import Derived.Test.YtckaoeloofbklaaGreatDoorYa
import Derived.Laws.FloatBits
import Derived.WalkLawsBesides
import Derived.Test.YtckaoeloofbklaaGreatDoorYg
import Derived.Test.YtckaoeloofbklaaGreatDoorYb
import Derived.Test.YtckaoeloofbklaaGreatDoorYf
namespace Go.Proofs.YtckaoeloofbklaaGreatDoor
open Go Ieee
def ngB (x : Nat) : Bool := decide (9223372036854775808 ≤ x)
def ru (x : Nat) : Nat := x % 9223372036854775808
def sv (x : Nat) : Int := if 9223372036854775808 ≤ x then -(V (ru x) : Int) else (V (ru x) : Int)
theorem d_sw : double.signWeight = 9223372036854775808 := by decide
theorem d_bi : double.binade = 4503599627370496 := by decide
theorem d_in : double.infRung = 9218868437227405312 := by decide
theorem d_lp : double.leastPlace = -1074 := by decide
theorem ng_is (x : Nat) (h : x < 18446744073709551616) : (x / 9223372036854775808 % 2 == 1) = ngB x := by
  unfold ngB
  by_cases h1 : 9223372036854775808 ≤ x
  · rw [decide_eq_true h1, beq_iff_eq]; omega
  · rw [decide_eq_false h1, beq_eq_false_iff_ne]; omega
theorem read_fin (x : Nat) (h : x < 18446744073709551616) (hr : ru x < 9218868437227405312) : ∃ (m : Nat) (e : Nat), double.read x = .number (ngB x) m ((e : Int) - 1074) ∧ m * 2 ^ e = V (ru x) ∧ (e = 0 ∨ 4503599627370496 ≤ m) ∧ m < 9007199254740992 ∧ ru x = e * 4503599627370496 + m := by
  unfold Format.read
  simp only [d_sw, d_bi, d_in, d_lp, ng_is x h]
  rw [show x % 9223372036854775808 = ru x from rfl]
  by_cases h1 : ru x < 4503599627370496
  · refine ⟨ru x, 0, ?_, ?_, .inl rfl, by omega, by omega⟩
    · rw [if_pos h1]; rfl
    · unfold V BB; rw [if_pos h1]; omega
  · refine ⟨4503599627370496 + ru x % 4503599627370496, ru x / 4503599627370496 - 1, ?_, ?_, .inr (by omega), ?_, ?_⟩
    · rw [if_neg h1, if_pos hr]
      show Datum.number _ (4503599627370496 + ru x % 4503599627370496) (-1074 + ((ru x / 4503599627370496 - 1 : Nat) : Int)) = _
      congr 1
    · unfold V BB; rw [if_neg h1]
    · have := Nat.mod_lt (ru x) (show 0 < 4503599627370496 by decide); omega
    · omega
theorem read_inf (x : Nat) (h : x < 18446744073709551616) (hr : ru x = 9218868437227405312) : double.read x = .infinity (ngB x) := by
  unfold Format.read
  simp only [d_sw, d_bi, d_in, d_lp, ng_is x h]
  rw [show x % 9223372036854775808 = ru x from rfl]
  rw [if_neg (by omega), if_neg (by omega), if_pos hr]
theorem read_nan (x : Nat) (h : x < 18446744073709551616) (hr : 9218868437227405312 < ru x) : ∃ t, double.read x = .nan (ngB x) t := by
  unfold Format.read
  simp only [d_sw, d_bi, d_in, d_lp, ng_is x h]
  refine ⟨ru x - 9218868437227405312, ?_⟩
  rw [show x % 9223372036854775808 = ru x from rfl]
  rw [if_neg (by omega), if_neg (by omega), if_neg (by omega)]
theorem order_nan (x y : Nat) (hx : x < 18446744073709551616) (h : 9218868437227405312 < ru x) : double.order x y = none := by
  obtain ⟨t, ht⟩ := read_nan x hx h
  unfold Format.order
  rw [ht]
  cases double.read y <;> rfl
theorem signed_mul (s : Bool) (m k j : Nat) : signed s m k * (2 ^ j : Nat) = if s then -((m * 2 ^ (k + j) : Nat) : Int) else ((m * 2 ^ (k + j) : Nat) : Int) := by
  unfold signed
  rw [Nat.shiftLeft_eq]
  cases s
  · rw [if_neg (by decide), if_neg (by decide), ← Int.natCast_mul, Nat.mul_assoc, Nat.pow_add]
  · rw [if_pos rfl, if_pos rfl, Int.neg_mul, ← Int.natCast_mul, Nat.mul_assoc, Nat.pow_add]
theorem cmpI_lt {a b : Int} (h : a < b) : compare a b = .lt := by
  show compareOfLessAndEq a b = .lt
  unfold compareOfLessAndEq; rw [if_pos h]
theorem cmpI_eq {a b : Int} (h : a = b) : compare a b = .eq := by
  show compareOfLessAndEq a b = .eq
  unfold compareOfLessAndEq; rw [if_neg (show ¬ a < b by omega), if_pos h]
theorem cmpI_gt {a b : Int} (h : b < a) : compare a b = .gt := by
  show compareOfLessAndEq a b = .gt
  unfold compareOfLessAndEq; rw [if_neg (show ¬ a < b by omega), if_neg (show ¬ a = b by omega)]
theorem compare_mul (a b : Int) (k : Nat) (h : 0 < k) : compare a b = compare (a * k) (b * k) := by
  have hk : (0 : Int) < k := by omega
  rcases Int.lt_trichotomy a b with h1 | h1 | h1
  · have h2 : a * k < b * k := Int.mul_lt_mul_of_pos_right h1 hk
    rw [cmpI_lt h1, cmpI_lt h2]
  · subst h1; rw [cmpI_eq rfl, cmpI_eq rfl]
  · have h2 : b * k < a * k := Int.mul_lt_mul_of_pos_right h1 hk
    rw [cmpI_gt h1, cmpI_gt h2]
theorem sv_ng (x : Nat) : sv x = if ngB x then -(V (ru x) : Int) else (V (ru x) : Int) := by
  unfold sv ngB
  split <;> rename_i h
  · rw [decide_eq_true h]; rfl
  · rw [decide_eq_false h]; rfl
theorem order_any (x y : Nat) (hx : x < 18446744073709551616) (hy : y < 18446744073709551616) (h1 : ru x ≤ 9218868437227405312) (h2 : ru y ≤ 9218868437227405312) : double.order x y = some (compare (sv x) (sv y)) := by
  unfold Format.order
  rw [sv_ng, sv_ng]
  by_cases hx2 : ru x = 9218868437227405312
  · rw [read_inf x hx hx2]
    by_cases hy2 : ru y = 9218868437227405312
    · rw [read_inf y hy hy2, hx2, hy2]
      cases ngB x <;> cases ngB y <;> decide +kernel
    · obtain ⟨m, e, he, hm, _⟩ := read_fin y hy (by omega)
      rw [he]
      have hlt : V (ru y) < V (ru x) := V_mono (by omega)
      show some (if ngB x then Ordering.lt else .gt) = _
      cases ngB x
      · have : compare ((V (ru x) : Nat) : Int) (if ngB y then -((V (ru y) : Nat) : Int) else ((V (ru y) : Nat) : Int)) = .gt := cmpI_gt (by split <;> omega)
        simp [this]
      · have : compare (-((V (ru x) : Nat) : Int)) (if ngB y then -((V (ru y) : Nat) : Int) else ((V (ru y) : Nat) : Int)) = .lt := cmpI_lt (by split <;> omega)
        simp [this]
  · obtain ⟨m, e, he, hm, _⟩ := read_fin x hx (by omega)
    rw [he]
    by_cases hy2 : ru y = 9218868437227405312
    · rw [read_inf y hy hy2]
      have hlt : V (ru x) < V (ru y) := V_mono (by omega)
      show some (if ngB y then Ordering.gt else .lt) = _
      cases ngB y
      · have : compare (if ngB x then -((V (ru x) : Nat) : Int) else ((V (ru x) : Nat) : Int)) ((V (ru y) : Nat) : Int) = .lt := cmpI_lt (by split <;> omega)
        simp [this]
      · have : compare (if ngB x then -((V (ru x) : Nat) : Int) else ((V (ru x) : Nat) : Int)) (-((V (ru y) : Nat) : Int)) = .gt := cmpI_gt (by split <;> omega)
        simp [this]
    · obtain ⟨n, f, hf, hn, _⟩ := read_fin y hy (by omega)
      rw [hf]
      show some (compare (signed (ngB x) m ((e : Int) - 1074 - min ((e : Int) - 1074) ((f : Int) - 1074)).toNat) (signed (ngB y) n ((f : Int) - 1074 - min ((e : Int) - 1074) ((f : Int) - 1074)).toNat)) = _
      have e1 : ((e : Int) - 1074 - min ((e : Int) - 1074) ((f : Int) - 1074)).toNat = e - min e f := by omega
      have e2 : ((f : Int) - 1074 - min ((e : Int) - 1074) ((f : Int) - 1074)).toNat = f - min e f := by omega
      rw [e1, e2, compare_mul _ _ (2 ^ min e f) (Nat.two_pow_pos _), signed_mul, signed_mul, show e - min e f + min e f = e from by omega, show f - min e f + min e f = f from by omega, hm, hn]
theorem cmp_eq (a b : Int) : (some (compare a b) == some Ordering.eq) = decide (a = b) := by
  rcases Int.lt_trichotomy a b with h1 | h1 | h1
  · rw [cmpI_lt h1, decide_eq_false (by omega)]; rfl
  · rw [cmpI_eq h1, decide_eq_true h1]; rfl
  · rw [cmpI_gt h1, decide_eq_false (by omega)]; rfl
theorem cmp_lt (a b : Int) : (some (compare a b) == some Ordering.lt) = decide (a < b) := by
  rcases Int.lt_trichotomy a b with h1 | h1 | h1
  · rw [cmpI_lt h1, decide_eq_true h1]; rfl
  · rw [cmpI_eq h1, decide_eq_false (by omega)]; rfl
  · rw [cmpI_gt h1, decide_eq_false (by omega)]; rfl
theorem cmp_gt (a b : Int) : (some (compare a b) == some Ordering.gt) = decide (b < a) := by
  rcases Int.lt_trichotomy a b with h1 | h1 | h1
  · rw [cmpI_lt h1, decide_eq_false (by omega)]; rfl
  · rw [cmpI_eq h1, decide_eq_false (by omega)]; rfl
  · rw [cmpI_gt h1, decide_eq_true h1]; rfl
theorem f_self (x : Nat) (hx : x < 18446744073709551616) : (FloatKind.f64.format.order x x == some Ordering.eq) = decide (ru x ≤ 9218868437227405312) := by
  show (double.order x x == _) = _
  by_cases h : ru x ≤ 9218868437227405312
  · rw [order_any x x hx hx h h, cmp_eq, decide_eq_true rfl, decide_eq_true h]
  · rw [order_nan x x hx (by omega), decide_eq_false h]; rfl
theorem sv_zero (x : Nat) : sv x = 0 ↔ ru x = 0 := by
  have h1 : V (ru x) = 0 ↔ ru x = 0 := by
    constructor
    · intro h
      by_cases h0 : ru x = 0
      · exact h0
      · have := V_mono (show 0 < ru x by omega)
        rw [V_zero] at this; omega
    · intro h; rw [h]; rfl
  unfold sv
  split <;> omega
theorem f_zero (x : Nat) (hx : x < 18446744073709551616) (h : ru x ≤ 9218868437227405312) : (FloatKind.f64.format.order x 0 == some Ordering.eq) = decide (ru x = 0) := by
  show (double.order x 0 == _) = _
  rw [order_any x 0 hx (by decide) h (by decide), cmp_eq, show sv 0 = 0 from by decide +kernel]
  exact decide_eq_decide.2 (sv_zero x)
theorem f_gt_max (x : Nat) (hx : x < 18446744073709551616) (h : ru x ≤ 9218868437227405312) : (FloatKind.f64.format.order x 9218868437227405311 == some Ordering.gt) = (decide (ru x = 9218868437227405312) && !ngB x) := by
  show (double.order x 9218868437227405311 == _) = _
  rw [order_any x _ hx (by decide) h (by decide), cmp_gt, sv_ng, sv_ng, show ngB 9218868437227405311 = false from by decide, show ru 9218868437227405311 = 9218868437227405311 from by decide]
  have h0 : 0 ≤ (V (ru x) : Int) := by omega
  have h3 : V (ru x) = V 9218868437227405312 ∨ V (ru x) ≤ V 9218868437227405311 := by
    by_cases h4 : ru x = 9218868437227405312
    · rw [h4]; exact .inl rfl
    · exact .inr (V_le (by omega))
  have h5 : V 9218868437227405311 < V 9218868437227405312 := V_mono (by omega)
  have h6 : 0 < V 9218868437227405311 := by have := V_mono (show 0 < 9218868437227405311 by omega); rwa [V_zero] at this
  have h7 : ru x = 9218868437227405312 ↔ V (ru x) = V 9218868437227405312 := by
    constructor
    · intro h; rw [h]
    · intro h8
      by_cases h4 : ru x = 9218868437227405312
      · exact h4
      · have := V_mono (show ru x < 9218868437227405312 by omega); omega
  cases ngB x
  · simp only [Bool.false_eq_true, if_false, Bool.not_false, Bool.and_true]
    exact decide_eq_decide.2 ⟨fun h => by rw [h7]; omega, fun h => by rw [h7] at h; omega⟩
  · simp only [if_true, Bool.not_true, Bool.and_false, Bool.false_eq_true, if_false]
    exact decide_eq_false (by omega)
end Go.Proofs.YtckaoeloofbklaaGreatDoor
namespace Go.Proofs.YtckaoeloofbklaaGreatDoor
open Go Ieee
theorem d_fb : double.fractionBits = 52 := rfl
theorem up_is (n d : Nat) : (decide (2 ^ d < 2 * (n % 2 ^ d)) || (2 ^ d == 2 * (n % 2 ^ d) && n / 2 ^ d % 2 == 1)).toNat = upG n (2 ^ d) := by
  unfold upG
  by_cases h1 : 2 * (n % 2 ^ d) < 2 ^ d
  · rw [if_pos h1, decide_eq_false (by omega), show (2 ^ d == 2 * (n % 2 ^ d)) = false from beq_eq_false_iff_ne.2 (by omega)]; rfl
  · rw [if_neg h1]
    by_cases h2 : 2 * (n % 2 ^ d) = 2 ^ d
    · rw [if_pos h2, h2, decide_eq_false (by omega), beq_self_eq_true]
      rcases Nat.mod_two_eq_zero_or_one (n / 2 ^ d) with h | h <;> rw [h] <;> rfl
    · rw [if_neg h2, decide_eq_true (by omega)]; rfl
theorem nearest_pos (s : Bool) (mag : Nat) (h : 0 < mag) : ∃ r, double.nearest s mag 0 = double.word s r ∧ Near (2 * (mag * 2 ^ 1074)) 1 r := by
  have hl : 2 ^ mag.log2 ≤ mag := Nat.log2_self_le (by omega)
  have hu : mag < 2 ^ (mag.log2 + 1) := Nat.lt_log2_self
  unfold Format.nearest
  rw [if_neg (by omega)]
  simp only [d_lp, d_bi, d_in, d_fb]
  obtain ⟨L, hlg⟩ : ∃ L, mag.log2 = L := ⟨_, rfl⟩
  rw [hlg] at hl hu
  rw [hlg]
  have hmax : max ((0 : Int) + (L : Int) - ((52 : Nat) : Int)) (-1074) = (L : Int) - 52 := by omega
  rw [hmax]
  refine ⟨_, rfl, ?_⟩
  by_cases hL : L ≤ 52
  · obtain ⟨k, hk⟩ : ∃ k, L + k = 52 := ⟨52 - L, by omega⟩
    rw [show (0 - ((L : Int) - 52)).toNat = k by omega, show ((L : Int) - 52 - 0).toNat = 0 by omega, show ((L : Int) - 52 - (-1074)).toNat = L + 1022 by omega]
    have hc : Toward.even.cut s (mag <<< k) 0 = mag * 2 ^ k := by
      unfold Toward.cut
      rw [show min 0 ((mag <<< k).log2 + 2) = 0 by omega]
      simp [Nat.shiftLeft_eq, Nat.mod_one]
    rw [hc]
    have p1 : 2 ^ L * 2 ^ k = 4503599627370496 := by rw [← Nat.pow_add, hk]
    have p2 : 2 ^ (L + 1) * 2 ^ k = 9007199254740992 := by rw [← Nat.pow_add, show L + 1 + k = 53 by omega]
    have b1 := Nat.mul_le_mul_right (2 ^ k) hl
    have b2 := (Nat.mul_lt_mul_right (Nat.two_pow_pos k)).2 hu
    rw [p1] at b1
    rw [p2] at b2
    have p3 : 2 ^ k * 2 ^ (L + 1022) = 2 ^ 1074 := by rw [← Nat.pow_add, show k + (L + 1022) = 1074 by omega]
    have hn := near_gap (X := 2 * (mag * 2 ^ 1074)) (Q := 1) (n := mag * 2 ^ k) (G := 1) (E := L + 1022) (by decide) (by decide) (by rw [Nat.mul_one, Nat.one_mul, Nat.mul_assoc mag, p3]) (by rw [Nat.div_one]; exact b2) (.inr (by rw [Nat.div_one]; exact b1))
    have hu0 : upG (mag * 2 ^ k) 1 = 0 := by unfold upG; rw [Nat.mod_one, if_pos (by decide)]
    rw [hu0, Nat.div_one, Nat.add_zero] at hn
    rw [Nat.min_comm]
    exact hn
  · obtain ⟨d, hd⟩ : ∃ d, L = 52 + d := ⟨L - 52, by omega⟩
    subst hd
    rw [show (0 - (((52 + d : Nat) : Int) - 52)).toNat = 0 by omega, show (((52 + d : Nat) : Int) - 52 - 0).toNat = d by omega, show (((52 + d : Nat) : Int) - 52 - (-1074)).toNat = d + 1074 by omega]
    have hc : Toward.even.cut s (mag <<< 0) d = mag / 2 ^ d + upG mag (2 ^ d) := by
      unfold Toward.cut
      rw [Nat.shiftLeft_zero, hlg, show min d (52 + d + 2) = d by omega, Nat.one_shiftLeft]
      show mag / 2 ^ d + _ = _
      rw [up_is]
    rw [hc]
    have b1 : 4503599627370496 ≤ mag / 2 ^ d := by
      rw [Nat.le_div_iff_mul_le (Nat.two_pow_pos d)]
      rw [Nat.pow_add] at hl
      exact hl
    have b2 : mag / 2 ^ d < 9007199254740992 := by
      rw [Nat.div_lt_iff_lt_mul (Nat.two_pow_pos d)]
      rw [show 52 + d + 1 = 53 + d by omega, Nat.pow_add] at hu
      exact hu
    have hn := near_gap (X := 2 * (mag * 2 ^ 1074)) (Q := 1) (n := mag) (G := 2 ^ d) (E := d + 1074) (by decide) (Nat.two_pow_pos d) (by rw [Nat.one_mul, Nat.pow_add, Nat.mul_assoc 2, Nat.mul_right_comm mag, Nat.mul_assoc mag]) b2 (.inr b1)
    rw [Nat.min_comm]
    exact hn
theorem nearest_is (s : Bool) (mag : Nat) : ∃ r, double.nearest s mag 0 = double.word s r ∧ Near (2 * (mag * 2 ^ 1074)) 1 r := by
  by_cases h : 0 < mag
  · exact nearest_pos s mag h
  · refine ⟨0, by unfold Format.nearest; rw [if_pos (by omega)], ?_⟩
    rw [show mag = 0 by omega]
    exact ⟨by decide, by decide, .inl rfl, .inr ⟨by omega, by omega⟩⟩
end Go.Proofs.YtckaoeloofbklaaGreatDoor
namespace Go.Proofs.YtckaoeloofbklaaGreatDoor
open Go Ieee
set_option exponentiation.threshold 2000
theorem near_self (r : Nat) (h : r ≤ INF) : Near (2 * V r) 1 r := by
  refine ⟨by decide, h, ?_, ?_⟩
  · by_cases h0 : r = 0
    · exact .inl h0
    · have := V_mono (show r - 1 < r by omega)
      exact .inr ⟨by omega, by omega⟩
  · by_cases h1 : r = INF
    · exact .inl h1
    · have := V_mono (show r < r + 1 by omega)
      exact .inr ⟨by omega, by omega⟩
theorem whole_rung (t : Nat) (h : t < 9007199254740992) : ∃ r, r ≤ INF ∧ V r = t * 2 ^ 1074 := by
  by_cases h0 : t = 0
  · exact ⟨0, by decide, by rw [h0, Nat.zero_mul]; rfl⟩
  · have hl : 2 ^ t.log2 ≤ t := Nat.log2_self_le h0
    have hu : t < 2 ^ (t.log2 + 1) := Nat.lt_log2_self
    generalize t.log2 = L at *
    have hL : L ≤ 52 := by
      rcases Nat.lt_or_ge L 53 with h1 | h1
      · omega
      · have := Nat.pow_le_pow_right (show 0 < 2 by decide) h1
        omega
    obtain ⟨k, hk⟩ : ∃ k, L + k = 52 := ⟨52 - L, by omega⟩
    have p1 : 2 ^ L * 2 ^ k = 4503599627370496 := by rw [← Nat.pow_add, hk]
    have p2 : 2 ^ (L + 1) * 2 ^ k = 9007199254740992 := by rw [← Nat.pow_add, show L + 1 + k = 53 by omega]
    have b1 := Nat.mul_le_mul_right (2 ^ k) hl
    have b2 := (Nat.mul_lt_mul_right (Nat.two_pow_pos k)).2 hu
    rw [p1] at b1
    rw [p2] at b2
    have p3 : 2 ^ k * 2 ^ (L + 1022) = 2 ^ 1074 := by rw [← Nat.pow_add, show k + (L + 1022) = 1074 by omega]
    refine ⟨(L + 1022) * BB + t * 2 ^ k, ?_, ?_⟩
    · unfold BB INF; omega
    · rw [V_at (L + 1022) (t * 2 ^ k) (by unfold BB; omega) (.inr b1), Nat.mul_assoc, p3]
end Go.Proofs.YtckaoeloofbklaaGreatDoor
namespace Go.Proofs.YtckaoeloofbklaaGreatDoor
open Go Ieee
set_option exponentiation.threshold 5000
def ValP (X Q c G : Nat) (place : Int) : Prop := X * G * 2 ^ (-place).toNat = 2 * (Q * (c * 2 ^ 1074 * 2 ^ place.toNat))
theorem valP_low (X Q c G E d : Nat) (place : Int) (h : ValP X Q c G place) (hE : (E : Int) = place + d + 1074) : X * G * 2 ^ d = 2 * (Q * (c * 2 ^ E)) := by
  unfold ValP at h
  refine Nat.eq_of_mul_eq_mul_right (Nat.two_pow_pos (-place).toNat) ?_
  have e1 : X * G * 2 ^ d * 2 ^ (-place).toNat = X * G * 2 ^ (-place).toNat * 2 ^ d := by ac_rfl
  have e2 : 2 * (Q * (c * 2 ^ E)) * 2 ^ (-place).toNat = 2 * (Q * (c * (2 ^ E * 2 ^ (-place).toNat))) := by ac_rfl
  have e3 : 2 * (Q * (c * 2 ^ 1074 * 2 ^ place.toNat)) * 2 ^ d = 2 * (Q * (c * (2 ^ 1074 * 2 ^ place.toNat * 2 ^ d))) := by
    generalize 2 ^ 1074 = z
    ac_rfl
  rw [e1, h, e2, e3, ← Nat.pow_add, ← Nat.pow_add, ← Nat.pow_add]
  congr 4
  omega
theorem nearest_high (s : Bool) (mag d : Nat) (place : Int) (h : 0 < mag) (hL : mag.log2 = 52 + d) (hp : -1074 ≤ place + d) :
    double.nearest s mag place = double.word s (min INF ((place + d + 1074).toNat * BB + (mag / 2 ^ d + upG mag (2 ^ d)))) ∧ 4503599627370496 ≤ mag / 2 ^ d ∧ mag / 2 ^ d < 9007199254740992 := by
  have hl : 2 ^ mag.log2 ≤ mag := Nat.log2_self_le (by omega)
  have hu : mag < 2 ^ (mag.log2 + 1) := Nat.lt_log2_self
  unfold Format.nearest
  rw [if_neg (by omega)]
  simp only [d_lp, d_bi, d_in, d_fb]
  rw [hL] at hl hu
  rw [hL]
  have hmax : max (place + ((52 + d : Nat) : Int) - ((52 : Nat) : Int)) (-1074) = place + d := by omega
  rw [hmax, show (place - (place + d)).toNat = 0 by omega, show (place + (d : Int) - place).toNat = d by omega, show (place + (d : Int) - (-1074)).toNat = (place + d + 1074).toNat by omega]
  have hc : Toward.even.cut s (mag <<< 0) d = mag / 2 ^ d + upG mag (2 ^ d) := by
    unfold Toward.cut
    rw [Nat.shiftLeft_zero, hL, show min d (52 + d + 2) = d by omega, Nat.one_shiftLeft]
    show mag / 2 ^ d + _ = _
    rw [up_is]
  rw [hc]
  refine ⟨?_, ?_, ?_⟩
  · rw [Nat.min_comm]; rfl
  · rw [Nat.le_div_iff_mul_le (Nat.two_pow_pos d)]
    rw [Nat.pow_add] at hl
    exact hl
  · rw [Nat.div_lt_iff_lt_mul (Nat.two_pow_pos d)]
    rw [show 52 + d + 1 = 53 + d by omega, Nat.pow_add] at hu
    exact hu
theorem nearest_low (s : Bool) (mag k : Nat) (place : Int) (h : 0 < mag) (hL : mag.log2 + k = 52) (hp : -1074 ≤ place - k) :
    double.nearest s mag place = double.word s (min INF ((place - k + 1074).toNat * BB + mag * 2 ^ k)) ∧ 4503599627370496 ≤ mag * 2 ^ k ∧ mag * 2 ^ k < 9007199254740992 := by
  have hl : 2 ^ mag.log2 ≤ mag := Nat.log2_self_le (by omega)
  have hu : mag < 2 ^ (mag.log2 + 1) := Nat.lt_log2_self
  have p1 : 2 ^ mag.log2 * 2 ^ k = 4503599627370496 := by rw [← Nat.pow_add, hL]
  have p2 : 2 ^ (mag.log2 + 1) * 2 ^ k = 9007199254740992 := by rw [← Nat.pow_add, show mag.log2 + 1 + k = 53 by omega]
  have b1 := Nat.mul_le_mul_right (2 ^ k) hl
  have b2 := (Nat.mul_lt_mul_right (Nat.two_pow_pos k)).2 hu
  rw [p1] at b1
  rw [p2] at b2
  refine ⟨?_, b1, b2⟩
  unfold Format.nearest
  rw [if_neg (by omega)]
  simp only [d_lp, d_bi, d_in, d_fb]
  have hmax : max (place + (mag.log2 : Int) - ((52 : Nat) : Int)) (-1074) = place - k := by omega
  rw [hmax, show (place - (place - k)).toNat = k by omega, show (place - (k : Int) - place).toNat = 0 by omega, show (place - (k : Int) - (-1074)).toNat = (place - k + 1074).toNat by omega]
  have hc : Toward.even.cut s (mag <<< k) 0 = mag * 2 ^ k := by
    unfold Toward.cut
    rw [show min 0 ((mag <<< k).log2 + 2) = 0 by omega]
    simp [Nat.shiftLeft_eq, Nat.mod_one]
  rw [hc, Nat.min_comm]
  rfl
theorem nearest_gen (s : Bool) (mag : Nat) (place : Int) (h : 0 < mag) (hp : -1022 ≤ place + mag.log2) (X Q : Nat) (hq : 0 < Q) (hv : ValP X Q mag 1 place) :
    ∃ r, double.nearest s mag place = double.word s r ∧ Near X Q r := by
  rcases Nat.le_total mag.log2 52 with hL | hL
  · obtain ⟨k, hk⟩ : ∃ k, mag.log2 + k = 52 := ⟨52 - mag.log2, by omega⟩
    obtain ⟨h1, h2, h3⟩ := nearest_low s mag k place h hk (by omega)
    refine ⟨_, h1, ?_⟩
    obtain ⟨E, hE⟩ : ∃ E, (place - k + 1074).toNat = E := ⟨_, rfl⟩
    rw [hE]
    have hv2 := valP_low X Q mag 1 (E + k) 0 place hv (by omega)
    have hn := near_gap (X := X) (Q := Q) (n := mag * 2 ^ k) (G := 1) (E := E) hq (by decide) (by rw [Nat.pow_zero, Nat.mul_one] at hv2; rw [hv2, Nat.pow_add, Nat.mul_comm (2 ^ E), Nat.mul_assoc mag]) (by rw [Nat.div_one]; exact h3) (.inr (by rw [Nat.div_one]; exact h2))
    have hu0 : upG (mag * 2 ^ k) 1 = 0 := by unfold upG; rw [Nat.mod_one, if_pos (by decide)]
    rwa [hu0, Nat.div_one, Nat.add_zero] at hn
  · obtain ⟨d, hd⟩ : ∃ d, mag.log2 = 52 + d := ⟨mag.log2 - 52, by omega⟩
    obtain ⟨h1, h2, h3⟩ := nearest_high s mag d place h hd (by omega)
    refine ⟨_, h1, ?_⟩
    obtain ⟨E, hE⟩ : ∃ E, (place + d + 1074).toNat = E := ⟨_, rfl⟩
    rw [hE]
    have hv2 := valP_low X Q mag 1 E d place hv (by omega)
    rw [Nat.mul_one] at hv2
    exact near_gap hq (Nat.two_pow_pos d) hv2 h3 (.inr h2)
theorem up_four (u : Nat) : u / 4 + upG u 4 = (u + 1 + u / 4 % 2) / 4 := by
  unfold upG
  split
  · omega
  · split <;> omega
theorem up_step (u M : Nat) (_hM : 0 < M) : u / (8 * M) + upG u (8 * M) = (2 * (u / 4) + (if u % 4 = 0 then 0 else 1)) / (4 * M) + upG (2 * (u / 4) + (if u % 4 = 0 then 0 else 1)) (4 * M) := by
  obtain ⟨q, hq⟩ : ∃ q, u / 4 = q := ⟨_, rfl⟩
  obtain ⟨r, hr⟩ : ∃ r, u % 4 = r := ⟨_, rfl⟩
  have hu : u = 4 * q + r := by omega
  have hr4 : r < 4 := by omega
  rw [hq, hr]
  obtain ⟨t, ht, ht2⟩ : ∃ t, (if r = 0 then 0 else 1) = t ∧ (t = 0 ∧ r = 0 ∨ t = 1 ∧ 0 < r) := by
    by_cases h : r = 0
    · exact ⟨0, if_pos h, .inl ⟨rfl, h⟩⟩
    · exact ⟨1, if_neg h, .inr ⟨rfl, by omega⟩⟩
  rw [ht]
  clear ht
  have e1 : u / (8 * M) = q / (2 * M) := by
    rw [show 8 * M = 4 * (2 * M) by omega, ← Nat.div_div_eq_div_mul, hq]
  have e2 : (2 * q + t) / (4 * M) = q / (2 * M) := by
    rw [show 4 * M = 2 * (2 * M) by omega, ← Nat.div_div_eq_div_mul, show (2 * q + t) / 2 = q by omega]
  have d0 := Nat.div_add_mod q (2 * M)
  have d1 := Nat.div_add_mod u (8 * M)
  have d2 := Nat.div_add_mod (2 * q + t) (4 * M)
  rw [e1] at d1
  rw [e2] at d2
  have m1 : 8 * M * (q / (2 * M)) = 4 * (2 * M * (q / (2 * M))) := by rw [← Nat.mul_assoc]; congr 1; omega
  have m2 : 4 * M * (q / (2 * M)) = 2 * (2 * M * (q / (2 * M))) := by rw [← Nat.mul_assoc]; congr 1; omega
  rw [e1, e2]
  congr 1
  unfold upG
  rw [e1, e2]
  generalize q / (2 * M) = A at *
  generalize 2 * M * A = B at *
  generalize u % (8 * M) = x at *
  generalize (2 * q + t) % (4 * M) = y at *
  generalize q % (2 * M) = z at *
  have hx : x = 4 * z + r := by omega
  have hy : y = 2 * z + t := by omega
  rw [hx, hy]
  by_cases h1 : z < M
  · rw [if_pos (by omega), if_pos (show 2 * (2 * z + t) < 4 * M by omega)]
  · rw [if_neg (by omega), if_neg (show ¬ 2 * (2 * z + t) < 4 * M by omega)]
    by_cases h2 : z = M ∧ r = 0
    · rw [if_pos (by omega), if_pos (show 2 * (2 * z + t) = 4 * M by omega)]
    · rw [if_neg (by omega), if_neg (show ¬ 2 * (2 * z + t) = 4 * M by omega)]
theorem unr_cut : ∀ (k n G : Nat), 0 < G → unr n G / 2 ^ (k + 2) + upG (unr n G) (2 ^ (k + 2)) = n / (G * 2 ^ k) + upG n (G * 2 ^ k)
  | 0, n, G, hG => by
    rw [Nat.pow_zero, Nat.mul_one, ← unr_round n G hG]
    exact up_four _
  | k + 1, n, G, hG => by
    have ih := unr_cut k n (2 * G) (by omega)
    rw [show G * 2 ^ (k + 1) = 2 * G * 2 ^ k from by rw [Nat.pow_succ]; ac_rfl, ← ih, ← unr_half n G hG, show 2 ^ (k + 1 + 2) = 8 * 2 ^ k from by rw [show k + 1 + 2 = 3 + k by omega, Nat.pow_add], show 2 ^ (k + 2) = 4 * 2 ^ k from by rw [show k + 2 = 2 + k by omega, Nat.pow_add]]
    exact up_step _ _ (Nat.two_pow_pos k)
theorem nearest_unr (s : Bool) (n G : Nat) (hG : 0 < G) (place : Int) (h : 2 ^ 54 ≤ unr n G) (hp : -1022 ≤ place + (unr n G).log2) (X Q : Nat) (hq : 0 < Q) (hv : ValP X Q (4 * n) G place) :
    ∃ r, double.nearest s (unr n G) place = double.word s r ∧ Near X Q r := by
  have hL : 54 ≤ (unr n G).log2 := (Nat.le_log2 (by omega)).2 h
  obtain ⟨k, hk⟩ : ∃ k, (unr n G).log2 = 52 + (k + 2) := ⟨(unr n G).log2 - 54, by omega⟩
  obtain ⟨h1, h2, h3⟩ := nearest_high s (unr n G) (k + 2) place (by omega) hk (by omega)
  refine ⟨_, h1, ?_⟩
  rw [unr_cut k n G hG]
  obtain ⟨E, hE⟩ : ∃ E, (place + ((k + 2 : Nat) : Int) + 1074).toNat = E := ⟨_, rfl⟩
  rw [hE]
  have hv2 := valP_low X Q (4 * n) G E (k + 2) place hv (by omega)
  have e0 : unr n G / 2 ^ (k + 2) = n / (G * 2 ^ k) := by
    rw [show 2 ^ (k + 2) = 4 * 2 ^ k from by rw [show k + 2 = 2 + k by omega, Nat.pow_add], ← Nat.div_div_eq_div_mul, unr_floor n G hG, Nat.div_div_eq_div_mul]
  rw [e0] at h2 h3
  refine near_gap hq (Nat.mul_pos hG (Nat.two_pow_pos k)) ?_ h3 (.inr h2)
  refine Nat.eq_of_mul_eq_mul_left (show 0 < 4 by decide) ?_
  have e1 : 4 * (X * (G * 2 ^ k)) = X * G * 2 ^ (k + 2) := by
    rw [show 2 ^ (k + 2) = 2 ^ k * 4 from by rw [Nat.pow_add]]; ac_rfl
  have e2 : 4 * (2 * (Q * (n * 2 ^ E))) = 2 * (Q * (4 * n * 2 ^ E)) := by ac_rfl
  rw [e1, e2, hv2]
theorem mul_whole (x y A B : Nat) (hx : x < 9218868437227405312) (hy : y < 9218868437227405312) (ha : V x = A * 2 ^ 1074) (hb : V y = B * 2 ^ 1074) (hA : 0 < A) (hB : 0 < B) :
    ∃ r, double.mul x y = some r ∧ Near (2 * (A * B * 2 ^ 1074)) 1 r := by
  have rx : ru x = x := Nat.mod_eq_of_lt (by omega)
  have ry : ru y = y := Nat.mod_eq_of_lt (by omega)
  have gx : ngB x = false := decide_eq_false (by omega)
  have gy : ngB y = false := decide_eq_false (by omega)
  obtain ⟨m, e, h1, h2, _⟩ := read_fin x (by omega) (by omega)
  obtain ⟨n, f, h3, h4, _⟩ := read_fin y (by omega) (by omega)
  rw [rx, ha] at h2
  rw [ry, hb] at h4
  have hmn : m * n * 2 ^ (e + f) = A * B * 2 ^ 2148 := by
    rw [show 2148 = 1074 + 1074 by decide, Nat.pow_add, Nat.pow_add]
    calc m * n * (2 ^ e * 2 ^ f) = (m * 2 ^ e) * (n * 2 ^ f) := by ac_rfl
      _ = _ := by rw [h2, h4]; generalize 2 ^ 1074 = z; ac_rfl
  have hpos : 0 < m * n := by
    refine Nat.pos_of_ne_zero fun h => ?_
    rw [h, Nat.zero_mul] at hmn
    have : 0 < A * B * 2 ^ 2148 := Nat.mul_pos (Nat.mul_pos hA hB) (Nat.two_pow_pos _)
    omega
  have hlog : 2148 ≤ (m * n).log2 + (e + f) := by
    have l1 : m * n < 2 ^ ((m * n).log2 + 1) := Nat.lt_log2_self
    have l2 : m * n * 2 ^ (e + f) < 2 ^ ((m * n).log2 + 1 + (e + f)) := by
      rw [Nat.pow_add 2 ((m * n).log2 + 1)]
      exact (Nat.mul_lt_mul_right (Nat.two_pow_pos _)).2 l1
    have l3 : 2 ^ 2148 ≤ A * B * 2 ^ 2148 := Nat.le_mul_of_pos_left _ (Nat.mul_pos hA hB)
    rw [hmn] at l2
    have := (Nat.pow_lt_pow_iff_right (show 1 < 2 by decide)).1 (Nat.lt_of_le_of_lt l3 l2)
    omega
  have hv : ValP (2 * (A * B * 2 ^ 1074)) 1 (m * n) 1 ((e : Int) - 1074 + ((f : Int) - 1074)) := by
    unfold ValP
    refine Nat.eq_of_mul_eq_mul_right (Nat.two_pow_pos (e + f)) ?_
    have e1 : 2 * (1 * (m * n * 2 ^ 1074 * 2 ^ ((e : Int) - 1074 + ((f : Int) - 1074)).toNat)) * 2 ^ (e + f) = 2 * (m * n * 2 ^ (e + f) * (2 ^ 1074 * 2 ^ ((e : Int) - 1074 + ((f : Int) - 1074)).toNat)) := by
      generalize 2 ^ 1074 = z
      rw [Nat.one_mul]; ac_rfl
    have e2 : 2 * (A * B * 2 ^ 1074) * 1 * 2 ^ (-((e : Int) - 1074 + ((f : Int) - 1074))).toNat * 2 ^ (e + f) = 2 * (A * B * (2 ^ 1074 * 2 ^ (-((e : Int) - 1074 + ((f : Int) - 1074))).toNat * 2 ^ (e + f))) := by
      generalize 2 ^ 1074 = z
      rw [Nat.mul_one]; ac_rfl
    rw [e1, e2, hmn, Nat.mul_assoc (A * B), ← Nat.pow_add, ← Nat.pow_add, ← Nat.pow_add, ← Nat.pow_add]
    congr 3
    omega
  obtain ⟨r, k1, k2⟩ := nearest_gen (false ^^ false) (m * n) ((e : Int) - 1074 + ((f : Int) - 1074)) hpos (by omega) (2 * (A * B * 2 ^ 1074)) 1 (by decide) hv
  refine ⟨r, ?_, k2⟩
  unfold Format.mul
  rw [h1, h3, gx, gy]
  show some (double.nearest (false ^^ false) (m * n) ((e : Int) - 1074 + ((f : Int) - 1074))) = _
  rw [k1]
  rfl
theorem div_whole (x y A B : Nat) (hx : x < 9218868437227405312) (hy : y < 9218868437227405312) (ha : V x = A * 2 ^ 1074) (hb : V y = B * 2 ^ 1074) (hA : 0 < A) (hB : 0 < B) (hB2 : B < 2 ^ 500) :
    ∃ r, double.div x y = some r ∧ Near (2 * (A * 2 ^ 1074)) B r := by
  have rx : ru x = x := Nat.mod_eq_of_lt (by omega)
  have ry : ru y = y := Nat.mod_eq_of_lt (by omega)
  have gx : ngB x = false := decide_eq_false (by omega)
  have gy : ngB y = false := decide_eq_false (by omega)
  obtain ⟨m, e, h1, h2, _, hm53, _⟩ := read_fin x (by omega) (by omega)
  obtain ⟨n, f, h3, h4, _, hn53, _⟩ := read_fin y (by omega) (by omega)
  rw [rx, ha] at h2
  rw [ry, hb] at h4
  have hm0 : 0 < m := by
    refine Nat.pos_of_ne_zero fun h => ?_
    rw [h, Nat.zero_mul] at h2
    have : 0 < A * 2 ^ 1074 := Nat.mul_pos hA (Nat.two_pow_pos _)
    omega
  have hn0 : 0 < n := by
    refine Nat.pos_of_ne_zero fun h => ?_
    rw [h, Nat.zero_mul] at h4
    have : 0 < B * 2 ^ 1074 := Nat.mul_pos hB (Nat.two_pow_pos _)
    omega
  have lm1 : 2 ^ m.log2 ≤ m := Nat.log2_self_le (by omega)
  have lm2 : m < 2 ^ (m.log2 + 1) := Nat.lt_log2_self
  have ln1 : 2 ^ n.log2 ≤ n := Nat.log2_self_le (by omega)
  have ln2 : n < 2 ^ (n.log2 + 1) := Nat.lt_log2_self
  have lm : m.log2 ≤ 52 := by
    have := (Nat.pow_lt_pow_iff_right (show 1 < 2 by decide)).1 (Nat.lt_of_le_of_lt lm1 (show m < 2 ^ 53 from hm53))
    omega
  obtain ⟨more, hmore⟩ : ∃ k, 54 + n.log2 - m.log2 = k := ⟨_, rfl⟩
  have hml : more + m.log2 = 54 + n.log2 := by omega
  have hu : 2 * (m * 2 ^ more / n) + (m * 2 ^ more % n != 0).toNat = unr (m * 2 ^ more) (2 * n) := by
    unfold unr
    rw [Nat.mul_div_mul_left _ _ (by decide), Nat.mul_mod_mul_left]
    congr 1
    by_cases h0 : m * 2 ^ more % n = 0
    · rw [h0]; rfl
    · rw [if_neg (by omega), bne_iff_ne.2 h0]; rfl
  have hbig : 2 ^ 53 ≤ m * 2 ^ more / n := by
    rw [Nat.le_div_iff_mul_le hn0]
    have k1 : 2 ^ (54 + n.log2) ≤ m * 2 ^ more := by
      rw [← hml, Nat.add_comm, Nat.pow_add]
      exact Nat.mul_le_mul_right _ lm1
    have k2 : 2 ^ 53 * n ≤ 2 ^ 53 * 2 ^ (n.log2 + 1) := Nat.mul_le_mul_left _ (Nat.le_of_lt ln2)
    rw [← Nat.pow_add, show 53 + (n.log2 + 1) = 54 + n.log2 by omega] at k2
    omega
  have hu54 : 2 ^ 54 ≤ unr (m * 2 ^ more) (2 * n) := by rw [← hu]; omega
  have hL : 54 ≤ (unr (m * 2 ^ more) (2 * n)).log2 := (Nat.le_log2 (by omega)).2 hu54
  have hsz : 574 + e + m.log2 ≥ n.log2 + f := by
    have k1 : n * 2 ^ f < 2 ^ (500 + 1074) := by
      rw [h4, Nat.pow_add]
      exact (Nat.mul_lt_mul_right (Nat.two_pow_pos _)).2 hB2
    have k2 : 2 ^ (n.log2 + f) ≤ n * 2 ^ f := by rw [Nat.pow_add]; exact Nat.mul_le_mul_right _ ln1
    have k3 := (Nat.pow_lt_pow_iff_right (show 1 < 2 by decide)).1 (Nat.lt_of_le_of_lt k2 k1)
    have k4 : 2 ^ 1074 ≤ m * 2 ^ e := by rw [h2]; exact Nat.le_mul_of_pos_left _ hA
    have k5 : m * 2 ^ e < 2 ^ (m.log2 + 1 + e) := by rw [Nat.pow_add]; exact (Nat.mul_lt_mul_right (Nat.two_pow_pos _)).2 lm2
    have k6 := (Nat.pow_lt_pow_iff_right (show 1 < 2 by decide)).1 (Nat.lt_of_le_of_lt k4 k5)
    omega
  have hv : ValP (2 * (A * 2 ^ 1074)) B (4 * (m * 2 ^ more)) (2 * n) ((e : Int) - 1074 - ((f : Int) - 1074) - (more : Int) - 1) := by
    unfold ValP
    obtain ⟨a, ha2⟩ : ∃ a, (-((e : Int) - 1074 - ((f : Int) - 1074) - (more : Int) - 1)).toNat = a := ⟨_, rfl⟩
    obtain ⟨c, hc⟩ : ∃ c, ((e : Int) - 1074 - ((f : Int) - 1074) - (more : Int) - 1).toNat = c := ⟨_, rfl⟩
    rw [ha2, hc]
    have hac : a + e = c + f + more + 1 := by omega
    refine Nat.eq_of_mul_eq_mul_right (Nat.two_pow_pos (e + f)) ?_
    have e1 : 2 * (A * 2 ^ 1074) * (2 * n) * 2 ^ a * 2 ^ (e + f) = 4 * (A * 2 ^ 1074) * (n * 2 ^ f) * (2 ^ a * 2 ^ e) := by
      generalize 2 ^ 1074 = z
      rw [Nat.pow_add, show (4 : Nat) = 2 * 2 from rfl]; ac_rfl
    have e2 : 2 * (B * (4 * (m * 2 ^ more) * 2 ^ 1074 * 2 ^ c)) * 2 ^ (e + f) = 4 * (m * 2 ^ e) * (B * 2 ^ 1074) * (2 ^ c * 2 ^ f * 2 ^ more * 2) := by
      generalize 2 ^ 1074 = z
      rw [Nat.pow_add]; ac_rfl
    rw [e1, e2, h2, h4, ← Nat.pow_add, hac, Nat.pow_add, Nat.pow_add, Nat.pow_add]
  obtain ⟨r, k1, k2⟩ := nearest_unr (false ^^ false) (m * 2 ^ more) (2 * n) (by omega) ((e : Int) - 1074 - ((f : Int) - 1074) - (more : Int) - 1) hu54 (by omega) (2 * (A * 2 ^ 1074)) B hB hv
  refine ⟨r, ?_, k2⟩
  unfold Format.div
  rw [h1, h3, gx, gy]
  unfold Datum.quotient
  simp only [d_fb]
  rw [if_neg (by omega), hmore, Nat.shiftLeft_eq, hu]
  show some (double.nearest (false ^^ false) _ _) = _
  rw [k1]
  rfl
end Go.Proofs.YtckaoeloofbklaaGreatDoor
namespace Go.Proofs.YtckaoeloofbklaaGreatDoor
open Go Ieee
set_option exponentiation.threshold 5000
theorem V_INF : V INF = 2 ^ 2098 := by decide +kernel
theorem V_max : V (INF - 1) < 2 ^ 2098 := by rw [← V_INF]; exact V_mono (by decide)
theorem near_inf (X Q : Nat) (hq : 0 < Q) (h : Q * 2 ^ 2099 ≤ X) : Near X Q INF := by
  refine ⟨hq, Nat.le_refl _, .inr ⟨?_, fun h => absurd h (by decide)⟩, .inl rfl⟩
  have h1 : V (INF - 1) + V INF ≤ 2 ^ 2099 := by
    have := V_max
    rw [V_INF, show 2 ^ 2099 = 2 ^ 2098 + 2 ^ 2098 by rw [show 2099 = 2098 + 1 by omega, Nat.pow_succ, Nat.mul_two]]
    omega
  exact Nat.le_trans (Nat.mul_le_mul_left Q h1) h
theorem near_zero (X Q : Nat) (hq : 0 < Q) (h : X ≤ Q) : Near X Q 0 := by
  refine ⟨hq, by decide, .inl rfl, .inr ⟨?_, fun h => by omega⟩⟩
  have v1 : V (0 + 1) = 1 := by decide
  rw [v1, V_zero]
  omega
theorem ten_309 : 2 ^ 1024 ≤ 10 ^ 309 := by decide +kernel
theorem ten_324 : 2 ^ 1075 ≤ 10 ^ 324 := by decide +kernel
theorem far_inf (d : Nat) (p : Int) (hd : 1 ≤ d) (hp : 309 ≤ p) : Near (dX d p) (dQ p) INF := by
  refine near_inf _ _ (dQ_pos p) ?_
  unfold dX dQ
  rw [show (-p).toNat = 0 by omega, Nat.pow_zero, Nat.one_mul, show 2 ^ 2099 = 2 * (2 ^ 1024 * 2 ^ 1074) by rw [← Nat.pow_add, ← Nat.pow_succ']]
  refine Nat.mul_le_mul_left 2 (Nat.mul_le_mul_right _ ?_)
  refine Nat.le_trans ten_309 (Nat.le_trans (Nat.pow_le_pow_right (by decide) (show 309 ≤ p.toNat by omega)) ?_)
  exact Nat.le_mul_of_pos_left _ hd
theorem far_zero (d n : Nat) (p : Int) (hd : d < 10 ^ n) (hp : n + p ≤ -324) : Near (dX d p) (dQ p) 0 := by
  refine near_zero _ _ (dQ_pos p) ?_
  unfold dX dQ
  rw [show p.toNat = 0 by omega, Nat.pow_zero, Nat.mul_one]
  have h1 : 2 * (d * 2 ^ 1074) ≤ 10 ^ n * 2 ^ 1075 := by
    rw [show 2 ^ 1075 = 2 * 2 ^ 1074 by rw [← Nat.pow_succ'], Nat.mul_left_comm 2]
    exact Nat.mul_le_mul_right _ (Nat.le_of_lt hd)
  refine Nat.le_trans h1 (Nat.le_trans (Nat.mul_le_mul_left _ ten_324) ?_)
  rw [← Nat.pow_add]
  exact Nat.pow_le_pow_right (by decide) (by omega)
theorem zero_near (p : Int) : Near (dX 0 p) (dQ p) 0 := by
  refine near_zero _ _ (dQ_pos p) ?_
  unfold dX; rw [Nat.zero_mul, Nat.zero_mul]; exact Nat.zero_le _
def p10L : List Nat := [4607182418800017408, 4621819117588971520, 4636737291354636288, 4652007308841189376, 4666723172467343360, 4681608360884174848, 4696837146684686336, 4711630319722168320, 4726483295884279808, 4741671816366391296, 4756540486875873280, 4771362005757984768, 4786511204640096256, 4801453603149578240, 4816244402031689728, 4831355200913801216, 4846369599423283200, 4861130398305394688, 4876203697187506176, 4891288408196988160, 4906019910204099648, 4921056587992461136, 4936209963552724370]
def p10N (k : Nat) : Nat := p10L.getD k 0
theorem p10_all : ∀ k : Fin 23, V (p10N k.val) = 10 ^ k.val * 2 ^ 1074 ∧ p10N k.val < 9218868437227405312 := by decide +kernel
theorem p10_is (k : Nat) (h : k < 23) : V (p10N k) = 10 ^ k * 2 ^ 1074 ∧ p10N k < 9218868437227405312 := p10_all ⟨k, h⟩
theorem near_whole (A r : Nat) (h : A < 9007199254740992) (hn : Near (2 * (A * 2 ^ 1074)) 1 r) : V r = A * 2 ^ 1074 ∧ r < 9218868437227405312 := by
  obtain ⟨r', h1, h2⟩ := whole_rung A h
  have h3 := near_self r' h1
  rw [h2] at h3
  obtain rfl := near_unique hn h3
  refine ⟨h2, ?_⟩
  rcases Nat.lt_or_ge r INF with h4 | h4
  · exact h4
  · have h5 := V_le h4
    rw [V_INF, h2] at h5
    have h6 : A * 2 ^ 1074 < 2 ^ 53 * 2 ^ 1074 := (Nat.mul_lt_mul_right (Nat.two_pow_pos _)).2 h
    rw [← Nat.pow_add] at h6
    have h7 : (2 : Nat) ^ (53 + 1074) ≤ 2 ^ 2098 := Nat.pow_le_pow_right (by decide) (by decide)
    omega
theorem word_f (r : Nat) : double.word false r = r := rfl
theorem conv_nat (m : Nat) (h : m < 9007199254740992) : V (double.nearest false m 0) = m * 2 ^ 1074 ∧ double.nearest false m 0 < 9218868437227405312 := by
  obtain ⟨r, h1, h2⟩ := nearest_is false m
  rw [h1, word_f]
  exact near_whole m r h h2
theorem q15_next : V (4831355200913801216 + 1) ≤ (10 ^ 15 + 1) * 2 ^ 1074 := by decide +kernel
theorem q15_is : V 4831355200913801216 = 10 ^ 15 * 2 ^ 1074 := by decide +kernel
theorem lin_abs {x y a b c : Nat} (h2 : 2 * c ≤ 1 * (x + y)) (v1 : x ≤ b) (v2 : y ≤ a) (h4 : a ≤ c) (h5 : b < a) : False := by omega
theorem near_above (A r : Nat) (h : 10 ^ 15 < A) (hn : Near (2 * (A * 2 ^ 1074)) 1 r) : 4831355200913801216 < r := by
  rcases Nat.lt_or_ge 4831355200913801216 r with h1 | h1
  · exact h1
  · exfalso
    rcases hn.hi with h2 | ⟨h2, _⟩
    · unfold INF at h2; omega
    · have v1 := V_le h1
      have v2 := V_le (Nat.add_le_add_right h1 1)
      have v3 := q15_next
      rw [q15_is] at v1
      have h4 : (10 ^ 15 + 1) * 2 ^ 1074 ≤ A * 2 ^ 1074 := Nat.mul_le_mul_right _ h
      have h5 : 10 ^ 15 * 2 ^ 1074 < (10 ^ 15 + 1) * 2 ^ 1074 := (Nat.mul_lt_mul_right (Nat.two_pow_pos _)).2 (by omega)
      exact lin_abs h2 v1 (Nat.le_trans v2 v3) h4 h5
theorem near_within (A r : Nat) (h : A ≤ 10 ^ 15) (hn : Near (2 * (A * 2 ^ 1074)) 1 r) : r ≤ 4831355200913801216 := by
  obtain ⟨h1, h2⟩ := near_whole A r (by omega) hn
  rcases Nat.lt_or_ge 4831355200913801216 r with h3 | h3
  · have h4 := V_mono h3
    rw [q15_is, h1] at h4
    exact absurd (Nat.mul_le_mul_right (2 ^ 1074) h) (Nat.not_le.2 h4)
  · exact h3
theorem ord_gt15 (r : Nat) (h : r ≤ INF) : (FloatKind.f64.format.order r 4831355200913801216 == some Ordering.gt) = decide (4831355200913801216 < r) := by
  show (double.order r 4831355200913801216 == _) = _
  have rr : ru r = r := Nat.mod_eq_of_lt (by unfold INF at h; omega)
  rw [order_any r _ (by unfold INF at h; omega) (by omega) (by rw [rr]; exact h) (by decide), cmp_gt]
  have s1 : sv r = (V r : Int) := by unfold sv; rw [if_neg (by unfold INF at h; omega), rr]
  have s2 : sv 4831355200913801216 = (V 4831355200913801216 : Int) := by unfold sv; rw [if_neg (by omega)]; rfl
  rw [s1, s2, Bool.eq_iff_iff, decide_eq_true_eq, decide_eq_true_eq]
  constructor
  · intro h1
    rcases Nat.lt_or_ge 4831355200913801216 r with h2 | h2
    · exact h2
    · have := V_le h2; omega
  · intro h1
    have := V_mono h1; omega
theorem ord_lt15 (r : Nat) (h : r ≤ INF) : (FloatKind.f64.format.order r 14054727237768577024 == some Ordering.lt) = false := by
  show (double.order r 14054727237768577024 == _) = _
  have rr : ru r = r := Nat.mod_eq_of_lt (by unfold INF at h; omega)
  rw [order_any r _ (by unfold INF at h; omega) (by omega) (by rw [rr]; exact h) (by decide), cmp_lt]
  have s1 : sv r = (V r : Int) := by unfold sv; rw [if_neg (by unfold INF at h; omega), rr]
  have s2 : sv 14054727237768577024 = -(V (ru 14054727237768577024) : Int) := by unfold sv; rw [if_pos (by omega)]
  rw [s1, s2, decide_eq_false_iff_not]
  omega
end Go.Proofs.YtckaoeloofbklaaGreatDoor
namespace Go.Proofs.YtckaoeloofbklaaGreatDoor
open Go Go.RowKit
set_option exponentiation.threshold 3000
theorem me_val (a : Nat) (h1 : 0 < a) (h2 : a < 9218868437227405312) :
    V a * 2 ^ 64 = MN a * 2 ^ (EN a + 1138).toNat ∧ V (a + 1) * 2 ^ 64 = (MN a + 2 ^ zN (EN a)) * 2 ^ (EN a + 1138).toNat ∧
    (MN a ≠ 9223372036854775808 → 2 ^ zN (EN a) ≤ MN a ∧ V (a - 1) * 2 ^ 64 = (MN a - 2 ^ zN (EN a)) * 2 ^ (EN a + 1138).toNat) ∧ MN a / 2 ^ zN (EN a) % 2 = a % 2 := by
  by_cases hs : a < 4503599627370496
  · have hm : mtN a = a := by unfold mtN; rw [if_pos hs]
    obtain ⟨hL1, _, _⟩ := bitLen_bounds a h1 (by omega)
    have hL := bitLen_le a 52 h1 (by omega) hs
    obtain ⟨s, hsd, hs64⟩ : ∃ s, 64 - Lib.bitLen a = s ∧ s ≤ 63 := ⟨_, rfl, by omega⟩
    have hs12 : 12 ≤ s := by omega
    have hE : EN a = -1074 - (s : Int) := by unfold EN sN; rw [if_pos hs, hm, hsd]; omega
    have hz : zN (EN a) = s := by unfold zN; rw [hE, if_neg (by omega)]; omega
    have hM : MN a = a * 2 ^ s := by unfold MN sN; rw [hm, hsd]
    have hF : (EN a + 1138).toNat = 64 - s := by rw [hE]; omega
    have hp : 2 ^ s * 2 ^ (64 - s) = 2 ^ 64 := by rw [← Nat.pow_add, show s + (64 - s) = 64 by omega]
    have v0 : V a = a := by have := V_at 0 a (by unfold BB; omega) (.inl rfl); simpa using this
    have v1 : V (a + 1) = a + 1 := by have := V_at 0 (a + 1) (by unfold BB; omega) (.inl rfl); simpa using this
    have v2 : V (a - 1) = a - 1 := by have := V_at 0 (a - 1) (by unfold BB; omega) (.inl rfl); simpa using this
    have key : ∀ k, k * 2 ^ s * 2 ^ (64 - s) = k * 2 ^ 64 := fun k => by rw [Nat.mul_assoc, hp]
    rw [hz, hM, hF]
    refine ⟨by rw [v0, key], by rw [v1, show a * 2 ^ s + 2 ^ s = (a + 1) * 2 ^ s from by rw [Nat.add_mul, Nat.one_mul], key], fun _ => ⟨Nat.le_mul_of_pos_left _ h1, ?_⟩, by rw [Nat.mul_div_cancel _ (Nat.two_pow_pos s)]⟩
    rw [v2, show a * 2 ^ s - 2 ^ s = (a - 1) * 2 ^ s from by rw [Nat.sub_mul, Nat.one_mul], key]
  · have hm : mtN a = a % 4503599627370496 + 4503599627370496 := by unfold mtN; rw [if_neg hs]
    have hr := Nat.mod_lt a (show 0 < 4503599627370496 by decide)
    have hdm := Nat.div_add_mod a 4503599627370496
    have hL1 := bitLen_le (a % 4503599627370496 + 4503599627370496) 53 (by omega) (by omega) (by omega)
    have hL2 := bitLen_gt (a % 4503599627370496 + 4503599627370496) 52 (by omega) (by omega) (by omega)
    have hL : Lib.bitLen (a % 4503599627370496 + 4503599627370496) = 53 := by omega
    have hM : MN a = (a % 4503599627370496 + 4503599627370496) * 2 ^ 11 := by unfold MN sN; rw [hm, hL]
    have hE : EN a = ((a / 4503599627370496 : Nat) : Int) - 1086 := by unfold EN sN; rw [if_neg hs, hm, hL]; omega
    have hz : zN (EN a) = 11 := by unfold zN; rw [hE, if_pos (by omega)]
    obtain ⟨E, hEd⟩ : ∃ E, a / 4503599627370496 = E + 1 := ⟨a / 4503599627370496 - 1, by omega⟩
    have hF : (EN a + 1138).toNat = E + 53 := by rw [hE, hEd]; omega
    generalize a % 4503599627370496 = f at *
    have ha : a = E * BB + (f + BB) := by
      have key : ∀ B : Nat, B * (E + 1) + f = a → a = E * B + (f + B) := fun B h => by rw [← h, Nat.mul_add, Nat.mul_one, Nat.mul_comm]; omega
      rw [hEd] at hdm
      exact key _ hdm
    have hpar : (f + 4503599627370496) % 2 = a % 2 := by
      rw [hEd] at hdm
      clear ha hF hz hE hM hL hL1 hL2 hm
      omega
    have hfb : f < BB := hr
    have b0 : f + BB ≤ 2 * BB := by rw [Nat.two_mul]; exact Nat.add_le_add_right (Nat.le_of_lt hfb) _
    have b1 : f + BB + 1 ≤ 2 * BB := by rw [Nat.two_mul]; exact Nat.add_lt_add_right hfb BB
    have c0 : BB ≤ f + BB := Nat.le_add_left _ _
    have v0 : V a = (f + BB) * 2 ^ E := by rw [ha]; exact V_at E (f + BB) b0 (.inr c0)
    have v1 : V (a + 1) = (f + BB + 1) * 2 ^ E := by rw [ha, Nat.add_assoc (E * BB)]; exact V_at E (f + BB + 1) b1 (.inr (Nat.le_succ_of_le c0))
    have key : ∀ k, k * 2 ^ 11 * 2 ^ (E + 53) = k * 2 ^ E * 2 ^ 64 := fun k => by
      rw [Nat.mul_assoc, Nat.mul_assoc, ← Nat.pow_add, ← Nat.pow_add, show 11 + (E + 53) = E + 64 from by rw [Nat.add_comm, Nat.add_assoc]]
    have hM' : MN a = (f + BB) * 2 ^ 11 := hM
    rw [hz, hF]
    refine ⟨by rw [hM', v0, key], by rw [hM', v1, ← key, Nat.succ_mul (f + BB)], fun hne => ?_, ?_⟩
    · have hf0 : 0 < f := by
        rcases Nat.eq_zero_or_pos f with h | h
        · exact absurd (by rw [hM, h]) hne
        · exact h
      have hfp : 1 ≤ f + BB := Nat.le_trans hf0 (Nat.le_add_right _ _)
      have v2 : V (a - 1) = (f + BB - 1) * 2 ^ E := by
        rw [ha, Nat.add_sub_assoc hfp]
        exact V_at E (f + BB - 1) (Nat.le_trans (Nat.sub_le _ _) b0) (.inr (Nat.le_sub_one_of_lt (Nat.lt_add_of_pos_left hf0)))
      rw [hM']
      refine ⟨Nat.le_mul_of_pos_left _ hfp, ?_⟩
      rw [v2, ← key, Nat.sub_mul (f + BB), Nat.one_mul]
    · rw [hM, Nat.mul_div_cancel _ (by decide)]
      exact hpar
def GN (p e : Int) : Nat := 4 * (DN p * (2 ^ (ssN p e).toNat * 340282366920938463463374607431768211456))
theorem GN_pos (p e : Int) : 0 < GN p e := Nat.mul_pos (by decide) (Nat.mul_pos (DN_pos p) (Nat.mul_pos (Nat.two_pow_pos _) (by decide)))
theorem AN_pos (p : Int) : 0 < AN p := Nat.mul_pos (Nat.pow_pos (by decide)) (Nat.two_pow_pos _)
theorem sc_eq (p e : Int) (hs : 5 ≤ ssN p e) (he : -1138 ≤ e) (x d : Nat) :
    dQ (-p) * (x * 2 ^ (e + 1138).toNat) * 2 ^ (127 - lpN p).toNat = x * AN p * 2 ^ (e + 1138).toNat ∧ d * dQ p * 2 ^ 1138 * 2 ^ (127 - lpN p).toNat = d * GN p e * 2 ^ (e + 1138).toNat := by
  constructor
  · unfold dQ AN
    rw [Int.neg_neg]
    ac_rfl
  · have hW : (340282366920938463463374607431768211456 : Nat) = 2 ^ 128 := by decide
    have e1 : 2 ^ 1138 * 2 ^ (127 - lpN p).toNat = 4 * (2 ^ (lpN p - 127).toNat * (2 ^ (ssN p e).toNat * 340282366920938463463374607431768211456)) * 2 ^ (e + 1138).toNat := by
      rw [hW, show (4 : Nat) = 2 ^ 2 from rfl, ← Nat.pow_add, ← Nat.pow_add, ← Nat.pow_add, ← Nat.pow_add, ← Nat.pow_add]
      congr 1
      unfold ssN at *
      omega
    unfold GN dQ DN
    rw [Nat.mul_assoc (d * 10 ^ (-p).toNat), e1]
    ac_rfl
theorem sc_le (p e : Int) (hs : 5 ≤ ssN p e) (he : -1138 ≤ e) (x d : Nat) : dQ (-p) * (x * 2 ^ (e + 1138).toNat) ≤ d * dQ p * 2 ^ 1138 ↔ x * AN p ≤ d * GN p e := by
  obtain ⟨e1, e2⟩ := sc_eq p e hs he x d
  rw [← Nat.mul_le_mul_right_iff (Nat.two_pow_pos (127 - lpN p).toNat), e1, e2, Nat.mul_le_mul_right_iff (Nat.two_pow_pos _)]
theorem sc_ge (p e : Int) (hs : 5 ≤ ssN p e) (he : -1138 ≤ e) (x d : Nat) : d * dQ p * 2 ^ 1138 ≤ dQ (-p) * (x * 2 ^ (e + 1138).toNat) ↔ d * GN p e ≤ x * AN p := by
  obtain ⟨e1, e2⟩ := sc_eq p e hs he x d
  rw [← Nat.mul_le_mul_right_iff (Nat.two_pow_pos (127 - lpN p).toNat), e1, e2, Nat.mul_le_mul_right_iff (Nat.two_pow_pos _)]
theorem us_exact (p e : Int) (h1 : -348 ≤ p) (h2 : p ≤ 347) (hs : 5 ≤ ssN p e) (z : Nat) (hz : z < 2 ^ 55) (hlo : 2 ^ 54 - 4 ≤ z) : usN p e (512 * z) = unr (512 * z * AN p) (GN p e) := by
  obtain ⟨hhi, hlo', hrow⟩ := row_is p h1 h2
  obtain ⟨j, hj, hj2⟩ : ∃ j, 2 ^ (ssN p e).toNat = 2 ^ 5 * j ∧ 0 < j := ⟨2 ^ ((ssN p e).toNat - 5), by rw [← Nat.pow_add, show 5 + ((ssN p e).toNat - 5) = (ssN p e).toNat by omega], Nat.two_pow_pos _⟩
  unfold usN GN
  refine uscN_eq (by omega) hlo' hrow (pmN_lo p) (pmN_hi p) (DN_pos p) (by rw [hj]; omega) ?_
  rw [hj]
  exact clear_print p h1 h2 j hj2 z hz hlo
end Go.Proofs.YtckaoeloofbklaaGreatDoor
namespace Go.Proofs.YtckaoeloofbklaaGreatDoor
open Go Go.RowKit
set_option exponentiation.threshold 3000
theorem dX_scale (d k : Nat) (q : Int) : dX (d * 10 ^ k) q * dQ (q + k) = dX d (q + k) * dQ q := by
  unfold dX dQ
  have h : 10 ^ k * 10 ^ q.toNat * 10 ^ (-(q + k)).toNat = 10 ^ (q + k).toNat * 10 ^ (-q).toNat := by
    rw [← Nat.pow_add, ← Nat.pow_add, ← Nat.pow_add]
    congr 1
    omega
  generalize 10 ^ k = t1 at *
  generalize 10 ^ q.toNat = t2 at *
  generalize 10 ^ (-(q + k)).toNat = t3 at *
  generalize 10 ^ (q + k).toNat = t4 at *
  generalize 10 ^ (-q).toNat = t5 at *
  generalize 2 ^ 1074 = W
  have e1 : 2 * (d * t1 * t2 * W) * t3 = 2 * (d * W) * (t1 * t2 * t3) := by ac_rfl
  have e2 : 2 * (d * t4 * W) * t5 = 2 * (d * W) * (t4 * t5) := by ac_rfl
  rw [e1, e2, h]
theorem near_up (d k a : Nat) (q : Int) (h : Near (dX (d * 10 ^ k) q) (dQ q) a) : Near (dX d (q + k)) (dQ (q + k)) a := near_ratio h (dQ_pos _) (dX_scale d k q)
theorem near_down (d k a : Nat) (q : Int) (h : Near (dX d (q + k)) (dQ (q + k)) a) : Near (dX (d * 10 ^ k) q) (dQ q) a := near_ratio h (dQ_pos _) (dX_scale d k q).symm
theorem cmp_of (p e : Int) (hs : 5 ≤ ssN p e) (he : -1138 ≤ e) (S x d : Nat) (hS : S * 2 ^ 63 = x * 2 ^ (e + 1138).toNat) :
    (dQ (-p) * S ≤ dX d (-p) ↔ x * AN p ≤ d * GN p e) ∧ (dX d (-p) ≤ dQ (-p) * S ↔ d * GN p e ≤ x * AN p) := by
  have e1 : dX d (-p) * 2 ^ 63 = d * dQ p * 2 ^ 1138 := by
    show 2 * (d * dQ p * 2 ^ 1074) * 2 ^ 63 = _
    rw [show (2 : Nat) ^ 1138 = 2 * 2 ^ 1074 * 2 ^ 63 from by decide +kernel]
    ac_rfl
  have e2 : dQ (-p) * S * 2 ^ 63 = dQ (-p) * (x * 2 ^ (e + 1138).toNat) := by rw [Nat.mul_assoc, hS]
  have hp : 0 < 2 ^ 63 := by decide
  constructor
  · rw [← Nat.mul_le_mul_right_iff hp, e1, e2, sc_le p e hs he]
  · rw [← Nat.mul_le_mul_right_iff hp, e1, e2, sc_ge p e hs he]
theorem in_iff (a : Nat) (h1 : 0 < a) (h2 : a < 9218868437227405312) (hm : MN a ≠ 9223372036854775808) (p : Int) (hs : 5 ≤ ssN p (EN a)) (d : Nat) :
    Near (dX d (-p)) (dQ (-p)) a ↔
      ((MN a - 2 ^ (zN (EN a) - 1)) * AN p ≤ d * GN p (EN a) ∧ (a % 2 = 1 → (MN a - 2 ^ (zN (EN a) - 1)) * AN p < d * GN p (EN a))) ∧
      (d * GN p (EN a) ≤ (MN a + 2 ^ (zN (EN a) - 1)) * AN p ∧ (a % 2 = 1 → d * GN p (EN a) < (MN a + 2 ^ (zN (EN a) - 1)) * AN p)) := by
  obtain ⟨m1, m2, m3, m4, m5⟩ := me_ok a h1 h2
  obtain ⟨v0, v1, v2, _⟩ := me_val a h1 h2
  obtain ⟨v3, v4⟩ := v2 hm
  obtain ⟨hz1, hz2⟩ := zN_ge (EN a) m4
  have e1 : 2 ^ zN (EN a) = 2 * 2 ^ (zN (EN a) - 1) := by rw [← Nat.pow_succ', show (zN (EN a) - 1).succ = zN (EN a) from by omega]
  rw [e1] at v1 v3 v4
  have he : -1138 ≤ EN a := by omega
  generalize EN a = e at *
  generalize MN a = m at *
  generalize 2 ^ (zN e - 1) = h at *
  have s1 : (V a + V (a + 1)) * 2 ^ 63 = (m + h) * 2 ^ (e + 1138).toNat := by
    have : (V a + V (a + 1)) * 2 ^ 63 * 2 = (m + h) * 2 ^ (e + 1138).toNat * 2 := by
      rw [Nat.mul_assoc, show 2 ^ 63 * 2 = 2 ^ 64 from by decide, Nat.add_mul, v0, v1, ← Nat.add_mul, Nat.mul_right_comm]
      congr 1; omega
    exact Nat.eq_of_mul_eq_mul_right (by decide) this
  have s0 : (V (a - 1) + V a) * 2 ^ 63 = (m - h) * 2 ^ (e + 1138).toNat := by
    have : (V (a - 1) + V a) * 2 ^ 63 * 2 = (m - h) * 2 ^ (e + 1138).toNat * 2 := by
      rw [Nat.mul_assoc, show 2 ^ 63 * 2 = 2 ^ 64 from by decide, Nat.add_mul, v0, v4, ← Nat.add_mul, Nat.mul_right_comm]
      congr 1; omega
    exact Nat.eq_of_mul_eq_mul_right (by decide) this
  obtain ⟨c1, c2⟩ := cmp_of p e hs he _ _ d s0
  obtain ⟨c3, c4⟩ := cmp_of p e hs he _ _ d s1
  constructor
  · intro hn
    have hlo : _ := hn.lo.resolve_left (by omega)
    have hhi : _ := hn.hi.resolve_left (by unfold INF; omega)
    exact ⟨⟨c1.1 hlo.1, fun ho => Nat.lt_of_not_le fun hh => Nat.not_le.2 (hlo.2 ho) (c2.2 hh)⟩, ⟨c4.1 hhi.1, fun ho => Nat.lt_of_not_le fun hh => Nat.not_le.2 (hhi.2 ho) (c3.2 hh)⟩⟩
  · rintro ⟨⟨l1, l2⟩, ⟨u1, u2⟩⟩
    exact ⟨dQ_pos _, by unfold INF; omega, .inr ⟨c1.2 l1, fun ho => Nat.lt_of_not_le fun hh => Nat.not_le.2 (l2 ho) (c2.1 hh)⟩, .inr ⟨c4.2 u1, fun ho => Nat.lt_of_not_le fun hh => Nat.not_le.2 (u2 ho) (c3.1 hh)⟩⟩
def widOK (k : Int) : Bool := decide (dQ (-l10N k) * 2 ^ 1138 ≤ dQ (-(-l10N k)) * 2 ^ (k + 1138).toNat) && decide (dQ (-(-l10N k)) * 2 ^ (k + 1138).toNat < 10 * dQ (-l10N k) * 2 ^ 1138)
def widAll : Nat → Int → Bool
  | 0, _ => true
  | n + 1, k => widOK k && widAll n (k + 1)
theorem widAll_get : ∀ (n : Nat) (k : Int), widAll n k = true → ∀ i : Nat, i < n → widOK (k + i) = true
  | 0, _, _, _, h => by omega
  | n + 1, k, h, 0, _ => by
    simp only [widAll, Bool.and_eq_true] at h
    simpa using h.1
  | n + 1, k, h, i + 1, hi => by
    simp only [widAll, Bool.and_eq_true] at h
    have := widAll_get n (k + 1) h.2 i (by omega)
    rwa [show k + 1 + (i : Int) = k + ((i + 1 : Nat) : Int) from by push_cast; omega] at this
theorem wid_all : widAll 2090 (-1074) = true := by decide +kernel
theorem wid (e : Int) (h1 : -1137 ≤ e) (h2 : e ≤ 1000) : GN (ppN false e) e ≤ 2 ^ zN e * AN (ppN false e) ∧ 2 ^ zN e * AN (ppN false e) < 10 * GN (ppN false e) e := by
  have hk1 : -1074 ≤ e + zN e := by unfold zN; split <;> omega
  have hk2 : e + zN e ≤ 1011 := by unfold zN; split <;> omega
  have hw := widAll_get _ _ wid_all (e + zN e + 1074).toNat (by omega)
  rw [show -1074 + ((e + zN e + 1074).toNat : Int) = e + zN e from by omega] at hw
  simp only [widOK, Bool.and_eq_true, decide_eq_true_eq] at hw
  obtain ⟨w1, w2⟩ := hw
  have hpp : ppN false e = -l10N (e + zN e) := rfl
  rw [← hpp] at w1 w2
  have ok := (exp_ok e h1 h2).1
  simp only [expOK, Bool.and_eq_true, decide_eq_true_eq] at ok
  have hF : 2 ^ (e + zN e + 1138).toNat = 2 ^ zN e * 2 ^ (e + 1138).toNat := by
    rw [← Nat.pow_add]; congr 1; omega
  rw [hF] at w1 w2
  constructor
  · have := (sc_ge (ppN false e) e ok.1.2 (by omega) (2 ^ zN e) 1).1 (by rw [Nat.one_mul]; exact w1)
    rwa [Nat.one_mul] at this
  · refine Nat.lt_of_not_le fun hh => Nat.not_le.2 w2 ?_
    exact (sc_ge (ppN false e) e ok.1.2 (by omega) (2 ^ zN e) 10).2 hh
end Go.Proofs.YtckaoeloofbklaaGreatDoor
namespace Go.Proofs.YtckaoeloofbklaaGreatDoor
open Go Go.RowKit
theorem and52_low (m : Nat) (h : m < 4503599627370496) : m &&& 4503599627370496 = 0 := by
  refine Nat.eq_of_testBit_eq fun i => ?_
  rw [Nat.testBit_and, show (4503599627370496 : Nat) = 2 ^ 52 from by decide, Nat.testBit_two_pow, Nat.zero_testBit]
  by_cases hi : 52 = i
  · subst hi; rw [Nat.testBit_lt_two_pow (by exact h)]; rfl
  · rw [decide_eq_false hi, Bool.and_false]
theorem and63_low (m : Nat) (h : m < 9223372036854775808) : m &&& 9223372036854775808 = 0 := by
  refine Nat.eq_of_testBit_eq fun i => ?_
  rw [Nat.testBit_and, show (9223372036854775808 : Nat) = 2 ^ 63 from by decide, Nat.testBit_two_pow, Nat.zero_testBit]
  by_cases hi : 63 = i
  · subst hi; rw [Nat.testBit_lt_two_pow (by exact h)]; rfl
  · rw [decide_eq_false hi, Bool.and_false]
theorem pack_low (m : Nat) (e : Int) (w : World) (hm : m < 4503599627370496) :
    Calls Tryz.prog 268 #[.int .u64 m, .int .i64 e] w fun e' w' => e' = .returned (.tuple #[.float .f64 m, .nilIface]) ∧ w' = w := by
  have hb := run_sfrom m
  have ha : bits .and .u64 (m : Int) 4503599627370496 = 0 := by
    have h := u64_and_nat m 4503599627370496 (by omega) (by decide)
    rw [show ((4503599627370496 : Nat) : Int) = 4503599627370496 from rfl] at h
    rw [h, and52_low m hm]; rfl
  go_enter Tryz.func268, Tryz.ntmps268
  go_wp2_with fail
  refine bodyPost_ret (v := .tuple #[.float .f64 m, .nilIface]) (by simp [results, Tryz.results268, go_sem]) rfl ⟨rfl, rfl⟩
theorem and52_high (m : Nat) (h : m < 9007199254740992) (h2 : 4503599627370496 ≤ m) : m &&& 4503599627370496 = 4503599627370496 := by
  refine Nat.eq_of_testBit_eq fun i => ?_
  rw [Nat.testBit_and, show (4503599627370496 : Nat) = 2 ^ 52 from by decide, Nat.testBit_two_pow]
  by_cases hi : 52 = i
  · subst hi
    rw [decide_eq_true rfl, Bool.and_true, Nat.testBit_eq_decide_div_mod_eq, decide_eq_true_eq]
    have : m / 2 ^ 52 = 1 := Nat.div_eq_of_lt_le (by omega) (by omega)
    rw [this]
  · rw [decide_eq_false hi, Bool.and_false]
set_option maxRecDepth 100000 in
set_option maxHeartbeats 1000000 in
theorem pack_inf (m : Nat) (e : Int) (w : World) (hm : m < 9007199254740992) (hm2 : 4503599627370496 ≤ m) (he : 972 ≤ e) (_he2 : e ≤ 5000) :
    Calls Tryz.prog 268 #[.int .u64 m, .int .i64 e] w fun e' w' => e' = .returned (.tuple #[.float .f64 9218868437227405312, .iface 174 (.int .i64 1)]) ∧ w' = w := by
  have hb : ∀ W : World, (callFunc 257 #[.int .u64 9218868437227405312]).run Tryz.prog W = .ok (.value (.float .f64 9218868437227405312)) W := run_sfrom 9218868437227405312
  have ha : bits .and .u64 (m : Int) 4503599627370496 = 4503599627370496 := by
    have h := u64_and_nat m 4503599627370496 (by omega) (by decide)
    rw [show ((4503599627370496 : Nat) : Int) = 4503599627370496 from rfl] at h
    rw [h, and52_high m hm hm2]; rfl
  have ha2 : bits .and .u64 (m : Int) 9223372036854775808 = 0 := by
    have h := u64_and_nat m 9223372036854775808 (by omega) (by decide)
    rw [show ((9223372036854775808 : Nat) : Int) = 9223372036854775808 from rfl] at h
    rw [h, and63_low m (by omega)]; rfl
  have ho : bits .or .u64 0 9218868437227405312 = 9218868437227405312 := by decide +kernel
  go_enter Tryz.func268, Tryz.ntmps268
  go_wp2_with fail
  refine bodyPost_ret (v := .tuple #[.float .f64 9218868437227405312, .iface 174 (.int .i64 1)]) (by simp [results, Tryz.results268, go_sem]) rfl ⟨rfl, rfl⟩
theorem or_parts (f k : Nat) (hf : f < 4503599627370496) : f ||| (k * 4503599627370496) = k * 4503599627370496 + f := by
  rw [Nat.or_comm, show (4503599627370496 : Nat) = 2 ^ 52 from by decide, Nat.mul_comm k]
  exact (Nat.two_pow_add_eq_or_of_lt (by exact hf) k).symm
theorem not52 (m : Nat) (h : m < 9007199254740992) (h2 : 4503599627370496 ≤ m) : m &&& (18446744073709551615 - 4503599627370496) = m - 4503599627370496 := by
  have h3 : (m &&& (18446744073709551615 - 4503599627370496)) % 2 ^ 52 = m - 4503599627370496 := by
    rw [Nat.and_mod_two_pow, show (18446744073709551615 - 4503599627370496) % 2 ^ 52 = 2 ^ 52 - 1 from by decide, Nat.and_two_pow_sub_one_eq_mod]
    omega
  have h4 : (m &&& (18446744073709551615 - 4503599627370496)) / 2 ^ 52 = 0 := by
    rw [Nat.and_div_two_pow, show m / 2 ^ 52 = 1 from Nat.div_eq_of_lt_le (by omega) (by omega)]
    decide
  have h5 := Nat.div_add_mod (m &&& (18446744073709551615 - 4503599627370496)) (2 ^ 52)
  rw [h3, h4] at h5
  omega
set_option maxRecDepth 100000 in
set_option maxHeartbeats 1000000 in
theorem pack_mid (m : Nat) (k : Nat) (w : World) (hm : m < 9007199254740992) (hm2 : 4503599627370496 ≤ m) (hk1 : 1 ≤ k) (hk2 : k < 2047) :
    Calls Tryz.prog 268 #[.int .u64 m, .int .i64 ((k : Int) - 1075)] w fun e' w' => e' = .returned (.tuple #[.float .f64 (k * 4503599627370496 + (m - 4503599627370496)), .nilIface]) ∧ w' = w := by
  have hb := run_sfrom (k * 4503599627370496 + (m - 4503599627370496))
  have ha : bits .and .u64 (m : Int) 4503599627370496 = 4503599627370496 := by
    have h := u64_and_nat m 4503599627370496 (by omega) (by decide)
    rw [show ((4503599627370496 : Nat) : Int) = 4503599627370496 from rfl] at h
    rw [h, and52_high m hm hm2]; rfl
  have hn : bits .andNot .u64 (m : Int) 4503599627370496 = ((m - 4503599627370496 : Nat) : Int) := by
    have h := u64_andNot_nat m 4503599627370496 (by omega) (by decide)
    rw [show ((4503599627370496 : Nat) : Int) = 4503599627370496 from rfl] at h
    rw [h, not52 m hm hm2]
  have hk : (1075 : Int) + ((k : Int) - 1075) = k := by omega
  have ho : bits .or .u64 ((m - 4503599627370496 : Nat) : Int) ((k : Int) * 4503599627370496) = ((k * 4503599627370496 + (m - 4503599627370496) : Nat) : Int) := by
    have h := bits_or_u64_nat (m - 4503599627370496) (k * 4503599627370496) (by omega) (by omega)
    rw [or_parts _ k (by omega)] at h
    exact h
  have hlt : ((k : Int) - 1075 < 972) := by omega
  generalize k * 4503599627370496 + (m - 4503599627370496) = R at *
  generalize m - 4503599627370496 = f at *
  go_enter Tryz.func268, Tryz.ntmps268
  go_wp2_with fail
  refine bodyPost_ret (v := .tuple #[.float .f64 R, .nilIface]) (by simp [results, Tryz.results268, go_sem]) rfl ⟨rfl, rfl⟩
end Go.Proofs.YtckaoeloofbklaaGreatDoor
