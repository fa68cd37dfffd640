/- Joined texts: Ul Uo Pd Pf Vn Pb. Each begins with its own remark. -/
import Derived.Test.YtckaoeloofbklaaGreatDoorZg
import Derived.Test.YtckaoeloofbklaaGreatDoorZa
import Derived.Test.YtckaoeloofbklaaGreatDoorZd
import Derived.Deep.WholeRow

/- The nearest float to a number times a power of two; products and quotients (plain). -/
namespace Go.Proofs.YtckaoeloofbklaaGreatDoor
open Go Ieee
set_option exponentiation.threshold 5000

/-- X by Q is c times 2 to the place, doubled -/
def ValP (X Q c G : Nat) (place : Int) : Prop := X * G * 2 ^ (-place).toNat = 2 * (Q * (c * 2 ^ 1074 * 2 ^ place.toNat))

theorem valP_low (X Q c G E d : Nat) (place : Int) (h : ValP X Q c G place) (hE : (E : Int) = place + d + 1074) : X * G * 2 ^ d = 2 * (Q * (c * 2 ^ E)) := by
  unfold ValP at h
  refine Nat.eq_of_mul_eq_mul_right (Nat.two_pow_pos (-place).toNat) ?_
  have e1 : X * G * 2 ^ d * 2 ^ (-place).toNat = X * G * 2 ^ (-place).toNat * 2 ^ d := by ac_rfl
  have e2 : 2 * (Q * (c * 2 ^ E)) * 2 ^ (-place).toNat = 2 * (Q * (c * (2 ^ E * 2 ^ (-place).toNat))) := by ac_rfl
  have e3 : 2 * (Q * (c * 2 ^ 1074 * 2 ^ place.toNat)) * 2 ^ d = 2 * (Q * (c * (2 ^ 1074 * 2 ^ place.toNat * 2 ^ d))) := by
    generalize 2 ^ 1074 = z
    ac_rfl
  rw [e1, h, e2, e3, ← Nat.pow_add, ← Nat.pow_add, ← Nat.pow_add]
  congr 4
  omega

/-- the number's leading digits, where more are there than are kept -/
theorem nearest_high (s : Bool) (mag d : Nat) (place : Int) (h : 0 < mag) (hL : mag.log2 = 52 + d) (hp : -1074 ≤ place + d) :
    double.nearest s mag place = double.word s (min INF ((place + d + 1074).toNat * BB + (mag / 2 ^ d + upG mag (2 ^ d)))) ∧ 4503599627370496 ≤ mag / 2 ^ d ∧ mag / 2 ^ d < 9007199254740992 := by
  have hl : 2 ^ mag.log2 ≤ mag := Nat.log2_self_le (by omega)
  have hu : mag < 2 ^ (mag.log2 + 1) := Nat.lt_log2_self
  unfold Format.nearest
  rw [if_neg (by omega)]
  simp only [d_lp, d_bi, d_in, d_fb]
  rw [hL] at hl hu
  rw [hL]
  have hmax : max (place + ((52 + d : Nat) : Int) - ((52 : Nat) : Int)) (-1074) = place + d := by omega
  rw [hmax, show (place - (place + d)).toNat = 0 by omega, show (place + (d : Int) - place).toNat = d by omega, show (place + (d : Int) - (-1074)).toNat = (place + d + 1074).toNat by omega]
  have hc : Toward.even.cut s (mag <<< 0) d = mag / 2 ^ d + upG mag (2 ^ d) := by
    unfold Toward.cut
    rw [Nat.shiftLeft_zero, hL, show min d (52 + d + 2) = d by omega, Nat.one_shiftLeft]
    show mag / 2 ^ d + _ = _
    rw [up_is]
  rw [hc]
  refine ⟨?_, ?_, ?_⟩
  · rw [Nat.min_comm]; rfl
  · rw [Nat.le_div_iff_mul_le (Nat.two_pow_pos d)]
    rw [Nat.pow_add] at hl
    exact hl
  · rw [Nat.div_lt_iff_lt_mul (Nat.two_pow_pos d)]
    rw [show 52 + d + 1 = 53 + d by omega, Nat.pow_add] at hu
    exact hu

/-- the number's digits, where no more are there than are kept -/
theorem nearest_low (s : Bool) (mag k : Nat) (place : Int) (h : 0 < mag) (hL : mag.log2 + k = 52) (hp : -1074 ≤ place - k) :
    double.nearest s mag place = double.word s (min INF ((place - k + 1074).toNat * BB + mag * 2 ^ k)) ∧ 4503599627370496 ≤ mag * 2 ^ k ∧ mag * 2 ^ k < 9007199254740992 := by
  have hl : 2 ^ mag.log2 ≤ mag := Nat.log2_self_le (by omega)
  have hu : mag < 2 ^ (mag.log2 + 1) := Nat.lt_log2_self
  have p1 : 2 ^ mag.log2 * 2 ^ k = 4503599627370496 := by rw [← Nat.pow_add, hL]
  have p2 : 2 ^ (mag.log2 + 1) * 2 ^ k = 9007199254740992 := by rw [← Nat.pow_add, show mag.log2 + 1 + k = 53 by omega]
  have b1 := Nat.mul_le_mul_right (2 ^ k) hl
  have b2 := (Nat.mul_lt_mul_right (Nat.two_pow_pos k)).2 hu
  rw [p1] at b1
  rw [p2] at b2
  refine ⟨?_, b1, b2⟩
  unfold Format.nearest
  rw [if_neg (by omega)]
  simp only [d_lp, d_bi, d_in, d_fb]
  have hmax : max (place + (mag.log2 : Int) - ((52 : Nat) : Int)) (-1074) = place - k := by omega
  rw [hmax, show (place - (place - k)).toNat = k by omega, show (place - (k : Int) - place).toNat = 0 by omega, show (place - (k : Int) - (-1074)).toNat = (place - k + 1074).toNat by omega]
  have hc : Toward.even.cut s (mag <<< k) 0 = mag * 2 ^ k := by
    unfold Toward.cut
    rw [show min 0 ((mag <<< k).log2 + 2) = 0 by omega]
    simp [Nat.shiftLeft_eq, Nat.mod_one]
  rw [hc, Nat.min_comm]
  rfl

theorem nearest_gen (s : Bool) (mag : Nat) (place : Int) (h : 0 < mag) (hp : -1022 ≤ place + mag.log2) (X Q : Nat) (hq : 0 < Q) (hv : ValP X Q mag 1 place) :
    ∃ r, double.nearest s mag place = double.word s r ∧ Near X Q r := by
  rcases Nat.le_total mag.log2 52 with hL | hL
  · obtain ⟨k, hk⟩ : ∃ k, mag.log2 + k = 52 := ⟨52 - mag.log2, by omega⟩
    obtain ⟨h1, h2, h3⟩ := nearest_low s mag k place h hk (by omega)
    refine ⟨_, h1, ?_⟩
    obtain ⟨E, hE⟩ : ∃ E, (place - k + 1074).toNat = E := ⟨_, rfl⟩
    rw [hE]
    have hv2 := valP_low X Q mag 1 (E + k) 0 place hv (by omega)
    have hn := near_gap (X := X) (Q := Q) (n := mag * 2 ^ k) (G := 1) (E := E) hq (by decide) (by rw [Nat.pow_zero, Nat.mul_one] at hv2; rw [hv2, Nat.pow_add, Nat.mul_comm (2 ^ E), Nat.mul_assoc mag]) (by rw [Nat.div_one]; exact h3) (.inr (by rw [Nat.div_one]; exact h2))
    have hu0 : upG (mag * 2 ^ k) 1 = 0 := by unfold upG; rw [Nat.mod_one, if_pos (by decide)]
    rwa [hu0, Nat.div_one, Nat.add_zero] at hn
  · obtain ⟨d, hd⟩ : ∃ d, mag.log2 = 52 + d := ⟨mag.log2 - 52, by omega⟩
    obtain ⟨h1, h2, h3⟩ := nearest_high s mag d place h hd (by omega)
    refine ⟨_, h1, ?_⟩
    obtain ⟨E, hE⟩ : ∃ E, (place + d + 1074).toNat = E := ⟨_, rfl⟩
    rw [hE]
    have hv2 := valP_low X Q mag 1 E d place hv (by omega)
    rw [Nat.mul_one] at hv2
    exact near_gap hq (Nat.two_pow_pos d) hv2 h3 (.inr h2)

theorem up_four (u : Nat) : u / 4 + upG u 4 = (u + 1 + u / 4 % 2) / 4 := by
  unfold upG
  split
  · omega
  · split <;> omega

theorem up_step (u M : Nat) (_hM : 0 < M) : u / (8 * M) + upG u (8 * M) = (2 * (u / 4) + (if u % 4 = 0 then 0 else 1)) / (4 * M) + upG (2 * (u / 4) + (if u % 4 = 0 then 0 else 1)) (4 * M) := by
  obtain ⟨q, hq⟩ : ∃ q, u / 4 = q := ⟨_, rfl⟩
  obtain ⟨r, hr⟩ : ∃ r, u % 4 = r := ⟨_, rfl⟩
  have hu : u = 4 * q + r := by omega
  have hr4 : r < 4 := by omega
  rw [hq, hr]
  obtain ⟨t, ht, ht2⟩ : ∃ t, (if r = 0 then 0 else 1) = t ∧ (t = 0 ∧ r = 0 ∨ t = 1 ∧ 0 < r) := by
    by_cases h : r = 0
    · exact ⟨0, if_pos h, .inl ⟨rfl, h⟩⟩
    · exact ⟨1, if_neg h, .inr ⟨rfl, by omega⟩⟩
  rw [ht]
  clear ht
  have e1 : u / (8 * M) = q / (2 * M) := by
    rw [show 8 * M = 4 * (2 * M) by omega, ← Nat.div_div_eq_div_mul, hq]
  have e2 : (2 * q + t) / (4 * M) = q / (2 * M) := by
    rw [show 4 * M = 2 * (2 * M) by omega, ← Nat.div_div_eq_div_mul, show (2 * q + t) / 2 = q by omega]
  have d0 := Nat.div_add_mod q (2 * M)
  have d1 := Nat.div_add_mod u (8 * M)
  have d2 := Nat.div_add_mod (2 * q + t) (4 * M)
  rw [e1] at d1
  rw [e2] at d2
  have m1 : 8 * M * (q / (2 * M)) = 4 * (2 * M * (q / (2 * M))) := by rw [← Nat.mul_assoc]; congr 1; omega
  have m2 : 4 * M * (q / (2 * M)) = 2 * (2 * M * (q / (2 * M))) := by rw [← Nat.mul_assoc]; congr 1; omega
  rw [e1, e2]
  congr 1
  unfold upG
  rw [e1, e2]
  generalize q / (2 * M) = A at *
  generalize 2 * M * A = B at *
  generalize u % (8 * M) = x at *
  generalize (2 * q + t) % (4 * M) = y at *
  generalize q % (2 * M) = z at *
  have hx : x = 4 * z + r := by omega
  have hy : y = 2 * z + t := by omega
  rw [hx, hy]
  by_cases h1 : z < M
  · rw [if_pos (by omega), if_pos (show 2 * (2 * z + t) < 4 * M by omega)]
  · rw [if_neg (by omega), if_neg (show ¬ 2 * (2 * z + t) < 4 * M by omega)]
    by_cases h2 : z = M ∧ r = 0
    · rw [if_pos (by omega), if_pos (show 2 * (2 * z + t) = 4 * M by omega)]
    · rw [if_neg (by omega), if_neg (show ¬ 2 * (2 * z + t) = 4 * M by omega)]

/-- what is left of an unrounded number when its last digits are cut -/
theorem unr_cut : ∀ (k n G : Nat), 0 < G → unr n G / 2 ^ (k + 2) + upG (unr n G) (2 ^ (k + 2)) = n / (G * 2 ^ k) + upG n (G * 2 ^ k)
  | 0, n, G, hG => by
    rw [Nat.pow_zero, Nat.mul_one, ← unr_round n G hG]
    exact up_four _
  | k + 1, n, G, hG => by
    have ih := unr_cut k n (2 * G) (by omega)
    rw [show G * 2 ^ (k + 1) = 2 * G * 2 ^ k from by rw [Nat.pow_succ]; ac_rfl, ← ih, ← unr_half n G hG, show 2 ^ (k + 1 + 2) = 8 * 2 ^ k from by rw [show k + 1 + 2 = 3 + k by omega, Nat.pow_add], show 2 ^ (k + 2) = 4 * 2 ^ k from by rw [show k + 2 = 2 + k by omega, Nat.pow_add]]
    exact up_step _ _ (Nat.two_pow_pos k)

theorem nearest_unr (s : Bool) (n G : Nat) (hG : 0 < G) (place : Int) (h : 2 ^ 54 ≤ unr n G) (hp : -1022 ≤ place + (unr n G).log2) (X Q : Nat) (hq : 0 < Q) (hv : ValP X Q (4 * n) G place) :
    ∃ r, double.nearest s (unr n G) place = double.word s r ∧ Near X Q r := by
  have hL : 54 ≤ (unr n G).log2 := (Nat.le_log2 (by omega)).2 h
  obtain ⟨k, hk⟩ : ∃ k, (unr n G).log2 = 52 + (k + 2) := ⟨(unr n G).log2 - 54, by omega⟩
  obtain ⟨h1, h2, h3⟩ := nearest_high s (unr n G) (k + 2) place (by omega) hk (by omega)
  refine ⟨_, h1, ?_⟩
  rw [unr_cut k n G hG]
  obtain ⟨E, hE⟩ : ∃ E, (place + ((k + 2 : Nat) : Int) + 1074).toNat = E := ⟨_, rfl⟩
  rw [hE]
  have hv2 := valP_low X Q (4 * n) G E (k + 2) place hv (by omega)
  have e0 : unr n G / 2 ^ (k + 2) = n / (G * 2 ^ k) := by
    rw [show 2 ^ (k + 2) = 4 * 2 ^ k from by rw [show k + 2 = 2 + k by omega, Nat.pow_add], ← Nat.div_div_eq_div_mul, unr_floor n G hG, Nat.div_div_eq_div_mul]
  rw [e0] at h2 h3
  refine near_gap hq (Nat.mul_pos hG (Nat.two_pow_pos k)) ?_ h3 (.inr h2)
  refine Nat.eq_of_mul_eq_mul_left (show 0 < 4 by decide) ?_
  have e1 : 4 * (X * (G * 2 ^ k)) = X * G * 2 ^ (k + 2) := by
    rw [show 2 ^ (k + 2) = 2 ^ k * 4 from by rw [Nat.pow_add]]; ac_rfl
  have e2 : 4 * (2 * (Q * (n * 2 ^ E))) = 2 * (Q * (4 * n * 2 ^ E)) := by ac_rfl
  rw [e1, e2, hv2]

/-- the product of two whole floats -/
theorem mul_whole (x y A B : Nat) (hx : x < 9218868437227405312) (hy : y < 9218868437227405312) (ha : V x = A * 2 ^ 1074) (hb : V y = B * 2 ^ 1074) (hA : 0 < A) (hB : 0 < B) :
    ∃ r, double.mul x y = some r ∧ Near (2 * (A * B * 2 ^ 1074)) 1 r := by
  have rx : ru x = x := Nat.mod_eq_of_lt (by omega)
  have ry : ru y = y := Nat.mod_eq_of_lt (by omega)
  have gx : ngB x = false := decide_eq_false (by omega)
  have gy : ngB y = false := decide_eq_false (by omega)
  obtain ⟨m, e, h1, h2, _⟩ := read_fin x (by omega) (by omega)
  obtain ⟨n, f, h3, h4, _⟩ := read_fin y (by omega) (by omega)
  rw [rx, ha] at h2
  rw [ry, hb] at h4
  have hmn : m * n * 2 ^ (e + f) = A * B * 2 ^ 2148 := by
    rw [show 2148 = 1074 + 1074 by decide, Nat.pow_add, Nat.pow_add]
    calc m * n * (2 ^ e * 2 ^ f) = (m * 2 ^ e) * (n * 2 ^ f) := by ac_rfl
      _ = _ := by rw [h2, h4]; generalize 2 ^ 1074 = z; ac_rfl
  have hpos : 0 < m * n := by
    refine Nat.pos_of_ne_zero fun h => ?_
    rw [h, Nat.zero_mul] at hmn
    have : 0 < A * B * 2 ^ 2148 := Nat.mul_pos (Nat.mul_pos hA hB) (Nat.two_pow_pos _)
    omega
  have hlog : 2148 ≤ (m * n).log2 + (e + f) := by
    have l1 : m * n < 2 ^ ((m * n).log2 + 1) := Nat.lt_log2_self
    have l2 : m * n * 2 ^ (e + f) < 2 ^ ((m * n).log2 + 1 + (e + f)) := by
      rw [Nat.pow_add 2 ((m * n).log2 + 1)]
      exact (Nat.mul_lt_mul_right (Nat.two_pow_pos _)).2 l1
    have l3 : 2 ^ 2148 ≤ A * B * 2 ^ 2148 := Nat.le_mul_of_pos_left _ (Nat.mul_pos hA hB)
    rw [hmn] at l2
    have := (Nat.pow_lt_pow_iff_right (show 1 < 2 by decide)).1 (Nat.lt_of_le_of_lt l3 l2)
    omega
  have hv : ValP (2 * (A * B * 2 ^ 1074)) 1 (m * n) 1 ((e : Int) - 1074 + ((f : Int) - 1074)) := by
    unfold ValP
    refine Nat.eq_of_mul_eq_mul_right (Nat.two_pow_pos (e + f)) ?_
    have e1 : 2 * (1 * (m * n * 2 ^ 1074 * 2 ^ ((e : Int) - 1074 + ((f : Int) - 1074)).toNat)) * 2 ^ (e + f) = 2 * (m * n * 2 ^ (e + f) * (2 ^ 1074 * 2 ^ ((e : Int) - 1074 + ((f : Int) - 1074)).toNat)) := by
      generalize 2 ^ 1074 = z
      rw [Nat.one_mul]; ac_rfl
    have e2 : 2 * (A * B * 2 ^ 1074) * 1 * 2 ^ (-((e : Int) - 1074 + ((f : Int) - 1074))).toNat * 2 ^ (e + f) = 2 * (A * B * (2 ^ 1074 * 2 ^ (-((e : Int) - 1074 + ((f : Int) - 1074))).toNat * 2 ^ (e + f))) := by
      generalize 2 ^ 1074 = z
      rw [Nat.mul_one]; ac_rfl
    rw [e1, e2, hmn, Nat.mul_assoc (A * B), ← Nat.pow_add, ← Nat.pow_add, ← Nat.pow_add, ← Nat.pow_add]
    congr 3
    omega
  obtain ⟨r, k1, k2⟩ := nearest_gen (false ^^ false) (m * n) ((e : Int) - 1074 + ((f : Int) - 1074)) hpos (by omega) (2 * (A * B * 2 ^ 1074)) 1 (by decide) hv
  refine ⟨r, ?_, k2⟩
  unfold Format.mul
  rw [h1, h3, gx, gy]
  show some (double.nearest (false ^^ false) (m * n) ((e : Int) - 1074 + ((f : Int) - 1074))) = _
  rw [k1]
  rfl

/-- the quotient of two whole floats -/
theorem div_whole (x y A B : Nat) (hx : x < 9218868437227405312) (hy : y < 9218868437227405312) (ha : V x = A * 2 ^ 1074) (hb : V y = B * 2 ^ 1074) (hA : 0 < A) (hB : 0 < B) (hB2 : B < 2 ^ 500) :
    ∃ r, double.div x y = some r ∧ Near (2 * (A * 2 ^ 1074)) B r := by
  have rx : ru x = x := Nat.mod_eq_of_lt (by omega)
  have ry : ru y = y := Nat.mod_eq_of_lt (by omega)
  have gx : ngB x = false := decide_eq_false (by omega)
  have gy : ngB y = false := decide_eq_false (by omega)
  obtain ⟨m, e, h1, h2, _, hm53, _⟩ := read_fin x (by omega) (by omega)
  obtain ⟨n, f, h3, h4, _, hn53, _⟩ := read_fin y (by omega) (by omega)
  rw [rx, ha] at h2
  rw [ry, hb] at h4
  have hm0 : 0 < m := by
    refine Nat.pos_of_ne_zero fun h => ?_
    rw [h, Nat.zero_mul] at h2
    have : 0 < A * 2 ^ 1074 := Nat.mul_pos hA (Nat.two_pow_pos _)
    omega
  have hn0 : 0 < n := by
    refine Nat.pos_of_ne_zero fun h => ?_
    rw [h, Nat.zero_mul] at h4
    have : 0 < B * 2 ^ 1074 := Nat.mul_pos hB (Nat.two_pow_pos _)
    omega
  have lm1 : 2 ^ m.log2 ≤ m := Nat.log2_self_le (by omega)
  have lm2 : m < 2 ^ (m.log2 + 1) := Nat.lt_log2_self
  have ln1 : 2 ^ n.log2 ≤ n := Nat.log2_self_le (by omega)
  have ln2 : n < 2 ^ (n.log2 + 1) := Nat.lt_log2_self
  have lm : m.log2 ≤ 52 := by
    have := (Nat.pow_lt_pow_iff_right (show 1 < 2 by decide)).1 (Nat.lt_of_le_of_lt lm1 (show m < 2 ^ 53 from hm53))
    omega
  obtain ⟨more, hmore⟩ : ∃ k, 54 + n.log2 - m.log2 = k := ⟨_, rfl⟩
  have hml : more + m.log2 = 54 + n.log2 := by omega
  have hu : 2 * (m * 2 ^ more / n) + (m * 2 ^ more % n != 0).toNat = unr (m * 2 ^ more) (2 * n) := by
    unfold unr
    rw [Nat.mul_div_mul_left _ _ (by decide), Nat.mul_mod_mul_left]
    congr 1
    by_cases h0 : m * 2 ^ more % n = 0
    · rw [h0]; rfl
    · rw [if_neg (by omega), bne_iff_ne.2 h0]; rfl
  have hbig : 2 ^ 53 ≤ m * 2 ^ more / n := by
    rw [Nat.le_div_iff_mul_le hn0]
    have k1 : 2 ^ (54 + n.log2) ≤ m * 2 ^ more := by
      rw [← hml, Nat.add_comm, Nat.pow_add]
      exact Nat.mul_le_mul_right _ lm1
    have k2 : 2 ^ 53 * n ≤ 2 ^ 53 * 2 ^ (n.log2 + 1) := Nat.mul_le_mul_left _ (Nat.le_of_lt ln2)
    rw [← Nat.pow_add, show 53 + (n.log2 + 1) = 54 + n.log2 by omega] at k2
    omega
  have hu54 : 2 ^ 54 ≤ unr (m * 2 ^ more) (2 * n) := by rw [← hu]; omega
  have hL : 54 ≤ (unr (m * 2 ^ more) (2 * n)).log2 := (Nat.le_log2 (by omega)).2 hu54
  -- how small the quotient is
  have hsz : 574 + e + m.log2 ≥ n.log2 + f := by
    have k1 : n * 2 ^ f < 2 ^ (500 + 1074) := by
      rw [h4, Nat.pow_add]
      exact (Nat.mul_lt_mul_right (Nat.two_pow_pos _)).2 hB2
    have k2 : 2 ^ (n.log2 + f) ≤ n * 2 ^ f := by rw [Nat.pow_add]; exact Nat.mul_le_mul_right _ ln1
    have k3 := (Nat.pow_lt_pow_iff_right (show 1 < 2 by decide)).1 (Nat.lt_of_le_of_lt k2 k1)
    have k4 : 2 ^ 1074 ≤ m * 2 ^ e := by rw [h2]; exact Nat.le_mul_of_pos_left _ hA
    have k5 : m * 2 ^ e < 2 ^ (m.log2 + 1 + e) := by rw [Nat.pow_add]; exact (Nat.mul_lt_mul_right (Nat.two_pow_pos _)).2 lm2
    have k6 := (Nat.pow_lt_pow_iff_right (show 1 < 2 by decide)).1 (Nat.lt_of_le_of_lt k4 k5)
    omega
  have hv : ValP (2 * (A * 2 ^ 1074)) B (4 * (m * 2 ^ more)) (2 * n) ((e : Int) - 1074 - ((f : Int) - 1074) - (more : Int) - 1) := by
    unfold ValP
    obtain ⟨a, ha2⟩ : ∃ a, (-((e : Int) - 1074 - ((f : Int) - 1074) - (more : Int) - 1)).toNat = a := ⟨_, rfl⟩
    obtain ⟨c, hc⟩ : ∃ c, ((e : Int) - 1074 - ((f : Int) - 1074) - (more : Int) - 1).toNat = c := ⟨_, rfl⟩
    rw [ha2, hc]
    have hac : a + e = c + f + more + 1 := by omega
    refine Nat.eq_of_mul_eq_mul_right (Nat.two_pow_pos (e + f)) ?_
    have e1 : 2 * (A * 2 ^ 1074) * (2 * n) * 2 ^ a * 2 ^ (e + f) = 4 * (A * 2 ^ 1074) * (n * 2 ^ f) * (2 ^ a * 2 ^ e) := by
      generalize 2 ^ 1074 = z
      rw [Nat.pow_add, show (4 : Nat) = 2 * 2 from rfl]; ac_rfl
    have e2 : 2 * (B * (4 * (m * 2 ^ more) * 2 ^ 1074 * 2 ^ c)) * 2 ^ (e + f) = 4 * (m * 2 ^ e) * (B * 2 ^ 1074) * (2 ^ c * 2 ^ f * 2 ^ more * 2) := by
      generalize 2 ^ 1074 = z
      rw [Nat.pow_add]; ac_rfl
    rw [e1, e2, h2, h4, ← Nat.pow_add, hac, Nat.pow_add, Nat.pow_add, Nat.pow_add]
  obtain ⟨r, k1, k2⟩ := nearest_unr (false ^^ false) (m * 2 ^ more) (2 * n) (by omega) ((e : Int) - 1074 - ((f : Int) - 1074) - (more : Int) - 1) hu54 (by omega) (2 * (A * 2 ^ 1074)) B hB hv
  refine ⟨r, ?_, k2⟩
  unfold Format.div
  rw [h1, h3, gx, gy]
  unfold Datum.quotient
  simp only [d_fb]
  rw [if_neg (by omega), hmore, Nat.shiftLeft_eq, hu]
  show some (double.nearest (false ^^ false) _ _) = _
  rw [k1]
  rfl
end Go.Proofs.YtckaoeloofbklaaGreatDoor

/- Numbers far off; whole floats and powers of ten (plain). -/
namespace Go.Proofs.YtckaoeloofbklaaGreatDoor
open Go Ieee
set_option exponentiation.threshold 5000

theorem V_INF : V INF = 2 ^ 2098 := by decide +kernel
theorem V_max : V (INF - 1) < 2 ^ 2098 := by rw [← V_INF]; exact V_mono (by decide)

theorem near_inf (X Q : Nat) (hq : 0 < Q) (h : Q * 2 ^ 2099 ≤ X) : Near X Q INF := by
  refine ⟨hq, Nat.le_refl _, .inr ⟨?_, fun h => absurd h (by decide)⟩, .inl rfl⟩
  have h1 : V (INF - 1) + V INF ≤ 2 ^ 2099 := by
    have := V_max
    rw [V_INF, show 2 ^ 2099 = 2 ^ 2098 + 2 ^ 2098 by rw [show 2099 = 2098 + 1 by omega, Nat.pow_succ, Nat.mul_two]]
    omega
  exact Nat.le_trans (Nat.mul_le_mul_left Q h1) h

theorem near_zero (X Q : Nat) (hq : 0 < Q) (h : X ≤ Q) : Near X Q 0 := by
  refine ⟨hq, by decide, .inl rfl, .inr ⟨?_, fun h => by omega⟩⟩
  have v1 : V (0 + 1) = 1 := by decide
  rw [v1, V_zero]
  omega

theorem ten_309 : 2 ^ 1024 ≤ 10 ^ 309 := by decide +kernel
theorem ten_324 : 2 ^ 1075 ≤ 10 ^ 324 := by decide +kernel

theorem far_inf (d : Nat) (p : Int) (hd : 1 ≤ d) (hp : 309 ≤ p) : Near (dX d p) (dQ p) INF := by
  refine near_inf _ _ (dQ_pos p) ?_
  unfold dX dQ
  rw [show (-p).toNat = 0 by omega, Nat.pow_zero, Nat.one_mul, show 2 ^ 2099 = 2 * (2 ^ 1024 * 2 ^ 1074) by rw [← Nat.pow_add, ← Nat.pow_succ']]
  refine Nat.mul_le_mul_left 2 (Nat.mul_le_mul_right _ ?_)
  refine Nat.le_trans ten_309 (Nat.le_trans (Nat.pow_le_pow_right (by decide) (show 309 ≤ p.toNat by omega)) ?_)
  exact Nat.le_mul_of_pos_left _ hd

theorem far_zero (d n : Nat) (p : Int) (hd : d < 10 ^ n) (hp : n + p ≤ -324) : Near (dX d p) (dQ p) 0 := by
  refine near_zero _ _ (dQ_pos p) ?_
  unfold dX dQ
  rw [show p.toNat = 0 by omega, Nat.pow_zero, Nat.mul_one]
  have h1 : 2 * (d * 2 ^ 1074) ≤ 10 ^ n * 2 ^ 1075 := by
    rw [show 2 ^ 1075 = 2 * 2 ^ 1074 by rw [← Nat.pow_succ'], Nat.mul_left_comm 2]
    exact Nat.mul_le_mul_right _ (Nat.le_of_lt hd)
  refine Nat.le_trans h1 (Nat.le_trans (Nat.mul_le_mul_left _ ten_324) ?_)
  rw [← Nat.pow_add]
  exact Nat.pow_le_pow_right (by decide) (by omega)

theorem zero_near (p : Int) : Near (dX 0 p) (dQ p) 0 := by
  refine near_zero _ _ (dQ_pos p) ?_
  unfold dX; rw [Nat.zero_mul, Nat.zero_mul]; exact Nat.zero_le _

/-- the powers of ten as floats -/
def p10L : List Nat := [4607182418800017408, 4621819117588971520, 4636737291354636288, 4652007308841189376, 4666723172467343360, 4681608360884174848, 4696837146684686336, 4711630319722168320, 4726483295884279808, 4741671816366391296, 4756540486875873280, 4771362005757984768, 4786511204640096256, 4801453603149578240, 4816244402031689728, 4831355200913801216, 4846369599423283200, 4861130398305394688, 4876203697187506176, 4891288408196988160, 4906019910204099648, 4921056587992461136, 4936209963552724370]
def p10N (k : Nat) : Nat := p10L.getD k 0
theorem p10_all : ∀ k : Fin 23, V (p10N k.val) = 10 ^ k.val * 2 ^ 1074 ∧ p10N k.val < 9218868437227405312 := by decide +kernel
theorem p10_is (k : Nat) (h : k < 23) : V (p10N k) = 10 ^ k * 2 ^ 1074 ∧ p10N k < 9218868437227405312 := p10_all ⟨k, h⟩

/-- a whole number that a float holds -/
theorem near_whole (A r : Nat) (h : A < 9007199254740992) (hn : Near (2 * (A * 2 ^ 1074)) 1 r) : V r = A * 2 ^ 1074 ∧ r < 9218868437227405312 := by
  obtain ⟨r', h1, h2⟩ := whole_rung A h
  have h3 := near_self r' h1
  rw [h2] at h3
  obtain rfl := near_unique hn h3
  refine ⟨h2, ?_⟩
  rcases Nat.lt_or_ge r INF with h4 | h4
  · exact h4
  · have h5 := V_le h4
    rw [V_INF, h2] at h5
    have h6 : A * 2 ^ 1074 < 2 ^ 53 * 2 ^ 1074 := (Nat.mul_lt_mul_right (Nat.two_pow_pos _)).2 h
    rw [← Nat.pow_add] at h6
    have h7 : (2 : Nat) ^ (53 + 1074) ≤ 2 ^ 2098 := Nat.pow_le_pow_right (by decide) (by decide)
    omega

theorem word_f (r : Nat) : double.word false r = r := rfl

theorem conv_nat (m : Nat) (h : m < 9007199254740992) : V (double.nearest false m 0) = m * 2 ^ 1074 ∧ double.nearest false m 0 < 9218868437227405312 := by
  obtain ⟨r, h1, h2⟩ := nearest_is false m
  rw [h1, word_f]
  exact near_whole m r h h2

theorem q15_next : V (4831355200913801216 + 1) ≤ (10 ^ 15 + 1) * 2 ^ 1074 := by decide +kernel
theorem q15_is : V 4831355200913801216 = 10 ^ 15 * 2 ^ 1074 := by decide +kernel
theorem lin_abs {x y a b c : Nat} (h2 : 2 * c ≤ 1 * (x + y)) (v1 : x ≤ b) (v2 : y ≤ a) (h4 : a ≤ c) (h5 : b < a) : False := by omega
/-- a product that is too great is seen as such -/
theorem near_above (A r : Nat) (h : 10 ^ 15 < A) (hn : Near (2 * (A * 2 ^ 1074)) 1 r) : 4831355200913801216 < r := by
  rcases Nat.lt_or_ge 4831355200913801216 r with h1 | h1
  · exact h1
  · exfalso
    rcases hn.hi with h2 | ⟨h2, _⟩
    · unfold INF at h2; omega
    · have v1 := V_le h1
      have v2 := V_le (Nat.add_le_add_right h1 1)
      have v3 := q15_next
      rw [q15_is] at v1
      have h4 : (10 ^ 15 + 1) * 2 ^ 1074 ≤ A * 2 ^ 1074 := Nat.mul_le_mul_right _ h
      have h5 : 10 ^ 15 * 2 ^ 1074 < (10 ^ 15 + 1) * 2 ^ 1074 := (Nat.mul_lt_mul_right (Nat.two_pow_pos _)).2 (by omega)
      exact lin_abs h2 v1 (Nat.le_trans v2 v3) h4 h5
theorem near_within (A r : Nat) (h : A ≤ 10 ^ 15) (hn : Near (2 * (A * 2 ^ 1074)) 1 r) : r ≤ 4831355200913801216 := by
  obtain ⟨h1, h2⟩ := near_whole A r (by omega) hn
  rcases Nat.lt_or_ge 4831355200913801216 r with h3 | h3
  · have h4 := V_mono h3
    rw [q15_is, h1] at h4
    exact absurd (Nat.mul_le_mul_right (2 ^ 1074) h) (Nat.not_le.2 h4)
  · exact h3

theorem ord_gt15 (r : Nat) (h : r ≤ INF) : (FloatKind.f64.format.order r 4831355200913801216 == some Ordering.gt) = decide (4831355200913801216 < r) := by
  show (double.order r 4831355200913801216 == _) = _
  have rr : ru r = r := Nat.mod_eq_of_lt (by unfold INF at h; omega)
  rw [order_any r _ (by unfold INF at h; omega) (by omega) (by rw [rr]; exact h) (by decide), cmp_gt]
  have s1 : sv r = (V r : Int) := by unfold sv; rw [if_neg (by unfold INF at h; omega), rr]
  have s2 : sv 4831355200913801216 = (V 4831355200913801216 : Int) := by unfold sv; rw [if_neg (by omega)]; rfl
  rw [s1, s2, Bool.eq_iff_iff, decide_eq_true_eq, decide_eq_true_eq]
  constructor
  · intro h1
    rcases Nat.lt_or_ge 4831355200913801216 r with h2 | h2
    · exact h2
    · have := V_le h2; omega
  · intro h1
    have := V_mono h1; omega
theorem ord_lt15 (r : Nat) (h : r ≤ INF) : (FloatKind.f64.format.order r 14054727237768577024 == some Ordering.lt) = false := by
  show (double.order r 14054727237768577024 == _) = _
  have rr : ru r = r := Nat.mod_eq_of_lt (by unfold INF at h; omega)
  rw [order_any r _ (by unfold INF at h; omega) (by omega) (by rw [rr]; exact h) (by decide), cmp_lt]
  have s1 : sv r = (V r : Int) := by unfold sv; rw [if_neg (by unfold INF at h; omega), rr]
  have s2 : sv 14054727237768577024 = -(V (ru 14054727237768577024) : Int) := by unfold sv; rw [if_pos (by omega)]
  rw [s1, s2, decide_eq_false_iff_not]
  omega
end Go.Proofs.YtckaoeloofbklaaGreatDoor

/- parseFloat64. -/
namespace Go.Proofs.YtckaoeloofbklaaGreatDoor
open Go Go.RowKit

/-- the error that comes with a rung -/
def errV (r : Nat) : Value := if r = INF then .iface 174 (.int .i64 1) else .nilIface

theorem pack_any (m : Nat) (E : Nat) (w : World) (hm : m < 9007199254740992) (hE : E = 0 ∨ 4503599627370496 ≤ m) (hE2 : E ≤ 4000) :
    Calls Tryz.prog 268 #[.int .u64 m, .int .i64 ((E : Int) - 1074)] w fun e' w' => e' = .returned (.tuple #[.float .f64 (min INF (E * BB + m)), errV (min INF (E * BB + m))]) ∧ w' = w := by
  by_cases h1 : m < 4503599627370496
  · have hE0 : E = 0 := by omega
    subst hE0
    have := pack_low m (((0 : Nat) : Int) - 1074) w h1
    have hr : min INF (0 * BB + m) = m := by unfold INF; omega
    rw [hr, show errV m = .nilIface from if_neg (by unfold INF; omega)]
    exact this
  · by_cases h2 : E < 2046
    · have := pack_mid m (E + 1) w hm (by omega) (by omega) (by omega)
      rw [show (((E + 1 : Nat) : Int) - 1075) = (E : Int) - 1074 by omega] at this
      have hr : min INF (E * BB + m) = (E + 1) * 4503599627370496 + (m - 4503599627370496) := by unfold INF BB; omega
      rw [hr, show errV ((E + 1) * 4503599627370496 + (m - 4503599627370496)) = .nilIface from if_neg (by unfold INF; omega)]
      exact this
    · have := pack_inf m ((E : Int) - 1074) w hm (by omega) (by omega) (by omega)
      have hr : min INF (E * BB + m) = INF := by unfold INF BB; omega
      rw [hr, show errV INF = .iface 174 (.int .i64 1) from if_pos rfl]
      exact this

/-- what is handed back: the nearest rung -/
def PfPost (d : Nat) (p : Int) (B : Nat) (w0 : World) (e : Ending) (w' : World) : Prop := ∃ r, Near (dX d p) (dQ p) r ∧ e = .returned (.tuple #[.float .f64 r, errV r]) ∧ Below B w0 w'

set_option maxRecDepth 100000 in
set_option maxHeartbeats 4000000 in
theorem pf_far (d b i s : Nat) (e : Int) (w : World) (hg : Glob w) (hd : d < 18446744073709551616) (hb : Lib.bitLen d = b) (hb1 : 1 ≤ b) (hb2 : b ≤ 64) (hi : i < 696)
    (he : min 1074 (53 - (b : Int) - lpN ((i : Int) - 348)) = e) (hs : -(e - (64 - (b : Int)) + lpN ((i : Int) - 348) + 3) = (s : Int)) (h64 : 64 ≤ s) :
    Calls Tryz.prog 259 #[.int .u64 d, .int .i64 ((i : Int) - 348), .int .u64 0] w fun e' w' => e' = .returned (.tuple #[.float .f64 0, .nilIface]) ∧ Below w.heap.size w w' := by
  have hlp : -1200 ≤ lpN ((i : Int) - 348) ∧ lpN ((i : Int) - 348) ≤ 1200 := by unfold lpN; omega
  have hga : Glob (w.alloc (.cells #[.int .u64 0, .int .u64 0, .int .i64 0] 245)) := hg.alloc _
  have hlt17 := hg.lt
  have HLEN := Lib.hid (fun (W : World) => Tryz.bits_Len64 (d : Int) W (by omega) (by omega))
  have hb0 : Lib.bitLen (d : Int).toNat = b := by simpa using hb
  have HB0 := Lib.hid hb0
  have hfb : ∀ W : World, (callFunc 257 #[.int .u64 0]).run Tryz.prog W = .ok (.value (.float .f64 0)) W := run_sfrom 0
  have hor : bits .or .u64 0 0 = 0 := by decide +kernel
  obtain ⟨LP, hLP⟩ : ∃ LP, lpN ((i : Int) - 348) = LP := ⟨_, rfl⟩
  have HL2 := Lib.hid (l2p_any ((i : Int) - 348) · (by omega) (by omega))
  rw [hLP] at HL2 he hs hlp
  have he1 : -5000 ≤ e := by omega
  have he2 : e ≤ 1074 := by omega
  have HPR := Lib.hid (prescale_at w.heap.size i (e - (64 - (b : Int))) LP 245 (.int .u64 0) (.int .u64 0) (.int .i64 0) (w.alloc (.cells #[.int .u64 0, .int .u64 0, .int .i64 0] 245)) hga (heap_alloc_new _ _) hlt17 hi (by omega) (by omega) (by omega) (by omega))
  rw [hs] at HPR
  have HE := Lib.hid he
  have h64' : (64 : Int) ≤ (s : Int) := by omega
  clear hga hlt17 hg hb hb0 hLP hs he h64
  go_enter Tryz.func259, Tryz.ntmps259
  go_wp2_with fail
  refine (HLEN.out _).mono ?_
  rintro e' w ⟨rfl, rfl⟩
  rw [HB0.out]
  go_wp2_with fail
  refine (HL2.out _).mono ?_
  rintro e' w' ⟨rfl, rfl⟩
  go_wp2_with fail
  rw [HE.out]
  refine HPR.out.mono ?_
  rintro e' w2 ⟨rfl, hc2, hb2', hz2⟩
  have k2 : w2.cell? ⟨w.heap.size, 2, Option.none⟩ = some (.int .i64 s) := cell_of_row w2 w.heap.size 2 _ _ _ hc2
  have hbw : Below w.heap.size w w2 := ((Below.refl _ _).alloc (Nat.le_refl _) _).trans hb2'
  have HBW := Lib.hid hbw
  clear hc2 hb2' hz2 hbw
  go_wp2_with fail
  refine bodyPost_ret (v := .tuple #[.float .f64 0, .nilIface]) (by simp [results, Tryz.results259, go_sem]) rfl ⟨rfl, HBW.out⟩

theorem u_or_low (U : Nat) : U ||| U % 2 = U := by
  rcases (by omega : U % 2 = 0 ∨ U % 2 = 1) with h | h
  · rw [h, Nat.or_zero]
  · rw [h]
    have h2 := Nat.div_add_mod (U ||| 1) 2
    rw [Nat.or_div_two, Nat.or_mod_two_eq_one.2 (.inr rfl)] at h2
    simp at h2
    omega

set_option maxRecDepth 100000 in
set_option maxHeartbeats 4000000 in
theorem pf_near (d b i s U m r : Nat) (ev : Value) (e k : Int) (sh : Bool) (w : World) (hg : Glob w) (hd : d < 18446744073709551616) (hb : Lib.bitLen d = b) (hb1 : 1 ≤ b) (hb2 : b ≤ 64) (hi : i < 696)
    (he : min 1074 (53 - (b : Int) - lpN ((i : Int) - 348)) = e) (hs : -(e - (64 - (b : Int)) + lpN ((i : Int) - 348) + 3) = (s : Int)) (h64 : s < 64)
    (hx : d * 2 ^ (64 - b) < 18446744073709551616) (hU : uscN (d * 2 ^ (64 - b)) (hiN i) (loN i) (2 ^ s) = U) (hUb : U < 4611686018427387904) (hsh : sh = decide (36028797018963966 ≤ U))
    (hm : m = ((if sh then 2 * (U / 4) + (if U % 4 = 0 then 0 else 1) else U) + 1 + (if sh then 2 * (U / 4) + (if U % 4 = 0 then 0 else 1) else U) / 4 % 2) / 4) (hk : k = -(e - (if sh then 1 else 0)))
    (hpk : ∀ W : World, Calls Tryz.prog 268 #[.int .u64 m, .int .i64 k] W fun e' w' => e' = .returned (.tuple #[.float .f64 r, ev]) ∧ w' = W) :
    Calls Tryz.prog 259 #[.int .u64 d, .int .i64 ((i : Int) - 348), .int .u64 0] w fun e' w' => e' = .returned (.tuple #[.float .f64 r, ev]) ∧ Below w.heap.size w w' := by
  have hlp : -1200 ≤ lpN ((i : Int) - 348) ∧ lpN ((i : Int) - 348) ≤ 1200 := by unfold lpN; omega
  have hga : Glob (w.alloc (.cells #[.int .u64 0, .int .u64 0, .int .i64 0] 245)) := hg.alloc _
  have hlt17 := hg.lt
  obtain ⟨hhi, hlo, hrow⟩ := row_is ((i : Int) - 348) (by omega) (by omega)
  rw [show ((i : Int) - 348 + 348).toNat = i from by omega] at hhi hlo hrow
  have hge : loN i ≤ hiN i * 18446744073709551616 := by omega
  have HUS := Lib.hid (fun (W : World) (b' : Nat) (c0 : W.cell? ⟨b', 0, Option.none⟩ = some (.int .u64 (hiN i))) (c1 : W.cell? ⟨b', 1, Option.none⟩ = some (.int .u64 (loN i))) (c2 : W.cell? ⟨b', 2, Option.none⟩ = some (.int .i64 s)) => uscale_at b' (d * 2 ^ (64 - b)) (hiN i) (loN i) s W hx hhi hlo hge h64 c0 c1 c2)
  rw [hU] at HUS
  have HLEN := Lib.hid (fun (W : World) => Tryz.bits_Len64 (d : Int) W (by omega) (by omega))
  have hb0 : Lib.bitLen (d : Int).toNat = b := by simpa using hb
  have HB0 := Lib.hid hb0
  obtain ⟨LP, hLP⟩ : ∃ LP, lpN ((i : Int) - 348) = LP := ⟨_, rfl⟩
  have HL2 := Lib.hid (l2p_any ((i : Int) - 348) · (by omega) (by omega))
  rw [hLP] at HL2 he hs hlp
  have he1 : -5000 ≤ e := by omega
  have he2 : e ≤ 1074 := by omega
  have HPR := Lib.hid (prescale_at w.heap.size i (e - (64 - (b : Int))) LP 245 (.int .u64 0) (.int .u64 0) (.int .i64 0) (w.alloc (.cells #[.int .u64 0, .int .u64 0, .int .i64 0] 245)) hga (heap_alloc_new _ _) hlt17 hi (by omega) (by omega) (by omega) (by omega))
  rw [hs] at HPR
  have HE := Lib.hid he
  have h64' : decide ((64 : Int) ≤ (s : Int)) = false := by rw [decide_eq_false_iff_not]; omega
  have hsx : IntKind.u64.wrap ((d : Int) * 2 ^ (64 - b)) = ((d * 2 ^ (64 - b) : Nat) : Int) := by
    rw [show ((d : Int) * 2 ^ (64 - b)) = ((d * 2 ^ (64 - b) : Nat) : Int) from by push_cast; rfl, IntKind.wrap_u64]; omega
  have hbs : ((64 : Int) - (b : Int)) = ((64 - b : Nat) : Int) := by omega
  have HBS := Lib.hid hbs
  have HB2 := Lib.hid (fun (x : Bool) (W : World) => b2i_any x W)
  have HUM : Hid (∀ W : World, Calls Tryz.prog 238 #[.int .u64 9007199254740992] W fun e w' => e = .returned (.int .u64 36028797018963966) ∧ W = w') := Lib.hid (fun W => unmin_any 9007199254740992 W (by decide) (by decide))
  have HPK := Lib.hid hpk
  have hx64 := hx
  obtain ⟨x, hxe⟩ : ∃ x, x = d * 2 ^ (64 - b) := ⟨_, rfl⟩
  rw [← hxe] at hsx HUS hx64
  have h8 : 36028797018963966 = 4 * 9007199254740992 - 2 := rfl
  have hand : bits .and .u64 (U : Int) 1 = (U : Int) % 2 := and_one_u64 (U : Int) (by omega) (by omega)
  have hoA : bits .or .u64 (U : Int) ((U : Int) % 2) = (U : Int) := by
    have := bits_or_u64_nat U (U % 2) (by omega) (by omega)
    rw [u_or_low] at this
    push_cast at this
    exact this
  have hoB : bits .or .u64 ((U : Int) / 2) ((U : Int) % 2) = ((2 * (U / 4) + (if U % 4 = 0 then 0 else 1) : Nat) : Int) := by
    have := bits_or_u64_nat (U / 2) (U % 2) (by omega) (by omega)
    rw [or_half] at this
    rw [← this]
    push_cast
    rfl
  have hU2 : 2 * (U / 4) + (if U % 4 = 0 then 0 else 1) < 4611686018427387904 := by split <;> omega
  obtain ⟨U2, hU2e⟩ : ∃ U2, U2 = 2 * (U / 4) + (if U % 4 = 0 then 0 else 1) := ⟨_, rfl⟩
  rw [← hU2e] at hoB hU2 hm
  have hgeq : decide ((36028797018963966 : Int) ≤ (U : Int)) = sh := by rw [hsh]; congr 1; exact propext ⟨fun h => by omega, fun h => by omega⟩
  have hmb : m < 4611686018427387904 := by rw [hm]; cases sh <;> simp only [if_true, if_false, Bool.false_eq_true] <;> omega
  have hor0 : bits .or .u64 0 (m : Int) = (m : Int) := by
    have := bits_or_u64_nat 0 m (by decide) (by omega)
    rw [Nat.zero_or] at this
    exact this
  have HM := Lib.hid hm
  have HK := Lib.hid hk
  clear hga hlt17 hg hb hb0 hLP hs he h64 hhi hlo hrow hge hx hxe hU hbs hpk hm hk hU2e hsh h8
  cases sh
  · simp only [if_false, Bool.false_eq_true] at HM HK
    go_enter Tryz.func259, Tryz.ntmps259
    go_wp2_with fail
    refine (HLEN.out _).mono ?_
    rintro e' w ⟨rfl, rfl⟩
    rw [HB0.out]
    go_wp2_with fail
    refine (HL2.out _).mono ?_
    rintro e' w' ⟨rfl, rfl⟩
    go_wp2_with fail
    rw [HE.out]
    refine HPR.out.mono ?_
    rintro e' w2 ⟨rfl, hc2, hb2', hz2⟩
    have k0 : w2.cell? ⟨w.heap.size, 0, Option.none⟩ = some (.int .u64 (hiN i)) := cell_of_row w2 w.heap.size 0 _ _ _ hc2
    have k1 : w2.cell? ⟨w.heap.size, 1, Option.none⟩ = some (.int .u64 (loN i)) := cell_of_row w2 w.heap.size 1 _ _ _ hc2
    have k2 : w2.cell? ⟨w.heap.size, 2, Option.none⟩ = some (.int .i64 s) := cell_of_row w2 w.heap.size 2 _ _ _ hc2
    have hbw : Below w.heap.size w w2 := ((Below.refl _ _).alloc (Nat.le_refl _) _).trans hb2'
    have HBW := Lib.hid hbw
    have HK0 := Lib.hid k0
    have HK1 := Lib.hid k1
    have HK2 := Lib.hid k2
    clear hc2 hb2' hz2 hbw k0 k1
    go_wp2_with fail
    refine (HUS.out w2 w.heap.size HK0.out HK1.out HK2.out).mono ?_
    rintro e' w3 ⟨rfl, n3, rfl⟩
    go_wp2_with fail
    refine (HUM.out _).mono ?_
    rintro e' w' ⟨rfl, rfl⟩
    go_wp2_with fail
    refine (HB2.out _ _).mono ?_
    rintro e' w' ⟨rfl, rfl⟩
    go_wp2_with fail
    refine (round_any U _ (by omega)).mono ?_
    rintro e' w' ⟨rfl, rfl⟩
    rw [← HM.out]
    go_wp2_with fail
    have HKE : Hid (-e = k) := Lib.hid (by have := HK.out; omega)
    rw [HKE.out]
    refine (HPK.out _).mono ?_
    rintro e' w4 ⟨rfl, hw4⟩
    subst hw4
    go_wp2_with fail
    refine bodyPost_ret (v := .tuple #[.float .f64 r, ev]) (by simp [results, Tryz.results259, go_sem]) rfl ⟨rfl, bDrewN HBW.out _⟩
  · simp only [if_true] at HM HK
    go_enter Tryz.func259, Tryz.ntmps259
    go_wp2_with fail
    refine (HLEN.out _).mono ?_
    rintro e' w ⟨rfl, rfl⟩
    rw [HB0.out]
    go_wp2_with fail
    refine (HL2.out _).mono ?_
    rintro e' w' ⟨rfl, rfl⟩
    go_wp2_with fail
    rw [HE.out]
    refine HPR.out.mono ?_
    rintro e' w2 ⟨rfl, hc2, hb2', hz2⟩
    have k0 : w2.cell? ⟨w.heap.size, 0, Option.none⟩ = some (.int .u64 (hiN i)) := cell_of_row w2 w.heap.size 0 _ _ _ hc2
    have k1 : w2.cell? ⟨w.heap.size, 1, Option.none⟩ = some (.int .u64 (loN i)) := cell_of_row w2 w.heap.size 1 _ _ _ hc2
    have k2 : w2.cell? ⟨w.heap.size, 2, Option.none⟩ = some (.int .i64 s) := cell_of_row w2 w.heap.size 2 _ _ _ hc2
    have hbw : Below w.heap.size w w2 := ((Below.refl _ _).alloc (Nat.le_refl _) _).trans hb2'
    have HBW := Lib.hid hbw
    have HK0 := Lib.hid k0
    have HK1 := Lib.hid k1
    have HK2 := Lib.hid k2
    clear hc2 hb2' hz2 hbw k0 k1
    go_wp2_with fail
    refine (HUS.out w2 w.heap.size HK0.out HK1.out HK2.out).mono ?_
    rintro e' w3 ⟨rfl, n3, rfl⟩
    go_wp2_with fail
    refine (HUM.out _).mono ?_
    rintro e' w' ⟨rfl, rfl⟩
    go_wp2_with fail
    refine (HB2.out _ _).mono ?_
    rintro e' w' ⟨rfl, rfl⟩
    go_wp2_with fail
    refine (round_any U2 _ (by omega)).mono ?_
    rintro e' w' ⟨rfl, rfl⟩
    rw [← HM.out]
    go_wp2_with fail
    have HKE : Hid (-(e - 1) = k) := Lib.hid (by have := HK.out; omega)
    rw [HKE.out]
    refine (HPK.out _).mono ?_
    rintro e' w4 ⟨rfl, hw4⟩
    subst hw4
    go_wp2_with fail
    refine bodyPost_ret (v := .tuple #[.float .f64 r, ev]) (by simp [results, Tryz.results259, go_sem]) rfl ⟨rfl, bDrewN HBW.out _⟩

theorem pf64_any (d : Nat) (p : Int) (w : World) (hg : Glob w) (h1 : 1 ≤ d) (h2 : d < 18446744073709551616) (hp1 : -348 ≤ p) (hp2 : p ≤ 347) :
    Calls Tryz.prog 259 #[.int .u64 d, .int .i64 p, .int .u64 0] w (PfPost d p w.heap.size w) := by
  obtain ⟨b1, b2, b3⟩ := bitLen_bounds d h1 h2
  have b4 := bitLen_le d 64 h1 h2 (by omega)
  obtain ⟨b, hb⟩ : ∃ b, Lib.bitLen d = b := ⟨_, rfl⟩
  rw [hb] at b1 b2 b3 b4
  obtain ⟨i, hi⟩ : ∃ i : Nat, p = (i : Int) - 348 := ⟨(p + 348).toNat, by omega⟩
  have hlp : -1200 ≤ lpN p ∧ lpN p ≤ 1200 := by unfold lpN; omega
  obtain ⟨e, he⟩ : ∃ e : Int, min 1074 (53 - (b : Int) - lpN p) = e := ⟨_, rfl⟩
  obtain ⟨s, hs⟩ : ∃ s : Nat, (s : Int) = 61 - b - e - lpN p := ⟨(61 - (b : Int) - e - lpN p).toNat, by omega⟩
  obtain ⟨E, hE⟩ : ∃ E : Nat, (E : Int) = 1074 - e := ⟨(1074 - e).toNat, by omega⟩
  obtain ⟨_, hlo, hrow⟩ := row_is p hp1 hp2
  rw [show (p + 348).toNat = i by omega] at hlo hrow
  obtain ⟨G, n, hG, hU, hn, hfar, hA, hB⟩ := parse_plain p hp1 hp2 d b s E (hiN i) (loN i) b1 b4 b2 b3 hlo hrow (by omega) (by omega) (by omega)
  have hsh : -(e - (64 - (b : Int)) + lpN p + 3) = (s : Int) := by omega
  by_cases h64 : 64 ≤ s
  · have := pf_far d b i s e w hg h2 hb b1 b4 (by omega) (by rw [← hi]; exact he) (by rw [← hi]; exact hsh) h64
    rw [← hi] at this
    exact this.mono fun e' w' ⟨h3, h4⟩ => ⟨0, hfar h64, h3, h4⟩
  · have hx2 : d * 2 ^ (64 - b) < 18446744073709551616 := by
      rw [show 18446744073709551616 = 2 ^ b * 2 ^ (64 - b) from by rw [← Nat.pow_add, show b + (64 - b) = 64 by omega]]
      exact (Nat.mul_lt_mul_right (Nat.two_pow_pos _)).2 b3
    have hfl := unr_floor n G hG
    have hq : n / G < 18014398509481983 := (Nat.div_lt_iff_lt_mul hG).2 hn
    have hat := unr_atleast n G 9007199254740992 hG (by decide)
    have hrd := unr_round n G hG
    have hha := unr_half n G hG
    have hrd2 := unr_round n (2 * G) (by omega)
    have hEE : E ≤ 3000 := by omega
    obtain ⟨U, hUe⟩ : ∃ U, unr n G = U := ⟨_, rfl⟩
    rw [hUe] at hU hfl hat hrd hha
    have hUb : U < 4611686018427387904 := by omega
    by_cases hsb : 36028797018963966 ≤ U
    · have hge : 18014398509481983 * G ≤ 2 * n := hat.1 hsb
      obtain ⟨m1, m2, m3⟩ := hB hge
      have := pf_near d b i s U (mOf n (2 * G)) _ _ e ((E + 1 : Nat) - 1074) true w hg h2 hb b1 b4 (by omega) (by rw [← hi]; exact he) (by rw [← hi]; exact hsh) (by omega) hx2 hU hUb (by rw [decide_eq_true hsb])
        (by simp only [if_true]; rw [hha, hrd2]; rfl) (by simp only [if_true]; omega) (fun W => pack_any (mOf n (2 * G)) (E + 1) W m1 (.inr m2) (by omega))
      rw [← hi] at this
      exact this.mono fun e' w' ⟨h3, h4⟩ => ⟨_, m3, h3, h4⟩
    · have hlt : 2 * n < 18014398509481983 * G := by
        rcases Nat.lt_or_ge (2 * n) (18014398509481983 * G) with h | h
        · exact h
        · exact absurd (hat.2 h) hsb
      obtain ⟨m1, m2, m3⟩ := hA hlt
      have := pf_near d b i s U (mOf n G) _ _ e ((E : Int) - 1074) false w hg h2 hb b1 b4 (by omega) (by rw [← hi]; exact he) (by rw [← hi]; exact hsh) (by omega) hx2 hU hUb (by rw [decide_eq_false hsb])
        (by simp only [if_false, Bool.false_eq_true]; rw [hrd]; rfl) (by simp only [if_false, Bool.false_eq_true]; omega) (fun W => pack_any (mOf n G) E W m1 m2 (by omega))
      rw [← hi] at this
      exact this.mono fun e' w' ⟨h3, h4⟩ => ⟨_, m3, h3, h4⟩
end Go.Proofs.YtckaoeloofbklaaGreatDoor

/- atof64exact. -/
namespace Go.Proofs.YtckaoeloofbklaaGreatDoor
open Go Go.RowKit
set_option exponentiation.threshold 5000

/-- more of the library's tables: below block K -/
structure GlobT (K : Nat) (w : World) : Prop where
  lt : 17 ≤ K
  le : K ≤ w.heap.size
  inf : w.cell? ⟨11, 0, Option.none⟩ = some (.int .u64 52) ∧ w.cell? ⟨11, 1, Option.none⟩ = some (.int .u64 11) ∧ w.cell? ⟨11, 2, Option.none⟩ = some (.int .i64 (-1023))
  p10 : ∃ b o cap : Nat, b < K ∧ w.cell? ⟨16, 0, Option.none⟩ = some (.slice (some ⟨b, o, Option.none⟩) 23 cap) ∧ ∀ k, k < 23 → w.cell? ⟨b, o + k, Option.none⟩ = some (.float .f64 (p10N k))
  deb : w.cell? ⟨7, 1, Option.none⟩ = some (.int .u8 1) ∧ w.cell? ⟨7, 15, Option.none⟩ = some (.int .u8 4)
  blk : ∃ (ca cb : Array Value) (ta tb : TypeId), w.heap[(10 : Nat)]? = some (.cells ca ta (0, 0)) ∧ w.heap[(11 : Nat)]? = some (.cells cb tb (0, 0))
  rng : ∃ te pe, w.cell? ⟨5, 0, Option.none⟩ = some (.iface te pe)

theorem GlobT.below {K : Nat} {w w' : World} {B : Nat} (h : GlobT K w) (hB : K ≤ B) (hb : Below B w w') : GlobT K w' := by
  have hlt := h.lt
  refine ⟨h.lt, Nat.le_trans h.le hb.size, ?_, ?_, ?_, ?_, ?_⟩
  · obtain ⟨a, b, c⟩ := h.inf
    have hg : 11 < B := Nat.lt_of_lt_of_le (by decide) (Nat.le_trans h.lt hB)
    exact ⟨(hb.cell (p := ⟨11, 0, Option.none⟩) hg).trans a, (hb.cell (p := ⟨11, 1, Option.none⟩) hg).trans b, (hb.cell (p := ⟨11, 2, Option.none⟩) hg).trans c⟩
  · obtain ⟨b, o, cap, h1, h2, h3⟩ := h.p10
    have hg : 16 < B := Nat.lt_of_lt_of_le (by decide) (Nat.le_trans h.lt hB)
    exact ⟨b, o, cap, h1, (hb.cell (p := ⟨16, 0, Option.none⟩) hg).trans h2, fun k hk => (hb.cell (p := ⟨b, o + k, Option.none⟩) (Nat.lt_of_lt_of_le h1 hB)).trans (h3 k hk)⟩
  · obtain ⟨a, b⟩ := h.deb
    have hg : 7 < B := Nat.lt_of_lt_of_le (by decide) (Nat.le_trans h.lt hB)
    exact ⟨(hb.cell (p := ⟨7, 1, Option.none⟩) hg).trans a, (hb.cell (p := ⟨7, 15, Option.none⟩) hg).trans b⟩
  · obtain ⟨ca, cb, ta, tb, h1, h2⟩ := h.blk
    have hg : ∀ b, b < 17 → b < B := fun b hb => Nat.lt_of_lt_of_le hb (Nat.le_trans h.lt hB)
    exact ⟨ca, cb, ta, tb, (hb.block _ (hg _ (by decide))).trans h1, (hb.block _ (hg _ (by decide))).trans h2⟩
  · obtain ⟨te, pe, h1⟩ := h.rng
    have hg : 5 < B := Nat.lt_of_lt_of_le (by decide) (Nat.le_trans h.lt hB)
    exact ⟨te, pe, (hb.cell (p := ⟨5, 0, Option.none⟩) hg).trans h1⟩
theorem GlobT.on {K : Nat} {w w' : World} (h : GlobT K w) (hb : Below w.heap.size w w') : GlobT K w' := h.below h.le hb

/-- what is handed back -/
def ExPost (d : Nat) (p : Int) (w : World) (e : Ending) (w' : World) : Prop := ∃ (r : Nat) (ok : Bool), e = .returned (.tuple #[.float .f64 r, .bool ok]) ∧ (ok = true → Near (dX d p) (dQ p) r ∧ r < INF) ∧ w' = w

theorem near_fin {X Q r : Nat} (h : Near X Q r) (hX : X < Q * 2 ^ 2098) : r < INF := by
  have h1 := h.inf
  rcases Nat.lt_or_ge r INF with h2 | h2
  · exact h2
  · exfalso
    have hr : r = INF := by omega
    subst hr
    rcases h.lo with h3 | ⟨h3, _⟩
    · exact absurd h3 (by decide)
    · rw [V_INF, Nat.mul_add] at h3
      omega

set_option exponentiation.threshold 5000
theorem pow_ten_pos (k : Nat) : 0 < 10 ^ k := Nat.pow_pos (by decide)
theorem dX_pos (d k : Nat) : dX d (k : Int) = 2 * (d * 10 ^ k * 2 ^ 1074) := rfl
theorem dQ_pos1 (k : Nat) : dQ (k : Int) = 1 := by unfold dQ; rw [show (-(k : Int)).toNat = 0 by omega, Nat.pow_zero]
theorem dX_neg (d k : Nat) : dX d (-(k : Int)) = 2 * (d * 2 ^ 1074) := by unfold dX; rw [show (-(k : Int)).toNat = 0 by omega, Nat.pow_zero, Nat.mul_one]
theorem dQ_neg (k : Nat) : dQ (-(k : Int)) = 10 ^ k := by unfold dQ; rw [Int.neg_neg, Int.toNat_natCast]
theorem ten_lim (A : Nat) (h : A ≤ 10 ^ 38) : 2 * (A * 2 ^ 1074) < 1 * 2 ^ 2098 := by
  have h1 : A * 2 ^ 1074 ≤ 10 ^ 38 * 2 ^ 1074 := Nat.mul_le_mul_right _ h
  have h2 : 2 * (10 ^ 38 * 2 ^ 1074) < 1 * 2 ^ 2098 := by decide +kernel
  exact Nat.lt_of_le_of_lt (Nat.mul_le_mul_left 2 h1) h2
theorem ten_lim2 (A B : Nat) (h : A ≤ 10 ^ 38) (hB : 0 < B) : 2 * (A * 2 ^ 1074) < B * 2 ^ 2098 :=
  Nat.lt_of_lt_of_le (ten_lim A h) (Nat.mul_le_mul_right _ hB)

set_option maxRecDepth 100000 in
set_option maxHeartbeats 4000000 in
theorem exact_great (d : Nat) (p : Int) (K : Nat) (w : World) (hg : GlobT K w) (h1 : 4503599627370496 ≤ d) (_h2 : d < 18446744073709551616) :
    Calls Tryz.prog 258 #[.int .u64 d, .int .i64 p, .bool false] w (ExPost d p w) := by
  obtain ⟨i0, i1, i2⟩ := hg.inf
  have hq : ((d : Int) / 4503599627370496 != 0) = true := by rw [bne_iff_ne]; omega
  go_enter Tryz.func258, Tryz.ntmps258
  go_wp2_with fail
  refine bodyPost_ret (v := .tuple #[.float .f64 0, .bool false]) (by simp [results, Tryz.results258, go_sem]) rfl ⟨0, false, rfl, fun h => absurd h (by decide), rfl⟩
set_option maxRecDepth 100000 in
set_option maxHeartbeats 4000000 in
theorem exact_zero (d : Nat) (K : Nat) (w : World) (hg : GlobT K w) (_h1 : 1 ≤ d) (h2 : d < 4503599627370496) :
    Calls Tryz.prog 258 #[.int .u64 d, .int .i64 0, .bool false] w (ExPost d 0 w) := by
  obtain ⟨i0, i1, i2⟩ := hg.inf
  have hq : ((d : Int) / 4503599627370496 != 0) = false := by rw [bne_eq_false_iff_eq]; omega
  obtain ⟨v0, v1⟩ := conv_nat d (by omega)
  have hf : floatOfInt .f64 (d : Int) = Ieee.double.nearest false d 0 := by
    show Ieee.double.nearest (decide ((d : Int) < 0)) (d : Int).natAbs 0 = _
    rw [decide_eq_false (by omega)]; rfl
  generalize Ieee.double.nearest false d 0 = f0 at *
  have HN : Hid (Near (dX d 0) (dQ 0) f0 ∧ f0 < INF) := Lib.hid (by
    refine ⟨?_, v1⟩
    have := near_self f0 (Nat.le_of_lt v1)
    rw [v0] at this
    rw [show dX d 0 = 2 * (d * 2 ^ 1074) from dX_neg d 0, show dQ 0 = 1 from dQ_neg 0]
    exact this)
  clear v0
  go_enter Tryz.func258, Tryz.ntmps258
  go_wp2_with fail
  refine bodyPost_ret (v := .tuple #[.float .f64 f0, .bool true]) (by simp [results, Tryz.results258, go_sem]) rfl ⟨f0, true, rfl, fun _ => HN.out, rfl⟩
set_option maxRecDepth 100000 in
set_option maxHeartbeats 4000000 in
theorem exact_out (d : Nat) (p : Int) (K : Nat) (w : World) (hg : GlobT K w) (h1 : 1 ≤ d) (h2 : d < 4503599627370496) (hp : p < -22 ∨ 37 < p) :
    Calls Tryz.prog 258 #[.int .u64 d, .int .i64 p, .bool false] w (ExPost d p w) := by
  obtain ⟨i0, i1, i2⟩ := hg.inf
  have hq : ((d : Int) / 4503599627370496 != 0) = false := by rw [bne_eq_false_iff_eq]; omega
  obtain ⟨v0, v1⟩ := conv_nat d (by omega)
  have hf : floatOfInt .f64 (d : Int) = Ieee.double.nearest false d 0 := by
    show Ieee.double.nearest (decide ((d : Int) < 0)) (d : Int).natAbs 0 = _
    rw [decide_eq_false (by omega)]; rfl
  generalize Ieee.double.nearest false d 0 = f0 at *
  have h0 : (p == 0) = false := by rw [beq_eq_false_iff_ne]; omega
  clear v0
  rcases hp with hp | hp
  all_goals
    go_enter Tryz.func258, Tryz.ntmps258
    go_wp2_with fail
    refine bodyPost_ret (v := .tuple #[.float .f64 f0, .bool false]) (by simp [results, Tryz.results258, go_sem]) rfl ⟨f0, false, rfl, fun h => absurd h (by decide), rfl⟩
set_option maxRecDepth 100000 in
set_option maxHeartbeats 4000000 in
theorem exact_mul (d k : Nat) (K : Nat) (w : World) (hg : GlobT K w) (h1 : 1 ≤ d) (h2 : d < 4503599627370496) (hk1 : 1 ≤ k) (hk2 : k ≤ 22) :
    Calls Tryz.prog 258 #[.int .u64 d, .int .i64 k, .bool false] w (ExPost d k w) := by
  obtain ⟨i0, i1, i2⟩ := hg.inf
  have hq : ((d : Int) / 4503599627370496 != 0) = false := by rw [bne_eq_false_iff_eq]; omega
  obtain ⟨v0, v1⟩ := conv_nat d (by omega)
  have hf : floatOfInt .f64 (d : Int) = Ieee.double.nearest false d 0 := by
    show Ieee.double.nearest (decide ((d : Int) < 0)) (d : Int).natAbs 0 = _
    rw [decide_eq_false (by omega)]; rfl
  generalize Ieee.double.nearest false d 0 = f0 at *
  obtain ⟨b, o, cap, _, hs, hc⟩ := hg.p10
  have hck := hc k (by omega)
  obtain ⟨t1, t2⟩ := p10_is k (by omega)
  generalize p10N k = q at *
  have h0 : ((k : Int) == 0) = false := by rw [beq_eq_false_iff_ne]; omega
  have g2 := ord_lt15 f0 (Nat.le_of_lt v1)
  have g1 := ord_gt15 f0 (Nat.le_of_lt v1)
  have hself : Near (2 * (d * 2 ^ 1074)) 1 f0 := by rw [← v0]; exact near_self f0 (Nat.le_of_lt v1)
  by_cases hd : d ≤ 10 ^ 15
  · have hle := near_within d f0 hd hself
    rw [decide_eq_false (by omega)] at g1
    obtain ⟨r, hr, hn⟩ := mul_whole f0 q d (10 ^ k) v1 t2 v0 t1 h1 (pow_ten_pos k)
    have hm : ∀ W : World, (binOp .mul 128 (.float .f64 f0) (.float .f64 q)).run Tryz.prog W = .ok (.float .f64 r) W := fun W => run_float_arith W .mul _ .f64 f0 q r hr
    have HN : Hid (Near (dX d k) (dQ k) r ∧ r < INF) := Lib.hid (by
      have h38 : d * 10 ^ k ≤ 10 ^ 38 := by
        refine Nat.le_trans (Nat.mul_le_mul hd (Nat.pow_le_pow_right (by decide) hk2)) ?_
        rw [← Nat.pow_add]; exact Nat.pow_le_pow_right (by decide) (by decide)
      rw [dX_pos, dQ_pos1]
      exact ⟨hn, near_fin hn (ten_lim _ h38)⟩)
    clear v0 t1 hself hr hn hd hc hg
    go_enter Tryz.func258, Tryz.ntmps258
    go_wp2_with fail
    refine bodyPost_ret (v := .tuple #[.float .f64 r, .bool true]) (by simp [results, Tryz.results258, go_sem]) rfl ⟨r, true, rfl, fun _ => HN.out, rfl⟩
  · have hle := near_above d f0 (by omega) hself
    rw [decide_eq_true hle] at g1
    clear v0 t1 hself hd hc hg
    go_enter Tryz.func258, Tryz.ntmps258
    go_wp2_with fail
    refine bodyPost_ret (v := .tuple #[.float .f64 f0, .bool false]) (by simp [results, Tryz.results258, go_sem]) rfl ⟨f0, false, rfl, fun h => absurd h (by decide), rfl⟩
set_option maxRecDepth 100000 in
set_option maxHeartbeats 4000000 in
theorem exact_mul2 (d j : Nat) (K : Nat) (w : World) (hg : GlobT K w) (h1 : 1 ≤ d) (h2 : d < 4503599627370496) (hk1 : 1 ≤ j) (hk2 : j ≤ 15) :
    Calls Tryz.prog 258 #[.int .u64 d, .int .i64 ((j : Int) + 22), .bool false] w (ExPost d ((j : Int) + 22) w) := by
  obtain ⟨i0, i1, i2⟩ := hg.inf
  have hq : ((d : Int) / 4503599627370496 != 0) = false := by rw [bne_eq_false_iff_eq]; omega
  obtain ⟨v0, v1⟩ := conv_nat d (by omega)
  have hf : floatOfInt .f64 (d : Int) = Ieee.double.nearest false d 0 := by
    show Ieee.double.nearest (decide ((d : Int) < 0)) (d : Int).natAbs 0 = _
    rw [decide_eq_false (by omega)]; rfl
  generalize Ieee.double.nearest false d 0 = f0 at *
  obtain ⟨b, o, cap, _, hs, hc⟩ := hg.p10
  have hck := hc j (by omega)
  have hcl := hc 22 (by omega)
  obtain ⟨t1, t2⟩ := p10_is j (by omega)
  obtain ⟨t3, t4⟩ := p10_is 22 (by omega)
  generalize p10N j = q at *
  generalize p10N 22 = q2 at *
  have h0 : ((j : Int) + 22 == 0) = false := by rw [beq_eq_false_iff_ne]; omega
  obtain ⟨r1, hr, hn⟩ := mul_whole f0 q d (10 ^ j) v1 t2 v0 t1 h1 (pow_ten_pos j)
  have hm : ∀ W : World, (binOp .mul 128 (.float .f64 f0) (.float .f64 q)).run Tryz.prog W = .ok (.float .f64 r1) W := fun W => run_float_arith W .mul _ .f64 f0 q r1 hr
  have h38 : d * 10 ^ j ≤ 10 ^ 38 := by
    refine Nat.le_trans (Nat.mul_le_mul (show d ≤ 10 ^ 16 by omega) (Nat.pow_le_pow_right (by decide) hk2)) ?_
    rw [← Nat.pow_add]; exact Nat.pow_le_pow_right (by decide) (by decide)
  have hr1 := near_fin hn (ten_lim _ h38)
  have g2 := ord_lt15 r1 (Nat.le_of_lt hr1)
  have g1 := ord_gt15 r1 (Nat.le_of_lt hr1)
  by_cases hd : d * 10 ^ j ≤ 10 ^ 15
  · have hle := near_within _ r1 hd hn
    rw [decide_eq_false (by omega)] at g1
    obtain ⟨u0, u1⟩ := near_whole _ r1 (by omega) hn
    obtain ⟨r, hr2, hn2⟩ := mul_whole r1 q2 (d * 10 ^ j) (10 ^ 22) u1 t4 u0 t3 (Nat.mul_pos h1 (pow_ten_pos j)) (pow_ten_pos 22)
    have hm2 : ∀ W : World, (binOp .mul 128 (.float .f64 r1) (.float .f64 q2)).run Tryz.prog W = .ok (.float .f64 r) W := fun W => run_float_arith W .mul _ .f64 r1 q2 r hr2
    have HN : Hid (Near (dX d ((j : Int) + 22)) (dQ ((j : Int) + 22)) r ∧ r < INF) := Lib.hid (by
      have h38' : d * 10 ^ j * 10 ^ 22 ≤ 10 ^ 38 := by
        refine Nat.le_trans (Nat.mul_le_mul_right _ hd) ?_
        rw [← Nat.pow_add]; exact Nat.pow_le_pow_right (by decide) (by decide)
      rw [show ((j : Int) + 22) = ((j + 22 : Nat) : Int) from by push_cast; rfl, dX_pos, dQ_pos1, Nat.pow_add, ← Nat.mul_assoc d]
      exact ⟨hn2, near_fin hn2 (ten_lim _ h38')⟩)
    clear v0 t1 t3 hr hn hd hc hg u0 hr2 hn2 h38
    go_enter Tryz.func258, Tryz.ntmps258
    go_wp2_with fail
    refine bodyPost_ret (v := .tuple #[.float .f64 r, .bool true]) (by simp [results, Tryz.results258, go_sem]) rfl ⟨r, true, rfl, fun _ => HN.out, rfl⟩
  · have hle := near_above _ r1 (by omega) hn
    rw [decide_eq_true hle] at g1
    clear v0 t1 t3 hr hn hd hc hg h38
    go_enter Tryz.func258, Tryz.ntmps258
    go_wp2_with fail
    refine bodyPost_ret (v := .tuple #[.float .f64 r1, .bool false]) (by simp [results, Tryz.results258, go_sem]) rfl ⟨r1, false, rfl, fun h => absurd h (by decide), rfl⟩
set_option maxRecDepth 100000 in
set_option maxHeartbeats 4000000 in
theorem exact_div (d k : Nat) (K : Nat) (w : World) (hg : GlobT K w) (h1 : 1 ≤ d) (h2 : d < 4503599627370496) (hk1 : 1 ≤ k) (hk2 : k ≤ 22) :
    Calls Tryz.prog 258 #[.int .u64 d, .int .i64 (-(k : Int)), .bool false] w (ExPost d (-(k : Int)) w) := by
  obtain ⟨i0, i1, i2⟩ := hg.inf
  have hq : ((d : Int) / 4503599627370496 != 0) = false := by rw [bne_eq_false_iff_eq]; omega
  obtain ⟨v0, v1⟩ := conv_nat d (by omega)
  have hf : floatOfInt .f64 (d : Int) = Ieee.double.nearest false d 0 := by
    show Ieee.double.nearest (decide ((d : Int) < 0)) (d : Int).natAbs 0 = _
    rw [decide_eq_false (by omega)]; rfl
  generalize Ieee.double.nearest false d 0 = f0 at *
  obtain ⟨b, o, cap, _, hs, hc⟩ := hg.p10
  have hck := hc k (by omega)
  obtain ⟨t1, t2⟩ := p10_is k (by omega)
  generalize p10N k = q at *
  have h0 : (-(k : Int) == 0) = false := by rw [beq_eq_false_iff_ne]; omega
  have h0' : ((k : Int) == 0) = false := by rw [beq_eq_false_iff_ne]; omega
  obtain ⟨r, hr, hn⟩ := div_whole f0 q d (10 ^ k) v1 t2 v0 t1 h1 (pow_ten_pos k) (Nat.lt_of_le_of_lt (Nat.pow_le_pow_right (by decide) hk2) (by decide +kernel))
  have hm : ∀ W : World, (binOp .quo 128 (.float .f64 f0) (.float .f64 q)).run Tryz.prog W = .ok (.float .f64 r) W := fun W => run_float_arith W .quo _ .f64 f0 q r hr
  have HN : Hid (Near (dX d (-(k : Int))) (dQ (-(k : Int))) r ∧ r < INF) := Lib.hid (by
    rw [dX_neg, dQ_neg]
    exact ⟨hn, near_fin hn (ten_lim2 _ _ (show d ≤ 10 ^ 38 by omega) (pow_ten_pos k))⟩)
  clear v0 t1 hr hn hc hg
  go_enter Tryz.func258, Tryz.ntmps258
  go_wp2_with fail
  refine bodyPost_ret (v := .tuple #[.float .f64 r, .bool true]) (by simp [results, Tryz.results258, go_sem]) rfl ⟨r, true, rfl, fun _ => HN.out, rfl⟩

theorem exact_any (d : Nat) (p : Int) (K : Nat) (w : World) (hg : GlobT K w) (h1 : 1 ≤ d) (h2 : d < 18446744073709551616) :
    Calls Tryz.prog 258 #[.int .u64 d, .int .i64 p, .bool false] w (ExPost d p w) := by
  by_cases hd : 4503599627370496 ≤ d
  · exact exact_great d p K w hg hd h2
  · replace hd : d < 4503599627370496 := by omega
    rcases (by omega : p = 0 ∨ (p < -22 ∨ 37 < p) ∨ (1 ≤ p ∧ p ≤ 22) ∨ (23 ≤ p ∧ p ≤ 37) ∨ (-22 ≤ p ∧ p ≤ -1)) with rfl | h | h | h | h
    · exact exact_zero d K w hg h1 hd
    · exact exact_out d p K w hg h1 hd h
    · obtain ⟨k, rfl⟩ : ∃ k : Nat, p = k := ⟨p.toNat, by omega⟩
      exact exact_mul d k K w hg h1 hd (by omega) (by omega)
    · obtain ⟨k, rfl⟩ : ∃ k : Nat, p = (k : Int) + 22 := ⟨(p - 22).toNat, by omega⟩
      exact exact_mul2 d k K w hg h1 hd (by omega) (by omega)
    · obtain ⟨k, rfl⟩ : ∃ k : Nat, p = -(k : Int) := ⟨(-p).toNat, by omega⟩
      exact exact_div d k K w hg h1 hd (by omega) (by omega)
end Go.Proofs.YtckaoeloofbklaaGreatDoor

/- FormatFloat, at 'e' and as few digits as there may be. -/
namespace Go.Proofs.YtckaoeloofbklaaGreatDoor
open Go Go.RowKit Go.Sort Go.Lib

def z24 : Array Value := #[.int .u8 0, .int .u8 0, .int .u8 0, .int .u8 0, .int .u8 0, .int .u8 0, .int .u8 0, .int .u8 0, .int .u8 0, .int .u8 0, .int .u8 0, .int .u8 0, .int .u8 0, .int .u8 0, .int .u8 0, .int .u8 0, .int .u8 0, .int .u8 0, .int .u8 0, .int .u8 0, .int .u8 0, .int .u8 0, .int .u8 0, .int .u8 0]

theorem strOf_map (l : List UInt8) : strOfNums (l.map fun x => (x.toNat : Int)) = ⟨l.toArray⟩ := by
  unfold strOfNums
  congr 2
  rw [List.map_map]
  conv => rhs; rw [← List.map_id l]
  refine List.map_congr_left fun x _ => ?_
  simp

/-- a row of the call's own, as a string -/
theorem Row.text {base : Nat} {S : Nat → Prop} {W0 W : World} {v : Value} {l : List UInt8} (h : Row base S W0 W v l) : (convert 28 9 v).run Tryz.prog W = .ok (.string ⟨l.toArray⟩) W := by
  rcases h.own.2 with ⟨h1, h2⟩ | ⟨g, cap, cur, h1, h2, h3, h4, h5, h6, h7⟩
  · obtain rfl := List.eq_nil_of_length_eq_zero h2
    rw [h1]
    exact run_convert_bytes_nil W _ _ Tryz.underlying28 Tryz.underlying5 0 0 _ Tryz.underlying9
  · rw [h1, ← strOf_map]
    refine run_convert_bytes_arg W _ _ Tryz.underlying28 Tryz.underlying5 g 0 l.length cap (l.map fun x => (x.toNat : Int)) (by simp) (fun i hi => ?_) _ Tryz.underlying9
    rw [Nat.zero_add, cell_of_row W g i _ _ _ h3]
    have h8 := congrArg (fun q : List Value => q[i]?) h7
    simp only [Nat.mul_one, List.getElem?_take, hi, if_true, Array.getElem?_toList] at h8
    rw [h8]
    simp [encB, hi]

set_option maxRecDepth 100000 in
set_option maxHeartbeats 1000000 in
theorem iformat_any (b : Nat) (w : World) (hg : Glob w) (hb1 : 0 < b) (hb2 : b < 9218868437227405312) :
    Calls Tryz.prog 134 #[.float .f64 b, .int .u8 101, .int .i64 (-1), .int .i64 64] w fun e w' => e = .returned (.string ⟨(fmtB b).toArray⟩) ∧ Below w.heap.size w w' := by
  have hal : Below w.heap.size w (w.alloc (.cells z24 5)) := (Below.refl _ _).alloc (Nat.le_refl _) _
  have hrow : Row w.heap.size (fun _ => False) (w.alloc (.cells z24 5)) (w.alloc (.cells z24 5)) (.slice (some ⟨w.heap.size, 0, Option.none⟩) 0 24) [] :=
    ⟨World.ownsRow_made w z24 24 (Nat.le_refl _) (by unfold maxLen; omega) (by rfl), fun _ h => h.elim, fun _ h => h.elim, fun _ h => h.elim, Below.refl _ _, by simp⟩
  have HF := Lib.hid (ftoa_any w.heap.size b _ _ (hg.below hg.lt hal) hrow hb1 hb2)
  have HAL := Lib.hid hal
  have HX := Lib.hid (fun (W W' : World) (v : Value) (l : List UInt8) (h : Row w.heap.size (fun _ => False) W W' v l) => h.text)
  clear hg hrow hal
  have hmax : max (3 : Int) 24 = 24 := by decide
  have hmk : ∀ W : World, (Instr.makeSlice 28 (.int .i64 0) (.int .i64 24)).run Tryz.prog W = .ok (.slice (some ⟨W.heap.size, 0, Option.none⟩) 0 24) (W.alloc (.cells z24 5)) := fun _ => by kernel_rfl
  generalize fmtB b = R at *
  go_enter Tryz.func134, Tryz.ntmps134
  go_wp2_with fail
  refine HF.out.mono ?_
  rintro e w5 ⟨v5, rfl, hr5⟩
  have hcv := HX.out _ _ _ _ hr5
  have HB := Lib.hid hr5.below
  clear hr5
  go_wp2_with fail
  go_ret
  exact ⟨rfl, HAL.out.trans HB.out⟩
theorem format_any (b : Nat) (w : World) (hg : Glob w) (hb1 : 0 < b) (hb2 : b < 9218868437227405312) :
    Calls Tryz.prog 99 #[.float .f64 b, .int .u8 101, .int .i64 (-1), .int .i64 64] w fun e w' => e = .returned (.string ⟨(fmtB b).toArray⟩) ∧ Below w.heap.size w w' := by
  have HF := Lib.hid (iformat_any b w hg hb1 hb2)
  clear hg
  go_enter Tryz.func99, Tryz.ntmps99
  go_wp2_with fail
  refine HF.out.mono ?_
  rintro e w5 ⟨rfl, hb⟩
  have HB := Lib.hid hb
  clear hb
  go_wp2_with fail
  go_ret
  exact ⟨rfl, HB.out⟩
end Go.Proofs.YtckaoeloofbklaaGreatDoor

/- num.decimal. -/
namespace Go.Proofs.YtckaoeloofbklaaGreatDoor
open Go Go.RowKit

/-- where a state and a class lead -/
def nextL : List Nat := [0, 0, 0, 0, 0, 0, 0, 0, 2, 3, 5, 0, 0, 0, 0, 0, 0, 12, 8, 0, 0, 0, 3, 3, 12, 8, 0, 4, 0, 3, 3, 0, 0, 0, 0, 0, 6, 6, 0, 0, 0, 0, 0, 6, 6, 0, 8, 0, 7, 0, 6, 6, 0, 0, 0, 0, 0, 10, 10, 0, 0, 9, 0, 0, 10, 10, 0, 0, 0, 0, 0, 10, 10, 0, 0, 0, 11, 0, 10, 10, 0, 0, 0, 0, 0, 6, 6, 0, 8, 0, 0]
def nextN (s c : Nat) : Nat := nextL.getD (s * 7 + c) 0
def nextV : Array Value := (nextL.map fun n => Value.int .i64 (n : Nat)).toArray
def zeroV : Array Value := #[.int .i64 0, .int .i64 0, .int .i64 0, .int .i64 0, .int .i64 0, .int .i64 0, .int .i64 0, .int .i64 0, .int .i64 0, .int .i64 0, .int .i64 0, .int .i64 0, .int .i64 0, .int .i64 0, .int .i64 0, .int .i64 0, .int .i64 0, .int .i64 0, .int .i64 0, .int .i64 0, .int .i64 0, .int .i64 0, .int .i64 0, .int .i64 0, .int .i64 0, .int .i64 0, .int .i64 0, .int .i64 0, .int .i64 0, .int .i64 0, .int .i64 0, .int .i64 0, .int .i64 0, .int .i64 0, .int .i64 0, .int .i64 0, .int .i64 0, .int .i64 0, .int .i64 0, .int .i64 0, .int .i64 0, .int .i64 0, .int .i64 0, .int .i64 0, .int .i64 0, .int .i64 0, .int .i64 0, .int .i64 0, .int .i64 0, .int .i64 0, .int .i64 0, .int .i64 0, .int .i64 0, .int .i64 0, .int .i64 0, .int .i64 0, .int .i64 0, .int .i64 0, .int .i64 0, .int .i64 0, .int .i64 0, .int .i64 0, .int .i64 0, .int .i64 0, .int .i64 0, .int .i64 0, .int .i64 0, .int .i64 0, .int .i64 0, .int .i64 0, .int .i64 0, .int .i64 0, .int .i64 0, .int .i64 0, .int .i64 0, .int .i64 0, .int .i64 0, .int .i64 0, .int .i64 0, .int .i64 0, .int .i64 0, .int .i64 0, .int .i64 0, .int .i64 0, .int .i64 0, .int .i64 0, .int .i64 0, .int .i64 0, .int .i64 0, .int .i64 0, .int .i64 0]

set_option maxRecDepth 100000 in
theorem next_build (W : World) : (Instr.build 208 #[(1, .agg #[.int .i64 0, .int .i64 2, .int .i64 3, .int .i64 5, .int .i64 0, .int .i64 0, .int .i64 0]), (2, .agg #[.int .i64 0, .int .i64 0, .int .i64 0, .int .i64 12, .int .i64 8, .int .i64 0, .int .i64 0]), (3, .agg #[.int .i64 0, .int .i64 3, .int .i64 3, .int .i64 12, .int .i64 8, .int .i64 0, .int .i64 4]), (4, .agg #[.int .i64 0, .int .i64 3, .int .i64 3, .int .i64 0, .int .i64 0, .int .i64 0, .int .i64 0]), (5, .agg #[.int .i64 0, .int .i64 6, .int .i64 6, .int .i64 0, .int .i64 0, .int .i64 0, .int .i64 0]), (6, .agg #[.int .i64 0, .int .i64 6, .int .i64 6, .int .i64 0, .int .i64 8, .int .i64 0, .int .i64 7]), (7, .agg #[.int .i64 0, .int .i64 6, .int .i64 6, .int .i64 0, .int .i64 0, .int .i64 0, .int .i64 0]), (8, .agg #[.int .i64 0, .int .i64 10, .int .i64 10, .int .i64 0, .int .i64 0, .int .i64 9, .int .i64 0]), (9, .agg #[.int .i64 0, .int .i64 10, .int .i64 10, .int .i64 0, .int .i64 0, .int .i64 0, .int .i64 0]), (10, .agg #[.int .i64 0, .int .i64 10, .int .i64 10, .int .i64 0, .int .i64 0, .int .i64 0, .int .i64 11]), (11, .agg #[.int .i64 0, .int .i64 10, .int .i64 10, .int .i64 0, .int .i64 0, .int .i64 0, .int .i64 0]), (12, .agg #[.int .i64 0, .int .i64 6, .int .i64 6, .int .i64 0, .int .i64 8, .int .i64 0, .int .i64 0])]).run Tryz.prog W = .ok (.agg nextV) W := by kernel_rfl
theorem next_size : nextV.size = 91 := by kernel_rfl
theorem next_cells (W : World) : (storeCells ⟨W.heap.size, 0, Option.none⟩ nextV.toList 0).run Tryz.prog (W.alloc (.cells zeroV 208)) = .ok () (W.alloc (.cells nextV 208)) :=
  run_storeCells_new W _ zeroV nextV (by kernel_rfl) (by rfl) (by kernel_rfl)
theorem addr_add (b o k : Nat) : Addr.add ⟨b, o, Option.none⟩ k = ⟨b, o + k, Option.none⟩ := by unfold Addr.add; split <;> simp_all
theorem at_row (W : World) (b o q : Nat) (h : q < 13) : (Instr.indexAt 208 (.pointer (some ⟨b, o, Option.none⟩)) (.int .i64 (q : Nat))).run Tryz.prog W = .ok (.pointer (some ⟨b, o + q * 7, Option.none⟩)) W := by
  have hl : Tryz.prog.arrayLen 208 = 13 := by kernel_rfl
  have hs : (sizeOf (Tryz.prog.elem 208)).run Tryz.prog W = .ok 7 W := by kernel_rfl
  rw [run_indexAt_array (h := by kernel_rfl), hl, if_pos (by omega), hs]
  show Result.ok (Value.pointer (some (Addr.add ⟨b, o, Option.none⟩ ((q : Int).toNat * 7)))) W = _
  rw [Int.toNat_natCast, addr_add]
theorem at_cell (W : World) (b o q : Nat) (h : q < 7) : (Instr.indexAt 207 (.pointer (some ⟨b, o, Option.none⟩)) (.int .i64 (q : Nat))).run Tryz.prog W = .ok (.pointer (some ⟨b, o + q, Option.none⟩)) W := by
  have hl : Tryz.prog.arrayLen 207 = 7 := by kernel_rfl
  have hs : (sizeOf (Tryz.prog.elem 207)).run Tryz.prog W = .ok 1 W := by kernel_rfl
  rw [run_indexAt_array (h := by kernel_rfl), hl, if_pos (by omega), hs]
  show Result.ok (Value.pointer (some (Addr.add ⟨b, o, Option.none⟩ ((q : Int).toNat * 1)))) W = _
  rw [Int.toNat_natCast, addr_add, Nat.mul_one]
theorem next_is (i : Nat) (h : i < 91) : nextV[i]? = some (.int .i64 ((nextL.getD i 0 : Nat) : Int)) := by
  have hl : i < nextL.length := h
  unfold nextV
  rw [List.getElem?_toArray, List.getElem?_map, List.getElem?_eq_getElem hl, List.getD_eq_getElem?_getD, List.getElem?_eq_getElem hl]
  rfl
theorem row_1 (W : World) : (Instr.build 207 #[(1, .int .i64 2), (2, .int .i64 3), (3, .int .i64 5)]).run Tryz.prog W = .ok (.agg #[.int .i64 0, .int .i64 2, .int .i64 3, .int .i64 5, .int .i64 0, .int .i64 0, .int .i64 0]) W := by kernel_rfl
theorem row_2 (W : World) : (Instr.build 207 #[(3, .int .i64 12), (4, .int .i64 8)]).run Tryz.prog W = .ok (.agg #[.int .i64 0, .int .i64 0, .int .i64 0, .int .i64 12, .int .i64 8, .int .i64 0, .int .i64 0]) W := by kernel_rfl
theorem row_3 (W : World) : (Instr.build 207 #[(1, .int .i64 3), (2, .int .i64 3), (3, .int .i64 12), (4, .int .i64 8), (6, .int .i64 4)]).run Tryz.prog W = .ok (.agg #[.int .i64 0, .int .i64 3, .int .i64 3, .int .i64 12, .int .i64 8, .int .i64 0, .int .i64 4]) W := by kernel_rfl
theorem row_4 (W : World) : (Instr.build 207 #[(1, .int .i64 3), (2, .int .i64 3)]).run Tryz.prog W = .ok (.agg #[.int .i64 0, .int .i64 3, .int .i64 3, .int .i64 0, .int .i64 0, .int .i64 0, .int .i64 0]) W := by kernel_rfl
theorem row_5 (W : World) : (Instr.build 207 #[(1, .int .i64 6), (2, .int .i64 6)]).run Tryz.prog W = .ok (.agg #[.int .i64 0, .int .i64 6, .int .i64 6, .int .i64 0, .int .i64 0, .int .i64 0, .int .i64 0]) W := by kernel_rfl
theorem row_6 (W : World) : (Instr.build 207 #[(1, .int .i64 6), (2, .int .i64 6), (4, .int .i64 8), (6, .int .i64 7)]).run Tryz.prog W = .ok (.agg #[.int .i64 0, .int .i64 6, .int .i64 6, .int .i64 0, .int .i64 8, .int .i64 0, .int .i64 7]) W := by kernel_rfl
theorem row_8 (W : World) : (Instr.build 207 #[(1, .int .i64 10), (2, .int .i64 10), (5, .int .i64 9)]).run Tryz.prog W = .ok (.agg #[.int .i64 0, .int .i64 10, .int .i64 10, .int .i64 0, .int .i64 0, .int .i64 9, .int .i64 0]) W := by kernel_rfl
theorem row_9 (W : World) : (Instr.build 207 #[(1, .int .i64 10), (2, .int .i64 10)]).run Tryz.prog W = .ok (.agg #[.int .i64 0, .int .i64 10, .int .i64 10, .int .i64 0, .int .i64 0, .int .i64 0, .int .i64 0]) W := by kernel_rfl
theorem row_10 (W : World) : (Instr.build 207 #[(1, .int .i64 10), (2, .int .i64 10), (6, .int .i64 11)]).run Tryz.prog W = .ok (.agg #[.int .i64 0, .int .i64 10, .int .i64 10, .int .i64 0, .int .i64 0, .int .i64 0, .int .i64 11]) W := by kernel_rfl
theorem row_12 (W : World) : (Instr.build 207 #[(1, .int .i64 6), (2, .int .i64 6), (4, .int .i64 8)]).run Tryz.prog W = .ok (.agg #[.int .i64 0, .int .i64 6, .int .i64 6, .int .i64 0, .int .i64 8, .int .i64 0, .int .i64 0]) W := by kernel_rfl

theorem cls_lt (c : Nat) : clsN c < 7 := by
  unfold clsN
  repeat (split; · omega)
  omega
/-- the state behind a text -/
def stN (l : List UInt8) : Nat := l.foldl (fun q c => nextN q (clsN c.toNat)) 1
def endB (q : Nat) : Bool := q == 2 || q == 3 || q == 6 || q == 10 || q == 12
/-- a decimal number -/
def decB (l : List UInt8) : Bool := endB (stN l)

theorem next_lt : ∀ q c, nextN q c < 13 := by
  intro q c
  unfold nextN
  by_cases h : q * 7 + c < 91
  · have key : ∀ i : Fin 91, nextL.getD i.val 0 < 13 := by decide +kernel
    exact key ⟨_, h⟩
  · rw [List.getD_eq_getElem?_getD, List.getElem?_eq_none (by show nextL.length ≤ _; exact Nat.not_lt.1 h)]; decide
theorem next_zero (c : Nat) (h : c < 7) : nextN 0 c = 0 := by
  have key : ∀ i : Fin 7, nextN 0 i.val = 0 := by decide +kernel
  exact key ⟨c, h⟩
theorem fold_zero : ∀ l : List UInt8, l.foldl (fun q c => nextN q (clsN c.toNat)) 0 = 0
  | [] => rfl
  | x :: l => by rw [List.foldl_cons, next_zero _ (cls_lt _)]; exact fold_zero l
theorem st_step (s : ByteArray) (k : Nat) (h : k < s.size) : stN (s.data.toList.take (k + 1)) = nextN (stN (s.data.toList.take k)) (clsN (s[k].toNat)) := by
  have hl : k < s.data.toList.length := by simpa using h
  unfold stN
  rw [List.take_succ_eq_append_getElem hl, List.foldl_append]
  rfl
theorem st_stop (s : ByteArray) (k : Nat) (h : stN (s.data.toList.take k) = 0) : decB s.data.toList = false := by
  unfold decB
  have : stN s.data.toList = 0 := by
    conv => lhs; rw [← List.take_append_drop k s.data.toList]
    unfold stN at *
    rw [List.foldl_append, h]; exact fold_zero _
  rw [this]; rfl

attribute [-go_sem] Instr.build in
set_option maxRecDepth 100000 in
set_option maxHeartbeats 1000000 in
theorem decimal_any (s : ByteArray) (w : World) (hs : s.size ≤ 1000) :
    Calls Tryz.prog 161 #[.string s] w fun e w' => e = .returned (.bool (decB s.data.toList)) ∧ Below w.heap.size w w' := by
  have hb := next_build
  have hsz := next_size
  have hst := next_cells
  have hr1 := row_1
  have hr2 := row_2
  have hr3 := row_3
  have hr4 := row_4
  have hr5 := row_5
  have hr6 := row_6
  have hr8 := row_8
  have hr9 := row_9
  have hr10 := row_10
  have hr12 := row_12
  rw [show zeroV = Tryz.zeroCells208 from by kernel_rfl] at hst
  have hnx : ∀ i, i < 91 → nextV[i]? = some (.int .i64 ((nextL.getD i 0 : Nat) : Int)) := next_is
  generalize nextV = NV at *
  go_enter Tryz.func161, Tryz.ntmps161
  go_wp2_with fail
  go_loopw [4, 5, 21] (fun st _ i wr => ∃ k q : Nat, k ≤ s.size ∧ q < 13 ∧ q = stN (s.data.toList.take k) ∧ st = .int .i64 q ∧ i = .int .i64 k ∧ Below w.heap.size w wr ∧ wr.heap[w.heap.size]? = some (.cells NV 208 (0, 0))) (fun _ _ i _ => s.size - (intOf i).toNat)
  case atStart => exact ⟨0, 1, Nat.zero_le _, by decide, by simp [stN], rfl, rfl, (Below.refl _ _).alloc (Nat.le_refl _) _, heap_alloc_last w _⟩
  case round =>
    obtain ⟨k, q, hk, hq, hst2, rfl, rfl, hb, hcell⟩ := hrel
    have HST := Lib.hid hst2
    have HBW := Lib.hid hb
    clear hst2 hb
    by_cases hks : k < s.size
    · have hc7 : clsN (s[k].toNat) < 7 := cls_lt _
      have hc := class_any (s[k].toNat)
      have h256 : s[k].toNat < 256 := s[k].toNat_lt
      have HCL := Lib.hid (fun (W : World) => hc W h256)
      generalize hcc : clsN (s[k].toNat) = c at *
      have hcl : wr.cell? ⟨w.heap.size, q * 7 + c, Option.none⟩ = some (.int .i64 (nextN q c : Nat)) := by
        rw [cell_of_row wr w.heap.size _ _ _ _ hcell]
        exact hnx _ (by omega)
      have HS1 := Lib.hid (st_step s k hks)
      rw [hcc, ← HST.out] at HS1
      have hz13 := next_lt q c
      have HCE := Lib.hid hcell
      generalize nextN q c = z at *
      clear hc h256 hcell
      have hro := fun W => at_row W w.heap.size 0 q hq
      rw [Nat.zero_add] at hro
      have hce := fun W => at_cell W w.heap.size (q * 7) c hc7
      by_cases hz : z = 0
      · subst hz
        have HF : Hid (decB s.data.toList = false) := Lib.hid (st_stop s (k + 1) HS1.out)
        go_wp2_with fail
        go_quiet ((go_at_call 197; exact Calls.quiet_of_same (HCL.out _)))
        go_wp2
        go_ret
        exact ⟨ret_bool HF.out.symm, bDrewN HBW.out _⟩
      · have hz2 : ((z : Int) == 0) = false := by rw [beq_eq_false_iff_ne]; omega
        have hz3 : ((z : Int) = 0) = False := by simp; omega
        go_wp2_with fail
        go_quiet ((go_at_call 197; exact Calls.quiet_of_same (HCL.out _)))
        go_wp2
        go_roundw
        case rel => exact ⟨k + 1, z, by omega, hz13, HS1.out.symm, rfl, by go_num, bDrewN HBW.out _, HCE.out⟩
        case measure => simp [RowKit.intOf] <;> omega
    · have hke : k = s.size := by omega
      have HE : Hid (decB s.data.toList = endB q) := Lib.hid (by
        unfold decB
        rw [HST.out, hke, List.take_of_length_le (by simp)])
      clear hke HST
      have h13 : q = 0 ∨ q = 1 ∨ q = 2 ∨ q = 3 ∨ q = 4 ∨ q = 5 ∨ q = 6 ∨ q = 7 ∨ q = 8 ∨ q = 9 ∨ q = 10 ∨ q = 11 ∨ q = 12 := by omega
      rcases h13 with rfl | rfl | rfl | rfl | rfl | rfl | rfl | rfl | rfl | rfl | rfl | rfl | rfl
      all_goals
        go_wp2_with fail
        go_ret
        exact ⟨ret_bool HE.out.symm, HBW.out⟩
end Go.Proofs.YtckaoeloofbklaaGreatDoor
