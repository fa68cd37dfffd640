/- Joined texts: Ul Va Vb Vl Vc Ve Vf. Each begins with its own remark. -/
import Derived.Test.YtmhagigokgklaaaGreatDoorJb
import Derived.Test.YtmhagigokgklaaaGreatDoorJa
import Derived.WalkKit
import Derived.BigFrame
import Derived.Deep.QuietTactic
import Derived.BigQuiet
import Derived.Lib.Hide
import Derived.WalkLawsBesides
import Derived.Laws.Bits64b
import Derived.Test.YtmhagigokgklaaaGreatDoorProg
import Derived.Lib.LaidTab
import Derived.Lib.ItoaNum
import GoSem.PinnedTables
import Derived.Laws.Externs
import Derived.Test.YtmhagigokgklaaaGreatDoorShelf
import Derived.Lib.ItoaMem
import Derived.Deep.AppendLies
import Derived.Lib.AppendZeros
import Derived.OwnWalk

/- The nearest float to a number times a power of two; products and quotients (plain). -/
namespace Go.Proofs.YtmhagigokgklaaaGreatDoor
open Go Ieee
set_option exponentiation.threshold 5000

/-- X by Q is c times 2 to the place, doubled -/
def ValP (X Q c G : Nat) (place : Int) : Prop := X * G * 2 ^ (-place).toNat = 2 * (Q * (c * 2 ^ 1074 * 2 ^ place.toNat))

theorem valP_low (X Q c G E d : Nat) (place : Int) (h : ValP X Q c G place) (hE : (E : Int) = place + d + 1074) : X * G * 2 ^ d = 2 * (Q * (c * 2 ^ E)) := by
  unfold ValP at h
  refine Nat.eq_of_mul_eq_mul_right (Nat.two_pow_pos (-place).toNat) ?_
  have e1 : X * G * 2 ^ d * 2 ^ (-place).toNat = X * G * 2 ^ (-place).toNat * 2 ^ d := by ac_rfl
  have e2 : 2 * (Q * (c * 2 ^ E)) * 2 ^ (-place).toNat = 2 * (Q * (c * (2 ^ E * 2 ^ (-place).toNat))) := by ac_rfl
  have e3 : 2 * (Q * (c * 2 ^ 1074 * 2 ^ place.toNat)) * 2 ^ d = 2 * (Q * (c * (2 ^ 1074 * 2 ^ place.toNat * 2 ^ d))) := by
    generalize 2 ^ 1074 = z
    ac_rfl
  rw [e1, h, e2, e3, ← Nat.pow_add, ← Nat.pow_add, ← Nat.pow_add]
  congr 4
  omega

/-- the number's leading digits, where more are there than are kept -/
theorem nearest_high (s : Bool) (mag d : Nat) (place : Int) (h : 0 < mag) (hL : mag.log2 = 52 + d) (hp : -1074 ≤ place + d) :
    double.nearest s mag place = double.word s (min INF ((place + d + 1074).toNat * BB + (mag / 2 ^ d + upG mag (2 ^ d)))) ∧ 4503599627370496 ≤ mag / 2 ^ d ∧ mag / 2 ^ d < 9007199254740992 := by
  have hl : 2 ^ mag.log2 ≤ mag := Nat.log2_self_le (by omega)
  have hu : mag < 2 ^ (mag.log2 + 1) := Nat.lt_log2_self
  unfold Format.nearest
  rw [if_neg (by omega)]
  simp only [d_lp, d_bi, d_in, d_fb]
  rw [hL] at hl hu
  rw [hL]
  have hmax : max (place + ((52 + d : Nat) : Int) - ((52 : Nat) : Int)) (-1074) = place + d := by omega
  rw [hmax, show (place - (place + d)).toNat = 0 by omega, show (place + (d : Int) - place).toNat = d by omega, show (place + (d : Int) - (-1074)).toNat = (place + d + 1074).toNat by omega]
  have hc : Toward.even.cut s (mag <<< 0) d = mag / 2 ^ d + upG mag (2 ^ d) := by
    unfold Toward.cut
    rw [Nat.shiftLeft_zero, hL, show min d (52 + d + 2) = d by omega, Nat.one_shiftLeft]
    show mag / 2 ^ d + _ = _
    rw [up_is]
  rw [hc]
  refine ⟨?_, ?_, ?_⟩
  · rw [Nat.min_comm]; rfl
  · rw [Nat.le_div_iff_mul_le (Nat.two_pow_pos d)]
    rw [Nat.pow_add] at hl
    exact hl
  · rw [Nat.div_lt_iff_lt_mul (Nat.two_pow_pos d)]
    rw [show 52 + d + 1 = 53 + d by omega, Nat.pow_add] at hu
    exact hu

/-- the number's digits, where no more are there than are kept -/
theorem nearest_low (s : Bool) (mag k : Nat) (place : Int) (h : 0 < mag) (hL : mag.log2 + k = 52) (hp : -1074 ≤ place - k) :
    double.nearest s mag place = double.word s (min INF ((place - k + 1074).toNat * BB + mag * 2 ^ k)) ∧ 4503599627370496 ≤ mag * 2 ^ k ∧ mag * 2 ^ k < 9007199254740992 := by
  have hl : 2 ^ mag.log2 ≤ mag := Nat.log2_self_le (by omega)
  have hu : mag < 2 ^ (mag.log2 + 1) := Nat.lt_log2_self
  have p1 : 2 ^ mag.log2 * 2 ^ k = 4503599627370496 := by rw [← Nat.pow_add, hL]
  have p2 : 2 ^ (mag.log2 + 1) * 2 ^ k = 9007199254740992 := by rw [← Nat.pow_add, show mag.log2 + 1 + k = 53 by omega]
  have b1 := Nat.mul_le_mul_right (2 ^ k) hl
  have b2 := (Nat.mul_lt_mul_right (Nat.two_pow_pos k)).2 hu
  rw [p1] at b1
  rw [p2] at b2
  refine ⟨?_, b1, b2⟩
  unfold Format.nearest
  rw [if_neg (by omega)]
  simp only [d_lp, d_bi, d_in, d_fb]
  have hmax : max (place + (mag.log2 : Int) - ((52 : Nat) : Int)) (-1074) = place - k := by omega
  rw [hmax, show (place - (place - k)).toNat = k by omega, show (place - (k : Int) - place).toNat = 0 by omega, show (place - (k : Int) - (-1074)).toNat = (place - k + 1074).toNat by omega]
  have hc : Toward.even.cut s (mag <<< k) 0 = mag * 2 ^ k := by
    unfold Toward.cut
    rw [show min 0 ((mag <<< k).log2 + 2) = 0 by omega]
    simp [Nat.shiftLeft_eq, Nat.mod_one]
  rw [hc, Nat.min_comm]
  rfl

theorem nearest_gen (s : Bool) (mag : Nat) (place : Int) (h : 0 < mag) (hp : -1022 ≤ place + mag.log2) (X Q : Nat) (hq : 0 < Q) (hv : ValP X Q mag 1 place) :
    ∃ r, double.nearest s mag place = double.word s r ∧ Near X Q r := by
  rcases Nat.le_total mag.log2 52 with hL | hL
  · obtain ⟨k, hk⟩ : ∃ k, mag.log2 + k = 52 := ⟨52 - mag.log2, by omega⟩
    obtain ⟨h1, h2, h3⟩ := nearest_low s mag k place h hk (by omega)
    refine ⟨_, h1, ?_⟩
    obtain ⟨E, hE⟩ : ∃ E, (place - k + 1074).toNat = E := ⟨_, rfl⟩
    rw [hE]
    have hv2 := valP_low X Q mag 1 (E + k) 0 place hv (by omega)
    have hn := near_gap (X := X) (Q := Q) (n := mag * 2 ^ k) (G := 1) (E := E) hq (by decide) (by rw [Nat.pow_zero, Nat.mul_one] at hv2; rw [hv2, Nat.pow_add, Nat.mul_comm (2 ^ E), Nat.mul_assoc mag]) (by rw [Nat.div_one]; exact h3) (.inr (by rw [Nat.div_one]; exact h2))
    have hu0 : upG (mag * 2 ^ k) 1 = 0 := by unfold upG; rw [Nat.mod_one, if_pos (by decide)]
    rwa [hu0, Nat.div_one, Nat.add_zero] at hn
  · obtain ⟨d, hd⟩ : ∃ d, mag.log2 = 52 + d := ⟨mag.log2 - 52, by omega⟩
    obtain ⟨h1, h2, h3⟩ := nearest_high s mag d place h hd (by omega)
    refine ⟨_, h1, ?_⟩
    obtain ⟨E, hE⟩ : ∃ E, (place + d + 1074).toNat = E := ⟨_, rfl⟩
    rw [hE]
    have hv2 := valP_low X Q mag 1 E d place hv (by omega)
    rw [Nat.mul_one] at hv2
    exact near_gap hq (Nat.two_pow_pos d) hv2 h3 (.inr h2)

theorem up_four (u : Nat) : u / 4 + upG u 4 = (u + 1 + u / 4 % 2) / 4 := by
  unfold upG
  split
  · omega
  · split <;> omega

theorem up_step (u M : Nat) (_hM : 0 < M) : u / (8 * M) + upG u (8 * M) = (2 * (u / 4) + (if u % 4 = 0 then 0 else 1)) / (4 * M) + upG (2 * (u / 4) + (if u % 4 = 0 then 0 else 1)) (4 * M) := by
  obtain ⟨q, hq⟩ : ∃ q, u / 4 = q := ⟨_, rfl⟩
  obtain ⟨r, hr⟩ : ∃ r, u % 4 = r := ⟨_, rfl⟩
  have hu : u = 4 * q + r := by omega
  have hr4 : r < 4 := by omega
  rw [hq, hr]
  obtain ⟨t, ht, ht2⟩ : ∃ t, (if r = 0 then 0 else 1) = t ∧ (t = 0 ∧ r = 0 ∨ t = 1 ∧ 0 < r) := by
    by_cases h : r = 0
    · exact ⟨0, if_pos h, .inl ⟨rfl, h⟩⟩
    · exact ⟨1, if_neg h, .inr ⟨rfl, by omega⟩⟩
  rw [ht]
  clear ht
  have e1 : u / (8 * M) = q / (2 * M) := by
    rw [show 8 * M = 4 * (2 * M) by omega, ← Nat.div_div_eq_div_mul, hq]
  have e2 : (2 * q + t) / (4 * M) = q / (2 * M) := by
    rw [show 4 * M = 2 * (2 * M) by omega, ← Nat.div_div_eq_div_mul, show (2 * q + t) / 2 = q by omega]
  have d0 := Nat.div_add_mod q (2 * M)
  have d1 := Nat.div_add_mod u (8 * M)
  have d2 := Nat.div_add_mod (2 * q + t) (4 * M)
  rw [e1] at d1
  rw [e2] at d2
  have m1 : 8 * M * (q / (2 * M)) = 4 * (2 * M * (q / (2 * M))) := by rw [← Nat.mul_assoc]; congr 1; omega
  have m2 : 4 * M * (q / (2 * M)) = 2 * (2 * M * (q / (2 * M))) := by rw [← Nat.mul_assoc]; congr 1; omega
  rw [e1, e2]
  congr 1
  unfold upG
  rw [e1, e2]
  generalize q / (2 * M) = A at *
  generalize 2 * M * A = B at *
  generalize u % (8 * M) = x at *
  generalize (2 * q + t) % (4 * M) = y at *
  generalize q % (2 * M) = z at *
  have hx : x = 4 * z + r := by omega
  have hy : y = 2 * z + t := by omega
  rw [hx, hy]
  by_cases h1 : z < M
  · rw [if_pos (by omega), if_pos (show 2 * (2 * z + t) < 4 * M by omega)]
  · rw [if_neg (by omega), if_neg (show ¬ 2 * (2 * z + t) < 4 * M by omega)]
    by_cases h2 : z = M ∧ r = 0
    · rw [if_pos (by omega), if_pos (show 2 * (2 * z + t) = 4 * M by omega)]
    · rw [if_neg (by omega), if_neg (show ¬ 2 * (2 * z + t) = 4 * M by omega)]

/-- what is left of an unrounded number when its last digits are cut -/
theorem unr_cut : ∀ (k n G : Nat), 0 < G → unr n G / 2 ^ (k + 2) + upG (unr n G) (2 ^ (k + 2)) = n / (G * 2 ^ k) + upG n (G * 2 ^ k)
  | 0, n, G, hG => by
    rw [Nat.pow_zero, Nat.mul_one, ← unr_round n G hG]
    exact up_four _
  | k + 1, n, G, hG => by
    have ih := unr_cut k n (2 * G) (by omega)
    rw [show G * 2 ^ (k + 1) = 2 * G * 2 ^ k from by rw [Nat.pow_succ]; ac_rfl, ← ih, ← unr_half n G hG, show 2 ^ (k + 1 + 2) = 8 * 2 ^ k from by rw [show k + 1 + 2 = 3 + k by omega, Nat.pow_add], show 2 ^ (k + 2) = 4 * 2 ^ k from by rw [show k + 2 = 2 + k by omega, Nat.pow_add]]
    exact up_step _ _ (Nat.two_pow_pos k)

theorem nearest_unr (s : Bool) (n G : Nat) (hG : 0 < G) (place : Int) (h : 2 ^ 54 ≤ unr n G) (hp : -1022 ≤ place + (unr n G).log2) (X Q : Nat) (hq : 0 < Q) (hv : ValP X Q (4 * n) G place) :
    ∃ r, double.nearest s (unr n G) place = double.word s r ∧ Near X Q r := by
  have hL : 54 ≤ (unr n G).log2 := (Nat.le_log2 (by omega)).2 h
  obtain ⟨k, hk⟩ : ∃ k, (unr n G).log2 = 52 + (k + 2) := ⟨(unr n G).log2 - 54, by omega⟩
  obtain ⟨h1, h2, h3⟩ := nearest_high s (unr n G) (k + 2) place (by omega) hk (by omega)
  refine ⟨_, h1, ?_⟩
  rw [unr_cut k n G hG]
  obtain ⟨E, hE⟩ : ∃ E, (place + ((k + 2 : Nat) : Int) + 1074).toNat = E := ⟨_, rfl⟩
  rw [hE]
  have hv2 := valP_low X Q (4 * n) G E (k + 2) place hv (by omega)
  have e0 : unr n G / 2 ^ (k + 2) = n / (G * 2 ^ k) := by
    rw [show 2 ^ (k + 2) = 4 * 2 ^ k from by rw [show k + 2 = 2 + k by omega, Nat.pow_add], ← Nat.div_div_eq_div_mul, unr_floor n G hG, Nat.div_div_eq_div_mul]
  rw [e0] at h2 h3
  refine near_gap hq (Nat.mul_pos hG (Nat.two_pow_pos k)) ?_ h3 (.inr h2)
  refine Nat.eq_of_mul_eq_mul_left (show 0 < 4 by decide) ?_
  have e1 : 4 * (X * (G * 2 ^ k)) = X * G * 2 ^ (k + 2) := by
    rw [show 2 ^ (k + 2) = 2 ^ k * 4 from by rw [Nat.pow_add]]; ac_rfl
  have e2 : 4 * (2 * (Q * (n * 2 ^ E))) = 2 * (Q * (4 * n * 2 ^ E)) := by ac_rfl
  rw [e1, e2, hv2]

/-- the product of two whole floats -/
theorem mul_whole (x y A B : Nat) (hx : x < 9218868437227405312) (hy : y < 9218868437227405312) (ha : V x = A * 2 ^ 1074) (hb : V y = B * 2 ^ 1074) (hA : 0 < A) (hB : 0 < B) :
    ∃ r, double.mul x y = some r ∧ Near (2 * (A * B * 2 ^ 1074)) 1 r := by
  have rx : ru x = x := Nat.mod_eq_of_lt (by omega)
  have ry : ru y = y := Nat.mod_eq_of_lt (by omega)
  have gx : ngB x = false := decide_eq_false (by omega)
  have gy : ngB y = false := decide_eq_false (by omega)
  obtain ⟨m, e, h1, h2, _⟩ := read_fin x (by omega) (by omega)
  obtain ⟨n, f, h3, h4, _⟩ := read_fin y (by omega) (by omega)
  rw [rx, ha] at h2
  rw [ry, hb] at h4
  have hmn : m * n * 2 ^ (e + f) = A * B * 2 ^ 2148 := by
    rw [show 2148 = 1074 + 1074 by decide, Nat.pow_add, Nat.pow_add]
    calc m * n * (2 ^ e * 2 ^ f) = (m * 2 ^ e) * (n * 2 ^ f) := by ac_rfl
      _ = _ := by rw [h2, h4]; generalize 2 ^ 1074 = z; ac_rfl
  have hpos : 0 < m * n := by
    refine Nat.pos_of_ne_zero fun h => ?_
    rw [h, Nat.zero_mul] at hmn
    have : 0 < A * B * 2 ^ 2148 := Nat.mul_pos (Nat.mul_pos hA hB) (Nat.two_pow_pos _)
    omega
  have hlog : 2148 ≤ (m * n).log2 + (e + f) := by
    have l1 : m * n < 2 ^ ((m * n).log2 + 1) := Nat.lt_log2_self
    have l2 : m * n * 2 ^ (e + f) < 2 ^ ((m * n).log2 + 1 + (e + f)) := by
      rw [Nat.pow_add 2 ((m * n).log2 + 1)]
      exact (Nat.mul_lt_mul_right (Nat.two_pow_pos _)).2 l1
    have l3 : 2 ^ 2148 ≤ A * B * 2 ^ 2148 := Nat.le_mul_of_pos_left _ (Nat.mul_pos hA hB)
    rw [hmn] at l2
    have := (Nat.pow_lt_pow_iff_right (show 1 < 2 by decide)).1 (Nat.lt_of_le_of_lt l3 l2)
    omega
  have hv : ValP (2 * (A * B * 2 ^ 1074)) 1 (m * n) 1 ((e : Int) - 1074 + ((f : Int) - 1074)) := by
    unfold ValP
    refine Nat.eq_of_mul_eq_mul_right (Nat.two_pow_pos (e + f)) ?_
    have e1 : 2 * (1 * (m * n * 2 ^ 1074 * 2 ^ ((e : Int) - 1074 + ((f : Int) - 1074)).toNat)) * 2 ^ (e + f) = 2 * (m * n * 2 ^ (e + f) * (2 ^ 1074 * 2 ^ ((e : Int) - 1074 + ((f : Int) - 1074)).toNat)) := by
      generalize 2 ^ 1074 = z
      rw [Nat.one_mul]; ac_rfl
    have e2 : 2 * (A * B * 2 ^ 1074) * 1 * 2 ^ (-((e : Int) - 1074 + ((f : Int) - 1074))).toNat * 2 ^ (e + f) = 2 * (A * B * (2 ^ 1074 * 2 ^ (-((e : Int) - 1074 + ((f : Int) - 1074))).toNat * 2 ^ (e + f))) := by
      generalize 2 ^ 1074 = z
      rw [Nat.mul_one]; ac_rfl
    rw [e1, e2, hmn, Nat.mul_assoc (A * B), ← Nat.pow_add, ← Nat.pow_add, ← Nat.pow_add, ← Nat.pow_add]
    congr 3
    omega
  obtain ⟨r, k1, k2⟩ := nearest_gen (false ^^ false) (m * n) ((e : Int) - 1074 + ((f : Int) - 1074)) hpos (by omega) (2 * (A * B * 2 ^ 1074)) 1 (by decide) hv
  refine ⟨r, ?_, k2⟩
  unfold Format.mul
  rw [h1, h3, gx, gy]
  show some (double.nearest (false ^^ false) (m * n) ((e : Int) - 1074 + ((f : Int) - 1074))) = _
  rw [k1]
  rfl

/-- the quotient of two whole floats -/
theorem div_whole (x y A B : Nat) (hx : x < 9218868437227405312) (hy : y < 9218868437227405312) (ha : V x = A * 2 ^ 1074) (hb : V y = B * 2 ^ 1074) (hA : 0 < A) (hB : 0 < B) (hB2 : B < 2 ^ 500) :
    ∃ r, double.div x y = some r ∧ Near (2 * (A * 2 ^ 1074)) B r := by
  have rx : ru x = x := Nat.mod_eq_of_lt (by omega)
  have ry : ru y = y := Nat.mod_eq_of_lt (by omega)
  have gx : ngB x = false := decide_eq_false (by omega)
  have gy : ngB y = false := decide_eq_false (by omega)
  obtain ⟨m, e, h1, h2, _, hm53, _⟩ := read_fin x (by omega) (by omega)
  obtain ⟨n, f, h3, h4, _, hn53, _⟩ := read_fin y (by omega) (by omega)
  rw [rx, ha] at h2
  rw [ry, hb] at h4
  have hm0 : 0 < m := by
    refine Nat.pos_of_ne_zero fun h => ?_
    rw [h, Nat.zero_mul] at h2
    have : 0 < A * 2 ^ 1074 := Nat.mul_pos hA (Nat.two_pow_pos _)
    omega
  have hn0 : 0 < n := by
    refine Nat.pos_of_ne_zero fun h => ?_
    rw [h, Nat.zero_mul] at h4
    have : 0 < B * 2 ^ 1074 := Nat.mul_pos hB (Nat.two_pow_pos _)
    omega
  have lm1 : 2 ^ m.log2 ≤ m := Nat.log2_self_le (by omega)
  have lm2 : m < 2 ^ (m.log2 + 1) := Nat.lt_log2_self
  have ln1 : 2 ^ n.log2 ≤ n := Nat.log2_self_le (by omega)
  have ln2 : n < 2 ^ (n.log2 + 1) := Nat.lt_log2_self
  have lm : m.log2 ≤ 52 := by
    have := (Nat.pow_lt_pow_iff_right (show 1 < 2 by decide)).1 (Nat.lt_of_le_of_lt lm1 (show m < 2 ^ 53 from hm53))
    omega
  obtain ⟨more, hmore⟩ : ∃ k, 54 + n.log2 - m.log2 = k := ⟨_, rfl⟩
  have hml : more + m.log2 = 54 + n.log2 := by omega
  have hu : 2 * (m * 2 ^ more / n) + (m * 2 ^ more % n != 0).toNat = unr (m * 2 ^ more) (2 * n) := by
    unfold unr
    rw [Nat.mul_div_mul_left _ _ (by decide), Nat.mul_mod_mul_left]
    congr 1
    by_cases h0 : m * 2 ^ more % n = 0
    · rw [h0]; rfl
    · rw [if_neg (by omega), bne_iff_ne.2 h0]; rfl
  have hbig : 2 ^ 53 ≤ m * 2 ^ more / n := by
    rw [Nat.le_div_iff_mul_le hn0]
    have k1 : 2 ^ (54 + n.log2) ≤ m * 2 ^ more := by
      rw [← hml, Nat.add_comm, Nat.pow_add]
      exact Nat.mul_le_mul_right _ lm1
    have k2 : 2 ^ 53 * n ≤ 2 ^ 53 * 2 ^ (n.log2 + 1) := Nat.mul_le_mul_left _ (Nat.le_of_lt ln2)
    rw [← Nat.pow_add, show 53 + (n.log2 + 1) = 54 + n.log2 by omega] at k2
    omega
  have hu54 : 2 ^ 54 ≤ unr (m * 2 ^ more) (2 * n) := by rw [← hu]; omega
  have hL : 54 ≤ (unr (m * 2 ^ more) (2 * n)).log2 := (Nat.le_log2 (by omega)).2 hu54
  -- how small the quotient is
  have hsz : 574 + e + m.log2 ≥ n.log2 + f := by
    have k1 : n * 2 ^ f < 2 ^ (500 + 1074) := by
      rw [h4, Nat.pow_add]
      exact (Nat.mul_lt_mul_right (Nat.two_pow_pos _)).2 hB2
    have k2 : 2 ^ (n.log2 + f) ≤ n * 2 ^ f := by rw [Nat.pow_add]; exact Nat.mul_le_mul_right _ ln1
    have k3 := (Nat.pow_lt_pow_iff_right (show 1 < 2 by decide)).1 (Nat.lt_of_le_of_lt k2 k1)
    have k4 : 2 ^ 1074 ≤ m * 2 ^ e := by rw [h2]; exact Nat.le_mul_of_pos_left _ hA
    have k5 : m * 2 ^ e < 2 ^ (m.log2 + 1 + e) := by rw [Nat.pow_add]; exact (Nat.mul_lt_mul_right (Nat.two_pow_pos _)).2 lm2
    have k6 := (Nat.pow_lt_pow_iff_right (show 1 < 2 by decide)).1 (Nat.lt_of_le_of_lt k4 k5)
    omega
  have hv : ValP (2 * (A * 2 ^ 1074)) B (4 * (m * 2 ^ more)) (2 * n) ((e : Int) - 1074 - ((f : Int) - 1074) - (more : Int) - 1) := by
    unfold ValP
    obtain ⟨a, ha2⟩ : ∃ a, (-((e : Int) - 1074 - ((f : Int) - 1074) - (more : Int) - 1)).toNat = a := ⟨_, rfl⟩
    obtain ⟨c, hc⟩ : ∃ c, ((e : Int) - 1074 - ((f : Int) - 1074) - (more : Int) - 1).toNat = c := ⟨_, rfl⟩
    rw [ha2, hc]
    have hac : a + e = c + f + more + 1 := by omega
    refine Nat.eq_of_mul_eq_mul_right (Nat.two_pow_pos (e + f)) ?_
    have e1 : 2 * (A * 2 ^ 1074) * (2 * n) * 2 ^ a * 2 ^ (e + f) = 4 * (A * 2 ^ 1074) * (n * 2 ^ f) * (2 ^ a * 2 ^ e) := by
      generalize 2 ^ 1074 = z
      rw [Nat.pow_add, show (4 : Nat) = 2 * 2 from rfl]; ac_rfl
    have e2 : 2 * (B * (4 * (m * 2 ^ more) * 2 ^ 1074 * 2 ^ c)) * 2 ^ (e + f) = 4 * (m * 2 ^ e) * (B * 2 ^ 1074) * (2 ^ c * 2 ^ f * 2 ^ more * 2) := by
      generalize 2 ^ 1074 = z
      rw [Nat.pow_add]; ac_rfl
    rw [e1, e2, h2, h4, ← Nat.pow_add, hac, Nat.pow_add, Nat.pow_add, Nat.pow_add]
  obtain ⟨r, k1, k2⟩ := nearest_unr (false ^^ false) (m * 2 ^ more) (2 * n) (by omega) ((e : Int) - 1074 - ((f : Int) - 1074) - (more : Int) - 1) hu54 (by omega) (2 * (A * 2 ^ 1074)) B hB hv
  refine ⟨r, ?_, k2⟩
  unfold Format.div
  rw [h1, h3, gx, gy]
  unfold Datum.quotient
  simp only [d_fb]
  rw [if_neg (by omega), hmore, Nat.shiftLeft_eq, hu]
  show some (double.nearest (false ^^ false) _ _) = _
  rw [k1]
  rfl
end Go.Proofs.YtmhagigokgklaaaGreatDoor

/- Small things of internal/strconv, walked. -/
namespace Go.Proofs.YtmhagigokgklaaaGreatDoor
open Go Go.RowKit

theorem ret_bool {a b : Bool} (h : a = b) : Ending.returned (.bool a) = .returned (.bool b) := by rw [h]
theorem ret_int {k : IntKind} {a b : Int} (h : a = b) : Ending.returned (.int k a) = .returned (.int k b) := by rw [h]
theorem bDrewN {B : Nat} {a w : World} (h : Below B a w) (n : Nat) : Below B a (w.drewN n) := h.trans ⟨rfl, rfl, rfl, Nat.le_refl _, fun _ _ => rfl⟩

/-- a digit of the base 10 -/
def isDig (x : UInt8) : Prop := 48 ≤ x.toNat ∧ x.toNat ≤ 57
def skwN (x : Int) : Int := (x * 631305 - 261663) / 2097152
def l10N (x : Int) : Int := x * 78913 / 262144

theorem skewed_any (x : Int) (w : World) (h1 : -5000 ≤ x) (h2 : x ≤ 5000) :
    Calls Tryz.prog 156 #[.int .i64 x] w fun e w' => e = .returned (.int .i64 (skwN x)) ∧ w = w' := by
  go_enter Tryz.func156, Tryz.ntmps156
  go_wp2
  go_ret
  exact ⟨rfl, rfl⟩

theorem l2p_any (x : Int) (w : World) (h1 : -5000 ≤ x) (h2 : x ≤ 5000) :
    Calls Tryz.prog 158 #[.int .i64 x] w fun e w' => e = .returned (.int .i64 (lpN x)) ∧ w = w' := by
  go_enter Tryz.func158, Tryz.ntmps158
  go_wp2
  go_ret
  exact ⟨rfl, rfl⟩

theorem l10_any (x : Int) (w : World) (h1 : -5000 ≤ x) (h2 : x ≤ 5000) :
    Calls Tryz.prog 128 #[.int .i64 x] w fun e w' => e = .returned (.int .i64 (l10N x)) ∧ w = w' := by
  go_enter Tryz.func128, Tryz.ntmps128
  go_wp2
  go_ret
  exact ⟨rfl, rfl⟩

theorem floor_any (u : Nat) (w : World) (hu : u < 18446744073709551616) :
    Calls Tryz.prog 162 #[.int .u64 u] w fun e w' => e = .returned (.int .u64 ((u / 4 : Nat) : Int)) ∧ w = w' := by
  go_enter Tryz.func162, Tryz.ntmps162
  go_wp2
  go_ret
  exact ⟨rfl, rfl⟩

theorem ceil_any (u : Nat) (w : World) (hu : u < 9223372036854775808) :
    Calls Tryz.prog 161 #[.int .u64 u] w fun e w' => e = .returned (.int .u64 (((u + 3) / 4 : Nat) : Int)) ∧ w = w' := by
  go_enter Tryz.func161, Tryz.ntmps161
  go_wp2
  go_ret
  exact ⟨ret_int (by push_cast; rfl), rfl⟩

theorem round_any (u : Nat) (w : World) (hu : u < 9223372036854775808) :
    Calls Tryz.prog 163 #[.int .u64 u] w fun e w' => e = .returned (.int .u64 (((u + 1 + u / 4 % 2) / 4 : Nat) : Int)) ∧ w = w' := by
  have hb := and_one_u64 ((u : Int) / 4) (by omega) (by omega)
  have hw : IntKind.u64.wrap ((u : Int) + 1 + (u : Int) / 4 % 2) = (u : Int) + 1 + (u : Int) / 4 % 2 := by rw [IntKind.wrap_u64]; omega
  go_enter Tryz.func163, Tryz.ntmps163
  go_wp2
  go_ret
  exact ⟨ret_int (by push_cast; omega), rfl⟩

/-- nudged by one up, down, or not at all -/
theorem nudge_any (u : Nat) (d : Int) (w : World) (hu : u < 9223372036854775808) (h0 : 0 ≤ u + d) (h1 : -1 ≤ d) (h2 : d ≤ 1) :
    Calls Tryz.prog 160 #[.int .u64 u, .int .i64 d] w fun e w' => e = .returned (.int .u64 (u + d)) ∧ w = w' := by
  have hw : IntKind.u64.wrap ((u : Int) + IntKind.u64.wrap d) = (u : Int) + d := by rw [IntKind.wrap_u64, IntKind.wrap_u64]; omega
  go_enter Tryz.func160, Tryz.ntmps160
  go_wp2
  go_ret
  exact ⟨rfl, rfl⟩

theorem unmin_any (x : Nat) (w : World) (h0 : 0 < x) (hx : x < 4611686018427387904) :
    Calls Tryz.prog 164 #[.int .u64 x] w fun e w' => e = .returned (.int .u64 (4 * x - 2 : Nat)) ∧ w = w' := by
  go_enter Tryz.func164, Tryz.ntmps164
  go_wp2
  go_ret
  exact ⟨ret_int (by omega), rfl⟩

theorem b2u_any (b : Bool) (w : World) :
    Calls Tryz.prog 150 #[.bool b] w fun e w' => e = .returned (.int .u64 (if b then 1 else 0)) ∧ w = w' := by
  cases b
  all_goals
    go_enter Tryz.func150, Tryz.ntmps150
    go_wp2
    go_ret
    exact ⟨rfl, rfl⟩

theorem b2i_any (b : Bool) (w : World) :
    Calls Tryz.prog 138 #[.bool b] w fun e w' => e = .returned (.int .i64 (if b then 1 else 0)) ∧ w = w' := by
  cases b
  all_goals
    go_enter Tryz.func138, Tryz.ntmps138
    go_wp2
    go_ret
    exact ⟨rfl, rfl⟩
end Go.Proofs.YtmhagigokgklaaaGreatDoor

/- The library's tables in memory; prescale. -/
namespace Go.Proofs.YtmhagigokgklaaaGreatDoor
open Go Go.RowKit

/-- the row of a power of ten in the library's table -/
def hiN (i : Nat) : Nat := (Go.Pinned.pow10Rows.getD i (0, 0)).1
def loN (i : Nat) : Nat := (Go.Pinned.pow10Rows.getD i (0, 0)).2

def rowsOK : Int → List (Nat × Nat) → Bool
  | _, [] => true
  | p, c :: l => decide (c.1 < 18446744073709551616) && decide (c.2 < 18446744073709551616) && decide (pmN p + c.2 = c.1 * 18446744073709551616) && rowsOK (p + 1) l

theorem rowsOK_get : ∀ (l : List (Nat × Nat)) (p : Int), rowsOK p l = true → ∀ k : Nat, k < l.length → (l.getD k (0, 0)).1 < 18446744073709551616 ∧ (l.getD k (0, 0)).2 < 18446744073709551616 ∧ pmN (p + k) + (l.getD k (0, 0)).2 = (l.getD k (0, 0)).1 * 18446744073709551616
  | [], _, _, _, h => by simp at h
  | c :: l, p, h, 0, _ => by
    simp only [rowsOK, Bool.and_eq_true, decide_eq_true_eq] at h
    simpa using ⟨h.1.1.1, h.1.1.2, h.1.2⟩
  | c :: l, p, h, k + 1, hk => by
    simp only [rowsOK, Bool.and_eq_true, decide_eq_true_eq] at h
    have := rowsOK_get l (p + 1) h.2 k (by simpa using hk)
    rw [show p + ((k + 1 : Nat) : Int) = p + 1 + (k : Int) from by push_cast; omega]
    simpa using this

theorem rows_ok : rowsOK (-348) Go.Pinned.pow10Rows = true := by decide +kernel
theorem rows_len : Go.Pinned.pow10Rows.length = 696 := by decide +kernel

theorem row_is (p : Int) (h1 : -348 ≤ p) (h2 : p ≤ 347) : hiN (p + 348).toNat < 18446744073709551616 ∧ loN (p + 348).toNat < 18446744073709551616 ∧ pmN p + loN (p + 348).toNat = hiN (p + 348).toNat * 18446744073709551616 := by
  have := rowsOK_get _ _ rows_ok (p + 348).toNat (by rw [rows_len]; omega)
  rwa [show -348 + ((p + 348).toNat : Int) = p from by omega] at this

/-- the library's tables hold what they hold -/
structure Glob (w : World) : Prop where
  lt : 17 ≤ w.heap.size
  pow : ∀ i, i < 696 → w.cell? ⟨13, i * 2, Option.none⟩ = some (.int .u64 (hiN i)) ∧ w.cell? ⟨13, i * 2 + 1, Option.none⟩ = some (.int .u64 (loN i))
  u10 : Lib.TabIs Tryz.prog w "internal/strconv.uint64pow10" .u64 Lib.pow10Tab
  opt : w.cell? ⟨4, 0, Option.none⟩ = some (.bool true)

theorem u10_num : Tryz.prog.globalNamed "internal/strconv.uint64pow10" = some 7 := by kernel_rfl

theorem Glob.below {w w' : World} {B : Nat} (h : Glob w) (hB : 17 ≤ B) (hb : Below B w w') : Glob w' := by
  refine ⟨Nat.le_trans h.lt hb.size, fun i hi => ?_, ?_, ?_⟩
  · obtain ⟨a, b⟩ := h.pow i hi
    exact ⟨(hb.cell (p := ⟨13, i * 2, Option.none⟩) (Nat.lt_of_lt_of_le (show 13 < 17 by decide) hB)).trans a, (hb.cell (p := ⟨13, i * 2 + 1, Option.none⟩) (Nat.lt_of_lt_of_le (show 13 < 17 by decide) hB)).trans b⟩
  · have hu := h.u10
    unfold Lib.TabIs World.var? at *
    rw [u10_num] at *
    simp only [Option.bind_some] at *
    rw [hb.block _ (Nat.lt_of_lt_of_le (by decide) hB)]; exact hu
  · exact (hb.cell (p := ⟨4, 0, Option.none⟩) (Nat.lt_of_lt_of_le (by decide) hB)).trans h.opt
theorem Glob.alloc {w : World} (h : Glob w) (o : Obj) : Glob (w.alloc o) := h.below (B := 17) (Nat.le_refl _) ((Below.refl _ _).alloc h.lt o)
theorem Glob.drew {w : World} (h : Glob w) : Glob w.drew := h.below h.lt (Below.refl _ _).drew
theorem Glob.drewN {w : World} (h : Glob w) (n : Nat) : Glob (w.drewN n) := h.below h.lt (bDrewN (Below.refl _ _) n)

/-- a scaler at block b -/
def preCells (hi lo : Nat) (s : Int) : Array Value := #[.int .u64 hi, .int .u64 lo, .int .i64 s]

theorem setCell_heap {w : World} {g j : Nat} {cur : Array Value} {t : TypeId} {fr : Nat × Nat} (h : w.heap[g]? = some (.cells cur t fr)) (u : Value) : (w.setCell ⟨g, j, Option.none⟩ u).heap[g]? = some (.cells (cur.setIfInBounds j u) t fr) := by
  simp only [World.setCell, Array.getElem?_modify, if_true, h, Option.map_some]
  rfl

set_option maxHeartbeats 1000000 in
theorem prescale_at (b i : Nat) (e lp : Int) (T : TypeId) (x0 x1 x2 : Value) (w : World) (hg : Glob w) (hb : w.heap[b]? = some (.cells #[x0, x1, x2] T (0, 0))) (hb17 : 17 ≤ b) (hi : i < 696) (he1 : -5000 ≤ e) (he2 : e ≤ 5000) (hl1 : -5000 ≤ lp) (hl2 : lp ≤ 5000) :
    Calls Tryz.prog 157 #[.pointer (some ⟨b, 0, Option.none⟩), .int .i64 e, .int .i64 ((i : Int) - 348), .int .i64 lp] w fun e' w' => e' = .returned (.tuple #[]) ∧
      w'.heap[b]? = some (.cells (preCells (hiN i) (loN i) (-(e + lp + 3))) T (0, 0)) ∧ Below b w w' ∧ w'.heap.size = w.heap.size := by
  obtain ⟨c0, c1⟩ := hg.pow i hi
  have hblt : b < w.heap.size := (Array.getElem?_eq_some_iff.1 hb).1
  have f0 : ∀ o, w.frozen? ⟨b, o, Option.none⟩ = false := fun o => by simp [World.frozen?, hb]
  have d0 : w.cell? ⟨b, 0, Option.none⟩ = some x0 := by rw [cell_of_row w b 0 _ _ _ hb]; rfl
  have d1 : w.cell? ⟨b, 1, Option.none⟩ = some x1 := by rw [cell_of_row w b 1 _ _ _ hb]; rfl
  have d2 : w.cell? ⟨b, 2, Option.none⟩ = some x2 := by rw [cell_of_row w b 2 _ _ _ hb]; rfl
  have hne : (b = 13) = False := by simp; omega
  have HB := Lib.hid hb
  clear hb hg
  go_enter Tryz.func157, Tryz.ntmps157
  go_wp2
  go_end0
  refine ⟨rfl, ?_, (((Below.refl _ _).setCell (p := ⟨b, 0, Option.none⟩) (Nat.le_refl _) _).setCell (p := ⟨b, 1, Option.none⟩) (Nat.le_refl _) _).setCell (p := ⟨b, 2, Option.none⟩) (Nat.le_refl _) _, by simp [World.setCell]⟩
  exact setCell_heap (setCell_heap (setCell_heap HB.out _) _) _

end Go.Proofs.YtmhagigokgklaaaGreatDoor

/- The library's functions without a text: bits of floats, and back. -/
namespace Go.Proofs.YtmhagigokgklaaaGreatDoor
open Go Go.RowKit

theorem run_sbits (b : Nat) (w : World) : (callFunc 121 #[.float .f64 b]).run Tryz.prog w = .ok (.value (.int .u64 b)) w := by
  rw [run_callFunc_extern Tryz.func121 (e := Extern.MathFloatBits.float64bits) (by kernel_rfl) (by kernel_rfl) (by kernel_rfl) (by rfl)]
  rfl
theorem run_sfrom (b : Nat) (w : World) : (callFunc 151 #[.int .u64 b]).run Tryz.prog w = .ok (.value (.float .f64 b)) w := by
  rw [run_callFunc_extern Tryz.func151 (e := Extern.MathFloatBits.float64frombits) (by kernel_rfl) (by kernel_rfl) (by kernel_rfl) (by rfl)]
  rfl
theorem run_mbits (b : Nat) (w : World) : (callFunc 27 #[.float .f64 b]).run Tryz.prog w = .ok (.value (.int .u64 b)) w := by
  rw [run_callFunc_extern Tryz.func27 (e := Extern.MathFloatBits.float64bits) (by kernel_rfl) (by kernel_rfl) (by kernel_rfl) (by rfl)]
  rfl
theorem run_mfrom (b : Nat) (w : World) : (callFunc 34 #[.int .u64 b]).run Tryz.prog w = .ok (.value (.float .f64 b)) w := by
  rw [run_callFunc_extern Tryz.func34 (e := Extern.MathFloatBits.float64frombits) (by kernel_rfl) (by kernel_rfl) (by kernel_rfl) (by rfl)]
  rfl
end Go.Proofs.YtmhagigokgklaaaGreatDoor

/- Scaling, walked: uscale. -/
namespace Go.Proofs.YtmhagigokgklaaaGreatDoor
open Go Go.RowKit

theorem or_one (a : Nat) : a ||| 1 = 2 * (a / 2) + 1 := by
  have h := Nat.div_add_mod (a ||| 1) 2
  rw [Nat.or_div_two, Nat.or_mod_two_eq_one.2 (.inr rfl)] at h
  simpa using h.symm

theorem shl_back (H s : Nat) : (H / 2 ^ s * 2 ^ s = H) ↔ H % 2 ^ s = 0 := by
  have h := Nat.div_add_mod H (2 ^ s)
  rw [Nat.mul_comm] at h
  omega

/-- what uscale makes of the words of the two products -/
def uscR (H mid m2 S : Nat) : Nat :=
  if H % S = 0 then
    let H' := if mid < m2 then H - 1 else H
    if 1 < (mid + 18446744073709551616 - m2) % 18446744073709551616 then 2 * (H' / S / 2) + 1 else H' / S
  else 2 * (H / S / 2) + 1
theorem uscN_R (x hi lo S : Nat) : uscN x hi lo S = uscR (x * hi / 18446744073709551616) (x * hi % 18446744073709551616) (x * lo / 18446744073709551616) S := rfl

theorem and_63 : ∀ s : Fin 64, bits BinOp.and IntKind.i64 (s.val : Int) 63 = (s.val : Int) := by decide +kernel

set_option maxHeartbeats 1000000 in
theorem uscale_at (b x hi lo s : Nat) (w : World) (hx : x < 18446744073709551616) (hhi : hi < 18446744073709551616) (hlo : lo < 18446744073709551616) (hge : lo ≤ hi * 18446744073709551616) (hs : s < 64)
    (c0 : w.cell? ⟨b, 0, Option.none⟩ = some (.int .u64 hi)) (c1 : w.cell? ⟨b, 1, Option.none⟩ = some (.int .u64 lo)) (c2 : w.cell? ⟨b, 2, Option.none⟩ = some (.int .i64 s)) :
    Calls Tryz.prog 159 #[.int .u64 x, .pointer (some ⟨b, 0, Option.none⟩)] w fun e w' => e = .returned (.int .u64 (uscN x hi lo (2 ^ s) : Nat)) ∧ ∃ n, w' = w.drewN n := by
  have HM1 := Lib.hid (fun W : World => Tryz.bits_Mul64 x hi hx hhi W)
  have HM2 := Lib.hid (fun W : World => Tryz.bits_Mul64 x lo hx hlo W)
  have HB2 := Lib.hid b2u_any
  have HB3 := Lib.hid (fun b W => (b2u_any b W).mono fun _ w' (h : _ ∧ W = w') => (⟨h.1, h.2.symm⟩ : _ ∧ w' = W))
  have h1 : x * hi / 18446744073709551616 < 18446744073709551616 := by
    rw [Nat.div_lt_iff_lt_mul (by omega)]
    exact Nat.mul_lt_mul'' hx hhi
  have h2 : x * lo / 18446744073709551616 < 18446744073709551616 := by
    rw [Nat.div_lt_iff_lt_mul (by omega)]
    exact Nat.mul_lt_mul'' hx hlo
  have h3 : x * hi % 18446744073709551616 < 18446744073709551616 := Nat.mod_lt _ (by omega)
  have h4 : x * hi % 18446744073709551616 < x * lo / 18446744073709551616 → 1 ≤ x * hi / 18446744073709551616 := fun h => by
    have p0 : x * lo ≤ x * hi * 18446744073709551616 := by rw [Nat.mul_assoc]; exact Nat.mul_le_mul_left x hge
    generalize x * hi = P at *
    generalize x * lo = Q at *
    omega
  rw [uscN_R]
  generalize x * hi / 18446744073709551616 = H at *
  generalize x * hi % 18446744073709551616 = mid at *
  generalize x * lo / 18446744073709551616 = m2 at *
  generalize x * lo % 18446744073709551616 = low at *
  obtain ⟨U, hU⟩ : ∃ U, U = uscR H mid m2 (2 ^ s) := ⟨_, rfl⟩
  rw [← hU]
  have hand := and_63 ⟨s, hs⟩
  simp only at hand
  have hwr : IntKind.u64.wrap ((H : Int) / 2 ^ s * 2 ^ s) = ((H / 2 ^ s * 2 ^ s : Nat) : Int) := by
    have : H / 2 ^ s * 2 ^ s ≤ H := Nat.div_mul_le_self _ _
    rw [show ((H : Int) / 2 ^ s * 2 ^ s) = ((H / 2 ^ s * 2 ^ s : Nat) : Int) from by push_cast; rfl, IntKind.wrap_u64]
    omega
  by_cases h0 : H % 2 ^ s = 0
  · have ht : (IntKind.u64.wrap ((H : Int) / 2 ^ s * 2 ^ s) != (H : Int)) = false := by
      rw [hwr, (shl_back H s).2 h0]; simp
    have HU : Hid (U = uscR H mid m2 (2 ^ s) ∧ H % 2 ^ s = 0) := Lib.hid ⟨hU, h0⟩
    have hδ : IntKind.u64.wrap ((mid : Int) - (m2 : Int)) = (((mid + 18446744073709551616 - m2) % 18446744073709551616 : Nat) : Int) := by rw [IntKind.wrap_u64]; omega
    obtain ⟨d, hd⟩ : ∃ d, d = (mid + 18446744073709551616 - m2) % 18446744073709551616 := ⟨_, rfl⟩
    rw [← hd] at hδ
    have HD := Lib.hid hd
    clear hU h0 hwr hd
    by_cases hlt : mid < m2
    · have h5 := h4 hlt
      have hl1 : decide (mid < m2) = true := by simpa using hlt
      have hw1 : IntKind.u64.wrap ((H : Int) - 1) = ((H - 1 : Nat) : Int) := by rw [IntKind.wrap_u64]; omega
      have h6 : (H - 1) / 2 ^ s ≤ H - 1 := Nat.div_le_self _ _
      have hor : bits BinOp.or IntKind.u64 (((H - 1 : Nat) : Int) / 2 ^ s) 1 = ((2 * ((H - 1) / 2 ^ s / 2) + 1 : Nat) : Int) := by
        have := bits_or_u64_nat ((H - 1) / 2 ^ s) 1 (by omega) (by omega)
        rw [or_one] at this
        rw [← this]; push_cast; rfl
      have hor0 : bits BinOp.or IntKind.u64 (((H - 1 : Nat) : Int) / 2 ^ s) 0 = (((H - 1 : Nat) : Int) / 2 ^ s) := by
        have := bits_or_u64_nat ((H - 1) / 2 ^ s) 0 (by omega) (by omega)
        rw [Nat.or_zero] at this
        push_cast at this
        exact this
      have HLT := Lib.hid hlt
      obtain ⟨H1, hH1⟩ : ∃ H1, H1 = H - 1 := ⟨_, rfl⟩
      have HH1 := Lib.hid hH1
      rw [← hH1] at hw1 hor hor0
      have hH2 : H1 < 18446744073709551616 := by omega
      clear h4 hlt h6 hH1 h5
      by_cases hd1 : 1 < d
      · have hd2 : decide ((1 : Int) < (d : Int)) = true := by rw [decide_eq_true_eq]; omega
        have hd3 : decide (1 < d) = true := by rw [decide_eq_true_eq]; omega
        have hUe : U = 2 * (H1 / 2 ^ s / 2) + 1 := by rw [HU.out.1]; unfold uscR; rw [if_pos HU.out.2]; simp only [if_pos HLT.out]; rw [← HD.out, if_pos hd1, HH1.out]
        have HUE := Lib.hid hUe
        clear hUe hd1
        go_enter Tryz.func159, Tryz.ntmps159
        go_wp2_with fail
        refine (HM1.out _).mono ?_
        rintro e w1 ⟨rfl, rfl⟩
        go_wp2_with fail
        refine (HM2.out _).mono ?_
        rintro e w1 ⟨rfl, rfl⟩
        go_wp2_with fail
        refine (HB2.out _ _).mono ?_
        rintro e w1 ⟨rfl, rfl⟩
        go_wp2_with fail
        go_quiet ((go_at_call 150; exact Calls.quiet_of_same (HB3.out _ _)))
        go_wp2_with fail
        go_ret
        exact ⟨ret_int (by rw [HUE.out]; push_cast; rfl), by first | exact ⟨_, rfl⟩ | exact ⟨_, by assumption⟩⟩
      · have hd2 : decide ((1 : Int) < (d : Int)) = false := by rw [decide_eq_false_iff_not]; omega
        have hd3 : decide (1 < d) = false := by rw [decide_eq_false_iff_not]; omega
        have hUe : U = H1 / 2 ^ s := by rw [HU.out.1]; unfold uscR; rw [if_pos HU.out.2]; simp only [if_pos HLT.out]; rw [← HD.out, if_neg hd1, HH1.out]
        have HUE := Lib.hid hUe
        clear hUe hd1
        go_enter Tryz.func159, Tryz.ntmps159
        go_wp2_with fail
        refine (HM1.out _).mono ?_
        rintro e w1 ⟨rfl, rfl⟩
        go_wp2_with fail
        refine (HM2.out _).mono ?_
        rintro e w1 ⟨rfl, rfl⟩
        go_wp2_with fail
        refine (HB2.out _ _).mono ?_
        rintro e w1 ⟨rfl, rfl⟩
        go_wp2_with fail
        go_quiet ((go_at_call 150; exact Calls.quiet_of_same (HB3.out _ _)))
        go_wp2_with fail
        go_ret
        exact ⟨ret_int (by rw [HUE.out]; push_cast; rfl), by first | exact ⟨_, rfl⟩ | exact ⟨_, by assumption⟩⟩
    · have hl1 : decide (mid < m2) = false := by simpa using hlt
      have h6 : H / 2 ^ s ≤ H := Nat.div_le_self _ _
      have hor : bits BinOp.or IntKind.u64 ((H : Int) / 2 ^ s) 1 = ((2 * (H / 2 ^ s / 2) + 1 : Nat) : Int) := by
        have := bits_or_u64_nat (H / 2 ^ s) 1 (by omega) (by omega)
        rw [or_one] at this
        rw [← this]; push_cast; rfl
      have hor0 : bits BinOp.or IntKind.u64 ((H : Int) / 2 ^ s) 0 = ((H : Int) / 2 ^ s) := by
        have := bits_or_u64_nat (H / 2 ^ s) 0 (by omega) (by omega)
        rw [Nat.or_zero] at this
        push_cast at this
        exact this
      have HLT := Lib.hid hlt
      clear h4 hlt h6
      by_cases hd1 : 1 < d
      · have hd2 : decide ((1 : Int) < (d : Int)) = true := by rw [decide_eq_true_eq]; omega
        have hd3 : decide (1 < d) = true := by rw [decide_eq_true_eq]; omega
        have hUe : U = 2 * (H / 2 ^ s / 2) + 1 := by rw [HU.out.1]; unfold uscR; rw [if_pos HU.out.2]; simp only [if_neg HLT.out]; rw [← HD.out, if_pos hd1]
        have HUE := Lib.hid hUe
        clear hUe hd1
        go_enter Tryz.func159, Tryz.ntmps159
        go_wp2_with fail
        refine (HM1.out _).mono ?_
        rintro e w1 ⟨rfl, rfl⟩
        go_wp2_with fail
        refine (HM2.out _).mono ?_
        rintro e w1 ⟨rfl, rfl⟩
        go_wp2_with fail
        refine (HB2.out _ _).mono ?_
        rintro e w1 ⟨rfl, rfl⟩
        go_wp2_with fail
        go_quiet ((go_at_call 150; exact Calls.quiet_of_same (HB3.out _ _)))
        go_wp2_with fail
        go_ret
        exact ⟨ret_int (by rw [HUE.out]; push_cast; rfl), by first | exact ⟨_, rfl⟩ | exact ⟨_, by assumption⟩⟩
      · have hd2 : decide ((1 : Int) < (d : Int)) = false := by rw [decide_eq_false_iff_not]; omega
        have hd3 : decide (1 < d) = false := by rw [decide_eq_false_iff_not]; omega
        have hUe : U = H / 2 ^ s := by rw [HU.out.1]; unfold uscR; rw [if_pos HU.out.2]; simp only [if_neg HLT.out]; rw [← HD.out, if_neg hd1]
        have HUE := Lib.hid hUe
        clear hUe hd1
        go_enter Tryz.func159, Tryz.ntmps159
        go_wp2_with fail
        refine (HM1.out _).mono ?_
        rintro e w1 ⟨rfl, rfl⟩
        go_wp2_with fail
        refine (HM2.out _).mono ?_
        rintro e w1 ⟨rfl, rfl⟩
        go_wp2_with fail
        refine (HB2.out _ _).mono ?_
        rintro e w1 ⟨rfl, rfl⟩
        go_wp2_with fail
        go_quiet ((go_at_call 150; exact Calls.quiet_of_same (HB3.out _ _)))
        go_wp2_with fail
        go_ret
        exact ⟨ret_int (by rw [HUE.out]; push_cast; rfl), by first | exact ⟨_, rfl⟩ | exact ⟨_, by assumption⟩⟩
  · have ht : (IntKind.u64.wrap ((H : Int) / 2 ^ s * 2 ^ s) != (H : Int)) = true := by
      rw [hwr]
      simp only [bne_iff_ne, ne_eq]
      intro h
      exact h0 ((shl_back H s).1 (by exact_mod_cast h))
    have hor : bits BinOp.or IntKind.u64 ((H : Int) / 2 ^ s) 1 = ((2 * (H / 2 ^ s / 2) + 1 : Nat) : Int) := by
      have h5 : H / 2 ^ s ≤ H := Nat.div_le_self _ _
      have := bits_or_u64_nat (H / 2 ^ s) 1 (by omega) (by omega)
      rw [or_one] at this
      rw [← this]; push_cast; rfl
    have hUe : U = 2 * (H / 2 ^ s / 2) + 1 := by rw [hU]; unfold uscR; rw [if_neg h0]
    have HU := Lib.hid hUe
    clear hU h0 hwr hUe
    go_enter Tryz.func159, Tryz.ntmps159
    go_wp2_with fail
    refine (HM1.out _).mono ?_
    rintro e w1 ⟨rfl, rfl⟩
    go_wp2_with fail
    go_ret
    exact ⟨ret_int (by rw [HU.out]; push_cast; rfl), 0, rfl⟩
end Go.Proofs.YtmhagigokgklaaaGreatDoor

/- The digits of a number in a row of bytes, without noughts at the end: setDigits. -/
namespace Go.Proofs.YtmhagigokgklaaaGreatDoor
open Go Go.RowKit Go.Sort Go.Lib

def encB : UInt8 → Value := fun b => .int .u8 (b.toNat : Int)

/-- digits without the noughts at the end -/
def trimZ (l : List UInt8) : List UInt8 := (l.reverse.dropWhile (· == 48)).reverse

theorem dropWhile_all {α : Type} (p : α → Bool) : ∀ (a b : List α), (∀ x ∈ a, p x = true) → (a ++ b).dropWhile p = b.dropWhile p
  | [], _, _ => rfl
  | x :: a, b, h => by
    rw [List.cons_append, List.dropWhile_cons, if_pos (h x List.mem_cons_self)]
    exact dropWhile_all p a b fun y hy => h y (List.mem_cons_of_mem _ hy)

theorem trim_eq (l : List UInt8) (k : Nat) (hk : k ≤ l.length) (h1 : ∀ j (hj : j < l.length), k ≤ j → l[j] = 48) (h2 : ∀ (h : 0 < k), l[k - 1]'(by omega) ≠ 48) : trimZ l = l.take k := by
  unfold trimZ
  conv => lhs; rw [← List.take_append_drop k l]
  rw [List.reverse_append, dropWhile_all]
  · cases k with
    | zero => simp
    | succ k =>
      have h3 := h2 (by omega)
      rw [List.take_succ_eq_append_getElem (by omega), List.reverse_append]
      rw [List.reverse_singleton, List.singleton_append, List.dropWhile_cons, if_neg (by simpa using h3)]
      simp
  · intro x hx
    rw [List.mem_reverse, List.mem_iff_getElem] at hx
    obtain ⟨j, hj, rfl⟩ := hx
    rw [List.length_drop] at hj
    rw [List.getElem_drop, h1 (k + j) (by omega) (by omega)]
    rfl

/-- the digits that count -/
def sig (d : Nat) : List UInt8 := trimZ (decDigits d)

set_option maxRecDepth 100000 in
set_option maxHeartbeats 2000000 in
theorem setDigits_any (b d cap : Nat) (p : Int) (w : World) (_hb : b < w.heap.size) (_hd1 : 1 ≤ d) (hd2 : d < 18446744073709551616) (hp1 : -5000 ≤ p) (hp2 : p ≤ 5000) (hn : nDigits d ≤ 20) (hcap : 32 ≤ cap) (hcap2 : cap ≤ 1000)
    (hH : Holds encB w b 0 (Array.replicate (nDigits d) (0 : UInt8))) :
    Calls Tryz.prog 127 #[.slice (some ⟨b, 0, Option.none⟩) 32 cap, .int .u64 d, .int .i64 p, .int .i64 (nDigits d : Nat)] w fun e w' =>
      e = .returned (.tuple #[.int .i64 ((nDigits d : Nat) + p), .int .i64 ((sig d).length : Nat)]) ∧ ∃ (n v' : Nat) (dk : Array UInt8), w' = (putRow encB w b 0 dk).drewN n ∧ FmtInv (nDigits d) d 0 v' dk := by
  have hpos := nDigits_pos d
  have HF := Lib.hid (Tryz.internal_strconv_formatBase10 b 0 cap d (Array.replicate (nDigits d) (0 : UInt8)) w hH (by rw [Array.size_replicate]; exact lt_pow_nDigits d) hd2 (by rw [Array.size_replicate]; omega))
  rw [Array.size_replicate] at HF
  have hld := decDigits_length d
  have HSG : Hid (sig d = trimZ (decDigits d)) := Lib.hid rfl
  have HRN := Lib.hid (fun (v' : Nat) (dk : Array UInt8) (h : FmtInv (nDigits d) d 0 v' dk) (j : Nat) (hj : j < (decDigits d).length) => row_is_numeral h j hj)
  have HH := Lib.hid hH
  have HLD := Lib.hid hld
  clear hH hld
  generalize nDigits d = N at *
  go_enter Tryz.func127, Tryz.ntmps127
  go_wp2_with fail
  refine HF.out.mono ?_
  rintro e w1 ⟨rfl, n, v', dk, hw1, hfmt⟩
  have hsz : dk.size = N := hfmt.size
  have hcell : ∀ j, j < N → w1.cell? ⟨b, j, Option.none⟩ = some (.int .u8 ((dk[j]!).toNat : Int)) := fun j hj => by
    have := cell?_putRow encB w b 0 (Array.replicate N (0 : UInt8)) dk HH.out (by rw [hsz, Array.size_replicate]) j (by omega)
    rw [Nat.zero_add] at this
    rw [hw1]
    exact this
  have hdig : ∀ j (hj : j < (decDigits d).length), (decDigits d)[j] = dk[j]! := fun j hj => HRN.out v' dk hfmt j hj
  have HFM := Lib.hid hfmt
  have HC := Lib.hid hcell
  have HD := Lib.hid hdig
  have HW1 : Hid (w1 = (putRow encB w b 0 dk).drewN n) := Lib.hid hw1
  clear hfmt hcell hdig hsz hw1
  go_wp2_with fail
  go_loop [3] (fun i => ∃ k : Nat, k ≤ N ∧ i = .int .i64 k ∧ ∀ j (hj : j < (decDigits d).length), k ≤ j → (decDigits d)[j] = 48) (fun i => (RowKit.intOf i).toNat)
  case atStart => exact ⟨N, Nat.le_refl _, rfl, fun j hj h => by have := HLD.out; omega⟩
  case round =>
    obtain ⟨k, hk, rfl, hP⟩ := hrel
    have HP := Lib.hid hP
    clear hP
    by_cases hk0 : k = 0
    · subst hk0
      have HS2 : Hid (sig d = (decDigits d).take 0) := Lib.hid (by rw [HSG.out]; exact trim_eq _ 0 (by omega) (fun j hj h => HP.out j hj h) (fun h => by omega))
      go_wp2_with fail
      refine bodyPost_ret (v := .tuple #[.int .i64 ((N : Int) + p), .int .i64 0]) (by simp [results, Tryz.results127, go_sem]) rfl ⟨?_, n, v', dk, HW1.out, HFM.out⟩
      rw [HS2.out]; rfl
    · obtain ⟨k, rfl⟩ : ∃ q, k = q + 1 := ⟨k - 1, by omega⟩
      have hkN : k < N := by omega
      have hk2 : k < (decDigits d).length := by have := HLD.out; omega
      have c0 := HC.out k hkN
      have hdk := HD.out k hk2
      have HDK := Lib.hid hdk
      clear hdk hk0
      have hb48 : ∀ x : UInt8, (x = 48) ↔ ((x.toNat : Int) = 48) := fun x => by rw [← UInt8.toNat_inj]; show x.toNat = 48 ↔ _; omega
      generalize dk[k]! = x at *
      by_cases hx : x = 48
      · have hq : ((x.toNat : Int) == 48) = true := by rw [beq_iff_eq]; exact (hb48 x).1 hx
        have HX := Lib.hid hx
        clear hx hb48
        go_wp2_with fail
        go_round
        case rel =>
          refine ⟨k, by omega, by go_num, fun j hj h => ?_⟩
          by_cases hjk : j = k
          · subst hjk; rw [HDK.out]; exact HX.out
          · exact HP.out j hj (by omega)
        case measure => simp [RowKit.intOf] <;> omega
      · have hq : ((x.toNat : Int) == 48) = false := by rw [beq_eq_false_iff_ne]; exact fun h => hx ((hb48 x).2 h)
        have HS2 : Hid (sig d = (decDigits d).take (k + 1)) := Lib.hid (by rw [HSG.out]; exact trim_eq _ (k + 1) (by omega) (fun j hj h => HP.out j hj h) (fun h => by simp only [Nat.add_sub_cancel]; rw [HDK.out]; exact hx))
        clear hx hb48
        go_wp2_with fail
        refine bodyPost_ret (v := .tuple #[.int .i64 ((N : Int) + p), .int .i64 ((k : Int) + 1)]) (by simp [results, Tryz.results127, go_sem]) rfl ⟨?_, n, v', dk, HW1.out, HFM.out⟩
        rw [HS2.out, List.length_take, Nat.min_eq_left (by omega)]; push_cast; rfl
end Go.Proofs.YtmhagigokgklaaaGreatDoor

/- Rows of bytes that a call makes: appends, and what they keep. -/
namespace Go.Proofs.YtmhagigokgklaaaGreatDoor
open Go Go.RowKit Go.Sort Go.Lib

theorem info_u8 : (Tryz.prog.info? 5).map (fun i => (i.zero, i.size, i.bytes)) = some (some (.int .u8 0), 1, 1) := by kernel_rfl

/-- v is a row of the call's own that holds l; the blocks of S are as they were in W0 -/
structure Row (base : Nat) (S : Nat → Prop) (W0 W : World) (v : Value) (l : List UInt8) : Prop where
  own : W.ownsRow base 5 1 v l.length (l.map encB)
  ne : ∀ k, S k → v.ownBlock ≠ some k
  keep : ∀ k, S k → W.heap[k]? = W0.heap[k]?
  lt : ∀ k, S k → k < W0.heap.size
  below : Below base W0 W
  ble : base ≤ W0.heap.size

theorem Row.form {base : Nat} {S : Nat → Prop} {W0 W : World} {v : Value} {l : List UInt8} (h : Row base S W0 W v l) : ∃ a c, v = .slice a l.length c := by
  rcases h.own.2 with ⟨h1, h2⟩ | ⟨g, cap, cur, h1, _⟩
  · exact ⟨_, _, by rw [h2]; exact h1⟩
  · exact ⟨_, _, h1⟩

theorem Row.go {base : Nat} {S : Nat → Prop} {W0 W W' : World} {v : Value} {l : List UInt8} (h : Row base S W0 W v l) (hb : Below W.heap.size W W') : Row base S W0 W' v l := by
  refine ⟨?_, h.ne, fun k hk => ?_, h.lt, h.below.trans (hb.mono (Nat.le_trans h.ble h.below.size)), h.ble⟩
  · refine ⟨h.own.1, ?_⟩
    rcases h.own.2 with h1 | ⟨g, cap, cur, h1, h2, h3, h4⟩
    · exact .inl h1
    · exact .inr ⟨g, cap, cur, h1, h2, (hb.block g (Array.getElem?_eq_some_iff.1 h3).1).trans h3, h4⟩
  · exact (hb.block k (Nat.lt_of_lt_of_le (h.lt k hk) h.below.size)).trans (h.keep k hk)

theorem encB_one (l : List UInt8) : ∀ u ∈ l.map encB, u.oneCell' = true := by
  intro u hu
  obtain ⟨x, _, rfl⟩ := List.mem_map.1 hu
  rfl

/-- bytes that lie somewhere are appended -/
theorem Row.more {base : Nat} {S : Nat → Prop} {W0 W : World} {v : Value} {l : List UInt8} (h : Row base S W0 W v l) (ty : TypeId) (b off c : Nat) (xs : List UInt8)
    (hx : ∀ j x, xs[j]? = some x → W.cell? ⟨b, off + j, Option.none⟩ = some (encB x)) (hpos : 0 < xs.length) (hsz : l.length + xs.length ≤ 1000000) :
    ∃ g cap W', (Builtin.append_ #[34, 34] ty #[v, .slice (some ⟨b, off, Option.none⟩) xs.length c]).run Tryz.prog W = .ok (.slice (some ⟨g, 0, Option.none⟩) (l ++ xs).length cap) W' ∧
      Row base S W0 W' (.slice (some ⟨g, 0, Option.none⟩) (l ++ xs).length cap) (l ++ xs) := by
  obtain ⟨i, hi, hz0, hz1, hz2⟩ := info_parts info_u8
  have hnews : ∀ j u, (xs.map encB)[j]? = some u → W.cell? ((⟨b, off, Option.none⟩ : Addr).add j) = some u := by
    intro j u hu
    rw [List.getElem?_map, Option.map_eq_some_iff] at hu
    obtain ⟨x, hx1, rfl⟩ := hu
    rw [add_plain]
    exact hx j x hx1
  have hble : base ≤ W.heap.size := Nat.le_trans h.ble h.below.size
  obtain ⟨g, cap, W', hr, hown, hgr, hat, hgl⟩ := run_append_lies (P := Tryz.prog) W 34 ty base 5 i _ 1 1 Tryz.underlying34 hi hz0 hz1 hz2 rfl (by decide) v l.length (l.map encB) h.own ⟨b, off, Option.none⟩ xs.length c (xs.map encB) (by simp) hnews (encB_one xs) hpos (by unfold maxLen; omega) (by omega) hble _ rfl
  rw [← List.length_append] at hr hown
  rw [← List.map_append] at hown
  refine ⟨g, cap, W', hr, hown, fun k hk => ?_, fun k hk => ?_, h.lt, ?_, h.ble⟩
  · have hkl := h.lt k hk
    have hbs := h.below.size
    rcases hat with h1 | h1
    · show some g ≠ some k
      rw [← h1]; exact h.ne k hk
    · simp only [Value.ownBlock, ne_eq, Option.some.injEq]
      omega
  · exact (hgr.block k (Nat.lt_of_lt_of_le (h.lt k hk) h.below.size) (fun e => h.ne k hk e.symm)).trans (h.keep k hk)
  · exact h.below.trans ⟨hgr.os, hgr.tape, hgr.output, hgr.size, fun k hk => hgr.block k (Nat.lt_of_lt_of_le hk hble) (fun e => by
      have := (h.own.lt k e.symm).1
      omega)⟩

/-- bytes that the call has just built are appended -/
theorem Row.push {base : Nat} {S : Nat → Prop} {W0 W : World} {v : Value} {l : List UInt8} (h : Row base S W0 W v l) (ty : TypeId) (xs : List UInt8) (k : Nat) (cs : Array Value) (hk : k = xs.length) (hcs : cs = (xs.map encB).toArray) (hpos : 0 < k) (hsz : l.length + k ≤ 1000000) :
    ∃ g cap W', (Builtin.append_ #[34, 34] ty #[v, .slice (some ⟨W.heap.size, 0, Option.none⟩) k k]).run Tryz.prog (W.alloc (.cells cs 5)) = .ok (.slice (some ⟨g, 0, Option.none⟩) (l ++ xs).length cap) W' ∧
      Row base S W0 W' (.slice (some ⟨g, 0, Option.none⟩) (l ++ xs).length cap) (l ++ xs) := by
  subst hk
  exact (h.go ((Below.refl _ _).alloc (Nat.le_refl _) _)).more ty W.heap.size 0 xs.length xs (fun j x hx => by
    rw [Nat.zero_add, World.cell?_alloc_new, hcs]
    simp [hx]) hpos hsz

/-- the same, the length spelled by the caller -/
theorem Row.push' {base : Nat} {S : Nat → Prop} {W0 W : World} {v : Value} {l : List UInt8} (h : Row base S W0 W v l) (ty : TypeId) (xs : List UInt8) (k : Nat) (cs : Array Value) (m : Nat) (hk : k = xs.length) (hcs : cs = (xs.map encB).toArray) (hpos : 0 < k) (hsz : l.length + k ≤ 1000000) (hm : (l ++ xs).length = m) :
    ∃ g cap W', (Builtin.append_ #[34, 34] ty #[v, .slice (some ⟨W.heap.size, 0, Option.none⟩) k k]).run Tryz.prog (W.alloc (.cells cs 5)) = .ok (.slice (some ⟨g, 0, Option.none⟩) m cap) W' ∧
      Row base S W0 W' (.slice (some ⟨g, 0, Option.none⟩) m cap) (l ++ xs) := by
  subst hm
  exact h.push ty xs k cs hk hcs hpos hsz
theorem Row.more' {base : Nat} {S : Nat → Prop} {W0 W : World} {v : Value} {l : List UInt8} (h : Row base S W0 W v l) (ty : TypeId) (b off n c : Nat) (xs : List UInt8) (m : Nat) (hn : xs.length = n)
    (hx : ∀ j x, xs[j]? = some x → W.cell? ⟨b, off + j, Option.none⟩ = some (encB x)) (hpos : 0 < n) (hsz : l.length + n ≤ 1000000) (hm : (l ++ xs).length = m) :
    ∃ g cap W', (Builtin.append_ #[34, 34] ty #[v, .slice (some ⟨b, off, Option.none⟩) n c]).run Tryz.prog W = .ok (.slice (some ⟨g, 0, Option.none⟩) m cap) W' ∧
      Row base S W0 W' (.slice (some ⟨g, 0, Option.none⟩) m cap) (l ++ xs) := by
  subst hm hn
  exact h.more ty b off c xs hx hpos hsz

/-- a power of ten in the library's way -/
def expB (x : Int) : List UInt8 :=
  (if x < 0 then 45 else 43) :: (if x.natAbs < 10 then [48, UInt8.ofNat (48 + x.natAbs)] else if x.natAbs < 100 then [UInt8.ofNat (48 + x.natAbs / 10), UInt8.ofNat (48 + x.natAbs % 10)] else [UInt8.ofNat (48 + x.natAbs / 100), UInt8.ofNat (48 + x.natAbs / 10 % 10), UInt8.ofNat (48 + x.natAbs % 10)])

/-- digits with a point behind the first, and a power of ten -/
def efgB (ds : List UInt8) (dp : Int) : List UInt8 := ds.take 1 ++ ((if 1 < ds.length then 46 :: ds.drop 1 else []) ++ 101 :: expB (dp - 1))

theorem ofNat_toNat (n : Nat) (h : n < 256) : ((UInt8.ofNat n).toNat : Int) = (n : Int) := by
  rw [UInt8.toNat_ofNat', Nat.mod_eq_of_lt h]
end Go.Proofs.YtmhagigokgklaaaGreatDoor
