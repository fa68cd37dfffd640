/- Joined texts: Mb Mc Ma Md Me. Each begins with its own remark. -/
import Derived.Test.YtmhagigokgklaaaGreatDoorJf
import Derived.Test.YtmhagigokgklaaaGreatDoorJh
import Derived.Test.YtmhagigokgklaaaGreatDoorJc
import Derived.Deep.LoopGhost
import Derived.Deep.QuietTactic
import Derived.Deep.CutRange
import Derived.Lib.Hide

/- Decimals that are shifted and cut at 800 digits: what is cut changes no rounding (plain). -/
namespace Go.Proofs.YtmhagigokgklaaaGreatDoor
open Go Go.RowKit
set_option exponentiation.threshold 5000

/-- A stands for N / G: no multiple of U lies between; tr tells whether something is lacking -/
structure Tk (A N U G : Nat) (tr : Bool) : Prop where
  le : A * G ≤ N
  eq : tr = false → A * G = N
  lt : tr = true → A * G < N
  un : ∀ c, c * U * G ≤ N → c * U ≤ A

theorem Tk.up {A N U G : Nat} {tr : Bool} (h : Tk A N U G tr) (m : Nat) (hm : 0 < m) : Tk (A * m) (N * m) (U * m) G tr := by
  refine ⟨?_, fun ht => ?_, fun ht => ?_, fun c hc => ?_⟩
  · rw [Nat.mul_right_comm]; exact Nat.mul_le_mul_right m h.le
  · rw [Nat.mul_right_comm, h.eq ht]
  · rw [Nat.mul_right_comm]; exact (Nat.mul_lt_mul_right hm).2 (h.lt ht)
  · have e : c * (U * m) * G = c * U * G * m := by ac_rfl
    rw [← Nat.mul_assoc]
    refine Nat.mul_le_mul_right m (h.un c (Nat.le_of_mul_le_mul_right ?_ hm))
    rw [← e]; exact hc
theorem Tk.down {A N U G m : Nat} {tr : Bool} (h : Tk (A * m) (N * m) (U * m) G tr) (hm : 0 < m) : Tk A N U G tr := by
  have e : A * m * G = A * G * m := Nat.mul_right_comm _ _ _
  refine ⟨?_, fun ht => ?_, fun ht => ?_, fun c hc => ?_⟩
  · have := h.le; rw [e] at this; exact Nat.le_of_mul_le_mul_right this hm
  · have := h.eq ht; rw [e] at this; exact Nat.eq_of_mul_eq_mul_right hm this
  · have := h.lt ht; rw [e] at this; exact Nat.lt_of_mul_lt_mul_right this
  · have e : c * (U * m) * G = c * U * G * m := by ac_rfl
    have := h.un c (by rw [e]; exact Nat.mul_le_mul_right m hc)
    rw [← Nat.mul_assoc] at this
    exact Nat.le_of_mul_le_mul_right this hm
theorem Tk.same {A N U G B rem : Nat} {tr : Bool} (h : Tk A N U G tr) (hA : A = B + rem) (hr : rem = 0) : Tk B N U G (tr || rem != 0) := by
  subst hr hA
  simpa using h
theorem Tk.cut {A N U G T B rem : Nat} {tr : Bool} (h : Tk A N U G tr) (hG : 0 < G) (hA : A = B + rem) (hr : rem < T) (hB : T ∣ B) (hU : T ∣ U) : Tk B N U G (tr || rem != 0) := by
  have hle : B * G ≤ A * G := Nat.mul_le_mul_right G (by omega)
  refine ⟨Nat.le_trans hle h.le, fun ht => ?_, fun ht => ?_, fun c hc => ?_⟩
  · rw [Bool.or_eq_false_iff] at ht
    have h0 : rem = 0 := by simpa using ht.2
    rw [← h.eq ht.1, hA, h0, Nat.add_zero]
  · cases htr : tr
    · rw [htr, Bool.false_or] at ht
      have h0 : rem ≠ 0 := by simpa using ht
      exact Nat.lt_of_lt_of_le ((Nat.mul_lt_mul_right hG).2 (by omega)) h.le
    · exact Nat.lt_of_le_of_lt hle (h.lt htr)
  · have h1 := h.un c hc
    obtain ⟨b, rfl⟩ := hB
    obtain ⟨v, rfl⟩ := hU
    rw [Nat.mul_left_comm] at h1 ⊢
    have h2 : T * (c * v) < T * (b + 1) := by rw [Nat.mul_add, Nat.mul_one]; omega
    exact Nat.mul_le_mul_left T (Nat.le_of_lt_succ (Nat.lt_of_mul_lt_mul_left h2))

/-- digits that do not begin with a nought, at most 800 -/
structure Dg (l : List UInt8) : Prop where
  dig : ∀ x ∈ l, isDig x
  hd : ∃ c t, l = c :: t ∧ c ≠ 48
  len : l.length ≤ 800

theorem Dg.pos {l : List UInt8} (h : Dg l) : 1 ≤ l.length := by
  obtain ⟨c, t, rfl, _⟩ := h.hd
  simp
theorem Dg.hi {l : List UInt8} (h : Dg l) : dvl 10 l < 10 ^ l.length := dvl_lt 10 (by decide) l fun x hx => okD_dv (by decide) (.inl (h.dig x hx))
theorem dvl_head (c : UInt8) (t : List UInt8) : dvl 10 (c :: t) = dv c.toNat * 10 ^ t.length + dvl 10 t := by
  rw [show c :: t = [c] ++ t from rfl, dvl_app]
  congr 2
  unfold dvl
  simp
theorem dig_ne {c : UInt8} (h : isDig c) (h2 : c ≠ 48) : 1 ≤ dv c.toNat := by
  have h3 : c.toNat ≠ 48 := fun h4 => h2 (UInt8.toNat_inj.1 h4)
  have := h.1
  unfold dv; rw [if_pos (show 48 ≤ c.toNat ∧ c.toNat ≤ 57 from h)]; omega
theorem Dg.lo {l : List UInt8} (h : Dg l) : 10 ^ (l.length - 1) ≤ dvl 10 l := by
  obtain ⟨c, t, rfl, hc⟩ := h.hd
  rw [dvl_head, List.length_cons, Nat.add_sub_cancel]
  have := Nat.mul_le_mul_right (10 ^ t.length) (dig_ne (h.dig c (by simp)) hc)
  omega

/-- the value of digits with a point, times ten to the 1500 -/
def av (l : List UInt8) (dp : Int) : Nat := dvl 10 l * 10 ^ (1500 + dp - l.length).toNat
theorem Dg.avlo {l : List UInt8} (h : Dg l) {dp : Int} (hd : -700 ≤ dp) : 10 ^ (1499 + dp).toNat ≤ av l dp := by
  have h1 := h.pos
  have h2 := h.len
  rw [show (1499 + dp).toNat = (l.length - 1) + (1500 + dp - l.length).toNat by omega, Nat.pow_add]
  exact Nat.mul_le_mul_right _ h.lo
theorem Dg.avhi {l : List UInt8} (h : Dg l) {dp : Int} (hd : -700 ≤ dp) : av l dp < 10 ^ (1500 + dp).toNat := by
  have h1 := h.pos
  have h2 := h.len
  rw [show (1500 + dp).toNat = l.length + (1500 + dp - l.length).toNat by omega, Nat.pow_add]
  exact (Nat.mul_lt_mul_right (Nat.pow_pos (by decide))).2 h.hi

/-- B times ten to the q, cut to 800 digits, without noughts behind -/
structure Cut (B : Nat) (q : Int) (tr : Bool) (l : List UInt8) (dp : Int) (tr' : Bool) : Prop where
  dg : Dg l
  last : ∃ t c, l = t ++ [c] ∧ c ≠ 48
  ex : ∃ i rem : Nat, B = dvl 10 l * 10 ^ i + rem ∧ dp - l.length = q + i ∧ (rem = 0 ∨ ∃ j : Nat, rem < 10 ^ j ∧ dp - 800 = q + j) ∧ tr' = (tr || rem != 0)

theorem Cut.dp_le {B : Nat} {q : Int} {tr : Bool} {l : List UInt8} {dp : Int} {tr' : Bool} (h : Cut B q tr l dp tr') (b : Nat) (hb : B < 10 ^ b) : dp ≤ q + b := by
  obtain ⟨i, rem, h1, h2, -, -⟩ := h.ex
  have h3 := h.dg.lo
  have h4 := h.dg.pos
  have h5 : 10 ^ (l.length - 1 + i) < 10 ^ b := by
    rw [Nat.pow_add]
    have := Nat.mul_le_mul_right (10 ^ i) h3
    omega
  have := (Nat.pow_lt_pow_iff_right (by decide : 1 < 10)).1 h5
  omega
theorem Cut.dp_ge {B : Nat} {q : Int} {tr : Bool} {l : List UInt8} {dp : Int} {tr' : Bool} (h : Cut B q tr l dp tr') (a : Nat) (ha : 10 ^ a ≤ B) : q + a + 1 ≤ dp := by
  obtain ⟨i, rem, h1, h2, h3, -⟩ := h.ex
  have h4 := h.dg.hi
  have h5 := h.dg.len
  have hrem : rem < 10 ^ i := by
    rcases h3 with h3 | ⟨j, h3, h6⟩
    · rw [h3]; exact Nat.pow_pos (by decide)
    · exact Nat.lt_of_lt_of_le h3 (Nat.pow_le_pow_right (by decide) (by omega))
  have h7 : B < 10 ^ (l.length + i) := by
    rw [Nat.pow_add, h1]
    have := Nat.mul_le_mul_right (10 ^ i) h4
    rw [Nat.succ_mul] at this
    omega
  have := (Nat.pow_lt_pow_iff_right (by decide : 1 < 10)).1 (Nat.lt_of_le_of_lt ha h7)
  omega
theorem Cut.val {B : Nat} {q : Int} {tr : Bool} {l : List UInt8} {dp : Int} {tr' : Bool} (h : Cut B q tr l dp tr') (hq : 0 ≤ 1500 + q) :
    ∃ rem, B * 10 ^ (1500 + q).toNat = av l dp + rem ∧ tr' = (tr || rem != 0) ∧ (rem = 0 ∨ (rem < 10 ^ (700 + dp).toNat ∧ 10 ^ (700 + dp).toNat ∣ av l dp)) := by
  obtain ⟨i, rem, h1, h2, h3, h4⟩ := h.ex
  have h5 := h.dg.len
  have hp : 0 < 10 ^ (1500 + q).toNat := Nat.pow_pos (by decide)
  refine ⟨rem * 10 ^ (1500 + q).toNat, ?_, ?_, ?_⟩
  · unfold av
    rw [h1, Nat.add_mul, Nat.mul_assoc, ← Nat.pow_add, show i + (1500 + q).toNat = (1500 + dp - l.length).toNat by omega]
  · rw [h4]
    congr 1
    by_cases h0 : rem = 0
    · subst h0; simp
    · rw [bne_iff_ne.2 h0, bne_iff_ne.2 (Nat.mul_ne_zero h0 (by omega))]
  · rcases h3 with h3 | ⟨j, h3, h6⟩
    · left; rw [h3, Nat.zero_mul]
    · right
      refine ⟨?_, ?_⟩
      · rw [show (700 + dp).toNat = j + (1500 + q).toNat by omega, Nat.pow_add]
        exact (Nat.mul_lt_mul_right hp).2 h3
      · unfold av
        exact Nat.dvd_trans (Nat.pow_dvd_pow 10 (show (700 + dp).toNat ≤ (1500 + dp - l.length).toNat by omega)) (Nat.dvd_mul_left _ _)

/-- the least place that counts -/
def uOf (F : Nat) : Int := if F ≤ 2521 then 1446 - (F : Int) else min (1499 - (F : Int)) (-1075)
/-- F tells how great P / Q is -/
structure Sz (P Q F : Nat) : Prop where
  q : 0 < Q
  lo : Q * 2 ^ 1500 ≤ P * 2 ^ (F + 1)
  hi : P * 2 ^ F < Q * 2 ^ 1500
  f1 : 460 ≤ F
  f2 : F ≤ 2610

theorem two_lt_ten {t n : Nat} (h : 2 ^ t < 10 ^ n) : 3 * t < 10 * n := by
  have h1 : 2 ^ (3 * t) < 10 ^ (3 * n) := by
    rw [Nat.mul_comm 3 t, Nat.mul_comm 3 n, Nat.pow_mul, Nat.pow_mul]
    exact Nat.pow_lt_pow_left h (by decide)
  have h2 : 10 ^ (3 * n) ≤ 2 ^ (10 * n) := by
    rw [Nat.pow_mul, Nat.pow_mul]
    exact Nat.pow_le_pow_left (by decide) n
  exact (Nat.pow_lt_pow_iff_right (by decide : 1 < 2)).1 (Nat.lt_of_lt_of_le h1 h2)
theorem ten_lt_two {t n : Nat} (h : 10 ^ n < 2 ^ t) : n < t :=
  (Nat.pow_lt_pow_iff_right (by decide : 1 < 2)).1 (Nat.lt_of_le_of_lt (Nat.pow_le_pow_left (by decide) n) h)

theorem unit_core {P G F f : Nat} {dp : Int} (hF1 : 460 ≤ F) (hF2 : F ≤ 2610) (hhi : P * 2 ^ F < G) (hA : 10 ^ (1499 + dp).toNat * G ≤ P * 2 ^ f * 10 ^ 1500) (h1 : -330 ≤ dp) (h2 : dp ≤ 310) (h3 : 1500 ≤ f ∨ -318 ≤ dp) :
    700 + dp ≤ f + uOf F := by
  by_cases hf : F ≤ f
  · obtain ⟨s, rfl⟩ : ∃ s, f = F + s := ⟨f - F, by omega⟩
    have hd : dp ≤ s + 1 := by
      by_cases h0 : dp ≤ 0
      · omega
      · have h5 : 10 ^ (1499 + dp).toNat * G < 2 ^ s * 10 ^ 1500 * G := by
          refine Nat.lt_of_le_of_lt hA ?_
          have e : P * 2 ^ (F + s) * 10 ^ 1500 = P * 2 ^ F * (2 ^ s * 10 ^ 1500) := by rw [Nat.pow_add]; ac_rfl
          rw [e, Nat.mul_comm _ G]
          exact (Nat.mul_lt_mul_right (Nat.mul_pos (Nat.two_pow_pos s) (Nat.pow_pos (by decide)))).2 hhi
        have h6 := Nat.lt_of_mul_lt_mul_right h5
        rw [show (1499 + dp).toNat = (dp - 1).toNat + 1500 by omega, Nat.pow_add] at h6
        have h7 := ten_lt_two (Nat.lt_of_mul_lt_mul_right h6)
        omega
    unfold uOf
    split <;> omega
  · obtain ⟨t, rfl⟩ : ∃ t, F = f + t := ⟨F - f, by omega⟩
    have h5 : 10 ^ (1499 + dp).toNat * 2 ^ t * G < 10 ^ 1500 * G := by
      have e1 : 10 ^ (1499 + dp).toNat * 2 ^ t * G = 10 ^ (1499 + dp).toNat * G * 2 ^ t := by ac_rfl
      have e2 : P * 2 ^ f * 10 ^ 1500 * 2 ^ t = 10 ^ 1500 * (P * 2 ^ (f + t)) := by rw [Nat.pow_add]; ac_rfl
      rw [e1]
      refine Nat.lt_of_le_of_lt (Nat.mul_le_mul_right _ hA) ?_
      rw [e2]
      exact (Nat.mul_lt_mul_left (Nat.pow_pos (by decide))).2 hhi
    have h6 := Nat.lt_of_mul_lt_mul_right h5
    have h7 : dp ≤ 0 := by
      rcases Int.lt_or_le 0 dp with h | h
      · exfalso
        have h8 : 10 ^ 1500 ≤ 10 ^ (1499 + dp).toNat := Nat.pow_le_pow_right (by decide) (by omega)
        have := Nat.mul_le_mul h8 (Nat.one_le_two_pow (n := t))
        omega
      · exact h
    have h8 : 2 ^ t < 10 ^ (1 - dp).toNat := by
      rw [show 1500 = (1499 + dp).toNat + (1 - dp).toNat by omega, Nat.pow_add] at h6
      exact Nat.lt_of_mul_lt_mul_left h6
    have h9 := two_lt_ten h8
    unfold uOf
    split <;> omega

theorem unit_ok {P Q F f : Nat} {dp : Int} (z : Sz P Q F) (hA : 10 ^ (1499 + dp).toNat * (Q * 2 ^ 1500) ≤ P * 2 ^ f * 10 ^ 1500) (h1 : -330 ≤ dp) (h2 : dp ≤ 310) (h3 : 1500 ≤ f ∨ -318 ≤ dp) :
    700 + dp ≤ f + uOf F := unit_core z.f1 z.f2 z.hi hA h1 h2 h3

/-- P / Q times 2 to the power f - 1500 is held by digits -/
structure Sd (P Q F f : Nat) (l : List UInt8) (dp : Int) (tr : Bool) : Prop where
  dg : Dg l
  tk : Tk (av l dp) (P * 2 ^ f * 10 ^ 1500) (5 ^ 1500 * 2 ^ ((f : Int) + uOf F).toNat) (Q * 2 ^ 1500) tr
  lo : -330 ≤ dp
  hi : dp ≤ 310
  far : 1500 ≤ f ∨ -318 ≤ dp
  ug : 0 ≤ (f : Int) + uOf F

theorem unit_dvd {f : Nat} {dp u : Int} (h1 : 700 + dp ≤ f + u) (h2 : dp ≤ 310) : 10 ^ (700 + dp).toNat ∣ 5 ^ 1500 * 2 ^ ((f : Int) + u).toNat := by
  rw [show 10 = 5 * 2 from rfl, Nat.mul_pow]
  exact Nat.mul_dvd_mul (Nat.pow_dvd_pow 5 (by omega)) (Nat.pow_dvd_pow 2 (by omega))

theorem Sd.left {P Q F f : Nat} {l l' : List UInt8} {dp dp' : Int} {tr tr' : Bool} (z : Sz P Q F) (h : Sd P Q F f l dp tr) (k : Nat) (hc : Cut (dvl 10 l * 2 ^ k) (dp - l.length) tr l' dp' tr') (hhi : dp' ≤ 310) : Sd P Q F (f + k) l' dp' tr' := by
  have hlo := h.lo
  have hlen := h.dg.len
  have hpos := h.dg.pos
  have hug := h.ug
  have hge : dp ≤ dp' := by
    have := hc.dp_ge (l.length - 1) (Nat.le_trans h.dg.lo (Nat.le_mul_of_pos_right _ (Nat.two_pow_pos k)))
    omega
  obtain ⟨rem, h1, h2, h3⟩ := hc.val (by omega)
  have t := h.tk.up (2 ^ k) (Nat.two_pow_pos k)
  have e1 : av l dp * 2 ^ k = av l' dp' + rem := by
    rw [← h1]; unfold av
    rw [show (1500 + dp - l.length).toNat = (1500 + (dp - l.length)).toNat by omega]
    ac_rfl
  have e2 : P * 2 ^ f * 10 ^ 1500 * 2 ^ k = P * 2 ^ (f + k) * 10 ^ 1500 := by rw [Nat.pow_add]; ac_rfl
  have e3 : 5 ^ 1500 * 2 ^ ((f : Int) + uOf F).toNat * 2 ^ k = 5 ^ 1500 * 2 ^ (((f + k : Nat) : Int) + uOf F).toNat := by
    rw [Nat.mul_assoc, ← Nat.pow_add]; congr 2; omega
  rw [e1, e2, e3] at t
  have hle : 10 ^ (1499 + dp').toNat * (Q * 2 ^ 1500) ≤ P * 2 ^ (f + k) * 10 ^ 1500 :=
    Nat.le_trans (Nat.mul_le_mul_right _ (Nat.le_trans (hc.dg.avlo (by omega)) (Nat.le_add_right _ _))) t.le
  have hfar : 1500 ≤ f + k ∨ -318 ≤ dp' := by have := h.far; omega
  have hu := unit_ok z hle (by omega) hhi hfar
  refine ⟨hc.dg, ?_, by omega, hhi, hfar, by omega⟩
  rw [h2]
  rcases h3 with h3 | ⟨h3, h4⟩
  · exact t.same rfl h3
  · exact t.cut (Nat.mul_pos z.q (Nat.two_pow_pos _)) rfl h3 h4 (unit_dvd hu hhi)

theorem Sd.right {P Q F f k : Nat} {l l' : List UInt8} {dp dp' : Int} {tr tr' : Bool} (z : Sz P Q F) (h : Sd P Q F (f + k) l dp tr) (hk : k - 318 ≤ dp) (hc : Cut (dvl 10 l * 5 ^ k) (dp - l.length - k) tr l' dp' tr') : Sd P Q F f l' dp' tr' ∧ dp' ≤ dp ∧ dp - k ≤ dp' := by
  have hhi := h.hi
  have hlen := h.dg.len
  have hpos := h.dg.pos
  have hge : dp - k ≤ dp' := by
    have := hc.dp_ge (l.length - 1) (Nat.le_trans h.dg.lo (Nat.le_mul_of_pos_right _ (Nat.pow_pos (by decide))))
    omega
  have hle : dp' ≤ dp := by
    have := hc.dp_le (l.length + k) (by
      rw [Nat.pow_add]
      exact Nat.lt_of_lt_of_le ((Nat.mul_lt_mul_right (Nat.pow_pos (by decide))).2 h.dg.hi) (Nat.mul_le_mul_left _ (Nat.pow_le_pow_left (by decide) k)))
    omega
  obtain ⟨rem, h1, h2, h3⟩ := hc.val (by omega)
  have e1 : av l dp = (av l' dp' + rem) * 2 ^ k := by
    rw [← h1]; unfold av
    rw [show (1500 + dp - l.length).toNat = (1500 + (dp - l.length - k)).toNat + k by omega, Nat.pow_add, show (10 : Nat) ^ k = 5 ^ k * 2 ^ k by rw [← Nat.mul_pow]]
    ac_rfl
  have e2 : P * 2 ^ (f + k) * 10 ^ 1500 = P * 2 ^ f * 10 ^ 1500 * 2 ^ k := by rw [Nat.pow_add]; ac_rfl
  have hle1 : (av l' dp' + rem) * (Q * 2 ^ 1500) ≤ P * 2 ^ f * 10 ^ 1500 := by
    have := h.tk.le
    rw [e1, e2, Nat.mul_right_comm] at this
    exact Nat.le_of_mul_le_mul_right this (Nat.two_pow_pos k)
  have hle2 : 10 ^ (1499 + dp').toNat * (Q * 2 ^ 1500) ≤ P * 2 ^ f * 10 ^ 1500 :=
    Nat.le_trans (Nat.mul_le_mul_right _ (Nat.le_trans (hc.dg.avlo (by omega)) (Nat.le_add_right _ _))) hle1
  have hu := unit_ok z hle2 (by omega) (by omega) (.inr (by omega))
  have e3 : 5 ^ 1500 * 2 ^ (((f + k : Nat) : Int) + uOf F).toNat = 5 ^ 1500 * 2 ^ ((f : Int) + uOf F).toNat * 2 ^ k := by
    rw [Nat.mul_assoc, ← Nat.pow_add]; congr 2; omega
  have t := h.tk
  rw [e1, e2, e3] at t
  replace t := t.down (Nat.two_pow_pos k)
  refine ⟨⟨hc.dg, ?_, by omega, by omega, .inr (by omega), by omega⟩, hle, hge⟩
  rw [h2]
  rcases h3 with h3 | ⟨h3, h4⟩
  · exact t.same rfl h3
  · exact t.cut (Nat.mul_pos z.q (Nat.two_pow_pos _)) rfl h3 h4 (unit_dvd hu (by omega))

/-- at the beginning -/
theorem Sd.first {P Q F : Nat} {l : List UInt8} {dp p : Int} (z : Sz P Q F) (hg : Dg l) (hp : p = dp - l.length) (hP : P = dvl 10 l * 10 ^ p.toNat) (hQ : Q = 10 ^ (-p).toNat) (h1 : -330 ≤ dp) (h2 : dp ≤ 310) : Sd P Q F 1500 l dp false := by
  have hl := hg.len
  have heq : av l dp * (Q * 2 ^ 1500) = P * 2 ^ 1500 * 10 ^ 1500 := by
    unfold av
    have e : 10 ^ (1500 + dp - l.length).toNat * 10 ^ (-p).toNat = 10 ^ p.toNat * 10 ^ 1500 := by
      rw [← Nat.pow_add, ← Nat.pow_add]; congr 1; omega
    rw [hP, hQ]
    calc _ = dvl 10 l * (10 ^ (1500 + dp - l.length).toNat * 10 ^ (-p).toNat) * 2 ^ 1500 := by ac_rfl
      _ = _ := by rw [e]; ac_rfl
  have hG : 0 < Q * 2 ^ 1500 := Nat.mul_pos z.q (Nat.two_pow_pos _)
  have hu := unit_ok z (f := 1500) (dp := dp) (Nat.le_trans (Nat.mul_le_mul_right _ (hg.avlo (by omega))) (Nat.le_of_eq heq)) h1 h2 (.inl (Nat.le_refl _))
  refine ⟨hg, ⟨Nat.le_of_eq heq, fun _ => heq, fun h => absurd h (by decide), fun c hc => ?_⟩, h1, h2, .inl (Nat.le_refl _), by omega⟩
  rw [← heq] at hc
  exact Nat.le_of_mul_le_mul_right hc hG

/-- where F is reached, the digits show it -/
theorem Sd.great {P Q F f : Nat} {l : List UInt8} {dp : Int} {tr : Bool} (z : Sz P Q F) (h : Sd P Q F f l dp tr) (hf : F ≤ f) : 5 ^ 1500 * 2 ^ (1499 + f - F) ≤ av l dp := by
  have hu : uOf F ≤ 1499 - F := by unfold uOf; split <;> omega
  have hug := h.ug
  have e : 2 ^ (1499 - F - uOf F).toNat * (5 ^ 1500 * 2 ^ ((f : Int) + uOf F).toNat) = 5 ^ 1500 * 2 ^ (1499 + f - F) := by
    rw [Nat.mul_left_comm, ← Nat.pow_add]; congr 2; omega
  have := h.tk.un (2 ^ (1499 - F - uOf F).toNat) (by
    rw [e]
    have h1 := Nat.mul_le_mul_right (5 ^ 1500 * 2 ^ (1499 + f - F)) z.lo
    have e2 : P * 2 ^ (F + 1) * (5 ^ 1500 * 2 ^ (1499 + f - F)) = P * 2 ^ f * 10 ^ 1500 := by
      have e4 : 2 ^ (F + 1) * 2 ^ (1499 + f - F) = 2 ^ f * 2 ^ 1500 := by rw [← Nat.pow_add, ← Nat.pow_add]; congr 1; omega
      rw [show (10 : Nat) ^ 1500 = 2 ^ 1500 * 5 ^ 1500 by rw [← Nat.mul_pow]]
      calc _ = P * (2 ^ (F + 1) * 2 ^ (1499 + f - F)) * 5 ^ 1500 := by ac_rfl
        _ = _ := by rw [e4]; ac_rfl
    rw [e2, Nat.mul_comm (Q * _)] at h1
    exact h1)
  rwa [e] at this
theorem half_eq : 10 ^ 1500 = 2 * (5 ^ 1500 * 2 ^ 1499) := by
  rw [show (10 : Nat) ^ 1500 = 5 ^ 1500 * 2 ^ 1500 by rw [← Nat.mul_pow], show 1500 = 1499 + 1 by rfl, Nat.pow_succ 2]; try ac_rfl
theorem Sd.past {P Q F f : Nat} {l : List UInt8} {dp : Int} {tr : Bool} (z : Sz P Q F) (h : Sd P Q F f l dp tr) (hd : 1 ≤ dp) : F < f := by
  have h1 := h.dg.avlo (dp := dp) (by omega)
  have h2 : 10 ^ 1500 ≤ 10 ^ (1499 + dp).toNat := Nat.pow_le_pow_right (by decide) (by omega)
  have h3 := Nat.le_trans (Nat.mul_le_mul_right (Q * 2 ^ 1500) (Nat.le_trans h2 h1)) h.tk.le
  rw [Nat.mul_comm] at h3
  have h4 := Nat.le_of_mul_le_mul_right h3 (Nat.pow_pos (by decide))
  have h5 := Nat.lt_of_lt_of_le z.hi h4
  exact (Nat.pow_lt_pow_iff_right (by decide : 1 < 2)).1 (Nat.lt_of_mul_lt_mul_left h5)
theorem Sd.below {P Q F f : Nat} {l : List UInt8} {dp : Int} {tr : Bool} (z : Sz P Q F) (h : Sd P Q F f l dp tr) (hd : 2 * av l dp < 10 ^ 1500) : f < F := by
  rcases Nat.lt_or_ge f F with h1 | h1
  · exact h1
  · exfalso
    have h2 := h.great z h1
    have h3 : 2 ^ 1499 ≤ 2 ^ (1499 + f - F) := Nat.pow_le_pow_right (by decide) (by omega)
    have h4 := Nat.mul_le_mul_left (5 ^ 1500) h3
    rw [half_eq] at hd
    omega
theorem Sd.at_ {P Q F f : Nat} {l : List UInt8} {dp : Int} {tr : Bool} (z : Sz P Q F) (h : Sd P Q F f l dp tr) (hd : 10 ^ 1500 ≤ 2 * av l dp) (hd2 : av l dp < 10 ^ 1500) : f = F := by
  have h1 : f ≤ F := by
    rcases Nat.lt_or_ge F f with h1 | h1
    · exfalso
      have h2 := h.great z (Nat.le_of_lt h1)
      have h3 : 2 ^ 1500 ≤ 2 ^ (1499 + f - F) := Nat.pow_le_pow_right (by decide) (by omega)
      have h4 := Nat.mul_le_mul_left (5 ^ 1500) h3
      rw [show (10 : Nat) ^ 1500 = 5 ^ 1500 * 2 ^ 1500 by rw [← Nat.mul_pow]] at hd2
      omega
    · exact h1
  have h2 := h.tk.le
  have h3 := Nat.mul_le_mul_right (Q * 2 ^ 1500) hd
  have h4 : 10 ^ 1500 * (Q * 2 ^ 1500) ≤ 10 ^ 1500 * (P * 2 ^ (f + 1)) := by
    refine Nat.le_trans h3 ?_
    have e : 10 ^ 1500 * (P * 2 ^ (f + 1)) = 2 * (P * 2 ^ f * 10 ^ 1500) := by rw [Nat.pow_succ 2 f]; ac_rfl
    rw [Nat.mul_assoc, e]
    exact Nat.mul_le_mul_left 2 h2
  have h5 := Nat.le_of_mul_le_mul_left h4 (Nat.pow_pos (by decide))
  have h6 := (Nat.pow_lt_pow_iff_right (by decide : 1 < 2)).1 (Nat.lt_of_mul_lt_mul_left (Nat.lt_of_lt_of_le z.hi h5))
  omega

theorem round_eq {A n G H : Nat} {tr : Bool} (hG : 0 < G) (hH : 0 < H) (t1 : A * G ≤ n * (2 * H)) (t2 : tr = false → A * G = n * (2 * H)) (t3 : tr = true → A * G < n * (2 * H)) (t4 : ∀ c, c * H * G ≤ n * (2 * H) → c * H ≤ A) :
    n / G = A / (2 * H) ∧ upG n G = if 2 * (A % (2 * H)) < 2 * H then 0 else if 2 * (A % (2 * H)) = 2 * H ∧ tr = false then (n / G) % 2 else 1 := by
  have hdm := Nat.div_add_mod A (2 * H)
  have hlt := Nat.mod_lt A (show 0 < 2 * H by omega)
  generalize A / (2 * H) = f at *
  generalize A % (2 * H) = r at *
  have hlo : f * G ≤ n := by
    have h1 : 2 * H * f * G ≤ A * G := Nat.mul_le_mul_right G (by omega)
    have h2 : f * G * (2 * H) ≤ n * (2 * H) := by
      refine Nat.le_trans (Nat.le_of_eq ?_) (Nat.le_trans h1 t1); ac_rfl
    exact Nat.le_of_mul_le_mul_right h2 (by omega)
  have hhi : n < (f + 1) * G := by
    rcases Nat.lt_or_ge n ((f + 1) * G) with h | h
    · exact h
    · exfalso
      have h1 := t4 (2 * (f + 1)) (by
        have := Nat.mul_le_mul_right (2 * H) h
        refine Nat.le_trans (Nat.le_of_eq ?_) this; ac_rfl)
      have e : 2 * (f + 1) * H = 2 * H * f + 2 * H := by rw [Nat.mul_add, Nat.add_mul]; congr 1; ac_rfl
      omega
  have hdiv : n / G = f := Nat.div_eq_of_lt_le hlo hhi
  have hdn := Nat.div_add_mod n G
  have hmn := Nat.mod_lt n hG
  rw [hdiv] at hdn
  have hmid : (2 * f + 1) * G ≤ 2 * n ↔ H ≤ r := by
    constructor
    · intro h
      have h1 := t4 (2 * f + 1) (by
        have := Nat.mul_le_mul_right H h
        refine Nat.le_trans (Nat.le_of_eq ?_) (Nat.le_trans this (Nat.le_of_eq ?_)) <;> ac_rfl)
      have e : (2 * f + 1) * H = 2 * H * f + H := by rw [Nat.add_mul, Nat.one_mul]; congr 1; ac_rfl
      omega
    · intro h
      have e : (2 * f + 1) * H = 2 * H * f + H := by rw [Nat.add_mul, Nat.one_mul]; congr 1; ac_rfl
      have h1 : (2 * f + 1) * H * G ≤ A * G := Nat.mul_le_mul_right G (by omega)
      have h2 : (2 * f + 1) * G * H ≤ 2 * n * H := by
        refine Nat.le_trans (Nat.le_of_eq ?_) (Nat.le_trans (Nat.le_trans h1 t1) (Nat.le_of_eq ?_)) <;> ac_rfl
      exact Nat.le_of_mul_le_mul_right h2 hH
  have heq : (2 * f + 1) * G = 2 * n ↔ (H = r ∧ tr = false) := by
    have e : (2 * f + 1) * H = 2 * H * f + H := by rw [Nat.add_mul, Nat.one_mul]; congr 1; ac_rfl
    constructor
    · intro h
      have h0 : (2 * f + 1) * H ≤ A := by have := hmid.1 (Nat.le_of_eq h); omega
      have h1 : (2 * f + 1) * H * G = n * (2 * H) := by
        have : (2 * f + 1) * H * G = (2 * f + 1) * G * H := by ac_rfl
        rw [this, h]; ac_rfl
      have h2 := Nat.mul_le_mul_right G h0
      cases htr : tr
      · have h3 := t2 htr
        rw [← h1] at h3
        have := Nat.eq_of_mul_eq_mul_right hG h3
        exact ⟨by omega, rfl⟩
      · have h3 := t3 htr
        omega
    · rintro ⟨h1, h2⟩
      have h3 := t2 h2
      have h4 : (2 * f + 1) * G * H = 2 * n * H := by
        have e5 : (2 * f + 1) * G * H = (2 * f + 1) * H * G := by ac_rfl
        have e6 : A = (2 * f + 1) * H := by omega
        rw [e5, ← e6, h3]; ac_rfl
      exact Nat.eq_of_mul_eq_mul_right hH h4
  have hx : (2 * f + 1) * G = 2 * (G * f) + G := by rw [Nat.add_mul, Nat.one_mul]; congr 1; ac_rfl
  refine ⟨hdiv, ?_⟩
  unfold upG
  by_cases h1 : 2 * (n % G) < G
  · rw [if_pos h1, if_pos]
    have : ¬ H ≤ r := fun h => by have := hmid.2 h; omega
    omega
  · rw [if_neg h1]
    have h2 : H ≤ r := hmid.1 (by omega)
    rw [if_neg (show ¬ 2 * r < 2 * H by omega)]
    by_cases h3 : 2 * (n % G) = G
    · rw [if_pos h3]
      obtain ⟨h4, h5⟩ := heq.1 (by omega)
      rw [if_pos ⟨by omega, h5⟩]
    · rw [if_neg h3, if_neg]
      rintro ⟨h4, h5⟩
      have := heq.2 ⟨by omega, h5⟩
      omega

/-- what is rounded last -/
theorem Sd.round {P Q F f : Nat} {l : List UInt8} {dp : Int} {tr : Bool} (z : Sz P Q F) (h : Sd P Q F f l dp tr) (hu : (f : Int) + uOf F ≤ 1499) :
    P * 2 ^ f / (Q * 2 ^ 1500) = av l dp / 10 ^ 1500 ∧ upG (P * 2 ^ f) (Q * 2 ^ 1500) = if 2 * (av l dp % 10 ^ 1500) < 10 ^ 1500 then 0 else if 2 * (av l dp % 10 ^ 1500) = 10 ^ 1500 ∧ tr = false then (P * 2 ^ f / (Q * 2 ^ 1500)) % 2 else 1 := by
  have hug := h.ug
  have t := h.tk
  have hG : 0 < Q * 2 ^ 1500 := Nat.mul_pos z.q (Nat.two_pow_pos _)
  have hH : 0 < 5 ^ 1500 * 2 ^ 1499 := Nat.mul_pos (Nat.pow_pos (by decide)) (Nat.two_pow_pos _)
  have e : 2 ^ (1499 - (f + uOf F)).toNat * (5 ^ 1500 * 2 ^ ((f : Int) + uOf F).toNat) = 5 ^ 1500 * 2 ^ 1499 := by
    rw [Nat.mul_left_comm, ← Nat.pow_add]; congr 2; omega
  have hun : ∀ c, c * (5 ^ 1500 * 2 ^ 1499) * (Q * 2 ^ 1500) ≤ P * 2 ^ f * 10 ^ 1500 → c * (5 ^ 1500 * 2 ^ 1499) ≤ av l dp := fun c hc => by
    rw [← e, ← Nat.mul_assoc c] at hc ⊢
    exact t.un _ hc
  have t1 := t.le
  have t2 := t.eq
  have t3 := t.lt
  rw [half_eq] at t1 t2 t3 hun ⊢
  exact round_eq hG hH t1 t2 t3 hun
end Go.Proofs.YtmhagigokgklaaaGreatDoor

/- The rounded integer of a decimal; the nearest float from it (plain). -/
namespace Go.Proofs.YtmhagigokgklaaaGreatDoor
open Go Go.RowKit
set_option exponentiation.threshold 5000

/-- the whole digits ahead of the point -/
def ipW (l : List UInt8) (dp : Int) : Nat := dvl 10 (l.take dp.toNat) * 10 ^ (dp.toNat - l.length)
/-- is one added? -/
def upR (l : List UInt8) (dp : Int) (tr : Bool) : Bool :=
  if dp < 0 ∨ (l.length : Int) ≤ dp then false
  else if l.getD dp.toNat 0 = 53 ∧ dp + 1 = l.length then tr || (decide (0 < dp) && decide ((l.getD (dp.toNat - 1) 0).toNat % 2 = 1))
  else decide (53 ≤ (l.getD dp.toNat 0).toNat)

theorem dvl_tail_pos (t : List UInt8) (c : UInt8) (h : ∀ x ∈ t ++ [c], isDig x) (hc : c ≠ 48) : 0 < dvl 10 (t ++ [c]) := by
  rw [dvl_snoc]
  have := dig_ne (h c (by simp)) hc
  omega

theorem dvl_par (t : List UInt8) (c : UInt8) (h : isDig c) : dvl 10 (t ++ [c]) % 2 = c.toNat % 2 := by
  rw [dvl_snoc]
  unfold dv
  rw [if_pos (show 48 ≤ c.toNat ∧ c.toNat ≤ 57 from h)]
  have := h.1
  omega

theorem par_dec (y : Nat) : y % 2 = (decide (y % 2 = 1)).toNat := by
  rcases Nat.mod_two_eq_zero_or_one y with h | h
  · rw [decide_eq_false (by omega), h]; rfl
  · rw [decide_eq_true h, h]; rfl

theorem av_split {l : List UInt8} (hg : Dg l) (hl : ∃ t c, l = t ++ [c] ∧ c ≠ 48) (dp : Int) (hd : -700 ≤ dp) (tr : Bool) :
    av l dp / 10 ^ 1500 = ipW l dp ∧ (if 2 * (av l dp % 10 ^ 1500) < 10 ^ 1500 then 0 else if 2 * (av l dp % 10 ^ 1500) = 10 ^ 1500 ∧ tr = false then ipW l dp % 2 else 1) = (upR l dp tr).toNat := by
  have hT : 0 < 10 ^ 1500 := Nat.pow_pos (by decide)
  have hlen := hg.len
  rcases Int.lt_or_le dp 0 with h0 | h0
  · have h1 := hg.avhi hd
    have h2 : 10 ^ (1500 + dp).toNat ≤ 10 ^ 1499 := Nat.pow_le_pow_right (by decide) (by omega)
    have h3 : (10 : Nat) ^ 1500 = 10 ^ 1499 * 10 := Nat.pow_succ 10 1499
    have hi : ipW l dp = 0 := by
      unfold ipW; rw [show dp.toNat = 0 by omega]; simp [dvl]
    have hu : upR l dp tr = false := by unfold upR; rw [if_pos (.inl h0)]
    rw [hi, hu, Nat.div_eq_of_lt (by omega), Nat.mod_eq_of_lt (by omega), if_pos (by omega)]
    exact ⟨rfl, rfl⟩
  · rcases Int.lt_or_le dp l.length with h1 | h1
    · obtain ⟨k, rfl⟩ : ∃ k : Nat, dp = k := ⟨dp.toNat, by omega⟩
      have hk : k < l.length := by omega
      have hkn : ((k : Int)).toNat = k := rfl
      obtain ⟨r, hr⟩ : ∃ r, l.length = k + (r + 1) := ⟨l.length - k - 1, by omega⟩
      have hdrop : l.drop k = l[k] :: l.drop (k + 1) := List.drop_eq_getElem_cons hk
      have hlr : (l.drop (k + 1)).length = r := by rw [List.length_drop]; omega
      have hdig : isDig l[k] := hg.dig _ (List.getElem_mem hk)
      have hdv : dv l[k].toNat = l[k].toNat - 48 := by unfold dv; exact if_pos hdig
      have hget : l.getD k 0 = l[k] := by rw [List.getD_eq_getElem?_getD, List.getElem?_eq_getElem hk]; rfl
      have hx : dvl 10 (l.drop (k + 1)) < 10 ^ r := by
        have := dvl_lt 10 (by decide) (l.drop (k + 1)) fun x hx => okD_dv (by decide) (.inl (hg.dig x (List.mem_of_mem_drop hx)))
        rwa [hlr] at this
      have hd2 : dvl 10 (l.drop k) = dv l[k].toNat * 10 ^ r + dvl 10 (l.drop (k + 1)) := by rw [hdrop, dvl_head, hlr]
      have hx0 : dvl 10 (l.drop (k + 1)) = 0 ↔ r = 0 := by
        constructor
        · intro h
          rcases Nat.eq_zero_or_pos r with h2 | h2
          · exact h2
          · exfalso
            obtain ⟨t, c, e, hc⟩ := hl
            have hlt : k + 1 ≤ t.length := by
              have := congrArg List.length e
              rw [List.length_append, List.length_singleton] at this
              omega
            have e2 : l.drop (k + 1) = t.drop (k + 1) ++ [c] := by rw [e, List.drop_append_of_le_length hlt]
            have := dvl_tail_pos (t.drop (k + 1)) c (fun x hx => by rw [← e2] at hx; exact hg.dig x (List.mem_of_mem_drop hx)) hc
            rw [← e2] at this
            omega
        · intro h
          have := List.eq_nil_of_length_eq_zero (hlr.trans h)
          rw [this]; rfl
      have hA : av l (k : Int) = ipW l (k : Int) * 10 ^ 1500 + dvl 10 (l.drop k) * 10 ^ (1500 - (r + 1)) := by
        unfold av ipW
        rw [hkn, show (1500 + (k : Int) - l.length).toNat = 1500 - (r + 1) by omega, show k - l.length = 0 by omega, Nat.pow_zero, Nat.mul_one]
        have e : dvl 10 l = dvl 10 (l.take k) * 10 ^ (r + 1) + dvl 10 (l.drop k) := by
          conv => lhs; rw [← List.take_append_drop k l, dvl_app]
          rw [List.length_drop, show l.length - k = r + 1 by omega]
        rw [e, Nat.add_mul, Nat.mul_assoc, ← Nat.pow_add, show r + 1 + (1500 - (r + 1)) = 1500 by omega]
      have hS : 10 ^ 1500 = 10 * 10 ^ r * 10 ^ (1500 - (r + 1)) := by
        rw [show 10 * 10 ^ r = 10 ^ (r + 1) by rw [Nat.pow_succ, Nat.mul_comm], ← Nat.pow_add]; congr 1; omega
      have hW : 0 < 10 ^ (1500 - (r + 1)) := Nat.pow_pos (by decide)
      have hdv9 : dv l[k].toNat ≤ 9 := by rw [hdv]; have := hdig.2; omega
      have hlt : dvl 10 (l.drop k) * 10 ^ (1500 - (r + 1)) < 10 ^ 1500 := by
        rw [hS, hd2]
        refine (Nat.mul_lt_mul_right hW).2 ?_
        have := Nat.mul_le_mul_right (10 ^ r) hdv9
        omega
      have hq : av l (k : Int) / 10 ^ 1500 = ipW l (k : Int) := by
        rw [hA, Nat.mul_comm, Nat.mul_add_div hT, Nat.div_eq_of_lt hlt]; rfl
      have hm : av l (k : Int) % 10 ^ 1500 = dvl 10 (l.drop k) * 10 ^ (1500 - (r + 1)) := by
        rw [hA, Nat.mul_comm, Nat.mul_add_mod, Nat.mod_eq_of_lt hlt]
      refine ⟨hq, ?_⟩
      rw [hm]
      have c1 : 2 * (dvl 10 (l.drop k) * 10 ^ (1500 - (r + 1))) < 10 ^ 1500 ↔ 2 * dvl 10 (l.drop k) < 10 * 10 ^ r := by
        rw [← Nat.mul_assoc, hS, Nat.mul_lt_mul_right hW]
      have c2 : 2 * (dvl 10 (l.drop k) * 10 ^ (1500 - (r + 1))) = 10 ^ 1500 ↔ 2 * dvl 10 (l.drop k) = 10 * 10 ^ r := by
        rw [← Nat.mul_assoc, hS]; exact ⟨fun h => Nat.eq_of_mul_eq_mul_right hW h, fun h => by rw [h]⟩
      rw [show upR l (k : Int) tr = if l[k] = 53 ∧ r = 0 then tr || (decide (0 < k) && decide ((l.getD (k - 1) 0).toNat % 2 = 1)) else decide (53 ≤ l[k].toNat) by
        unfold upR
        rw [if_neg (by omega), hkn, hget]
        have e1 : ((k : Int) + 1 = l.length) ↔ r = 0 := by omega
        have e2 : decide ((0 : Int) < k) = decide (0 < k) := by congr 1; exact propext (by omega)
        rw [e2]
        congr 1
        exact propext (by rw [e1])]
      by_cases g1 : dv l[k].toNat ≤ 4
      · rw [if_pos (c1.2 (by rw [hd2]; have := Nat.mul_le_mul_right (10 ^ r) g1; omega)), if_neg (by rintro ⟨h, _⟩; rw [hdv, h] at g1; exact absurd g1 (by decide)), decide_eq_false (by rw [hdv] at g1; omega)]
        rfl
      · have g2 : ¬ 2 * dvl 10 (l.drop k) < 10 * 10 ^ r := by
          rw [hd2]; have := Nat.mul_le_mul_right (10 ^ r) (show 5 ≤ dv l[k].toNat by omega); omega
        rw [if_neg (fun h => g2 (c1.1 h))]
        have g53 : 53 ≤ l[k].toNat := by rw [hdv] at g1; omega
        have hp : 0 < 10 ^ r := Nat.pow_pos (by decide)
        have hiff : 2 * dvl 10 (l.drop k) = 10 * 10 ^ r ↔ (l[k] = 53 ∧ r = 0) := by
          rw [hd2, ← hx0]
          constructor
          · intro h
            have h5 : dv l[k].toNat = 5 := by
              rcases Nat.lt_or_ge 5 (dv l[k].toNat) with h6 | h6
              · have := Nat.mul_le_mul_right (10 ^ r) (show 6 ≤ dv l[k].toNat by omega); omega
              · omega
            rw [h5] at h
            refine ⟨UInt8.toNat_inj.1 (by show l[k].toNat = 53; rw [hdv] at h5; omega), by omega⟩
          · rintro ⟨h, h2⟩
            rw [h2, h]
            show 2 * (5 * 10 ^ r + 0) = _
            omega
        by_cases g3 : l[k] = 53 ∧ r = 0
        · rw [if_pos g3]
          cases tr
          · rw [if_pos ⟨c2.2 (hiff.2 g3), rfl⟩, Bool.false_or]
            by_cases hk0 : k = 0
            · subst hk0
              unfold ipW
              simp [dvl]
            · obtain ⟨j, rfl⟩ : ∃ j, k = j + 1 := ⟨k - 1, by omega⟩
              have hj : j < l.length := by omega
              unfold ipW
              rw [hkn, show j + 1 - l.length = 0 by omega, Nat.pow_zero, Nat.mul_one, List.take_succ_eq_append_getElem hj, dvl_par _ _ (hg.dig _ (List.getElem_mem hj)), Nat.add_sub_cancel, List.getD_eq_getElem?_getD, List.getElem?_eq_getElem hj]
              simp only [Option.getD_some, Nat.zero_lt_succ, decide_true, Bool.true_and]
              exact par_dec _
          · rw [if_neg (by rintro ⟨_, h⟩; cases h)]; rfl
        · rw [if_neg g3, if_neg (fun h => g3 (hiff.1 (c2.1 h.1))), decide_eq_true g53]; rfl
    · have hu : upR l dp tr = false := by unfold upR; rw [if_pos (.inr h1)]
      have hA : av l dp = 10 ^ 1500 * ipW l dp := by
        unfold av ipW
        rw [List.take_of_length_le (by omega), show (1500 + dp - l.length).toNat = (dp.toNat - l.length) + 1500 by omega, Nat.pow_add]
        ac_rfl
      rw [hu, hA, Nat.mul_div_cancel_left _ hT, Nat.mul_mod_right, if_pos (by omega)]
      exact ⟨rfl, rfl⟩

/-- the last shift, by what it began with -/
def fEnd (F : Nat) : Nat := if F ≤ 2521 then F + 53 else 2574
theorem fEnd_unit (F : Nat) : (fEnd F : Int) + uOf F ≤ 1499 := by unfold fEnd uOf; split <;> omega

theorem Sd.near {F d : Nat} {p : Int} {l : List UInt8} {dp : Int} {tr : Bool} (z : Sz (d * 10 ^ p.toNat) (dQ p) F) (h : Sd (d * 10 ^ p.toNat) (dQ p) F (fEnd F) l dp tr) (hl : ∃ t c, l = t ++ [c] ∧ c ≠ 48) :
    Near (dX d p) (dQ p) (min INF ((2521 - F) * BB + (ipW l dp + (upR l dp tr).toNat))) ∧ ipW l dp + (upR l dp tr).toNat ≤ 2 * BB ∧ (F ≤ 2521 → BB ≤ ipW l dp + (upR l dp tr).toNat) ∧ (2521 < F → ipW l dp + (upR l dp tr).toNat ≤ BB) := by
  obtain ⟨r1, r2⟩ := h.round z (fEnd_unit F)
  have hlo := h.lo
  obtain ⟨s1, s2⟩ := av_split h.dg hl dp (by omega) tr
  rw [r1, s1] at r2
  rw [s2] at r2
  rw [s1] at r1
  have hG : 0 < dQ p * 2 ^ 1500 := Nat.mul_pos z.q (Nat.two_pow_pos _)
  have hX : dX d p * (dQ p * 2 ^ 1500) = 2 * (dQ p * (d * 10 ^ p.toNat * 2 ^ fEnd F * 2 ^ (2521 - F))) := by
    have e : 2 ^ fEnd F * 2 ^ (2521 - F) = 2 ^ 1074 * 2 ^ 1500 := by
      rw [← Nat.pow_add, ← Nat.pow_add]; congr 1; unfold fEnd; split <;> omega
    unfold dX
    calc _ = 2 * (dQ p * (d * 10 ^ p.toNat * (2 ^ 1074 * 2 ^ 1500))) := by ac_rfl
      _ = _ := by rw [← e]; ac_rfl
  have hup : upG (d * 10 ^ p.toNat * 2 ^ fEnd F) (dQ p * 2 ^ 1500) ≤ 1 := by rw [r2]; cases upR l dp tr <;> decide
  have hhi := z.hi
  have hlo2 := z.lo
  have hsz : (F ≤ 2521 → d * 10 ^ p.toNat * 2 ^ fEnd F / (dQ p * 2 ^ 1500) < 2 * BB ∧ BB ≤ d * 10 ^ p.toNat * 2 ^ fEnd F / (dQ p * 2 ^ 1500)) ∧ (2521 < F → d * 10 ^ p.toNat * 2 ^ fEnd F / (dQ p * 2 ^ 1500) < BB) := by
    generalize d * 10 ^ p.toNat = P at *
    generalize dQ p * 2 ^ 1500 = G at *
    constructor
    · intro hF
      have e : fEnd F = F + 53 := if_pos hF
      rw [e]
      constructor
      · rw [Nat.div_lt_iff_lt_mul hG, show 2 * BB = 2 ^ 53 from rfl, Nat.pow_add, ← Nat.mul_assoc, Nat.mul_comm (2 ^ 53)]
        exact (Nat.mul_lt_mul_right (Nat.two_pow_pos _)).2 hhi
      · rw [Nat.le_div_iff_mul_le hG, show BB = 2 ^ 52 from rfl, show F + 53 = F + 1 + 52 from rfl, Nat.pow_add 2 (F + 1), ← Nat.mul_assoc, Nat.mul_comm (2 ^ 52)]
        exact Nat.mul_le_mul_right _ hlo2
    · intro hF
      have e : fEnd F = 2574 := if_neg (by omega)
      rw [e, Nat.div_lt_iff_lt_mul hG, show BB = 2 ^ 52 from rfl]
      have h1 : P * 2 ^ 2574 ≤ P * 2 ^ F * 2 ^ 52 := by
        rw [Nat.mul_assoc, ← Nat.pow_add]
        exact Nat.mul_le_mul_left _ (Nat.pow_le_pow_right (by decide) (by omega))
      have h2 := (Nat.mul_lt_mul_right (Nat.two_pow_pos 52)).2 hhi
      rw [Nat.mul_comm (2 ^ 52) G]
      exact Nat.lt_of_le_of_lt h1 h2
  have hn := near_gap (dQ_pos p) hG hX (by
    by_cases hF : F ≤ 2521
    · exact (hsz.1 hF).1
    · have := hsz.2 (by omega); omega) (by
    by_cases hF : F ≤ 2521
    · exact .inr (hsz.1 hF).2
    · left; omega)
  rw [r2, r1] at hn
  rw [r1] at hsz
  rw [r2] at hup
  refine ⟨hn, ?_, fun hF => ?_, fun hF => ?_⟩
  · by_cases hF : F ≤ 2521
    · have := hsz.1 hF; omega
    · have := hsz.2 (by omega); omega
  · have := hsz.1 hF; omega
  · have := hsz.2 hF; omega
end Go.Proofs.YtmhagigokgklaaaGreatDoor

/- strconv's decimal in memory; trim (walked). -/
namespace Go.Proofs.YtmhagigokgklaaaGreatDoor
open Go Go.RowKit Go.Sort Go.Lib

/-- the cells of a decimal: 800 digits, how many count, the point, the sign, whether something was cut -/
def decRow (dk : List UInt8) (nd dp : Int) (ng tr : Bool) : Array Value := (dk.map encB ++ [Value.int .i64 nd, Value.int .i64 dp, Value.bool ng, Value.bool tr]).toArray
structure DecAt (W : World) (b : Nat) (dk : List UInt8) (nd dp : Int) (ng tr : Bool) : Prop where
  len : dk.length = 800
  at_ : W.heap[b]? = some (.cells (decRow dk nd dp ng tr) 153 (0, 0))
theorem DecAt.lt {W : World} {b : Nat} {dk : List UInt8} {nd dp : Int} {ng tr : Bool} (h : DecAt W b dk nd dp ng tr) : b < W.heap.size := (Array.getElem?_eq_some_iff.1 h.at_).1
theorem DecAt.cell {W : World} {b : Nat} {dk : List UInt8} {nd dp : Int} {ng tr : Bool} (h : DecAt W b dk nd dp ng tr) (j : Nat) (x : UInt8) (hx : dk[j]? = some x) : W.cell? ⟨b, j, Option.none⟩ = some (.int .u8 (x.toNat : Int)) := by
  rw [cell_of_row W b j _ _ _ h.at_]
  unfold decRow
  have hj : j < dk.length := (List.getElem?_eq_some_iff.1 hx).1
  simp only [List.getElem?_toArray]
  rw [List.getElem?_append_left (by simpa using hj), List.getElem?_map, hx]
  rfl
theorem DecAt.tail {W : World} {b : Nat} {dk : List UInt8} {nd dp : Int} {ng tr : Bool} (h : DecAt W b dk nd dp ng tr) :
    W.cell? ⟨b, 800, Option.none⟩ = some (.int .i64 nd) ∧ W.cell? ⟨b, 801, Option.none⟩ = some (.int .i64 dp) ∧ W.cell? ⟨b, 802, Option.none⟩ = some (.bool ng) ∧ W.cell? ⟨b, 803, Option.none⟩ = some (.bool tr) := by
  have hl : (dk.map encB).length = 800 := by rw [List.length_map]; exact h.len
  refine ⟨?_, ?_, ?_, ?_⟩ <;>
    (rw [cell_of_row W b _ _ _ _ h.at_]
     unfold decRow
     simp only [List.getElem?_toArray]
     rw [List.getElem?_append_right (by rw [hl]; omega), hl]
     rfl)
theorem DecAt.put {W : World} {b : Nat} {dk : List UInt8} {nd dp : Int} {ng tr : Bool} (h : DecAt W b dk nd dp ng tr) (j : Nat) (hj : j < 800) (c : UInt8) (v : Value) (hv : v = encB c) : DecAt (W.setCell ⟨b, j, Option.none⟩ v) b (dk.set j c) nd dp ng tr := by
  subst hv
  refine ⟨by rw [List.length_set]; exact h.len, ?_⟩
  rw [setCell_heap h.at_ _]
  congr 2
  unfold decRow
  rw [List.setIfInBounds_toArray, List.set_append_left _ _ (by rw [List.length_map, h.len]; exact hj), List.map_set]
theorem DecAt.putTail {W : World} {b : Nat} {dk : List UInt8} {nd dp : Int} {ng tr : Bool} (h : DecAt W b dk nd dp ng tr) :
    (∀ n : Int, DecAt (W.setCell ⟨b, 800, Option.none⟩ (.int .i64 n)) b dk n dp ng tr) ∧ (∀ n : Int, DecAt (W.setCell ⟨b, 801, Option.none⟩ (.int .i64 n)) b dk nd n ng tr) ∧ (∀ n : Bool, DecAt (W.setCell ⟨b, 802, Option.none⟩ (.bool n)) b dk nd dp n tr) ∧ (∀ n : Bool, DecAt (W.setCell ⟨b, 803, Option.none⟩ (.bool n)) b dk nd dp ng n) := by
  have hl : (dk.map encB).length = 800 := by rw [List.length_map]; exact h.len
  refine ⟨fun n => ⟨h.len, ?_⟩, fun n => ⟨h.len, ?_⟩, fun n => ⟨h.len, ?_⟩, fun n => ⟨h.len, ?_⟩⟩ <;>
    (rw [setCell_heap h.at_ _]
     congr 2
     unfold decRow
     rw [List.setIfInBounds_toArray, List.set_append_right _ _ (by rw [hl]; omega), hl]
     rfl)
theorem DecAt.drewN {W : World} {b : Nat} {dk : List UInt8} {nd dp : Int} {ng tr : Bool} (h : DecAt W b dk nd dp ng tr) (n : Nat) : DecAt (W.drewN n) b dk nd dp ng tr := ⟨h.len, h.at_⟩

theorem DecAt.frz {W : World} {b : Nat} {dk : List UInt8} {nd dp : Int} {ng tr : Bool} (h : DecAt W b dk nd dp ng tr) (o : Nat) : W.frozen? ⟨b, o, Option.none⟩ = false := by simp [World.frozen?, h.at_]

/-- m is how many of n digits stay where noughts behind go -/
def TrimTo (dk : List UInt8) (n m : Nat) : Prop := m ≤ n ∧ (∀ j, m ≤ j → j < n → dk[j]? = some 48) ∧ (m = 0 ∨ ∃ x, dk[m - 1]? = some x ∧ x ≠ 48)
def TrPost (b : Nat) (dk : List UInt8) (n : Nat) (dp : Int) (ng tr : Bool) (w : World) (e : Ending) (w' : World) : Prop :=
  (∃ v, e = .returned v) ∧ ∃ m, TrimTo dk n m ∧ DecAt w' b dk m (if m = 0 then 0 else dp) ng tr ∧ Below b w w'

set_option maxRecDepth 100000 in
set_option maxHeartbeats 2000000 in
theorem dtrim_any (b n : Nat) (dk : List UInt8) (dp : Int) (ng tr : Bool) (w : World) (h : DecAt w b dk n dp ng tr) (hn : n ≤ 800) :
    Calls Tryz.prog 166 #[.pointer (some ⟨b, 0, Option.none⟩)] w (TrPost b dk n dp ng tr w) := by
  have H := Lib.hid h
  clear h
  go_enter Tryz.func166, Tryz.ntmps166
  go_wp2_with fail
  go_loopg [] n (fun g wr => g ≤ n ∧ (∀ j, g ≤ j → j < n → dk[j]? = some 48) ∧ DecAt wr b dk g dp ng tr ∧ Below b w wr)
  case atStart => exact ⟨Nat.le_refl _, fun j h1 h2 => by omega, H.out, Below.refl _ _⟩
  case round =>
    obtain ⟨hk, hz, hd, hb⟩ := hrel
    obtain ⟨c1, c2, c3, c4⟩ := hd.tail
    have HD := Lib.hid hd
    have HZ := Lib.hid hz
    have HB := Lib.hid hb
    clear hz hb c3 c4
    have hblt := hd.lt
    have fz := hd.frz
    by_cases h0 : gk = 0
    · subst h0
      clear hd
      go_wp2_with fail
      go_quiet (fail)
      go_wp2_with fail
      go_end0
      refine ⟨⟨_, rfl⟩, 0, ⟨Nat.zero_le _, HZ.out, .inl rfl⟩, ?_, ?_⟩
      · rw [if_pos rfl]
        first | exact HD.out.putTail.2.1 0 | exact (HD.out.drewN _).putTail.2.1 0
      · first | exact HB.out.setCell (Nat.le_refl b) _ | exact (bDrewN HB.out _).setCell (Nat.le_refl b) _
    · obtain ⟨k, rfl⟩ : ∃ k, gk = k + 1 := ⟨gk - 1, by omega⟩
      have hk8 : k < dk.length := by rw [hd.len]; omega
      have hx : dk[k]? = some dk[k] := List.getElem?_eq_getElem hk8
      have c5 := hd.cell k dk[k] hx
      obtain ⟨x, hxx⟩ : ∃ x, dk[k] = x := ⟨_, rfl⟩
      rw [hxx] at c5 hx
      have HX := Lib.hid hx
      have hkp : ((k + 1 : Nat) : Int) - 1 = (k : Int) := by omega
      have hkp2 : (k : Int) + 1 - 1 = (k : Int) := by omega
      have hk800 : k < 800 := by omega
      clear hd hx hxx hk8 h0
      by_cases h48 : x = 48
      · have HZ2 : Hid (∀ j, k ≤ j → j < n → dk[j]? = some 48) := Lib.hid (fun j h1 h2 => by
          rcases Nat.lt_or_ge k j with g | g
          · exact HZ.out j g h2
          · obtain rfl : j = k := by omega
            rw [HX.out, h48])
        subst h48
        go_wp2_with fail
        go_quiet (fail)
        go_wp2_with fail
        go_roundg k
        case measure => omega
        case rel => exact ⟨by omega, HZ2.out, by first | exact HD.out.putTail.1 _ | exact (HD.out.drewN _).putTail.1 _, by first | exact HB.out.setCell (Nat.le_refl b) _ | exact (bDrewN HB.out _).setCell (Nat.le_refl b) _⟩
      · have hxn : ((x.toNat : Int) == 48) = false := by
          rw [beq_eq_false_iff_ne]
          intro h
          exact h48 (UInt8.toNat_inj.1 (by show x.toNat = 48; omega))
        have HNX := Lib.hid h48
        clear h48
        go_wp2_with fail
        go_quiet (fail)
        go_wp2_with fail
        go_end0
        refine ⟨⟨_, rfl⟩, k + 1, ⟨hk, HZ.out, .inr ⟨x, HX.out, HNX.out⟩⟩, ?_, ?_⟩
        · rw [if_neg (by omega)]
          first | exact HD.out | exact HD.out.drewN _
        · first | exact HB.out | exact bDrewN HB.out _
end Go.Proofs.YtmhagigokgklaaaGreatDoor

/- The digits that shifts put down (plain). -/
namespace Go.Proofs.YtmhagigokgklaaaGreatDoor
open Go Go.RowKit

/-- digits put down one by one -/
structure Run (xs : List UInt8) (N : Nat → Nat) (c : Nat) : Prop where
  z : N 0 < 10
  s : ∀ i, i + 1 < c → N (i + 1) / 10 = N i
  x : ∀ i, i < c → xs[i]? = some (UInt8.ofNat (48 + N i % 10))

theorem chr_dig (n : Nat) : isDig (UInt8.ofNat (48 + n % 10)) ∧ dv (UInt8.ofNat (48 + n % 10)).toNat = n % 10 ∧ (UInt8.ofNat (48 + n % 10) = 48 ↔ n % 10 = 0) := by
  have h : n % 10 < 10 := Nat.mod_lt _ (by decide)
  generalize n % 10 = d at *
  have key : ∀ d : Fin 10, (48 ≤ (UInt8.ofNat (48 + d.val)).toNat ∧ (UInt8.ofNat (48 + d.val)).toNat ≤ 57) ∧ dv (UInt8.ofNat (48 + d.val)).toNat = d.val ∧ (UInt8.ofNat (48 + d.val) = 48 ↔ d.val = 0) := by decide +kernel
  exact key ⟨d, h⟩

theorem Run.val {xs : List UInt8} {N : Nat → Nat} {c : Nat} (h : Run xs N c) : ∀ j, j < c → dvl 10 (xs.take (j + 1)) = N j
  | 0, hj => by
    have hx := h.x 0 hj
    obtain ⟨hl, he⟩ := List.getElem?_eq_some_iff.1 hx
    rw [List.take_succ_eq_append_getElem hl, dvl_snoc, he, (chr_dig _).2.1, Nat.mod_eq_of_lt h.z]
    simp [dvl]
  | j + 1, hj => by
    have hx := h.x (j + 1) hj
    obtain ⟨hl, he⟩ := List.getElem?_eq_some_iff.1 hx
    rw [List.take_succ_eq_append_getElem hl, dvl_snoc, he, (chr_dig _).2.1, h.val j (by omega), ← h.s j hj, Nat.mul_comm]
    exact Nat.div_add_mod _ _
theorem Run.digs {xs : List UInt8} {N : Nat → Nat} {c : Nat} (h : Run xs N c) {m : Nat} (hm : m ≤ c) : ∀ x ∈ xs.take m, isDig x := by
  intro x hx
  obtain ⟨i, hi, he⟩ := List.getElem_of_mem hx
  rw [List.length_take] at hi
  have h2 := h.x i (by omega)
  rw [List.getElem_take] at he
  obtain ⟨hl, h3⟩ := List.getElem?_eq_some_iff.1 h2
  rw [← he, h3]
  exact (chr_dig _).1

theorem dvl_noughts (xs : List UInt8) (m : Nat) : ∀ c, m ≤ c → c ≤ xs.length → (∀ j, m ≤ j → j < c → xs[j]? = some 48) → dvl 10 (xs.take c) = dvl 10 (xs.take m) * 10 ^ (c - m)
  | 0, h1, _, _ => by obtain rfl : m = 0 := by omega
                      simp
  | c + 1, h1, h2, h3 => by
    by_cases hm : m = c + 1
    · subst hm; simp
    · have hc := h3 c (by omega) (by omega)
      obtain ⟨hl, he⟩ := List.getElem?_eq_some_iff.1 hc
      rw [List.take_succ_eq_append_getElem hl, dvl_snoc, he, dvl_noughts xs m c (by omega) (by omega) fun j a b => h3 j a (by omega), show c + 1 - m = (c - m) + 1 by omega, Nat.pow_succ, Nat.mul_assoc]
      rfl

theorem Run.trim {xs : List UInt8} {N : Nat → Nat} {c m : Nat} (h : Run xs N c) (hc1 : 1 ≤ c) (hc : c ≤ 800) (hl : xs.length = 800) (hn : 1 ≤ N 0) (ht : TrimTo xs c m) :
    1 ≤ m ∧ m ≤ c ∧ Dg (xs.take m) ∧ (∃ t c, xs.take m = t ++ [c] ∧ c ≠ 48) ∧ N (c - 1) = dvl 10 (xs.take m) * 10 ^ (c - m) := by
  obtain ⟨h1, h2, h3⟩ := ht
  have hz := h.z
  have h0 := h.x 0 (by omega)
  have hne : UInt8.ofNat (48 + N 0 % 10) ≠ 48 := fun h => by have := (chr_dig _).2.2.1 h; omega
  have hm : 1 ≤ m := by
    rcases Nat.eq_zero_or_pos m with h4 | h4
    · exfalso
      have := h2 0 (by omega) (by omega)
      rw [h0] at this
      exact hne (Option.some.inj this)
    · exact h4
  refine ⟨hm, h1, ⟨h.digs h1, ?_, ?_⟩, ?_, ?_⟩
  · obtain ⟨a, t, rfl⟩ : ∃ a t, xs = a :: t := by
      cases xs with
      | nil => simp at hl
      | cons a t => exact ⟨a, t, rfl⟩
    obtain ⟨k, rfl⟩ : ∃ k, m = k + 1 := ⟨m - 1, by omega⟩
    refine ⟨a, t.take k, by simp, ?_⟩
    rw [List.getElem?_cons_zero] at h0
    rw [Option.some.inj h0]
    exact hne
  · rw [List.length_take]; omega
  · rcases h3 with h3 | ⟨x, h3, h4⟩
    · omega
    · obtain ⟨k, rfl⟩ : ∃ k, m = k + 1 := ⟨m - 1, by omega⟩
      rw [Nat.add_sub_cancel] at h3
      obtain ⟨hl2, he⟩ := List.getElem?_eq_some_iff.1 h3
      exact ⟨xs.take k, x, by rw [List.take_succ_eq_append_getElem hl2, he], h4⟩
  · rw [← dvl_noughts xs m c h1 (by omega) h2]
    have := h.val (c - 1) (by omega)
    rw [Nat.sub_add_cancel hc1] at this
    exact this.symm

/-- what a shift to the left has put down: t digits of M, from behind -/
structure Lw (dk xs : List UInt8) (M m t : Nat) : Prop where
  len : xs.length = 800
  old : ∀ i, i < 800 → i + t < m → xs[i]? = dk[i]?
  new : ∀ i, i < 800 → i < m → m ≤ i + t → xs[i]? = some (UInt8.ofNat (48 + M / 10 ^ (m - 1 - i) % 10))
theorem Lw.first (dk : List UInt8) (M m : Nat) (h : dk.length = 800) : Lw dk dk M m 0 := ⟨h, fun _ _ _ => rfl, fun i h1 h2 h3 => by omega⟩
theorem Lw.put {dk xs : List UInt8} {M m t : Nat} (h : Lw dk xs M m t) (ht : t < m) (hw : m - t - 1 < 800) : Lw dk (xs.set (m - t - 1) (UInt8.ofNat (48 + M / 10 ^ t % 10))) M m (t + 1) := by
  refine ⟨by rw [List.length_set]; exact h.len, fun i h1 h2 => ?_, fun i h1 h2 h3 => ?_⟩
  · rw [List.getElem?_set_ne (by omega)]; exact h.old i h1 (by omega)
  · by_cases h4 : i = m - t - 1
    · subst h4
      rw [List.getElem?_set_self (by rw [h.len]; exact hw), show m - 1 - (m - t - 1) = t by omega]
    · rw [List.getElem?_set_ne (by omega)]; exact h.new i h1 h2 (by omega)
theorem Lw.skip {dk xs : List UInt8} {M m t : Nat} (h : Lw dk xs M m t) (hw : 800 ≤ m - t - 1) : Lw dk xs M m (t + 1) :=
  ⟨h.len, fun i h1 h2 => h.old i h1 (by omega), fun i h1 h2 h3 => by omega⟩
theorem Lw.run {dk xs : List UInt8} {M m : Nat} (h : Lw dk xs M m m) (hM : M < 10 ^ m) (hm : 1 ≤ m) : Run xs (fun i => M / 10 ^ (m - 1 - i)) (min m 800) := by
  refine ⟨?_, fun i hi => ?_, fun i hi => h.new i (by omega) (by omega) (by omega)⟩
  · show M / 10 ^ (m - 1 - 0) < 10
    rw [Nat.div_lt_iff_lt_mul (Nat.pow_pos (by decide)), Nat.sub_zero, Nat.mul_comm, ← Nat.pow_succ, show (m - 1).succ = m by omega]
    exact hM
  · show M / 10 ^ (m - 1 - (i + 1)) / 10 = M / 10 ^ (m - 1 - i)
    rw [Nat.div_div_eq_div_mul, ← Nat.pow_succ]; congr 2; omega

/-- what was lost behind the 800th digit -/
def lostB (M m t : Nat) : Bool := M % 10 ^ (min t (m - 800)) != 0
theorem lost_zero (M m : Nat) : lostB M m 0 = false := by unfold lostB; rw [Nat.zero_min, Nat.pow_zero, Nat.mod_one]; rfl
theorem lost_put (M m t : Nat) (h : m - t - 1 < 800) (ht : t < m) : lostB M m (t + 1) = lostB M m t := by
  unfold lostB; rw [show min (t + 1) (m - 800) = min t (m - 800) by omega]
theorem lost_skip (M m t : Nat) (h : 800 ≤ m - t - 1) : lostB M m (t + 1) = (lostB M m t || (M / 10 ^ t % 10 != 0)) := by
  unfold lostB
  rw [show min (t + 1) (m - 800) = t + 1 by omega, show min t (m - 800) = t by omega, Nat.pow_succ, Nat.mod_mul]
  have hp : 0 < 10 ^ t := Nat.pow_pos (by decide)
  by_cases h1 : M % 10 ^ t = 0
  · rw [h1, Nat.zero_add]
    by_cases h2 : M / 10 ^ t % 10 = 0
    · rw [h2]; simp
    · rw [bne_iff_ne.2 (Nat.mul_ne_zero (by omega) h2), bne_iff_ne.2 h2]; simp
  · rw [bne_iff_ne.2 h1, bne_iff_ne.2 (by omega)]; simp
theorem lost_full (M m : Nat) : lostB M m m = (M % 10 ^ (m - 800) != 0) := by unfold lostB; rw [show min m (m - 800) = m - 800 by omega]

theorem left_cut {l dk xs : List UInt8} {k m mm : Nat} {dp : Int} {tr : Bool} (_hl : l.length ≤ 800) (h : Lw dk xs (dvl 10 l * 2 ^ k) m m) (h1 : 10 ^ (m - 1) ≤ dvl 10 l * 2 ^ k) (h2 : dvl 10 l * 2 ^ k < 10 ^ m) (hm : 1 ≤ m) (ht : TrimTo xs (min m 800) mm) :
    Cut (dvl 10 l * 2 ^ k) (dp - l.length) tr (xs.take mm) (dp + (m - l.length)) (tr || lostB (dvl 10 l * 2 ^ k) m m) ∧ 1 ≤ mm ∧ mm ≤ 800 := by
  generalize dvl 10 l * 2 ^ k = M at *
  obtain ⟨a1, a2, a3, a4, a5⟩ := (h.run h2 hm).trim (by omega) (by omega) h.len (by
    show 1 ≤ M / 10 ^ (m - 1 - 0)
    rw [Nat.sub_zero, Nat.le_div_iff_mul_le (Nat.pow_pos (by decide)), Nat.one_mul]; exact h1) ht
  refine ⟨⟨a3, a4, (min m 800 - mm) + (m - 800), M % 10 ^ (m - 800), ?_, ?_, ?_, by rw [lost_full]⟩, a1, by omega⟩
  · replace a5 : M / 10 ^ (m - 1 - (min m 800 - 1)) = dvl 10 (xs.take mm) * 10 ^ (min m 800 - mm) := a5
    rw [show m - 1 - (min m 800 - 1) = m - 800 by omega] at a5
    rw [Nat.pow_add, ← Nat.mul_assoc, ← a5, Nat.mul_comm]
    exact (Nat.div_add_mod _ _).symm
  · rw [List.length_take, h.len]; omega
  · by_cases h8 : m ≤ 800
    · left; rw [show m - 800 = 0 by omega, Nat.pow_zero, Nat.mod_one]
    · exact .inr ⟨m - 800, Nat.mod_lt _ (Nat.pow_pos (by decide)), by omega⟩

/-- the first r digits of l, noughts behind -/
def pv (l : List UInt8) (r : Nat) : Nat := dvl 10 (l.take r) * 10 ^ (r - l.length)
theorem pv_zero (l : List UInt8) : pv l 0 = 0 := by unfold pv; simp [dvl]
theorem pv_in {l : List UInt8} {r : Nat} (h : r < l.length) : pv l (r + 1) = pv l r * 10 + dv l[r].toNat := by
  unfold pv
  rw [show r + 1 - l.length = 0 by omega, show r - l.length = 0 by omega, Nat.pow_zero, Nat.mul_one, Nat.mul_one, List.take_succ_eq_append_getElem h, dvl_snoc]
theorem pv_out {l : List UInt8} {r : Nat} (h : l.length ≤ r) : pv l (r + 1) = pv l r * 10 := by
  unfold pv
  rw [List.take_of_length_le h, List.take_of_length_le (by omega), show r + 1 - l.length = (r - l.length) + 1 by omega, Nat.pow_succ, Nat.mul_assoc]
theorem pv_full {l : List UInt8} {r : Nat} (h : l.length ≤ r) : pv l r = dvl 10 l * 10 ^ (r - l.length) := by unfold pv; rw [List.take_of_length_le h]
theorem pv_div {l : List UInt8} (hd : ∀ x ∈ l, isDig x) (r : Nat) : pv l (r + 1) / 10 = pv l r := by
  by_cases h : r < l.length
  · have := okD_dv (b := 10) (by decide) (.inl (hd _ (List.getElem_mem h)))
    rw [pv_in h]; omega
  · rw [pv_out (by omega)]; omega

/-- what a shift to the right has put down: the first w digits -/
structure Rw (dk xs : List UInt8) (l : List UInt8) (k r0 w : Nat) : Prop where
  len : xs.length = 800
  old : ∀ i, i < 800 → w ≤ i → xs[i]? = dk[i]?
  new : ∀ i, i < 800 → i < w → xs[i]? = some (UInt8.ofNat (48 + pv l (r0 + i) / 2 ^ k % 10))
theorem Rw.first (dk l : List UInt8) (k r0 : Nat) (h : dk.length = 800) : Rw dk dk l k r0 0 := ⟨h, fun _ _ _ => rfl, fun i h1 h2 => by omega⟩
theorem Rw.put {dk xs l : List UInt8} {k r0 w : Nat} (h : Rw dk xs l k r0 w) (hw : w < 800) : Rw dk (xs.set w (UInt8.ofNat (48 + pv l (r0 + w) / 2 ^ k % 10))) l k r0 (w + 1) := by
  refine ⟨by rw [List.length_set]; exact h.len, fun i h1 h2 => ?_, fun i h1 h2 => ?_⟩
  · rw [List.getElem?_set_ne (by omega)]; exact h.old i h1 (by omega)
  · by_cases h4 : i = w
    · subst h4
      rw [List.getElem?_set_self (by rw [h.len]; exact hw)]
    · rw [List.getElem?_set_ne (by omega)]; exact h.new i h1 (by omega)
theorem Rw.skip {dk xs l : List UInt8} {k r0 w : Nat} (h : Rw dk xs l k r0 w) (hw : 800 ≤ w) : Rw dk xs l k r0 (w + 1) :=
  ⟨h.len, fun i h1 h2 => by omega, fun i h1 h2 => h.new i h1 (by omega)⟩

/-- how a shift to the right begins -/
structure R0 (l : List UInt8) (k r0 : Nat) : Prop where
  pos : 1 ≤ r0
  lo : 2 ^ k ≤ pv l r0
  hi : pv l (r0 - 1) < 2 ^ k
theorem R0.small {l : List UInt8} {k r0 : Nat} (h : R0 l k r0) (hg : Dg l) : r0 ≤ l.length + k := by
  rcases Nat.lt_or_ge (l.length + k) r0 with h1 | h1
  · exfalso
    have h2 := h.hi
    rw [pv_full (by omega)] at h2
    have h3 : 2 ^ k ≤ 10 ^ (r0 - 1 - l.length) := Nat.le_trans (Nat.pow_le_pow_left (by decide) k) (Nat.pow_le_pow_right (by decide) (by omega))
    have h4 := hg.lo
    have h5 : 0 < 10 ^ (l.length - 1) := Nat.pow_pos (by decide)
    have := Nat.mul_le_mul (show 1 ≤ dvl 10 l by omega) h3
    omega
  · exact h1

theorem dig_ten (l : List UInt8) (k a : Nat) (hd : ∀ x ∈ l, isDig x) : pv l (a + 1) / 2 ^ k / 10 = pv l a / 2 ^ k := by
  rw [Nat.div_div_eq_div_mul, Nat.mul_comm, ← Nat.div_div_eq_div_mul, pv_div hd]

theorem Rw.run {dk xs l : List UInt8} {k r0 t : Nat} (h : Rw dk xs l k r0 t) (z : R0 l k r0) (hd : ∀ x ∈ l, isDig x) : Run xs (fun i => pv l (r0 + i) / 2 ^ k) (min t 800) := by
  have h1 := z.pos
  have h2 := z.hi
  refine ⟨?_, fun i hi => ?_, fun i hi => h.new i (by omega) (by omega)⟩
  · show pv l (r0 + 0) / 2 ^ k < 10
    rw [Nat.add_zero, Nat.div_lt_iff_lt_mul (Nat.two_pow_pos k)]
    have := pv_div hd (r0 - 1)
    rw [Nat.sub_add_cancel h1] at this
    omega
  · exact dig_ten l k (r0 + i) hd

/-- what was lost -/
def lostR (l : List UInt8) (k r0 t : Nat) : Bool := decide (800 < t) && (pv l (r0 + t - 1) / 2 ^ k % 10 ^ (t - 800) != 0)
theorem lostR_put (l : List UInt8) (k r0 t : Nat) (h : t ≤ 800) : lostR l k r0 t = false := by unfold lostR; rw [decide_eq_false (by omega)]; rfl
theorem lostR_skip (l : List UInt8) (k r0 t : Nat) (h : 800 ≤ t) (hd : ∀ x ∈ l, isDig x) : lostR l k r0 (t + 1) = (lostR l k r0 t || (pv l (r0 + t) / 2 ^ k % 10 != 0)) := by
  unfold lostR
  rw [decide_eq_true (show 800 < t + 1 by omega), Bool.true_and, show r0 + (t + 1) - 1 = r0 + t by omega, show t + 1 - 800 = (t - 800) + 1 by omega, Nat.pow_succ, Nat.mul_comm, Nat.mod_mul]
  by_cases h8 : t = 800
  · subst h8
    simp
    rw [Nat.mod_one]; simp
  · obtain ⟨s, rfl⟩ : ∃ s, t = s + 1 := ⟨t - 1, by omega⟩
    rw [decide_eq_true (by omega), Bool.true_and, show r0 + (s + 1) = r0 + s + 1 by omega, dig_ten l k _ hd, Nat.add_sub_cancel]
    by_cases h1 : pv l (r0 + s + 1) / 2 ^ k % 10 = 0
    · rw [h1, Nat.zero_add]
      by_cases h2 : pv l (r0 + s) / 2 ^ k % 10 ^ (s + 1 - 800) = 0
      · rw [h2]; rfl
      · rw [bne_iff_ne.2 (Nat.mul_ne_zero (by decide) h2), bne_iff_ne.2 h2]; rfl
    · rw [bne_iff_ne.2 h1, Bool.or_true, bne_iff_ne]; omega

/-- what is left at a step -/
def leftN (l : List UInt8) (k a : Nat) : Nat := pv l (a - 1) % 2 ^ k * 10 + pv l a % 10
theorem left_pv {l : List UInt8} (k a : Nat) (ha : 1 ≤ a) (hd : ∀ x ∈ l, isDig x) : pv l a = 10 * 2 ^ k * (pv l (a - 1) / 2 ^ k) + leftN l k a := by
  unfold leftN
  have h1 := pv_div hd (a - 1)
  rw [Nat.sub_add_cancel ha] at h1
  have h2 := Nat.div_add_mod (pv l a) 10
  have h3 := Nat.div_add_mod (pv l (a - 1)) (2 ^ k)
  rw [h1] at h2
  have e : 10 * 2 ^ k * (pv l (a - 1) / 2 ^ k) = 10 * (2 ^ k * (pv l (a - 1) / 2 ^ k)) := Nat.mul_assoc _ _ _
  rw [e]
  omega
theorem left_lt (l : List UInt8) (k a : Nat) : leftN l k a < 10 * 2 ^ k := by
  unfold leftN
  have h1 := Nat.mod_lt (pv l (a - 1)) (Nat.two_pow_pos k)
  have h2 := Nat.mod_lt (pv l a) (show 0 < 10 by decide)
  omega
theorem left_mod {l : List UInt8} (k a : Nat) (ha : 1 ≤ a) (hd : ∀ x ∈ l, isDig x) : leftN l k a % 2 ^ k = pv l a % 2 ^ k := by
  rw [left_pv k a ha hd, Nat.mul_comm 10, Nat.mul_assoc, Nat.mul_add_mod]
theorem left_div {l : List UInt8} (k a : Nat) (ha : 1 ≤ a) (hd : ∀ x ∈ l, isDig x) : leftN l k a / 2 ^ k = pv l a / 2 ^ k % 10 := by
  have h1 : leftN l k a / 2 ^ k < 10 := (Nat.div_lt_iff_lt_mul (Nat.two_pow_pos k)).2 (left_lt l k a)
  rw [left_pv k a ha hd, Nat.mul_comm 10, Nat.mul_assoc, Nat.mul_add_div (Nat.two_pow_pos k), Nat.mul_add_mod, Nat.mod_eq_of_lt h1]
theorem left_in {l : List UInt8} (k a : Nat) (h : a < l.length) (ha : 1 ≤ a) (hd : ∀ x ∈ l, isDig x) : leftN l k (a + 1) = leftN l k a % 2 ^ k * 10 + dv l[a].toNat := by
  rw [left_mod k a ha hd]
  unfold leftN
  have := okD_dv (b := 10) (by decide) (.inl (hd _ (List.getElem_mem h)))
  rw [Nat.add_sub_cancel, pv_in h]
  congr 1
  omega
theorem left_out {l : List UInt8} (k a : Nat) (h : l.length ≤ a) (ha : 1 ≤ a) (hd : ∀ x ∈ l, isDig x) : leftN l k (a + 1) = leftN l k a % 2 ^ k * 10 := by
  rw [left_mod k a ha hd]
  unfold leftN
  rw [Nat.add_sub_cancel, pv_out h]
  omega
theorem left_first {l : List UInt8} {k r0 : Nat} (z : R0 l k r0) (hd : ∀ x ∈ l, isDig x) : leftN l k r0 = pv l r0 := by
  have := left_pv k r0 z.pos hd
  rw [Nat.div_eq_of_lt z.hi] at this
  omega
theorem left_end {l : List UInt8} (k a : Nat) (h : l.length + k + 1 ≤ a) : leftN l k a = 0 := by
  unfold leftN
  obtain ⟨b, rfl⟩ : ∃ b, a = l.length + k + b + 1 := ⟨a - l.length - k - 1, by omega⟩
  rw [Nat.add_sub_cancel, pv_out (by omega), pv_full (by omega), show l.length + k + b - l.length = k + b by omega, Nat.pow_add, show (10 : Nat) ^ k = 2 ^ k * 5 ^ k by rw [← Nat.mul_pow]]
  have e : dvl 10 l * (2 ^ k * 5 ^ k * 10 ^ b) = 2 ^ k * (dvl 10 l * (5 ^ k * 10 ^ b)) := by ac_rfl
  rw [e, Nat.mul_mod_right, Nat.mul_mod_left]

theorem right_cut {l dk xs : List UInt8} {k r0 t mm : Nat} {dp : Int} {tr : Bool} (hg : Dg l) (z : R0 l k r0) (h : Rw dk xs l k r0 t) (h1 : l.length ≤ r0 + t) (h2 : r0 + t ≤ l.length + k + 1) (h0 : leftN l k (r0 + t) = 0) (ht : TrimTo xs (min t 800) mm) :
    Cut (dvl 10 l * 5 ^ k) (dp - l.length - k) tr (xs.take mm) (dp - (r0 - 1)) (tr || lostR l k r0 t) ∧ 1 ≤ mm ∧ mm ≤ 800 := by
  have hr := z.pos
  have ht1 : 1 ≤ t := by
    rcases Nat.eq_zero_or_pos t with h3 | h3
    · exfalso
      rw [h3, Nat.add_zero, left_first z hg.dig] at h0
      have := z.lo
      have := Nat.two_pow_pos k
      omega
    · exact h3
  have hpv := left_pv k (r0 + t) (by omega) hg.dig
  rw [h0, Nat.add_zero, pv_full h1] at hpv
  obtain ⟨a1, a2, a3, a4, a5⟩ := (h.run z hg.dig).trim (by omega) (by omega) h.len (by
    show 1 ≤ pv l (r0 + 0) / 2 ^ k
    rw [Nat.add_zero, Nat.le_div_iff_mul_le (Nat.two_pow_pos k), Nat.one_mul]; exact z.lo) ht
  replace a5 : pv l (r0 + (min t 800 - 1)) / 2 ^ k = dvl 10 (xs.take mm) * 10 ^ (min t 800 - mm) := a5
  have hten : ∀ c, c < t → pv l (r0 + t - 1) / 2 ^ k / 10 ^ c = pv l (r0 + t - 1 - c) / 2 ^ k := by
    intro c
    induction c with
    | zero => intro _; rw [Nat.pow_zero, Nat.div_one]; rfl
    | succ c ih =>
      intro hc
      rw [Nat.pow_succ, ← Nat.div_div_eq_div_mul, ih (by omega), show r0 + t - 1 - c = (r0 + t - 1 - (c + 1)) + 1 by omega, dig_ten l k _ hg.dig]
  have hW := hten (t - 800) (by omega)
  rw [show r0 + t - 1 - (t - 800) = r0 + (min t 800 - 1) by omega, a5] at hW
  generalize hWn : pv l (r0 + t - 1) / 2 ^ k = Wn at *
  have hB : dvl 10 l * 5 ^ k = Wn * 10 ^ (l.length + k + 1 - (r0 + t)) := by
    refine Nat.eq_of_mul_eq_mul_right (Nat.pow_pos (n := r0 + t - l.length) (by decide : 0 < 10)) (Nat.eq_of_mul_eq_mul_right (Nat.two_pow_pos k) ?_)
    have e1 : dvl 10 l * 5 ^ k * 10 ^ (r0 + t - l.length) * 2 ^ k = dvl 10 l * 10 ^ (r0 + t - l.length) * (5 ^ k * 2 ^ k) := by ac_rfl
    have e2 : Wn * 10 ^ (l.length + k + 1 - (r0 + t)) * 10 ^ (r0 + t - l.length) * 2 ^ k = 10 * 2 ^ k * Wn * 10 ^ k := by
      rw [Nat.mul_assoc Wn, ← Nat.pow_add, show l.length + k + 1 - (r0 + t) + (r0 + t - l.length) = k + 1 by omega, Nat.pow_succ]; ac_rfl
    rw [e1, e2, hpv, ← Nat.mul_pow]
  refine ⟨⟨a3, a4, (min t 800 - mm) + (t - 800) + (l.length + k + 1 - (r0 + t)), Wn % 10 ^ (t - 800) * 10 ^ (l.length + k + 1 - (r0 + t)), ?_, ?_, ?_, ?_⟩, a1, by omega⟩
  · rw [hB, Nat.pow_add, Nat.pow_add, ← Nat.mul_assoc, ← Nat.mul_assoc, ← hW, ← Nat.add_mul]
    congr 1
    rw [Nat.mul_comm]
    exact (Nat.div_add_mod _ _).symm
  · rw [List.length_take, h.len]; omega
  · by_cases h8 : t ≤ 800
    · left; rw [show t - 800 = 0 by omega, Nat.pow_zero, Nat.mod_one, Nat.zero_mul]
    · refine .inr ⟨t - 800 + (l.length + k + 1 - (r0 + t)), ?_, by omega⟩
      rw [Nat.pow_add]
      exact (Nat.mul_lt_mul_right (Nat.pow_pos (by decide))).2 (Nat.mod_lt _ (Nat.pow_pos (by decide)))
  · congr 1
    unfold lostR
    rw [hWn]
    by_cases h8 : t ≤ 800
    · rw [decide_eq_false (by omega), show t - 800 = 0 by omega, Nat.pow_zero, Nat.mod_one, Nat.zero_mul]; rfl
    · rw [decide_eq_true (by omega), Bool.true_and]
      by_cases h9 : Wn % 10 ^ (t - 800) = 0
      · rw [h9, Nat.zero_mul]
      · rw [bne_iff_ne.2 h9, bne_iff_ne.2 (Nat.mul_ne_zero h9 (Nat.ne_of_gt (Nat.pow_pos (by decide))))]
end Go.Proofs.YtmhagigokgklaaaGreatDoor

/- strconv's decimal: shouldRoundUp, RoundedInteger, prefixIsLessThan. -/
namespace Go.Proofs.YtmhagigokgklaaaGreatDoor
open Go Go.RowKit Go.Sort Go.Lib

/-- digits l with a point in memory -/
def DecL (W : World) (b : Nat) (l : List UInt8) (dp : Int) (tr : Bool) : Prop := ∃ dk, DecAt W b dk l.length dp false tr ∧ dk.take l.length = l
theorem DecL.lt {W : World} {b : Nat} {l : List UInt8} {dp : Int} {tr : Bool} (h : DecL W b l dp tr) : b < W.heap.size := by
  obtain ⟨dk, h, _⟩ := h; exact h.lt
theorem DecL.le {W : World} {b : Nat} {l : List UInt8} {dp : Int} {tr : Bool} (h : DecL W b l dp tr) : l.length ≤ 800 := by
  obtain ⟨dk, h, e⟩ := h
  have := congrArg List.length e
  rw [List.length_take, h.len] at this
  omega
theorem DecL.cell {W : World} {b : Nat} {l : List UInt8} {dp : Int} {tr : Bool} (h : DecL W b l dp tr) (k : Nat) (hk : k < l.length) : W.cell? ⟨b, k, Option.none⟩ = some (.int .u8 (l[k].toNat : Int)) := by
  obtain ⟨dk, h, e⟩ := h
  refine h.cell k l[k] ?_
  rw [← List.getElem?_eq_getElem hk]
  conv => rhs; rw [← e]
  rw [List.getElem?_take_of_lt hk]
theorem DecL.tail {W : World} {b : Nat} {l : List UInt8} {dp : Int} {tr : Bool} (h : DecL W b l dp tr) :
    W.cell? ⟨b, 800, Option.none⟩ = some (.int .i64 l.length) ∧ W.cell? ⟨b, 801, Option.none⟩ = some (.int .i64 dp) ∧ W.cell? ⟨b, 802, Option.none⟩ = some (.bool false) ∧ W.cell? ⟨b, 803, Option.none⟩ = some (.bool tr) := by
  obtain ⟨dk, h, _⟩ := h; exact h.tail
theorem DecL.drewN {W : World} {b : Nat} {l : List UInt8} {dp : Int} {tr : Bool} (h : DecL W b l dp tr) (n : Nat) : DecL (W.drewN n) b l dp tr := by
  obtain ⟨dk, h, e⟩ := h; exact ⟨dk, h.drewN n, e⟩

set_option maxRecDepth 100000 in
set_option maxHeartbeats 2000000 in
theorem roundup_any (b : Nat) (l : List UInt8) (dp x : Int) (tr : Bool) (w : World) (h : DecL w b l dp tr) (h1 : -1000 ≤ x) (h2 : x ≤ 1000) (hd : ∀ y ∈ l, isDig y) :
    Calls Tryz.prog 169 #[.pointer (some ⟨b, 0, Option.none⟩), .int .i64 x] w fun e w' => e = .returned (.bool (upR l x tr)) ∧ ∃ m, w' = w.drewN m := by
  obtain ⟨c1, c2, c3, c4⟩ := h.tail
  have hlen := h.le
  by_cases h0 : x < 0
  · have hu : upR l x tr = false := by unfold upR; rw [if_pos (.inl h0)]
    rw [hu]
    clear h c2 c3
    go_enter Tryz.func169, Tryz.ntmps169
    go_wp2_with fail
    go_ret
    exact ⟨rfl, 0, rfl⟩
  · by_cases h3 : (l.length : Int) ≤ x
    · have hu : upR l x tr = false := by unfold upR; rw [if_pos (.inr h3)]
      rw [hu]
      have h0n : decide (x < 0) = false := decide_eq_false h0
      clear h c2 c3
      go_enter Tryz.func169, Tryz.ntmps169
      go_wp2_with fail
      go_ret
      exact ⟨rfl, by first | exact ⟨0, rfl⟩ | exact ⟨_, rfl⟩ | exact ⟨_, World.drewN_drewN _ _ _⟩⟩
    · obtain ⟨k, rfl⟩ : ∃ k : Nat, x = k := ⟨x.toNat, by omega⟩
      have hk : k < l.length := by omega
      have hc := h.cell k hk
      obtain ⟨c, hcc⟩ : ∃ c, l[k] = c := ⟨_, rfl⟩
      have hget : l.getD k 0 = c := by rw [List.getD_eq_getElem?_getD, List.getElem?_eq_getElem hk, hcc]; rfl
      rw [hcc] at hc
      have hkn : ((k : Int)).toNat = k := rfl
      have hcd : isDig c := hcc ▸ hd _ (List.getElem_mem hk)
      have hu : upR l (k : Int) tr = if c = 53 ∧ k + 1 = l.length then tr || (decide (0 < k) && decide ((l.getD (k - 1) 0).toNat % 2 = 1)) else decide (53 ≤ c.toNat) := by
        unfold upR
        rw [if_neg (by omega), hkn, hget]
        have e1 : ((k : Int) + 1 = l.length) ↔ k + 1 = l.length := by omega
        have e2 : decide ((0 : Int) < k) = decide (0 < k) := by congr 1; exact propext (by omega)
        rw [e2]
        congr 1
        exact propext (by rw [e1])
      rw [hu]
      have h0n : decide ((k : Int) < 0) = false := decide_eq_false h0
      have h3n : decide ((l.length : Int) ≤ k) = false := decide_eq_false h3
      have hd1 := hcd.1
      have hd2 := hcd.2
      by_cases h53 : c = 53
      · subst h53
        by_cases hke : k + 1 = l.length
        · rw [if_pos ⟨rfl, hke⟩]
          have t1 : ((k : Int) + 1 == (l.length : Int)) = true := by rw [beq_iff_eq]; omega
          have t2 : (k : Int) + 1 = (l.length : Int) := by omega
          cases tr
          · rw [Bool.false_or]
            by_cases hk0 : k = 0
            · subst hk0
              have hl1 : l.length = 1 := by omega
              have t3 : ((1 : Int) == (l.length : Int)) = true := by rw [beq_iff_eq]; omega
              rw [hl1] at c1
              clear h c2 c3 t1 t2 t3 hke hlen h3n h3
              go_enter Tryz.func169, Tryz.ntmps169
              go_wp2_with fail
              go_ret
              exact ⟨rfl, by first | exact ⟨0, rfl⟩ | exact ⟨_, rfl⟩ | exact ⟨_, World.drewN_drewN _ _ _⟩⟩
            · obtain ⟨j, rfl⟩ : ∃ j, k = j + 1 := ⟨k - 1, by omega⟩
              have hj : j < l.length := by omega
              have hcj := h.cell j hj
              have hgj : l.getD (j + 1 - 1) 0 = l[j] := by rw [Nat.add_sub_cancel, List.getD_eq_getElem?_getD, List.getElem?_eq_getElem hj]; rfl
              rw [hgj]
              have hdj := hd _ (List.getElem_mem hj)
              generalize l[j] = a at *
              have hj0 : ((j + 1 : Nat) : Int) - 1 = (j : Int) := by omega
              have hjp : decide ((0 : Int) < ((j + 1 : Nat) : Int)) = true := by rw [decide_eq_true_eq]; omega
              have hw8 : IntKind.u8.wrap ((a.toNat : Int) - 48) = (a.toNat : Int) - 48 := by rw [IntKind.wrap_u8]; have := hdj.1; have := hdj.2; omega
              have hpar : (((a.toNat : Int) - 48) % 2 != 0) = decide (a.toNat % 2 = 1) := by
                have := hdj.1
                rw [Bool.eq_iff_iff, bne_iff_ne, decide_eq_true_eq]
                omega
              have ha1 := hdj.1
              have ha2 := hdj.2
              clear h c2 c3
              go_enter Tryz.func169, Tryz.ntmps169
              go_wp2_with fail
              go_ret
              exact ⟨by simp, by first | exact ⟨0, rfl⟩ | exact ⟨_, rfl⟩ | exact ⟨_, World.drewN_drewN _ _ _⟩⟩
          · clear h c2 c3
            go_enter Tryz.func169, Tryz.ntmps169
            go_wp2_with fail
            go_ret
            exact ⟨rfl, by first | exact ⟨0, rfl⟩ | exact ⟨_, rfl⟩ | exact ⟨_, World.drewN_drewN _ _ _⟩⟩
        · rw [if_neg (fun h => hke h.2)]
          have t1 : ((k : Int) + 1 == (l.length : Int)) = false := by rw [beq_eq_false_iff_ne]; omega
          clear h c2 c3
          go_enter Tryz.func169, Tryz.ntmps169
          go_wp2_with fail
          go_ret
          exact ⟨rfl, by first | exact ⟨0, rfl⟩ | exact ⟨_, rfl⟩ | exact ⟨_, World.drewN_drewN _ _ _⟩⟩
      · rw [if_neg (fun h => h53 h.1)]
        have t1 : ((c.toNat : Int) == 53) = false := by
          rw [beq_eq_false_iff_ne]
          intro h
          exact h53 (UInt8.toNat_inj.1 (by show c.toNat = 53; omega))
        have t2 : decide ((53 : Int) ≤ (c.toNat : Int)) = decide (53 ≤ c.toNat) := by congr 1; exact propext (by omega)
        clear h c2 c3
        go_enter Tryz.func169, Tryz.ntmps169
        go_wp2_with fail
        go_ret
        exact ⟨by simp, by first | exact ⟨0, rfl⟩ | exact ⟨_, rfl⟩ | exact ⟨_, World.drewN_drewN _ _ _⟩⟩
end Go.Proofs.YtmhagigokgklaaaGreatDoor
