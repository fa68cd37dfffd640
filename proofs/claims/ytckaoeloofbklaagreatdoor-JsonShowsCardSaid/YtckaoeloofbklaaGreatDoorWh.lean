/- Joined texts: Vp Uk Uh Uj Uo Qb Qc Pd Pf Vq Vr Pi Pb. Each begins with its own remark. -/
import Derived.Test.YtckaoeloofbklaaGreatDoorWg
import Derived.Lib.IndexBytes
import Derived.Lib.Replace
import Derived.Test.YtckaoeloofbklaaGreatDoorWb
import Derived.Test.YtckaoeloofbklaaGreatDoorWa
import Derived.Laws.FloatBits
import Derived.WalkLawsBesides
import Derived.Test.YtckaoeloofbklaaGreatDoorWe
import Derived.Laws.BitsAllLaws
import Derived.Lib.AtoiErrMem
import Derived.Test.YtckaoeloofbklaaGreatDoorWd
import Derived.Deep.WholeRow
set_option maxRecDepth 100000
set_option maxHeartbeats 4000000
namespace Go.Proofs.YtckaoeloofbklaaGreatDoor
open Go Go.RowKit Go.Sort Go.Lib
theorem dig_of (k : Nat) (h : k < 10) : isDig (UInt8.ofNat (48 + k)) := by
 unfold isDig
 rw [UInt8.toNat_ofNat', Nat.mod_eq_of_lt (by omega)]
 omega
theorem dec_digs (u : Nat) : ∀ x ∈ decDigits u, isDig x := by
 induction u using Nat.strongRecOn with
 | _ u ih =>
  intro x hx
  rw [decDigits] at hx
  split at hx
  ·rw [List.mem_singleton] at hx; subst hx; exact dig_of u (by omega)
  ·rcases List.mem_append.1 hx with h | h
   ·exact ih (u / 10) (by omega) x h
   ·rw [List.mem_singleton] at h; subst h; exact dig_of _ (by omega)
theorem sig_digs (u : Nat) : ∀ x ∈ sig u, isDig x := by
 obtain ⟨k, -, h⟩ := sig_take u
 intro x hx
 rw [h] at hx
 exact dec_digs u x (List.mem_of_mem_take hx)
theorem indexByte_at (c : UInt8) (b : List UInt8) : ∀ a : List UInt8, (∀ x ∈ a, x ≠ c) → indexByte (a ++ c :: b) c = (a.length : Nat)
 | [], _ => by simp [indexByte]
 | x :: a, h => by
  have ih := indexByte_at c b a (fun y hy => h y (List.mem_cons_of_mem _ hy))
  have hx : x ≠ c := h x (List.mem_cons_self ..)
  rw [List.cons_append, indexByte, if_neg (by simpa using hx), ih, if_neg (by simp)]
  rw [List.length_cons]; push_cast; rfl
theorem indexByte_not (c : UInt8) : ∀ a : List UInt8, (∀ x ∈ a, x ≠ c) → indexByte a c = -1
 | [], _ => rfl
 | x :: a, h => by
  have ih := indexByte_not c a (fun y hy => h y (List.mem_cons_of_mem _ hy))
  have hx : x ≠ c := h x (List.mem_cons_self ..)
  rw [indexByte, if_neg (by simpa using hx), ih]
  rfl
theorem cut_at (c : UInt8) (a b : List UInt8) (h : ∀ x ∈ a, x ≠ c) : cut (a ++ c :: b) [c] = (a, b, true) := by
 unfold cut
 rw [index_one, indexByte_at c b a h, if_pos (by omega)]
 simp
theorem replace_at (c : UInt8) (a b : List UInt8) (h : ∀ x ∈ a, x ≠ c) : replace (a ++ c :: b) [c] [] 1 = a ++ b := by
 have hi : index (a ++ c :: b) [c] = (a.length : Nat) := by rw [index_one, indexByte_at c b a h]
 have hc : 1 ≤ count (a ++ c :: b) [c] := by
  rw [count_one, List.count_append, List.count_cons_self]; exact Nat.le_trans (Nat.le_add_left _ _) (Nat.le_add_left _ _)
 have hn : replaceNum (a ++ c :: b) [c] 1 = 1 := by
  unfold replaceNum
  rw [if_neg (by omega)]; rfl
 unfold replace
 rw [if_neg (by simp), hn, replaceK_hit _ _ _ _ _ hi, replaceK]
 simp
theorem replace_not (c : UInt8) (a : List UInt8) (h : ∀ x ∈ a, x ≠ c) : replace a [c] [] 1 = a := by
 have hi : index a [c] = -1 := by rw [index_one, indexByte_not c a h]
 have hn : replaceNum a [c] 1 = 0 := by
  unfold replaceNum
  rw [count_miss hi]; rfl
 unfold replace
 rw [if_neg (by simp), hn, replaceK]
def mantB (d : List UInt8) : List UInt8 := d.take 1 ++ (if 1 < d.length then 46 :: d.drop 1 else [])
theorem dp_eq (d : Nat) (p : Int) (h : 1 ≤ d) : dpB d p = mantB (sig d) ++ 101 :: expB ((nDigits d : Nat) + p - 1) := by
 obtain ⟨x, l, h1⟩ := sig_head d h
 unfold dpB mantB
 rw [h1]
 simp
theorem mant_ne (l : List UInt8) (c : UInt8) (h : ∀ x ∈ l, isDig x) (h2 : c.toNat ≠ 46) (h3 : ¬ isDig c) : ∀ x ∈ mantB l, x ≠ c := by
 intro x hx hxc
 subst hxc
 unfold mantB at hx
 rcases List.mem_append.1 hx with h4 | h4
 ·exact h3 (h x (List.mem_of_mem_take h4))
 ·split at h4
  ·rcases List.mem_cons.1 h4 with h5 | h5
   ·exact h2 (by rw [h5]; rfl)
   ·exact h3 (h x (List.mem_of_mem_drop h5))
  ·simp at h4
theorem mant_back (l : List UInt8) (h : ∀ x ∈ l, isDig x) : replace (mantB l) [46] [] 1 = l := by
 have hne : ∀ x ∈ l, x ≠ 46 := fun x hx e => by have := h x hx; rw [e] at this; exact absurd this (by unfold isDig; decide)
 unfold mantB
 split
 ·rw [replace_at 46 _ _ (fun x hx => hne x (List.mem_of_mem_take hx)), List.take_append_drop]
 ·have h1 : l.take 1 = l := List.take_of_length_le (by omega)
  rw [List.append_nil, h1, replace_not 46 l hne]
theorem val_of (k : Nat) (h : k < 10) : digitVal (UInt8.ofNat (48 + k)) = some k := by
 unfold digitVal
 rw [UInt8.toNat_ofNat', Nat.mod_eq_of_lt (show 48 + k < 2 ^ 8 by omega), if_pos (by omega)]
 simp
theorem exp_nat (k : Nat) (h : k < 1000) (l : List UInt8) (hl : l = if k < 10 then [48, UInt8.ofNat (48 + k)] else if k < 100 then [UInt8.ofNat (48 + k / 10), UInt8.ofNat (48 + k % 10)] else [UInt8.ofNat (48 + k / 100), UInt8.ofNat (48 + k / 10 % 10), UInt8.ofNat (48 + k % 10)]) : decNat l = some k := by
 subst hl
 have h48 : digitVal 48 = some 0 := by decide
 split
 ·have e1 := val_of k (by omega)
  generalize UInt8.ofNat (48 + k) = b1 at *
  simp [decNat, decFrom, h48, e1]
 ·split
  ·have e1 := val_of (k / 10) (by omega)
   have e2 := val_of (k % 10) (by omega)
   generalize UInt8.ofNat (48 + k / 10) = b1 at *
   generalize UInt8.ofNat (48 + k % 10) = b2 at *
   simp only [decNat, decFrom, e1, e2, List.isEmpty_cons, Bool.false_eq_true, if_false, Option.some.injEq]
   omega
  ·have e0 := val_of (k / 100) (by omega)
   have e1 := val_of (k / 10 % 10) (by omega)
   have e2 := val_of (k % 10) (by omega)
   generalize UInt8.ofNat (48 + k / 100) = b0 at *
   generalize UInt8.ofNat (48 + k / 10 % 10) = b1 at *
   generalize UInt8.ofNat (48 + k % 10) = b2 at *
   simp only [decNat, decFrom, e0, e1, e2, List.isEmpty_cons, Bool.false_eq_true, if_false, Option.some.injEq]
   omega
theorem atoi_exp (x : Int) (h : x.natAbs < 1000) : atoi (expB x) = some x := by
 unfold expB
 by_cases hx : x < 0
 ·rw [if_pos hx, atoi, if_pos (by decide), exp_nat x.natAbs h _ rfl]
  simp; omega
 ·rw [if_neg hx, atoi, if_neg (by decide), if_pos (by decide), exp_nat x.natAbs h _ rfl]
  simp; omega
theorem exp_len (x : Int) : (expB x).length ≤ 4 := by
 unfold expB
 split <;> split <;> (try split) <;> simp
theorem sig_len (d : Nat) (h : 1 ≤ d) (h2 : d < 18446744073709551616) : 1 ≤ (sig d).length ∧ (sig d).length ≤ 20 := by
 obtain ⟨x, l, h1⟩ := sig_head d h
 obtain ⟨k, h3, h4⟩ := sig_take d
 rw [decDigits_length] at h3
 have h5 := nDigits_le d h h2
 refine ⟨by rw [h1]; simp, ?_⟩
 rw [h4, List.length_take]
 omega
theorem mant_len (l : List UInt8) : (mantB l).length ≤ l.length + 1 := by
 unfold mantB
 split <;> simp <;> omega
def shN (a : Nat) : Nat × Int := shortN (MN a) (EN a)
def showA (a : Nat) : List UInt8 := placedB (sig (shN a).1) ((nDigits (shN a).1 : Nat) + (shN a).2)
def infB : List UInt8 := ([73, 110, 102, 105, 110, 105, 116, 121] : List UInt8)
def nanB : List UInt8 := ([78, 97, 78] : List UInt8)
def showB (b : Nat) : List UInt8 :=
 if 9218868437227405312 < b % 9223372036854775808 then nanB
 else (if b < 9223372036854775808 then [] else [45]) ++ (if b % 9223372036854775808 = 9218868437227405312 then infB else if b % 9223372036854775808 = 0 then [48] else showA (b % 9223372036854775808))
theorem me_ok (b : Nat) (hb1 : 0 < b) (hb2 : b < 9218868437227405312) :
  9223372036854775808 ≤ MN b ∧ MN b < 18446744073709551616 ∧ MN b % 2 ^ zN (EN b) = 0 ∧ -1137 ≤ EN b ∧ EN b ≤ 1000 := by
 by_cases hs : b < 4503599627370496
 ·have hm : mtN b = b := by unfold mtN; rw [if_pos hs]
  have hL := bitLen_le b 52 hb1 (by omega) hs
  obtain ⟨hM1, hM2⟩ := norm_bounds b hb1 (by omega)
  obtain ⟨hL1, _, _⟩ := bitLen_bounds b hb1 (by omega)
  have hE : EN b = -1074 - ((64 - Lib.bitLen b : Nat) : Int) := by unfold EN sN; rw [if_pos hs, hm]; omega
  have hz : zN (EN b) = 64 - Lib.bitLen b := by unfold zN; rw [hE, if_neg (by omega)]; omega
  have hM : b * 2 ^ (64 - Lib.bitLen b) = MN b := by unfold MN sN; rw [hm]
  rw [hM] at hM1 hM2
  exact ⟨hM1, hM2, by rw [hz, ← hM]; exact Nat.mul_mod_left _ _, by rw [hE]; omega, by omega⟩
 ·have hm : mtN b = b % 4503599627370496 + 4503599627370496 := by unfold mtN; rw [if_neg hs]
  have hr := Nat.mod_lt b (show 0 < 4503599627370496 by decide)
  have hL1 := bitLen_le (b % 4503599627370496 + 4503599627370496) 53 (by omega) (by omega) (by omega)
  have hL2 := bitLen_gt (b % 4503599627370496 + 4503599627370496) 52 (by omega) (by omega) (by omega)
  obtain ⟨hM1, hM2⟩ := norm_bounds (b % 4503599627370496 + 4503599627370496) (by omega) (by omega)
  have hL : Lib.bitLen (b % 4503599627370496 + 4503599627370496) = 53 := by omega
  have hM : (b % 4503599627370496 + 4503599627370496) * 2 ^ (64 - Lib.bitLen (b % 4503599627370496 + 4503599627370496)) = MN b := by unfold MN sN; rw [hm]
  rw [hM] at hM1 hM2
  have hE : EN b = ((b / 4503599627370496 : Nat) : Int) - 1086 := by unfold EN sN; rw [if_neg hs, hm, hL]; omega
  have hz : zN (EN b) = 11 := by unfold zN; rw [hE, if_pos (by omega)]
  exact ⟨hM1, hM2, by rw [hz, ← hM, hL]; exact Nat.mul_mod_left _ _, by rw [hE]; omega, by omega⟩
theorem sh_bounds (b : Nat) (hb1 : 0 < b) (hb2 : b < 9218868437227405312) :
  1 ≤ (shN b).1 ∧ (shN b).1 < 18446744073709551616 ∧ ((nDigits (shN b).1 : Nat) + (shN b).2 - 1).natAbs < 1000 := by
 obtain ⟨h1, h2, h3, h4, h5⟩ := me_ok b hb1 hb2
 obtain ⟨h6, h7, h8, h9⟩ := short_bounds (MN b) (EN b) h1 h2 h3 h4 h5
 unfold shN
 have h10 := nDigits_le (shortN (MN b) (EN b)).1 h6 (by omega)
 exact ⟨h6, by omega, by omega⟩
theorem fmt_eq (b : Nat) (hb1 : 0 < b) (hb2 : b < 9218868437227405312) : fmtB b = mantB (sig (shN b).1) ++ 101 :: expB ((nDigits (shN b).1 : Nat) + (shN b).2 - 1) :=
 dp_eq _ _ (sh_bounds b hb1 hb2).1
theorem fmt_cut (b : Nat) (hb1 : 0 < b) (hb2 : b < 9218868437227405312) : cut (fmtB b) [101] = (mantB (sig (shN b).1), expB ((nDigits (shN b).1 : Nat) + (shN b).2 - 1), true) := by
 rw [fmt_eq b hb1 hb2]
 exact cut_at 101 _ _ (mant_ne _ 101 (sig_digs _) (by decide) (by unfold isDig; decide))
theorem fmt_len (b : Nat) (hb1 : 0 < b) (hb2 : b < 9218868437227405312) : (fmtB b).length ≤ 26 := by
 rw [fmt_eq b hb1 hb2]
 obtain ⟨h1, h2, _⟩ := sh_bounds b hb1 hb2
 have h3 := (sig_len _ h1 h2).2
 have h4 := mant_len (sig (shN b).1)
 have h5 := exp_len ((nDigits (shN b).1 : Nat) + (shN b).2 - 1)
 rw [List.length_append, List.length_cons]
 omega
end Go.Proofs.YtckaoeloofbklaaGreatDoor
namespace Go.Proofs.YtckaoeloofbklaaGreatDoor
set_option exponentiation.threshold 2000
theorem up_le (n G : Nat) : upG n G ≤ 1 := by unfold upG; split <;> (try split) <;> omega
def dX (d : Nat) (p : Int) : Nat := 2 * (d * 10 ^ p.toNat * 2 ^ 1074)
def dQ (p : Int) : Nat := 10 ^ (-p).toNat
theorem dQ_pos (p : Int) : 0 < dQ p := Nat.pow_pos (by decide)
end Go.Proofs.YtckaoeloofbklaaGreatDoor
namespace Go.Proofs.YtckaoeloofbklaaGreatDoor
open Go Ieee
def ngB (x : Nat) : Bool := decide (9223372036854775808 ≤ x)
def ru (x : Nat) : Nat := x % 9223372036854775808
def sv (x : Nat) : Int := if 9223372036854775808 ≤ x then -(V (ru x) : Int) else (V (ru x) : Int)
theorem d_sw : double.signWeight = 9223372036854775808 := by decide
theorem d_bi : double.binade = 4503599627370496 := by decide
theorem d_in : double.infRung = 9218868437227405312 := by decide
theorem d_lp : double.leastPlace = -1074 := by decide
theorem ng_is (x : Nat) (h : x < 18446744073709551616) : (x / 9223372036854775808 % 2 == 1) = ngB x := by
 unfold ngB
 by_cases h1 : 9223372036854775808 ≤ x
 ·rw [decide_eq_true h1, beq_iff_eq]; omega
 ·rw [decide_eq_false h1, beq_eq_false_iff_ne]; omega
theorem read_fin (x : Nat) (h : x < 18446744073709551616) (hr : ru x < 9218868437227405312) : ∃ (m : Nat) (e : Nat), double.read x = .number (ngB x) m ((e : Int) - 1074) ∧ m * 2 ^ e = V (ru x) ∧ (e = 0 ∨ 4503599627370496 ≤ m) ∧ m < 9007199254740992 ∧ ru x = e * 4503599627370496 + m := by
 unfold Format.read
 simp only [d_sw, d_bi, d_in, d_lp, ng_is x h]
 rw [show x % 9223372036854775808 = ru x from rfl]
 by_cases h1 : ru x < 4503599627370496
 ·refine ⟨ru x, 0, ?_, ?_, .inl rfl, by omega, by omega⟩
  ·rw [if_pos h1]; rfl
  ·unfold V BB; rw [if_pos h1]; omega
 ·refine ⟨4503599627370496 + ru x % 4503599627370496, ru x / 4503599627370496 - 1, ?_, ?_, .inr (by omega), ?_, ?_⟩
  ·rw [if_neg h1, if_pos hr]
   show Datum.number _ (4503599627370496 + ru x % 4503599627370496) (-1074 + ((ru x / 4503599627370496 - 1 : Nat) : Int)) = _
   congr 1
  ·unfold V BB; rw [if_neg h1]
  ·have := Nat.mod_lt (ru x) (show 0 < 4503599627370496 by decide); omega
  ·omega
theorem read_inf (x : Nat) (h : x < 18446744073709551616) (hr : ru x = 9218868437227405312) : double.read x = .infinity (ngB x) := by
 unfold Format.read
 simp only [d_sw, d_bi, d_in, d_lp, ng_is x h]
 rw [show x % 9223372036854775808 = ru x from rfl]
 rw [if_neg (by omega), if_neg (by omega), if_pos hr]
theorem read_nan (x : Nat) (h : x < 18446744073709551616) (hr : 9218868437227405312 < ru x) : ∃ t, double.read x = .nan (ngB x) t := by
 unfold Format.read
 simp only [d_sw, d_bi, d_in, d_lp, ng_is x h]
 refine ⟨ru x - 9218868437227405312, ?_⟩
 rw [show x % 9223372036854775808 = ru x from rfl]
 rw [if_neg (by omega), if_neg (by omega), if_neg (by omega)]
theorem order_nan (x y : Nat) (hx : x < 18446744073709551616) (h : 9218868437227405312 < ru x) : double.order x y = none := by
 obtain ⟨t, ht⟩ := read_nan x hx h
 unfold Format.order
 rw [ht]
 cases double.read y <;> rfl
theorem signed_mul (s : Bool) (m k j : Nat) : signed s m k * (2 ^ j : Nat) = if s then -((m * 2 ^ (k + j) : Nat) : Int) else ((m * 2 ^ (k + j) : Nat) : Int) := by
 unfold signed
 rw [Nat.shiftLeft_eq]
 cases s
 ·rw [if_neg (by decide), if_neg (by decide), ← Int.natCast_mul, Nat.mul_assoc, Nat.pow_add]
 ·rw [if_pos rfl, if_pos rfl, Int.neg_mul, ← Int.natCast_mul, Nat.mul_assoc, Nat.pow_add]
theorem cmpI_lt {a b : Int} (h : a < b) : compare a b = .lt := by
 show compareOfLessAndEq a b = .lt
 unfold compareOfLessAndEq; rw [if_pos h]
theorem cmpI_eq {a b : Int} (h : a = b) : compare a b = .eq := by
 show compareOfLessAndEq a b = .eq
 unfold compareOfLessAndEq; rw [if_neg (show ¬ a < b by omega), if_pos h]
theorem cmpI_gt {a b : Int} (h : b < a) : compare a b = .gt := by
 show compareOfLessAndEq a b = .gt
 unfold compareOfLessAndEq; rw [if_neg (show ¬ a < b by omega), if_neg (show ¬ a = b by omega)]
theorem compare_mul (a b : Int) (k : Nat) (h : 0 < k) : compare a b = compare (a * k) (b * k) := by
 have hk : (0 : Int) < k := by omega
 rcases Int.lt_trichotomy a b with h1 | h1 | h1
 ·have h2 : a * k < b * k := Int.mul_lt_mul_of_pos_right h1 hk
  rw [cmpI_lt h1, cmpI_lt h2]
 ·subst h1; rw [cmpI_eq rfl, cmpI_eq rfl]
 ·have h2 : b * k < a * k := Int.mul_lt_mul_of_pos_right h1 hk
  rw [cmpI_gt h1, cmpI_gt h2]
theorem sv_ng (x : Nat) : sv x = if ngB x then -(V (ru x) : Int) else (V (ru x) : Int) := by
 unfold sv ngB
 split <;> rename_i h
 ·rw [decide_eq_true h]; rfl
 ·rw [decide_eq_false h]; rfl
theorem order_any (x y : Nat) (hx : x < 18446744073709551616) (hy : y < 18446744073709551616) (h1 : ru x ≤ 9218868437227405312) (h2 : ru y ≤ 9218868437227405312) : double.order x y = some (compare (sv x) (sv y)) := by
 unfold Format.order
 rw [sv_ng, sv_ng]
 by_cases hx2 : ru x = 9218868437227405312
 ·rw [read_inf x hx hx2]
  by_cases hy2 : ru y = 9218868437227405312
  ·rw [read_inf y hy hy2, hx2, hy2]
   cases ngB x <;> cases ngB y <;> decide +kernel
  ·obtain ⟨m, e, he, hm, _⟩ := read_fin y hy (by omega)
   rw [he]
   have hlt : V (ru y) < V (ru x) := V_mono (by omega)
   show some (if ngB x then Ordering.lt else .gt) = _
   cases ngB x
   ·have : compare ((V (ru x) : Nat) : Int) (if ngB y then -((V (ru y) : Nat) : Int) else ((V (ru y) : Nat) : Int)) = .gt := cmpI_gt (by split <;> omega)
    simp [this]
   ·have : compare (-((V (ru x) : Nat) : Int)) (if ngB y then -((V (ru y) : Nat) : Int) else ((V (ru y) : Nat) : Int)) = .lt := cmpI_lt (by split <;> omega)
    simp [this]
 ·obtain ⟨m, e, he, hm, _⟩ := read_fin x hx (by omega)
  rw [he]
  by_cases hy2 : ru y = 9218868437227405312
  ·rw [read_inf y hy hy2]
   have hlt : V (ru x) < V (ru y) := V_mono (by omega)
   show some (if ngB y then Ordering.gt else .lt) = _
   cases ngB y
   ·have : compare (if ngB x then -((V (ru x) : Nat) : Int) else ((V (ru x) : Nat) : Int)) ((V (ru y) : Nat) : Int) = .lt := cmpI_lt (by split <;> omega)
    simp [this]
   ·have : compare (if ngB x then -((V (ru x) : Nat) : Int) else ((V (ru x) : Nat) : Int)) (-((V (ru y) : Nat) : Int)) = .gt := cmpI_gt (by split <;> omega)
    simp [this]
  ·obtain ⟨n, f, hf, hn, _⟩ := read_fin y hy (by omega)
   rw [hf]
   show some (compare (signed (ngB x) m ((e : Int) - 1074 - min ((e : Int) - 1074) ((f : Int) - 1074)).toNat) (signed (ngB y) n ((f : Int) - 1074 - min ((e : Int) - 1074) ((f : Int) - 1074)).toNat)) = _
   have e1 : ((e : Int) - 1074 - min ((e : Int) - 1074) ((f : Int) - 1074)).toNat = e - min e f := by omega
   have e2 : ((f : Int) - 1074 - min ((e : Int) - 1074) ((f : Int) - 1074)).toNat = f - min e f := by omega
   rw [e1, e2, compare_mul _ _ (2 ^ min e f) (Nat.two_pow_pos _), signed_mul, signed_mul, show e - min e f + min e f = e from by omega, show f - min e f + min e f = f from by omega, hm, hn]
theorem cmp_eq (a b : Int) : (some (compare a b) == some Ordering.eq) = decide (a = b) := by
 rcases Int.lt_trichotomy a b with h1 | h1 | h1
 ·rw [cmpI_lt h1, decide_eq_false (by omega)]; rfl
 ·rw [cmpI_eq h1, decide_eq_true h1]; rfl
 ·rw [cmpI_gt h1, decide_eq_false (by omega)]; rfl
theorem cmp_gt (a b : Int) : (some (compare a b) == some Ordering.gt) = decide (b < a) := by
 rcases Int.lt_trichotomy a b with h1 | h1 | h1
 ·rw [cmpI_lt h1, decide_eq_false (by omega)]; rfl
 ·rw [cmpI_eq h1, decide_eq_false (by omega)]; rfl
 ·rw [cmpI_gt h1, decide_eq_true h1]; rfl
theorem f_self (x : Nat) (hx : x < 18446744073709551616) : (FloatKind.f64.format.order x x == some Ordering.eq) = decide (ru x ≤ 9218868437227405312) := by
 show (double.order x x == _) = _
 by_cases h : ru x ≤ 9218868437227405312
 ·rw [order_any x x hx hx h h, cmp_eq, decide_eq_true rfl, decide_eq_true h]
 ·rw [order_nan x x hx (by omega), decide_eq_false h]; rfl
theorem sv_zero (x : Nat) : sv x = 0 ↔ ru x = 0 := by
 have h1 : V (ru x) = 0 ↔ ru x = 0 := by
  constructor
  ·intro h
   by_cases h0 : ru x = 0
   ·exact h0
   ·have := V_mono (show 0 < ru x by omega)
    rw [V_zero] at this; omega
  ·intro h; rw [h]; rfl
 unfold sv
 split <;> omega
theorem f_zero (x : Nat) (hx : x < 18446744073709551616) (h : ru x ≤ 9218868437227405312) : (FloatKind.f64.format.order x 0 == some Ordering.eq) = decide (ru x = 0) := by
 show (double.order x 0 == _) = _
 rw [order_any x 0 hx (by decide) h (by decide), cmp_eq, show sv 0 = 0 from by decide +kernel]
 exact decide_eq_decide.2 (sv_zero x)
theorem f_gt_max (x : Nat) (hx : x < 18446744073709551616) (h : ru x ≤ 9218868437227405312) : (FloatKind.f64.format.order x 9218868437227405311 == some Ordering.gt) = (decide (ru x = 9218868437227405312) && !ngB x) := by
 show (double.order x 9218868437227405311 == _) = _
 rw [order_any x _ hx (by decide) h (by decide), cmp_gt, sv_ng, sv_ng, show ngB 9218868437227405311 = false from by decide, show ru 9218868437227405311 = 9218868437227405311 from by decide]
 have h0 : 0 ≤ (V (ru x) : Int) := by omega
 have h3 : V (ru x) = V 9218868437227405312 ∨ V (ru x) ≤ V 9218868437227405311 := by
  by_cases h4 : ru x = 9218868437227405312
  ·rw [h4]; exact .inl rfl
  ·exact .inr (V_le (by omega))
 have h5 : V 9218868437227405311 < V 9218868437227405312 := V_mono (by omega)
 have h6 : 0 < V 9218868437227405311 := by have := V_mono (show 0 < 9218868437227405311 by omega); rwa [V_zero] at this
 have h7 : ru x = 9218868437227405312 ↔ V (ru x) = V 9218868437227405312 := by
  constructor
  ·intro h; rw [h]
  ·intro h8
   by_cases h4 : ru x = 9218868437227405312
   ·exact h4
   ·have := V_mono (show ru x < 9218868437227405312 by omega); omega
 cases ngB x
 ·simp only [Bool.false_eq_true, if_false, Bool.not_false, Bool.and_true]
  exact decide_eq_decide.2 ⟨fun h => by rw [h7]; omega, fun h => by rw [h7] at h; omega⟩
 ·simp only [if_true, Bool.not_true, Bool.and_false, Bool.false_eq_true, if_false]
  exact decide_eq_false (by omega)
end Go.Proofs.YtckaoeloofbklaaGreatDoor
namespace Go.Proofs.YtckaoeloofbklaaGreatDoor
open Go Ieee
set_option exponentiation.threshold 2000
theorem near_self (r : Nat) (h : r ≤ INF) : Near (2 * V r) 1 r := by
 refine ⟨by decide, h, ?_, ?_⟩
 ·by_cases h0 : r = 0
  ·exact .inl h0
  ·have := V_mono (show r - 1 < r by omega)
   exact .inr ⟨by omega, by omega⟩
 ·by_cases h1 : r = INF
  ·exact .inl h1
  ·have := V_mono (show r < r + 1 by omega)
   exact .inr ⟨by omega, by omega⟩
end Go.Proofs.YtckaoeloofbklaaGreatDoor
namespace Go.Proofs.YtckaoeloofbklaaGreatDoor
open Go Ieee
set_option exponentiation.threshold 5000
theorem near_zero (X Q : Nat) (hq : 0 < Q) (h : X ≤ Q) : Near X Q 0 := by
 refine ⟨hq, by decide, .inl rfl, .inr ⟨?_, fun h => by omega⟩⟩
 have v1 : V (0 + 1) = 1 := by decide
 rw [v1, V_zero]
 omega
def p10L : List Nat := [4607182418800017408, 4621819117588971520, 4636737291354636288, 4652007308841189376, 4666723172467343360, 4681608360884174848, 4696837146684686336, 4711630319722168320, 4726483295884279808, 4741671816366391296, 4756540486875873280, 4771362005757984768, 4786511204640096256, 4801453603149578240, 4816244402031689728, 4831355200913801216, 4846369599423283200, 4861130398305394688, 4876203697187506176, 4891288408196988160, 4906019910204099648, 4921056587992461136, 4936209963552724370]
def p10N (k : Nat) : Nat := p10L.getD k 0
end Go.Proofs.YtckaoeloofbklaaGreatDoor
namespace Go.Proofs.YtckaoeloofbklaaGreatDoor
open Go Go.RowKit
set_option exponentiation.threshold 3000
theorem me_val (a : Nat) (h1 : 0 < a) (h2 : a < 9218868437227405312) :
  V a * 2 ^ 64 = MN a * 2 ^ (EN a + 1138).toNat ∧ V (a + 1) * 2 ^ 64 = (MN a + 2 ^ zN (EN a)) * 2 ^ (EN a + 1138).toNat ∧
  (MN a ≠ 9223372036854775808 → 2 ^ zN (EN a) ≤ MN a ∧ V (a - 1) * 2 ^ 64 = (MN a - 2 ^ zN (EN a)) * 2 ^ (EN a + 1138).toNat) ∧ MN a / 2 ^ zN (EN a) % 2 = a % 2 := by
 by_cases hs : a < 4503599627370496
 ·have hm : mtN a = a := by unfold mtN; rw [if_pos hs]
  obtain ⟨hL1, _, _⟩ := bitLen_bounds a h1 (by omega)
  have hL := bitLen_le a 52 h1 (by omega) hs
  obtain ⟨s, hsd, hs64⟩ : ∃ s, 64 - Lib.bitLen a = s ∧ s ≤ 63 := ⟨_, rfl, by omega⟩
  have hs12 : 12 ≤ s := by omega
  have hE : EN a = -1074 - (s : Int) := by unfold EN sN; rw [if_pos hs, hm, hsd]; omega
  have hz : zN (EN a) = s := by unfold zN; rw [hE, if_neg (by omega)]; omega
  have hM : MN a = a * 2 ^ s := by unfold MN sN; rw [hm, hsd]
  have hF : (EN a + 1138).toNat = 64 - s := by rw [hE]; omega
  have hp : 2 ^ s * 2 ^ (64 - s) = 2 ^ 64 := by rw [← Nat.pow_add, show s + (64 - s) = 64 by omega]
  have v0 : V a = a := by have := V_at 0 a (by unfold BB; omega) (.inl rfl); simpa using this
  have v1 : V (a + 1) = a + 1 := by have := V_at 0 (a + 1) (by unfold BB; omega) (.inl rfl); simpa using this
  have v2 : V (a - 1) = a - 1 := by have := V_at 0 (a - 1) (by unfold BB; omega) (.inl rfl); simpa using this
  have key : ∀ k, k * 2 ^ s * 2 ^ (64 - s) = k * 2 ^ 64 := fun k => by rw [Nat.mul_assoc, hp]
  rw [hz, hM, hF]
  refine ⟨by rw [v0, key], by rw [v1, show a * 2 ^ s + 2 ^ s = (a + 1) * 2 ^ s from by rw [Nat.add_mul, Nat.one_mul], key], fun _ => ⟨Nat.le_mul_of_pos_left _ h1, ?_⟩, by rw [Nat.mul_div_cancel _ (Nat.two_pow_pos s)]⟩
  rw [v2, show a * 2 ^ s - 2 ^ s = (a - 1) * 2 ^ s from by rw [Nat.sub_mul, Nat.one_mul], key]
 ·have hm : mtN a = a % 4503599627370496 + 4503599627370496 := by unfold mtN; rw [if_neg hs]
  have hr := Nat.mod_lt a (show 0 < 4503599627370496 by decide)
  have hdm := Nat.div_add_mod a 4503599627370496
  have hL1 := bitLen_le (a % 4503599627370496 + 4503599627370496) 53 (by omega) (by omega) (by omega)
  have hL2 := bitLen_gt (a % 4503599627370496 + 4503599627370496) 52 (by omega) (by omega) (by omega)
  have hL : Lib.bitLen (a % 4503599627370496 + 4503599627370496) = 53 := by omega
  have hM : MN a = (a % 4503599627370496 + 4503599627370496) * 2 ^ 11 := by unfold MN sN; rw [hm, hL]
  have hE : EN a = ((a / 4503599627370496 : Nat) : Int) - 1086 := by unfold EN sN; rw [if_neg hs, hm, hL]; omega
  have hz : zN (EN a) = 11 := by unfold zN; rw [hE, if_pos (by omega)]
  obtain ⟨E, hEd⟩ : ∃ E, a / 4503599627370496 = E + 1 := ⟨a / 4503599627370496 - 1, by omega⟩
  have hF : (EN a + 1138).toNat = E + 53 := by rw [hE, hEd]; omega
  generalize a % 4503599627370496 = f at *
  have ha : a = E * BB + (f + BB) := by
   have key : ∀ B : Nat, B * (E + 1) + f = a → a = E * B + (f + B) := fun B h => by rw [← h, Nat.mul_add, Nat.mul_one, Nat.mul_comm]; omega
   rw [hEd] at hdm
   exact key _ hdm
  have hpar : (f + 4503599627370496) % 2 = a % 2 := by
   rw [hEd] at hdm
   clear ha hF hz hE hM hL hL1 hL2 hm
   omega
  have hfb : f < BB := hr
  have b0 : f + BB ≤ 2 * BB := by rw [Nat.two_mul]; exact Nat.add_le_add_right (Nat.le_of_lt hfb) _
  have b1 : f + BB + 1 ≤ 2 * BB := by rw [Nat.two_mul]; exact Nat.add_lt_add_right hfb BB
  have c0 : BB ≤ f + BB := Nat.le_add_left _ _
  have v0 : V a = (f + BB) * 2 ^ E := by rw [ha]; exact V_at E (f + BB) b0 (.inr c0)
  have v1 : V (a + 1) = (f + BB + 1) * 2 ^ E := by rw [ha, Nat.add_assoc (E * BB)]; exact V_at E (f + BB + 1) b1 (.inr (Nat.le_succ_of_le c0))
  have key : ∀ k, k * 2 ^ 11 * 2 ^ (E + 53) = k * 2 ^ E * 2 ^ 64 := fun k => by
   rw [Nat.mul_assoc, Nat.mul_assoc, ← Nat.pow_add, ← Nat.pow_add, show 11 + (E + 53) = E + 64 from by rw [Nat.add_comm, Nat.add_assoc]]
  have hM' : MN a = (f + BB) * 2 ^ 11 := hM
  rw [hz, hF]
  refine ⟨by rw [hM', v0, key], by rw [hM', v1, ← key, Nat.succ_mul (f + BB)], fun hne => ?_, ?_⟩
  ·have hf0 : 0 < f := by
    rcases Nat.eq_zero_or_pos f with h | h
    ·exact absurd (by rw [hM, h]) hne
    ·exact h
   have hfp : 1 ≤ f + BB := Nat.le_trans hf0 (Nat.le_add_right _ _)
   have v2 : V (a - 1) = (f + BB - 1) * 2 ^ E := by
    rw [ha, Nat.add_sub_assoc hfp]
    exact V_at E (f + BB - 1) (Nat.le_trans (Nat.sub_le _ _) b0) (.inr (Nat.le_sub_one_of_lt (Nat.lt_add_of_pos_left hf0)))
   rw [hM']
   refine ⟨Nat.le_mul_of_pos_left _ hfp, ?_⟩
   rw [v2, ← key, Nat.sub_mul (f + BB), Nat.one_mul]
  ·rw [hM, Nat.mul_div_cancel _ (by decide)]
   exact hpar
def GN (p e : Int) : Nat := 4 * (DN p * (2 ^ (ssN p e).toNat * 340282366920938463463374607431768211456))
theorem GN_pos (p e : Int) : 0 < GN p e := Nat.mul_pos (by decide) (Nat.mul_pos (DN_pos p) (Nat.mul_pos (Nat.two_pow_pos _) (by decide)))
theorem AN_pos (p : Int) : 0 < AN p := Nat.mul_pos (Nat.pow_pos (by decide)) (Nat.two_pow_pos _)
theorem sc_eq (p e : Int) (hs : 5 ≤ ssN p e) (he : -1138 ≤ e) (x d : Nat) :
  dQ (-p) * (x * 2 ^ (e + 1138).toNat) * 2 ^ (127 - lpN p).toNat = x * AN p * 2 ^ (e + 1138).toNat ∧ d * dQ p * 2 ^ 1138 * 2 ^ (127 - lpN p).toNat = d * GN p e * 2 ^ (e + 1138).toNat := by
 constructor
 ·unfold dQ AN
  rw [Int.neg_neg]
  ac_rfl
 ·have hW : (340282366920938463463374607431768211456 : Nat) = 2 ^ 128 := by decide
  have e1 : 2 ^ 1138 * 2 ^ (127 - lpN p).toNat = 4 * (2 ^ (lpN p - 127).toNat * (2 ^ (ssN p e).toNat * 340282366920938463463374607431768211456)) * 2 ^ (e + 1138).toNat := by
   rw [hW, show (4 : Nat) = 2 ^ 2 from rfl, ← Nat.pow_add, ← Nat.pow_add, ← Nat.pow_add, ← Nat.pow_add, ← Nat.pow_add]
   congr 1
   unfold ssN at *
   omega
  unfold GN dQ DN
  rw [Nat.mul_assoc (d * 10 ^ (-p).toNat), e1]
  ac_rfl
theorem sc_le (p e : Int) (hs : 5 ≤ ssN p e) (he : -1138 ≤ e) (x d : Nat) : dQ (-p) * (x * 2 ^ (e + 1138).toNat) ≤ d * dQ p * 2 ^ 1138 ↔ x * AN p ≤ d * GN p e := by
 obtain ⟨e1, e2⟩ := sc_eq p e hs he x d
 rw [← Nat.mul_le_mul_right_iff (Nat.two_pow_pos (127 - lpN p).toNat), e1, e2, Nat.mul_le_mul_right_iff (Nat.two_pow_pos _)]
theorem sc_ge (p e : Int) (hs : 5 ≤ ssN p e) (he : -1138 ≤ e) (x d : Nat) : d * dQ p * 2 ^ 1138 ≤ dQ (-p) * (x * 2 ^ (e + 1138).toNat) ↔ d * GN p e ≤ x * AN p := by
 obtain ⟨e1, e2⟩ := sc_eq p e hs he x d
 rw [← Nat.mul_le_mul_right_iff (Nat.two_pow_pos (127 - lpN p).toNat), e1, e2, Nat.mul_le_mul_right_iff (Nat.two_pow_pos _)]
theorem us_exact (p e : Int) (h1 : -348 ≤ p) (h2 : p ≤ 347) (hs : 5 ≤ ssN p e) (z : Nat) (hz : z < 2 ^ 55) (hlo : 2 ^ 54 - 4 ≤ z) : usN p e (512 * z) = unr (512 * z * AN p) (GN p e) := by
 obtain ⟨hhi, hlo', hrow⟩ := row_is p h1 h2
 obtain ⟨j, hj, hj2⟩ : ∃ j, 2 ^ (ssN p e).toNat = 2 ^ 5 * j ∧ 0 < j := ⟨2 ^ ((ssN p e).toNat - 5), by rw [← Nat.pow_add, show 5 + ((ssN p e).toNat - 5) = (ssN p e).toNat by omega], Nat.two_pow_pos _⟩
 unfold usN GN
 refine uscN_eq (by omega) hlo' hrow (pmN_lo p) (pmN_hi p) (DN_pos p) (by rw [hj]; omega) ?_
 rw [hj]
 exact clear_print p h1 h2 j hj2 z hz hlo
end Go.Proofs.YtckaoeloofbklaaGreatDoor
namespace Go.Proofs.YtckaoeloofbklaaGreatDoor
open Go Go.RowKit
set_option exponentiation.threshold 3000
theorem dX_scale (d k : Nat) (q : Int) : dX (d * 10 ^ k) q * dQ (q + k) = dX d (q + k) * dQ q := by
 unfold dX dQ
 have h : 10 ^ k * 10 ^ q.toNat * 10 ^ (-(q + k)).toNat = 10 ^ (q + k).toNat * 10 ^ (-q).toNat := by
  rw [← Nat.pow_add, ← Nat.pow_add, ← Nat.pow_add]
  congr 1
  omega
 generalize 10 ^ k = t1 at *
 generalize 10 ^ q.toNat = t2 at *
 generalize 10 ^ (-(q + k)).toNat = t3 at *
 generalize 10 ^ (q + k).toNat = t4 at *
 generalize 10 ^ (-q).toNat = t5 at *
 generalize 2 ^ 1074 = W
 have e1 : 2 * (d * t1 * t2 * W) * t3 = 2 * (d * W) * (t1 * t2 * t3) := by ac_rfl
 have e2 : 2 * (d * t4 * W) * t5 = 2 * (d * W) * (t4 * t5) := by ac_rfl
 rw [e1, e2, h]
theorem near_up (d k a : Nat) (q : Int) (h : Near (dX (d * 10 ^ k) q) (dQ q) a) : Near (dX d (q + k)) (dQ (q + k)) a := near_ratio h (dQ_pos _) (dX_scale d k q)
theorem near_down (d k a : Nat) (q : Int) (h : Near (dX d (q + k)) (dQ (q + k)) a) : Near (dX (d * 10 ^ k) q) (dQ q) a := near_ratio h (dQ_pos _) (dX_scale d k q).symm
theorem cmp_of (p e : Int) (hs : 5 ≤ ssN p e) (he : -1138 ≤ e) (S x d : Nat) (hS : S * 2 ^ 63 = x * 2 ^ (e + 1138).toNat) :
  (dQ (-p) * S ≤ dX d (-p) ↔ x * AN p ≤ d * GN p e) ∧ (dX d (-p) ≤ dQ (-p) * S ↔ d * GN p e ≤ x * AN p) := by
 have e1 : dX d (-p) * 2 ^ 63 = d * dQ p * 2 ^ 1138 := by
  show 2 * (d * dQ p * 2 ^ 1074) * 2 ^ 63 = _
  rw [show (2 : Nat) ^ 1138 = 2 * 2 ^ 1074 * 2 ^ 63 from by decide +kernel]
  ac_rfl
 have e2 : dQ (-p) * S * 2 ^ 63 = dQ (-p) * (x * 2 ^ (e + 1138).toNat) := by rw [Nat.mul_assoc, hS]
 have hp : 0 < 2 ^ 63 := by decide
 constructor
 ·rw [← Nat.mul_le_mul_right_iff hp, e1, e2, sc_le p e hs he]
 ·rw [← Nat.mul_le_mul_right_iff hp, e1, e2, sc_ge p e hs he]
theorem in_iff (a : Nat) (h1 : 0 < a) (h2 : a < 9218868437227405312) (hm : MN a ≠ 9223372036854775808) (p : Int) (hs : 5 ≤ ssN p (EN a)) (d : Nat) :
  Near (dX d (-p)) (dQ (-p)) a ↔
   ((MN a - 2 ^ (zN (EN a) - 1)) * AN p ≤ d * GN p (EN a) ∧ (a % 2 = 1 → (MN a - 2 ^ (zN (EN a) - 1)) * AN p < d * GN p (EN a))) ∧
   (d * GN p (EN a) ≤ (MN a + 2 ^ (zN (EN a) - 1)) * AN p ∧ (a % 2 = 1 → d * GN p (EN a) < (MN a + 2 ^ (zN (EN a) - 1)) * AN p)) := by
 obtain ⟨m1, m2, m3, m4, m5⟩ := me_ok a h1 h2
 obtain ⟨v0, v1, v2, _⟩ := me_val a h1 h2
 obtain ⟨v3, v4⟩ := v2 hm
 obtain ⟨hz1, hz2⟩ := zN_ge (EN a) m4
 have e1 : 2 ^ zN (EN a) = 2 * 2 ^ (zN (EN a) - 1) := by rw [← Nat.pow_succ', show (zN (EN a) - 1).succ = zN (EN a) from by omega]
 rw [e1] at v1 v3 v4
 have he : -1138 ≤ EN a := by omega
 generalize EN a = e at *
 generalize MN a = m at *
 generalize 2 ^ (zN e - 1) = h at *
 have s1 : (V a + V (a + 1)) * 2 ^ 63 = (m + h) * 2 ^ (e + 1138).toNat := by
  have : (V a + V (a + 1)) * 2 ^ 63 * 2 = (m + h) * 2 ^ (e + 1138).toNat * 2 := by
   rw [Nat.mul_assoc, show 2 ^ 63 * 2 = 2 ^ 64 from by decide, Nat.add_mul, v0, v1, ← Nat.add_mul, Nat.mul_right_comm]
   congr 1; omega
  exact Nat.eq_of_mul_eq_mul_right (by decide) this
 have s0 : (V (a - 1) + V a) * 2 ^ 63 = (m - h) * 2 ^ (e + 1138).toNat := by
  have : (V (a - 1) + V a) * 2 ^ 63 * 2 = (m - h) * 2 ^ (e + 1138).toNat * 2 := by
   rw [Nat.mul_assoc, show 2 ^ 63 * 2 = 2 ^ 64 from by decide, Nat.add_mul, v0, v4, ← Nat.add_mul, Nat.mul_right_comm]
   congr 1; omega
  exact Nat.eq_of_mul_eq_mul_right (by decide) this
 obtain ⟨c1, c2⟩ := cmp_of p e hs he _ _ d s0
 obtain ⟨c3, c4⟩ := cmp_of p e hs he _ _ d s1
 constructor
 ·intro hn
  have hlo : _ := hn.lo.resolve_left (by omega)
  have hhi : _ := hn.hi.resolve_left (by unfold INF; omega)
  exact ⟨⟨c1.1 hlo.1, fun ho => Nat.lt_of_not_le fun hh => Nat.not_le.2 (hlo.2 ho) (c2.2 hh)⟩, ⟨c4.1 hhi.1, fun ho => Nat.lt_of_not_le fun hh => Nat.not_le.2 (hhi.2 ho) (c3.2 hh)⟩⟩
 ·rintro ⟨⟨l1, l2⟩, ⟨u1, u2⟩⟩
  exact ⟨dQ_pos _, by unfold INF; omega, .inr ⟨c1.2 l1, fun ho => Nat.lt_of_not_le fun hh => Nat.not_le.2 (l2 ho) (c2.1 hh)⟩, .inr ⟨c4.2 u1, fun ho => Nat.lt_of_not_le fun hh => Nat.not_le.2 (u2 ho) (c3.1 hh)⟩⟩
def widOK (k : Int) : Bool := decide (dQ (-l10N k) * 2 ^ 1138 ≤ dQ (-(-l10N k)) * 2 ^ (k + 1138).toNat) && decide (dQ (-(-l10N k)) * 2 ^ (k + 1138).toNat < 10 * dQ (-l10N k) * 2 ^ 1138)
def widAll : Nat → Int → Bool
 | 0, _ => true
 | n + 1, k => widOK k && widAll n (k + 1)
theorem widAll_get : ∀ (n : Nat) (k : Int), widAll n k = true → ∀ i : Nat, i < n → widOK (k + i) = true
 | 0, _, _, _, h => by omega
 | n + 1, k, h, 0, _ => by
  simp only [widAll, Bool.and_eq_true] at h
  simpa using h.1
 | n + 1, k, h, i + 1, hi => by
  simp only [widAll, Bool.and_eq_true] at h
  have := widAll_get n (k + 1) h.2 i (by omega)
  rwa [show k + 1 + (i : Int) = k + ((i + 1 : Nat) : Int) from by push_cast; omega] at this
theorem wid_all : widAll 2090 (-1074) = true := by decide +kernel
theorem wid (e : Int) (h1 : -1137 ≤ e) (h2 : e ≤ 1000) : GN (ppN false e) e ≤ 2 ^ zN e * AN (ppN false e) ∧ 2 ^ zN e * AN (ppN false e) < 10 * GN (ppN false e) e := by
 have hk1 : -1074 ≤ e + zN e := by unfold zN; split <;> omega
 have hk2 : e + zN e ≤ 1011 := by unfold zN; split <;> omega
 have hw := widAll_get _ _ wid_all (e + zN e + 1074).toNat (by omega)
 rw [show -1074 + ((e + zN e + 1074).toNat : Int) = e + zN e from by omega] at hw
 simp only [widOK, Bool.and_eq_true, decide_eq_true_eq] at hw
 obtain ⟨w1, w2⟩ := hw
 have hpp : ppN false e = -l10N (e + zN e) := rfl
 rw [← hpp] at w1 w2
 have ok := (exp_ok e h1 h2).1
 simp only [expOK, Bool.and_eq_true, decide_eq_true_eq] at ok
 have hF : 2 ^ (e + zN e + 1138).toNat = 2 ^ zN e * 2 ^ (e + 1138).toNat := by
  rw [← Nat.pow_add]; congr 1; omega
 rw [hF] at w1 w2
 constructor
 ·have := (sc_ge (ppN false e) e ok.1.2 (by omega) (2 ^ zN e) 1).1 (by rw [Nat.one_mul]; exact w1)
  rwa [Nat.one_mul] at this
 ·refine Nat.lt_of_not_le fun hh => Nat.not_le.2 w2 ?_
  exact (sc_ge (ppN false e) e ok.1.2 (by omega) (2 ^ zN e) 10).2 hh
end Go.Proofs.YtckaoeloofbklaaGreatDoor
namespace Go.Proofs.YtckaoeloofbklaaGreatDoor
open Go Go.RowKit
def errV (r : Nat) : Value := if r = INF then .iface 174 (.int .i64 1) else .nilIface
end Go.Proofs.YtckaoeloofbklaaGreatDoor
namespace Go.Proofs.YtckaoeloofbklaaGreatDoor
open Go Go.RowKit
set_option exponentiation.threshold 5000
structure GlobT (K : Nat) (w : World) : Prop where
 lt : 17 ≤ K
 le : K ≤ w.heap.size
 inf : w.cell? ⟨11, 0, Option.none⟩ = some (.int .u64 52) ∧ w.cell? ⟨11, 1, Option.none⟩ = some (.int .u64 11) ∧ w.cell? ⟨11, 2, Option.none⟩ = some (.int .i64 (-1023))
 p10 : ∃ b o cap : Nat, b < K ∧ w.cell? ⟨16, 0, Option.none⟩ = some (.slice (some ⟨b, o, Option.none⟩) 23 cap) ∧ ∀ k, k < 23 → w.cell? ⟨b, o + k, Option.none⟩ = some (.float .f64 (p10N k))
 deb : w.cell? ⟨7, 1, Option.none⟩ = some (.int .u8 1) ∧ w.cell? ⟨7, 15, Option.none⟩ = some (.int .u8 4)
 blk : ∃ (ca cb : Array Value) (ta tb : TypeId), w.heap[(10 : Nat)]? = some (.cells ca ta (0, 0)) ∧ w.heap[(11 : Nat)]? = some (.cells cb tb (0, 0))
 rng : ∃ te pe, w.cell? ⟨5, 0, Option.none⟩ = some (.iface te pe)
theorem GlobT.below {K : Nat} {w w' : World} {B : Nat} (h : GlobT K w) (hB : K ≤ B) (hb : Below B w w') : GlobT K w' := by
 have hlt := h.lt
 refine ⟨h.lt, Nat.le_trans h.le hb.size, ?_, ?_, ?_, ?_, ?_⟩
 ·obtain ⟨a, b, c⟩ := h.inf
  have hg : 11 < B := Nat.lt_of_lt_of_le (by decide) (Nat.le_trans h.lt hB)
  exact ⟨(hb.cell (p := ⟨11, 0, Option.none⟩) hg).trans a, (hb.cell (p := ⟨11, 1, Option.none⟩) hg).trans b, (hb.cell (p := ⟨11, 2, Option.none⟩) hg).trans c⟩
 ·obtain ⟨b, o, cap, h1, h2, h3⟩ := h.p10
  have hg : 16 < B := Nat.lt_of_lt_of_le (by decide) (Nat.le_trans h.lt hB)
  exact ⟨b, o, cap, h1, (hb.cell (p := ⟨16, 0, Option.none⟩) hg).trans h2, fun k hk => (hb.cell (p := ⟨b, o + k, Option.none⟩) (Nat.lt_of_lt_of_le h1 hB)).trans (h3 k hk)⟩
 ·obtain ⟨a, b⟩ := h.deb
  have hg : 7 < B := Nat.lt_of_lt_of_le (by decide) (Nat.le_trans h.lt hB)
  exact ⟨(hb.cell (p := ⟨7, 1, Option.none⟩) hg).trans a, (hb.cell (p := ⟨7, 15, Option.none⟩) hg).trans b⟩
 ·obtain ⟨ca, cb, ta, tb, h1, h2⟩ := h.blk
  have hg : ∀ b, b < 17 → b < B := fun b hb => Nat.lt_of_lt_of_le hb (Nat.le_trans h.lt hB)
  exact ⟨ca, cb, ta, tb, (hb.block _ (hg _ (by decide))).trans h1, (hb.block _ (hg _ (by decide))).trans h2⟩
 ·obtain ⟨te, pe, h1⟩ := h.rng
  have hg : 5 < B := Nat.lt_of_lt_of_le (by decide) (Nat.le_trans h.lt hB)
  exact ⟨te, pe, (hb.cell (p := ⟨5, 0, Option.none⟩) hg).trans h1⟩
theorem GlobT.on {K : Nat} {w w' : World} (h : GlobT K w) (hb : Below w.heap.size w w') : GlobT K w' := h.below h.le hb
set_option exponentiation.threshold 5000
theorem dX_pos (d k : Nat) : dX d (k : Int) = 2 * (d * 10 ^ k * 2 ^ 1074) := rfl
theorem dQ_pos1 (k : Nat) : dQ (k : Int) = 1 := by unfold dQ; rw [show (-(k : Int)).toNat = 0 by omega, Nat.pow_zero]
theorem dX_neg (d k : Nat) : dX d (-(k : Int)) = 2 * (d * 2 ^ 1074) := by unfold dX; rw [show (-(k : Int)).toNat = 0 by omega, Nat.pow_zero, Nat.mul_one]
theorem dQ_neg (k : Nat) : dQ (-(k : Int)) = 10 ^ k := by unfold dQ; rw [Int.neg_neg, Int.toNat_natCast]
end Go.Proofs.YtckaoeloofbklaaGreatDoor
namespace Go.Proofs.YtckaoeloofbklaaGreatDoor
open Go Go.RowKit
theorem wrap_neg (x : Nat) (hx : x < 18446744073709551616) : decide (wrap64 (x : Int) < 0) = ngB x := by
 unfold ngB
 refine decide_eq_decide.2 ?_
 unfold wrap64
 omega
theorem mask_63 (x : Nat) (hx : x < 18446744073709551616) : bits .andNot .u64 (x : Int) 9223372036854775808 = ((ru x : Nat) : Int) := by
 have h := u64_andNot_nat x 9223372036854775808 hx (by decide)
 rw [show ((9223372036854775808 : Nat) : Int) = 9223372036854775808 from rfl] at h
 rw [h, show 18446744073709551615 - 9223372036854775808 = 2 ^ 63 - 1 from by decide, Nat.and_two_pow_sub_one_eq_mod]
 rfl
theorem ru_ru (x : Nat) : ru (ru x) = ru x := by unfold ru; omega
theorem ru_lt (x : Nat) : ru x < 9223372036854775808 := by unfold ru; omega
theorem ng_ru (x : Nat) : ngB (ru x) = false := by unfold ngB; exact decide_eq_false (by have := ru_lt x; omega)
theorem signbit_any (x : Nat) (w : World) (hx : x < 18446744073709551616) :
  Calls Tryz.prog 97 #[.float .f64 x] w fun e w' => e = .returned (.bool (ngB x)) ∧ w' = w := by
 have hb := run_mbits x
 have hw := wrap_neg x hx
 go_enter Tryz.func97, Tryz.ntmps97
 go_wp2_with fail
 go_ret
 exact ⟨ret_bool rfl, rfl⟩
theorem abs_any (x : Nat) (w : World) (hx : x < 18446744073709551616) :
  Calls Tryz.prog 100 #[.float .f64 x] w fun e w' => e = .returned (.float .f64 (ru x)) ∧ w' = w := by
 have hb := run_mbits x
 have hf := run_mfrom (ru x)
 have hm := mask_63 x hx
 go_enter Tryz.func100, Tryz.ntmps100
 go_wp2_with fail
 go_ret
 exact ⟨rfl, rfl⟩
theorem isinf_any (x : Nat) (w : World) (hx : x < 18446744073709551616) (h : ru x ≤ 9218868437227405312) :
  Calls Tryz.prog 98 #[.float .f64 x, .int .i64 0] w fun e w' => e = .returned (.bool (decide (ru x = 9218868437227405312))) ∧ w' = w := by
 have h1 := f_gt_max (ru x) (by have := ru_lt x; omega) (by rw [ru_ru]; exact h)
 rw [ru_ru, ng_ru, Bool.not_false, Bool.and_true] at h1
 have HA := Lib.hid (abs_any x w hx)
 generalize ru x = y at *
 go_enter Tryz.func98, Tryz.ntmps98
 go_wp2_with fail
 refine HA.out.mono ?_
 rintro e w5 ⟨rfl, rfl⟩
 go_wp2_with fail
 go_ret
 exact ⟨ret_bool rfl, rfl⟩
end Go.Proofs.YtckaoeloofbklaaGreatDoor
namespace Go.Proofs.YtckaoeloofbklaaGreatDoor
open Go Go.RowKit Go.Sort Go.Lib
structure Globs (w : World) : Prop where
 glob : Glob w
 mlen : ∃ m : Int, w.cell? ⟨9, 0, Option.none⟩ = some (.int .i64 m)
theorem Globs.below {w w' : World} {B : Nat} (h : Globs w) (hB : 17 ≤ B) (hb : Below B w w') : Globs w' := by
 obtain ⟨m, hm⟩ := h.mlen
 exact ⟨h.glob.below hB hb, m, (hb.cell (p := ⟨9, 0, Option.none⟩) (Nat.lt_of_lt_of_le (by decide) hB)).trans hm⟩
theorem Globs.on {w w' : World} (h : Globs w) (hb : Below w.heap.size w w') : Globs w' := h.below h.glob.lt hb
def sgS (x : Nat) : ByteArray := if ngB x then ⟨#[45]⟩ else ⟨#[]⟩
theorem show_nan_eq (x : Nat) (h : 9218868437227405312 < ru x) : showB x = nanB := by
 unfold showB; exact if_pos h
theorem show_sgn (x : Nat) (h : ru x ≤ 9218868437227405312) : showB x = (if ngB x then [45] else []) ++ (if ru x = 9218868437227405312 then infB else if ru x = 0 then [48] else showA (ru x)) := by
 unfold showB
 rw [if_neg (show ¬ 9218868437227405312 < x % 9223372036854775808 from Nat.not_lt.2 h)]
 unfold ngB
 by_cases hx : x < 9223372036854775808
 ·rw [if_pos hx, decide_eq_false (by omega)]; rfl
 ·rw [if_neg hx, decide_eq_true (by omega)]; rfl
theorem show_nan (x : Nat) (w : World) (hx : x < 18446744073709551616) (h : 9218868437227405312 < ru x) :
  Calls Tryz.prog 69 #[.int .u64 x] w fun e w' => e = .returned (.string ⟨(showB x).toArray⟩) ∧ Below w.heap.size w w' := by
 rw [show_nan_eq x h]
 have hb := run_mfrom x
 have h1 : (FloatKind.f64.format.order x x == some Ordering.eq) = false := by rw [f_self x hx, decide_eq_false (by omega)]
 have h2 : (FloatKind.f64.format.order x x != some Ordering.eq) = true := by rw [bne, h1]; rfl
 have HS := Lib.hid (signbit_any x w hx)
 cases hn : ngB x <;> rw [hn] at HS
 all_goals
  clear hn
  go_enter Tryz.func69, Tryz.ntmps69
  go_wp2_with fail
  refine HS.out.mono ?_
  rintro e w5 ⟨rfl, rfl⟩
  go_wp2_with fail
  go_ret
  exact ⟨rfl, Below.refl _ _⟩
theorem show_inf (x : Nat) (w : World) (hx : x < 18446744073709551616) (h : ru x = 9218868437227405312) :
  Calls Tryz.prog 69 #[.int .u64 x] w fun e w' => e = .returned (.string ⟨(showB x).toArray⟩) ∧ Below w.heap.size w w' := by
 rw [show_sgn x (by omega), if_pos h]
 have hb := run_mfrom x
 have h1 : (FloatKind.f64.format.order x x == some Ordering.eq) = true := by rw [f_self x hx, decide_eq_true (by omega)]
 have h2 : (FloatKind.f64.format.order x x != some Ordering.eq) = false := by rw [bne, h1]; rfl
 have HS := Lib.hid (signbit_any x w hx)
 have HI := Lib.hid (isinf_any x w hx (by omega))
 rw [decide_eq_true h] at HI
 cases hn : ngB x <;> rw [hn] at HS
 all_goals
  clear hn
  go_enter Tryz.func69, Tryz.ntmps69
  go_wp2_with fail
  refine HS.out.mono ?_
  rintro e w5 ⟨rfl, rfl⟩
  go_wp2_with fail
  refine HI.out.mono ?_
  rintro e w5 ⟨rfl, rfl⟩
  go_wp2_with fail
  go_ret
  exact ⟨rfl, Below.refl _ _⟩
theorem show_zero (x : Nat) (w : World) (hx : x < 18446744073709551616) (h : ru x = 0) :
  Calls Tryz.prog 69 #[.int .u64 x] w fun e w' => e = .returned (.string ⟨(showB x).toArray⟩) ∧ Below w.heap.size w w' := by
 rw [show_sgn x (by omega), if_neg (show ¬ ru x = 9218868437227405312 by omega), if_pos h]
 have hb := run_mfrom x
 have h1 : (FloatKind.f64.format.order x x == some Ordering.eq) = true := by rw [f_self x hx, decide_eq_true (by omega)]
 have h2 : (FloatKind.f64.format.order x x != some Ordering.eq) = false := by rw [bne, h1]; rfl
 have h3 : (FloatKind.f64.format.order x 0 == some Ordering.eq) = true := by rw [f_zero x hx (by omega), decide_eq_true h]
 have HS := Lib.hid (signbit_any x w hx)
 have HI := Lib.hid (isinf_any x w hx (by omega))
 rw [decide_eq_false (show ¬ ru x = 9218868437227405312 by omega)] at HI
 cases hn : ngB x <;> rw [hn] at HS
 all_goals
  clear hn
  go_enter Tryz.func69, Tryz.ntmps69
  go_wp2_with fail
  refine HS.out.mono ?_
  rintro e w5 ⟨rfl, rfl⟩
  go_wp2_with fail
  refine HI.out.mono ?_
  rintro e w5 ⟨rfl, rfl⟩
  go_wp2_with fail
  go_ret
  exact ⟨rfl, Below.refl _ _⟩
theorem placed_len (d : List UInt8) (p : Int) (h1 : d.length ≤ 20) (h2 : -5000 ≤ p) (h3 : p ≤ 5000) : (placedB d p).length ≤ 1000 := by
 have h4 : (decDigits (p - 1).natAbs).length ≤ 20 := by
  rw [decDigits_length]
  by_cases h0 : (p - 1).natAbs = 0
  ·rw [h0, nDigits_small (by omega)]; omega
  ·exact nDigits_le _ (by omega) (by omega)
 unfold placedB expS
 split
 ·rw [List.length_append, List.length_replicate]; omega
 ·split
  ·rw [List.length_append, List.length_cons, List.length_take, List.length_drop]; omega
  ·split
   ·rw [List.length_cons, List.length_cons, List.length_append, List.length_replicate]; omega
   ·rw [List.length_append, List.length_cons, List.length_cons]
    split
    ·rw [List.length_append, List.length_cons, List.length_take, List.length_drop]; omega
    ·omega
theorem ba_size (l : List UInt8) : (⟨l.toArray⟩ : ByteArray).size = l.length := rfl
theorem fmt_cut_run (y : Nat) (w : World) (hg : Globs w) (h1 : 0 < y) (h2 : y < 9218868437227405312) :
  Calls Tryz.prog 101 #[.string ⟨(fmtB y).toArray⟩, .string ⟨#[101]⟩] w fun e w' => e = .returned (.tuple #[.string ⟨(mantB (sig (shN y).1)).toArray⟩, .string ⟨(expB ((nDigits (shN y).1 : Nat) + (shN y).2 - 1)).toArray⟩, .bool true]) ∧ Below w.heap.size w w' := by
 obtain ⟨m, hm⟩ := hg.mlen
 refine (Tryz.strings_Cut ⟨(fmtB y).toArray⟩ ⟨#[101]⟩ m w (by rw [ba_size]; have := fmt_len y h1 h2; omega) hm).mono ?_
 rintro e w' ⟨he, n, rfl⟩
 rw [show (⟨#[101]⟩ : ByteArray).data.toList = [101] from rfl, fmt_cut y h1 h2] at he
 exact ⟨he, bDrewN (Below.refl _ _) n⟩
theorem mant_rep_run (y : Nat) (w : World) (hg : Globs w) (h1 : 0 < y) (h2 : y < 9218868437227405312) :
  Calls Tryz.prog 102 #[.string ⟨(mantB (sig (shN y).1)).toArray⟩, .string ⟨#[46]⟩, .string ⟨#[]⟩, .int .i64 1] w fun e w' => e = .returned (.string ⟨(sig (shN y).1).toArray⟩) ∧ Below w.heap.size w w' := by
 obtain ⟨m, hm⟩ := hg.mlen
 obtain ⟨h3, h4, _⟩ := sh_bounds y h1 h2
 have h5 := (sig_len _ h3 h4).2
 have h6 := mant_len (sig (shN y).1)
 refine (Tryz.strings_Replace ⟨(mantB (sig (shN y).1)).toArray⟩ ⟨#[46]⟩ ⟨#[]⟩ 1 m w (by rw [ba_size]; omega) hm (by decide) (by rw [ba_size, show (⟨#[]⟩ : ByteArray).size = 0 from rfl]; omega)).mono ?_
 rintro e w' ⟨he, hb⟩
 rw [show (⟨#[46]⟩ : ByteArray).data.toList = [46] from rfl, show (⟨#[]⟩ : ByteArray).data.toList = [] from rfl, mant_back _ (sig_digs _)] at he
 exact ⟨he, hb⟩
theorem exp_run (x : Int) (w : World) (h : x.natAbs < 1000) :
  Calls Tryz.prog 103 #[.string ⟨(expB x).toArray⟩] w fun e w' => e = .returned (.tuple #[.int .i64 x, .nilIface]) ∧ Below w.heap.size w w' := by
 refine (Tryz.strconv_Atoi ⟨(expB x).toArray⟩ x (by rw [ba_size]; have := exp_len x; omega) (atoi_exp x h) w).mono ?_
 rintro e w' ⟨he, t, rfl⟩
 exact ⟨he, bytesWorld_below w _ t⟩
theorem show_num (x : Nat) (w : World) (hg : Globs w) (hx : x < 18446744073709551616) (h : 0 < ru x) (h' : ru x < 9218868437227405312) :
  Calls Tryz.prog 69 #[.int .u64 x] w fun e w' => e = .returned (.string ⟨(showB x).toArray⟩) ∧ Below w.heap.size w w' := by
 rw [show_sgn x (by omega), if_neg (show ¬ ru x = 9218868437227405312 by omega), if_neg (show ¬ ru x = 0 by omega)]
 have hb := run_mfrom x
 have h1 : (FloatKind.f64.format.order x x == some Ordering.eq) = true := by rw [f_self x hx, decide_eq_true (by omega)]
 have h2 : (FloatKind.f64.format.order x x != some Ordering.eq) = false := by rw [bne, h1]; rfl
 have h3 : (FloatKind.f64.format.order x 0 == some Ordering.eq) = false := by rw [f_zero x hx (by omega), decide_eq_false (by omega)]
 have HS := Lib.hid (signbit_any x w hx)
 have HI := Lib.hid (isinf_any x w hx (by omega))
 rw [decide_eq_false (show ¬ ru x = 9218868437227405312 by omega)] at HI
 have HA := Lib.hid (abs_any x w hx)
 have HF := Lib.hid (format_any (ru x) w hg.glob h h')
 have HG := Lib.hid (fun (w' : World) (hb : Below w.heap.size w w') => hg.on hb)
 have HC := Lib.hid (fun (w' : World) (hb : Globs w') => fmt_cut_run (ru x) w' hb h h')
 have HR := Lib.hid (fun (w' : World) (hb : Globs w') => mant_rep_run (ru x) w' hb h h')
 obtain ⟨b1, b2, b3⟩ := sh_bounds (ru x) h h'
 have b4 := sig_len _ b1 b2
 have HX := Lib.hid (fun (w' : World) => exp_run ((nDigits (shN (ru x)).1 : Nat) + (shN (ru x)).2 - 1) w' b3)
 have hp : (nDigits (shN (ru x)).1 : Nat) + (shN (ru x)).2 - 1 + 1 = (nDigits (shN (ru x)).1 : Nat) + (shN (ru x)).2 := by omega
 have HP := Lib.hid (fun (w' : World) (hb : Globs w') => placed_any ⟨(sig (shN (ru x)).1).toArray⟩ ((nDigits (shN (ru x)).1 : Nat) + (shN (ru x)).2 - 1 + 1) w' hb.glob (by rw [ba_size]; omega) (by rw [ba_size]; omega) (by omega) (by omega))
 rw [hp] at HP
 change Hid (∀ (w' : World) (_ : Globs w'), Calls Tryz.prog 104 #[.string ⟨(sig (shN (ru x)).1).toArray⟩, .int .i64 ((nDigits (shN (ru x)).1 : Nat) + (shN (ru x)).2)] w' fun e w'' => e = .returned (.string ⟨(showA (ru x)).toArray⟩) ∧ Below w'.heap.size w' w'') at HP
 have hq : ((nDigits (shN (ru x)).1 : Nat) + (shN (ru x)).2).natAbs < 2000 := by omega
 have hzl : (⟨(showA (ru x)).toArray⟩ : ByteArray).size ≤ 1000 := by
  exact placed_len _ _ b4.2 (by omega) (by omega)
 have hR : sgS x ++ (⟨(showA (ru x)).toArray⟩ : ByteArray) = ⟨((if ngB x then [45] else []) ++ showA (ru x)).toArray⟩ := by
  refine str_is ?_
  unfold sgS
  cases ngB x <;> simp
 generalize (⟨((if ngB x then [45] else []) ++ showA (ru x)).toArray⟩ : ByteArray) = R at *
 generalize (⟨(showA (ru x)).toArray⟩ : ByteArray) = RR at *
 unfold sgS at hR
 generalize ((nDigits (shN (ru x)).1 : Nat) + (shN (ru x)).2 : Int) = q at *
 generalize expB (q - 1) = EE at *
 generalize sig (shN (ru x)).1 = SS at *
 generalize mantB SS = MM at *
 generalize fmtB (ru x) = FF at *
 cases hn : ngB x <;> rw [hn] at HS hR
 all_goals
  simp only [if_true, Bool.false_eq_true, if_false] at hR
  clear hn b1 b2 b3 b4 hp
  go_enter Tryz.func69, Tryz.ntmps69
  go_wp2_with fail
  refine HS.out.mono ?_
  rintro e w5 ⟨rfl, rfl⟩
  go_wp2_with fail
  refine HI.out.mono ?_
  rintro e w5 ⟨rfl, rfl⟩
  go_wp2_with fail
  refine HA.out.mono ?_
  rintro e w5 ⟨rfl, rfl⟩
  go_wp2_with fail
  refine HF.out.mono ?_
  rintro e w6 ⟨rfl, hb6⟩
  have HB6 := Lib.hid hb6
  clear hb6
  go_wp2_with fail
  refine (HC.out _ (HG.out _ HB6.out)).mono ?_
  rintro e w7 ⟨rfl, hb7⟩
  have HB7 := Lib.hid (HB6.out.trans (hb7.mono HB6.out.size))
  clear hb7
  go_wp2_with fail
  refine (HR.out _ (HG.out _ HB7.out)).mono ?_
  rintro e w8 ⟨rfl, hb8⟩
  have HB8 := Lib.hid (HB7.out.trans (hb8.mono HB7.out.size))
  clear hb8
  go_wp2_with fail
  refine (HX.out _).mono ?_
  rintro e w9 ⟨rfl, hb9⟩
  have HB9 := Lib.hid (HB8.out.trans (hb9.mono HB8.out.size))
  clear hb9
  go_wp2_with fail
  refine (HP.out _ (HG.out _ HB9.out)).mono ?_
  rintro e wa ⟨rfl, hba⟩
  have HBa := Lib.hid (HB9.out.trans (hba.mono HB9.out.size))
  clear hba
  go_wp2_with fail
  go_ret
  exact ⟨rfl, HBa.out⟩
theorem show_any (x : Nat) (w : World) (hg : Globs w) (hx : x < 18446744073709551616) :
  Calls Tryz.prog 69 #[.int .u64 x] w fun e w' => e = .returned (.string ⟨(showB x).toArray⟩) ∧ Below w.heap.size w w' := by
 by_cases h1 : 9218868437227405312 < ru x
 ·exact show_nan x w hx h1
 ·by_cases h2 : ru x = 9218868437227405312
  ·exact show_inf x w hx h2
  ·by_cases h3 : ru x = 0
   ·exact show_zero x w hx h3
   ·exact show_num x w hg hx (by omega) (by omega)
end Go.Proofs.YtckaoeloofbklaaGreatDoor
namespace Go.Proofs.YtckaoeloofbklaaGreatDoor
open Go Go.RowKit
theorem special_no (s : ByteArray) (w : World) (h0 : 0 < s.size) (hs : s.size ≤ 1000) (hb : s[0].toNat = 46 ∨ (48 ≤ s[0].toNat ∧ s[0].toNat ≤ 57)) :
  Calls Tryz.prog 247 #[.string s] w fun e w' => e = .returned (.tuple #[.float .f64 0, .int .i64 0, .bool false]) ∧ w' = w := by
 have hn1 : ((s.size : Int) == 0) = false := by rw [beq_eq_false_iff_ne]; omega
 have hn2 : (s.size == 0) = false := by rw [beq_eq_false_iff_ne]; omega
 have hn3 : ¬ s.size = 0 := by omega
 have t1 : (((s[0]'h0).toNat : Int) == 43) = false := by rw [beq_eq_false_iff_ne]; omega
 have t2 : (((s[0]'h0).toNat : Int) == 45) = false := by rw [beq_eq_false_iff_ne]; omega
 have t3 : (((s[0]'h0).toNat : Int) == 105) = false := by rw [beq_eq_false_iff_ne]; omega
 have t4 : (((s[0]'h0).toNat : Int) == 73) = false := by rw [beq_eq_false_iff_ne]; omega
 have t5 : (((s[0]'h0).toNat : Int) == 110) = false := by rw [beq_eq_false_iff_ne]; omega
 have t6 : (((s[0]'h0).toNat : Int) == 78) = false := by rw [beq_eq_false_iff_ne]; omega
 clear hb
 go_enter Tryz.func247, Tryz.ntmps247
 go_wp2_with fail
 refine bodyPost_ret (v := .tuple #[.float .f64 0, .int .i64 0, .bool false]) (by simp [results, Tryz.results247, go_sem]) rfl ⟨rfl, rfl⟩
theorem bits_or_zero : bits .or .u64 0 0 = 0 := by decide +kernel
def PlPost (X Q : Nat) (w : World) (e : Ending) (w' : World) : Prop := ∃ r ev, Near X Q r ∧ e = .returned (.tuple #[.float .f64 r, ev]) ∧ Below w.heap.size w w'
theorem pfloat_of (s : ByteArray) (X Q K : Nat) (w : World) (hT : GlobT K w) (hs : s.size ≤ 1000)
  (haf : Calls Tryz.prog 225 #[.string s] w fun e w' => ∃ r, Near X Q r ∧ e = .returned (.tuple #[.float .f64 r, .int .i64 s.size, errV r]) ∧ Below w.heap.size w w') :
  Calls Tryz.prog 122 #[.string s, .int .i64 64] w (PlPost X Q w) := by
 have HAF := Lib.hid haf
 have HT := Lib.hid hT
 clear haf hT
 have hpp : Calls Tryz.prog 198 #[.string s, .int .i64 64] w fun e w' => ∃ r, Near X Q r ∧ e = .returned (.tuple #[.float .f64 r, .int .i64 s.size, errV r]) ∧ Below w.heap.size w w' := by
  go_enter Tryz.func198, Tryz.ntmps198
  go_wp2_with fail
  refine HAF.out.mono ?_
  rintro e w2 ⟨r2, hn, rfl, hb⟩
  have HN := Lib.hid hn
  have HB := Lib.hid hb
  clear hn hb
  go_wp2_with fail
  refine bodyPost_ret (v := .tuple #[.float .f64 r2, .int .i64 s.size, errV r2]) (by simp [results, Tryz.results198, go_sem]) rfl ⟨r2, HN.out, rfl, HB.out⟩
 have HPP := Lib.hid hpp
 clear hpp
 have hpf : Calls Tryz.prog 164 #[.string s, .int .i64 64] w fun e w' => ∃ r, Near X Q r ∧ e = .returned (.tuple #[.float .f64 r, errV r]) ∧ Below w.heap.size w w' := by
  go_enter Tryz.func164, Tryz.ntmps164
  go_wp2_with fail
  refine HPP.out.mono ?_
  rintro e w2 ⟨r2, hn, rfl, hb⟩
  have HN := Lib.hid hn
  have HB := Lib.hid hb
  clear hn hb
  go_wp2_with fail
  refine bodyPost_ret (v := .tuple #[.float .f64 r2, errV r2]) (by simp [results, Tryz.results164, go_sem]) rfl ⟨r2, HN.out, rfl, HB.out⟩
 have HPF := Lib.hid hpf
 clear hpf
 go_enter Tryz.func122, Tryz.ntmps122
 go_wp2_with fail
 refine HPF.out.mono ?_
 rintro e w2 ⟨r2, hn, rfl, hb⟩
 have HN := Lib.hid hn
 have HB := Lib.hid hb
 clear hn
 by_cases hr : r2 = INF
 ·have he : errV r2 = .iface 174 (.int .i64 1) := if_pos hr
  obtain ⟨te, pe, hv⟩ := (HT.out.on hb).rng
  have HTE := Lib.hid (Tryz.strconv_toError_range ⟨#[80, 97, 114, 115, 101, 70, 108, 111, 97, 116]⟩ s 0 64 (.iface te pe) w2 (by omega) hv (.inr ⟨te, pe, rfl⟩))
  clear hr hv hb
  rw [he]
  clear he
  go_wp2_with fail
  refine HTE.out.mono ?_
  rintro e w3 ⟨N, rfl, hN, hcell, hb3⟩
  have HB3 := Lib.hid hb3
  clear hb3 hcell hN
  go_wp2_with fail
  refine bodyPost_ret (v := .tuple #[.float .f64 r2, .iface 177 (.pointer (some ⟨N, 0, Option.none⟩))]) (by simp [results, Tryz.results122, go_sem]) rfl ⟨r2, _, HN.out, rfl, HB.out.trans (HB3.out.mono HB.out.size)⟩
 ·have he : errV r2 = .nilIface := if_neg hr
  clear hr hb
  rw [he]
  clear he
  go_wp2_with fail
  refine bodyPost_ret (v := .tuple #[.float .f64 r2, .nilIface]) (by simp [results, Tryz.results122, go_sem]) rfl ⟨r2, _, HN.out, rfl, HB.out⟩
end Go.Proofs.YtckaoeloofbklaaGreatDoor
namespace Go.Proofs.YtckaoeloofbklaaGreatDoor
open Go Go.RowKit
def nextL : List Nat := [0, 0, 0, 0, 0, 0, 0, 0, 2, 3, 5, 0, 0, 0, 0, 0, 0, 12, 8, 0, 0, 0, 3, 3, 12, 8, 0, 4, 0, 3, 3, 0, 0, 0, 0, 0, 6, 6, 0, 0, 0, 0, 0, 6, 6, 0, 8, 0, 7, 0, 6, 6, 0, 0, 0, 0, 0, 10, 10, 0, 0, 9, 0, 0, 10, 10, 0, 0, 0, 0, 0, 10, 10, 0, 0, 0, 11, 0, 10, 10, 0, 0, 0, 0, 0, 6, 6, 0, 8, 0, 0]
def nextN (s c : Nat) : Nat := nextL.getD (s * 7 + c) 0
def nextV : Array Value := (nextL.map fun n => Value.int .i64 (n : Nat)).toArray
def zeroV : Array Value := #[.int .i64 0, .int .i64 0, .int .i64 0, .int .i64 0, .int .i64 0, .int .i64 0, .int .i64 0, .int .i64 0, .int .i64 0, .int .i64 0, .int .i64 0, .int .i64 0, .int .i64 0, .int .i64 0, .int .i64 0, .int .i64 0, .int .i64 0, .int .i64 0, .int .i64 0, .int .i64 0, .int .i64 0, .int .i64 0, .int .i64 0, .int .i64 0, .int .i64 0, .int .i64 0, .int .i64 0, .int .i64 0, .int .i64 0, .int .i64 0, .int .i64 0, .int .i64 0, .int .i64 0, .int .i64 0, .int .i64 0, .int .i64 0, .int .i64 0, .int .i64 0, .int .i64 0, .int .i64 0, .int .i64 0, .int .i64 0, .int .i64 0, .int .i64 0, .int .i64 0, .int .i64 0, .int .i64 0, .int .i64 0, .int .i64 0, .int .i64 0, .int .i64 0, .int .i64 0, .int .i64 0, .int .i64 0, .int .i64 0, .int .i64 0, .int .i64 0, .int .i64 0, .int .i64 0, .int .i64 0, .int .i64 0, .int .i64 0, .int .i64 0, .int .i64 0, .int .i64 0, .int .i64 0, .int .i64 0, .int .i64 0, .int .i64 0, .int .i64 0, .int .i64 0, .int .i64 0, .int .i64 0, .int .i64 0, .int .i64 0, .int .i64 0, .int .i64 0, .int .i64 0, .int .i64 0, .int .i64 0, .int .i64 0, .int .i64 0, .int .i64 0, .int .i64 0, .int .i64 0, .int .i64 0, .int .i64 0, .int .i64 0, .int .i64 0, .int .i64 0, .int .i64 0]
theorem next_build (W : World) : (Instr.build 208 #[(1, .agg #[.int .i64 0, .int .i64 2, .int .i64 3, .int .i64 5, .int .i64 0, .int .i64 0, .int .i64 0]), (2, .agg #[.int .i64 0, .int .i64 0, .int .i64 0, .int .i64 12, .int .i64 8, .int .i64 0, .int .i64 0]), (3, .agg #[.int .i64 0, .int .i64 3, .int .i64 3, .int .i64 12, .int .i64 8, .int .i64 0, .int .i64 4]), (4, .agg #[.int .i64 0, .int .i64 3, .int .i64 3, .int .i64 0, .int .i64 0, .int .i64 0, .int .i64 0]), (5, .agg #[.int .i64 0, .int .i64 6, .int .i64 6, .int .i64 0, .int .i64 0, .int .i64 0, .int .i64 0]), (6, .agg #[.int .i64 0, .int .i64 6, .int .i64 6, .int .i64 0, .int .i64 8, .int .i64 0, .int .i64 7]), (7, .agg #[.int .i64 0, .int .i64 6, .int .i64 6, .int .i64 0, .int .i64 0, .int .i64 0, .int .i64 0]), (8, .agg #[.int .i64 0, .int .i64 10, .int .i64 10, .int .i64 0, .int .i64 0, .int .i64 9, .int .i64 0]), (9, .agg #[.int .i64 0, .int .i64 10, .int .i64 10, .int .i64 0, .int .i64 0, .int .i64 0, .int .i64 0]), (10, .agg #[.int .i64 0, .int .i64 10, .int .i64 10, .int .i64 0, .int .i64 0, .int .i64 0, .int .i64 11]), (11, .agg #[.int .i64 0, .int .i64 10, .int .i64 10, .int .i64 0, .int .i64 0, .int .i64 0, .int .i64 0]), (12, .agg #[.int .i64 0, .int .i64 6, .int .i64 6, .int .i64 0, .int .i64 8, .int .i64 0, .int .i64 0])]).run Tryz.prog W = .ok (.agg nextV) W := by kernel_rfl
theorem next_size : nextV.size = 91 := by kernel_rfl
theorem next_cells (W : World) : (storeCells ⟨W.heap.size, 0, Option.none⟩ nextV.toList 0).run Tryz.prog (W.alloc (.cells zeroV 208)) = .ok () (W.alloc (.cells nextV 208)) :=
 run_storeCells_new W _ zeroV nextV (by kernel_rfl) (by rfl) (by kernel_rfl)
theorem addr_add (b o k : Nat) : Addr.add ⟨b, o, Option.none⟩ k = ⟨b, o + k, Option.none⟩ := by unfold Addr.add; split <;> simp_all
theorem at_row (W : World) (b o q : Nat) (h : q < 13) : (Instr.indexAt 208 (.pointer (some ⟨b, o, Option.none⟩)) (.int .i64 (q : Nat))).run Tryz.prog W = .ok (.pointer (some ⟨b, o + q * 7, Option.none⟩)) W := by
 have hl : Tryz.prog.arrayLen 208 = 13 := by kernel_rfl
 have hs : (sizeOf (Tryz.prog.elem 208)).run Tryz.prog W = .ok 7 W := by kernel_rfl
 rw [run_indexAt_array (h := by kernel_rfl), hl, if_pos (by omega), hs]
 show Result.ok (Value.pointer (some (Addr.add ⟨b, o, Option.none⟩ ((q : Int).toNat * 7)))) W = _
 rw [Int.toNat_natCast, addr_add]
theorem at_cell (W : World) (b o q : Nat) (h : q < 7) : (Instr.indexAt 207 (.pointer (some ⟨b, o, Option.none⟩)) (.int .i64 (q : Nat))).run Tryz.prog W = .ok (.pointer (some ⟨b, o + q, Option.none⟩)) W := by
 have hl : Tryz.prog.arrayLen 207 = 7 := by kernel_rfl
 have hs : (sizeOf (Tryz.prog.elem 207)).run Tryz.prog W = .ok 1 W := by kernel_rfl
 rw [run_indexAt_array (h := by kernel_rfl), hl, if_pos (by omega), hs]
 show Result.ok (Value.pointer (some (Addr.add ⟨b, o, Option.none⟩ ((q : Int).toNat * 1)))) W = _
 rw [Int.toNat_natCast, addr_add, Nat.mul_one]
theorem next_is (i : Nat) (h : i < 91) : nextV[i]? = some (.int .i64 ((nextL.getD i 0 : Nat) : Int)) := by
 have hl : i < nextL.length := h
 unfold nextV
 rw [List.getElem?_toArray, List.getElem?_map, List.getElem?_eq_getElem hl, List.getD_eq_getElem?_getD, List.getElem?_eq_getElem hl]
 rfl
theorem row_1 (W : World) : (Instr.build 207 #[(1, .int .i64 2), (2, .int .i64 3), (3, .int .i64 5)]).run Tryz.prog W = .ok (.agg #[.int .i64 0, .int .i64 2, .int .i64 3, .int .i64 5, .int .i64 0, .int .i64 0, .int .i64 0]) W := by kernel_rfl
theorem row_2 (W : World) : (Instr.build 207 #[(3, .int .i64 12), (4, .int .i64 8)]).run Tryz.prog W = .ok (.agg #[.int .i64 0, .int .i64 0, .int .i64 0, .int .i64 12, .int .i64 8, .int .i64 0, .int .i64 0]) W := by kernel_rfl
theorem row_3 (W : World) : (Instr.build 207 #[(1, .int .i64 3), (2, .int .i64 3), (3, .int .i64 12), (4, .int .i64 8), (6, .int .i64 4)]).run Tryz.prog W = .ok (.agg #[.int .i64 0, .int .i64 3, .int .i64 3, .int .i64 12, .int .i64 8, .int .i64 0, .int .i64 4]) W := by kernel_rfl
theorem row_4 (W : World) : (Instr.build 207 #[(1, .int .i64 3), (2, .int .i64 3)]).run Tryz.prog W = .ok (.agg #[.int .i64 0, .int .i64 3, .int .i64 3, .int .i64 0, .int .i64 0, .int .i64 0, .int .i64 0]) W := by kernel_rfl
theorem row_5 (W : World) : (Instr.build 207 #[(1, .int .i64 6), (2, .int .i64 6)]).run Tryz.prog W = .ok (.agg #[.int .i64 0, .int .i64 6, .int .i64 6, .int .i64 0, .int .i64 0, .int .i64 0, .int .i64 0]) W := by kernel_rfl
theorem row_6 (W : World) : (Instr.build 207 #[(1, .int .i64 6), (2, .int .i64 6), (4, .int .i64 8), (6, .int .i64 7)]).run Tryz.prog W = .ok (.agg #[.int .i64 0, .int .i64 6, .int .i64 6, .int .i64 0, .int .i64 8, .int .i64 0, .int .i64 7]) W := by kernel_rfl
theorem row_8 (W : World) : (Instr.build 207 #[(1, .int .i64 10), (2, .int .i64 10), (5, .int .i64 9)]).run Tryz.prog W = .ok (.agg #[.int .i64 0, .int .i64 10, .int .i64 10, .int .i64 0, .int .i64 0, .int .i64 9, .int .i64 0]) W := by kernel_rfl
theorem row_9 (W : World) : (Instr.build 207 #[(1, .int .i64 10), (2, .int .i64 10)]).run Tryz.prog W = .ok (.agg #[.int .i64 0, .int .i64 10, .int .i64 10, .int .i64 0, .int .i64 0, .int .i64 0, .int .i64 0]) W := by kernel_rfl
theorem row_10 (W : World) : (Instr.build 207 #[(1, .int .i64 10), (2, .int .i64 10), (6, .int .i64 11)]).run Tryz.prog W = .ok (.agg #[.int .i64 0, .int .i64 10, .int .i64 10, .int .i64 0, .int .i64 0, .int .i64 0, .int .i64 11]) W := by kernel_rfl
theorem row_12 (W : World) : (Instr.build 207 #[(1, .int .i64 6), (2, .int .i64 6), (4, .int .i64 8)]).run Tryz.prog W = .ok (.agg #[.int .i64 0, .int .i64 6, .int .i64 6, .int .i64 0, .int .i64 8, .int .i64 0, .int .i64 0]) W := by kernel_rfl
theorem cls_lt (c : Nat) : clsN c < 7 := by
 unfold clsN
 repeat (split; · omega)
 omega
def stN (l : List UInt8) : Nat := l.foldl (fun q c => nextN q (clsN c.toNat)) 1
def endB (q : Nat) : Bool := q == 2 || q == 3 || q == 6 || q == 10 || q == 12
def decB (l : List UInt8) : Bool := endB (stN l)
theorem next_lt : ∀ q c, nextN q c < 13 := by
 intro q c
 unfold nextN
 by_cases h : q * 7 + c < 91
 ·have key : ∀ i : Fin 91, nextL.getD i.val 0 < 13 := by decide +kernel
  exact key ⟨_, h⟩
 ·rw [List.getD_eq_getElem?_getD, List.getElem?_eq_none (by show nextL.length ≤ _; exact Nat.not_lt.1 h)]; decide
theorem next_zero (c : Nat) (h : c < 7) : nextN 0 c = 0 := by
 have key : ∀ i : Fin 7, nextN 0 i.val = 0 := by decide +kernel
 exact key ⟨c, h⟩
theorem fold_zero : ∀ l : List UInt8, l.foldl (fun q c => nextN q (clsN c.toNat)) 0 = 0
 | [] => rfl
 | x :: l => by rw [List.foldl_cons, next_zero _ (cls_lt _)]; exact fold_zero l
theorem st_step (s : ByteArray) (k : Nat) (h : k < s.size) : stN (s.data.toList.take (k + 1)) = nextN (stN (s.data.toList.take k)) (clsN (s[k].toNat)) := by
 have hl : k < s.data.toList.length := by simpa using h
 unfold stN
 rw [List.take_succ_eq_append_getElem hl, List.foldl_append]
 rfl
theorem st_stop (s : ByteArray) (k : Nat) (h : stN (s.data.toList.take k) = 0) : decB s.data.toList = false := by
 unfold decB
 have : stN s.data.toList = 0 := by
  conv => lhs; rw [← List.take_append_drop k s.data.toList]
  unfold stN at *
  rw [List.foldl_append, h]; exact fold_zero _
 rw [this]; rfl
attribute [-go_sem] Instr.build in
theorem decimal_any (s : ByteArray) (w : World) (hs : s.size ≤ 1000) :
  Calls Tryz.prog 161 #[.string s] w fun e w' => e = .returned (.bool (decB s.data.toList)) ∧ Below w.heap.size w w' := by
 have hb := next_build
 have hsz := next_size
 have hst := next_cells
 have hr1 := row_1
 have hr2 := row_2
 have hr3 := row_3
 have hr4 := row_4
 have hr5 := row_5
 have hr6 := row_6
 have hr8 := row_8
 have hr9 := row_9
 have hr10 := row_10
 have hr12 := row_12
 rw [show zeroV = Tryz.zeroCells208 from by kernel_rfl] at hst
 have hnx : ∀ i, i < 91 → nextV[i]? = some (.int .i64 ((nextL.getD i 0 : Nat) : Int)) := next_is
 generalize nextV = NV at *
 go_enter Tryz.func161, Tryz.ntmps161
 go_wp2_with fail
 go_loopw [4, 5, 21] (fun st _ i wr => ∃ k q : Nat, k ≤ s.size ∧ q < 13 ∧ q = stN (s.data.toList.take k) ∧ st = .int .i64 q ∧ i = .int .i64 k ∧ Below w.heap.size w wr ∧ wr.heap[w.heap.size]? = some (.cells NV 208 (0, 0))) (fun _ _ i _ => s.size - (intOf i).toNat)
 case atStart => exact ⟨0, 1, Nat.zero_le _, by decide, by simp [stN], rfl, rfl, (Below.refl _ _).alloc (Nat.le_refl _) _, heap_alloc_last w _⟩
 case round =>
  obtain ⟨k, q, hk, hq, hst2, rfl, rfl, hb, hcell⟩ := hrel
  have HST := Lib.hid hst2
  have HBW := Lib.hid hb
  clear hst2 hb
  by_cases hks : k < s.size
  ·have hc7 : clsN (s[k].toNat) < 7 := cls_lt _
   have hc := class_any (s[k].toNat)
   have h256 : s[k].toNat < 256 := s[k].toNat_lt
   have HCL := Lib.hid (fun (W : World) => hc W h256)
   generalize hcc : clsN (s[k].toNat) = c at *
   have hcl : wr.cell? ⟨w.heap.size, q * 7 + c, Option.none⟩ = some (.int .i64 (nextN q c : Nat)) := by
    rw [cell_of_row wr w.heap.size _ _ _ _ hcell]
    exact hnx _ (by omega)
   have HS1 := Lib.hid (st_step s k hks)
   rw [hcc, ← HST.out] at HS1
   have hz13 := next_lt q c
   have HCE := Lib.hid hcell
   generalize nextN q c = z at *
   clear hc h256 hcell
   have hro := fun W => at_row W w.heap.size 0 q hq
   rw [Nat.zero_add] at hro
   have hce := fun W => at_cell W w.heap.size (q * 7) c hc7
   by_cases hz : z = 0
   ·subst hz
    have HF : Hid (decB s.data.toList = false) := Lib.hid (st_stop s (k + 1) HS1.out)
    go_wp2_with fail
    go_quiet ((go_at_call 197; exact Calls.quiet_of_same (HCL.out _)))
    go_wp2
    go_ret
    exact ⟨ret_bool HF.out.symm, bDrewN HBW.out _⟩
   ·have hz2 : ((z : Int) == 0) = false := by rw [beq_eq_false_iff_ne]; omega
    have hz3 : ((z : Int) = 0) = False := by simp; omega
    go_wp2_with fail
    go_quiet ((go_at_call 197; exact Calls.quiet_of_same (HCL.out _)))
    go_wp2
    go_roundw
    case rel => exact ⟨k + 1, z, by omega, hz13, HS1.out.symm, rfl, by go_num, bDrewN HBW.out _, HCE.out⟩
    case measure => simp [RowKit.intOf] <;> omega
  ·have hke : k = s.size := by omega
   have HE : Hid (decB s.data.toList = endB q) := Lib.hid (by
    unfold decB
    rw [HST.out, hke, List.take_of_length_le (by simp)])
   clear hke HST
   have h13 : q = 0 ∨ q = 1 ∨ q = 2 ∨ q = 3 ∨ q = 4 ∨ q = 5 ∨ q = 6 ∨ q = 7 ∨ q = 8 ∨ q = 9 ∨ q = 10 ∨ q = 11 ∨ q = 12 := by omega
   rcases h13 with rfl | rfl | rfl | rfl | rfl | rfl | rfl | rfl | rfl | rfl | rfl | rfl | rfl
   all_goals
    go_wp2_with fail
    go_ret
    exact ⟨ret_bool HE.out.symm, HBW.out⟩
end Go.Proofs.YtckaoeloofbklaaGreatDoor
