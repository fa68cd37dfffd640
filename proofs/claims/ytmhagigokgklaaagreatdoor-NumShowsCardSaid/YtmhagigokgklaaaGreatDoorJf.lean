/- Joined texts: Vi Vj Vk Vm Vn Vo Vp Vq. Each begins with its own remark. -/
import Derived.Test.YtmhagigokgklaaaGreatDoorJe
import Derived.Test.YtmhagigokgklaaaGreatDoorJc
import Derived.Deep.RegionHeld
import Derived.Outline
import Derived.Laws.BytesArg
import Derived.Test.YtmhagigokgklaaaGreatDoorShelf
import Derived.Lib.AppendIntMem
import Derived.Lib.IndexBytes
import Derived.Lib.Replace
import Derived.Test.YtmhagigokgklaaaGreatDoorJb
import Derived.Laws.BitsAllLaws

/- shortFloat at every number. -/
namespace Go.Proofs.YtmhagigokgklaaaGreatDoor
open Go Go.RowKit

theorem zN_ge (e : Int) (h : -1137 ≤ e) : 11 ≤ zN e ∧ zN e ≤ 63 := by unfold zN; split <;> omega

theorem top_room (m z : Nat) (hz1 : 11 ≤ z) (hz2 : z ≤ 63) (hm : m < 18446744073709551616) (h0 : m % 2 ^ z = 0) : m + 2 ^ (z - 1) < 18446744073709551616 ∧ 2 ^ (z - 1) ≤ 4611686018427387904 ∧ 1024 ≤ 2 ^ (z - 1) := by
  have e1 : 2 ^ z = 2 * 2 ^ (z - 1) := by rw [← Nat.pow_succ', show (z - 1).succ = z from by omega]
  have e2 : 18446744073709551616 = 2 ^ z * 2 ^ (64 - z) := by rw [← Nat.pow_add, show z + (64 - z) = 64 from by omega]
  have h1 := Nat.div_add_mod m (2 ^ z)
  rw [h0, Nat.add_zero] at h1
  have h2 : m / 2 ^ z < 2 ^ (64 - z) := by rw [Nat.div_lt_iff_lt_mul (Nat.two_pow_pos z), Nat.mul_comm, ← e2]; exact hm
  have h3 : 2 ^ z * (m / 2 ^ z + 1) ≤ 18446744073709551616 := by rw [e2]; exact Nat.mul_le_mul_left _ h2
  have h4 : 2 ^ (z - 1) ≤ 2 ^ 62 := Nat.pow_le_pow_right (by decide) (by omega)
  have h5 : 2 ^ 10 ≤ 2 ^ (z - 1) := Nat.pow_le_pow_right (by decide) (by omega)
  rw [Nat.mul_add, h1, Nat.mul_one, e1] at h3
  generalize 2 ^ (z - 1) = P at *
  exact ⟨by omega, h4, h5⟩

set_option maxHeartbeats 1000000 in
theorem short_any (m : Nat) (e : Int) (w : World) (hg : Glob w) (hm1 : 9223372036854775808 ≤ m) (hm2 : m < 18446744073709551616) (h0 : m % 2 ^ zN e = 0) (he1 : -1137 ≤ e) (he2 : e ≤ 1000) :
    Calls Tryz.prog 133 #[.int .u64 m, .int .i64 e] w fun e' w' =>
      e' = .returned (.tuple #[.int .u64 ((shortN m e).1 : Nat), .int .i64 (shortN m e).2]) ∧ Below w.heap.size w w' := by
  obtain ⟨hz1, hz2⟩ := zN_ge e he1
  obtain ⟨ht1, ht2, ht3⟩ := top_room m (zN e) hz1 hz2 hm2 h0
  obtain ⟨ok0, ok1⟩ := exp_ok e he1 he2
  by_cases hsk : m = 9223372036854775808 ∧ -1085 < e
  · -- a power of two
    obtain ⟨rfl, hgt⟩ := hsk
    have ok := ok1 hgt
    simp only [expOK, Bool.and_eq_true, decide_eq_true_eq] at ok
    have hsk : skewB 9223372036854775808 e = true := by simp [skewB, hgt]
    have hz : zN e = 11 := by unfold zN; rw [if_pos (by omega)]
    unfold shortN
    rw [hsk, hz]
    simp only [if_true]
    generalize hp : ppN true e = p at *
    obtain ⟨i, hi⟩ : ∃ i : Nat, p = (i : Int) - 348 := ⟨(p + 348).toNat, by omega⟩
    obtain ⟨b1, b1'⟩ := us_bounds p e (9223372036854775808 - 512) (by omega) (by omega) ok.1.2 ok.2 (by omega)
    obtain ⟨b2, b2'⟩ := us_bounds p e (9223372036854775808 + 2 ^ (11 - 1)) (by omega) (by omega) ok.1.2 ok.2 (by omega)
    obtain ⟨b3, _⟩ := us_bounds p e 9223372036854775808 (by omega) (by omega) ok.1.2 ok.2 (by omega)
    have hb4 := b2' (by omega)
    subst hi
    have hpi : ((i : Int) - 348 + 348).toNat = i := by omega
    have hss : -(e + lpN ((i : Int) - 348) + 3) = ((ssN ((i : Int) - 348) e).toNat : Int) := by have := ok.1.2; unfold ssN at *; omega
    have := short_A (9223372036854775808 - 512) (9223372036854775808 + 2 ^ (11 - 1)) i (ssN ((i : Int) - 348) e).toNat (od := 0) w hg e hgt he2 (by rfl) (by rfl) (by unfold ppN at hp; simpa using hp) rfl hss (by omega) (by omega) (by omega) (by omega) (by have := ok.2; omega)
      (U1 := usN ((i : Int) - 348) e (9223372036854775808 - 512)) (U2 := usN ((i : Int) - 348) e (9223372036854775808 + 2 ^ (11 - 1))) (U3 := usN ((i : Int) - 348) e 9223372036854775808)
      (by unfold usN; rw [hpi]) (by unfold usN; rw [hpi]) (by unfold usN; rw [hpi]) (by omega) (by omega) (by omega) (by omega)
    exact this
  · have ok := ok0
    simp only [expOK, Bool.and_eq_true, decide_eq_true_eq] at ok
    have hsk' : skewB m e = false := by
      unfold skewB
      rw [Bool.and_eq_false_iff]
      by_cases h : m = 9223372036854775808
      · right; rw [decide_eq_false_iff_not]; exact fun h2 => hsk ⟨h, h2⟩
      · left; rw [decide_eq_false_iff_not]; exact h
    unfold shortN
    rw [hsk']
    simp only [if_false, Bool.false_eq_true]
    have hodl : m / 2 ^ zN e % 2 ≤ 1 := by omega
    generalize hod : m / 2 ^ zN e % 2 = od at *
    generalize hp : ppN false e = p at *
    obtain ⟨i, hi⟩ : ∃ i : Nat, p = (i : Int) - 348 := ⟨(p + 348).toNat, by omega⟩
    obtain ⟨b1, b1'⟩ := us_bounds p e (m - 2 ^ (zN e - 1)) (by omega) (by omega) ok.1.2 ok.2 (by omega)
    obtain ⟨b2, b2'⟩ := us_bounds p e (m + 2 ^ (zN e - 1)) (by omega) (by omega) ok.1.2 ok.2 (by omega)
    obtain ⟨b3, _⟩ := us_bounds p e m (by omega) (by omega) ok.1.2 ok.2 (by omega)
    have hb4 := b2' (by omega)
    subst hi
    have hpi : ((i : Int) - 348 + 348).toNat = i := by omega
    have hss : -(e + lpN ((i : Int) - 348) + 3) = ((ssN ((i : Int) - 348) e).toNat : Int) := by have := ok.1.2; unfold ssN at *; omega
    have hp' : -l10N (e + zN e) = (i : Int) - 348 := by unfold ppN at hp; simpa using hp
    have u1 : uscN (m - 2 ^ (zN e - 1)) (hiN i) (loN i) (2 ^ (ssN ((i : Int) - 348) e).toNat) = usN ((i : Int) - 348) e (m - 2 ^ (zN e - 1)) := by unfold usN; rw [hpi]
    have u2 : uscN (m + 2 ^ (zN e - 1)) (hiN i) (loN i) (2 ^ (ssN ((i : Int) - 348) e).toNat) = usN ((i : Int) - 348) e (m + 2 ^ (zN e - 1)) := by unfold usN; rw [hpi]
    have u3 : uscN m (hiN i) (loN i) (2 ^ (ssN ((i : Int) - 348) e).toNat) = usN ((i : Int) - 348) e m := by unfold usN; rw [hpi]
    by_cases hge : -1085 ≤ e
    · have hz : zN e = 11 := by unfold zN; rw [if_pos hge]
      rw [hz] at hod hp' ht1 u1 u2 b1 b2 b2' hb4 ⊢
      by_cases hm : m = 9223372036854775808
      · subst hm
        have hee : e = -1085 := by
          rcases Int.lt_or_le (-1085) e with h | h
          · exact absurd ⟨rfl, h⟩ hsk
          · omega
        exact short_B1 (9223372036854775808 - 2 ^ (11 - 1)) (9223372036854775808 + 2 ^ (11 - 1)) i (ssN ((i : Int) - 348) e).toNat _ _ _ od w hg e hee (by rfl) (by rfl) hp' (by rw [← hod]) hss (by omega) (by omega) (by omega) hodl (by have := ok.2; omega) u1 u2 u3 (by omega) (by omega) (by omega) (by omega)
      · exact short_B m (m - 2 ^ (11 - 1)) (m + 2 ^ (11 - 1)) i (ssN ((i : Int) - 348) e).toNat _ _ _ od w hg e (by omega) hm2 hge he2 (by omega) (by omega) hp' (by rw [← hod]) hss (by omega) (by omega) (by omega) hodl (by have := ok.2; omega) u1 u2 u3 (by omega) (by omega) (by omega) (by omega)
    · have hz : e + (zN e : Int) = -1074 := by unfold zN; rw [if_neg hge]; omega
      have hz12 : 12 ≤ zN e := by unfold zN; rw [if_neg hge]; omega
      rw [hz] at hp'
      have hn : (m : Int) - 2 ^ (zN e - 1) = ((m - 2 ^ (zN e - 1) : Nat) : Int) := by
        rw [Int.ofNat_sub (by omega)]; push_cast; rfl
      have hx : (m : Int) + 2 ^ (zN e - 1) = ((m + 2 ^ (zN e - 1) : Nat) : Int) := by push_cast; rfl
      have hmn : m - 2 ^ (zN e - 1) < 18446744073709551616 := by omega
      cases hmq : ((m : Int) == 9223372036854775808)
      · exact short_Cfalse m (zN e) _ _ i (ssN ((i : Int) - 348) e).toNat _ _ _ od w hg e hm2 hm1 hmq hz12 hz2 hz hn hx hp' hod hss hmn ht1 (by omega) hodl (by have := ok.2; omega) u1 u2 u3 (by omega) (by omega) (by omega) (by omega)
      · exact short_Ctrue m (zN e) _ _ i (ssN ((i : Int) - 348) e).toNat _ _ _ od w hg e hm2 hm1 hmq hz12 hz2 hz hn hx hp' hod hss hmn ht1 (by omega) hodl (by have := ok.2; omega) u1 u2 u3 (by omega) (by omega) (by omega) (by omega)
end Go.Proofs.YtmhagigokgklaaaGreatDoor

/- The digits that shortFloat gives: how many, how great; none of them is lost. -/
namespace Go.Proofs.YtmhagigokgklaaaGreatDoor
open Go Go.RowKit Go.Sort Go.Lib

theorem pick3_bounds (dmin dmax u : Nat) (p : Int) (h1 : 1 ≤ dmin) (h3 : 1 ≤ u) (b1 : dmin ≤ 1000000000000000000) (b2 : dmax ≤ 1000000000000000000) (b3 : u ≤ 1000000000000000000) :
    1 ≤ (pick3 dmin dmax u p).1 ∧ (pick3 dmin dmax u p).1 ≤ 1000000000000000000 ∧ -p ≤ (pick3 dmin dmax u p).2 ∧ (pick3 dmin dmax u p).2 ≤ -p + 1 := by
  unfold pick3
  split
  · exact ⟨by show 1 ≤ dmax / 10; omega, by show dmax / 10 ≤ _; omega, by show -p ≤ -(p - 1); omega, by show -(p - 1) ≤ -p + 1; omega⟩
  · split
    · exact ⟨h3, b3, by show -p ≤ -p; omega, by show -p ≤ -p + 1; omega⟩
    · exact ⟨h1, b1, by show -p ≤ -p; omega, by show -p ≤ -p + 1; omega⟩

theorem short_bounds (m : Nat) (e : Int) (hm1 : 9223372036854775808 ≤ m) (hm2 : m < 18446744073709551616) (h0 : m % 2 ^ zN e = 0) (he1 : -1137 ≤ e) (he2 : e ≤ 1000) :
    1 ≤ (shortN m e).1 ∧ (shortN m e).1 ≤ 1000000000000000000 ∧ -346 ≤ (shortN m e).2 ∧ (shortN m e).2 ≤ 348 := by
  obtain ⟨hz1, hz2⟩ := zN_ge e he1
  obtain ⟨ht1, ht2, ht3⟩ := top_room m (zN e) hz1 hz2 hm2 h0
  obtain ⟨ok0, ok1⟩ := exp_ok e he1 he2
  have ok : expOK (skewB m e) e = true := by
    cases h : skewB m e
    · exact ok0
    · unfold skewB at h
      simp only [Bool.and_eq_true, decide_eq_true_eq] at h
      exact ok1 h.2
  simp only [expOK, Bool.and_eq_true, decide_eq_true_eq] at ok
  unfold shortN
  simp only
  generalize hp : ppN (skewB m e) e = p at *
  have hod : (if skewB m e = true then 0 else m / 2 ^ zN e % 2) ≤ 1 := by split <;> omega
  generalize (if skewB m e = true then 0 else m / 2 ^ zN e % 2) = od at *
  have hmn : (if skewB m e = true then m - 512 else m - 2 ^ (zN e - 1)) < 18446744073709551616 := by split <;> omega
  obtain ⟨b2, b2'⟩ := us_bounds p e (m + 2 ^ (zN e - 1)) (by omega) (by omega) ok.1.2 ok.2 (by omega)
  obtain ⟨b3, b3'⟩ := us_bounds p e m (by omega) (by omega) ok.1.2 ok.2 (by omega)
  have hb4 := b2' (by omega)
  have hb5 := b3' (by omega)
  obtain ⟨b1, _⟩ := us_bounds p e _ (by omega) (by omega) ok.1.2 ok.2 hmn
  -- the least one is not nought
  have hb6 : 1 ≤ usN p e (if skewB m e = true then m - 512 else m - 2 ^ (zN e - 1)) := by
    have hge : 4611686018427387904 ≤ (if skewB m e = true then m - 512 else m - 2 ^ (zN e - 1)) := by split <;> omega
    exact us_pos p e _ (by omega) (by omega) ok.1.2 ok.2 hmn hge
  have := pick3_bounds ((usN p e (if skewB m e = true then m - 512 else m - 2 ^ (zN e - 1)) + od + 3) / 4) ((usN p e (m + 2 ^ (zN e - 1)) - od) / 4) ((usN p e m + 1 + usN p e m / 4 % 2) / 4) p (by omega) (by omega) (by omega) (by omega) (by omega)
  exact ⟨this.1, this.2.1, by omega, by omega⟩

/-- a number's first digit is not nought -/
theorem dec_head (u : Nat) (h : 1 ≤ u) : ∃ x l, decDigits u = x :: l ∧ x ≠ 48 := by
  induction u using Nat.strongRecOn with
  | _ u ih =>
    by_cases h1 : u < 10
    · refine ⟨UInt8.ofNat (48 + u), [], decDigits_one h1, fun h2 => ?_⟩
      have := congrArg UInt8.toNat h2
      rw [UInt8.toNat_ofNat', Nat.mod_eq_of_lt (by omega)] at this
      have h3 : (48 : UInt8).toNat = 48 := rfl
      omega
    · obtain ⟨x, l, h2, h3⟩ := ih (u / 10) (by omega) (by omega)
      refine ⟨x, l ++ [UInt8.ofNat (48 + u % 10)], ?_, h3⟩
      rw [decDigits, dif_neg h1, h2]; rfl

theorem trimZ_cons (x : UInt8) (l : List UInt8) (h : x ≠ 48) : ∃ l', trimZ (x :: l) = x :: l' := by
  unfold trimZ
  rw [List.reverse_cons, List.dropWhile_append]
  split
  · rw [List.dropWhile_cons, if_neg (by simpa using h)]
    exact ⟨[], rfl⟩
  · exact ⟨((l.reverse).dropWhile (· == 48)).reverse, by simp⟩

theorem sig_head (u : Nat) (h : 1 ≤ u) : ∃ x l, sig u = x :: l := by
  obtain ⟨x, l, h1, h2⟩ := dec_head u h
  obtain ⟨l', h3⟩ := trimZ_cons x l h2
  exact ⟨x, l', by unfold sig; rw [h1, h3]⟩

theorem sig_take (u : Nat) : ∃ k, k ≤ (decDigits u).length ∧ sig u = (decDigits u).take k := by
  have h : sig u <+: decDigits u := by
    unfold sig trimZ
    have := List.dropWhile_suffix (fun b : UInt8 => b == 48) (l := (decDigits u).reverse)
    rw [← List.reverse_prefix] at this
    rwa [List.reverse_reverse] at this
  exact ⟨(sig u).length, h.length_le, (List.prefix_iff_eq_take.1 h)⟩

theorem nDigits_le (u : Nat) (h : 1 ≤ u) (h2 : u < 18446744073709551616) : nDigits u ≤ 20 := by
  obtain ⟨h3, h4⟩ := numDigits_eq u h h2
  rw [← h3]
  split <;> omega
end Go.Proofs.YtmhagigokgklaaaGreatDoor

/- A number's shortest digits as a text: ftoa64 (printed by gen_ftoa15.py). -/
namespace Go.Proofs.YtmhagigokgklaaaGreatDoor
open Go Go.RowKit Go.Sort Go.Lib

def z32 : Array Value := #[.int .u8 0, .int .u8 0, .int .u8 0, .int .u8 0, .int .u8 0, .int .u8 0, .int .u8 0, .int .u8 0, .int .u8 0, .int .u8 0, .int .u8 0, .int .u8 0, .int .u8 0, .int .u8 0, .int .u8 0, .int .u8 0, .int .u8 0, .int .u8 0, .int .u8 0, .int .u8 0, .int .u8 0, .int .u8 0, .int .u8 0, .int .u8 0, .int .u8 0, .int .u8 0, .int .u8 0, .int .u8 0, .int .u8 0, .int .u8 0, .int .u8 0, .int .u8 0]
theorem z32_at (i : Nat) (h : i < 32) : z32[i]? = some (.int .u8 0) := by
  have e : z32 = Array.replicate 32 (.int .u8 0) := rfl
  rw [e, Array.getElem?_replicate, if_pos h]

/-- the text of digits d times ten to the power p -/
def dpB (d : Nat) (p : Int) : List UInt8 :=
  match sig d with
  | [] => []
  | x0 :: xs => x0 :: ((if 0 < xs.length then 46 :: xs else []) ++ 101 :: expB ((nDigits d : Nat) + p - 1))

theorem bits_and_2047 (b xf : Nat) (_hb : b < 9223372036854775808) (h : b / 4503599627370496 = xf) (h2 : xf ≤ 2047) : bits BinOp.and IntKind.i64 ((b : Int) / 4503599627370496) 2047 = (xf : Int) := by
  have h3 : (b : Int) / 4503599627370496 = (xf : Int) := by omega
  rw [h3]
  have := bits_mask .i64 63 (by decide) (fun n h0 h1 => by rw [IntKind.wrap_i64]; omega) 11 (by decide) (xf : Int) (by omega) (by omega)
  have h4 : ((2 : Int) ^ 11 - 1) = 2047 := by decide
  rw [h4] at this
  rw [this]
  have h5 : ((2 : Int) ^ 11) = 2048 := by decide
  rw [h5]; omega
theorem bits_and_frac (b : Nat) (hb : b < 9223372036854775808) : bits BinOp.and IntKind.u64 (b : Int) 4503599627370495 = ((b % 4503599627370496 : Nat) : Int) := by
  have := bits_and_u64_nat b 4503599627370495 (by omega) (by omega)
  rw [show (4503599627370495 : Nat) = 2 ^ 52 - 1 from rfl, Nat.and_two_pow_sub_one_eq_mod] at this
  exact this
theorem bits_or_top (m : Nat) (hm : m < 4503599627370496) : bits BinOp.or IntKind.u64 (m : Int) 4503599627370496 = ((m + 4503599627370496 : Nat) : Int) := by
  have := bits_or_u64_nat m 4503599627370496 (by omega) (by omega)
  have h2 : m ||| 4503599627370496 = m + 4503599627370496 := by
    have := Nat.two_pow_add_eq_or_of_lt (i := 52) hm 1
    rw [Nat.or_comm, Nat.add_comm]
    simpa using this.symm
  rw [h2] at this
  exact this

theorem below_putRow (w : World) (B blk off : Nat) (d : Array UInt8) : B ≤ blk → Below B w (putRow encB w blk off d) := fun hB =>
  ⟨rfl, rfl, rfl, by simp, fun k hk => by
    unfold putRow mapBlock
    simp only [Array.getElem?_modify]
    rw [if_neg (by omega)]⟩

set_option maxRecDepth 100000 in
set_option maxHeartbeats 1000000 in
theorem ftoa_nor (base : Nat) (b xf mt mant s M : Nat) (E : Int) (v : Value) (w : World) (hg : Glob w) (hrow : Row base (fun _ => False) w w v []) (hbl : b < 9223372036854775808)
    (hxf : b / 4503599627370496 = xf) (hmt : b % 4503599627370496 = mt) (hx1 : 1 ≤ xf) (hx2 : xf ≤ 2046) (hma : mt + 4503599627370496 = mant) (hsl : Lib.bitLen mant ≤ 64) (hs : 64 - Lib.bitLen mant = s) (hM : mant * 2 ^ s = M)
    (hM1 : 9223372036854775808 ≤ M) (hM2 : M < 18446744073709551616) (hE : (xf : Int) + -1023 - (s : Int) - 52 = E) (hE1 : -1137 ≤ E) (hE2 : E ≤ 1000) (h0 : M % 2 ^ zN E = 0) :
    Calls Tryz.prog 99 #[v, .float .f64 b, .int .u8 101, .int .i64 (-1)] w (EPost base (fun _ => False) w (dpB (shortN M E).1 (shortN M E).2)) := by
  skip
  have hneg : ((b : Int) / 9223372036854775808 != 0) = false := by simp; omega
  have hand := bits_and_2047 b xf hbl hxf (by omega)
  have hand2 := bits_and_frac b hbl
  rw [hmt] at hand2
  have hor := bits_or_top mt (by omega)
  rw [hma] at hor
  have he1 : ((xf : Int) == 2047) = false := by simp; omega
  have he2 : ((xf : Int) == 0) = false := by simp; omega
  have he3 : ((mant : Int) == 0) = false := by simp; omega
  have he4 : (mant == 0) = false := by simp; omega
  have he5 : ¬ mant = 0 := by omega
  have hb0 : Lib.bitLen (mant : Int).toNat = Lib.bitLen mant := by simp
  have hs' : (64 : Int) - (Lib.bitLen mant : Int) = (s : Int) := by omega
  have hsh : IntKind.u64.wrap ((mant : Int) * 2 ^ s) = (M : Int) := by
    rw [show ((mant : Int) * 2 ^ s) = ((mant * 2 ^ s : Nat) : Int) from by push_cast; rfl, hM, IntKind.wrap_u64]; omega
  have HLEN := Lib.hid (fun (W : World) => Tryz.bits_Len64 (mant : Int) W (by omega) (by omega))
  have hfb := run_sbits b
  obtain ⟨hd1, hd2, hp1, hp2⟩ := short_bounds M E hM1 hM2 h0 hE1 hE2
  have HSH := Lib.hid (fun (W : World) (h : Glob W) => short_any M E W h hM1 hM2 h0 hE1 hE2)
  generalize shortN M E = dp at *
  obtain ⟨d, p⟩ := dp
  simp only at hd1 hd2 hp1 hp2 HSH ⊢
  obtain ⟨x0, xs, hsig⟩ := sig_head d hd1
  have hnd := nDigits_le d hd1 (by omega)
  have hnd1 := nDigits_pos d
  obtain ⟨kk, hkk, htk⟩ := sig_take d
  have hld := decDigits_length d
  have hxl : xs.length ≤ 19 := by
    have := congrArg List.length htk
    rw [hsig, List.length_cons, List.length_take] at this
    omega
  have HDP : Hid (dpB d p = x0 :: ((if 0 < xs.length then 46 :: xs else []) ++ 101 :: expB ((nDigits d : Nat) + p - 1))) := Lib.hid (by unfold dpB; rw [hsig])
  have HSIG := Lib.hid hsig
  obtain ⟨X, hX'⟩ : ∃ X : Int, X = ((nDigits d : Nat) : Int) + p - 1 := ⟨_, rfl⟩
  have hX : ((nDigits d : Nat) : Int) + p = X + 1 := by omega
  rw [← hX'] at HDP
  have hX1 : -399 < X ∧ X < 399 := by omega
  clear hX'
  have HTK := Lib.hid htk
  have HLD := Lib.hid hld
  have HROW := Lib.hid hrow
  have HG := Lib.hid hg
  generalize dpB d p = RES at *
  clear hxf hmt hma hM hs hrow hg hsig htk hld hkk h0
  go_enter Tryz.func99, Tryz.ntmps99
  go_wp2_with fail
  go_quiet (fail)
  go_wp2_with fail
  skip
  refine (HLEN.out _).mono ?_
  rintro e w1 ⟨rfl, rfl⟩
  rw [hb0]
  go_wp2_with fail
  have hbw : Below w.heap.size w ((w.drewN nq).alloc (.cells #[.int .u8 0, .int .u8 0, .int .u8 0, .int .u8 0, .int .u8 0, .int .u8 0, .int .u8 0, .int .u8 0, .int .u8 0, .int .u8 0, .int .u8 0, .int .u8 0, .int .u8 0, .int .u8 0, .int .u8 0, .int .u8 0, .int .u8 0, .int .u8 0, .int .u8 0, .int .u8 0, .int .u8 0, .int .u8 0, .int .u8 0, .int .u8 0, .int .u8 0, .int .u8 0, .int .u8 0, .int .u8 0, .int .u8 0, .int .u8 0, .int .u8 0, .int .u8 0] 144)) := (bDrewN (Below.refl _ _) nq).alloc (Nat.le_refl _) _
  have hbuf : ((w.drewN nq).alloc (.cells #[.int .u8 0, .int .u8 0, .int .u8 0, .int .u8 0, .int .u8 0, .int .u8 0, .int .u8 0, .int .u8 0, .int .u8 0, .int .u8 0, .int .u8 0, .int .u8 0, .int .u8 0, .int .u8 0, .int .u8 0, .int .u8 0, .int .u8 0, .int .u8 0, .int .u8 0, .int .u8 0, .int .u8 0, .int .u8 0, .int .u8 0, .int .u8 0, .int .u8 0, .int .u8 0, .int .u8 0, .int .u8 0, .int .u8 0, .int .u8 0, .int .u8 0, .int .u8 0] 144)).heap[w.heap.size]? = some (.cells z32 144 (0, 0)) := heap_alloc_new (w.drewN nq) _
  have hsz : ((w.drewN nq).alloc (.cells #[.int .u8 0, .int .u8 0, .int .u8 0, .int .u8 0, .int .u8 0, .int .u8 0, .int .u8 0, .int .u8 0, .int .u8 0, .int .u8 0, .int .u8 0, .int .u8 0, .int .u8 0, .int .u8 0, .int .u8 0, .int .u8 0, .int .u8 0, .int .u8 0, .int .u8 0, .int .u8 0, .int .u8 0, .int .u8 0, .int .u8 0, .int .u8 0, .int .u8 0, .int .u8 0, .int .u8 0, .int .u8 0, .int .u8 0, .int .u8 0, .int .u8 0, .int .u8 0] 144)).heap.size = w.heap.size + 1 := by simp
  generalize (w.drewN nq).alloc (.cells #[.int .u8 0, .int .u8 0, .int .u8 0, .int .u8 0, .int .u8 0, .int .u8 0, .int .u8 0, .int .u8 0, .int .u8 0, .int .u8 0, .int .u8 0, .int .u8 0, .int .u8 0, .int .u8 0, .int .u8 0, .int .u8 0, .int .u8 0, .int .u8 0, .int .u8 0, .int .u8 0, .int .u8 0, .int .u8 0, .int .u8 0, .int .u8 0, .int .u8 0, .int .u8 0, .int .u8 0, .int .u8 0, .int .u8 0, .int .u8 0, .int .u8 0, .int .u8 0] 144) = W1 at *
  refine (HSH.out W1 (HG.out.below HG.out.lt hbw)).mono ?_
  rintro e w2 ⟨rfl, hb2⟩
  have hbw2 := hbw.trans (hb2.mono (by omega))
  have hbuf2 := (hb2.block w.heap.size (by omega)).trans hbuf
  have hsz2 := hb2.size
  have HB2 := Lib.hid hbuf2
  have HBW2 := Lib.hid hbw2
  clear hbw hbuf hb2 hbuf2 hbw2
  go_wp2_with fail
  have hH : Holds encB w2.drew w.heap.size 0 (Array.replicate (nDigits d) (0 : UInt8)) := fun j hj => by
    rw [Array.size_replicate] at hj
    rw [Nat.zero_add]
    have hq : w2.drew.heap[w.heap.size]? = some (.cells z32 144 (0, 0)) := HB2.out
    refine ⟨?_, by simp [World.frozen?, hq]⟩
    rw [cell_of_row w2.drew w.heap.size j _ _ _ hq, z32_at j (by omega), getElem!_pos _ j (by simpa using hj)]
    simp [encB]
  have hst := setDigits_any w.heap.size d 32 p w2.drew (by show _ < w2.heap.size; omega) hd1 (by omega) (by omega) (by omega) hnd (by omega) (by omega) hH
  rw [hX, HSIG.out, List.length_cons, show ((xs.length + 1 : Nat) : Int) = (xs.length : Int) + 1 from by push_cast; rfl] at hst
  have HST := Lib.hid hst
  clear hst
  clear hH
  have HND := Lib.hid (Tryz.internal_strconv_numDigits d hd1 (by omega) w2.drew (HG.out.below HG.out.lt HBW2.out.drew).u10)
  go_region_held (fun _ => True)
    (first | trivial)
    (first
      | (go_at_call 108; refine HND.out.mono ?_; rintro e w' ⟨rfl, rfl⟩)
      | (go_at_call 127; refine HST.out.mono ?_; rintro e w4 ⟨rfl, n4, v4, dk, hw4', hfm'⟩; have HW4 := Lib.hid hw4'; have HFM := Lib.hid hfm'; clear hw4' hfm'))
  have hmx : max (xs.length : Int) 0 = (xs.length : Int) := by omega
  have hmx2 : max ((xs.length : Int) + 1 - 1) 0 = (xs.length : Int) := by omega
  go_wp2_with fail
  have hw4 := HW4.out
  have hfm := HFM.out
  have hbw4 : Below w.heap.size w w4 := by
    rw [hw4]
    refine bDrewN ?_ n4
    exact HBW2.out.drew.trans (below_putRow _ _ _ _ _ (Nat.le_refl _))
  have hcell4 : ∀ j u, (x0 :: xs)[j]? = some u → w4.cell? ⟨w.heap.size, j, Option.none⟩ = some (encB u) := fun j u hu => by
    have hj : j < (x0 :: xs).length := (List.getElem?_eq_some_iff.1 hu).1
    rw [← HSIG.out, HTK.out] at hu
    rw [List.getElem?_take] at hu
    split at hu
    · have hj2 : j < (decDigits d).length := (List.getElem?_eq_some_iff.1 hu).1
      have hj3 : j < nDigits d := by have := HLD.out; omega
      have e1 := row_is_numeral hfm j hj2
      rw [List.getElem?_eq_getElem hj2, e1] at hu
      obtain rfl := Option.some.inj hu
      have hH0 : Holds encB w2.drew w.heap.size 0 (Array.replicate (nDigits d) (0 : UInt8)) := fun j hj => by
        rw [Array.size_replicate] at hj
        rw [Nat.zero_add]
        have hq : w2.drew.heap[w.heap.size]? = some (.cells z32 144 (0, 0)) := HB2.out
        refine ⟨?_, by simp [World.frozen?, hq]⟩
        rw [cell_of_row w2.drew w.heap.size j _ _ _ hq, z32_at j (by omega), getElem!_pos _ j (by simpa using hj)]
        simp [encB]
      have := cell?_putRow encB w2.drew w.heap.size 0 _ dk hH0 (by rw [hfm.size, Array.size_replicate]) j (by rw [hfm.size]; exact hj3)
      rw [Nat.zero_add] at this
      rw [hw4]
      exact this
    · cases hu
  have hrow4 : Row base (fun k => k = w.heap.size) w4 w4 v [] := by
    have hr := HROW.out
    have hg := hr.go hbw4
    refine ⟨hg.own, fun k hk e => ?_, fun _ _ => rfl, fun k hk => ?_, Below.refl _ _, Nat.le_trans hr.ble hbw4.size⟩
    · subst hk
      have := (hr.own.lt _ e).2
      omega
    · subst hk
      have := hbw4.size
      have hz : w4.heap.size = w2.heap.size := by rw [hw4]; simp
      omega
  have HFE := Lib.hid (fmtE_any base w.heap.size (fun k => k = w.heap.size) x0 xs X v 32 w4 w4 hrow4 rfl (by omega) (by omega) (by omega) (by omega) (by omega) hcell4)
  have HBW4 := Lib.hid hbw4
  clear hw4 hfm hcell4 hrow4 hbw4
  refine HFE.out.mono ?_
  rintro e w5 ⟨v5, rfl, hr5⟩
  have HR5 := Lib.hid hr5
  clear hr5
  go_wp2_with fail
  go_ret
  have hr := HROW.out
  rw [HDP.out]
  exact ⟨v5, rfl, HR5.out.own, fun _ h => h.elim, fun _ h => h.elim, fun _ h => h.elim, (HBW4.out.mono hr.ble).trans HR5.out.below, hr.ble⟩

set_option maxRecDepth 100000 in
set_option maxHeartbeats 1000000 in
theorem ftoa_sub (base : Nat) (b mant s M : Nat) (E : Int) (v : Value) (w : World) (hg : Glob w) (hrow : Row base (fun _ => False) w w v []) (hbl : b < 9223372036854775808)
    (hma : b = mant) (hb1 : 1 ≤ mant) (hb2 : mant < 4503599627370496) (hsl : Lib.bitLen mant ≤ 64) (hs : 64 - Lib.bitLen mant = s) (hM : mant * 2 ^ s = M)
    (hM1 : 9223372036854775808 ≤ M) (hM2 : M < 18446744073709551616) (hE : -1022 - (s : Int) - 52 = E) (hE1 : -1137 ≤ E) (hE2 : E ≤ 1000) (h0 : M % 2 ^ zN E = 0) :
    Calls Tryz.prog 99 #[v, .float .f64 b, .int .u8 101, .int .i64 (-1)] w (EPost base (fun _ => False) w (dpB (shortN M E).1 (shortN M E).2)) := by
  subst hma
  have hneg : ((b : Int) / 9223372036854775808 != 0) = false := by simp; omega
  have hand : bits BinOp.and IntKind.i64 ((b : Int) / 4503599627370496) 2047 = 0 := bits_and_2047 b 0 hbl (by omega) (by omega)
  have hand2 := bits_and_frac b hbl
  rw [Nat.mod_eq_of_lt (by omega)] at hand2
  skip
  skip
  skip
  skip
  have he3 : ((b : Int) == 0) = false := by simp; omega
  have he4 : (b == 0) = false := by simp; omega
  have he5 : ¬ b = 0 := by omega
  have hb0 : Lib.bitLen (b : Int).toNat = Lib.bitLen b := by simp
  have hs' : (64 : Int) - (Lib.bitLen b : Int) = (s : Int) := by omega
  have hsh : IntKind.u64.wrap ((b : Int) * 2 ^ s) = (M : Int) := by
    rw [show ((b : Int) * 2 ^ s) = ((b * 2 ^ s : Nat) : Int) from by push_cast; rfl, hM, IntKind.wrap_u64]; omega
  have HLEN := Lib.hid (fun (W : World) => Tryz.bits_Len64 (b : Int) W (by omega) (by omega))
  have hfb := run_sbits b
  obtain ⟨hd1, hd2, hp1, hp2⟩ := short_bounds M E hM1 hM2 h0 hE1 hE2
  have HSH := Lib.hid (fun (W : World) (h : Glob W) => short_any M E W h hM1 hM2 h0 hE1 hE2)
  generalize shortN M E = dp at *
  obtain ⟨d, p⟩ := dp
  simp only at hd1 hd2 hp1 hp2 HSH ⊢
  obtain ⟨x0, xs, hsig⟩ := sig_head d hd1
  have hnd := nDigits_le d hd1 (by omega)
  have hnd1 := nDigits_pos d
  obtain ⟨kk, hkk, htk⟩ := sig_take d
  have hld := decDigits_length d
  have hxl : xs.length ≤ 19 := by
    have := congrArg List.length htk
    rw [hsig, List.length_cons, List.length_take] at this
    omega
  have HDP : Hid (dpB d p = x0 :: ((if 0 < xs.length then 46 :: xs else []) ++ 101 :: expB ((nDigits d : Nat) + p - 1))) := Lib.hid (by unfold dpB; rw [hsig])
  have HSIG := Lib.hid hsig
  obtain ⟨X, hX'⟩ : ∃ X : Int, X = ((nDigits d : Nat) : Int) + p - 1 := ⟨_, rfl⟩
  have hX : ((nDigits d : Nat) : Int) + p = X + 1 := by omega
  rw [← hX'] at HDP
  have hX1 : -399 < X ∧ X < 399 := by omega
  clear hX'
  have HTK := Lib.hid htk
  have HLD := Lib.hid hld
  have HROW := Lib.hid hrow
  have HG := Lib.hid hg
  generalize dpB d p = RES at *
  clear hM hs hrow hg hsig htk hld hkk h0
  go_enter Tryz.func99, Tryz.ntmps99
  go_wp2_with fail
  go_quiet (fail)
  go_wp2_with fail
  skip
  refine (HLEN.out _).mono ?_
  rintro e w1 ⟨rfl, rfl⟩
  rw [hb0]
  go_wp2_with fail
  have hbw : Below w.heap.size w ((w.drewN nq).alloc (.cells #[.int .u8 0, .int .u8 0, .int .u8 0, .int .u8 0, .int .u8 0, .int .u8 0, .int .u8 0, .int .u8 0, .int .u8 0, .int .u8 0, .int .u8 0, .int .u8 0, .int .u8 0, .int .u8 0, .int .u8 0, .int .u8 0, .int .u8 0, .int .u8 0, .int .u8 0, .int .u8 0, .int .u8 0, .int .u8 0, .int .u8 0, .int .u8 0, .int .u8 0, .int .u8 0, .int .u8 0, .int .u8 0, .int .u8 0, .int .u8 0, .int .u8 0, .int .u8 0] 144)) := (bDrewN (Below.refl _ _) nq).alloc (Nat.le_refl _) _
  have hbuf : ((w.drewN nq).alloc (.cells #[.int .u8 0, .int .u8 0, .int .u8 0, .int .u8 0, .int .u8 0, .int .u8 0, .int .u8 0, .int .u8 0, .int .u8 0, .int .u8 0, .int .u8 0, .int .u8 0, .int .u8 0, .int .u8 0, .int .u8 0, .int .u8 0, .int .u8 0, .int .u8 0, .int .u8 0, .int .u8 0, .int .u8 0, .int .u8 0, .int .u8 0, .int .u8 0, .int .u8 0, .int .u8 0, .int .u8 0, .int .u8 0, .int .u8 0, .int .u8 0, .int .u8 0, .int .u8 0] 144)).heap[w.heap.size]? = some (.cells z32 144 (0, 0)) := heap_alloc_new (w.drewN nq) _
  have hsz : ((w.drewN nq).alloc (.cells #[.int .u8 0, .int .u8 0, .int .u8 0, .int .u8 0, .int .u8 0, .int .u8 0, .int .u8 0, .int .u8 0, .int .u8 0, .int .u8 0, .int .u8 0, .int .u8 0, .int .u8 0, .int .u8 0, .int .u8 0, .int .u8 0, .int .u8 0, .int .u8 0, .int .u8 0, .int .u8 0, .int .u8 0, .int .u8 0, .int .u8 0, .int .u8 0, .int .u8 0, .int .u8 0, .int .u8 0, .int .u8 0, .int .u8 0, .int .u8 0, .int .u8 0, .int .u8 0] 144)).heap.size = w.heap.size + 1 := by simp
  generalize (w.drewN nq).alloc (.cells #[.int .u8 0, .int .u8 0, .int .u8 0, .int .u8 0, .int .u8 0, .int .u8 0, .int .u8 0, .int .u8 0, .int .u8 0, .int .u8 0, .int .u8 0, .int .u8 0, .int .u8 0, .int .u8 0, .int .u8 0, .int .u8 0, .int .u8 0, .int .u8 0, .int .u8 0, .int .u8 0, .int .u8 0, .int .u8 0, .int .u8 0, .int .u8 0, .int .u8 0, .int .u8 0, .int .u8 0, .int .u8 0, .int .u8 0, .int .u8 0, .int .u8 0, .int .u8 0] 144) = W1 at *
  refine (HSH.out W1 (HG.out.below HG.out.lt hbw)).mono ?_
  rintro e w2 ⟨rfl, hb2⟩
  have hbw2 := hbw.trans (hb2.mono (by omega))
  have hbuf2 := (hb2.block w.heap.size (by omega)).trans hbuf
  have hsz2 := hb2.size
  have HB2 := Lib.hid hbuf2
  have HBW2 := Lib.hid hbw2
  clear hbw hbuf hb2 hbuf2 hbw2
  go_wp2_with fail
  have hH : Holds encB w2.drew w.heap.size 0 (Array.replicate (nDigits d) (0 : UInt8)) := fun j hj => by
    rw [Array.size_replicate] at hj
    rw [Nat.zero_add]
    have hq : w2.drew.heap[w.heap.size]? = some (.cells z32 144 (0, 0)) := HB2.out
    refine ⟨?_, by simp [World.frozen?, hq]⟩
    rw [cell_of_row w2.drew w.heap.size j _ _ _ hq, z32_at j (by omega), getElem!_pos _ j (by simpa using hj)]
    simp [encB]
  have hst := setDigits_any w.heap.size d 32 p w2.drew (by show _ < w2.heap.size; omega) hd1 (by omega) (by omega) (by omega) hnd (by omega) (by omega) hH
  rw [hX, HSIG.out, List.length_cons, show ((xs.length + 1 : Nat) : Int) = (xs.length : Int) + 1 from by push_cast; rfl] at hst
  have HST := Lib.hid hst
  clear hst
  clear hH
  have HND := Lib.hid (Tryz.internal_strconv_numDigits d hd1 (by omega) w2.drew (HG.out.below HG.out.lt HBW2.out.drew).u10)
  go_region_held (fun _ => True)
    (first | trivial)
    (first
      | (go_at_call 108; refine HND.out.mono ?_; rintro e w' ⟨rfl, rfl⟩)
      | (go_at_call 127; refine HST.out.mono ?_; rintro e w4 ⟨rfl, n4, v4, dk, hw4', hfm'⟩; have HW4 := Lib.hid hw4'; have HFM := Lib.hid hfm'; clear hw4' hfm'))
  have hmx : max (xs.length : Int) 0 = (xs.length : Int) := by omega
  have hmx2 : max ((xs.length : Int) + 1 - 1) 0 = (xs.length : Int) := by omega
  go_wp2_with fail
  have hw4 := HW4.out
  have hfm := HFM.out
  have hbw4 : Below w.heap.size w w4 := by
    rw [hw4]
    refine bDrewN ?_ n4
    exact HBW2.out.drew.trans (below_putRow _ _ _ _ _ (Nat.le_refl _))
  have hcell4 : ∀ j u, (x0 :: xs)[j]? = some u → w4.cell? ⟨w.heap.size, j, Option.none⟩ = some (encB u) := fun j u hu => by
    have hj : j < (x0 :: xs).length := (List.getElem?_eq_some_iff.1 hu).1
    rw [← HSIG.out, HTK.out] at hu
    rw [List.getElem?_take] at hu
    split at hu
    · have hj2 : j < (decDigits d).length := (List.getElem?_eq_some_iff.1 hu).1
      have hj3 : j < nDigits d := by have := HLD.out; omega
      have e1 := row_is_numeral hfm j hj2
      rw [List.getElem?_eq_getElem hj2, e1] at hu
      obtain rfl := Option.some.inj hu
      have hH0 : Holds encB w2.drew w.heap.size 0 (Array.replicate (nDigits d) (0 : UInt8)) := fun j hj => by
        rw [Array.size_replicate] at hj
        rw [Nat.zero_add]
        have hq : w2.drew.heap[w.heap.size]? = some (.cells z32 144 (0, 0)) := HB2.out
        refine ⟨?_, by simp [World.frozen?, hq]⟩
        rw [cell_of_row w2.drew w.heap.size j _ _ _ hq, z32_at j (by omega), getElem!_pos _ j (by simpa using hj)]
        simp [encB]
      have := cell?_putRow encB w2.drew w.heap.size 0 _ dk hH0 (by rw [hfm.size, Array.size_replicate]) j (by rw [hfm.size]; exact hj3)
      rw [Nat.zero_add] at this
      rw [hw4]
      exact this
    · cases hu
  have hrow4 : Row base (fun k => k = w.heap.size) w4 w4 v [] := by
    have hr := HROW.out
    have hg := hr.go hbw4
    refine ⟨hg.own, fun k hk e => ?_, fun _ _ => rfl, fun k hk => ?_, Below.refl _ _, Nat.le_trans hr.ble hbw4.size⟩
    · subst hk
      have := (hr.own.lt _ e).2
      omega
    · subst hk
      have := hbw4.size
      have hz : w4.heap.size = w2.heap.size := by rw [hw4]; simp
      omega
  have HFE := Lib.hid (fmtE_any base w.heap.size (fun k => k = w.heap.size) x0 xs X v 32 w4 w4 hrow4 rfl (by omega) (by omega) (by omega) (by omega) (by omega) hcell4)
  have HBW4 := Lib.hid hbw4
  clear hw4 hfm hcell4 hrow4 hbw4
  refine HFE.out.mono ?_
  rintro e w5 ⟨v5, rfl, hr5⟩
  have HR5 := Lib.hid hr5
  clear hr5
  go_wp2_with fail
  go_ret
  have hr := HROW.out
  rw [HDP.out]
  exact ⟨v5, rfl, HR5.out.own, fun _ h => h.elim, fun _ h => h.elim, fun _ h => h.elim, (HBW4.out.mono hr.ble).trans HR5.out.below, hr.ble⟩
end Go.Proofs.YtmhagigokgklaaaGreatDoor

/- The shortest text of a number, as the library has it: FormatFloat. -/
namespace Go.Proofs.YtmhagigokgklaaaGreatDoor
open Go Go.RowKit Go.Sort Go.Lib

def mtN (b : Nat) : Nat := if b < 4503599627370496 then b else b % 4503599627370496 + 4503599627370496
def sN (b : Nat) : Nat := 64 - Lib.bitLen (mtN b)
def MN (b : Nat) : Nat := mtN b * 2 ^ sN b
def EN (b : Nat) : Int := (if b < 4503599627370496 then -1022 else ((b / 4503599627370496 : Nat) : Int) + -1023) - (sN b : Int) - 52
def fmtB (b : Nat) : List UInt8 := dpB (shortN (MN b) (EN b)).1 (shortN (MN b) (EN b)).2

theorem bitLen_bounds (x : Nat) (h1 : 1 ≤ x) (h2 : x < 18446744073709551616) : 1 ≤ Lib.bitLen x ∧ 2 ^ (Lib.bitLen x - 1) ≤ x ∧ x < 2 ^ Lib.bitLen x := Lib.bitLenAux_bounds 64 x h2 (by omega)

theorem bitLen_le (x k : Nat) (h1 : 1 ≤ x) (h2 : x < 18446744073709551616) (h : x < 2 ^ k) : Lib.bitLen x ≤ k := by
  obtain ⟨b1, b2, _⟩ := bitLen_bounds x h1 h2
  have h3 := Nat.lt_of_le_of_lt b2 h
  have := (Nat.pow_lt_pow_iff_right (by decide)).1 h3
  omega
theorem bitLen_gt (x k : Nat) (h1 : 1 ≤ x) (h2 : x < 18446744073709551616) (h : 2 ^ k ≤ x) : k < Lib.bitLen x := by
  obtain ⟨_, _, b3⟩ := bitLen_bounds x h1 h2
  have h3 := Nat.lt_of_le_of_lt h b3
  exact (Nat.pow_lt_pow_iff_right (by decide)).1 h3

/-- a number whose highest bit is the 64th -/
theorem norm_bounds (x : Nat) (h1 : 1 ≤ x) (h2 : x < 18446744073709551616) : 9223372036854775808 ≤ x * 2 ^ (64 - Lib.bitLen x) ∧ x * 2 ^ (64 - Lib.bitLen x) < 18446744073709551616 := by
  obtain ⟨b1, b2, b3⟩ := bitLen_bounds x h1 h2
  have b4 := bitLen_le x 64 h1 h2 h2
  have e1 : 2 ^ (Lib.bitLen x - 1) * 2 ^ (64 - Lib.bitLen x) = 2 ^ 63 := by rw [← Nat.pow_add]; congr 1; omega
  have e2 : 2 ^ Lib.bitLen x * 2 ^ (64 - Lib.bitLen x) = 2 ^ 64 := by rw [← Nat.pow_add]; congr 1; omega
  constructor
  · have := Nat.mul_le_mul_right (2 ^ (64 - Lib.bitLen x)) b2
    rw [e1] at this
    exact this
  · have := (Nat.mul_lt_mul_right (Nat.two_pow_pos (64 - Lib.bitLen x))).2 b3
    rw [e2] at this
    exact this

theorem ftoa_any (base b : Nat) (v : Value) (w : World) (hg : Glob w) (hrow : Row base (fun _ => False) w w v []) (hb1 : 0 < b) (hb2 : b < 9218868437227405312) :
    Calls Tryz.prog 99 #[v, .float .f64 b, .int .u8 101, .int .i64 (-1)] w (EPost base (fun _ => False) w (fmtB b)) := by
  unfold fmtB
  by_cases hs : b < 4503599627370496
  · have hm : mtN b = b := by unfold mtN; rw [if_pos hs]
    have hL := bitLen_le b 52 hb1 (by omega) hs
    obtain ⟨hM1, hM2⟩ := norm_bounds b hb1 (by omega)
    obtain ⟨hL1, _, _⟩ := bitLen_bounds b hb1 (by omega)
    have hE : EN b = -1074 - ((64 - Lib.bitLen b : Nat) : Int) := by unfold EN sN; rw [if_pos hs, hm]; omega
    have hz : zN (EN b) = 64 - Lib.bitLen b := by unfold zN; rw [hE, if_neg (by omega)]; omega
    have hM : b * 2 ^ (64 - Lib.bitLen b) = MN b := by unfold MN sN; rw [hm]
    rw [hM] at hM1 hM2
    exact ftoa_sub base b b (64 - Lib.bitLen b) (MN b) (EN b) v w hg hrow (by omega) rfl hb1 hs (by omega) rfl hM hM1 hM2 (by rw [hE]; omega) (by omega) (by omega) (by rw [hz, ← hM]; exact Nat.mul_mod_left _ _)
  · have hm : mtN b = b % 4503599627370496 + 4503599627370496 := by unfold mtN; rw [if_neg hs]
    have hr := Nat.mod_lt b (show 0 < 4503599627370496 by decide)
    have hL1 := bitLen_le (b % 4503599627370496 + 4503599627370496) 53 (by omega) (by omega) (by omega)
    have hL2 := bitLen_gt (b % 4503599627370496 + 4503599627370496) 52 (by omega) (by omega) (by omega)
    obtain ⟨hM1, hM2⟩ := norm_bounds (b % 4503599627370496 + 4503599627370496) (by omega) (by omega)
    have hL : Lib.bitLen (b % 4503599627370496 + 4503599627370496) = 53 := by omega
    have hM : (b % 4503599627370496 + 4503599627370496) * 2 ^ (64 - Lib.bitLen (b % 4503599627370496 + 4503599627370496)) = MN b := by unfold MN sN; rw [hm]
    rw [hM] at hM1 hM2
    have hE : EN b = ((b / 4503599627370496 : Nat) : Int) - 1086 := by unfold EN sN; rw [if_neg hs, hm, hL]; omega
    have hz : zN (EN b) = 11 := by unfold zN; rw [hE, if_pos (by omega)]
    exact ftoa_nor base b _ _ _ 11 (MN b) (EN b) v w hg hrow (by omega) rfl rfl (by omega) (by omega) rfl (by omega) (by rw [hL]) (by rw [← hM, hL]) hM1 hM2 (by rw [hE]; omega) (by omega) (by omega) (by rw [hz, ← hM, hL]; exact Nat.mul_mod_left _ _)
end Go.Proofs.YtmhagigokgklaaaGreatDoor

/- FormatFloat, at 'e' and as few digits as there may be. -/
namespace Go.Proofs.YtmhagigokgklaaaGreatDoor
open Go Go.RowKit Go.Sort Go.Lib

def z24 : Array Value := #[.int .u8 0, .int .u8 0, .int .u8 0, .int .u8 0, .int .u8 0, .int .u8 0, .int .u8 0, .int .u8 0, .int .u8 0, .int .u8 0, .int .u8 0, .int .u8 0, .int .u8 0, .int .u8 0, .int .u8 0, .int .u8 0, .int .u8 0, .int .u8 0, .int .u8 0, .int .u8 0, .int .u8 0, .int .u8 0, .int .u8 0, .int .u8 0]

theorem strOf_map (l : List UInt8) : strOfNums (l.map fun x => (x.toNat : Int)) = ⟨l.toArray⟩ := by
  unfold strOfNums
  congr 2
  rw [List.map_map]
  conv => rhs; rw [← List.map_id l]
  refine List.map_congr_left fun x _ => ?_
  simp

/-- a row of the call's own, as a string -/
theorem Row.text {base : Nat} {S : Nat → Prop} {W0 W : World} {v : Value} {l : List UInt8} (h : Row base S W0 W v l) : (convert 34 9 v).run Tryz.prog W = .ok (.string ⟨l.toArray⟩) W := by
  rcases h.own.2 with ⟨h1, h2⟩ | ⟨g, cap, cur, h1, h2, h3, h4, h5, h6, h7⟩
  · obtain rfl := List.eq_nil_of_length_eq_zero h2
    rw [h1]
    exact run_convert_bytes_nil W _ _ Tryz.underlying34 Tryz.underlying5 0 0 _ Tryz.underlying9
  · rw [h1, ← strOf_map]
    refine run_convert_bytes_arg W _ _ Tryz.underlying34 Tryz.underlying5 g 0 l.length cap (l.map fun x => (x.toNat : Int)) (by simp) (fun i hi => ?_) _ Tryz.underlying9
    rw [Nat.zero_add, cell_of_row W g i _ _ _ h3]
    have h8 := congrArg (fun q : List Value => q[i]?) h7
    simp only [Nat.mul_one, List.getElem?_take, hi, if_true, Array.getElem?_toList] at h8
    rw [h8]
    simp [encB, hi]

set_option maxRecDepth 100000 in
set_option maxHeartbeats 1000000 in
theorem iformat_any (b : Nat) (w : World) (hg : Glob w) (hb1 : 0 < b) (hb2 : b < 9218868437227405312) :
    Calls Tryz.prog 70 #[.float .f64 b, .int .u8 101, .int .i64 (-1), .int .i64 64] w fun e w' => e = .returned (.string ⟨(fmtB b).toArray⟩) ∧ Below w.heap.size w w' := by
  have hal : Below w.heap.size w (w.alloc (.cells z24 5)) := (Below.refl _ _).alloc (Nat.le_refl _) _
  have hrow : Row w.heap.size (fun _ => False) (w.alloc (.cells z24 5)) (w.alloc (.cells z24 5)) (.slice (some ⟨w.heap.size, 0, Option.none⟩) 0 24) [] :=
    ⟨World.ownsRow_made w z24 24 (Nat.le_refl _) (by unfold maxLen; omega) (by rfl), fun _ h => h.elim, fun _ h => h.elim, fun _ h => h.elim, Below.refl _ _, by simp⟩
  have HF := Lib.hid (ftoa_any w.heap.size b _ _ (hg.below hg.lt hal) hrow hb1 hb2)
  have HAL := Lib.hid hal
  have HX := Lib.hid (fun (W W' : World) (v : Value) (l : List UInt8) (h : Row w.heap.size (fun _ => False) W W' v l) => h.text)
  clear hg hrow hal
  have hmax : max (3 : Int) 24 = 24 := by decide
  have hmk : ∀ W : World, (Instr.makeSlice 34 (.int .i64 0) (.int .i64 24)).run Tryz.prog W = .ok (.slice (some ⟨W.heap.size, 0, Option.none⟩) 0 24) (W.alloc (.cells z24 5)) := fun _ => by kernel_rfl
  generalize fmtB b = R at *
  go_enter Tryz.func70, Tryz.ntmps70
  go_wp2_with fail
  refine HF.out.mono ?_
  rintro e w5 ⟨v5, rfl, hr5⟩
  have hcv := HX.out _ _ _ _ hr5
  have HB := Lib.hid hr5.below
  clear hr5
  go_wp2_with fail
  go_ret
  exact ⟨rfl, HAL.out.trans HB.out⟩
theorem format_any (b : Nat) (w : World) (hg : Glob w) (hb1 : 0 < b) (hb2 : b < 9218868437227405312) :
    Calls Tryz.prog 37 #[.float .f64 b, .int .u8 101, .int .i64 (-1), .int .i64 64] w fun e w' => e = .returned (.string ⟨(fmtB b).toArray⟩) ∧ Below w.heap.size w w' := by
  have HF := Lib.hid (iformat_any b w hg hb1 hb2)
  clear hg
  go_enter Tryz.func37, Tryz.ntmps37
  go_wp2_with fail
  refine HF.out.mono ?_
  rintro e w5 ⟨rfl, hb⟩
  have HB := Lib.hid hb
  clear hb
  go_wp2_with fail
  go_ret
  exact ⟨rfl, HB.out⟩
end Go.Proofs.YtmhagigokgklaaaGreatDoor

/- num.placed: digits with a point. -/
namespace Go.Proofs.YtmhagigokgklaaaGreatDoor
open Go Go.RowKit Go.Sort Go.Lib

def expS (x : Int) : List UInt8 := 101 :: (if x < 0 then 45 else 43) :: decDigits x.natAbs
def placedB (d : List UInt8) (p : Int) : List UInt8 :=
  if (d.length : Int) ≤ p ∧ p ≤ 21 then d ++ List.replicate (p - d.length).toNat 48
  else if 0 < p ∧ p < d.length ∧ p ≤ 21 then d.take p.toNat ++ 46 :: d.drop p.toNat
  else if -6 < p ∧ p ≤ 0 then 48 :: 46 :: (List.replicate (-p).toNat 48 ++ d)
  else (if 1 < d.length then d.take 1 ++ 46 :: d.drop 1 else d) ++ expS (p - 1)

theorem repeat48 (k : Nat) : repeatL [48] k = List.replicate k 48 := by
  induction k with
  | zero => rfl
  | succ k ih => simp [repeatL, ih, List.replicate_succ]

theorem str_is {l : List UInt8} {s : ByteArray} (h : s.data.toList = l) : s = ⟨l.toArray⟩ := by
  subst h; rfl

theorem zeros_any (k : Int) (w : World) (h0 : 0 ≤ k) (h1 : k ≤ 10000) :
    Calls Tryz.prog 58 #[.string ⟨#[48]⟩, .int .i64 k] w fun e w' => e = .returned (.string ⟨(List.replicate k.toNat 48).toArray⟩) ∧ Below w.heap.size w w' := by
  obtain ⟨n, rfl⟩ := Int.eq_ofNat_of_zero_le h0
  have := Tryz.strings_Repeat ⟨#[48]⟩ n w (by omega) (by show 1 * n ≤ _; omega)
  rw [show (⟨#[48]⟩ : ByteArray).data.toList = [48] from rfl, repeat48] at this
  exact this

theorem zz (k : Nat) : (⟨(List.replicate k 48).toArray⟩ : ByteArray).size = k := by
  show (List.replicate k (48 : UInt8)).toArray.size = k
  rw [List.size_toArray, List.length_replicate]
def ZerosDo (k : Int) (Z : ByteArray) (w : World) : Prop := Calls Tryz.prog 58 #[.string ⟨#[48]⟩, .int .i64 k] w fun e w' => e = .returned (.string Z) ∧ Below w.heap.size w w'

set_option maxRecDepth 100000 in
set_option maxHeartbeats 1000000 in
theorem placed_1 (d : ByteArray) (p : Int) (w : World) (hd : d.size ≤ 20) (h1 : (d.size : Int) ≤ p) (h2 : p ≤ 21) :
    Calls Tryz.prog 42 #[.string d, .int .i64 p] w fun e w' => e = .returned (.string ⟨(placedB d.data.toList p).toArray⟩) ∧ Below w.heap.size w w' := by
  have hR : d ++ (⟨(List.replicate (p - d.size).toNat 48).toArray⟩ : ByteArray) = ⟨(placedB d.data.toList p).toArray⟩ := by
    refine str_is ?_
    rw [placedB, if_pos (by simpa using ⟨h1, h2⟩)]
    simp
  have HZ := Lib.hid (zeros_any (p - d.size) w (by omega) (by omega))
  have hz : (⟨(List.replicate (p - d.size).toNat 48).toArray⟩ : ByteArray).size ≤ 100 := by rw [zz]; omega
  generalize (⟨(placedB d.data.toList p).toArray⟩ : ByteArray) = R at *
  generalize (⟨(List.replicate (p - d.size).toNat 48).toArray⟩ : ByteArray) = Z at *
  go_enter Tryz.func42, Tryz.ntmps42
  go_wp2_with fail
  refine HZ.out.mono ?_
  rintro e w5 ⟨rfl, hb⟩
  have HB := Lib.hid hb
  clear hb
  go_wp2_with fail
  go_ret
  exact ⟨rfl, HB.out⟩

set_option maxRecDepth 100000 in
set_option maxHeartbeats 1000000 in
theorem placed_2 (d : ByteArray) (p : Int) (w : World) (hd : d.size ≤ 20) (h1 : 0 < p) (h2 : p < d.size) (h3 : p ≤ 21) :
    Calls Tryz.prog 42 #[.string d, .int .i64 p] w fun e w' => e = .returned (.string ⟨(placedB d.data.toList p).toArray⟩) ∧ Below w.heap.size w w' := by
  obtain ⟨q, rfl⟩ := Int.eq_ofNat_of_zero_le (show 0 ≤ p by omega)
  have hR : d.extract 0 q ++ (⟨#[46]⟩ : ByteArray) ++ d.extract q d.size = ⟨(placedB d.data.toList q).toArray⟩ := by
    refine str_is ?_
    rw [placedB, if_neg (show ¬ _ by simp; omega), if_pos (by simp; omega)]
    simp [List.extract_eq_take_drop, ← ByteArray.size_data]
    exact List.take_of_length_le (by simp)
  have HB := Lib.hid (Below.refl w.heap.size w)
  have hq : q ≤ d.size := by omega
  have hA : ∀ W : World, (Instr.slice 9 (.string d) none (some (.int .i64 q)) none).run Tryz.prog W = .ok (.string (d.extract 0 q)) W := fun W => run_slice_string_h W _ d Tryz.underlying9 .i64 q (by omega) (by omega)
  have hC : ∀ W : World, (Instr.slice 9 (.string d) (some (.int .i64 q)) none none).run Tryz.prog W = .ok (.string (d.extract q d.size)) W := fun W => run_slice_string_l W _ d Tryz.underlying9 .i64 q (by omega) (by omega)
  have za : (d.extract 0 q).size ≤ 100 := by rw [ByteArray.size_extract]; omega
  have zc : (d.extract q d.size).size ≤ 100 := by rw [ByteArray.size_extract]; omega
  generalize d.extract 0 q = A at *
  generalize d.extract q d.size = C at *
  generalize (⟨(placedB d.data.toList q).toArray⟩ : ByteArray) = R at *
  go_enter Tryz.func42, Tryz.ntmps42
  go_wp2_with fail
  go_quiet (fail)
  go_wp2
  go_ret
  exact ⟨rfl, bDrewN HB.out _⟩

set_option maxRecDepth 100000 in
set_option maxHeartbeats 1000000 in
theorem placed_3 (d : ByteArray) (p : Int) (w : World) (hd : d.size ≤ 20) (hd1 : 1 ≤ d.size) (h1 : -6 < p) (h2 : p ≤ 0) :
    Calls Tryz.prog 42 #[.string d, .int .i64 p] w fun e w' => e = .returned (.string ⟨(placedB d.data.toList p).toArray⟩) ∧ Below w.heap.size w w' := by
  have hR : (⟨#[48, 46]⟩ : ByteArray) ++ (⟨(List.replicate (-p).toNat 48).toArray⟩ : ByteArray) ++ d = ⟨(placedB d.data.toList p).toArray⟩ := by
    refine str_is ?_
    rw [placedB, if_neg (show ¬ _ by simp; omega), if_neg (show ¬ _ by omega), if_pos ⟨h1, h2⟩]
    simp
  have HZ := Lib.hid (zeros_any (-p) w (by omega) (by omega))
  have hz : (⟨(List.replicate (-p).toNat 48).toArray⟩ : ByteArray).size ≤ 100 := by rw [zz]; omega
  generalize (⟨(placedB d.data.toList p).toArray⟩ : ByteArray) = R at *
  generalize (⟨(List.replicate (-p).toNat 48).toArray⟩ : ByteArray) = Z at *
  go_enter Tryz.func42, Tryz.ntmps42
  go_wp2_with fail
  refine HZ.out.mono ?_
  rintro e w5 ⟨rfl, hb⟩
  have HB := Lib.hid hb
  clear hb
  go_wp2_with fail
  go_ret
  exact ⟨rfl, HB.out⟩

/-- strconv.Itoa at a small number, with what a string of few bytes wants -/
theorem itoa_any (n : Nat) (w : World) (hg : Glob w) (hn : n ≤ 5001) :
    Calls Tryz.prog 77 #[.int .i64 n] w fun e w' => e = .returned (.string ⟨(decDigits n).toArray⟩) ∧ Below w.heap.size w w' := by
  refine (Tryz.strconv_Itoa n (by omega) (by omega) w hg.u10).mono ?_
  rintro e w' ⟨rfl, k, os, rfl⟩
  refine ⟨by rw [itoa, if_neg (by omega)]; rfl, ?_⟩
  exact below_grow _ w (Nat.le_refl _) k os

-- four
set_option maxRecDepth 100000 in
set_option maxHeartbeats 1000000 in
theorem placed_4ps (d : ByteArray) (k : Nat) (w : World) (hg : Glob w) (_hd : d.size ≤ 20) (hd1 : d.size = 1) (hk : 21 ≤ k) (hk2 : k ≤ 5001) :
    Calls Tryz.prog 42 #[.string d, .int .i64 ((k : Int) + 1)] w fun e w' => e = .returned (.string ⟨(placedB d.data.toList ((k : Int) + 1)).toArray⟩) ∧ Below w.heap.size w w' := by
  have HI := Lib.hid (itoa_any k w hg hk2)
  have hz : (⟨(decDigits k).toArray⟩ : ByteArray).size ≤ 100 := by
    show (decDigits k).toArray.size ≤ 100
    rw [List.size_toArray, decDigits_length]
    have := nDigits_le k (by omega) (by omega); omega
  have hR : d ++ (⟨#[101]⟩ : ByteArray) ++ (⟨#[43]⟩ : ByteArray) ++ ⟨(decDigits k).toArray⟩ = ⟨(placedB d.data.toList ((k : Int) + 1)).toArray⟩ := by
    refine str_is ?_
    rw [placedB, if_neg (show ¬ _ by omega), if_neg (show ¬ _ by omega), if_neg (show ¬ _ by omega), if_neg (show ¬ 1 < d.data.toList.length by rw [Array.length_toList]; exact Nat.not_lt.2 (Nat.le_of_eq hd1)), expS, if_neg (show ¬ ((k : Int) + 1) - 1 < 0 by omega), show (((k : Int) + 1) - 1).natAbs = k by omega]
    simp
  have ha : ((k : Int) + 1) - 1 = k := by omega
  clear hg
  generalize (⟨(placedB d.data.toList ((k : Int) + 1)).toArray⟩ : ByteArray) = R at *
  generalize (⟨(decDigits k).toArray⟩ : ByteArray) = Z at *
  go_enter Tryz.func42, Tryz.ntmps42
  go_wp2_with fail

  refine HI.out.mono ?_
  rintro e w5 ⟨rfl, hb⟩
  have HB := Lib.hid hb
  clear hb
  go_wp2_with fail
  go_ret
  exact ⟨rfl, HB.out⟩

set_option maxRecDepth 100000 in
set_option maxHeartbeats 1000000 in
theorem placed_4pl (d : ByteArray) (k : Nat) (w : World) (hg : Glob w) (hd : d.size ≤ 20) (hd1 : 1 < d.size) (hk : 21 ≤ k) (hk2 : k ≤ 5001) :
    Calls Tryz.prog 42 #[.string d, .int .i64 ((k : Int) + 1)] w fun e w' => e = .returned (.string ⟨(placedB d.data.toList ((k : Int) + 1)).toArray⟩) ∧ Below w.heap.size w w' := by
  have HI := Lib.hid (fun (n : Nat) => itoa_any k (w.drewN n) (hg.drewN n) hk2)
  have hz : (⟨(decDigits k).toArray⟩ : ByteArray).size ≤ 100 := by
    show (decDigits k).toArray.size ≤ 100
    rw [List.size_toArray, decDigits_length]
    have := nDigits_le k (by omega) (by omega); omega
  have hA : ∀ W : World, (Instr.slice 9 (.string d) none (some (.int .i64 1)) none).run Tryz.prog W = .ok (.string (d.extract 0 1)) W := fun W => run_slice_string_h W _ d Tryz.underlying9 .i64 1 (by omega) (by omega)
  have hC : ∀ W : World, (Instr.slice 9 (.string d) (some (.int .i64 1)) none none).run Tryz.prog W = .ok (.string (d.extract 1 d.size)) W := fun W => run_slice_string_l W _ d Tryz.underlying9 .i64 1 (by omega) (by omega)
  have za : (d.extract 0 1).size ≤ 100 := by rw [ByteArray.size_extract]; omega
  have zc : (d.extract 1 d.size).size ≤ 100 := by rw [ByteArray.size_extract]; omega
  have hR : d.extract 0 1 ++ (⟨#[46]⟩ : ByteArray) ++ d.extract 1 d.size ++ (⟨#[101]⟩ : ByteArray) ++ (⟨#[43]⟩ : ByteArray) ++ ⟨(decDigits k).toArray⟩ = ⟨(placedB d.data.toList ((k : Int) + 1)).toArray⟩ := by
    refine str_is ?_
    rw [placedB, if_neg (show ¬ _ by omega), if_neg (show ¬ _ by omega), if_neg (show ¬ _ by omega), if_pos (show 1 < d.data.toList.length by rw [Array.length_toList]; exact hd1), expS, if_neg (show ¬ ((k : Int) + 1) - 1 < 0 by omega), show (((k : Int) + 1) - 1).natAbs = k by omega]
    simp [List.extract_eq_take_drop, ← ByteArray.size_data]
    exact List.take_of_length_le (by simp)
  have hns : ((k : Int) + 1 < (d.size : Int)) = False := by simp; omega
  have ha : ((k : Int) + 1) - 1 = k := by omega
  clear hg
  generalize (⟨(placedB d.data.toList ((k : Int) + 1)).toArray⟩ : ByteArray) = R at *
  generalize (⟨(decDigits k).toArray⟩ : ByteArray) = Z at *
  generalize d.extract 0 1 = A at *
  generalize d.extract 1 d.size = C at *
  go_enter Tryz.func42, Tryz.ntmps42
  go_wp2_with fail

  go_quiet (fail)
  go_wp2_with fail
  refine (HI.out _).mono ?_
  rintro e w5 ⟨rfl, hb⟩
  have HB := Lib.hid hb
  clear hb
  go_wp2_with fail
  go_ret
  exact ⟨rfl, (bDrewN (Below.refl _ _) _).trans HB.out⟩

set_option maxRecDepth 100000 in
set_option maxHeartbeats 1000000 in
theorem placed_4ns (d : ByteArray) (k : Nat) (w : World) (hg : Glob w) (_hd : d.size ≤ 20) (hd1 : d.size = 1) (hk : 7 ≤ k) (hk2 : k ≤ 5001) :
    Calls Tryz.prog 42 #[.string d, .int .i64 (1 - (k : Int))] w fun e w' => e = .returned (.string ⟨(placedB d.data.toList (1 - (k : Int))).toArray⟩) ∧ Below w.heap.size w w' := by
  have HI := Lib.hid (itoa_any k w hg hk2)
  have hz : (⟨(decDigits k).toArray⟩ : ByteArray).size ≤ 100 := by
    show (decDigits k).toArray.size ≤ 100
    rw [List.size_toArray, decDigits_length]
    have := nDigits_le k (by omega) (by omega); omega
  have hR : d ++ (⟨#[101]⟩ : ByteArray) ++ (⟨#[45]⟩ : ByteArray) ++ ⟨(decDigits k).toArray⟩ = ⟨(placedB d.data.toList (1 - (k : Int))).toArray⟩ := by
    refine str_is ?_
    rw [placedB, if_neg (show ¬ _ by omega), if_neg (show ¬ _ by omega), if_neg (show ¬ _ by omega), if_neg (show ¬ 1 < d.data.toList.length by rw [Array.length_toList]; exact Nat.not_lt.2 (Nat.le_of_eq hd1)), expS, if_pos (show (1 - (k : Int)) - 1 < 0 by omega), show ((1 - (k : Int)) - 1).natAbs = k by omega]
    simp
  have ha : (1 - (k : Int)) - 1 = -(k : Int) := by omega
  clear hg
  generalize (⟨(placedB d.data.toList (1 - (k : Int))).toArray⟩ : ByteArray) = R at *
  generalize (⟨(decDigits k).toArray⟩ : ByteArray) = Z at *
  go_enter Tryz.func42, Tryz.ntmps42
  go_wp2_with fail

  refine HI.out.mono ?_
  rintro e w5 ⟨rfl, hb⟩
  have HB := Lib.hid hb
  clear hb
  go_wp2_with fail
  go_ret
  exact ⟨rfl, HB.out⟩

set_option maxRecDepth 100000 in
set_option maxHeartbeats 1000000 in
theorem placed_4nl (d : ByteArray) (k : Nat) (w : World) (hg : Glob w) (hd : d.size ≤ 20) (hd1 : 1 < d.size) (hk : 7 ≤ k) (hk2 : k ≤ 5001) :
    Calls Tryz.prog 42 #[.string d, .int .i64 (1 - (k : Int))] w fun e w' => e = .returned (.string ⟨(placedB d.data.toList (1 - (k : Int))).toArray⟩) ∧ Below w.heap.size w w' := by
  have HI := Lib.hid (fun (n : Nat) => itoa_any k (w.drewN n) (hg.drewN n) hk2)
  have hz : (⟨(decDigits k).toArray⟩ : ByteArray).size ≤ 100 := by
    show (decDigits k).toArray.size ≤ 100
    rw [List.size_toArray, decDigits_length]
    have := nDigits_le k (by omega) (by omega); omega
  have hA : ∀ W : World, (Instr.slice 9 (.string d) none (some (.int .i64 1)) none).run Tryz.prog W = .ok (.string (d.extract 0 1)) W := fun W => run_slice_string_h W _ d Tryz.underlying9 .i64 1 (by omega) (by omega)
  have hC : ∀ W : World, (Instr.slice 9 (.string d) (some (.int .i64 1)) none none).run Tryz.prog W = .ok (.string (d.extract 1 d.size)) W := fun W => run_slice_string_l W _ d Tryz.underlying9 .i64 1 (by omega) (by omega)
  have za : (d.extract 0 1).size ≤ 100 := by rw [ByteArray.size_extract]; omega
  have zc : (d.extract 1 d.size).size ≤ 100 := by rw [ByteArray.size_extract]; omega
  have hR : d.extract 0 1 ++ (⟨#[46]⟩ : ByteArray) ++ d.extract 1 d.size ++ (⟨#[101]⟩ : ByteArray) ++ (⟨#[45]⟩ : ByteArray) ++ ⟨(decDigits k).toArray⟩ = ⟨(placedB d.data.toList (1 - (k : Int))).toArray⟩ := by
    refine str_is ?_
    rw [placedB, if_neg (show ¬ _ by omega), if_neg (show ¬ _ by omega), if_neg (show ¬ _ by omega), if_pos (show 1 < d.data.toList.length by rw [Array.length_toList]; exact hd1), expS, if_pos (show (1 - (k : Int)) - 1 < 0 by omega), show ((1 - (k : Int)) - 1).natAbs = k by omega]
    simp [List.extract_eq_take_drop, ← ByteArray.size_data]
    exact List.take_of_length_le (by simp)
  have ha : (1 - (k : Int)) - 1 = -(k : Int) := by omega
  clear hg
  generalize (⟨(placedB d.data.toList (1 - (k : Int))).toArray⟩ : ByteArray) = R at *
  generalize (⟨(decDigits k).toArray⟩ : ByteArray) = Z at *
  generalize d.extract 0 1 = A at *
  generalize d.extract 1 d.size = C at *
  go_enter Tryz.func42, Tryz.ntmps42
  go_wp2_with fail

  go_quiet (fail)
  go_wp2_with fail
  refine (HI.out _).mono ?_
  rintro e w5 ⟨rfl, hb⟩
  have HB := Lib.hid hb
  clear hb
  go_wp2_with fail
  go_ret
  exact ⟨rfl, (bDrewN (Below.refl _ _) _).trans HB.out⟩

theorem placed_any (d : ByteArray) (p : Int) (w : World) (hg : Glob w) (hd : d.size ≤ 20) (hd1 : 1 ≤ d.size) (h2 : -5000 ≤ p) (h3 : p ≤ 5000) :
    Calls Tryz.prog 42 #[.string d, .int .i64 p] w fun e w' => e = .returned (.string ⟨(placedB d.data.toList p).toArray⟩) ∧ Below w.heap.size w w' := by
  by_cases h21 : p ≤ 21
  · by_cases hn : (d.size : Int) ≤ p
    · exact placed_1 d p w hd hn h21
    · by_cases h0 : 0 < p
      · exact placed_2 d p w hd h0 (by omega) h21
      · by_cases h6 : -6 < p
        · exact placed_3 d p w hd hd1 h6 (by omega)
        · obtain ⟨k, hk⟩ : ∃ k : Nat, p = 1 - (k : Int) := ⟨(1 - p).toNat, by omega⟩
          subst hk
          by_cases h1 : d.size = 1
          · exact placed_4ns d k w hg hd h1 (by omega) (by omega)
          · exact placed_4nl d k w hg hd (by omega) (by omega) (by omega)
  · obtain ⟨k, hk⟩ : ∃ k : Nat, p = (k : Int) + 1 := ⟨(p - 1).toNat, by omega⟩
    subst hk
    by_cases h1 : d.size = 1
    · exact placed_4ps d k w hg hd h1 (by omega) (by omega)
    · exact placed_4pl d k w hg hd (by omega) (by omega) (by omega)
end Go.Proofs.YtmhagigokgklaaaGreatDoor

/- The text of FormatFloat, cut into its digits and its power (plain). -/
namespace Go.Proofs.YtmhagigokgklaaaGreatDoor
open Go Go.RowKit Go.Sort Go.Lib


theorem dig_of (k : Nat) (h : k < 10) : isDig (UInt8.ofNat (48 + k)) := by
  unfold isDig
  rw [UInt8.toNat_ofNat', Nat.mod_eq_of_lt (by omega)]
  omega

theorem dec_digs (u : Nat) : ∀ x ∈ decDigits u, isDig x := by
  induction u using Nat.strongRecOn with
  | _ u ih =>
    intro x hx
    rw [decDigits] at hx
    split at hx
    · rw [List.mem_singleton] at hx; subst hx; exact dig_of u (by omega)
    · rcases List.mem_append.1 hx with h | h
      · exact ih (u / 10) (by omega) x h
      · rw [List.mem_singleton] at h; subst h; exact dig_of _ (by omega)

theorem sig_digs (u : Nat) : ∀ x ∈ sig u, isDig x := by
  obtain ⟨k, -, h⟩ := sig_take u
  intro x hx
  rw [h] at hx
  exact dec_digs u x (List.mem_of_mem_take hx)

theorem byte_ne {x : UInt8} {n : Nat} (h : x.toNat ≠ n) (hn : n < 256) : x ≠ UInt8.ofNat n := by
  rintro rfl
  rw [UInt8.toNat_ofNat', Nat.mod_eq_of_lt (by omega)] at h
  exact h rfl

theorem indexByte_at (c : UInt8) (b : List UInt8) : ∀ a : List UInt8, (∀ x ∈ a, x ≠ c) → indexByte (a ++ c :: b) c = (a.length : Nat)
  | [], _ => by simp [indexByte]
  | x :: a, h => by
    have ih := indexByte_at c b a (fun y hy => h y (List.mem_cons_of_mem _ hy))
    have hx : x ≠ c := h x (List.mem_cons_self ..)
    rw [List.cons_append, indexByte, if_neg (by simpa using hx), ih, if_neg (by simp)]
    rw [List.length_cons]; push_cast; rfl

theorem indexByte_not (c : UInt8) : ∀ a : List UInt8, (∀ x ∈ a, x ≠ c) → indexByte a c = -1
  | [], _ => rfl
  | x :: a, h => by
    have ih := indexByte_not c a (fun y hy => h y (List.mem_cons_of_mem _ hy))
    have hx : x ≠ c := h x (List.mem_cons_self ..)
    rw [indexByte, if_neg (by simpa using hx), ih]
    rfl

theorem cut_at (c : UInt8) (a b : List UInt8) (h : ∀ x ∈ a, x ≠ c) : cut (a ++ c :: b) [c] = (a, b, true) := by
  unfold cut
  rw [index_one, indexByte_at c b a h, if_pos (by omega)]
  simp

theorem replace_at (c : UInt8) (a b : List UInt8) (h : ∀ x ∈ a, x ≠ c) : replace (a ++ c :: b) [c] [] 1 = a ++ b := by
  have hi : index (a ++ c :: b) [c] = (a.length : Nat) := by rw [index_one, indexByte_at c b a h]
  have hc : 1 ≤ count (a ++ c :: b) [c] := by
    rw [count_one, List.count_append, List.count_cons_self]; exact Nat.le_trans (Nat.le_add_left _ _) (Nat.le_add_left _ _)
  have hn : replaceNum (a ++ c :: b) [c] 1 = 1 := by
    unfold replaceNum
    rw [if_neg (by omega)]; rfl
  unfold replace
  rw [if_neg (by simp), hn, replaceK_hit _ _ _ _ _ hi, replaceK]
  simp

theorem replace_not (c : UInt8) (a : List UInt8) (h : ∀ x ∈ a, x ≠ c) : replace a [c] [] 1 = a := by
  have hi : index a [c] = -1 := by rw [index_one, indexByte_not c a h]
  have hn : replaceNum a [c] 1 = 0 := by
    unfold replaceNum
    rw [count_miss hi]; rfl
  unfold replace
  rw [if_neg (by simp), hn, replaceK]

/-- the digits' text, with a point behind the first -/
def mantB (d : List UInt8) : List UInt8 := d.take 1 ++ (if 1 < d.length then 46 :: d.drop 1 else [])

theorem dp_eq (d : Nat) (p : Int) (h : 1 ≤ d) : dpB d p = mantB (sig d) ++ 101 :: expB ((nDigits d : Nat) + p - 1) := by
  obtain ⟨x, l, h1⟩ := sig_head d h
  unfold dpB mantB
  rw [h1]
  simp

theorem mant_ne (l : List UInt8) (c : UInt8) (h : ∀ x ∈ l, isDig x) (h2 : c.toNat ≠ 46) (h3 : ¬ isDig c) : ∀ x ∈ mantB l, x ≠ c := by
  intro x hx hxc
  subst hxc
  unfold mantB at hx
  rcases List.mem_append.1 hx with h4 | h4
  · exact h3 (h x (List.mem_of_mem_take h4))
  · split at h4
    · rcases List.mem_cons.1 h4 with h5 | h5
      · exact h2 (by rw [h5]; rfl)
      · exact h3 (h x (List.mem_of_mem_drop h5))
    · simp at h4

theorem mant_back (l : List UInt8) (h : ∀ x ∈ l, isDig x) : replace (mantB l) [46] [] 1 = l := by
  have hne : ∀ x ∈ l, x ≠ 46 := fun x hx e => by have := h x hx; rw [e] at this; exact absurd this (by unfold isDig; decide)
  unfold mantB
  split
  · rw [replace_at 46 _ _ (fun x hx => hne x (List.mem_of_mem_take hx)), List.take_append_drop]
  · have h1 : l.take 1 = l := List.take_of_length_le (by omega)
    rw [List.append_nil, h1, replace_not 46 l hne]

theorem val_of (k : Nat) (h : k < 10) : digitVal (UInt8.ofNat (48 + k)) = some k := by
  unfold digitVal
  rw [UInt8.toNat_ofNat', Nat.mod_eq_of_lt (show 48 + k < 2 ^ 8 by omega), if_pos (by omega)]
  simp

theorem exp_nat (k : Nat) (h : k < 1000) (l : List UInt8) (hl : l = if k < 10 then [48, UInt8.ofNat (48 + k)] else if k < 100 then [UInt8.ofNat (48 + k / 10), UInt8.ofNat (48 + k % 10)] else [UInt8.ofNat (48 + k / 100), UInt8.ofNat (48 + k / 10 % 10), UInt8.ofNat (48 + k % 10)]) : decNat l = some k := by
  subst hl
  have h48 : digitVal 48 = some 0 := by decide
  split
  · have e1 := val_of k (by omega)
    generalize UInt8.ofNat (48 + k) = b1 at *
    simp [decNat, decFrom, h48, e1]
  · split
    · have e1 := val_of (k / 10) (by omega)
      have e2 := val_of (k % 10) (by omega)
      generalize UInt8.ofNat (48 + k / 10) = b1 at *
      generalize UInt8.ofNat (48 + k % 10) = b2 at *
      simp only [decNat, decFrom, e1, e2, List.isEmpty_cons, Bool.false_eq_true, if_false, Option.some.injEq]
      omega
    · have e0 := val_of (k / 100) (by omega)
      have e1 := val_of (k / 10 % 10) (by omega)
      have e2 := val_of (k % 10) (by omega)
      generalize UInt8.ofNat (48 + k / 100) = b0 at *
      generalize UInt8.ofNat (48 + k / 10 % 10) = b1 at *
      generalize UInt8.ofNat (48 + k % 10) = b2 at *
      simp only [decNat, decFrom, e0, e1, e2, List.isEmpty_cons, Bool.false_eq_true, if_false, Option.some.injEq]
      omega

theorem atoi_exp (x : Int) (h : x.natAbs < 1000) : atoi (expB x) = some x := by
  unfold expB
  by_cases hx : x < 0
  · rw [if_pos hx, atoi, if_pos (by decide), exp_nat x.natAbs h _ rfl]
    simp; omega
  · rw [if_neg hx, atoi, if_neg (by decide), if_pos (by decide), exp_nat x.natAbs h _ rfl]
    simp; omega

theorem exp_len (x : Int) : (expB x).length ≤ 4 := by
  unfold expB
  split <;> split <;> (try split) <;> simp

theorem sig_len (d : Nat) (h : 1 ≤ d) (h2 : d < 18446744073709551616) : 1 ≤ (sig d).length ∧ (sig d).length ≤ 20 := by
  obtain ⟨x, l, h1⟩ := sig_head d h
  obtain ⟨k, h3, h4⟩ := sig_take d
  rw [decDigits_length] at h3
  have h5 := nDigits_le d h h2
  refine ⟨by rw [h1]; simp, ?_⟩
  rw [h4, List.length_take]
  omega

theorem mant_len (l : List UInt8) : (mantB l).length ≤ l.length + 1 := by
  unfold mantB
  split <;> simp <;> omega

/-- the digits of a number, and the power behind the point ahead of them -/
def shN (a : Nat) : Nat × Int := shortN (MN a) (EN a)
def showA (a : Nat) : List UInt8 := placedB (sig (shN a).1) ((nDigits (shN a).1 : Nat) + (shN a).2)
def infB : List UInt8 := ([73, 110, 102, 105, 110, 105, 116, 121] : List UInt8)
def nanB : List UInt8 := ([78, 97, 78] : List UInt8)
def showB (b : Nat) : List UInt8 :=
  if 9218868437227405312 < b % 9223372036854775808 then nanB
  else (if b < 9223372036854775808 then [] else [45]) ++ (if b % 9223372036854775808 = 9218868437227405312 then infB else if b % 9223372036854775808 = 0 then [48] else showA (b % 9223372036854775808))

theorem me_ok (b : Nat) (hb1 : 0 < b) (hb2 : b < 9218868437227405312) :
    9223372036854775808 ≤ MN b ∧ MN b < 18446744073709551616 ∧ MN b % 2 ^ zN (EN b) = 0 ∧ -1137 ≤ EN b ∧ EN b ≤ 1000 := by
  by_cases hs : b < 4503599627370496
  · have hm : mtN b = b := by unfold mtN; rw [if_pos hs]
    have hL := bitLen_le b 52 hb1 (by omega) hs
    obtain ⟨hM1, hM2⟩ := norm_bounds b hb1 (by omega)
    obtain ⟨hL1, _, _⟩ := bitLen_bounds b hb1 (by omega)
    have hE : EN b = -1074 - ((64 - Lib.bitLen b : Nat) : Int) := by unfold EN sN; rw [if_pos hs, hm]; omega
    have hz : zN (EN b) = 64 - Lib.bitLen b := by unfold zN; rw [hE, if_neg (by omega)]; omega
    have hM : b * 2 ^ (64 - Lib.bitLen b) = MN b := by unfold MN sN; rw [hm]
    rw [hM] at hM1 hM2
    exact ⟨hM1, hM2, by rw [hz, ← hM]; exact Nat.mul_mod_left _ _, by rw [hE]; omega, by omega⟩
  · have hm : mtN b = b % 4503599627370496 + 4503599627370496 := by unfold mtN; rw [if_neg hs]
    have hr := Nat.mod_lt b (show 0 < 4503599627370496 by decide)
    have hL1 := bitLen_le (b % 4503599627370496 + 4503599627370496) 53 (by omega) (by omega) (by omega)
    have hL2 := bitLen_gt (b % 4503599627370496 + 4503599627370496) 52 (by omega) (by omega) (by omega)
    obtain ⟨hM1, hM2⟩ := norm_bounds (b % 4503599627370496 + 4503599627370496) (by omega) (by omega)
    have hL : Lib.bitLen (b % 4503599627370496 + 4503599627370496) = 53 := by omega
    have hM : (b % 4503599627370496 + 4503599627370496) * 2 ^ (64 - Lib.bitLen (b % 4503599627370496 + 4503599627370496)) = MN b := by unfold MN sN; rw [hm]
    rw [hM] at hM1 hM2
    have hE : EN b = ((b / 4503599627370496 : Nat) : Int) - 1086 := by unfold EN sN; rw [if_neg hs, hm, hL]; omega
    have hz : zN (EN b) = 11 := by unfold zN; rw [hE, if_pos (by omega)]
    exact ⟨hM1, hM2, by rw [hz, ← hM, hL]; exact Nat.mul_mod_left _ _, by rw [hE]; omega, by omega⟩

theorem sh_bounds (b : Nat) (hb1 : 0 < b) (hb2 : b < 9218868437227405312) :
    1 ≤ (shN b).1 ∧ (shN b).1 < 18446744073709551616 ∧ ((nDigits (shN b).1 : Nat) + (shN b).2 - 1).natAbs < 1000 := by
  obtain ⟨h1, h2, h3, h4, h5⟩ := me_ok b hb1 hb2
  obtain ⟨h6, h7, h8, h9⟩ := short_bounds (MN b) (EN b) h1 h2 h3 h4 h5
  unfold shN
  have h10 := nDigits_le (shortN (MN b) (EN b)).1 h6 (by omega)
  exact ⟨h6, by omega, by omega⟩

theorem fmt_eq (b : Nat) (hb1 : 0 < b) (hb2 : b < 9218868437227405312) : fmtB b = mantB (sig (shN b).1) ++ 101 :: expB ((nDigits (shN b).1 : Nat) + (shN b).2 - 1) :=
  dp_eq _ _ (sh_bounds b hb1 hb2).1

theorem fmt_cut (b : Nat) (hb1 : 0 < b) (hb2 : b < 9218868437227405312) : cut (fmtB b) [101] = (mantB (sig (shN b).1), expB ((nDigits (shN b).1 : Nat) + (shN b).2 - 1), true) := by
  rw [fmt_eq b hb1 hb2]
  exact cut_at 101 _ _ (mant_ne _ 101 (sig_digs _) (by decide) (by unfold isDig; decide))
theorem fmt_len (b : Nat) (hb1 : 0 < b) (hb2 : b < 9218868437227405312) : (fmtB b).length ≤ 26 := by
  rw [fmt_eq b hb1 hb2]
  obtain ⟨h1, h2, _⟩ := sh_bounds b hb1 hb2
  have h3 := (sig_len _ h1 h2).2
  have h4 := mant_len (sig (shN b).1)
  have h5 := exp_len ((nDigits (shN b).1 : Nat) + (shN b).2 - 1)
  rw [List.length_append, List.length_cons]
  omega
end Go.Proofs.YtmhagigokgklaaaGreatDoor

/- Signbit, Abs, IsInf. -/
namespace Go.Proofs.YtmhagigokgklaaaGreatDoor
open Go Go.RowKit

theorem wrap_neg (x : Nat) (hx : x < 18446744073709551616) : decide (wrap64 (x : Int) < 0) = ngB x := by
  unfold ngB
  refine decide_eq_decide.2 ?_
  unfold wrap64
  omega
theorem mask_63 (x : Nat) (hx : x < 18446744073709551616) : bits .andNot .u64 (x : Int) 9223372036854775808 = ((ru x : Nat) : Int) := by
  have h := u64_andNot_nat x 9223372036854775808 hx (by decide)
  rw [show ((9223372036854775808 : Nat) : Int) = 9223372036854775808 from rfl] at h
  rw [h, show 18446744073709551615 - 9223372036854775808 = 2 ^ 63 - 1 from by decide, Nat.and_two_pow_sub_one_eq_mod]
  rfl
theorem ru_ru (x : Nat) : ru (ru x) = ru x := by unfold ru; omega
theorem ru_lt (x : Nat) : ru x < 9223372036854775808 := by unfold ru; omega
theorem ng_ru (x : Nat) : ngB (ru x) = false := by unfold ngB; exact decide_eq_false (by have := ru_lt x; omega)

set_option maxRecDepth 100000 in
set_option maxHeartbeats 1000000 in
theorem signbit_any (x : Nat) (w : World) (hx : x < 18446744073709551616) :
    Calls Tryz.prog 35 #[.float .f64 x] w fun e w' => e = .returned (.bool (ngB x)) ∧ w' = w := by
  have hb := run_mbits x
  have hw := wrap_neg x hx
  go_enter Tryz.func35, Tryz.ntmps35
  go_wp2_with fail
  go_ret
  exact ⟨ret_bool rfl, rfl⟩
set_option maxRecDepth 100000 in
set_option maxHeartbeats 1000000 in
theorem abs_any (x : Nat) (w : World) (hx : x < 18446744073709551616) :
    Calls Tryz.prog 38 #[.float .f64 x] w fun e w' => e = .returned (.float .f64 (ru x)) ∧ w' = w := by
  have hb := run_mbits x
  have hf := run_mfrom (ru x)
  have hm := mask_63 x hx
  go_enter Tryz.func38, Tryz.ntmps38
  go_wp2_with fail
  go_ret
  exact ⟨rfl, rfl⟩
set_option maxRecDepth 100000 in
set_option maxHeartbeats 1000000 in
theorem isinf_any (x : Nat) (w : World) (hx : x < 18446744073709551616) (h : ru x ≤ 9218868437227405312) :
    Calls Tryz.prog 36 #[.float .f64 x, .int .i64 0] w fun e w' => e = .returned (.bool (decide (ru x = 9218868437227405312))) ∧ w' = w := by
  have h1 := f_gt_max (ru x) (by have := ru_lt x; omega) (by rw [ru_ru]; exact h)
  rw [ru_ru, ng_ru, Bool.not_false, Bool.and_true] at h1
  have HA := Lib.hid (abs_any x w hx)
  generalize ru x = y at *
  go_enter Tryz.func36, Tryz.ntmps36
  go_wp2_with fail
  refine HA.out.mono ?_
  rintro e w5 ⟨rfl, rfl⟩
  go_wp2_with fail
  go_ret
  exact ⟨ret_bool rfl, rfl⟩
end Go.Proofs.YtmhagigokgklaaaGreatDoor
