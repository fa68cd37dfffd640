/- Joined texts: Vr Vs Vt Vu Uo Pa Pb. Each begins with its own remark. -/
import Derived.Test.YtmhagigokgklaaaGreatDoorJf
import Derived.Lib.AtoiErrMem
import Derived.Test.YtmhagigokgklaaaGreatDoorJb
import Derived.Test.YtmhagigokgklaaaGreatDoorJc
import Derived.Deep.WholeRow

/- num.Show. -/
namespace Go.Proofs.YtmhagigokgklaaaGreatDoor
open Go Go.RowKit Go.Sort Go.Lib

/-- the library's tables, and the bound of its searches -/
structure Globs (w : World) : Prop where
  glob : Glob w
  mlen : ∃ m : Int, w.cell? ⟨1, 0, Option.none⟩ = some (.int .i64 m)

theorem Globs.below {w w' : World} {B : Nat} (h : Globs w) (hB : 17 ≤ B) (hb : Below B w w') : Globs w' := by
  obtain ⟨m, hm⟩ := h.mlen
  exact ⟨h.glob.below hB hb, m, (hb.cell (p := ⟨1, 0, Option.none⟩) (Nat.lt_of_lt_of_le (by decide) hB)).trans hm⟩
theorem Globs.on {w w' : World} (h : Globs w) (hb : Below w.heap.size w w') : Globs w' := h.below h.glob.lt hb

def sgS (x : Nat) : ByteArray := if ngB x then ⟨#[45]⟩ else ⟨#[]⟩

theorem show_nan_eq (x : Nat) (h : 9218868437227405312 < ru x) : showB x = nanB := by
  unfold showB; exact if_pos h
theorem show_sgn (x : Nat) (h : ru x ≤ 9218868437227405312) : showB x = (if ngB x then [45] else []) ++ (if ru x = 9218868437227405312 then infB else if ru x = 0 then [48] else showA (ru x)) := by
  unfold showB
  rw [if_neg (show ¬ 9218868437227405312 < x % 9223372036854775808 from Nat.not_lt.2 h)]
  unfold ngB
  by_cases hx : x < 9223372036854775808
  · rw [if_pos hx, decide_eq_false (by omega)]; rfl
  · rw [if_neg hx, decide_eq_true (by omega)]; rfl

set_option maxRecDepth 100000 in
set_option maxHeartbeats 1000000 in
theorem show_nan (x : Nat) (w : World) (hx : x < 18446744073709551616) (h : 9218868437227405312 < ru x) :
    Calls Tryz.prog 13 #[.int .u64 x] w fun e w' => e = .returned (.string ⟨(showB x).toArray⟩) ∧ Below w.heap.size w w' := by
  rw [show_nan_eq x h]
  have hb := run_mfrom x
  have h1 : (FloatKind.f64.format.order x x == some Ordering.eq) = false := by rw [f_self x hx, decide_eq_false (by omega)]
  have h2 : (FloatKind.f64.format.order x x != some Ordering.eq) = true := by rw [bne, h1]; rfl
  have HS := Lib.hid (signbit_any x w hx)
  cases hn : ngB x <;> rw [hn] at HS
  all_goals
    clear hn
    go_enter Tryz.func13, Tryz.ntmps13
    go_wp2_with fail
    refine HS.out.mono ?_
    rintro e w5 ⟨rfl, rfl⟩
    go_wp2_with fail
    go_ret
    exact ⟨rfl, Below.refl _ _⟩

set_option maxRecDepth 100000 in
set_option maxHeartbeats 1000000 in
theorem show_inf (x : Nat) (w : World) (hx : x < 18446744073709551616) (h : ru x = 9218868437227405312) :
    Calls Tryz.prog 13 #[.int .u64 x] w fun e w' => e = .returned (.string ⟨(showB x).toArray⟩) ∧ Below w.heap.size w w' := by
  rw [show_sgn x (by omega), if_pos h]
  have hb := run_mfrom x
  have h1 : (FloatKind.f64.format.order x x == some Ordering.eq) = true := by rw [f_self x hx, decide_eq_true (by omega)]
  have h2 : (FloatKind.f64.format.order x x != some Ordering.eq) = false := by rw [bne, h1]; rfl
  have HS := Lib.hid (signbit_any x w hx)
  have HI := Lib.hid (isinf_any x w hx (by omega))
  rw [decide_eq_true h] at HI
  cases hn : ngB x <;> rw [hn] at HS
  all_goals
    clear hn
    go_enter Tryz.func13, Tryz.ntmps13
    go_wp2_with fail
    refine HS.out.mono ?_
    rintro e w5 ⟨rfl, rfl⟩
    go_wp2_with fail
    refine HI.out.mono ?_
    rintro e w5 ⟨rfl, rfl⟩
    go_wp2_with fail
    go_ret
    exact ⟨rfl, Below.refl _ _⟩

set_option maxRecDepth 100000 in
set_option maxHeartbeats 1000000 in
theorem show_zero (x : Nat) (w : World) (hx : x < 18446744073709551616) (h : ru x = 0) :
    Calls Tryz.prog 13 #[.int .u64 x] w fun e w' => e = .returned (.string ⟨(showB x).toArray⟩) ∧ Below w.heap.size w w' := by
  rw [show_sgn x (by omega), if_neg (show ¬ ru x = 9218868437227405312 by omega), if_pos h]
  have hb := run_mfrom x
  have h1 : (FloatKind.f64.format.order x x == some Ordering.eq) = true := by rw [f_self x hx, decide_eq_true (by omega)]
  have h2 : (FloatKind.f64.format.order x x != some Ordering.eq) = false := by rw [bne, h1]; rfl
  have h3 : (FloatKind.f64.format.order x 0 == some Ordering.eq) = true := by rw [f_zero x hx (by omega), decide_eq_true h]
  have HS := Lib.hid (signbit_any x w hx)
  have HI := Lib.hid (isinf_any x w hx (by omega))
  rw [decide_eq_false (show ¬ ru x = 9218868437227405312 by omega)] at HI
  cases hn : ngB x <;> rw [hn] at HS
  all_goals
    clear hn
    go_enter Tryz.func13, Tryz.ntmps13
    go_wp2_with fail
    refine HS.out.mono ?_
    rintro e w5 ⟨rfl, rfl⟩
    go_wp2_with fail
    refine HI.out.mono ?_
    rintro e w5 ⟨rfl, rfl⟩
    go_wp2_with fail
    go_ret
    exact ⟨rfl, Below.refl _ _⟩

theorem placed_len (d : List UInt8) (p : Int) (h1 : d.length ≤ 20) (h2 : -5000 ≤ p) (h3 : p ≤ 5000) : (placedB d p).length ≤ 1000 := by
  have h4 : (decDigits (p - 1).natAbs).length ≤ 20 := by
    rw [decDigits_length]
    by_cases h0 : (p - 1).natAbs = 0
    · rw [h0, nDigits_small (by omega)]; omega
    · exact nDigits_le _ (by omega) (by omega)
  unfold placedB expS
  split
  · rw [List.length_append, List.length_replicate]; omega
  · split
    · rw [List.length_append, List.length_cons, List.length_take, List.length_drop]; omega
    · split
      · rw [List.length_cons, List.length_cons, List.length_append, List.length_replicate]; omega
      · rw [List.length_append, List.length_cons, List.length_cons]
        split
        · rw [List.length_append, List.length_cons, List.length_take, List.length_drop]; omega
        · omega

theorem ba_size (l : List UInt8) : (⟨l.toArray⟩ : ByteArray).size = l.length := rfl

theorem fmt_cut_run (y : Nat) (w : World) (hg : Globs w) (h1 : 0 < y) (h2 : y < 9218868437227405312) :
    Calls Tryz.prog 39 #[.string ⟨(fmtB y).toArray⟩, .string ⟨#[101]⟩] w fun e w' => e = .returned (.tuple #[.string ⟨(mantB (sig (shN y).1)).toArray⟩, .string ⟨(expB ((nDigits (shN y).1 : Nat) + (shN y).2 - 1)).toArray⟩, .bool true]) ∧ Below w.heap.size w w' := by
  obtain ⟨m, hm⟩ := hg.mlen
  refine (Tryz.strings_Cut ⟨(fmtB y).toArray⟩ ⟨#[101]⟩ m w (by rw [ba_size]; have := fmt_len y h1 h2; omega) hm).mono ?_
  rintro e w' ⟨he, n, rfl⟩
  rw [show (⟨#[101]⟩ : ByteArray).data.toList = [101] from rfl, fmt_cut y h1 h2] at he
  exact ⟨he, bDrewN (Below.refl _ _) n⟩

theorem mant_rep_run (y : Nat) (w : World) (hg : Globs w) (h1 : 0 < y) (h2 : y < 9218868437227405312) :
    Calls Tryz.prog 40 #[.string ⟨(mantB (sig (shN y).1)).toArray⟩, .string ⟨#[46]⟩, .string ⟨#[]⟩, .int .i64 1] w fun e w' => e = .returned (.string ⟨(sig (shN y).1).toArray⟩) ∧ Below w.heap.size w w' := by
  obtain ⟨m, hm⟩ := hg.mlen
  obtain ⟨h3, h4, _⟩ := sh_bounds y h1 h2
  have h5 := (sig_len _ h3 h4).2
  have h6 := mant_len (sig (shN y).1)
  refine (Tryz.strings_Replace ⟨(mantB (sig (shN y).1)).toArray⟩ ⟨#[46]⟩ ⟨#[]⟩ 1 m w (by rw [ba_size]; omega) hm (by decide) (by rw [ba_size, show (⟨#[]⟩ : ByteArray).size = 0 from rfl]; omega)).mono ?_
  rintro e w' ⟨he, hb⟩
  rw [show (⟨#[46]⟩ : ByteArray).data.toList = [46] from rfl, show (⟨#[]⟩ : ByteArray).data.toList = [] from rfl, mant_back _ (sig_digs _)] at he
  exact ⟨he, hb⟩

theorem exp_run (x : Int) (w : World) (h : x.natAbs < 1000) :
    Calls Tryz.prog 41 #[.string ⟨(expB x).toArray⟩] w fun e w' => e = .returned (.tuple #[.int .i64 x, .nilIface]) ∧ Below w.heap.size w w' := by
  refine (Tryz.strconv_Atoi ⟨(expB x).toArray⟩ x (by rw [ba_size]; have := exp_len x; omega) (atoi_exp x h) w).mono ?_
  rintro e w' ⟨he, t, rfl⟩
  exact ⟨he, bytesWorld_below w _ t⟩

set_option maxRecDepth 100000 in
set_option maxHeartbeats 1000000 in
theorem show_num (x : Nat) (w : World) (hg : Globs w) (hx : x < 18446744073709551616) (h : 0 < ru x) (h' : ru x < 9218868437227405312) :
    Calls Tryz.prog 13 #[.int .u64 x] w fun e w' => e = .returned (.string ⟨(showB x).toArray⟩) ∧ Below w.heap.size w w' := by
  rw [show_sgn x (by omega), if_neg (show ¬ ru x = 9218868437227405312 by omega), if_neg (show ¬ ru x = 0 by omega)]
  have hb := run_mfrom x
  have h1 : (FloatKind.f64.format.order x x == some Ordering.eq) = true := by rw [f_self x hx, decide_eq_true (by omega)]
  have h2 : (FloatKind.f64.format.order x x != some Ordering.eq) = false := by rw [bne, h1]; rfl
  have h3 : (FloatKind.f64.format.order x 0 == some Ordering.eq) = false := by rw [f_zero x hx (by omega), decide_eq_false (by omega)]
  have HS := Lib.hid (signbit_any x w hx)
  have HI := Lib.hid (isinf_any x w hx (by omega))
  rw [decide_eq_false (show ¬ ru x = 9218868437227405312 by omega)] at HI
  have HA := Lib.hid (abs_any x w hx)
  have HF := Lib.hid (format_any (ru x) w hg.glob h h')
  have HG := Lib.hid (fun (w' : World) (hb : Below w.heap.size w w') => hg.on hb)
  have HC := Lib.hid (fun (w' : World) (hb : Globs w') => fmt_cut_run (ru x) w' hb h h')
  have HR := Lib.hid (fun (w' : World) (hb : Globs w') => mant_rep_run (ru x) w' hb h h')
  obtain ⟨b1, b2, b3⟩ := sh_bounds (ru x) h h'
  have b4 := sig_len _ b1 b2
  have HX := Lib.hid (fun (w' : World) => exp_run ((nDigits (shN (ru x)).1 : Nat) + (shN (ru x)).2 - 1) w' b3)
  have hp : (nDigits (shN (ru x)).1 : Nat) + (shN (ru x)).2 - 1 + 1 = (nDigits (shN (ru x)).1 : Nat) + (shN (ru x)).2 := by omega
  have HP := Lib.hid (fun (w' : World) (hb : Globs w') => placed_any ⟨(sig (shN (ru x)).1).toArray⟩ ((nDigits (shN (ru x)).1 : Nat) + (shN (ru x)).2 - 1 + 1) w' hb.glob (by rw [ba_size]; omega) (by rw [ba_size]; omega) (by omega) (by omega))
  rw [hp] at HP
  change Hid (∀ (w' : World) (_ : Globs w'), Calls Tryz.prog 42 #[.string ⟨(sig (shN (ru x)).1).toArray⟩, .int .i64 ((nDigits (shN (ru x)).1 : Nat) + (shN (ru x)).2)] w' fun e w'' => e = .returned (.string ⟨(showA (ru x)).toArray⟩) ∧ Below w'.heap.size w' w'') at HP
  have hq : ((nDigits (shN (ru x)).1 : Nat) + (shN (ru x)).2).natAbs < 2000 := by omega
  have hzl : (⟨(showA (ru x)).toArray⟩ : ByteArray).size ≤ 1000 := by
    exact placed_len _ _ b4.2 (by omega) (by omega)
  have hR : sgS x ++ (⟨(showA (ru x)).toArray⟩ : ByteArray) = ⟨((if ngB x then [45] else []) ++ showA (ru x)).toArray⟩ := by
    refine str_is ?_
    unfold sgS
    cases ngB x <;> simp
  generalize (⟨((if ngB x then [45] else []) ++ showA (ru x)).toArray⟩ : ByteArray) = R at *
  generalize (⟨(showA (ru x)).toArray⟩ : ByteArray) = RR at *
  unfold sgS at hR
  generalize ((nDigits (shN (ru x)).1 : Nat) + (shN (ru x)).2 : Int) = q at *
  generalize expB (q - 1) = EE at *
  generalize sig (shN (ru x)).1 = SS at *
  generalize mantB SS = MM at *
  generalize fmtB (ru x) = FF at *
  cases hn : ngB x <;> rw [hn] at HS hR
  all_goals
    simp only [if_true, Bool.false_eq_true, if_false] at hR
    clear hn b1 b2 b3 b4 hp
    go_enter Tryz.func13, Tryz.ntmps13
    go_wp2_with fail
    refine HS.out.mono ?_
    rintro e w5 ⟨rfl, rfl⟩
    go_wp2_with fail
    refine HI.out.mono ?_
    rintro e w5 ⟨rfl, rfl⟩
    go_wp2_with fail
    refine HA.out.mono ?_
    rintro e w5 ⟨rfl, rfl⟩
    go_wp2_with fail
    refine HF.out.mono ?_
    rintro e w6 ⟨rfl, hb6⟩
    have HB6 := Lib.hid hb6
    clear hb6
    go_wp2_with fail
    refine (HC.out _ (HG.out _ HB6.out)).mono ?_
    rintro e w7 ⟨rfl, hb7⟩
    have HB7 := Lib.hid (HB6.out.trans (hb7.mono HB6.out.size))
    clear hb7
    go_wp2_with fail
    refine (HR.out _ (HG.out _ HB7.out)).mono ?_
    rintro e w8 ⟨rfl, hb8⟩
    have HB8 := Lib.hid (HB7.out.trans (hb8.mono HB7.out.size))
    clear hb8
    go_wp2_with fail
    refine (HX.out _).mono ?_
    rintro e w9 ⟨rfl, hb9⟩
    have HB9 := Lib.hid (HB8.out.trans (hb9.mono HB8.out.size))
    clear hb9
    go_wp2_with fail
    refine (HP.out _ (HG.out _ HB9.out)).mono ?_
    rintro e wa ⟨rfl, hba⟩
    have HBa := Lib.hid (HB9.out.trans (hba.mono HB9.out.size))
    clear hba
    go_wp2_with fail
    go_ret
    exact ⟨rfl, HBa.out⟩

/-- Show, at every number -/
theorem show_any (x : Nat) (w : World) (hg : Globs w) (hx : x < 18446744073709551616) :
    Calls Tryz.prog 13 #[.int .u64 x] w fun e w' => e = .returned (.string ⟨(showB x).toArray⟩) ∧ Below w.heap.size w w' := by
  by_cases h1 : 9218868437227405312 < ru x
  · exact show_nan x w hx h1
  · by_cases h2 : ru x = 9218868437227405312
    · exact show_inf x w hx h2
    · by_cases h3 : ru x = 0
      · exact show_zero x w hx h3
      · exact show_num x w hg hx (by omega) (by omega)
end Go.Proofs.YtmhagigokgklaaaGreatDoor

/- num.OfInt, math.Trunc, num.Int. -/
namespace Go.Proofs.YtmhagigokgklaaaGreatDoor
open Go Go.RowKit

/-- the number that an integer is -/
def oiN (n : Int) : Nat := FloatKind.f64.nearest n

theorem ofint_any (n : Int) (w : World) :
    Calls Tryz.prog 17 #[.int .i64 n] w fun e w' => e = .returned (.int .u64 (oiN n)) ∧ w' = w := by
  have hb := run_mbits (oiN n)
  have hf : floatOfInt .f64 n = oiN n := rfl
  go_enter Tryz.func17, Tryz.ntmps17
  go_wp2_with fail
  go_ret
  exact ⟨rfl, rfl⟩

section
attribute [local irreducible] FloatKind.decode
theorem whole_num (x : Nat) (s : Bool) (m : Nat) (e : Int) (h : FloatKind.f64.decode x = .number s m e) : Extern.MathFloor.toIntegral "math.archTrunc" .zero #[.float .f64 x] = pure (.float .f64 (FloatKind.f64.encode ((Ieee.Datum.number s m e).integral .zero))) := by
  conv => lhs; whnf
  rw [h]
theorem whole_inf (x : Nat) (s : Bool) (h : FloatKind.f64.decode x = .infinity s) : Extern.MathFloor.toIntegral "math.archTrunc" .zero #[.float .f64 x] = pure (.float .f64 (FloatKind.f64.encode (.infinity s))) := by
  conv => lhs; whnf
  rw [h]
  rfl
theorem whole_nan (x : Nat) (s : Bool) (t : Nat) (w : World) (h : FloatKind.f64.decode x = .nan s t) : ∃ y w', (Extern.MathFloor.toIntegral "math.archTrunc" .zero #[.float .f64 x]).run Tryz.prog w = .ok (.float .f64 y) w' ∧ (w' = w ∨ w' = w.drew) := by
  conv => enter [1, y, 1, w', 1, 1, 2]; whnf
  rw [h]
  by_cases hq : FloatKind.f64.format.quiet t = t
  · refine ⟨x, w, ?_, .inl rfl⟩
    simp only [hq, if_true]
    rfl
  · simp only [hq, if_false]
    exact ⟨_, _, rfl, .inr rfl⟩
end

theorem run_trunc (x : Nat) (w : World) (hx : x < 18446744073709551616) (h : ru x ≤ 9218868437227405312) : (callFunc 80 #[.float .f64 x]).run Tryz.prog w = .ok (.value (.float .f64 (trN x))) w := by
  rw [run_callFunc_extern Tryz.func80 (e := Extern.MathFloor.toIntegral "math.archTrunc" .zero) (by kernel_rfl) (by kernel_rfl) (by kernel_rfl) (by rfl)]
  unfold trN
  by_cases h1 : ru x = 9218868437227405312
  · rw [whole_inf x _ (read_inf x hx h1), read_inf x hx h1]; rfl
  · obtain ⟨m, e, he, _⟩ := read_fin x hx (by omega)
    rw [whole_num x _ _ _ he, he]; rfl

theorem run_trunc_nan (x : Nat) (w : World) (hx : x < 18446744073709551616) (h : 9218868437227405312 < ru x) : ∃ y w', (callFunc 80 #[.float .f64 x]).run Tryz.prog w = .ok (.value (.float .f64 y)) w' ∧ (w' = w ∨ w' = w.drew) := by
  rw [run_callFunc_extern Tryz.func80 (e := Extern.MathFloor.toIntegral "math.archTrunc" .zero) (by kernel_rfl) (by kernel_rfl) (by kernel_rfl) (by rfl)]
  obtain ⟨t, ht⟩ := read_nan x hx h
  obtain ⟨y, w', h1, h2⟩ := whole_nan x _ t w ht
  exact ⟨y, w', by rw [h1]; rfl, h2⟩

set_option maxRecDepth 100000 in
theorem trunc_any (x : Nat) (w : World) (hx : x < 18446744073709551616) (h : ru x ≤ 9218868437227405312) :
    Calls Tryz.prog 46 #[.float .f64 x] w fun e w' => e = .returned (.float .f64 (trN x)) ∧ w' = w := by
  have hb := fun w => run_trunc x w hx h
  clear hx h
  generalize trN x = y at *
  go_enter Tryz.func46, Tryz.ntmps46
  go_wp2_with fail
  go_ret
  exact ⟨rfl, rfl⟩

set_option maxRecDepth 100000 in
theorem trunc_nan (x : Nat) (w : World) (hx : x < 18446744073709551616) (h : 9218868437227405312 < ru x) :
    Calls Tryz.prog 46 #[.float .f64 x] w fun e w' => (∃ y, e = .returned (.float .f64 y)) ∧ Below w.heap.size w w' := by
  obtain ⟨y, w', hb, hw⟩ := run_trunc_nan x w hx h
  have HB : Hid (Below w.heap.size w w') := Lib.hid (by
    rcases hw with rfl | rfl
    · exact Below.refl _ _
    · exact (Below.refl _ _).drew)
  clear hx h hw
  go_enter Tryz.func46, Tryz.ntmps46
  go_wp2_with fail
  go_ret
  exact ⟨⟨_, rfl⟩, HB.out⟩
end Go.Proofs.YtmhagigokgklaaaGreatDoor

/- num.Int. -/
namespace Go.Proofs.YtmhagigokgklaaaGreatDoor
open Go Go.RowKit
set_option exponentiation.threshold 2000

/-- the integer that a number is, if it is one -/
def intOK (x : Nat) : Prop := ru x < 9218868437227405312 ∧ V (ru x) % 2 ^ 1074 = 0 ∧ (if ngB x then FL (ru x) ≠ 0 ∧ FL (ru x) ≤ 9223372036854775808 else FL (ru x) < 9223372036854775808)
instance (x : Nat) : Decidable (intOK x) := by unfold intOK; infer_instance
def intV (x : Nat) : Int × Bool := if intOK x then ((if ngB x then -(FL (ru x) : Int) else (FL (ru x) : Int)), true) else (0, false)

set_option maxRecDepth 100000 in
set_option maxHeartbeats 1000000 in
/-- no whole number, or none at all -/
theorem int_stop1 (x : Nat) (w : World)
    (ht : Calls Tryz.prog 46 #[.float .f64 x] w fun e w' => (∃ y, e = .returned (.float .f64 y) ∧ (FloatKind.f64.format.order x y == some Ordering.eq) = false) ∧ Below w.heap.size w w') :
    Calls Tryz.prog 15 #[.int .u64 x] w fun e w' => e = .returned (.tuple #[.int .i64 0, .bool false]) ∧ Below w.heap.size w w' := by
  have hb := run_mfrom x
  have HT := Lib.hid ht
  clear ht
  go_enter Tryz.func15, Tryz.ntmps15
  go_wp2_with fail
  refine HT.out.mono ?_
  rintro e w5 ⟨⟨y, rfl, h1⟩, hb5⟩
  have h2 : (FloatKind.f64.format.order x y != some Ordering.eq) = true := by rw [bne, h1]; rfl
  have HB := Lib.hid hb5
  clear hb5
  go_wp2_with fail
  refine bodyPost_ret (v := .tuple #[.int .i64 0, .bool false]) (by simp [results, Tryz.results15, go_sem]) rfl ⟨rfl, HB.out⟩

set_option maxRecDepth 100000 in
set_option maxHeartbeats 1000000 in
/-- too far below -/
theorem int_stop2 (x y : Nat) (w : World)
    (ht : Calls Tryz.prog 46 #[.float .f64 x] w fun e w' => e = .returned (.float .f64 y) ∧ w' = w)
    (h1 : (FloatKind.f64.format.order x y == some Ordering.eq) = true)
    (h2 : (FloatKind.f64.format.order x 14114281232179134464 == some Ordering.lt) = true) :
    Calls Tryz.prog 15 #[.int .u64 x] w fun e w' => e = .returned (.tuple #[.int .i64 0, .bool false]) ∧ Below w.heap.size w w' := by
  have hb := run_mfrom x
  have HT := Lib.hid ht
  have h1' : (FloatKind.f64.format.order x y != some Ordering.eq) = false := by rw [bne, h1]; rfl
  clear ht
  go_enter Tryz.func15, Tryz.ntmps15
  go_wp2_with fail
  refine HT.out.mono ?_
  rintro e w5 ⟨rfl, rfl⟩
  go_wp2_with fail
  refine bodyPost_ret (v := .tuple #[.int .i64 0, .bool false]) (by simp [results, Tryz.results15, go_sem]) rfl ⟨rfl, Below.refl _ _⟩

set_option maxRecDepth 100000 in
set_option maxHeartbeats 1000000 in
/-- too far above -/
theorem int_stop3 (x y : Nat) (w : World)
    (ht : Calls Tryz.prog 46 #[.float .f64 x] w fun e w' => e = .returned (.float .f64 y) ∧ w' = w)
    (h1 : (FloatKind.f64.format.order x y == some Ordering.eq) = true)
    (h2 : (FloatKind.f64.format.order x 14114281232179134464 == some Ordering.lt) = false)
    (h3 : (FloatKind.f64.format.order x 4890909195324358656 == some Ordering.gt || FloatKind.f64.format.order x 4890909195324358656 == some Ordering.eq) = true) :
    Calls Tryz.prog 15 #[.int .u64 x] w fun e w' => e = .returned (.tuple #[.int .i64 0, .bool false]) ∧ Below w.heap.size w w' := by
  have hb := run_mfrom x
  have HT := Lib.hid ht
  have h1' : (FloatKind.f64.format.order x y != some Ordering.eq) = false := by rw [bne, h1]; rfl
  clear ht
  go_enter Tryz.func15, Tryz.ntmps15
  go_wp2_with fail
  refine HT.out.mono ?_
  rintro e w5 ⟨rfl, rfl⟩
  go_wp2_with fail
  refine bodyPost_ret (v := .tuple #[.int .i64 0, .bool false]) (by simp [results, Tryz.results15, go_sem]) rfl ⟨rfl, Below.refl _ _⟩

set_option maxRecDepth 100000 in
set_option maxHeartbeats 1000000 in
/-- nought with a sign -/
theorem int_stop4 (x y : Nat) (w : World) (hx : x < 18446744073709551616) (hn : ngB x = true)
    (ht : Calls Tryz.prog 46 #[.float .f64 x] w fun e w' => e = .returned (.float .f64 y) ∧ w' = w)
    (h1 : (FloatKind.f64.format.order x y == some Ordering.eq) = true)
    (h2 : (FloatKind.f64.format.order x 14114281232179134464 == some Ordering.lt) = false)
    (h3 : (FloatKind.f64.format.order x 4890909195324358656 == some Ordering.gt || FloatKind.f64.format.order x 4890909195324358656 == some Ordering.eq) = false)
    (h4 : (FloatKind.f64.format.order x 0 == some Ordering.eq) = true) :
    Calls Tryz.prog 15 #[.int .u64 x] w fun e w' => e = .returned (.tuple #[.int .i64 0, .bool false]) ∧ Below w.heap.size w w' := by
  have hb := run_mfrom x
  have HT := Lib.hid ht
  have HS := Lib.hid (signbit_any x w hx)
  rw [hn] at HS
  have h1' : (FloatKind.f64.format.order x y != some Ordering.eq) = false := by rw [bne, h1]; rfl
  clear ht hn hx
  go_enter Tryz.func15, Tryz.ntmps15
  go_wp2_with fail
  refine HT.out.mono ?_
  rintro e w5 ⟨rfl, rfl⟩
  go_wp2_with fail
  refine HS.out.mono ?_
  rintro e w5 ⟨rfl, rfl⟩
  go_wp2_with fail
  refine bodyPost_ret (v := .tuple #[.int .i64 0, .bool false]) (by simp [results, Tryz.results15, go_sem]) rfl ⟨rfl, Below.refl _ _⟩

set_option maxRecDepth 100000 in
set_option maxHeartbeats 1000000 in
/-- an integer -/
theorem int_go (x y : Nat) (n : Int) (w : World) (hx : x < 18446744073709551616)
    (ht : Calls Tryz.prog 46 #[.float .f64 x] w fun e w' => e = .returned (.float .f64 y) ∧ w' = w)
    (h1 : (FloatKind.f64.format.order x y == some Ordering.eq) = true)
    (h2 : (FloatKind.f64.format.order x 14114281232179134464 == some Ordering.lt) = false)
    (h3 : (FloatKind.f64.format.order x 4890909195324358656 == some Ordering.gt || FloatKind.f64.format.order x 4890909195324358656 == some Ordering.eq) = false)
    (h4 : ((FloatKind.f64.format.order x 0 == some Ordering.eq) && ngB x) = false)
    (h5 : floatToIntVal .f64 x .i64 = some n) :
    Calls Tryz.prog 15 #[.int .u64 x] w fun e w' => e = .returned (.tuple #[.int .i64 n, .bool true]) ∧ Below w.heap.size w w' := by
  have hb := run_mfrom x
  have HT := Lib.hid ht
  have HS := Lib.hid (signbit_any x w hx)
  have h1' : (FloatKind.f64.format.order x y != some Ordering.eq) = false := by rw [bne, h1]; rfl
  have hc : ∀ W : World, (convert 43 2 (.float .f64 x)).run Tryz.prog W = .ok (.int .i64 n) W := fun W => run_convert_float_int W _ _ .f64 .i64 x n (by rw [Tryz.underlying43]; rfl) Tryz.underlying2 h5
  clear ht hx h5
  cases hz : (FloatKind.f64.format.order x 0 == some Ordering.eq)
  · clear h4
    go_enter Tryz.func15, Tryz.ntmps15
    go_wp2_with fail
    refine HT.out.mono ?_
    rintro e w5 ⟨rfl, rfl⟩
    go_wp2_with fail
    refine bodyPost_ret (v := .tuple #[.int .i64 n, .bool true]) (by simp [results, Tryz.results15, go_sem]) rfl ⟨rfl, Below.refl _ _⟩
  · rw [hz, Bool.true_and] at h4
    rw [h4] at HS
    clear h4
    go_enter Tryz.func15, Tryz.ntmps15
    go_wp2_with fail
    refine HT.out.mono ?_
    rintro e w5 ⟨rfl, rfl⟩
    go_wp2_with fail
    refine HS.out.mono ?_
    rintro e w5 ⟨rfl, rfl⟩
    go_wp2_with fail
    refine bodyPost_ret (v := .tuple #[.int .i64 n, .bool true]) (by simp [results, Tryz.results15, go_sem]) rfl ⟨rfl, Below.refl _ _⟩
end Go.Proofs.YtmhagigokgklaaaGreatDoor

/- num.Int: what it gives. -/
namespace Go.Proofs.YtmhagigokgklaaaGreatDoor
open Go Go.RowKit Ieee
set_option exponentiation.threshold 2000

theorem v_far : V 4890909195324358656 = 9223372036854775808 * 2 ^ 1074 := by
  have h := V_at 1085 BB (by decide) (.inr (Nat.le_refl _))
  rw [show 1085 * BB + BB = 4890909195324358656 from by decide] at h
  rw [h]
  unfold BB
  rw [show (9223372036854775808 : Nat) = 4503599627370496 * 2 ^ 11 from by decide, Nat.mul_assoc, ← Nat.pow_add]

theorem f_lt_far (x : Nat) (hx : x < 18446744073709551616) (h : ru x ≤ 9218868437227405312) : (FloatKind.f64.format.order x 14114281232179134464 == some Ordering.lt) = (ngB x && decide (V 4890909195324358656 < V (ru x))) := by
  show (double.order x 14114281232179134464 == _) = _
  rw [order_any x _ hx (by decide) h (by decide), cmp_lt, sv_ng, sv_ng, show ngB 14114281232179134464 = true from by decide, show ru 14114281232179134464 = 4890909195324358656 from by decide]
  generalize V 4890909195324358656 = K
  cases ngB x
  · simp only [Bool.false_eq_true, if_false, if_true, Bool.false_and]
    exact decide_eq_false (by omega)
  · simp only [if_true, Bool.true_and]
    exact decide_eq_decide.2 ⟨fun h => by omega, fun h => by omega⟩

theorem f_ge_far (x : Nat) (hx : x < 18446744073709551616) (h : ru x ≤ 9218868437227405312) : (FloatKind.f64.format.order x 4890909195324358656 == some Ordering.gt || FloatKind.f64.format.order x 4890909195324358656 == some Ordering.eq) = (!ngB x && decide (V 4890909195324358656 ≤ V (ru x))) := by
  show (double.order x 4890909195324358656 == _ || double.order x 4890909195324358656 == _) = _
  rw [order_any x _ hx (by decide) h (by decide), cmp_gt, cmp_eq, sv_ng, sv_ng, show ngB 4890909195324358656 = false from by decide, show ru 4890909195324358656 = 4890909195324358656 from by decide]
  have hK : 0 < V 4890909195324358656 := by have := V_mono (show 0 < 4890909195324358656 by omega); rwa [V_zero] at this
  generalize V 4890909195324358656 = K at *
  cases ngB x
  · simp only [Bool.false_eq_true, if_false, Bool.not_false, Bool.true_and]
    rw [← Bool.decide_or]
    exact decide_eq_decide.2 ⟨fun h => by omega, fun h => by omega⟩
  · simp only [Bool.false_eq_true, if_false, if_true, Bool.not_true, Bool.false_and]
    rw [← Bool.decide_or]
    exact decide_eq_false (by omega)

theorem to_int (x : Nat) (hx : x < 18446744073709551616) (hr : ru x < 9218868437227405312) (h1 : ngB x = true → FL (ru x) ≤ 9223372036854775808) (h2 : ngB x = false → FL (ru x) < 9223372036854775808) :
    floatToIntVal .f64 x .i64 = some (if ngB x then -(FL (ru x) : Int) else (FL (ru x) : Int)) := by
  unfold floatToIntVal
  have e : (FloatKind.f64.decode x).toInt .zero = some (if ngB x then -(FL (ru x) : Int) else (FL (ru x) : Int)) := by
    show (double.read x).toInt .zero = _
    unfold Datum.toInt
    rw [integral_fin x hx hr]
    show some (signed (ngB x) (FL (ru x)) 0) = _
    unfold signed
    rw [Nat.shiftLeft_zero]
  rw [e]
  show (if IntKind.i64.min ≤ _ ∧ _ ≤ IntKind.i64.max then _ else _) = _
  have m1 : IntKind.i64.min = -9223372036854775808 := by decide
  have m2 : IntKind.i64.max = 9223372036854775807 := by decide
  rw [m1, m2, if_pos]
  cases hn : ngB x
  · have := h2 hn
    simp only [Bool.false_eq_true, if_false]; omega
  · have := h1 hn
    simp only [if_true]; omega

theorem fl_mul (r : Nat) (h : V r % 2 ^ 1074 = 0) : V r = FL r * 2 ^ 1074 := by
  unfold FL; exact (Nat.div_mul_cancel (Nat.dvd_of_mod_eq_zero h)).symm

/-- Int, at every number -/
theorem int_any (x : Nat) (w : World) (hx : x < 18446744073709551616) :
    Calls Tryz.prog 15 #[.int .u64 x] w fun e w' => e = .returned (.tuple #[.int .i64 (intV x).1, .bool (intV x).2]) ∧ Below w.heap.size w w' := by
  by_cases hnan : 9218868437227405312 < ru x
  · have hv : intV x = (0, false) := by unfold intV; rw [if_neg (fun h => by have := h.1; omega)]
    rw [hv]
    refine int_stop1 x w ((trunc_nan x w hx hnan).mono ?_)
    rintro e w' ⟨⟨y, rfl⟩, hb⟩
    exact ⟨⟨y, rfl, by show (double.order x y == _) = _; rw [order_nan x y hx hnan]; rfl⟩, hb⟩
  · by_cases hinf : ru x = 9218868437227405312
    · have hv : intV x = (0, false) := by unfold intV; rw [if_neg (fun h => by have := h.1; omega)]
      rw [hv]
      have ht := trunc_any x w hx (by omega)
      have hy : trN x = x := by
        have h1 : trN x = double.word (ngB x) INF := by
          unfold trN
          rw [read_inf x hx hinf]; rfl
        have h2 := word_is x hx
        rw [hinf] at h2
        rw [h1]
        exact h2
      rw [hy] at ht
      have h1 : (FloatKind.f64.format.order x x == some Ordering.eq) = true := by rw [f_self x hx, decide_eq_true (by omega)]
      have hlt : V 4890909195324358656 < V (ru x) := V_mono (by omega)
      cases hn : ngB x
      · exact int_stop3 x x w ht h1 (by rw [f_lt_far x hx (by omega), hn]; rfl) (by rw [f_ge_far x hx (by omega), hn, decide_eq_true (Nat.le_of_lt hlt)]; rfl)
      · exact int_stop2 x x w ht h1 (by rw [f_lt_far x hx (by omega), hn, decide_eq_true hlt]; rfl)
    · have hfin : ru x < 9218868437227405312 := by omega
      have ht := trunc_any x w hx (by omega)
      by_cases hw : V (ru x) % 2 ^ 1074 = 0
      · rw [tr_whole x hx hfin hw] at ht
        have h1 : (FloatKind.f64.format.order x x == some Ordering.eq) = true := by rw [f_self x hx, decide_eq_true (by omega)]
        have hm := fl_mul (ru x) hw
        have hK := v_far
        have hpos : 0 < 2 ^ 1074 := Nat.two_pow_pos 1074
        have c1 : V 4890909195324358656 < V (ru x) ↔ 9223372036854775808 < FL (ru x) := by rw [hm, hK]; exact Nat.mul_lt_mul_right hpos
        have c2 : V 4890909195324358656 ≤ V (ru x) ↔ 9223372036854775808 ≤ FL (ru x) := by rw [hm, hK]; exact Nat.mul_le_mul_right_iff hpos
        have c3 : ru x = 0 ↔ FL (ru x) = 0 := by
          constructor
          · intro h; rw [h]; unfold FL; rw [V_zero, Nat.zero_div]
          · intro h
            rw [h, Nat.zero_mul] at hm
            by_cases h0 : ru x = 0
            · exact h0
            · have := V_mono (show 0 < ru x by omega); omega
        clear hm hK hpos
        have k2 := f_lt_far x hx (by omega)
        have k3 := f_ge_far x hx (by omega)
        have k4 := f_zero x hx (by omega)
        cases hn : ngB x
        · rw [hn, Bool.false_and] at k2
          rw [hn, Bool.not_false, Bool.true_and] at k3
          by_cases hfar : 9223372036854775808 ≤ FL (ru x)
          · have hv : intV x = (0, false) := by
              unfold intV; rw [if_neg]
              rintro ⟨_, _, h⟩
              rw [hn] at h
              simp only [Bool.false_eq_true, if_false] at h; omega
            rw [hv]
            exact int_stop3 x x w ht h1 k2 (by rw [k3, decide_eq_true (c2.2 hfar)])
          · have hv : intV x = ((FL (ru x) : Int), true) := by
              unfold intV; rw [if_pos, hn]; · rfl
              refine ⟨hfin, hw, ?_⟩
              rw [hn]; simp only [Bool.false_eq_true, if_false]; omega
            rw [hv]
            have h5 := to_int x hx hfin (fun h => by rw [hn] at h; cases h) (fun _ => by omega)
            rw [hn] at h5
            exact int_go x x _ w hx ht h1 k2 (by rw [k3, decide_eq_false (fun h => hfar (c2.1 h))]) (by rw [hn, Bool.and_false]) h5
        · rw [hn, Bool.true_and] at k2
          rw [hn, Bool.not_true, Bool.false_and] at k3
          by_cases hfar : 9223372036854775808 < FL (ru x)
          · have hv : intV x = (0, false) := by
              unfold intV; rw [if_neg]
              rintro ⟨_, _, h⟩
              rw [hn] at h
              simp only [if_true] at h; omega
            rw [hv]
            exact int_stop2 x x w ht h1 (by rw [k2, decide_eq_true (c1.2 hfar)])
          · by_cases h0 : ru x = 0
            · have hv : intV x = (0, false) := by
                unfold intV; rw [if_neg]
                rintro ⟨_, _, h⟩
                rw [hn] at h
                simp only [if_true] at h
                exact h.1 (c3.1 h0)
              rw [hv]
              exact int_stop4 x x w hx hn ht h1 (by rw [k2, decide_eq_false (fun h => hfar (c1.1 h))]) k3 (by rw [k4, decide_eq_true h0])
            · have hv : intV x = (-(FL (ru x) : Int), true) := by
                unfold intV; rw [if_pos, hn]; · rfl
                refine ⟨hfin, hw, ?_⟩
                rw [hn]; simp only [if_true]
                exact ⟨fun h => h0 (c3.2 h), by omega⟩
              rw [hv]
              have h5 := to_int x hx hfin (fun _ => by omega) (fun h => by rw [hn] at h; cases h)
              rw [hn] at h5
              exact int_go x x _ w hx ht h1 (by rw [k2, decide_eq_false (fun h => hfar (c1.1 h))]) k3 (by rw [k4, decide_eq_false h0, Bool.false_and]) h5
      · have hv : intV x = (0, false) := by unfold intV; rw [if_neg (fun h => hw h.2.1)]
        rw [hv]
        obtain ⟨t1, t2, t3, t4⟩ := tr_part x hx hfin hw
        refine int_stop1 x w (ht.mono ?_)
        rintro e w' ⟨rfl, rfl⟩
        refine ⟨⟨_, rfl, ?_⟩, Below.refl _ _⟩
        show (double.order x (trN x) == _) = _
        rw [order_any x _ hx t1 (by omega) t2, cmp_eq, sv_ng, sv_ng, t3]
        refine decide_eq_false ?_
        cases ngB x
        · simp only [Bool.false_eq_true, if_false]; omega
        · simp only [if_true]; omega
end Go.Proofs.YtmhagigokgklaaaGreatDoor

/- Numbers far off; whole floats and powers of ten (plain). -/
namespace Go.Proofs.YtmhagigokgklaaaGreatDoor
open Go Ieee
set_option exponentiation.threshold 5000

theorem V_INF : V INF = 2 ^ 2098 := by decide +kernel
theorem V_max : V (INF - 1) < 2 ^ 2098 := by rw [← V_INF]; exact V_mono (by decide)

theorem near_inf (X Q : Nat) (hq : 0 < Q) (h : Q * 2 ^ 2099 ≤ X) : Near X Q INF := by
  refine ⟨hq, Nat.le_refl _, .inr ⟨?_, fun h => absurd h (by decide)⟩, .inl rfl⟩
  have h1 : V (INF - 1) + V INF ≤ 2 ^ 2099 := by
    have := V_max
    rw [V_INF, show 2 ^ 2099 = 2 ^ 2098 + 2 ^ 2098 by rw [show 2099 = 2098 + 1 by omega, Nat.pow_succ, Nat.mul_two]]
    omega
  exact Nat.le_trans (Nat.mul_le_mul_left Q h1) h

theorem near_zero (X Q : Nat) (hq : 0 < Q) (h : X ≤ Q) : Near X Q 0 := by
  refine ⟨hq, by decide, .inl rfl, .inr ⟨?_, fun h => by omega⟩⟩
  have v1 : V (0 + 1) = 1 := by decide
  rw [v1, V_zero]
  omega

theorem ten_309 : 2 ^ 1024 ≤ 10 ^ 309 := by decide +kernel
theorem ten_324 : 2 ^ 1075 ≤ 10 ^ 324 := by decide +kernel

theorem far_inf (d : Nat) (p : Int) (hd : 1 ≤ d) (hp : 309 ≤ p) : Near (dX d p) (dQ p) INF := by
  refine near_inf _ _ (dQ_pos p) ?_
  unfold dX dQ
  rw [show (-p).toNat = 0 by omega, Nat.pow_zero, Nat.one_mul, show 2 ^ 2099 = 2 * (2 ^ 1024 * 2 ^ 1074) by rw [← Nat.pow_add, ← Nat.pow_succ']]
  refine Nat.mul_le_mul_left 2 (Nat.mul_le_mul_right _ ?_)
  refine Nat.le_trans ten_309 (Nat.le_trans (Nat.pow_le_pow_right (by decide) (show 309 ≤ p.toNat by omega)) ?_)
  exact Nat.le_mul_of_pos_left _ hd

theorem far_zero (d n : Nat) (p : Int) (hd : d < 10 ^ n) (hp : n + p ≤ -324) : Near (dX d p) (dQ p) 0 := by
  refine near_zero _ _ (dQ_pos p) ?_
  unfold dX dQ
  rw [show p.toNat = 0 by omega, Nat.pow_zero, Nat.mul_one]
  have h1 : 2 * (d * 2 ^ 1074) ≤ 10 ^ n * 2 ^ 1075 := by
    rw [show 2 ^ 1075 = 2 * 2 ^ 1074 by rw [← Nat.pow_succ'], Nat.mul_left_comm 2]
    exact Nat.mul_le_mul_right _ (Nat.le_of_lt hd)
  refine Nat.le_trans h1 (Nat.le_trans (Nat.mul_le_mul_left _ ten_324) ?_)
  rw [← Nat.pow_add]
  exact Nat.pow_le_pow_right (by decide) (by omega)

theorem zero_near (p : Int) : Near (dX 0 p) (dQ p) 0 := by
  refine near_zero _ _ (dQ_pos p) ?_
  unfold dX; rw [Nat.zero_mul, Nat.zero_mul]; exact Nat.zero_le _

/-- the powers of ten as floats -/
def p10L : List Nat := [4607182418800017408, 4621819117588971520, 4636737291354636288, 4652007308841189376, 4666723172467343360, 4681608360884174848, 4696837146684686336, 4711630319722168320, 4726483295884279808, 4741671816366391296, 4756540486875873280, 4771362005757984768, 4786511204640096256, 4801453603149578240, 4816244402031689728, 4831355200913801216, 4846369599423283200, 4861130398305394688, 4876203697187506176, 4891288408196988160, 4906019910204099648, 4921056587992461136, 4936209963552724370]
def p10N (k : Nat) : Nat := p10L.getD k 0
theorem p10_all : ∀ k : Fin 23, V (p10N k.val) = 10 ^ k.val * 2 ^ 1074 ∧ p10N k.val < 9218868437227405312 := by decide +kernel
theorem p10_is (k : Nat) (h : k < 23) : V (p10N k) = 10 ^ k * 2 ^ 1074 ∧ p10N k < 9218868437227405312 := p10_all ⟨k, h⟩

/-- a whole number that a float holds -/
theorem near_whole (A r : Nat) (h : A < 9007199254740992) (hn : Near (2 * (A * 2 ^ 1074)) 1 r) : V r = A * 2 ^ 1074 ∧ r < 9218868437227405312 := by
  obtain ⟨r', h1, h2⟩ := whole_rung A h
  have h3 := near_self r' h1
  rw [h2] at h3
  obtain rfl := near_unique hn h3
  refine ⟨h2, ?_⟩
  rcases Nat.lt_or_ge r INF with h4 | h4
  · exact h4
  · have h5 := V_le h4
    rw [V_INF, h2] at h5
    have h6 : A * 2 ^ 1074 < 2 ^ 53 * 2 ^ 1074 := (Nat.mul_lt_mul_right (Nat.two_pow_pos _)).2 h
    rw [← Nat.pow_add] at h6
    have h7 : (2 : Nat) ^ (53 + 1074) ≤ 2 ^ 2098 := Nat.pow_le_pow_right (by decide) (by decide)
    omega

theorem word_f (r : Nat) : double.word false r = r := rfl

theorem conv_nat (m : Nat) (h : m < 9007199254740992) : V (double.nearest false m 0) = m * 2 ^ 1074 ∧ double.nearest false m 0 < 9218868437227405312 := by
  obtain ⟨r, h1, h2⟩ := nearest_is false m
  rw [h1, word_f]
  exact near_whole m r h h2

theorem q15_next : V (4831355200913801216 + 1) ≤ (10 ^ 15 + 1) * 2 ^ 1074 := by decide +kernel
theorem q15_is : V 4831355200913801216 = 10 ^ 15 * 2 ^ 1074 := by decide +kernel
theorem lin_abs {x y a b c : Nat} (h2 : 2 * c ≤ 1 * (x + y)) (v1 : x ≤ b) (v2 : y ≤ a) (h4 : a ≤ c) (h5 : b < a) : False := by omega
/-- a product that is too great is seen as such -/
theorem near_above (A r : Nat) (h : 10 ^ 15 < A) (hn : Near (2 * (A * 2 ^ 1074)) 1 r) : 4831355200913801216 < r := by
  rcases Nat.lt_or_ge 4831355200913801216 r with h1 | h1
  · exact h1
  · exfalso
    rcases hn.hi with h2 | ⟨h2, _⟩
    · unfold INF at h2; omega
    · have v1 := V_le h1
      have v2 := V_le (Nat.add_le_add_right h1 1)
      have v3 := q15_next
      rw [q15_is] at v1
      have h4 : (10 ^ 15 + 1) * 2 ^ 1074 ≤ A * 2 ^ 1074 := Nat.mul_le_mul_right _ h
      have h5 : 10 ^ 15 * 2 ^ 1074 < (10 ^ 15 + 1) * 2 ^ 1074 := (Nat.mul_lt_mul_right (Nat.two_pow_pos _)).2 (by omega)
      exact lin_abs h2 v1 (Nat.le_trans v2 v3) h4 h5
theorem near_within (A r : Nat) (h : A ≤ 10 ^ 15) (hn : Near (2 * (A * 2 ^ 1074)) 1 r) : r ≤ 4831355200913801216 := by
  obtain ⟨h1, h2⟩ := near_whole A r (by omega) hn
  rcases Nat.lt_or_ge 4831355200913801216 r with h3 | h3
  · have h4 := V_mono h3
    rw [q15_is, h1] at h4
    exact absurd (Nat.mul_le_mul_right (2 ^ 1074) h) (Nat.not_le.2 h4)
  · exact h3

theorem ord_gt15 (r : Nat) (h : r ≤ INF) : (FloatKind.f64.format.order r 4831355200913801216 == some Ordering.gt) = decide (4831355200913801216 < r) := by
  show (double.order r 4831355200913801216 == _) = _
  have rr : ru r = r := Nat.mod_eq_of_lt (by unfold INF at h; omega)
  rw [order_any r _ (by unfold INF at h; omega) (by omega) (by rw [rr]; exact h) (by decide), cmp_gt]
  have s1 : sv r = (V r : Int) := by unfold sv; rw [if_neg (by unfold INF at h; omega), rr]
  have s2 : sv 4831355200913801216 = (V 4831355200913801216 : Int) := by unfold sv; rw [if_neg (by omega)]; rfl
  rw [s1, s2, Bool.eq_iff_iff, decide_eq_true_eq, decide_eq_true_eq]
  constructor
  · intro h1
    rcases Nat.lt_or_ge 4831355200913801216 r with h2 | h2
    · exact h2
    · have := V_le h2; omega
  · intro h1
    have := V_mono h1; omega
theorem ord_lt15 (r : Nat) (h : r ≤ INF) : (FloatKind.f64.format.order r 14054727237768577024 == some Ordering.lt) = false := by
  show (double.order r 14054727237768577024 == _) = _
  have rr : ru r = r := Nat.mod_eq_of_lt (by unfold INF at h; omega)
  rw [order_any r _ (by unfold INF at h; omega) (by omega) (by rw [rr]; exact h) (by decide), cmp_lt]
  have s1 : sv r = (V r : Int) := by unfold sv; rw [if_neg (by unfold INF at h; omega), rr]
  have s2 : sv 14054727237768577024 = -(V (ru 14054727237768577024) : Int) := by unfold sv; rw [if_pos (by omega)]
  rw [s1, s2, decide_eq_false_iff_not]
  omega
end Go.Proofs.YtmhagigokgklaaaGreatDoor

/- num.class. -/
namespace Go.Proofs.YtmhagigokgklaaaGreatDoor
open Go Go.RowKit

def clsN (c : Nat) : Nat := if c = 48 then 1 else if 48 ≤ c ∧ c ≤ 57 then 2 else if c = 46 then 3 else if c = 69 ∨ c = 101 then 4 else if c = 43 ∨ c = 45 then 5 else if c = 95 then 6 else 0

theorem or32 (c : Nat) (h : c < 256) : (bits .or .u8 (c : Int) 32 = 101) = (c = 69 ∨ c = 101) := by
  have key : ∀ c : Fin 256, (bits .or .u8 ((c.val : Nat) : Int) 32 = 101) ↔ (c.val = 69 ∨ c.val = 101) := by decide +kernel
  exact propext (key ⟨c, h⟩)

theorem digit_yes (r : Int) (w : World) (h1 : 48 ≤ r) (h2 : r ≤ 57) :
    Calls Tryz.prog 85 #[.int .i32 r] w fun e w' => e = .returned (.bool true) ∧ w' = w := by
  go_enter Tryz.func85, Tryz.ntmps85
  go_wp2_with fail
  go_ret
  exact ⟨ret_bool (by first | rfl | (simp; done) | (simp; omega)), rfl⟩
theorem digit_low (r : Int) (w : World) (h1 : r < 48) :
    Calls Tryz.prog 85 #[.int .i32 r] w fun e w' => e = .returned (.bool false) ∧ w' = w := by
  go_enter Tryz.func85, Tryz.ntmps85
  go_wp2_with fail
  go_ret
  exact ⟨ret_bool (by simp), rfl⟩
theorem digit_high (r : Int) (w : World) (h1 : 57 < r) :
    Calls Tryz.prog 85 #[.int .i32 r] w fun e w' => e = .returned (.bool false) ∧ w' = w := by
  have h0 : 48 ≤ r := by omega
  go_enter Tryz.func85, Tryz.ntmps85
  go_wp2_with fail
  go_ret
  exact ⟨ret_bool (by simp; omega), rfl⟩
theorem digit_no (r : Int) (w : World) (h : ¬ (48 ≤ r ∧ r ≤ 57)) :
    Calls Tryz.prog 85 #[.int .i32 r] w fun e w' => e = .returned (.bool false) ∧ w' = w := by
  by_cases h1 : r < 48
  · exact digit_low r w h1
  · exact digit_high r w (by omega)

set_option maxRecDepth 100000 in
theorem class_0 (c : Nat) (w : World) (_h : c < 256) (hq : c = 48) :
    Calls Tryz.prog 63 #[.int .u8 c] w fun e w' => e = .returned (.int .i64 (clsN c)) ∧ w' = w := by
  have hv : clsN c = 1 := by unfold clsN; repeat (first | rw [if_pos (by omega)] | rw [if_neg (by omega)])
  rw [hv]
  have t0 : ((c : Int) == 48) = true := by rw [beq_iff_eq]; omega
  clear hv hq
  go_enter Tryz.func63, Tryz.ntmps63
  go_wp2_with fail
  go_ret
  exact ⟨rfl, rfl⟩

set_option maxRecDepth 100000 in
theorem class_1 (c : Nat) (w : World) (h : c < 256) (hq : 48 < c ∧ c ≤ 57) :
    Calls Tryz.prog 63 #[.int .u8 c] w fun e w' => e = .returned (.int .i64 (clsN c)) ∧ w' = w := by
  have hv : clsN c = 2 := by unfold clsN; repeat (first | rw [if_pos (by omega)] | rw [if_neg (by omega)])
  rw [hv]
  have HD := Lib.hid (digit_yes c w (by omega) (by omega))
  have t0 : ((c : Int) == 48) = false := by rw [beq_eq_false_iff_ne]; omega
  clear hv hq
  go_enter Tryz.func63, Tryz.ntmps63
  go_wp2_with fail
  refine HD.out.mono ?_
  rintro e w5 ⟨rfl, rfl⟩
  go_wp2_with fail
  go_ret
  exact ⟨rfl, rfl⟩

set_option maxRecDepth 100000 in
theorem class_2 (c : Nat) (w : World) (h : c < 256) (hq : c = 46) :
    Calls Tryz.prog 63 #[.int .u8 c] w fun e w' => e = .returned (.int .i64 (clsN c)) ∧ w' = w := by
  have hv : clsN c = 3 := by unfold clsN; repeat (first | rw [if_pos (by omega)] | rw [if_neg (by omega)])
  rw [hv]
  have HD := Lib.hid (digit_no c w (by omega))
  have t0 : ((c : Int) == 48) = false := by rw [beq_eq_false_iff_ne]; omega
  have t2 : ((c : Int) == 46) = true := by rw [beq_iff_eq]; omega
  clear hv hq
  go_enter Tryz.func63, Tryz.ntmps63
  go_wp2_with fail
  refine HD.out.mono ?_
  rintro e w5 ⟨rfl, rfl⟩
  go_wp2_with fail
  go_ret
  exact ⟨rfl, rfl⟩

set_option maxRecDepth 100000 in
theorem class_3 (c : Nat) (w : World) (h : c < 256) (hq : c = 69 ∨ c = 101) :
    Calls Tryz.prog 63 #[.int .u8 c] w fun e w' => e = .returned (.int .i64 (clsN c)) ∧ w' = w := by
  have hv : clsN c = 4 := by unfold clsN; repeat (first | rw [if_pos (by omega)] | rw [if_neg (by omega)])
  rw [hv]
  have ho := or32 c h
  have HD := Lib.hid (digit_no c w (by omega))
  have t0 : ((c : Int) == 48) = false := by rw [beq_eq_false_iff_ne]; omega
  have t2 : ((c : Int) == 46) = false := by rw [beq_eq_false_iff_ne]; omega
  have t3 : (bits .or .u8 (c : Int) 32 == 101) = true := by rw [beq_iff_eq, ho]; omega
  clear hv ho hq
  go_enter Tryz.func63, Tryz.ntmps63
  go_wp2_with fail
  refine HD.out.mono ?_
  rintro e w5 ⟨rfl, rfl⟩
  go_wp2_with fail
  go_ret
  exact ⟨rfl, rfl⟩

set_option maxRecDepth 100000 in
theorem class_4 (c : Nat) (w : World) (h : c < 256) (hq : c = 43) :
    Calls Tryz.prog 63 #[.int .u8 c] w fun e w' => e = .returned (.int .i64 (clsN c)) ∧ w' = w := by
  have hv : clsN c = 5 := by unfold clsN; repeat (first | rw [if_pos (by omega)] | rw [if_neg (by omega)])
  rw [hv]
  have ho := or32 c h
  have HD := Lib.hid (digit_no c w (by omega))
  have t0 : ((c : Int) == 48) = false := by rw [beq_eq_false_iff_ne]; omega
  have t2 : ((c : Int) == 46) = false := by rw [beq_eq_false_iff_ne]; omega
  have t3 : (bits .or .u8 (c : Int) 32 == 101) = false := by rw [beq_eq_false_iff_ne, ne_eq, ho]; omega
  have t4 : ((c : Int) == 43) = true := by rw [beq_iff_eq]; omega
  clear hv ho hq
  go_enter Tryz.func63, Tryz.ntmps63
  go_wp2_with fail
  refine HD.out.mono ?_
  rintro e w5 ⟨rfl, rfl⟩
  go_wp2_with fail
  go_ret
  exact ⟨rfl, rfl⟩

set_option maxRecDepth 100000 in
theorem class_5 (c : Nat) (w : World) (h : c < 256) (hq : c = 45) :
    Calls Tryz.prog 63 #[.int .u8 c] w fun e w' => e = .returned (.int .i64 (clsN c)) ∧ w' = w := by
  have hv : clsN c = 5 := by unfold clsN; repeat (first | rw [if_pos (by omega)] | rw [if_neg (by omega)])
  rw [hv]
  have ho := or32 c h
  have HD := Lib.hid (digit_no c w (by omega))
  have t0 : ((c : Int) == 48) = false := by rw [beq_eq_false_iff_ne]; omega
  have t2 : ((c : Int) == 46) = false := by rw [beq_eq_false_iff_ne]; omega
  have t3 : (bits .or .u8 (c : Int) 32 == 101) = false := by rw [beq_eq_false_iff_ne, ne_eq, ho]; omega
  have t4 : ((c : Int) == 43) = false := by rw [beq_eq_false_iff_ne]; omega
  have t5 : ((c : Int) == 45) = true := by rw [beq_iff_eq]; omega
  clear hv ho hq
  go_enter Tryz.func63, Tryz.ntmps63
  go_wp2_with fail
  refine HD.out.mono ?_
  rintro e w5 ⟨rfl, rfl⟩
  go_wp2_with fail
  go_ret
  exact ⟨rfl, rfl⟩

set_option maxRecDepth 100000 in
theorem class_6 (c : Nat) (w : World) (h : c < 256) (hq : c = 95) :
    Calls Tryz.prog 63 #[.int .u8 c] w fun e w' => e = .returned (.int .i64 (clsN c)) ∧ w' = w := by
  have hv : clsN c = 6 := by unfold clsN; repeat (first | rw [if_pos (by omega)] | rw [if_neg (by omega)])
  rw [hv]
  have ho := or32 c h
  have HD := Lib.hid (digit_no c w (by omega))
  have t0 : ((c : Int) == 48) = false := by rw [beq_eq_false_iff_ne]; omega
  have t2 : ((c : Int) == 46) = false := by rw [beq_eq_false_iff_ne]; omega
  have t3 : (bits .or .u8 (c : Int) 32 == 101) = false := by rw [beq_eq_false_iff_ne, ne_eq, ho]; omega
  have t4 : ((c : Int) == 43) = false := by rw [beq_eq_false_iff_ne]; omega
  have t5 : ((c : Int) == 45) = false := by rw [beq_eq_false_iff_ne]; omega
  have t6 : ((c : Int) == 95) = true := by rw [beq_iff_eq]; omega
  clear hv ho hq
  go_enter Tryz.func63, Tryz.ntmps63
  go_wp2_with fail
  refine HD.out.mono ?_
  rintro e w5 ⟨rfl, rfl⟩
  go_wp2_with fail
  go_ret
  exact ⟨rfl, rfl⟩

set_option maxRecDepth 100000 in
theorem class_7 (c : Nat) (w : World) (h : c < 256) (hq : ¬ (48 ≤ c ∧ c ≤ 57) ∧ c ≠ 46 ∧ c ≠ 69 ∧ c ≠ 101 ∧ c ≠ 43 ∧ c ≠ 45 ∧ c ≠ 95) :
    Calls Tryz.prog 63 #[.int .u8 c] w fun e w' => e = .returned (.int .i64 (clsN c)) ∧ w' = w := by
  have hv : clsN c = 0 := by unfold clsN; repeat (first | rw [if_pos (by omega)] | rw [if_neg (by omega)])
  rw [hv]
  have ho := or32 c h
  have HD := Lib.hid (digit_no c w (by omega))
  have t0 : ((c : Int) == 48) = false := by rw [beq_eq_false_iff_ne]; omega
  have t2 : ((c : Int) == 46) = false := by rw [beq_eq_false_iff_ne]; omega
  have t3 : (bits .or .u8 (c : Int) 32 == 101) = false := by rw [beq_eq_false_iff_ne, ne_eq, ho]; omega
  have t4 : ((c : Int) == 43) = false := by rw [beq_eq_false_iff_ne]; omega
  have t5 : ((c : Int) == 45) = false := by rw [beq_eq_false_iff_ne]; omega
  have t6 : ((c : Int) == 95) = false := by rw [beq_eq_false_iff_ne]; omega
  clear hv ho hq
  go_enter Tryz.func63, Tryz.ntmps63
  go_wp2_with fail
  refine HD.out.mono ?_
  rintro e w5 ⟨rfl, rfl⟩
  go_wp2_with fail
  go_ret
  exact ⟨rfl, rfl⟩

theorem class_any (c : Nat) (w : World) (h : c < 256) :
    Calls Tryz.prog 63 #[.int .u8 c] w fun e w' => e = .returned (.int .i64 (clsN c)) ∧ w' = w := by
  by_cases q0 : c = 48
  · exact class_0 c w h q0
  by_cases q1 : 48 < c ∧ c ≤ 57
  · exact class_1 c w h q1
  by_cases q2 : c = 46
  · exact class_2 c w h q2
  by_cases q3 : c = 69 ∨ c = 101
  · exact class_3 c w h q3
  by_cases q4 : c = 43
  · exact class_4 c w h q4
  by_cases q5 : c = 45
  · exact class_5 c w h q5
  by_cases q6 : c = 95
  · exact class_6 c w h q6
  exact class_7 c w h (by omega)
end Go.Proofs.YtmhagigokgklaaaGreatDoor

/- num.decimal. -/
namespace Go.Proofs.YtmhagigokgklaaaGreatDoor
open Go Go.RowKit

/-- where a state and a class lead -/
def nextL : List Nat := [0, 0, 0, 0, 0, 0, 0, 0, 2, 3, 5, 0, 0, 0, 0, 0, 0, 12, 8, 0, 0, 0, 3, 3, 12, 8, 0, 4, 0, 3, 3, 0, 0, 0, 0, 0, 6, 6, 0, 0, 0, 0, 0, 6, 6, 0, 8, 0, 7, 0, 6, 6, 0, 0, 0, 0, 0, 10, 10, 0, 0, 9, 0, 0, 10, 10, 0, 0, 0, 0, 0, 10, 10, 0, 0, 0, 11, 0, 10, 10, 0, 0, 0, 0, 0, 6, 6, 0, 8, 0, 0]
def nextN (s c : Nat) : Nat := nextL.getD (s * 7 + c) 0
def nextV : Array Value := (nextL.map fun n => Value.int .i64 (n : Nat)).toArray
def zeroV : Array Value := #[.int .i64 0, .int .i64 0, .int .i64 0, .int .i64 0, .int .i64 0, .int .i64 0, .int .i64 0, .int .i64 0, .int .i64 0, .int .i64 0, .int .i64 0, .int .i64 0, .int .i64 0, .int .i64 0, .int .i64 0, .int .i64 0, .int .i64 0, .int .i64 0, .int .i64 0, .int .i64 0, .int .i64 0, .int .i64 0, .int .i64 0, .int .i64 0, .int .i64 0, .int .i64 0, .int .i64 0, .int .i64 0, .int .i64 0, .int .i64 0, .int .i64 0, .int .i64 0, .int .i64 0, .int .i64 0, .int .i64 0, .int .i64 0, .int .i64 0, .int .i64 0, .int .i64 0, .int .i64 0, .int .i64 0, .int .i64 0, .int .i64 0, .int .i64 0, .int .i64 0, .int .i64 0, .int .i64 0, .int .i64 0, .int .i64 0, .int .i64 0, .int .i64 0, .int .i64 0, .int .i64 0, .int .i64 0, .int .i64 0, .int .i64 0, .int .i64 0, .int .i64 0, .int .i64 0, .int .i64 0, .int .i64 0, .int .i64 0, .int .i64 0, .int .i64 0, .int .i64 0, .int .i64 0, .int .i64 0, .int .i64 0, .int .i64 0, .int .i64 0, .int .i64 0, .int .i64 0, .int .i64 0, .int .i64 0, .int .i64 0, .int .i64 0, .int .i64 0, .int .i64 0, .int .i64 0, .int .i64 0, .int .i64 0, .int .i64 0, .int .i64 0, .int .i64 0, .int .i64 0, .int .i64 0, .int .i64 0, .int .i64 0, .int .i64 0, .int .i64 0, .int .i64 0]

set_option maxRecDepth 100000 in
theorem next_build (W : World) : (Instr.build 91 #[(1, .agg #[.int .i64 0, .int .i64 2, .int .i64 3, .int .i64 5, .int .i64 0, .int .i64 0, .int .i64 0]), (2, .agg #[.int .i64 0, .int .i64 0, .int .i64 0, .int .i64 12, .int .i64 8, .int .i64 0, .int .i64 0]), (3, .agg #[.int .i64 0, .int .i64 3, .int .i64 3, .int .i64 12, .int .i64 8, .int .i64 0, .int .i64 4]), (4, .agg #[.int .i64 0, .int .i64 3, .int .i64 3, .int .i64 0, .int .i64 0, .int .i64 0, .int .i64 0]), (5, .agg #[.int .i64 0, .int .i64 6, .int .i64 6, .int .i64 0, .int .i64 0, .int .i64 0, .int .i64 0]), (6, .agg #[.int .i64 0, .int .i64 6, .int .i64 6, .int .i64 0, .int .i64 8, .int .i64 0, .int .i64 7]), (7, .agg #[.int .i64 0, .int .i64 6, .int .i64 6, .int .i64 0, .int .i64 0, .int .i64 0, .int .i64 0]), (8, .agg #[.int .i64 0, .int .i64 10, .int .i64 10, .int .i64 0, .int .i64 0, .int .i64 9, .int .i64 0]), (9, .agg #[.int .i64 0, .int .i64 10, .int .i64 10, .int .i64 0, .int .i64 0, .int .i64 0, .int .i64 0]), (10, .agg #[.int .i64 0, .int .i64 10, .int .i64 10, .int .i64 0, .int .i64 0, .int .i64 0, .int .i64 11]), (11, .agg #[.int .i64 0, .int .i64 10, .int .i64 10, .int .i64 0, .int .i64 0, .int .i64 0, .int .i64 0]), (12, .agg #[.int .i64 0, .int .i64 6, .int .i64 6, .int .i64 0, .int .i64 8, .int .i64 0, .int .i64 0])]).run Tryz.prog W = .ok (.agg nextV) W := by kernel_rfl
theorem next_store (W : World) : (Instr.storeAt 91 (.pointer (some ⟨W.heap.size, 0, Option.none⟩)) (.agg nextV)).run Tryz.prog (W.alloc (.cells zeroV 91)) = .ok () (W.alloc (.cells nextV 91)) :=
  run_storeAt_new W _ zeroV nextV (by kernel_rfl) (by kernel_rfl) (by kernel_rfl)
theorem next_size : nextV.size = 91 := by kernel_rfl
theorem next_cells (W : World) : (storeCells ⟨W.heap.size, 0, Option.none⟩ nextV.toList 0).run Tryz.prog (W.alloc (.cells zeroV 91)) = .ok () (W.alloc (.cells nextV 91)) :=
  run_storeCells_new W _ zeroV nextV (by kernel_rfl) (by rfl) (by kernel_rfl)
theorem addr_add (b o k : Nat) : Addr.add ⟨b, o, Option.none⟩ k = ⟨b, o + k, Option.none⟩ := by unfold Addr.add; split <;> simp_all
theorem at_row (W : World) (b o q : Nat) (h : q < 13) : (Instr.indexAt 91 (.pointer (some ⟨b, o, Option.none⟩)) (.int .i64 (q : Nat))).run Tryz.prog W = .ok (.pointer (some ⟨b, o + q * 7, Option.none⟩)) W := by
  have hl : Tryz.prog.arrayLen 91 = 13 := by kernel_rfl
  have hs : (sizeOf (Tryz.prog.elem 91)).run Tryz.prog W = .ok 7 W := by kernel_rfl
  rw [run_indexAt_array (h := by kernel_rfl), hl, if_pos (by omega), hs]
  show Result.ok (Value.pointer (some (Addr.add ⟨b, o, Option.none⟩ ((q : Int).toNat * 7)))) W = _
  rw [Int.toNat_natCast, addr_add]
theorem at_cell (W : World) (b o q : Nat) (h : q < 7) : (Instr.indexAt 90 (.pointer (some ⟨b, o, Option.none⟩)) (.int .i64 (q : Nat))).run Tryz.prog W = .ok (.pointer (some ⟨b, o + q, Option.none⟩)) W := by
  have hl : Tryz.prog.arrayLen 90 = 7 := by kernel_rfl
  have hs : (sizeOf (Tryz.prog.elem 90)).run Tryz.prog W = .ok 1 W := by kernel_rfl
  rw [run_indexAt_array (h := by kernel_rfl), hl, if_pos (by omega), hs]
  show Result.ok (Value.pointer (some (Addr.add ⟨b, o, Option.none⟩ ((q : Int).toNat * 1)))) W = _
  rw [Int.toNat_natCast, addr_add, Nat.mul_one]
theorem next_is (i : Nat) (h : i < 91) : nextV[i]? = some (.int .i64 ((nextL.getD i 0 : Nat) : Int)) := by
  have hl : i < nextL.length := h
  unfold nextV
  rw [List.getElem?_toArray, List.getElem?_map, List.getElem?_eq_getElem hl, List.getD_eq_getElem?_getD, List.getElem?_eq_getElem hl]
  rfl
theorem row_1 (W : World) : (Instr.build 90 #[(1, .int .i64 2), (2, .int .i64 3), (3, .int .i64 5)]).run Tryz.prog W = .ok (.agg #[.int .i64 0, .int .i64 2, .int .i64 3, .int .i64 5, .int .i64 0, .int .i64 0, .int .i64 0]) W := by kernel_rfl
theorem row_2 (W : World) : (Instr.build 90 #[(3, .int .i64 12), (4, .int .i64 8)]).run Tryz.prog W = .ok (.agg #[.int .i64 0, .int .i64 0, .int .i64 0, .int .i64 12, .int .i64 8, .int .i64 0, .int .i64 0]) W := by kernel_rfl
theorem row_3 (W : World) : (Instr.build 90 #[(1, .int .i64 3), (2, .int .i64 3), (3, .int .i64 12), (4, .int .i64 8), (6, .int .i64 4)]).run Tryz.prog W = .ok (.agg #[.int .i64 0, .int .i64 3, .int .i64 3, .int .i64 12, .int .i64 8, .int .i64 0, .int .i64 4]) W := by kernel_rfl
theorem row_4 (W : World) : (Instr.build 90 #[(1, .int .i64 3), (2, .int .i64 3)]).run Tryz.prog W = .ok (.agg #[.int .i64 0, .int .i64 3, .int .i64 3, .int .i64 0, .int .i64 0, .int .i64 0, .int .i64 0]) W := by kernel_rfl
theorem row_5 (W : World) : (Instr.build 90 #[(1, .int .i64 6), (2, .int .i64 6)]).run Tryz.prog W = .ok (.agg #[.int .i64 0, .int .i64 6, .int .i64 6, .int .i64 0, .int .i64 0, .int .i64 0, .int .i64 0]) W := by kernel_rfl
theorem row_6 (W : World) : (Instr.build 90 #[(1, .int .i64 6), (2, .int .i64 6), (4, .int .i64 8), (6, .int .i64 7)]).run Tryz.prog W = .ok (.agg #[.int .i64 0, .int .i64 6, .int .i64 6, .int .i64 0, .int .i64 8, .int .i64 0, .int .i64 7]) W := by kernel_rfl
theorem row_8 (W : World) : (Instr.build 90 #[(1, .int .i64 10), (2, .int .i64 10), (5, .int .i64 9)]).run Tryz.prog W = .ok (.agg #[.int .i64 0, .int .i64 10, .int .i64 10, .int .i64 0, .int .i64 0, .int .i64 9, .int .i64 0]) W := by kernel_rfl
theorem row_9 (W : World) : (Instr.build 90 #[(1, .int .i64 10), (2, .int .i64 10)]).run Tryz.prog W = .ok (.agg #[.int .i64 0, .int .i64 10, .int .i64 10, .int .i64 0, .int .i64 0, .int .i64 0, .int .i64 0]) W := by kernel_rfl
theorem row_10 (W : World) : (Instr.build 90 #[(1, .int .i64 10), (2, .int .i64 10), (6, .int .i64 11)]).run Tryz.prog W = .ok (.agg #[.int .i64 0, .int .i64 10, .int .i64 10, .int .i64 0, .int .i64 0, .int .i64 0, .int .i64 11]) W := by kernel_rfl
theorem row_12 (W : World) : (Instr.build 90 #[(1, .int .i64 6), (2, .int .i64 6), (4, .int .i64 8)]).run Tryz.prog W = .ok (.agg #[.int .i64 0, .int .i64 6, .int .i64 6, .int .i64 0, .int .i64 8, .int .i64 0, .int .i64 0]) W := by kernel_rfl

theorem cls_lt (c : Nat) : clsN c < 7 := by
  unfold clsN
  repeat (split; · omega)
  omega
/-- the state behind a text -/
def stN (l : List UInt8) : Nat := l.foldl (fun q c => nextN q (clsN c.toNat)) 1
def endB (q : Nat) : Bool := q == 2 || q == 3 || q == 6 || q == 10 || q == 12
/-- a decimal number -/
def decB (l : List UInt8) : Bool := endB (stN l)

theorem next_lt : ∀ q c, nextN q c < 13 := by
  intro q c
  unfold nextN
  by_cases h : q * 7 + c < 91
  · have key : ∀ i : Fin 91, nextL.getD i.val 0 < 13 := by decide +kernel
    exact key ⟨_, h⟩
  · rw [List.getD_eq_getElem?_getD, List.getElem?_eq_none (by show nextL.length ≤ _; exact Nat.not_lt.1 h)]; decide
theorem next_zero (c : Nat) (h : c < 7) : nextN 0 c = 0 := by
  have key : ∀ i : Fin 7, nextN 0 i.val = 0 := by decide +kernel
  exact key ⟨c, h⟩
theorem fold_zero : ∀ l : List UInt8, l.foldl (fun q c => nextN q (clsN c.toNat)) 0 = 0
  | [] => rfl
  | x :: l => by rw [List.foldl_cons, next_zero _ (cls_lt _)]; exact fold_zero l
theorem st_step (s : ByteArray) (k : Nat) (h : k < s.size) : stN (s.data.toList.take (k + 1)) = nextN (stN (s.data.toList.take k)) (clsN (s[k].toNat)) := by
  have hl : k < s.data.toList.length := by simpa using h
  unfold stN
  rw [List.take_succ_eq_append_getElem hl, List.foldl_append]
  rfl
theorem st_stop (s : ByteArray) (k : Nat) (h : stN (s.data.toList.take k) = 0) : decB s.data.toList = false := by
  unfold decB
  have : stN s.data.toList = 0 := by
    conv => lhs; rw [← List.take_append_drop k s.data.toList]
    unfold stN at *
    rw [List.foldl_append, h]; exact fold_zero _
  rw [this]; rfl

attribute [-go_sem] Instr.build in
set_option maxRecDepth 100000 in
set_option maxHeartbeats 1000000 in
theorem decimal_any (s : ByteArray) (w : World) (hs : s.size ≤ 1000) :
    Calls Tryz.prog 24 #[.string s] w fun e w' => e = .returned (.bool (decB s.data.toList)) ∧ Below w.heap.size w w' := by
  have hb := next_build
  have hsz := next_size
  have hst := next_cells
  have hr1 := row_1
  have hr2 := row_2
  have hr3 := row_3
  have hr4 := row_4
  have hr5 := row_5
  have hr6 := row_6
  have hr8 := row_8
  have hr9 := row_9
  have hr10 := row_10
  have hr12 := row_12
  rw [show zeroV = Tryz.zeroCells91 from by kernel_rfl] at hst
  have hnx : ∀ i, i < 91 → nextV[i]? = some (.int .i64 ((nextL.getD i 0 : Nat) : Int)) := next_is
  generalize nextV = NV at *
  go_enter Tryz.func24, Tryz.ntmps24
  go_wp2_with fail
  go_loopw [4, 5, 21] (fun st _ i wr => ∃ k q : Nat, k ≤ s.size ∧ q < 13 ∧ q = stN (s.data.toList.take k) ∧ st = .int .i64 q ∧ i = .int .i64 k ∧ Below w.heap.size w wr ∧ wr.heap[w.heap.size]? = some (.cells NV 91 (0, 0))) (fun _ _ i _ => s.size - (intOf i).toNat)
  case atStart => exact ⟨0, 1, Nat.zero_le _, by decide, by simp [stN], rfl, rfl, (Below.refl _ _).alloc (Nat.le_refl _) _, heap_alloc_last w _⟩
  case round =>
    obtain ⟨k, q, hk, hq, hst2, rfl, rfl, hb, hcell⟩ := hrel
    have HST := Lib.hid hst2
    have HBW := Lib.hid hb
    clear hst2 hb
    by_cases hks : k < s.size
    · have hc7 : clsN (s[k].toNat) < 7 := cls_lt _
      have hc := class_any (s[k].toNat)
      have h256 : s[k].toNat < 256 := s[k].toNat_lt
      have HCL := Lib.hid (fun (W : World) => hc W h256)
      generalize hcc : clsN (s[k].toNat) = c at *
      have hcl : wr.cell? ⟨w.heap.size, q * 7 + c, Option.none⟩ = some (.int .i64 (nextN q c : Nat)) := by
        rw [cell_of_row wr w.heap.size _ _ _ _ hcell]
        exact hnx _ (by omega)
      have HS1 := Lib.hid (st_step s k hks)
      rw [hcc, ← HST.out] at HS1
      have hz13 := next_lt q c
      have HCE := Lib.hid hcell
      generalize nextN q c = z at *
      clear hc h256 hcell
      have hro := fun W => at_row W w.heap.size 0 q hq
      rw [Nat.zero_add] at hro
      have hce := fun W => at_cell W w.heap.size (q * 7) c hc7
      by_cases hz : z = 0
      · subst hz
        have HF : Hid (decB s.data.toList = false) := Lib.hid (st_stop s (k + 1) HS1.out)
        go_wp2_with fail
        go_quiet ((go_at_call 63; exact Calls.quiet_of_same (HCL.out _)))
        go_wp2
        go_ret
        exact ⟨ret_bool HF.out.symm, bDrewN HBW.out _⟩
      · have hz2 : ((z : Int) == 0) = false := by rw [beq_eq_false_iff_ne]; omega
        have hz3 : ((z : Int) = 0) = False := by simp; omega
        go_wp2_with fail
        go_quiet ((go_at_call 63; exact Calls.quiet_of_same (HCL.out _)))
        go_wp2
        go_roundw
        case rel => exact ⟨k + 1, z, by omega, hz13, HS1.out.symm, rfl, by go_num, bDrewN HBW.out _, HCE.out⟩
        case measure => simp [RowKit.intOf] <;> omega
    · have hke : k = s.size := by omega
      have HE : Hid (decB s.data.toList = endB q) := Lib.hid (by
        unfold decB
        rw [HST.out, hke, List.take_of_length_le (by simp)])
      clear hke HST
      have h13 : q = 0 ∨ q = 1 ∨ q = 2 ∨ q = 3 ∨ q = 4 ∨ q = 5 ∨ q = 6 ∨ q = 7 ∨ q = 8 ∨ q = 9 ∨ q = 10 ∨ q = 11 ∨ q = 12 := by omega
      rcases h13 with rfl | rfl | rfl | rfl | rfl | rfl | rfl | rfl | rfl | rfl | rfl | rfl | rfl
      all_goals
        go_wp2_with fail
        go_ret
        exact ⟨ret_bool HE.out.symm, HBW.out⟩
end Go.Proofs.YtmhagigokgklaaaGreatDoor
