/- Joined texts: Vr Pi Pe Pg Pj Pp. Each begins with its own remark. -/
import Derived.Test.YtckaoeloofbklaaGreatDoorZm
import Derived.Lib.AtoiErrMem
import Derived.Test.YtckaoeloofbklaaGreatDoorZh
import Derived.Test.YtckaoeloofbklaaGreatDoorZi
import Derived.OwnWalk
import Derived.Deep.RegionHeld
import Derived.Deep.QuietTactic
import Derived.BigQuiet
import Derived.Deep.DeepCutAuto
import Derived.Deep.LoopGhost
import Derived.WalkMore
import Derived.Deep.CutBlock
import Derived.Lib.ConvBytes
import Derived.Test.YtckaoeloofbklaaGreatDoorZd
import Derived.Laws.BitsAllLaws
import Derived.Lib.DecodeN
import Derived.Lib.MapLaws
import Derived.Test.YtckaoeloofbklaaGreatDoorZc
import Derived.Maps.OwnSet
import Derived.Maps.OwnOps

/- num.Show. -/
namespace Go.Proofs.YtckaoeloofbklaaGreatDoor
open Go Go.RowKit Go.Sort Go.Lib

/-- the library's tables, and the bound of its searches -/
structure Globs (w : World) : Prop where
  glob : Glob w
  mlen : ∃ m : Int, w.cell? ⟨9, 0, Option.none⟩ = some (.int .i64 m)

theorem Globs.below {w w' : World} {B : Nat} (h : Globs w) (hB : 17 ≤ B) (hb : Below B w w') : Globs w' := by
  obtain ⟨m, hm⟩ := h.mlen
  exact ⟨h.glob.below hB hb, m, (hb.cell (p := ⟨9, 0, Option.none⟩) (Nat.lt_of_lt_of_le (by decide) hB)).trans hm⟩
theorem Globs.on {w w' : World} (h : Globs w) (hb : Below w.heap.size w w') : Globs w' := h.below h.glob.lt hb

def sgS (x : Nat) : ByteArray := if ngB x then ⟨#[45]⟩ else ⟨#[]⟩

theorem show_nan_eq (x : Nat) (h : 9218868437227405312 < ru x) : showB x = nanB := by
  unfold showB; exact if_pos h
theorem show_sgn (x : Nat) (h : ru x ≤ 9218868437227405312) : showB x = (if ngB x then [45] else []) ++ (if ru x = 9218868437227405312 then infB else if ru x = 0 then [48] else showA (ru x)) := by
  unfold showB
  rw [if_neg (show ¬ 9218868437227405312 < x % 9223372036854775808 from Nat.not_lt.2 h)]
  unfold ngB
  by_cases hx : x < 9223372036854775808
  · rw [if_pos hx, decide_eq_false (by omega)]; rfl
  · rw [if_neg hx, decide_eq_true (by omega)]; rfl

set_option maxRecDepth 100000 in
set_option maxHeartbeats 1000000 in
theorem show_nan (x : Nat) (w : World) (hx : x < 18446744073709551616) (h : 9218868437227405312 < ru x) :
    Calls Tryz.prog 69 #[.int .u64 x] w fun e w' => e = .returned (.string ⟨(showB x).toArray⟩) ∧ Below w.heap.size w w' := by
  rw [show_nan_eq x h]
  have hb := run_mfrom x
  have h1 : (FloatKind.f64.format.order x x == some Ordering.eq) = false := by rw [f_self x hx, decide_eq_false (by omega)]
  have h2 : (FloatKind.f64.format.order x x != some Ordering.eq) = true := by rw [bne, h1]; rfl
  have HS := Lib.hid (signbit_any x w hx)
  cases hn : ngB x <;> rw [hn] at HS
  all_goals
    clear hn
    go_enter Tryz.func69, Tryz.ntmps69
    go_wp2_with fail
    refine HS.out.mono ?_
    rintro e w5 ⟨rfl, rfl⟩
    go_wp2_with fail
    go_ret
    exact ⟨rfl, Below.refl _ _⟩

set_option maxRecDepth 100000 in
set_option maxHeartbeats 1000000 in
theorem show_inf (x : Nat) (w : World) (hx : x < 18446744073709551616) (h : ru x = 9218868437227405312) :
    Calls Tryz.prog 69 #[.int .u64 x] w fun e w' => e = .returned (.string ⟨(showB x).toArray⟩) ∧ Below w.heap.size w w' := by
  rw [show_sgn x (by omega), if_pos h]
  have hb := run_mfrom x
  have h1 : (FloatKind.f64.format.order x x == some Ordering.eq) = true := by rw [f_self x hx, decide_eq_true (by omega)]
  have h2 : (FloatKind.f64.format.order x x != some Ordering.eq) = false := by rw [bne, h1]; rfl
  have HS := Lib.hid (signbit_any x w hx)
  have HI := Lib.hid (isinf_any x w hx (by omega))
  rw [decide_eq_true h] at HI
  cases hn : ngB x <;> rw [hn] at HS
  all_goals
    clear hn
    go_enter Tryz.func69, Tryz.ntmps69
    go_wp2_with fail
    refine HS.out.mono ?_
    rintro e w5 ⟨rfl, rfl⟩
    go_wp2_with fail
    refine HI.out.mono ?_
    rintro e w5 ⟨rfl, rfl⟩
    go_wp2_with fail
    go_ret
    exact ⟨rfl, Below.refl _ _⟩

set_option maxRecDepth 100000 in
set_option maxHeartbeats 1000000 in
theorem show_zero (x : Nat) (w : World) (hx : x < 18446744073709551616) (h : ru x = 0) :
    Calls Tryz.prog 69 #[.int .u64 x] w fun e w' => e = .returned (.string ⟨(showB x).toArray⟩) ∧ Below w.heap.size w w' := by
  rw [show_sgn x (by omega), if_neg (show ¬ ru x = 9218868437227405312 by omega), if_pos h]
  have hb := run_mfrom x
  have h1 : (FloatKind.f64.format.order x x == some Ordering.eq) = true := by rw [f_self x hx, decide_eq_true (by omega)]
  have h2 : (FloatKind.f64.format.order x x != some Ordering.eq) = false := by rw [bne, h1]; rfl
  have h3 : (FloatKind.f64.format.order x 0 == some Ordering.eq) = true := by rw [f_zero x hx (by omega), decide_eq_true h]
  have HS := Lib.hid (signbit_any x w hx)
  have HI := Lib.hid (isinf_any x w hx (by omega))
  rw [decide_eq_false (show ¬ ru x = 9218868437227405312 by omega)] at HI
  cases hn : ngB x <;> rw [hn] at HS
  all_goals
    clear hn
    go_enter Tryz.func69, Tryz.ntmps69
    go_wp2_with fail
    refine HS.out.mono ?_
    rintro e w5 ⟨rfl, rfl⟩
    go_wp2_with fail
    refine HI.out.mono ?_
    rintro e w5 ⟨rfl, rfl⟩
    go_wp2_with fail
    go_ret
    exact ⟨rfl, Below.refl _ _⟩

theorem placed_len (d : List UInt8) (p : Int) (h1 : d.length ≤ 20) (h2 : -5000 ≤ p) (h3 : p ≤ 5000) : (placedB d p).length ≤ 1000 := by
  have h4 : (decDigits (p - 1).natAbs).length ≤ 20 := by
    rw [decDigits_length]
    by_cases h0 : (p - 1).natAbs = 0
    · rw [h0, nDigits_small (by omega)]; omega
    · exact nDigits_le _ (by omega) (by omega)
  unfold placedB expS
  split
  · rw [List.length_append, List.length_replicate]; omega
  · split
    · rw [List.length_append, List.length_cons, List.length_take, List.length_drop]; omega
    · split
      · rw [List.length_cons, List.length_cons, List.length_append, List.length_replicate]; omega
      · rw [List.length_append, List.length_cons, List.length_cons]
        split
        · rw [List.length_append, List.length_cons, List.length_take, List.length_drop]; omega
        · omega

theorem ba_size (l : List UInt8) : (⟨l.toArray⟩ : ByteArray).size = l.length := rfl

theorem fmt_cut_run (y : Nat) (w : World) (hg : Globs w) (h1 : 0 < y) (h2 : y < 9218868437227405312) :
    Calls Tryz.prog 101 #[.string ⟨(fmtB y).toArray⟩, .string ⟨#[101]⟩] w fun e w' => e = .returned (.tuple #[.string ⟨(mantB (sig (shN y).1)).toArray⟩, .string ⟨(expB ((nDigits (shN y).1 : Nat) + (shN y).2 - 1)).toArray⟩, .bool true]) ∧ Below w.heap.size w w' := by
  obtain ⟨m, hm⟩ := hg.mlen
  refine (Tryz.strings_Cut ⟨(fmtB y).toArray⟩ ⟨#[101]⟩ m w (by rw [ba_size]; have := fmt_len y h1 h2; omega) hm).mono ?_
  rintro e w' ⟨he, n, rfl⟩
  rw [show (⟨#[101]⟩ : ByteArray).data.toList = [101] from rfl, fmt_cut y h1 h2] at he
  exact ⟨he, bDrewN (Below.refl _ _) n⟩

theorem mant_rep_run (y : Nat) (w : World) (hg : Globs w) (h1 : 0 < y) (h2 : y < 9218868437227405312) :
    Calls Tryz.prog 102 #[.string ⟨(mantB (sig (shN y).1)).toArray⟩, .string ⟨#[46]⟩, .string ⟨#[]⟩, .int .i64 1] w fun e w' => e = .returned (.string ⟨(sig (shN y).1).toArray⟩) ∧ Below w.heap.size w w' := by
  obtain ⟨m, hm⟩ := hg.mlen
  obtain ⟨h3, h4, _⟩ := sh_bounds y h1 h2
  have h5 := (sig_len _ h3 h4).2
  have h6 := mant_len (sig (shN y).1)
  refine (Tryz.strings_Replace ⟨(mantB (sig (shN y).1)).toArray⟩ ⟨#[46]⟩ ⟨#[]⟩ 1 m w (by rw [ba_size]; omega) hm (by decide) (by rw [ba_size, show (⟨#[]⟩ : ByteArray).size = 0 from rfl]; omega)).mono ?_
  rintro e w' ⟨he, hb⟩
  rw [show (⟨#[46]⟩ : ByteArray).data.toList = [46] from rfl, show (⟨#[]⟩ : ByteArray).data.toList = [] from rfl, mant_back _ (sig_digs _)] at he
  exact ⟨he, hb⟩

theorem exp_run (x : Int) (w : World) (h : x.natAbs < 1000) :
    Calls Tryz.prog 103 #[.string ⟨(expB x).toArray⟩] w fun e w' => e = .returned (.tuple #[.int .i64 x, .nilIface]) ∧ Below w.heap.size w w' := by
  refine (Tryz.strconv_Atoi ⟨(expB x).toArray⟩ x (by rw [ba_size]; have := exp_len x; omega) (atoi_exp x h) w).mono ?_
  rintro e w' ⟨he, t, rfl⟩
  exact ⟨he, bytesWorld_below w _ t⟩

set_option maxRecDepth 100000 in
set_option maxHeartbeats 1000000 in
theorem show_num (x : Nat) (w : World) (hg : Globs w) (hx : x < 18446744073709551616) (h : 0 < ru x) (h' : ru x < 9218868437227405312) :
    Calls Tryz.prog 69 #[.int .u64 x] w fun e w' => e = .returned (.string ⟨(showB x).toArray⟩) ∧ Below w.heap.size w w' := by
  rw [show_sgn x (by omega), if_neg (show ¬ ru x = 9218868437227405312 by omega), if_neg (show ¬ ru x = 0 by omega)]
  have hb := run_mfrom x
  have h1 : (FloatKind.f64.format.order x x == some Ordering.eq) = true := by rw [f_self x hx, decide_eq_true (by omega)]
  have h2 : (FloatKind.f64.format.order x x != some Ordering.eq) = false := by rw [bne, h1]; rfl
  have h3 : (FloatKind.f64.format.order x 0 == some Ordering.eq) = false := by rw [f_zero x hx (by omega), decide_eq_false (by omega)]
  have HS := Lib.hid (signbit_any x w hx)
  have HI := Lib.hid (isinf_any x w hx (by omega))
  rw [decide_eq_false (show ¬ ru x = 9218868437227405312 by omega)] at HI
  have HA := Lib.hid (abs_any x w hx)
  have HF := Lib.hid (format_any (ru x) w hg.glob h h')
  have HG := Lib.hid (fun (w' : World) (hb : Below w.heap.size w w') => hg.on hb)
  have HC := Lib.hid (fun (w' : World) (hb : Globs w') => fmt_cut_run (ru x) w' hb h h')
  have HR := Lib.hid (fun (w' : World) (hb : Globs w') => mant_rep_run (ru x) w' hb h h')
  obtain ⟨b1, b2, b3⟩ := sh_bounds (ru x) h h'
  have b4 := sig_len _ b1 b2
  have HX := Lib.hid (fun (w' : World) => exp_run ((nDigits (shN (ru x)).1 : Nat) + (shN (ru x)).2 - 1) w' b3)
  have hp : (nDigits (shN (ru x)).1 : Nat) + (shN (ru x)).2 - 1 + 1 = (nDigits (shN (ru x)).1 : Nat) + (shN (ru x)).2 := by omega
  have HP := Lib.hid (fun (w' : World) (hb : Globs w') => placed_any ⟨(sig (shN (ru x)).1).toArray⟩ ((nDigits (shN (ru x)).1 : Nat) + (shN (ru x)).2 - 1 + 1) w' hb.glob (by rw [ba_size]; omega) (by rw [ba_size]; omega) (by omega) (by omega))
  rw [hp] at HP
  change Hid (∀ (w' : World) (_ : Globs w'), Calls Tryz.prog 104 #[.string ⟨(sig (shN (ru x)).1).toArray⟩, .int .i64 ((nDigits (shN (ru x)).1 : Nat) + (shN (ru x)).2)] w' fun e w'' => e = .returned (.string ⟨(showA (ru x)).toArray⟩) ∧ Below w'.heap.size w' w'') at HP
  have hq : ((nDigits (shN (ru x)).1 : Nat) + (shN (ru x)).2).natAbs < 2000 := by omega
  have hzl : (⟨(showA (ru x)).toArray⟩ : ByteArray).size ≤ 1000 := by
    exact placed_len _ _ b4.2 (by omega) (by omega)
  have hR : sgS x ++ (⟨(showA (ru x)).toArray⟩ : ByteArray) = ⟨((if ngB x then [45] else []) ++ showA (ru x)).toArray⟩ := by
    refine str_is ?_
    unfold sgS
    cases ngB x <;> simp
  generalize (⟨((if ngB x then [45] else []) ++ showA (ru x)).toArray⟩ : ByteArray) = R at *
  generalize (⟨(showA (ru x)).toArray⟩ : ByteArray) = RR at *
  unfold sgS at hR
  generalize ((nDigits (shN (ru x)).1 : Nat) + (shN (ru x)).2 : Int) = q at *
  generalize expB (q - 1) = EE at *
  generalize sig (shN (ru x)).1 = SS at *
  generalize mantB SS = MM at *
  generalize fmtB (ru x) = FF at *
  cases hn : ngB x <;> rw [hn] at HS hR
  all_goals
    simp only [if_true, Bool.false_eq_true, if_false] at hR
    clear hn b1 b2 b3 b4 hp
    go_enter Tryz.func69, Tryz.ntmps69
    go_wp2_with fail
    refine HS.out.mono ?_
    rintro e w5 ⟨rfl, rfl⟩
    go_wp2_with fail
    refine HI.out.mono ?_
    rintro e w5 ⟨rfl, rfl⟩
    go_wp2_with fail
    refine HA.out.mono ?_
    rintro e w5 ⟨rfl, rfl⟩
    go_wp2_with fail
    refine HF.out.mono ?_
    rintro e w6 ⟨rfl, hb6⟩
    have HB6 := Lib.hid hb6
    clear hb6
    go_wp2_with fail
    refine (HC.out _ (HG.out _ HB6.out)).mono ?_
    rintro e w7 ⟨rfl, hb7⟩
    have HB7 := Lib.hid (HB6.out.trans (hb7.mono HB6.out.size))
    clear hb7
    go_wp2_with fail
    refine (HR.out _ (HG.out _ HB7.out)).mono ?_
    rintro e w8 ⟨rfl, hb8⟩
    have HB8 := Lib.hid (HB7.out.trans (hb8.mono HB7.out.size))
    clear hb8
    go_wp2_with fail
    refine (HX.out _).mono ?_
    rintro e w9 ⟨rfl, hb9⟩
    have HB9 := Lib.hid (HB8.out.trans (hb9.mono HB8.out.size))
    clear hb9
    go_wp2_with fail
    refine (HP.out _ (HG.out _ HB9.out)).mono ?_
    rintro e wa ⟨rfl, hba⟩
    have HBa := Lib.hid (HB9.out.trans (hba.mono HB9.out.size))
    clear hba
    go_wp2_with fail
    go_ret
    exact ⟨rfl, HBa.out⟩

/-- Show, at every number -/
theorem show_any (x : Nat) (w : World) (hg : Globs w) (hx : x < 18446744073709551616) :
    Calls Tryz.prog 69 #[.int .u64 x] w fun e w' => e = .returned (.string ⟨(showB x).toArray⟩) ∧ Below w.heap.size w w' := by
  by_cases h1 : 9218868437227405312 < ru x
  · exact show_nan x w hx h1
  · by_cases h2 : ru x = 9218868437227405312
    · exact show_inf x w hx h2
    · by_cases h3 : ru x = 0
      · exact show_zero x w hx h3
      · exact show_num x w hg hx (by omega) (by omega)
end Go.Proofs.YtckaoeloofbklaaGreatDoor

/- ParseFloat of decimal texts whose digits are all held. -/
namespace Go.Proofs.YtckaoeloofbklaaGreatDoor
open Go Go.RowKit

set_option maxRecDepth 100000 in
set_option maxHeartbeats 4000000 in
theorem special_no (s : ByteArray) (w : World) (h0 : 0 < s.size) (hs : s.size ≤ 1000) (hb : s[0].toNat = 46 ∨ (48 ≤ s[0].toNat ∧ s[0].toNat ≤ 57)) :
    Calls Tryz.prog 247 #[.string s] w fun e w' => e = .returned (.tuple #[.float .f64 0, .int .i64 0, .bool false]) ∧ w' = w := by
  have hn1 : ((s.size : Int) == 0) = false := by rw [beq_eq_false_iff_ne]; omega
  have hn2 : (s.size == 0) = false := by rw [beq_eq_false_iff_ne]; omega
  have hn3 : ¬ s.size = 0 := by omega
  have t1 : (((s[0]'h0).toNat : Int) == 43) = false := by rw [beq_eq_false_iff_ne]; omega
  have t2 : (((s[0]'h0).toNat : Int) == 45) = false := by rw [beq_eq_false_iff_ne]; omega
  have t3 : (((s[0]'h0).toNat : Int) == 105) = false := by rw [beq_eq_false_iff_ne]; omega
  have t4 : (((s[0]'h0).toNat : Int) == 73) = false := by rw [beq_eq_false_iff_ne]; omega
  have t5 : (((s[0]'h0).toNat : Int) == 110) = false := by rw [beq_eq_false_iff_ne]; omega
  have t6 : (((s[0]'h0).toNat : Int) == 78) = false := by rw [beq_eq_false_iff_ne]; omega
  clear hb
  go_enter Tryz.func247, Tryz.ntmps247
  go_wp2_with fail
  refine bodyPost_ret (v := .tuple #[.float .f64 0, .int .i64 0, .bool false]) (by simp [results, Tryz.results247, go_sem]) rfl ⟨rfl, rfl⟩

/-- what atof64 hands back -/
def AfPost (d : Nat) (p : Int) (n : Nat) (w : World) (e : Ending) (w' : World) : Prop := ∃ r, Near (dX d p) (dQ p) r ∧ e = .returned (.tuple #[.float .f64 r, .int .i64 n, errV r]) ∧ Below w.heap.size w w'

theorem bits_or_zero : bits .or .u64 0 0 = 0 := by decide +kernel
theorem bits_or_inf : bits .or .u64 0 9218868437227405312 = 9218868437227405312 := by decide +kernel

set_option maxRecDepth 100000 in
set_option maxHeartbeats 4000000 in
theorem atof_dec (s : ByteArray) (d K : Nat) (p : Int) (w : World) (hG : Glob w) (hT : GlobT K w) (h0 : 0 < s.size) (hs : s.size ≤ 1000) (hb : s[0].toNat = 46 ∨ (48 ≤ s[0].toNat ∧ s[0].toNat ≤ 57)) (hd : d < 10 ^ 19)
    (hrf : Calls Tryz.prog 248 #[.string s] w fun e w' => e = .returned (.tuple #[.int .u64 d, .int .i64 p, .bool false, .bool false, .bool false, .int .i64 s.size, .bool true]) ∧ w' = w) :
    Calls Tryz.prog 225 #[.string s] w (AfPost d p s.size w) := by
  have hopt := hG.opt
  have HSP := Lib.hid (special_no s w h0 hs hb)
  have HRF := Lib.hid hrf
  have HBU : Hid (∀ W : World, Calls Tryz.prog 256 #[.bool false] W fun e w' => e = .returned (.int .u64 0) ∧ W = w') := Lib.hid (fun W => b2u_any false W)
  have hor := bits_or_zero
  have hor2 := bits_or_inf
  have hfb : ∀ W : World, (callFunc 257 #[.int .u64 0]).run Tryz.prog W = .ok (.value (.float .f64 0)) W := run_sfrom 0
  have hfi : ∀ W : World, (callFunc 257 #[.int .u64 9218868437227405312]).run Tryz.prog W = .ok (.value (.float .f64 9218868437227405312)) W := run_sfrom 9218868437227405312
  clear hrf hb h0
  by_cases hd0 : d = 0
  · subst hd0
    have HN := Lib.hid (zero_near p)
    go_enter Tryz.func225, Tryz.ntmps225
    go_wp2_with fail
    refine HSP.out.mono ?_
    rintro e w ⟨rfl, rfl⟩
    go_wp2_with fail
    refine HRF.out.mono ?_
    rintro e w ⟨rfl, rfl⟩
    go_wp2_with fail
    refine (HBU.out _).mono ?_
    rintro e w' ⟨rfl, rfl⟩
    go_wp2_with fail
    refine bodyPost_ret (v := .tuple #[.float .f64 0, .int .i64 s.size, .nilIface]) (by simp [results, Tryz.results225, go_sem]) rfl ⟨0, HN.out, rfl, Below.refl _ _⟩
  · have hdz : ((d : Int) == 0) = false := by rw [beq_eq_false_iff_ne]; omega
    have hdz2 : (d == 0) = false := by rw [beq_eq_false_iff_ne]; omega
    have hdz3 : ¬ d = 0 := hd0
    by_cases hp1 : 310 < p
    · have HN := Lib.hid (far_inf d p (by omega) (by omega))
      clear hd hdz3
      go_enter Tryz.func225, Tryz.ntmps225
      go_wp2_with fail
      refine HSP.out.mono ?_
      rintro e w ⟨rfl, rfl⟩
      go_wp2_with fail
      refine HRF.out.mono ?_
      rintro e w ⟨rfl, rfl⟩
      go_wp2_with fail
      refine (HBU.out _).mono ?_
      rintro e w' ⟨rfl, rfl⟩
      go_wp2_with fail
      refine bodyPost_ret (v := .tuple #[.float .f64 9218868437227405312, .int .i64 s.size, .iface 174 (.int .i64 1)]) (by simp [results, Tryz.results225, go_sem]) rfl ⟨INF, HN.out, rfl, Below.refl _ _⟩
    · by_cases hp2 : p < -345
      · have HN := Lib.hid (far_zero d 19 p hd (by omega))
        clear hd hdz3
        go_enter Tryz.func225, Tryz.ntmps225
        go_wp2_with fail
        refine HSP.out.mono ?_
        rintro e w ⟨rfl, rfl⟩
        go_wp2_with fail
        refine HRF.out.mono ?_
        rintro e w ⟨rfl, rfl⟩
        go_wp2_with fail
        refine (HBU.out _).mono ?_
        rintro e w' ⟨rfl, rfl⟩
        go_wp2_with fail
        refine bodyPost_ret (v := .tuple #[.float .f64 0, .int .i64 s.size, .nilIface]) (by simp [results, Tryz.results225, go_sem]) rfl ⟨0, HN.out, rfl, Below.refl _ _⟩
      · have hpa : -345 ≤ p := by omega
        have hpb : p ≤ 310 := by omega
        have HEX := Lib.hid (exact_any d p K w hT (by omega) (by omega))
        have HPF := Lib.hid (pf64_any d p w hG (by omega) (by omega) (by omega) (by omega))
        clear hd hdz3 hp1 hp2 hT
        go_enter Tryz.func225, Tryz.ntmps225
        go_wp2_with fail
        refine HSP.out.mono ?_
        rintro e w ⟨rfl, rfl⟩
        go_wp2_with fail
        refine HRF.out.mono ?_
        rintro e w ⟨rfl, rfl⟩
        go_wp2_with fail
        refine (HBU.out _).mono ?_
        rintro e w' ⟨rfl, rfl⟩
        go_wp2_with fail
        refine HEX.out.mono ?_
        rintro e w ⟨r, ok, rfl, hok, rfl⟩
        have HOK := Lib.hid hok
        clear hok
        cases ok
        · go_wp2_with fail
          refine HPF.out.mono ?_
          rintro e w2 ⟨r2, hn, rfl, hb⟩
          have HN := Lib.hid hn
          have HB := Lib.hid hb
          clear hn hb
          go_wp2_with fail
          refine bodyPost_ret (v := .tuple #[.float .f64 r2, .int .i64 s.size, errV r2]) (by simp [results, Tryz.results225, go_sem]) rfl ⟨r2, HN.out, rfl, HB.out⟩
        · go_wp2_with fail
          refine bodyPost_ret (v := .tuple #[.float .f64 r, .int .i64 s.size, .nilIface]) (by simp [results, Tryz.results225, go_sem]) rfl ⟨r, (HOK.out (by trivial)).1, ?_, Below.refl _ _⟩
          rw [show errV r = .nilIface from if_neg (Nat.ne_of_lt (HOK.out (by trivial)).2)]

/-- what ParseFloat hands back -/
def PlPost (X Q : Nat) (w : World) (e : Ending) (w' : World) : Prop := ∃ r ev, Near X Q r ∧ e = .returned (.tuple #[.float .f64 r, ev]) ∧ Below w.heap.size w w'

set_option maxRecDepth 100000 in
set_option maxHeartbeats 4000000 in
theorem pfloat_of (s : ByteArray) (X Q K : Nat) (w : World) (hT : GlobT K w) (hs : s.size ≤ 1000)
    (haf : Calls Tryz.prog 225 #[.string s] w fun e w' => ∃ r, Near X Q r ∧ e = .returned (.tuple #[.float .f64 r, .int .i64 s.size, errV r]) ∧ Below w.heap.size w w') :
    Calls Tryz.prog 122 #[.string s, .int .i64 64] w (PlPost X Q w) := by
  have HAF := Lib.hid haf
  have HT := Lib.hid hT
  clear haf hT
  have hpp : Calls Tryz.prog 198 #[.string s, .int .i64 64] w fun e w' => ∃ r, Near X Q r ∧ e = .returned (.tuple #[.float .f64 r, .int .i64 s.size, errV r]) ∧ Below w.heap.size w w' := by
    go_enter Tryz.func198, Tryz.ntmps198
    go_wp2_with fail
    refine HAF.out.mono ?_
    rintro e w2 ⟨r2, hn, rfl, hb⟩
    have HN := Lib.hid hn
    have HB := Lib.hid hb
    clear hn hb
    go_wp2_with fail
    refine bodyPost_ret (v := .tuple #[.float .f64 r2, .int .i64 s.size, errV r2]) (by simp [results, Tryz.results198, go_sem]) rfl ⟨r2, HN.out, rfl, HB.out⟩
  have HPP := Lib.hid hpp
  clear hpp
  have hpf : Calls Tryz.prog 164 #[.string s, .int .i64 64] w fun e w' => ∃ r, Near X Q r ∧ e = .returned (.tuple #[.float .f64 r, errV r]) ∧ Below w.heap.size w w' := by
    go_enter Tryz.func164, Tryz.ntmps164
    go_wp2_with fail
    refine HPP.out.mono ?_
    rintro e w2 ⟨r2, hn, rfl, hb⟩
    have HN := Lib.hid hn
    have HB := Lib.hid hb
    clear hn hb
    go_wp2_with fail
    refine bodyPost_ret (v := .tuple #[.float .f64 r2, errV r2]) (by simp [results, Tryz.results164, go_sem]) rfl ⟨r2, HN.out, rfl, HB.out⟩
  have HPF := Lib.hid hpf
  clear hpf
  go_enter Tryz.func122, Tryz.ntmps122
  go_wp2_with fail
  refine HPF.out.mono ?_
  rintro e w2 ⟨r2, hn, rfl, hb⟩
  have HN := Lib.hid hn
  have HB := Lib.hid hb
  clear hn
  by_cases hr : r2 = INF
  · have he : errV r2 = .iface 174 (.int .i64 1) := if_pos hr
    obtain ⟨te, pe, hv⟩ := (HT.out.on hb).rng
    have HTE := Lib.hid (Tryz.strconv_toError_range ⟨#[80, 97, 114, 115, 101, 70, 108, 111, 97, 116]⟩ s 0 64 (.iface te pe) w2 (by omega) hv (.inr ⟨te, pe, rfl⟩))
    clear hr hv hb
    rw [he]
    clear he
    go_wp2_with fail
    refine HTE.out.mono ?_
    rintro e w3 ⟨N, rfl, hN, hcell, hb3⟩
    have HB3 := Lib.hid hb3
    clear hb3 hcell hN
    go_wp2_with fail
    refine bodyPost_ret (v := .tuple #[.float .f64 r2, .iface 177 (.pointer (some ⟨N, 0, Option.none⟩))]) (by simp [results, Tryz.results122, go_sem]) rfl ⟨r2, _, HN.out, rfl, HB.out.trans (HB3.out.mono HB.out.size)⟩
  · have he : errV r2 = .nilIface := if_neg hr
    clear hr hb
    rw [he]
    clear he
    go_wp2_with fail
    refine bodyPost_ret (v := .tuple #[.float .f64 r2, .nilIface]) (by simp [results, Tryz.results122, go_sem]) rfl ⟨r2, _, HN.out, rfl, HB.out⟩
end Go.Proofs.YtckaoeloofbklaaGreatDoor

/- readFloat. -/
namespace Go.Proofs.YtckaoeloofbklaaGreatDoor
open Go Go.RowKit

theorem lower_any (c : Int) (w : World) :
    Calls Tryz.prog 191 #[.int .u8 c] w fun e w' => e = .returned (.int .u8 (bits .or .u8 c 32)) ∧ w' = w := by
  go_enter Tryz.func191, Tryz.ntmps191
  go_wp2
  go_ret
  exact ⟨rfl, rfl⟩

theorem low_x (c : Nat) (h : c < 256) (h1 : c ≠ 88) (h2 : c ≠ 120) : (bits .or .u8 (c : Int) 32 == 120) = false := by
  have key : ∀ c : Fin 256, c.val ≠ 88 → c.val ≠ 120 → (bits .or .u8 ((c.val : Nat) : Int) 32 == 120) = false := by decide +kernel
  exact key ⟨c, h⟩ h1 h2

theorem rf_next (b mx : Nat) (M : List UInt8) (k : Nat) (h : k < M.length) (st : RF) (hst : rfF b mx (M.take k) = st) : rfF b mx (M.take (k + 1)) = rfStep b mx st M[k] := by
  rw [List.take_succ_eq_append_getElem h, rf_snoc, hst]
theorem ba_get (s : ByteArray) (k : Nat) (_h : k < s.size) (h2 : k < s.data.toList.length) : s.data.toList[k] = s[k] := by
  rfl

/-- the power that readFloat gives -/
def rfExp (st : RF) (x : Int) : Int := if st.mant = 0 then 0 else (if st.dot then st.dp else (st.nd : Int)) + x - (st.nm : Int)
theorem rfExp_zero (nd nm mant : Nat) (dp : Int) (dt dg tr : Bool) (x : Int) (h : mant = 0) : rfExp ⟨nd, nm, mant, dp, dt, dg, tr⟩ x = 0 := if_pos h
theorem rfExp_dot (nd nm mant : Nat) (dp : Int) (dg tr : Bool) (x : Int) (h : mant ≠ 0) : rfExp ⟨nd, nm, mant, dp, true, dg, tr⟩ x = dp + x - (nm : Int) := if_neg h
theorem rfExp_nodot (nd nm mant : Nat) (dp : Int) (dg tr : Bool) (x : Int) (h : mant ≠ 0) : rfExp ⟨nd, nm, mant, dp, false, dg, tr⟩ x = (nd : Int) + x - (nm : Int) := if_neg h

set_option maxRecDepth 100000 in
set_option maxHeartbeats 4000000 in
theorem rf_plain (s : ByteArray) (w : World) (hs : s.size ≤ 1000) (W F : List UInt8) (dot : Bool) (hM : MantF s.data.toList W F dot) (hne : W ++ F ≠ []) :
    Calls Tryz.prog 248 #[.string s] w fun e w' => e = .returned (.tuple #[.int .u64 (rfF 10 19 s.data.toList).mant, .int .i64 (rfExp (rfF 10 19 s.data.toList) 0), .bool false, .bool (rfF 10 19 s.data.toList).tr, .bool false, .int .i64 s.size, .bool true]) ∧ w' = w := by
  have hlen : s.data.toList.length = s.size := by simp
  have hW : ∀ x ∈ W, okD 10 x := fun x hx => .inl (hM.w x hx)
  have hF : ∀ x ∈ F, okD 10 x := fun x hx => .inl (hM.f x hx)
  have hmem := mant_mem 10 _ W F dot hM.eq hW hF
  have hn0 : 0 < s.size := by
    rw [← hlen, hM.eq]
    unfold mantT
    rcases List.eq_nil_or_concat W with h | ⟨l, c, h⟩
    · subst h
      cases dot with
      | false => rw [hM.nodot rfl] at hne; simp at hne
      | true => simp
    · subst h; rw [List.concat_eq_append]; simp; omega
  have hbyte : ∀ j (h : j < s.size), s[j].toNat = 46 ∨ (48 ≤ s[j].toNat ∧ s[j].toNat ≤ 57) := fun j h => by
    rcases hmem _ (List.getElem_mem (by rw [hlen]; exact h) : s.data.toList[j] ∈ s.data.toList) with h1 | h1 | h1
    · left; rw [ba_get s j h] at h1; rw [h1]; rfl
    · right; rw [ba_get s j h] at h1; exact h1
    · exact absurd h1.1 (by decide)
  have hb0 := hbyte 0 hn0
  have hn1 : decide ((s.size : Int) ≤ 0) = false := by rw [decide_eq_false_iff_not]; omega
  have hn2 : decide (s.size = 0) = false := by rw [decide_eq_false_iff_not]; omega
  have hn3 : ¬ s.size = 0 := by omega
  have hc1 : ((s[0].toNat : Int) == 43) = false := by rw [beq_eq_false_iff_ne]; omega
  have hc2 : ((s[0].toNat : Int) == 45) = false := by rw [beq_eq_false_iff_ne]; omega
  have hx1 : ∀ h : 1 < s.size, (bits .or .u8 ((s[1].toNat : Nat) : Int) 32 == 120) = false := fun h => by
    have := hbyte 1 h
    exact low_x _ s[1].toNat_lt (by omega) (by omega)
  have HX1 := Lib.hid hx1
  have HBY := Lib.hid hbyte
  have HPT := Lib.hid (mant_point 10 19 s.data.toList W F dot hM.eq hW hF)
  have HMT := Lib.hid (rf_mant 10 19 s.data.toList W F dot hM.eq (fun x hx => dig_ne46 (hM.w x hx)) (fun x hx => dig_ne46 (hM.f x hx)) hM.nodot)
  have HMEM := Lib.hid hmem
  have HLEN := Lib.hid hlen
  have HNE := Lib.hid hne
  clear hM hne hlen hW hF hmem hx1 hbyte hb0
  go_enter Tryz.func248, Tryz.ntmps248
  go_wp2_with fail
  go_step3
  go_upto_region 12 with fail
  go_cut [54] from 36 to 54 (fun s54 wx => s54 = .bool false ∧ wx = w)
  case first =>
    by_cases h3 : 2 < s.size
    · have hx := HX1.out (by omega)
      cases h48 : ((s[0].toNat : Int) == 48)
      all_goals
        go_wp2_with (go_at_call 191; refine (lower_any _ _).mono ?_; rintro e w' ⟨rfl, rfl⟩)
        go_meet
        exact ⟨rfl, rfl⟩
    · go_wp2_with fail
      go_meet
      exact ⟨rfl, rfl⟩
  case rest =>
    obtain ⟨rfl, rfl⟩ := hcut
    clear hc1 hc2 HX1
    go_wp2_with fail
    go_step3
    go_wp2_with fail
    go_loopg [2, 5, 7, 9, 13, 14, 15, 16, 17] s.size (fun g s2 s5 s7 s9 s13 s14 s15 s16 s17 wr => ∃ (k nd nm mant : Nat) (dp : Int) (dt dg tr : Bool), k + g = s.size ∧ rfF 10 19 (s.data.toList.take k) = ⟨nd, nm, mant, dp, dt, dg, tr⟩ ∧ s2 = .int .u64 mant ∧ s5 = .bool tr ∧ s7 = .int .i64 k ∧ s9 = .bool false ∧ s13 = .bool dt ∧ s14 = .bool dg ∧ s15 = .int .i64 nd ∧ s16 = .int .i64 nm ∧ s17 = .int .i64 dp ∧ wr = wc)
    case atStart => exact ⟨0, 0, 0, 0, 0, false, false, false, by omega, rfl, rfl, rfl, rfl, rfl, rfl, rfl, rfl, rfl, rfl, rfl⟩
    case round =>
      obtain ⟨k, nd, nm, mant, dp, dt, dg, tr, hkg, hst, rfl, rfl, rfl, rfl, rfl, rfl, rfl, rfl, rfl, rfl⟩ := hrel
      have hbd := rf_bd 10 19 (by decide) (s.data.toList.take k) (fun x hx => HMEM.out x (List.mem_of_mem_take hx))
      rw [hst] at hbd
      simp only at hbd
      have hlk : (s.data.toList.take k).length ≤ k := List.length_take_le _ _
      obtain ⟨b1, b2, b3, b4, b5, b6⟩ := hbd
      have hnd : nd ≤ 1000 := by omega
      have hdp1 : -1000 ≤ dp := by omega
      have hdp2 : dp ≤ 1000 := by omega
      have HST := Lib.hid hst
      by_cases hlt : k < s.size
      · have hpt := HPT.out k (by rw [HLEN.out]; exact hlt)
        have hnx := rf_next 10 19 s.data.toList k (by rw [HLEN.out]; exact hlt) _ hst
        rw [ba_get s k hlt] at hpt hnx
        rw [hst] at hpt
        simp only at hpt
        have hby := HBY.out k hlt
        have HNX := Lib.hid hnx
        have HB4 := Lib.hid b4
        have HPK := Lib.hid hpt
        clear hst hnx b4 hpt b1 b2 b5 b6 hlk
        by_cases h46 : s[k].toNat = 46
        · have hd : dt = false := HPK.out (by rw [← UInt8.ofNat_toNat (x := s[k]), h46]; rfl)
          subst hd
          go_wp2_with fail
          go_roundg (gk - 1)
          case measure => omega
          case rel => exact ⟨k + 1, nd, nm, mant, (nd : Int), true, dg, tr, by omega, by rw [HNX.out, show s[k] = 46 from by rw [← UInt8.ofNat_toNat (x := s[k]), h46]; rfl]; rfl, rfl, rfl, by go_num, rfl, rfl, rfl, rfl, rfl, rfl, rfl⟩
        · have hdg : 48 ≤ s[k].toNat ∧ s[k].toNat ≤ 57 := hby.resolve_left h46
          have hd1 : (48 : Int) ≤ (s[k].toNat : Int) := by omega
          have hd2 : (s[k].toNat : Int) ≤ 57 := by omega
          have t95 : ((s[k].toNat : Int) == 95) = false := by rw [beq_eq_false_iff_ne]; omega
          have t46 : ((s[k].toNat : Int) == 46) = false := by rw [beq_eq_false_iff_ne]; omega
          have HC46 : Hid (s[k] ≠ 46) := Lib.hid fun h => h46 (by rw [h]; rfl)
          have HDV : Hid (dv s[k].toNat = s[k].toNat - 48) := Lib.hid (by unfold dv; rw [if_pos hdg])
          clear h46 hby hdg
          by_cases hz : s[k].toNat = 48 ∧ nd = 0
          · obtain ⟨hz1, rfl⟩ := hz
            have t48 : ((s[k].toNat : Int) == 48) = true := by rw [beq_iff_eq]; omega
            have HZ : Hid (s[k] = 48) := Lib.hid (by rw [← UInt8.ofNat_toNat (x := s[k]), hz1]; rfl)
            clear hz1
            go_wp2_with fail
            go_roundg (gk - 1)
            case measure => omega
            case rel => exact ⟨k + 1, 0, nm, mant, dp - 1, dt, true, tr, by omega, by rw [HNX.out]; unfold rfStep; rw [if_neg HC46.out, if_pos ⟨HZ.out, rfl⟩], rfl, rfl, by go_num, rfl, rfl, rfl, rfl, rfl, rfl, rfl⟩
          · have HZ : Hid (¬ (s[k] = 48 ∧ nd = 0)) := Lib.hid fun h => hz ⟨by rw [h.1]; rfl, h.2⟩
            have hzz : ((s[k].toNat : Int) == 48) = false ∨ ((s[k].toNat : Int) == 48) = true ∧ ((nd : Int) == 0) = false ∧ (nd == 0) = false ∧ ¬ nd = 0 := by
              by_cases h48 : s[k].toNat = 48
              · right; exact ⟨by rw [beq_iff_eq]; omega, by rw [beq_eq_false_iff_ne]; omega, by rw [beq_eq_false_iff_ne]; omega, by omega⟩
              · left; rw [beq_eq_false_iff_ne]; omega
            clear hz
            by_cases hm : nm < 19
            · have hm2 : mant < 1000000000000000000 := Nat.lt_of_lt_of_le HB4.out (Nat.pow_le_pow_right (by decide) (show nm ≤ 18 by omega))
              have tm : decide ((nm : Int) < 19) = true := by rw [decide_eq_true_eq]; omega
              rcases hzz with t48 | ⟨t48, tn, tn2, tn3⟩
              all_goals
                go_wp2_with fail
                go_roundg (gk - 1)
                case measure => omega
                case rel => exact ⟨k + 1, nd + 1, nm + 1, mant * 10 + dv s[k].toNat, dp, dt, true, tr, by omega, by rw [HNX.out]; unfold rfStep; rw [if_neg HC46.out, if_neg HZ.out, if_pos hm], by rw [HDV.out]; go_num, rfl, by go_num, rfl, rfl, rfl, by go_num, by go_num, rfl, rfl⟩
            · have tm : decide ((nm : Int) < 19) = false := by rw [decide_eq_false_iff_not]; omega
              rcases hzz with t48 | ⟨t48, tn, tn2, tn3⟩
              · have t48n : ((s[k].toNat : Int) != 48) = true := by rw [bne, t48]; rfl
                have HN : Hid ((s[k] != 48) = true) := Lib.hid (bne_iff_ne.2 fun h => by rw [h] at t48; exact absurd t48 (by decide))
                go_wp2_with fail
                go_roundg (gk - 1)
                case measure => omega
                case rel => exact ⟨k + 1, nd + 1, nm, mant, dp, dt, true, true, by omega, by rw [HNX.out]; unfold rfStep; rw [if_neg HC46.out, if_neg HZ.out, if_neg hm]; simp only [HN.out, Bool.or_true], rfl, rfl, by go_num, rfl, rfl, rfl, by go_num, rfl, rfl, rfl⟩
              · have t48n : ((s[k].toNat : Int) != 48) = false := by rw [bne, t48]; rfl
                have HN : Hid ((s[k] != 48) = false) := Lib.hid (by
                  rw [bne_eq_false_iff_eq]
                  have h := beq_iff_eq.1 t48
                  rw [← UInt8.ofNat_toNat (x := s[k]), show s[k].toNat = 48 by omega]; rfl)
                go_wp2_with fail
                go_roundg (gk - 1)
                case measure => omega
                case rel => exact ⟨k + 1, nd + 1, nm, mant, dp, dt, true, tr, by omega, by rw [HNX.out]; unfold rfStep; rw [if_neg HC46.out, if_neg HZ.out, if_neg hm]; simp only [HN.out, Bool.or_false], rfl, rfl, by go_num, rfl, rfl, rfl, by go_num, rfl, rfl, rfl⟩
      · have hke : k = s.size := by omega
        have hfull : s.data.toList.take k = s.data.toList := List.take_of_length_le (by rw [HLEN.out]; omega)
        rw [hfull] at hst
        have hmt := HMT.out
        rw [hst] at hmt
        obtain ⟨m1, m2, m3, m4, m5⟩ := hmt
        have hdg : dg = true := by
          have := m1.dig
          simp only at this
          rw [this]
          have := HNE.out
          simpa using this
        subst hdg hke
        have HS := Lib.hid hst
        have HEZ := Lib.hid (fun dt => rfExp_zero nd nm mant dp dt true tr 0)
        have HED := Lib.hid (rfExp_dot nd nm mant dp true tr 0)
        have HEN := Lib.hid (rfExp_nodot nd nm mant dp true tr 0)
        clear b4 b5 b6 hlk b1 m1 m2 m3 m4 m5 hst hfull HST
        by_cases hmz : mant = 0
        · have tz : ((mant : Int) != 0) = false := by rw [bne_eq_false_iff_eq]; omega
          have HMZ := Lib.hid hmz
          clear hmz
          cases dt
          all_goals
            go_wp2_with fail
            try rw [Exit.noGoto_ret]
            refine bodyPost_ret (v := .tuple #[.int .u64 mant, .int .i64 0, .bool false, .bool tr, .bool false, .int .i64 s.size, .bool true]) (by simp [results, Tryz.results248, go_sem]) rfl ⟨by rw [HS.out, HEZ.out _ HMZ.out], rfl⟩
        · have tz : ((mant : Int) != 0) = true := by rw [bne_iff_ne]; omega
          have HMZ := Lib.hid hmz
          clear hmz
          cases dt
          · go_wp2_with fail
            try rw [Exit.noGoto_ret]
            refine bodyPost_ret (v := .tuple #[.int .u64 mant, .int .i64 ((nd : Int) - (nm : Int)), .bool false, .bool tr, .bool false, .int .i64 s.size, .bool true]) (by simp [results, Tryz.results248, go_sem]) rfl ⟨by rw [HS.out, HEN.out HMZ.out, Int.add_zero], rfl⟩
          · go_wp2_with fail
            try rw [Exit.noGoto_ret]
            refine bodyPost_ret (v := .tuple #[.int .u64 mant, .int .i64 (dp - (nm : Int)), .bool false, .bool tr, .bool false, .int .i64 s.size, .bool true]) (by simp [results, Tryz.results248, go_sem]) rfl ⟨by rw [HS.out, HED.out HMZ.out, Int.add_zero], rfl⟩
end Go.Proofs.YtckaoeloofbklaaGreatDoor

/- readFloat of a decimal text with a power (printed by gen_readf15.py). -/
namespace Go.Proofs.YtckaoeloofbklaaGreatDoor
open Go Go.RowKit

theorem low_e (c : Nat) (h : c = 69 ∨ c = 101) : bits .or .u8 (c : Int) 32 = 101 := by
  rcases h with rfl | rfl <;> decide +kernel
theorem lower_at (c : Nat) (r : Nat) (h : bits .or .u8 (c : Int) 32 = (r : Int)) (w : World) :
    Calls Tryz.prog 191 #[.int .u8 c] w fun e w' => e = .returned (.int .u8 r) ∧ w' = w := by
  have := lower_any c w
  rwa [h] at this

theorem pow_get (s : ByteArray) (M : List UInt8) (eb : UInt8) (sg X : List UInt8) (h : s.data.toList = M ++ powT eb sg X) : s.size = M.length + 1 + sg.length + X.length ∧
    (∀ k (hk : k < M.length) (h2 : k < s.size), M[k] = s[k]) ∧ (∀ h2 : M.length < s.size, s[M.length] = eb) ∧
    (∀ j (hj : j < sg.length) (h2 : M.length + 1 + j < s.size), s[M.length + 1 + j] = sg[j]) ∧
    (∀ j (hj : j < X.length) (h2 : M.length + 1 + sg.length + j < s.size), s[M.length + 1 + sg.length + j] = X[j]) := by
  have hz : s.size = s.data.toList.length := by simp
  have get : ∀ k (h2 : k < s.size), s[k] = (M ++ powT eb sg X)[k]'(by rw [← h, ← hz]; exact h2) := fun k h2 => by
    simp only [← h]; rfl
  refine ⟨?_, ?_, ?_, ?_, ?_⟩
  · rw [hz, h]; simp [powT]; omega
  · intro k hk h2
    rw [get k h2, List.getElem_append_left hk]
  · intro h2
    rw [get _ h2, List.getElem_append_right (Nat.le_refl _)]
    simp [powT]
  · intro j hj h2
    rw [get _ h2, List.getElem_append_right (by omega)]
    simp only [show M.length + 1 + j - M.length = j + 1 by omega, powT, List.getElem_cons_succ]
    rw [List.getElem_append_left hj]
  · intro j hj h2
    rw [get _ h2, List.getElem_append_right (by omega)]
    simp only [show M.length + 1 + sg.length + j - M.length = sg.length + j + 1 by omega, powT, List.getElem_cons_succ]
    rw [List.getElem_append_right (by omega)]
    simp

/-- the sign of a power -/
def sgZ (sg : List UInt8) : Int := if sg = [45] then -1 else 1

set_option maxRecDepth 100000 in
set_option maxHeartbeats 4000000 in
theorem rf_pow (s : ByteArray) (w : World) (hs : s.size ≤ 1000) (M W F : List UInt8) (dot : Bool) (eb : UInt8) (sg X : List UInt8) (hM : MantF M W F dot) (hne : W ++ F ≠ []) (hp : PowF (powT eb sg X) eb sg X) (hX : X ≠ []) (hl : s.data.toList = M ++ powT eb sg X) :
    Calls Tryz.prog 248 #[.string s] w fun e w' => e = .returned (.tuple #[.int .u64 (rfF 10 19 M).mant, .int .i64 (rfExp (rfF 10 19 M) ((exF X : Int) * sgZ sg)), .bool false, .bool (rfF 10 19 M).tr, .bool false, .int .i64 s.size, .bool true]) ∧ w' = w := by
  obtain ⟨gsz, gM, gE, gS, gX⟩ := pow_get s M eb sg X hl
  have hX0 : 0 < X.length := List.length_pos_iff.2 hX
  have hW : ∀ x ∈ W, okD 10 x := fun x hx => .inl (hM.w x hx)
  have hF : ∀ x ∈ F, okD 10 x := fun x hx => .inl (hM.f x hx)
  have hmem := mant_mem 10 _ W F dot hM.eq hW hF
  have hm0 : 0 < M.length := by
    rw [hM.eq]
    unfold mantT
    rcases List.eq_nil_or_concat W with h | ⟨l, c, h⟩
    · subst h
      cases dot with
      | false => rw [hM.nodot rfl] at hne; simp at hne
      | true => simp
    · subst h; rw [List.concat_eq_append]; simp; omega
  have hbyte : ∀ j (h : j < M.length) (h2 : j < s.size), s[j].toNat = 46 ∨ (48 ≤ s[j].toNat ∧ s[j].toNat ≤ 57) := fun j h h2 => by
    rw [← gM j h h2]
    rcases hmem _ (List.getElem_mem h) with h1 | h1 | h1
    · left; rw [h1]; rfl
    · right; exact h1
    · exact absurd h1.1 (by decide)
  have hn0 : 0 < s.size := by omega
  have hb0 := hbyte 0 hm0 hn0
  have hn1 : decide ((s.size : Int) ≤ 0) = false := by rw [decide_eq_false_iff_not]; omega
  have hn2 : decide (s.size = 0) = false := by rw [decide_eq_false_iff_not]; omega
  have hn3 : ¬ s.size = 0 := by omega
  have hc1 : (((s[0]'hn0).toNat : Int) == 43) = false := by rw [beq_eq_false_iff_ne]; omega
  have hc2 : (((s[0]'hn0).toNat : Int) == 45) = false := by rw [beq_eq_false_iff_ne]; omega
  have hx1 : ∀ h : 1 < s.size, (bits .or .u8 ((s[1].toNat : Nat) : Int) 32 == 120) = false := fun h => by
    by_cases h1 : 1 < M.length
    · have := hbyte 1 h1 h
      exact low_x _ s[1].toNat_lt (by omega) (by omega)
    · have hm1 : M.length = 1 := by omega
      have he := gE (by omega)
      simp only [hm1] at he
      rw [he]
      have := hp.eb
      exact low_x _ eb.toNat_lt (by omega) (by omega)
  have hms : M.length < s.size := by omega
  have hE := gE hms
  have hEb := hp.eb
  have e95 : (((s[M.length]'hms).toNat : Int) == 95) = false := by rw [hE, beq_eq_false_iff_ne]; omega
  have e46 : (((s[M.length]'hms).toNat : Int) == 46) = false := by rw [hE, beq_eq_false_iff_ne]; omega
  have e48 : (48 : Int) ≤ ((s[M.length]'hms).toNat : Int) := by rw [hE]; omega
  have e57 : decide (((s[M.length]'hms).toNat : Int) ≤ 57) = false := by rw [hE, decide_eq_false_iff_not]; omega
  have HEL := Lib.hid (fun (W : World) => lower_at (s[M.length]'hms).toNat 101 (by rw [hE]; exact low_e _ hEb) W)
  -- the power's digits
  obtain ⟨o, ho⟩ : ∃ o, M.length + 1 + sg.length = o := ⟨_, rfl⟩
  have hdX : ∀ i (h1 : o ≤ i) (h2 : i < s.size), 48 ≤ s[i].toNat ∧ s[i].toNat ≤ 57 ∧ exF (X.take (i + 1 - o)) = (if exF (X.take (i - o)) < 10000 then exF (X.take (i - o)) * 10 + (s[i].toNat - 48) else exF (X.take (i - o))) := fun i h1 h2 => by
    have hj : i - o < X.length := by omega
    have hg := gX (i - o) hj (by omega)
    simp only [show M.length + 1 + sg.length + (i - o) = i by omega] at hg
    have hd := hp.x _ (List.getElem_mem hj)
    rw [← hg] at hd
    refine ⟨hd.1, hd.2, ?_⟩
    rw [show i + 1 - o = i - o + 1 by omega, List.take_succ_eq_append_getElem hj, ex_snoc, ← hg]
  have hexb : ∀ i, exF (X.take i) < 100000 := fun i => ex_lt _ fun x hx => hp.x x (List.mem_of_mem_take hx)
  have hosz : s.size = o + X.length := by omega
  have HDX := Lib.hid hdX
  have HEXB := Lib.hid hexb
  have HX1 := Lib.hid hx1
  have HGET := Lib.hid gM
  have HGS := Lib.hid gS
  have HSG := Lib.hid hp.sg
  have HPT := Lib.hid (mant_point 10 19 M W F dot hM.eq hW hF)
  have HMT := Lib.hid (rf_mant 10 19 M W F dot hM.eq (fun x hx => dig_ne46 (hM.w x hx)) (fun x hx => dig_ne46 (hM.f x hx)) hM.nodot)
  have HMEM := Lib.hid hmem
  have HNE := Lib.hid hne
  have HO := Lib.hid ho
  have HOSZ := Lib.hid hosz
  clear hM hne hW hF hmem hx1 hbyte hb0 gM gE gS gX gsz hp hX hl hE hEb hdX hexb ho hosz
  go_enter Tryz.func248, Tryz.ntmps248
  go_wp2_with fail
  go_step3
  go_upto_region 12 with fail
  go_cut [54] from 36 to 54 (fun s54 wx => s54 = .bool false ∧ wx = w)
  case first =>
    by_cases h3 : 2 < s.size
    · have hx := HX1.out (by omega)
      cases h48 : ((s[0].toNat : Int) == 48)
      all_goals
        go_wp2_with (go_at_call 191; refine (lower_any _ _).mono ?_; rintro e w' ⟨rfl, rfl⟩)
        go_meet
        exact ⟨rfl, rfl⟩
    · go_wp2_with fail
      go_meet
      exact ⟨rfl, rfl⟩
  case rest =>
    obtain ⟨rfl, rfl⟩ := hcut
    clear hc1 hc2 HX1
    go_wp2_with fail
    go_step3
    go_wp2_with fail
    go_loopg [2, 5, 7, 9, 13, 14, 15, 16, 17] M.length (fun g s2 s5 s7 s9 s13 s14 s15 s16 s17 wr => ∃ (k nd nm mant : Nat) (dp : Int) (dt dg tr : Bool), k + g = M.length ∧ rfF 10 19 (M.take k) = ⟨nd, nm, mant, dp, dt, dg, tr⟩ ∧ s2 = .int .u64 mant ∧ s5 = .bool tr ∧ s7 = .int .i64 k ∧ s9 = .bool false ∧ s13 = .bool dt ∧ s14 = .bool dg ∧ s15 = .int .i64 nd ∧ s16 = .int .i64 nm ∧ s17 = .int .i64 dp ∧ wr = wc)
    case atStart => exact ⟨0, 0, 0, 0, 0, false, false, false, by omega, rfl, rfl, rfl, rfl, rfl, rfl, rfl, rfl, rfl, rfl, rfl⟩
    case round =>
      obtain ⟨k, nd, nm, mant, dp, dt, dg, tr, hkg, hst, rfl, rfl, rfl, rfl, rfl, rfl, rfl, rfl, rfl, rfl⟩ := hrel
      have hbd := rf_bd 10 19 (by decide) (M.take k) (fun x hx => HMEM.out x (List.mem_of_mem_take hx))
      rw [hst] at hbd
      simp only at hbd
      have hlk : (M.take k).length ≤ k := List.length_take_le _ _
      obtain ⟨b1, b2, b3, b4, b5, b6⟩ := hbd
      have hnd : nd ≤ 1000 := by omega
      have hdp1 : -1000 ≤ dp := by omega
      have hdp2 : dp ≤ 1000 := by omega
      have HST := Lib.hid hst
      by_cases hlt : k < M.length
      · have hnx := rf_next 10 19 M k hlt _ hst
        have hgk := HGET.out k hlt (by omega)
        rw [hgk] at hnx
        have hby := HMEM.out _ (List.getElem_mem hlt)
        rw [hgk] at hby
        have hpt := HPT.out k hlt
        rw [hst, hgk] at hpt
        simp only at hpt
        have HNX := Lib.hid hnx
        have HB4 := Lib.hid b4
        have HPK := Lib.hid hpt
        clear hst hnx b4 hpt b1 b2 b5 b6 hlk hgk
        by_cases h46 : s[k].toNat = 46
        · have hd : dt = false := HPK.out (by rw [← UInt8.ofNat_toNat (x := s[k]), h46]; rfl)
          subst hd
          clear hby
          go_wp2_with fail
          go_roundg (gk - 1)
          case measure => omega
          case rel => exact ⟨k + 1, nd, nm, mant, (nd : Int), true, dg, tr, by omega, by rw [HNX.out, show s[k] = 46 from by rw [← UInt8.ofNat_toNat (x := s[k]), h46]; rfl]; rfl, rfl, rfl, by go_num, rfl, rfl, rfl, rfl, rfl, rfl, rfl⟩
        · have HC46 : Hid (s[k] ≠ 46) := Lib.hid fun h => h46 (by rw [h]; rfl)
          have t46 : ((s[k].toNat : Int) == 46) = false := by rw [beq_eq_false_iff_ne]; omega
          replace hby := hby.resolve_left HC46.out
          clear h46
          rcases hby with hdg | hlet
          · have hd1 : (48 : Int) ≤ (s[k].toNat : Int) := by have := hdg.1; omega
            have hd2 : (s[k].toNat : Int) ≤ 57 := by have := hdg.2; omega
            have t95 : ((s[k].toNat : Int) == 95) = false := by rw [beq_eq_false_iff_ne]; omega
            have HDV : Hid (dv s[k].toNat = s[k].toNat - 48) := Lib.hid (by unfold dv; rw [if_pos (show 48 ≤ s[k].toNat ∧ s[k].toNat ≤ 57 from hdg)])
            clear hdg
            by_cases hz : s[k].toNat = 48 ∧ nd = 0
            · obtain ⟨hz1, rfl⟩ := hz
              have t48 : ((s[k].toNat : Int) == 48) = true := by rw [beq_iff_eq]; omega
              have HZ : Hid (s[k] = 48) := Lib.hid (by rw [← UInt8.ofNat_toNat (x := s[k]), hz1]; rfl)
              clear hz1
              go_wp2_with fail
              go_roundg (gk - 1)
              case measure => omega
              case rel => exact ⟨k + 1, 0, nm, mant, dp - 1, dt, true, tr, by omega, by rw [HNX.out]; unfold rfStep; rw [if_neg HC46.out, if_pos ⟨HZ.out, rfl⟩], rfl, rfl, by go_num, rfl, rfl, rfl, rfl, rfl, rfl, rfl⟩
            · have HZ : Hid (¬ (s[k] = 48 ∧ nd = 0)) := Lib.hid fun h => hz ⟨by rw [h.1]; rfl, h.2⟩
              have hzz : ((s[k].toNat : Int) == 48) = false ∨ ((s[k].toNat : Int) == 48) = true ∧ ((nd : Int) == 0) = false ∧ (nd == 0) = false ∧ ¬ nd = 0 := by
                by_cases h48 : s[k].toNat = 48
                · right; exact ⟨by rw [beq_iff_eq]; omega, by rw [beq_eq_false_iff_ne]; omega, by rw [beq_eq_false_iff_ne]; omega, by omega⟩
                · left; rw [beq_eq_false_iff_ne]; omega
              clear hz
              by_cases hm : nm < 19
              · have hm2 : mant < 1000000000000000000 := Nat.lt_of_lt_of_le HB4.out (Nat.pow_le_pow_right (by decide) (show nm ≤ 18 by omega))
                have tm : decide ((nm : Int) < 19) = true := by rw [decide_eq_true_eq]; omega
                rcases hzz with t48 | ⟨t48, tn, tn2, tn3⟩
                all_goals
                  go_wp2_with fail
                  go_roundg (gk - 1)
                  case measure => omega
                  case rel => exact ⟨k + 1, nd + 1, nm + 1, mant * 10 + dv s[k].toNat, dp, dt, true, tr, by omega, by rw [HNX.out]; unfold rfStep; rw [if_neg HC46.out, if_neg HZ.out, if_pos hm], by rw [HDV.out]; go_num, rfl, by go_num, rfl, rfl, rfl, by go_num, by go_num, rfl, rfl⟩
              · have tm : decide ((nm : Int) < 19) = false := by rw [decide_eq_false_iff_not]; omega
                rcases hzz with t48 | ⟨t48, tn, tn2, tn3⟩
                · have t48n : ((s[k].toNat : Int) != 48) = true := by rw [bne, t48]; rfl
                  have HN : Hid ((s[k] != 48) = true) := Lib.hid (bne_iff_ne.2 fun h => by rw [h] at t48; exact absurd t48 (by decide))
                  go_wp2_with fail
                  go_roundg (gk - 1)
                  case measure => omega
                  case rel => exact ⟨k + 1, nd + 1, nm, mant, dp, dt, true, true, by omega, by rw [HNX.out]; unfold rfStep; rw [if_neg HC46.out, if_neg HZ.out, if_neg hm]; simp only [HN.out, Bool.or_true], rfl, rfl, by go_num, rfl, rfl, rfl, by go_num, rfl, rfl, rfl⟩
                · have t48n : ((s[k].toNat : Int) != 48) = false := by rw [bne, t48]; rfl
                  have HN : Hid ((s[k] != 48) = false) := Lib.hid (by
                    rw [bne_eq_false_iff_eq]
                    have h := beq_iff_eq.1 t48
                    rw [← UInt8.ofNat_toNat (x := s[k]), show s[k].toNat = 48 by omega]; rfl)
                  go_wp2_with fail
                  go_roundg (gk - 1)
                  case measure => omega
                  case rel => exact ⟨k + 1, nd + 1, nm, mant, dp, dt, true, tr, by omega, by rw [HNX.out]; unfold rfStep; rw [if_neg HC46.out, if_neg HZ.out, if_neg hm]; simp only [HN.out, Bool.or_false], rfl, rfl, by go_num, rfl, rfl, rfl, by go_num, rfl, rfl, rfl⟩
          · exact absurd hlet.1 (by decide)
      · have hke : k = M.length := by omega
        have hfull : M.take k = M := List.take_of_length_le (by omega)
        rw [hfull] at hst
        have hmt := HMT.out
        rw [hst] at hmt
        obtain ⟨m1, m2, m3, m4, m5⟩ := hmt
        have hdg : dg = true := by
          have := m1.dig
          simp only at this
          rw [this]
          have := HNE.out
          simpa using this
        subst hdg hke
        have HS := Lib.hid hst
        have hm20 : mant < 10000000000000000000 := Nat.lt_of_lt_of_le b4 (Nat.pow_le_pow_right (by decide) b3)
        obtain ⟨DP, hDP⟩ : ∃ DP : Int, DP = (if dt then dp else (nd : Int)) := ⟨_, rfl⟩
        have hDP1 : -1000 ≤ DP := by rw [hDP]; split <;> omega
        have hDP2 : DP ≤ 1000 := by rw [hDP]; split <;> omega
        have HDP := Lib.hid hDP
        have HEZ := Lib.hid (fun x => rfExp_zero nd nm mant dp dt true tr x)
        have HEN : Hid (∀ x : Int, mant ≠ 0 → rfExp ⟨nd, nm, mant, dp, dt, true, tr⟩ x = DP + x - (nm : Int)) := Lib.hid fun x h => by rw [hDP]; exact if_neg h
        clear b4 b5 b6 hlk b1 m1 m2 m3 m4 m5 hst hfull HST hDP
        -- where the power's digits begin
        have hone : (sg = [] ∧ o = M.length + 1) ∨ (sg = [43] ∧ o = M.length + 1 + 1) ∨ (sg = [45] ∧ o = M.length + 1 + 1) := by
          rcases HSG.out with h | h | h <;> subst h <;> have := HO.out <;> simp at this
          · left; exact ⟨rfl, by omega⟩
          · right; left; exact ⟨rfl, by omega⟩
          · right; right; exact ⟨rfl, by omega⟩
        have hosz := HOSZ.out
        have hos : o < s.size := by omega
        have hd0 := HDX.out o (Nat.le_refl _) hos
        have hs0 : M.length + 1 < s.size := by rcases hone with h | h | h <;> omega
        have c1 : (48 : Int) ≤ ((s[o]'hos).toNat : Int) := by omega
        have c2 : ((s[o]'hos).toNat : Int) ≤ 57 := by omega
        obtain ⟨Z, hZ⟩ : ∃ Z : Int, Z = sgZ sg := ⟨_, rfl⟩
        have hZ1 : Z = 1 ∨ Z = -1 := by rw [hZ]; unfold sgZ; split <;> simp
        have HZ := Lib.hid hZ
        have HZ1 := Lib.hid hZ1
        have HONE := Lib.hid hone
        have HSB : Hid (sg = [] → ((s[M.length + 1]'hs0).toNat : Int) = (s[o]'hos).toNat) := Lib.hid fun h => by
          have ho2 : o = M.length + 1 := by
            rcases hone with ⟨_, h1⟩ | ⟨h1, _⟩ | ⟨h1, _⟩
            · exact h1
            · rw [h] at h1; exact absurd h1 (by decide)
            · rw [h] at h1; exact absurd h1 (by decide)
          subst ho2; rfl
        have HSS : Hid (∀ x, sg = [x] → s[M.length + 1]'hs0 = x) := Lib.hid fun x h => by
          have := HGS.out 0 (by rw [h]; simp) hs0
          rw [show sg[0]'(by rw [h]; simp) = x from by simp [h]] at this
          exact this
        clear hZ hZ1 hone hd0 HSG HGS HO HPT HMT HMEM HGET hosz
        go_upto_if 142 with fail
        go_cut [17] from 139 to 142 (fun s17 wx => s17 = .int .i64 DP ∧ wx = wr)
        case first =>
          cases dt
          all_goals
            go_wp2_with fail
            go_meet
            exact ⟨by rw [HDP.out]; rfl, rfl⟩
        case rest =>
          obtain ⟨rfl, rfl⟩ := hcut
          go_upto_block 4 with (go_at_call 191; refine (HEL.out _).mono ?_; rintro e wr ⟨rfl, rfl⟩)
          go_cut [7, 19] from 170 to 178 (fun s7 s19 wx => s7 = .int .i64 o ∧ s19 = .int .i64 Z ∧ wx = wr)
          case first =>
            rcases HONE.out with ⟨hsg, hoo⟩ | ⟨hsg, hoo⟩ | ⟨hsg, hoo⟩
            · have hb := HSB.out hsg
              have c3 : (((s[M.length + 1]'hs0).toNat : Int) == 43) = false := by rw [beq_eq_false_iff_ne]; omega
              have c4 : (((s[M.length + 1]'hs0).toNat : Int) == 45) = false := by rw [beq_eq_false_iff_ne]; omega
              have hz : Z = 1 := by rw [HZ.out, hsg]; decide
              clear hb hsg
              subst hoo hz
              go_wp2_with fail
              go_meet
              exact ⟨by go_num, rfl, rfl⟩
            · have hb := HSS.out _ hsg
              have c3 : (((s[M.length + 1]'hs0).toNat : Int) == 43) = true := by rw [hb]; rfl
              have hz : Z = 1 := by rw [HZ.out, hsg]; decide
              clear hb hsg
              subst hoo hz
              go_wp2_with fail
              go_meet
              exact ⟨by go_num, rfl, rfl⟩
            · have hb := HSS.out _ hsg
              have c3 : (((s[M.length + 1]'hs0).toNat : Int) == 43) = false := by rw [hb]; rfl
              have c4 : (((s[M.length + 1]'hs0).toNat : Int) == 45) = true := by rw [hb]; rfl
              have hz : Z = -1 := by rw [HZ.out, hsg]; decide
              clear hb hsg
              subst hoo hz
              go_wp2_with fail
              go_meet
              exact ⟨by go_num, rfl, rfl⟩
          case rest =>
            obtain ⟨rfl, rfl, hwc⟩ := hcut
            obtain rfl : wr = wc := hwc.symm
            go_wp2_with fail
            go_loopg [7, 9, 20] X.length (fun g s7 s9 s20 wr' => ∃ i e : Nat, o ≤ i ∧ i + g = o + X.length ∧ exF (X.take (i - o)) = e ∧ s7 = .int .i64 i ∧ s9 = .bool false ∧ s20 = .int .i64 e ∧ wr' = wr)
            case atStart => exact ⟨o, 0, Nat.le_refl _, rfl, by rw [Nat.sub_self]; rfl, rfl, rfl, rfl, rfl⟩
            case round =>
              obtain ⟨i, e, hoi, hig, hex, rfl, rfl, rfl, rfl⟩ := hrel
              have hosz := HOSZ.out
              have heb := HEXB.out (i - o)
              rw [hex] at heb
              by_cases hlt : i < s.size
              · obtain ⟨d1, d2, d3⟩ := HDX.out i hoi hlt
                rw [hex] at d3
                have HD3 := Lib.hid d3
                have hd1 : (48 : Int) ≤ ((s[i]'hlt).toNat : Int) := by omega
                have hd2 : ((s[i]'hlt).toNat : Int) ≤ 57 := by omega
                have t95 : (((s[i]'hlt).toNat : Int) == 95) = false := by rw [beq_eq_false_iff_ne]; omega
                clear d3 d1 d2 hex hosz
                by_cases he : e < 10000
                · have te : decide ((e : Int) < 10000) = true := by rw [decide_eq_true_eq]; omega
                  go_wp2_with fail
                  go_roundg (gk - 1)
                  case measure => have := HOSZ.out; omega
                  case rel => exact ⟨i + 1, e * 10 + (s[i].toNat - 48), by omega, by have := HOSZ.out; omega, by rw [HD3.out, if_pos he], by go_num, rfl, by go_num, rfl⟩
                · have te : decide ((e : Int) < 10000) = false := by rw [decide_eq_false_iff_not]; omega
                  go_wp2_with fail
                  go_roundg (gk - 1)
                  case measure => have := HOSZ.out; omega
                  case rel => exact ⟨i + 1, e, by omega, by have := HOSZ.out; omega, by rw [HD3.out, if_neg he], by go_num, rfl, by go_num, rfl⟩
              · have hie : i = s.size := by omega
                have hexx : exF X = e := by rw [← hex, List.take_of_length_le (by omega)]
                have HE := Lib.hid hexx
                subst hie
                clear hex hexx hosz
                rcases HZ1.out with rfl | rfl
                · by_cases hmz : mant = 0
                  · have tz : ((mant : Int) != 0) = false := by rw [bne_eq_false_iff_eq]; omega
                    have HMZ := Lib.hid hmz
                    clear hmz
                    go_wp2_with fail
                    try rw [Exit.noGoto_ret]
                    refine bodyPost_ret (v := .tuple #[.int .u64 mant, .int .i64 0, .bool false, .bool tr, .bool false, .int .i64 s.size, .bool true]) (by simp [results, Tryz.results248, go_sem]) rfl ⟨by rw [HS.out, HEZ.out _ HMZ.out], rfl⟩
                  · have tz : ((mant : Int) != 0) = true := by rw [bne_iff_ne]; omega
                    have HMZ := Lib.hid hmz
                    clear hmz
                    go_wp2_with fail
                    try rw [Exit.noGoto_ret]
                    refine bodyPost_ret (v := .tuple #[.int .u64 mant, .int .i64 (DP + (e : Int) - (nm : Int)), .bool false, .bool tr, .bool false, .int .i64 s.size, .bool true]) (by simp [results, Tryz.results248, go_sem]) rfl ⟨by rw [HS.out, HEN.out _ HMZ.out, ← HZ.out, HE.out, Int.mul_one], rfl⟩
                · by_cases hmz : mant = 0
                  · have tz : ((mant : Int) != 0) = false := by rw [bne_eq_false_iff_eq]; omega
                    have HMZ := Lib.hid hmz
                    clear hmz
                    go_wp2_with fail
                    try rw [Exit.noGoto_ret]
                    refine bodyPost_ret (v := .tuple #[.int .u64 mant, .int .i64 0, .bool false, .bool tr, .bool false, .int .i64 s.size, .bool true]) (by simp [results, Tryz.results248, go_sem]) rfl ⟨by rw [HS.out, HEZ.out _ HMZ.out], rfl⟩
                  · have tz : ((mant : Int) != 0) = true := by rw [bne_iff_ne]; omega
                    have HMZ := Lib.hid hmz
                    clear hmz
                    go_wp2_with fail
                    try rw [Exit.noGoto_ret]
                    refine bodyPost_ret (v := .tuple #[.int .u64 mant, .int .i64 (DP + -(e : Int) - (nm : Int)), .bool false, .bool tr, .bool false, .int .i64 s.size, .bool true]) (by simp [results, Tryz.results248, go_sem]) rfl ⟨by rw [HS.out, HEN.out _ HMZ.out, ← HZ.out, HE.out, Int.mul_neg, Int.mul_one], rfl⟩
end Go.Proofs.YtckaoeloofbklaaGreatDoor

/- num.Parse but for its bases. -/
namespace Go.Proofs.YtckaoeloofbklaaGreatDoor
open Go Go.RowKit Go.Sort Go.Lib

theorem bars_none (l : List UInt8) (h : ∀ x ∈ l, x ≠ 95) : noBars l = l := by
  unfold noBars
  rw [List.filter_eq_self]
  intro x hx
  simpa using h x hx
theorem first_bar : ∀ l : List UInt8, (∀ x ∈ l, x ≠ 95) ∨ ∃ a b, l = a ++ 95 :: b ∧ ∀ x ∈ a, x ≠ 95
  | [] => .inl (by simp)
  | c :: l => by
    by_cases hc : c = 95
    · exact .inr ⟨[], l, by rw [hc]; rfl, by simp⟩
    · rcases first_bar l with h | ⟨a, b, h1, h2⟩
      · exact .inl (by intro x hx; rcases List.mem_cons.1 hx with h3 | h3; · rw [h3]; exact hc
                       · exact h x h3)
      · exact .inr ⟨c :: a, b, by rw [h1]; rfl, by intro x hx; rcases List.mem_cons.1 hx with h3 | h3; · rw [h3]; exact hc
                                                   · exact h2 x h3⟩
theorem replaceK_bars : ∀ (n : Nat) (l : List UInt8), l.length ≤ n → replaceK [95] [] (count l [95]) l = noBars l := by
  intro n
  induction n with
  | zero =>
    intro l hl
    have h0 : l = [] := List.length_eq_zero_iff.1 (by omega)
    subst h0
    rfl
  | succ n ih =>
    intro l hl
    rcases first_bar l with h | ⟨a, b, rfl, ha⟩
    · have hi : index l [95] = -1 := by rw [index_one, indexByte_not 95 l h]
      rw [count_miss hi, bars_none l h]; rfl
    · have hi : index (a ++ 95 :: b) [95] = (a.length : Nat) := by rw [index_one, indexByte_at 95 b a ha]
      have hc : count (a ++ 95 :: b) [95] = count b [95] + 1 := by
        rw [count_one, count_one, List.count_append, List.count_cons_self, List.count_eq_zero.2 (fun h => ha 95 h rfl)]; omega
      have hd : (a ++ 95 :: b).drop (a.length + [(95 : UInt8)].length) = b := by
        rw [show a ++ (95 : UInt8) :: b = (a ++ [95]) ++ b by simp]
        exact List.drop_left' (by simp)
      rw [hc, replaceK_hit _ _ _ _ _ hi, hd, ih b (by rw [List.length_append, List.length_cons] at hl; omega), List.take_left']
      · show a ++ [] ++ noBars b = noBars (a ++ 95 :: b)
        unfold noBars
        rw [List.filter_append, List.filter_cons, if_neg (by simp), List.append_nil]
        congr 1
        exact (bars_none a ha).symm
      · rfl
theorem replaceAll_bars (l : List UInt8) : replaceAll l [95] [] = noBars l := by
  unfold replaceAll replace replaceNum
  rw [if_neg (by decide), if_pos (.inl (by decide))]
  exact replaceK_bars _ l (Nat.le_refl _)

/-- bytes of decimal texts are of a class -/
theorem dec_class (l : List UInt8) (h : stN l ≠ 0) : ∀ x ∈ l, clsN x.toNat ≠ 0 := by
  revert h
  refine snoc_ind (P := fun l => stN l ≠ 0 → ∀ x ∈ l, clsN x.toNat ≠ 0) (fun _ x hx => by simp at hx) (fun l c ih h => ?_) l
  rw [stN_snoc] at h
  have h1 : stN l ≠ 0 := fun h2 => h (by rw [h2]; exact next_zero _ (cls_lt _))
  have h2 : clsN c.toNat ≠ 0 := fun h3 => h (by
    rw [h3]
    have key : ∀ q : Fin 13, nextN q.val 0 = 0 := by decide +kernel
    exact key ⟨_, stN_lt l⟩)
  intro x hx
  rcases List.mem_append.1 hx with h3 | h3
  · exact ih h1 x h3
  · rw [List.mem_singleton] at h3; rw [h3]; exact h2
theorem dec_st (l : List UInt8) (h : decB l = true) : stN l ≠ 0 := by
  intro h2
  unfold decB at h
  rw [h2] at h
  exact absurd h (by decide)
theorem dec_head1 (l : List UInt8) (h : decB l = true) : ∃ x t, l = x :: t ∧ x ≠ 45 := by
  cases l with
  | nil => exact absurd h (by decide)
  | cons x t =>
    refine ⟨x, t, rfl, ?_⟩
    rintro rfl
    have : stN (45 :: t) = 0 := by
      unfold stN
      rw [List.foldl_cons, show nextN 1 (clsN (45 : UInt8).toNat) = 0 from by decide]
      exact fold_zero t
    exact dec_st _ h this

theorem cls_low (c : Nat) (h : c < 256) (h1 : clsN c ≠ 0) : indexByte [120, 111, 98] (UInt8.ofNat (bits .or .u8 (c : Int) 32).toNat) = -1 := by
  have key : ∀ c : Fin 256, clsN c.val ≠ 0 → indexByte [120, 111, 98] (UInt8.ofNat (bits .or .u8 ((c.val : Nat) : Int) 32).toNat) = -1 := by decide +kernel
  exact key ⟨c, h⟩ h1

theorem run_copysign (r : Nat) (w : World) (h : r < 9223372036854775808) :
    Calls Tryz.prog 163 #[.float .f64 r, .float .f64 13830554455654793216] w fun e w' => e = .returned (.float .f64 (r + 9223372036854775808 : Nat)) ∧ w' = w := by
  have hb := run_mbits r
  have hb1 : ∀ W : World, (callFunc 124 #[.float .f64 13830554455654793216]).run Tryz.prog W = .ok (.value (.int .u64 13830554455654793216)) W := run_mbits 13830554455654793216
  have hf := run_mfrom (r + 9223372036854775808)
  have h1 : bits .andNot .u64 (r : Int) 9223372036854775808 = (r : Int) := by
    have h := u64_andNot_nat r 9223372036854775808 (by omega) (by decide)
    rw [show ((9223372036854775808 : Nat) : Int) = 9223372036854775808 from rfl] at h
    rw [h]
    congr 1
    have h3 : (r &&& (18446744073709551615 - 9223372036854775808)) = r := by
      rw [show 18446744073709551615 - 9223372036854775808 = 2 ^ 63 - 1 from by decide, Nat.and_two_pow_sub_one_eq_mod, Nat.mod_eq_of_lt (by omega)]
    exact h3
  have h2 : bits .and .u64 13830554455654793216 9223372036854775808 = 9223372036854775808 := by decide +kernel
  have h3 : bits .or .u64 (r : Int) 9223372036854775808 = ((r + 9223372036854775808 : Nat) : Int) := by
    have h := bits_or_u64_nat r 9223372036854775808 (by omega) (by decide)
    rw [show ((9223372036854775808 : Nat) : Int) = 9223372036854775808 from rfl] at h
    rw [h]
    congr 1
    rw [show (9223372036854775808 : Nat) = 2 ^ 63 * 1 from by decide, Nat.or_comm, ← Nat.two_pow_add_eq_or_of_lt (by omega)]
    omega
  generalize r + 9223372036854775808 = R at *
  go_enter Tryz.func163, Tryz.ntmps163
  go_wp2_with fail
  go_ret
  exact ⟨rfl, rfl⟩

/-- the sign's bytes -/
def sgB (neg : Bool) : List UInt8 := if neg then [45] else []
def sgW (neg : Bool) : Nat := if neg then 9223372036854775808 else 0
/-- what Parse hands back -/
def PaPost (X Q : Nat) (neg : Bool) (w : World) (e : Ending) (w' : World) : Prop := ∃ r, Near X Q r ∧ e = .returned (.tuple #[.int .u64 (r + sgW neg : Nat), .int .i64 0]) ∧ Below w.heap.size w w'

theorem cutp_run (s : ByteArray) (neg : Bool) (l : List UInt8) (w : World) (hs : s.data.toList = sgB neg ++ l) (hl : neg = false → l.head? ≠ some 45) :
    Calls Tryz.prog 117 #[.string s, .string ⟨#[45]⟩] w fun e w' => e = .returned (.tuple #[.string ⟨l.toArray⟩, .bool neg]) ∧ w' = w := by
  have h := Tryz.strings_CutPrefix s ⟨#[45]⟩ w
  have hp : hasPrefix s.data.toList (⟨#[45]⟩ : ByteArray).data.toList = neg := by
    rw [hs]
    cases neg with
    | true => rfl
    | false =>
      show hasPrefix l [45] = false
      cases l with
      | nil => rfl
      | cons x t =>
        have := hl rfl
        simp only [List.head?_cons, ne_eq, Option.some.injEq] at this
        show ([45] : List UInt8).isPrefixOf (x :: t) = false
        simp only [List.isPrefixOf, Bool.and_true]
        exact beq_eq_false_iff_ne.2 fun h => this h.symm
  have ht : trimPrefix s.data.toList (⟨#[45]⟩ : ByteArray).data.toList = l := by
    unfold trimPrefix
    rw [hp, hs]
    cases neg <;> rfl
  rw [hp, ht] at h
  exact h

theorem rep_run (l : List UInt8) (w : World) (hg : Globs w) (hl : l.length ≤ 1000) :
    Calls Tryz.prog 162 #[.string ⟨l.toArray⟩, .string ⟨#[95]⟩, .string ⟨#[]⟩] w fun e w' => e = .returned (.string ⟨(noBars l).toArray⟩) ∧ Below w.heap.size w w' := by
  obtain ⟨m, hm⟩ := hg.mlen
  refine (Tryz.strings_ReplaceAll ⟨l.toArray⟩ ⟨#[95]⟩ ⟨#[]⟩ m w (by rw [ba_size]; omega) hm (by decide) (by rw [ba_size, show (⟨#[]⟩ : ByteArray).size = 0 from rfl]; omega)).mono ?_
  rintro e w' ⟨he, hb⟩
  rw [show (⟨#[95]⟩ : ByteArray).data.toList = [95] from rfl, show (⟨#[]⟩ : ByteArray).data.toList = [] from rfl, replaceAll_bars] at he
  exact ⟨he, hb⟩

theorem near_lt63 {X Q r : Nat} (h : Near X Q r) : r < 9223372036854775808 := by
  have := h.inf
  unfold INF at this
  omega

set_option maxRecDepth 100000 in
set_option maxHeartbeats 4000000 in
theorem parse_dec (s : ByteArray) (neg : Bool) (l : List UInt8) (X Q K : Nat) (w : World) (hG : Globs w) (hT : GlobT K w) (hs : s.data.toList = sgB neg ++ l) (hlen : s.size ≤ 400) (hd : decB l = true)
    (hpf : ∀ W : World, Globs W → GlobT K W → Calls Tryz.prog 122 #[.string ⟨(noBars l).toArray⟩, .int .i64 64] W (PlPost X Q W)) :
    Calls Tryz.prog 121 #[.string s] w (PaPost X Q neg w) := by
  obtain ⟨x0, tl, hl0, hx0⟩ := dec_head1 l hd
  have hll : l.length ≤ 400 := by
    have : s.size = s.data.toList.length := by simp
    rw [hs, List.length_append] at this
    omega
  have hcl := dec_class l (dec_st l hd)
  have HCP := Lib.hid (cutp_run s neg l w hs (fun _ => by rw [hl0]; simpa using hx0))
  have HDE : Hid (∀ W : World, Calls Tryz.prog 161 #[.string ⟨l.toArray⟩] W fun e w' => e = .returned (.bool true) ∧ Below W.heap.size W w') := Lib.hid fun W => by
    have := decimal_any ⟨l.toArray⟩ W (by rw [ba_size]; omega)
    rw [show (⟨l.toArray⟩ : ByteArray).data.toList = l from rfl, hd] at this
    exact this
  have HRE := Lib.hid (fun (W : World) (h : Globs W) => rep_run l W h (by omega))
  have HPF := Lib.hid hpf
  have h400 : decide ((400 : Int) < (s.size : Int)) = false := by rw [decide_eq_false_iff_not]; omega
  have hnan0 : (l == [78, 97, 78]) = false := by
    rw [beq_eq_false_iff_ne]
    rintro rfl
    exact absurd (hcl 78 (by simp)) (by decide)
  have hinf0 : (l == [73, 110, 102, 105, 110, 105, 116, 121]) = false := by
    rw [beq_eq_false_iff_ne]
    rintro rfl
    exact absurd (hcl 73 (by simp)) (by decide)
  obtain ⟨T, hT0⟩ : ∃ T : ByteArray, T = ⟨l.toArray⟩ := ⟨_, rfl⟩
  have htsz : T.size = l.length := by rw [hT0]; rfl
  have hnan : (T.toList == [78, 97, 78]) = false := by rw [ByteArray.toList_eq, hT0]; exact hnan0
  have hinf : (T.toList == [73, 110, 102, 105, 110, 105, 116, 121]) = false := by rw [ByteArray.toList_eq, hT0]; exact hinf0
  have HIX : Hid (∀ (h : 1 < T.size) (W : World), Calls Tryz.prog 118 #[.string ⟨#[120, 111, 98]⟩, .int .u8 (bits .or .u8 ((T[1].toNat : Nat) : Int) 32)] W fun e w' => e = .returned (.int .i64 (-1)) ∧ w' = W) := Lib.hid fun h W => by
    have hc := cls_low T[1].toNat T[1].toNat_lt (hcl _ (by subst hT0; exact List.getElem_mem (l := l) (n := 1) (by rw [ba_size] at h; exact h)))
    have := Tryz.strings_IndexByte ⟨#[120, 111, 98]⟩ (bits .or .u8 ((T[1].toNat : Nat) : Int) 32) W
    rw [show (⟨#[120, 111, 98]⟩ : ByteArray).data.toList = [120, 111, 98] from rfl] at this
    rw [show indexByte [120, 111, 98] (bits .or .u8 ((T[1].toNat : Nat) : Int) 32).toNat.toUInt8 = -1 from hc] at this
    exact this
  rw [← hT0] at HCP HDE HRE
  have hGS := Lib.hid hG
  have hTS := Lib.hid hT
  have hcases : T.size ≤ 2 ∨ (∃ h : 2 < T.size, (((T[0]'(Nat.lt_trans (by decide) h)).toNat : Int) == 48) = false) ∨ (∃ h : 2 < T.size, (((T[0]'(Nat.lt_trans (by decide) h)).toNat : Int) == 48) = true) := by
    by_cases h : 2 < T.size
    · right
      cases h2 : (((T[0]'(Nat.lt_trans (by decide) h)).toNat : Int) == 48)
      · exact .inl ⟨h, h2⟩
      · exact .inr ⟨h, h2⟩
    · left; omega
  clear hG hT hpf hs hd hcl hl0 hT0 hll hnan0 hinf0
  rcases hcases with h2 | ⟨h2, t48⟩ | ⟨h2, t48⟩
  all_goals
    have HLN := Lib.hid htsz
    clear htsz
    go_enter Tryz.func121, Tryz.ntmps121
    go_wp2_with fail
    refine HCP.out.mono ?_
    rintro e w ⟨rfl, rfl⟩
    go_wp2_with (go_at_call 118; refine (HIX.out (by omega) _).mono ?_; rintro e w ⟨rfl, rfl⟩)
    refine (HDE.out _).mono ?_
    rintro e w1 ⟨rfl, hb1⟩
    have HB1 := Lib.hid hb1
    clear hb1
    go_wp2_with fail
    refine (HRE.out _ (hGS.out.on HB1.out)).mono ?_
    rintro e w2 ⟨rfl, hb2⟩
    have HB2 : Hid (Below w.heap.size w w2) := Lib.hid (HB1.out.trans (hb2.mono HB1.out.size))
    clear hb2
    go_wp2_with fail
    refine (HPF.out _ (hGS.out.on HB2.out) (hTS.out.on HB2.out)).mono ?_
    rintro e w3 ⟨r, ev, hn, rfl, hb3⟩
    have HB3 : Hid (Below w.heap.size w w3) := Lib.hid (HB2.out.trans (hb3.mono HB2.out.size))
    have HN := Lib.hid hn
    have HCS := Lib.hid (fun (W : World) => run_copysign r W (near_lt63 hn))
    have hmb : ∀ W : World, (callFunc 124 #[.float .f64 r]).run Tryz.prog W = .ok (.value (.int .u64 r)) W := run_mbits r
    have hmb2 : ∀ W : World, (callFunc 124 #[.float .f64 (r + 9223372036854775808 : Nat)]).run Tryz.prog W = .ok (.value (.int .u64 (r + 9223372036854775808 : Nat))) W := run_mbits (r + 9223372036854775808)
    clear hb3 hn
    obtain ⟨R2, hR2⟩ : ∃ R2 : Nat, R2 = r + 9223372036854775808 := ⟨_, rfl⟩
    rw [← hR2] at HCS hmb2
    have HR2 := Lib.hid hR2
    clear hR2
    cases neg
    · go_wp2_with fail
      refine bodyPost_ret (v := .tuple #[.int .u64 r, .int .i64 0]) (by simp [results, Tryz.results121, go_sem]) rfl ⟨r, HN.out, rfl, HB3.out⟩
    · go_wp2_with fail
      refine (HCS.out _).mono ?_
      rintro e w4 ⟨rfl, hw4⟩
      subst hw4
      go_wp2_with fail
      refine bodyPost_ret (v := .tuple #[.int .u64 R2, .int .i64 0]) (by simp [results, Tryz.results121, go_sem]) rfl ⟨r, HN.out, by rw [HR2.out]; rfl, HB3.out⟩
end Go.Proofs.YtckaoeloofbklaaGreatDoor

/- What hexadecimal makes of digits (plain); its map; builders. -/
namespace Go.Proofs.YtckaoeloofbklaaGreatDoor
open Go Go.RowKit Go.Sort Go.Lib Go.Maps

theorem dvl_zeros (b n : Nat) : dvl b (List.replicate n 48) = 0 := by
  induction n with
  | zero => rfl
  | succ n ih => rw [List.replicate_succ', dvl_snoc, ih]; simp [dv]
end Go.Proofs.YtckaoeloofbklaaGreatDoor
