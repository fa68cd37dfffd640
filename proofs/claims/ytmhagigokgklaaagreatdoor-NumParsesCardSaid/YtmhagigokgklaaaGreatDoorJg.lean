/- Joined texts: Vo Vp Vq Vr Pi Pa Pb. Each begins with its own remark. -/
import Derived.Test.YtmhagigokgklaaaGreatDoorJf
import Derived.Test.YtmhagigokgklaaaGreatDoorShelf
import Derived.Lib.AppendIntMem
import Derived.Lib.IndexBytes
import Derived.Lib.Replace
import Derived.Test.YtmhagigokgklaaaGreatDoorJe
import Derived.Test.YtmhagigokgklaaaGreatDoorJd
import Derived.Test.YtmhagigokgklaaaGreatDoorJb
import Derived.Laws.BitsAllLaws
import Derived.Lib.AtoiErrMem
import Derived.Deep.WholeRow

/- num.placed: digits with a point. -/
namespace Go.Proofs.YtmhagigokgklaaaGreatDoor
open Go Go.RowKit Go.Sort Go.Lib

def expS (x : Int) : List UInt8 := 101 :: (if x < 0 then 45 else 43) :: decDigits x.natAbs
def placedB (d : List UInt8) (p : Int) : List UInt8 :=
  if (d.length : Int) ≤ p ∧ p ≤ 21 then d ++ List.replicate (p - d.length).toNat 48
  else if 0 < p ∧ p < d.length ∧ p ≤ 21 then d.take p.toNat ++ 46 :: d.drop p.toNat
  else if -6 < p ∧ p ≤ 0 then 48 :: 46 :: (List.replicate (-p).toNat 48 ++ d)
  else (if 1 < d.length then d.take 1 ++ 46 :: d.drop 1 else d) ++ expS (p - 1)

theorem repeat48 (k : Nat) : repeatL [48] k = List.replicate k 48 := by
  induction k with
  | zero => rfl
  | succ k ih => simp [repeatL, ih, List.replicate_succ]

theorem str_is {l : List UInt8} {s : ByteArray} (h : s.data.toList = l) : s = ⟨l.toArray⟩ := by
  subst h; rfl

theorem zeros_any (k : Int) (w : World) (h0 : 0 ≤ k) (h1 : k ≤ 10000) :
    Calls Tryz.prog 58 #[.string ⟨#[48]⟩, .int .i64 k] w fun e w' => e = .returned (.string ⟨(List.replicate k.toNat 48).toArray⟩) ∧ Below w.heap.size w w' := by
  obtain ⟨n, rfl⟩ := Int.eq_ofNat_of_zero_le h0
  have := Tryz.strings_Repeat ⟨#[48]⟩ n w (by omega) (by show 1 * n ≤ _; omega)
  rw [show (⟨#[48]⟩ : ByteArray).data.toList = [48] from rfl, repeat48] at this
  exact this

theorem zz (k : Nat) : (⟨(List.replicate k 48).toArray⟩ : ByteArray).size = k := by
  show (List.replicate k (48 : UInt8)).toArray.size = k
  rw [List.size_toArray, List.length_replicate]
set_option maxRecDepth 100000 in
set_option maxHeartbeats 1000000 in
theorem placed_1 (d : ByteArray) (p : Int) (w : World) (hd : d.size ≤ 20) (h1 : (d.size : Int) ≤ p) (h2 : p ≤ 21) :
    Calls Tryz.prog 42 #[.string d, .int .i64 p] w fun e w' => e = .returned (.string ⟨(placedB d.data.toList p).toArray⟩) ∧ Below w.heap.size w w' := by
  have hR : d ++ (⟨(List.replicate (p - d.size).toNat 48).toArray⟩ : ByteArray) = ⟨(placedB d.data.toList p).toArray⟩ := by
    refine str_is ?_
    rw [placedB, if_pos (by simpa using ⟨h1, h2⟩)]
    simp
  have HZ := Lib.hid (zeros_any (p - d.size) w (by omega) (by omega))
  have hz : (⟨(List.replicate (p - d.size).toNat 48).toArray⟩ : ByteArray).size ≤ 100 := by rw [zz]; omega
  generalize (⟨(placedB d.data.toList p).toArray⟩ : ByteArray) = R at *
  generalize (⟨(List.replicate (p - d.size).toNat 48).toArray⟩ : ByteArray) = Z at *
  go_enter Tryz.func42, Tryz.ntmps42
  go_wp2_with fail
  refine HZ.out.mono ?_
  rintro e w5 ⟨rfl, hb⟩
  have HB := Lib.hid hb
  clear hb
  go_wp2_with fail
  go_ret
  exact ⟨rfl, HB.out⟩

set_option maxRecDepth 100000 in
set_option maxHeartbeats 1000000 in
theorem placed_2 (d : ByteArray) (p : Int) (w : World) (hd : d.size ≤ 20) (h1 : 0 < p) (h2 : p < d.size) (h3 : p ≤ 21) :
    Calls Tryz.prog 42 #[.string d, .int .i64 p] w fun e w' => e = .returned (.string ⟨(placedB d.data.toList p).toArray⟩) ∧ Below w.heap.size w w' := by
  obtain ⟨q, rfl⟩ := Int.eq_ofNat_of_zero_le (show 0 ≤ p by omega)
  have hR : d.extract 0 q ++ (⟨#[46]⟩ : ByteArray) ++ d.extract q d.size = ⟨(placedB d.data.toList q).toArray⟩ := by
    refine str_is ?_
    rw [placedB, if_neg (show ¬ _ by simp; omega), if_pos (by simp; omega)]
    simp [List.extract_eq_take_drop, ← ByteArray.size_data]
    exact List.take_of_length_le (by simp)
  have HB := Lib.hid (Below.refl w.heap.size w)
  have hq : q ≤ d.size := by omega
  have hA : ∀ W : World, (Instr.slice 9 (.string d) none (some (.int .i64 q)) none).run Tryz.prog W = .ok (.string (d.extract 0 q)) W := fun W => run_slice_string_h W _ d Tryz.underlying9 .i64 q (by omega) (by omega)
  have hC : ∀ W : World, (Instr.slice 9 (.string d) (some (.int .i64 q)) none none).run Tryz.prog W = .ok (.string (d.extract q d.size)) W := fun W => run_slice_string_l W _ d Tryz.underlying9 .i64 q (by omega) (by omega)
  have za : (d.extract 0 q).size ≤ 100 := by rw [ByteArray.size_extract]; omega
  have zc : (d.extract q d.size).size ≤ 100 := by rw [ByteArray.size_extract]; omega
  generalize d.extract 0 q = A at *
  generalize d.extract q d.size = C at *
  generalize (⟨(placedB d.data.toList q).toArray⟩ : ByteArray) = R at *
  go_enter Tryz.func42, Tryz.ntmps42
  go_wp2_with fail
  go_quiet (fail)
  go_wp2
  go_ret
  exact ⟨rfl, bDrewN HB.out _⟩

set_option maxRecDepth 100000 in
set_option maxHeartbeats 1000000 in
theorem placed_3 (d : ByteArray) (p : Int) (w : World) (hd : d.size ≤ 20) (hd1 : 1 ≤ d.size) (h1 : -6 < p) (h2 : p ≤ 0) :
    Calls Tryz.prog 42 #[.string d, .int .i64 p] w fun e w' => e = .returned (.string ⟨(placedB d.data.toList p).toArray⟩) ∧ Below w.heap.size w w' := by
  have hR : (⟨#[48, 46]⟩ : ByteArray) ++ (⟨(List.replicate (-p).toNat 48).toArray⟩ : ByteArray) ++ d = ⟨(placedB d.data.toList p).toArray⟩ := by
    refine str_is ?_
    rw [placedB, if_neg (show ¬ _ by simp; omega), if_neg (show ¬ _ by omega), if_pos ⟨h1, h2⟩]
    simp
  have HZ := Lib.hid (zeros_any (-p) w (by omega) (by omega))
  have hz : (⟨(List.replicate (-p).toNat 48).toArray⟩ : ByteArray).size ≤ 100 := by rw [zz]; omega
  generalize (⟨(placedB d.data.toList p).toArray⟩ : ByteArray) = R at *
  generalize (⟨(List.replicate (-p).toNat 48).toArray⟩ : ByteArray) = Z at *
  go_enter Tryz.func42, Tryz.ntmps42
  go_wp2_with fail
  refine HZ.out.mono ?_
  rintro e w5 ⟨rfl, hb⟩
  have HB := Lib.hid hb
  clear hb
  go_wp2_with fail
  go_ret
  exact ⟨rfl, HB.out⟩

/-- strconv.Itoa at a small number, with what a string of few bytes wants -/
theorem itoa_any (n : Nat) (w : World) (hg : Glob w) (hn : n ≤ 5001) :
    Calls Tryz.prog 77 #[.int .i64 n] w fun e w' => e = .returned (.string ⟨(decDigits n).toArray⟩) ∧ Below w.heap.size w w' := by
  refine (Tryz.strconv_Itoa n (by omega) (by omega) w hg.u10).mono ?_
  rintro e w' ⟨rfl, k, os, rfl⟩
  refine ⟨by rw [itoa, if_neg (by omega)]; rfl, ?_⟩
  exact below_grow _ w (Nat.le_refl _) k os

-- four
set_option maxRecDepth 100000 in
set_option maxHeartbeats 1000000 in
theorem placed_4ps (d : ByteArray) (k : Nat) (w : World) (hg : Glob w) (_hd : d.size ≤ 20) (hd1 : d.size = 1) (hk : 21 ≤ k) (hk2 : k ≤ 5001) :
    Calls Tryz.prog 42 #[.string d, .int .i64 ((k : Int) + 1)] w fun e w' => e = .returned (.string ⟨(placedB d.data.toList ((k : Int) + 1)).toArray⟩) ∧ Below w.heap.size w w' := by
  have HI := Lib.hid (itoa_any k w hg hk2)
  have hz : (⟨(decDigits k).toArray⟩ : ByteArray).size ≤ 100 := by
    show (decDigits k).toArray.size ≤ 100
    rw [List.size_toArray, decDigits_length]
    have := nDigits_le k (by omega) (by omega); omega
  have hR : d ++ (⟨#[101]⟩ : ByteArray) ++ (⟨#[43]⟩ : ByteArray) ++ ⟨(decDigits k).toArray⟩ = ⟨(placedB d.data.toList ((k : Int) + 1)).toArray⟩ := by
    refine str_is ?_
    rw [placedB, if_neg (show ¬ _ by omega), if_neg (show ¬ _ by omega), if_neg (show ¬ _ by omega), if_neg (show ¬ 1 < d.data.toList.length by rw [Array.length_toList]; exact Nat.not_lt.2 (Nat.le_of_eq hd1)), expS, if_neg (show ¬ ((k : Int) + 1) - 1 < 0 by omega), show (((k : Int) + 1) - 1).natAbs = k by omega]
    simp
  have ha : ((k : Int) + 1) - 1 = k := by omega
  clear hg
  generalize (⟨(placedB d.data.toList ((k : Int) + 1)).toArray⟩ : ByteArray) = R at *
  generalize (⟨(decDigits k).toArray⟩ : ByteArray) = Z at *
  go_enter Tryz.func42, Tryz.ntmps42
  go_wp2_with fail

  refine HI.out.mono ?_
  rintro e w5 ⟨rfl, hb⟩
  have HB := Lib.hid hb
  clear hb
  go_wp2_with fail
  go_ret
  exact ⟨rfl, HB.out⟩

set_option maxRecDepth 100000 in
set_option maxHeartbeats 1000000 in
theorem placed_4pl (d : ByteArray) (k : Nat) (w : World) (hg : Glob w) (hd : d.size ≤ 20) (hd1 : 1 < d.size) (hk : 21 ≤ k) (hk2 : k ≤ 5001) :
    Calls Tryz.prog 42 #[.string d, .int .i64 ((k : Int) + 1)] w fun e w' => e = .returned (.string ⟨(placedB d.data.toList ((k : Int) + 1)).toArray⟩) ∧ Below w.heap.size w w' := by
  have HI := Lib.hid (fun (n : Nat) => itoa_any k (w.drewN n) (hg.drewN n) hk2)
  have hz : (⟨(decDigits k).toArray⟩ : ByteArray).size ≤ 100 := by
    show (decDigits k).toArray.size ≤ 100
    rw [List.size_toArray, decDigits_length]
    have := nDigits_le k (by omega) (by omega); omega
  have hA : ∀ W : World, (Instr.slice 9 (.string d) none (some (.int .i64 1)) none).run Tryz.prog W = .ok (.string (d.extract 0 1)) W := fun W => run_slice_string_h W _ d Tryz.underlying9 .i64 1 (by omega) (by omega)
  have hC : ∀ W : World, (Instr.slice 9 (.string d) (some (.int .i64 1)) none none).run Tryz.prog W = .ok (.string (d.extract 1 d.size)) W := fun W => run_slice_string_l W _ d Tryz.underlying9 .i64 1 (by omega) (by omega)
  have za : (d.extract 0 1).size ≤ 100 := by rw [ByteArray.size_extract]; omega
  have zc : (d.extract 1 d.size).size ≤ 100 := by rw [ByteArray.size_extract]; omega
  have hR : d.extract 0 1 ++ (⟨#[46]⟩ : ByteArray) ++ d.extract 1 d.size ++ (⟨#[101]⟩ : ByteArray) ++ (⟨#[43]⟩ : ByteArray) ++ ⟨(decDigits k).toArray⟩ = ⟨(placedB d.data.toList ((k : Int) + 1)).toArray⟩ := by
    refine str_is ?_
    rw [placedB, if_neg (show ¬ _ by omega), if_neg (show ¬ _ by omega), if_neg (show ¬ _ by omega), if_pos (show 1 < d.data.toList.length by rw [Array.length_toList]; exact hd1), expS, if_neg (show ¬ ((k : Int) + 1) - 1 < 0 by omega), show (((k : Int) + 1) - 1).natAbs = k by omega]
    simp [List.extract_eq_take_drop, ← ByteArray.size_data]
    exact List.take_of_length_le (by simp)
  have hns : ((k : Int) + 1 < (d.size : Int)) = False := by simp; omega
  have ha : ((k : Int) + 1) - 1 = k := by omega
  clear hg
  generalize (⟨(placedB d.data.toList ((k : Int) + 1)).toArray⟩ : ByteArray) = R at *
  generalize (⟨(decDigits k).toArray⟩ : ByteArray) = Z at *
  generalize d.extract 0 1 = A at *
  generalize d.extract 1 d.size = C at *
  go_enter Tryz.func42, Tryz.ntmps42
  go_wp2_with fail

  go_quiet (fail)
  go_wp2_with fail
  refine (HI.out _).mono ?_
  rintro e w5 ⟨rfl, hb⟩
  have HB := Lib.hid hb
  clear hb
  go_wp2_with fail
  go_ret
  exact ⟨rfl, (bDrewN (Below.refl _ _) _).trans HB.out⟩

set_option maxRecDepth 100000 in
set_option maxHeartbeats 1000000 in
theorem placed_4ns (d : ByteArray) (k : Nat) (w : World) (hg : Glob w) (_hd : d.size ≤ 20) (hd1 : d.size = 1) (hk : 7 ≤ k) (hk2 : k ≤ 5001) :
    Calls Tryz.prog 42 #[.string d, .int .i64 (1 - (k : Int))] w fun e w' => e = .returned (.string ⟨(placedB d.data.toList (1 - (k : Int))).toArray⟩) ∧ Below w.heap.size w w' := by
  have HI := Lib.hid (itoa_any k w hg hk2)
  have hz : (⟨(decDigits k).toArray⟩ : ByteArray).size ≤ 100 := by
    show (decDigits k).toArray.size ≤ 100
    rw [List.size_toArray, decDigits_length]
    have := nDigits_le k (by omega) (by omega); omega
  have hR : d ++ (⟨#[101]⟩ : ByteArray) ++ (⟨#[45]⟩ : ByteArray) ++ ⟨(decDigits k).toArray⟩ = ⟨(placedB d.data.toList (1 - (k : Int))).toArray⟩ := by
    refine str_is ?_
    rw [placedB, if_neg (show ¬ _ by omega), if_neg (show ¬ _ by omega), if_neg (show ¬ _ by omega), if_neg (show ¬ 1 < d.data.toList.length by rw [Array.length_toList]; exact Nat.not_lt.2 (Nat.le_of_eq hd1)), expS, if_pos (show (1 - (k : Int)) - 1 < 0 by omega), show ((1 - (k : Int)) - 1).natAbs = k by omega]
    simp
  have ha : (1 - (k : Int)) - 1 = -(k : Int) := by omega
  clear hg
  generalize (⟨(placedB d.data.toList (1 - (k : Int))).toArray⟩ : ByteArray) = R at *
  generalize (⟨(decDigits k).toArray⟩ : ByteArray) = Z at *
  go_enter Tryz.func42, Tryz.ntmps42
  go_wp2_with fail

  refine HI.out.mono ?_
  rintro e w5 ⟨rfl, hb⟩
  have HB := Lib.hid hb
  clear hb
  go_wp2_with fail
  go_ret
  exact ⟨rfl, HB.out⟩

set_option maxRecDepth 100000 in
set_option maxHeartbeats 1000000 in
theorem placed_4nl (d : ByteArray) (k : Nat) (w : World) (hg : Glob w) (hd : d.size ≤ 20) (hd1 : 1 < d.size) (hk : 7 ≤ k) (hk2 : k ≤ 5001) :
    Calls Tryz.prog 42 #[.string d, .int .i64 (1 - (k : Int))] w fun e w' => e = .returned (.string ⟨(placedB d.data.toList (1 - (k : Int))).toArray⟩) ∧ Below w.heap.size w w' := by
  have HI := Lib.hid (fun (n : Nat) => itoa_any k (w.drewN n) (hg.drewN n) hk2)
  have hz : (⟨(decDigits k).toArray⟩ : ByteArray).size ≤ 100 := by
    show (decDigits k).toArray.size ≤ 100
    rw [List.size_toArray, decDigits_length]
    have := nDigits_le k (by omega) (by omega); omega
  have hA : ∀ W : World, (Instr.slice 9 (.string d) none (some (.int .i64 1)) none).run Tryz.prog W = .ok (.string (d.extract 0 1)) W := fun W => run_slice_string_h W _ d Tryz.underlying9 .i64 1 (by omega) (by omega)
  have hC : ∀ W : World, (Instr.slice 9 (.string d) (some (.int .i64 1)) none none).run Tryz.prog W = .ok (.string (d.extract 1 d.size)) W := fun W => run_slice_string_l W _ d Tryz.underlying9 .i64 1 (by omega) (by omega)
  have za : (d.extract 0 1).size ≤ 100 := by rw [ByteArray.size_extract]; omega
  have zc : (d.extract 1 d.size).size ≤ 100 := by rw [ByteArray.size_extract]; omega
  have hR : d.extract 0 1 ++ (⟨#[46]⟩ : ByteArray) ++ d.extract 1 d.size ++ (⟨#[101]⟩ : ByteArray) ++ (⟨#[45]⟩ : ByteArray) ++ ⟨(decDigits k).toArray⟩ = ⟨(placedB d.data.toList (1 - (k : Int))).toArray⟩ := by
    refine str_is ?_
    rw [placedB, if_neg (show ¬ _ by omega), if_neg (show ¬ _ by omega), if_neg (show ¬ _ by omega), if_pos (show 1 < d.data.toList.length by rw [Array.length_toList]; exact hd1), expS, if_pos (show (1 - (k : Int)) - 1 < 0 by omega), show ((1 - (k : Int)) - 1).natAbs = k by omega]
    simp [List.extract_eq_take_drop, ← ByteArray.size_data]
    exact List.take_of_length_le (by simp)
  have ha : (1 - (k : Int)) - 1 = -(k : Int) := by omega
  clear hg
  generalize (⟨(placedB d.data.toList (1 - (k : Int))).toArray⟩ : ByteArray) = R at *
  generalize (⟨(decDigits k).toArray⟩ : ByteArray) = Z at *
  generalize d.extract 0 1 = A at *
  generalize d.extract 1 d.size = C at *
  go_enter Tryz.func42, Tryz.ntmps42
  go_wp2_with fail

  go_quiet (fail)
  go_wp2_with fail
  refine (HI.out _).mono ?_
  rintro e w5 ⟨rfl, hb⟩
  have HB := Lib.hid hb
  clear hb
  go_wp2_with fail
  go_ret
  exact ⟨rfl, (bDrewN (Below.refl _ _) _).trans HB.out⟩

theorem placed_any (d : ByteArray) (p : Int) (w : World) (hg : Glob w) (hd : d.size ≤ 20) (hd1 : 1 ≤ d.size) (h2 : -5000 ≤ p) (h3 : p ≤ 5000) :
    Calls Tryz.prog 42 #[.string d, .int .i64 p] w fun e w' => e = .returned (.string ⟨(placedB d.data.toList p).toArray⟩) ∧ Below w.heap.size w w' := by
  by_cases h21 : p ≤ 21
  · by_cases hn : (d.size : Int) ≤ p
    · exact placed_1 d p w hd hn h21
    · by_cases h0 : 0 < p
      · exact placed_2 d p w hd h0 (by omega) h21
      · by_cases h6 : -6 < p
        · exact placed_3 d p w hd hd1 h6 (by omega)
        · obtain ⟨k, hk⟩ : ∃ k : Nat, p = 1 - (k : Int) := ⟨(1 - p).toNat, by omega⟩
          subst hk
          by_cases h1 : d.size = 1
          · exact placed_4ns d k w hg hd h1 (by omega) (by omega)
          · exact placed_4nl d k w hg hd (by omega) (by omega) (by omega)
  · obtain ⟨k, hk⟩ : ∃ k : Nat, p = (k : Int) + 1 := ⟨(p - 1).toNat, by omega⟩
    subst hk
    by_cases h1 : d.size = 1
    · exact placed_4ps d k w hg hd h1 (by omega) (by omega)
    · exact placed_4pl d k w hg hd (by omega) (by omega) (by omega)
end Go.Proofs.YtmhagigokgklaaaGreatDoor

/- The text of FormatFloat, cut into its digits and its power (plain). -/
namespace Go.Proofs.YtmhagigokgklaaaGreatDoor
open Go Go.RowKit Go.Sort Go.Lib


theorem dig_of (k : Nat) (h : k < 10) : isDig (UInt8.ofNat (48 + k)) := by
  unfold isDig
  rw [UInt8.toNat_ofNat', Nat.mod_eq_of_lt (by omega)]
  omega

theorem dec_digs (u : Nat) : ∀ x ∈ decDigits u, isDig x := by
  induction u using Nat.strongRecOn with
  | _ u ih =>
    intro x hx
    rw [decDigits] at hx
    split at hx
    · rw [List.mem_singleton] at hx; subst hx; exact dig_of u (by omega)
    · rcases List.mem_append.1 hx with h | h
      · exact ih (u / 10) (by omega) x h
      · rw [List.mem_singleton] at h; subst h; exact dig_of _ (by omega)

theorem sig_digs (u : Nat) : ∀ x ∈ sig u, isDig x := by
  obtain ⟨k, -, h⟩ := sig_take u
  intro x hx
  rw [h] at hx
  exact dec_digs u x (List.mem_of_mem_take hx)

theorem indexByte_at (c : UInt8) (b : List UInt8) : ∀ a : List UInt8, (∀ x ∈ a, x ≠ c) → indexByte (a ++ c :: b) c = (a.length : Nat)
  | [], _ => by simp [indexByte]
  | x :: a, h => by
    have ih := indexByte_at c b a (fun y hy => h y (List.mem_cons_of_mem _ hy))
    have hx : x ≠ c := h x (List.mem_cons_self ..)
    rw [List.cons_append, indexByte, if_neg (by simpa using hx), ih, if_neg (by simp)]
    rw [List.length_cons]; push_cast; rfl

theorem indexByte_not (c : UInt8) : ∀ a : List UInt8, (∀ x ∈ a, x ≠ c) → indexByte a c = -1
  | [], _ => rfl
  | x :: a, h => by
    have ih := indexByte_not c a (fun y hy => h y (List.mem_cons_of_mem _ hy))
    have hx : x ≠ c := h x (List.mem_cons_self ..)
    rw [indexByte, if_neg (by simpa using hx), ih]
    rfl

theorem cut_at (c : UInt8) (a b : List UInt8) (h : ∀ x ∈ a, x ≠ c) : cut (a ++ c :: b) [c] = (a, b, true) := by
  unfold cut
  rw [index_one, indexByte_at c b a h, if_pos (by omega)]
  simp

theorem replace_at (c : UInt8) (a b : List UInt8) (h : ∀ x ∈ a, x ≠ c) : replace (a ++ c :: b) [c] [] 1 = a ++ b := by
  have hi : index (a ++ c :: b) [c] = (a.length : Nat) := by rw [index_one, indexByte_at c b a h]
  have hc : 1 ≤ count (a ++ c :: b) [c] := by
    rw [count_one, List.count_append, List.count_cons_self]; exact Nat.le_trans (Nat.le_add_left _ _) (Nat.le_add_left _ _)
  have hn : replaceNum (a ++ c :: b) [c] 1 = 1 := by
    unfold replaceNum
    rw [if_neg (by omega)]; rfl
  unfold replace
  rw [if_neg (by simp), hn, replaceK_hit _ _ _ _ _ hi, replaceK]
  simp

theorem replace_not (c : UInt8) (a : List UInt8) (h : ∀ x ∈ a, x ≠ c) : replace a [c] [] 1 = a := by
  have hi : index a [c] = -1 := by rw [index_one, indexByte_not c a h]
  have hn : replaceNum a [c] 1 = 0 := by
    unfold replaceNum
    rw [count_miss hi]; rfl
  unfold replace
  rw [if_neg (by simp), hn, replaceK]

/-- the digits' text, with a point behind the first -/
def mantB (d : List UInt8) : List UInt8 := d.take 1 ++ (if 1 < d.length then 46 :: d.drop 1 else [])

theorem dp_eq (d : Nat) (p : Int) (h : 1 ≤ d) : dpB d p = mantB (sig d) ++ 101 :: expB ((nDigits d : Nat) + p - 1) := by
  obtain ⟨x, l, h1⟩ := sig_head d h
  unfold dpB mantB
  rw [h1]
  simp

theorem mant_ne (l : List UInt8) (c : UInt8) (h : ∀ x ∈ l, isDig x) (h2 : c.toNat ≠ 46) (h3 : ¬ isDig c) : ∀ x ∈ mantB l, x ≠ c := by
  intro x hx hxc
  subst hxc
  unfold mantB at hx
  rcases List.mem_append.1 hx with h4 | h4
  · exact h3 (h x (List.mem_of_mem_take h4))
  · split at h4
    · rcases List.mem_cons.1 h4 with h5 | h5
      · exact h2 (by rw [h5]; rfl)
      · exact h3 (h x (List.mem_of_mem_drop h5))
    · simp at h4

theorem mant_back (l : List UInt8) (h : ∀ x ∈ l, isDig x) : replace (mantB l) [46] [] 1 = l := by
  have hne : ∀ x ∈ l, x ≠ 46 := fun x hx e => by have := h x hx; rw [e] at this; exact absurd this (by unfold isDig; decide)
  unfold mantB
  split
  · rw [replace_at 46 _ _ (fun x hx => hne x (List.mem_of_mem_take hx)), List.take_append_drop]
  · have h1 : l.take 1 = l := List.take_of_length_le (by omega)
    rw [List.append_nil, h1, replace_not 46 l hne]

theorem val_of (k : Nat) (h : k < 10) : digitVal (UInt8.ofNat (48 + k)) = some k := by
  unfold digitVal
  rw [UInt8.toNat_ofNat', Nat.mod_eq_of_lt (show 48 + k < 2 ^ 8 by omega), if_pos (by omega)]
  simp

theorem exp_nat (k : Nat) (h : k < 1000) (l : List UInt8) (hl : l = if k < 10 then [48, UInt8.ofNat (48 + k)] else if k < 100 then [UInt8.ofNat (48 + k / 10), UInt8.ofNat (48 + k % 10)] else [UInt8.ofNat (48 + k / 100), UInt8.ofNat (48 + k / 10 % 10), UInt8.ofNat (48 + k % 10)]) : decNat l = some k := by
  subst hl
  have h48 : digitVal 48 = some 0 := by decide
  split
  · have e1 := val_of k (by omega)
    generalize UInt8.ofNat (48 + k) = b1 at *
    simp [decNat, decFrom, h48, e1]
  · split
    · have e1 := val_of (k / 10) (by omega)
      have e2 := val_of (k % 10) (by omega)
      generalize UInt8.ofNat (48 + k / 10) = b1 at *
      generalize UInt8.ofNat (48 + k % 10) = b2 at *
      simp only [decNat, decFrom, e1, e2, List.isEmpty_cons, Bool.false_eq_true, if_false, Option.some.injEq]
      omega
    · have e0 := val_of (k / 100) (by omega)
      have e1 := val_of (k / 10 % 10) (by omega)
      have e2 := val_of (k % 10) (by omega)
      generalize UInt8.ofNat (48 + k / 100) = b0 at *
      generalize UInt8.ofNat (48 + k / 10 % 10) = b1 at *
      generalize UInt8.ofNat (48 + k % 10) = b2 at *
      simp only [decNat, decFrom, e0, e1, e2, List.isEmpty_cons, Bool.false_eq_true, if_false, Option.some.injEq]
      omega

theorem atoi_exp (x : Int) (h : x.natAbs < 1000) : atoi (expB x) = some x := by
  unfold expB
  by_cases hx : x < 0
  · rw [if_pos hx, atoi, if_pos (by decide), exp_nat x.natAbs h _ rfl]
    simp; omega
  · rw [if_neg hx, atoi, if_neg (by decide), if_pos (by decide), exp_nat x.natAbs h _ rfl]
    simp; omega

theorem exp_len (x : Int) : (expB x).length ≤ 4 := by
  unfold expB
  split <;> split <;> (try split) <;> simp

theorem sig_len (d : Nat) (h : 1 ≤ d) (h2 : d < 18446744073709551616) : 1 ≤ (sig d).length ∧ (sig d).length ≤ 20 := by
  obtain ⟨x, l, h1⟩ := sig_head d h
  obtain ⟨k, h3, h4⟩ := sig_take d
  rw [decDigits_length] at h3
  have h5 := nDigits_le d h h2
  refine ⟨by rw [h1]; simp, ?_⟩
  rw [h4, List.length_take]
  omega

theorem mant_len (l : List UInt8) : (mantB l).length ≤ l.length + 1 := by
  unfold mantB
  split <;> simp <;> omega

/-- the digits of a number, and the power behind the point ahead of them -/
def shN (a : Nat) : Nat × Int := shortN (MN a) (EN a)
def showA (a : Nat) : List UInt8 := placedB (sig (shN a).1) ((nDigits (shN a).1 : Nat) + (shN a).2)
def infB : List UInt8 := ([73, 110, 102, 105, 110, 105, 116, 121] : List UInt8)
def nanB : List UInt8 := ([78, 97, 78] : List UInt8)
def showB (b : Nat) : List UInt8 :=
  if 9218868437227405312 < b % 9223372036854775808 then nanB
  else (if b < 9223372036854775808 then [] else [45]) ++ (if b % 9223372036854775808 = 9218868437227405312 then infB else if b % 9223372036854775808 = 0 then [48] else showA (b % 9223372036854775808))

theorem me_ok (b : Nat) (hb1 : 0 < b) (hb2 : b < 9218868437227405312) :
    9223372036854775808 ≤ MN b ∧ MN b < 18446744073709551616 ∧ MN b % 2 ^ zN (EN b) = 0 ∧ -1137 ≤ EN b ∧ EN b ≤ 1000 := by
  by_cases hs : b < 4503599627370496
  · have hm : mtN b = b := by unfold mtN; rw [if_pos hs]
    have hL := bitLen_le b 52 hb1 (by omega) hs
    obtain ⟨hM1, hM2⟩ := norm_bounds b hb1 (by omega)
    obtain ⟨hL1, _, _⟩ := bitLen_bounds b hb1 (by omega)
    have hE : EN b = -1074 - ((64 - Lib.bitLen b : Nat) : Int) := by unfold EN sN; rw [if_pos hs, hm]; omega
    have hz : zN (EN b) = 64 - Lib.bitLen b := by unfold zN; rw [hE, if_neg (by omega)]; omega
    have hM : b * 2 ^ (64 - Lib.bitLen b) = MN b := by unfold MN sN; rw [hm]
    rw [hM] at hM1 hM2
    exact ⟨hM1, hM2, by rw [hz, ← hM]; exact Nat.mul_mod_left _ _, by rw [hE]; omega, by omega⟩
  · have hm : mtN b = b % 4503599627370496 + 4503599627370496 := by unfold mtN; rw [if_neg hs]
    have hr := Nat.mod_lt b (show 0 < 4503599627370496 by decide)
    have hL1 := bitLen_le (b % 4503599627370496 + 4503599627370496) 53 (by omega) (by omega) (by omega)
    have hL2 := bitLen_gt (b % 4503599627370496 + 4503599627370496) 52 (by omega) (by omega) (by omega)
    obtain ⟨hM1, hM2⟩ := norm_bounds (b % 4503599627370496 + 4503599627370496) (by omega) (by omega)
    have hL : Lib.bitLen (b % 4503599627370496 + 4503599627370496) = 53 := by omega
    have hM : (b % 4503599627370496 + 4503599627370496) * 2 ^ (64 - Lib.bitLen (b % 4503599627370496 + 4503599627370496)) = MN b := by unfold MN sN; rw [hm]
    rw [hM] at hM1 hM2
    have hE : EN b = ((b / 4503599627370496 : Nat) : Int) - 1086 := by unfold EN sN; rw [if_neg hs, hm, hL]; omega
    have hz : zN (EN b) = 11 := by unfold zN; rw [hE, if_pos (by omega)]
    exact ⟨hM1, hM2, by rw [hz, ← hM, hL]; exact Nat.mul_mod_left _ _, by rw [hE]; omega, by omega⟩

theorem sh_bounds (b : Nat) (hb1 : 0 < b) (hb2 : b < 9218868437227405312) :
    1 ≤ (shN b).1 ∧ (shN b).1 < 18446744073709551616 ∧ ((nDigits (shN b).1 : Nat) + (shN b).2 - 1).natAbs < 1000 := by
  obtain ⟨h1, h2, h3, h4, h5⟩ := me_ok b hb1 hb2
  obtain ⟨h6, h7, h8, h9⟩ := short_bounds (MN b) (EN b) h1 h2 h3 h4 h5
  unfold shN
  have h10 := nDigits_le (shortN (MN b) (EN b)).1 h6 (by omega)
  exact ⟨h6, by omega, by omega⟩

theorem fmt_eq (b : Nat) (hb1 : 0 < b) (hb2 : b < 9218868437227405312) : fmtB b = mantB (sig (shN b).1) ++ 101 :: expB ((nDigits (shN b).1 : Nat) + (shN b).2 - 1) :=
  dp_eq _ _ (sh_bounds b hb1 hb2).1

theorem fmt_cut (b : Nat) (hb1 : 0 < b) (hb2 : b < 9218868437227405312) : cut (fmtB b) [101] = (mantB (sig (shN b).1), expB ((nDigits (shN b).1 : Nat) + (shN b).2 - 1), true) := by
  rw [fmt_eq b hb1 hb2]
  exact cut_at 101 _ _ (mant_ne _ 101 (sig_digs _) (by decide) (by unfold isDig; decide))
theorem fmt_len (b : Nat) (hb1 : 0 < b) (hb2 : b < 9218868437227405312) : (fmtB b).length ≤ 26 := by
  rw [fmt_eq b hb1 hb2]
  obtain ⟨h1, h2, _⟩ := sh_bounds b hb1 hb2
  have h3 := (sig_len _ h1 h2).2
  have h4 := mant_len (sig (shN b).1)
  have h5 := exp_len ((nDigits (shN b).1 : Nat) + (shN b).2 - 1)
  rw [List.length_append, List.length_cons]
  omega
end Go.Proofs.YtmhagigokgklaaaGreatDoor

/- Signbit, Abs, IsInf. -/
namespace Go.Proofs.YtmhagigokgklaaaGreatDoor
open Go Go.RowKit

theorem wrap_neg (x : Nat) (hx : x < 18446744073709551616) : decide (wrap64 (x : Int) < 0) = ngB x := by
  unfold ngB
  refine decide_eq_decide.2 ?_
  unfold wrap64
  omega
theorem mask_63 (x : Nat) (hx : x < 18446744073709551616) : bits .andNot .u64 (x : Int) 9223372036854775808 = ((ru x : Nat) : Int) := by
  have h := u64_andNot_nat x 9223372036854775808 hx (by decide)
  rw [show ((9223372036854775808 : Nat) : Int) = 9223372036854775808 from rfl] at h
  rw [h, show 18446744073709551615 - 9223372036854775808 = 2 ^ 63 - 1 from by decide, Nat.and_two_pow_sub_one_eq_mod]
  rfl
theorem ru_ru (x : Nat) : ru (ru x) = ru x := by unfold ru; omega
theorem ru_lt (x : Nat) : ru x < 9223372036854775808 := by unfold ru; omega
theorem ng_ru (x : Nat) : ngB (ru x) = false := by unfold ngB; exact decide_eq_false (by have := ru_lt x; omega)

set_option maxRecDepth 100000 in
set_option maxHeartbeats 1000000 in
theorem signbit_any (x : Nat) (w : World) (hx : x < 18446744073709551616) :
    Calls Tryz.prog 35 #[.float .f64 x] w fun e w' => e = .returned (.bool (ngB x)) ∧ w' = w := by
  have hb := run_mbits x
  have hw := wrap_neg x hx
  go_enter Tryz.func35, Tryz.ntmps35
  go_wp2_with fail
  go_ret
  exact ⟨ret_bool rfl, rfl⟩
set_option maxRecDepth 100000 in
set_option maxHeartbeats 1000000 in
theorem abs_any (x : Nat) (w : World) (hx : x < 18446744073709551616) :
    Calls Tryz.prog 38 #[.float .f64 x] w fun e w' => e = .returned (.float .f64 (ru x)) ∧ w' = w := by
  have hb := run_mbits x
  have hf := run_mfrom (ru x)
  have hm := mask_63 x hx
  go_enter Tryz.func38, Tryz.ntmps38
  go_wp2_with fail
  go_ret
  exact ⟨rfl, rfl⟩
set_option maxRecDepth 100000 in
set_option maxHeartbeats 1000000 in
theorem isinf_any (x : Nat) (w : World) (hx : x < 18446744073709551616) (h : ru x ≤ 9218868437227405312) :
    Calls Tryz.prog 36 #[.float .f64 x, .int .i64 0] w fun e w' => e = .returned (.bool (decide (ru x = 9218868437227405312))) ∧ w' = w := by
  have h1 := f_gt_max (ru x) (by have := ru_lt x; omega) (by rw [ru_ru]; exact h)
  rw [ru_ru, ng_ru, Bool.not_false, Bool.and_true] at h1
  have HA := Lib.hid (abs_any x w hx)
  generalize ru x = y at *
  go_enter Tryz.func36, Tryz.ntmps36
  go_wp2_with fail
  refine HA.out.mono ?_
  rintro e w5 ⟨rfl, rfl⟩
  go_wp2_with fail
  go_ret
  exact ⟨ret_bool rfl, rfl⟩
end Go.Proofs.YtmhagigokgklaaaGreatDoor

/- num.Show. -/
namespace Go.Proofs.YtmhagigokgklaaaGreatDoor
open Go Go.RowKit Go.Sort Go.Lib

/-- the library's tables, and the bound of its searches -/
structure Globs (w : World) : Prop where
  glob : Glob w
  mlen : ∃ m : Int, w.cell? ⟨1, 0, Option.none⟩ = some (.int .i64 m)

theorem Globs.below {w w' : World} {B : Nat} (h : Globs w) (hB : 17 ≤ B) (hb : Below B w w') : Globs w' := by
  obtain ⟨m, hm⟩ := h.mlen
  exact ⟨h.glob.below hB hb, m, (hb.cell (p := ⟨1, 0, Option.none⟩) (Nat.lt_of_lt_of_le (by decide) hB)).trans hm⟩
theorem Globs.on {w w' : World} (h : Globs w) (hb : Below w.heap.size w w') : Globs w' := h.below h.glob.lt hb

def sgS (x : Nat) : ByteArray := if ngB x then ⟨#[45]⟩ else ⟨#[]⟩

theorem show_nan_eq (x : Nat) (h : 9218868437227405312 < ru x) : showB x = nanB := by
  unfold showB; exact if_pos h
theorem show_sgn (x : Nat) (h : ru x ≤ 9218868437227405312) : showB x = (if ngB x then [45] else []) ++ (if ru x = 9218868437227405312 then infB else if ru x = 0 then [48] else showA (ru x)) := by
  unfold showB
  rw [if_neg (show ¬ 9218868437227405312 < x % 9223372036854775808 from Nat.not_lt.2 h)]
  unfold ngB
  by_cases hx : x < 9223372036854775808
  · rw [if_pos hx, decide_eq_false (by omega)]; rfl
  · rw [if_neg hx, decide_eq_true (by omega)]; rfl

set_option maxRecDepth 100000 in
set_option maxHeartbeats 1000000 in
theorem show_nan (x : Nat) (w : World) (hx : x < 18446744073709551616) (h : 9218868437227405312 < ru x) :
    Calls Tryz.prog 13 #[.int .u64 x] w fun e w' => e = .returned (.string ⟨(showB x).toArray⟩) ∧ Below w.heap.size w w' := by
  rw [show_nan_eq x h]
  have hb := run_mfrom x
  have h1 : (FloatKind.f64.format.order x x == some Ordering.eq) = false := by rw [f_self x hx, decide_eq_false (by omega)]
  have h2 : (FloatKind.f64.format.order x x != some Ordering.eq) = true := by rw [bne, h1]; rfl
  have HS := Lib.hid (signbit_any x w hx)
  cases hn : ngB x <;> rw [hn] at HS
  all_goals
    clear hn
    go_enter Tryz.func13, Tryz.ntmps13
    go_wp2_with fail
    refine HS.out.mono ?_
    rintro e w5 ⟨rfl, rfl⟩
    go_wp2_with fail
    go_ret
    exact ⟨rfl, Below.refl _ _⟩

set_option maxRecDepth 100000 in
set_option maxHeartbeats 1000000 in
theorem show_inf (x : Nat) (w : World) (hx : x < 18446744073709551616) (h : ru x = 9218868437227405312) :
    Calls Tryz.prog 13 #[.int .u64 x] w fun e w' => e = .returned (.string ⟨(showB x).toArray⟩) ∧ Below w.heap.size w w' := by
  rw [show_sgn x (by omega), if_pos h]
  have hb := run_mfrom x
  have h1 : (FloatKind.f64.format.order x x == some Ordering.eq) = true := by rw [f_self x hx, decide_eq_true (by omega)]
  have h2 : (FloatKind.f64.format.order x x != some Ordering.eq) = false := by rw [bne, h1]; rfl
  have HS := Lib.hid (signbit_any x w hx)
  have HI := Lib.hid (isinf_any x w hx (by omega))
  rw [decide_eq_true h] at HI
  cases hn : ngB x <;> rw [hn] at HS
  all_goals
    clear hn
    go_enter Tryz.func13, Tryz.ntmps13
    go_wp2_with fail
    refine HS.out.mono ?_
    rintro e w5 ⟨rfl, rfl⟩
    go_wp2_with fail
    refine HI.out.mono ?_
    rintro e w5 ⟨rfl, rfl⟩
    go_wp2_with fail
    go_ret
    exact ⟨rfl, Below.refl _ _⟩

set_option maxRecDepth 100000 in
set_option maxHeartbeats 1000000 in
theorem show_zero (x : Nat) (w : World) (hx : x < 18446744073709551616) (h : ru x = 0) :
    Calls Tryz.prog 13 #[.int .u64 x] w fun e w' => e = .returned (.string ⟨(showB x).toArray⟩) ∧ Below w.heap.size w w' := by
  rw [show_sgn x (by omega), if_neg (show ¬ ru x = 9218868437227405312 by omega), if_pos h]
  have hb := run_mfrom x
  have h1 : (FloatKind.f64.format.order x x == some Ordering.eq) = true := by rw [f_self x hx, decide_eq_true (by omega)]
  have h2 : (FloatKind.f64.format.order x x != some Ordering.eq) = false := by rw [bne, h1]; rfl
  have h3 : (FloatKind.f64.format.order x 0 == some Ordering.eq) = true := by rw [f_zero x hx (by omega), decide_eq_true h]
  have HS := Lib.hid (signbit_any x w hx)
  have HI := Lib.hid (isinf_any x w hx (by omega))
  rw [decide_eq_false (show ¬ ru x = 9218868437227405312 by omega)] at HI
  cases hn : ngB x <;> rw [hn] at HS
  all_goals
    clear hn
    go_enter Tryz.func13, Tryz.ntmps13
    go_wp2_with fail
    refine HS.out.mono ?_
    rintro e w5 ⟨rfl, rfl⟩
    go_wp2_with fail
    refine HI.out.mono ?_
    rintro e w5 ⟨rfl, rfl⟩
    go_wp2_with fail
    go_ret
    exact ⟨rfl, Below.refl _ _⟩

theorem placed_len (d : List UInt8) (p : Int) (h1 : d.length ≤ 20) (h2 : -5000 ≤ p) (h3 : p ≤ 5000) : (placedB d p).length ≤ 1000 := by
  have h4 : (decDigits (p - 1).natAbs).length ≤ 20 := by
    rw [decDigits_length]
    by_cases h0 : (p - 1).natAbs = 0
    · rw [h0, nDigits_small (by omega)]; omega
    · exact nDigits_le _ (by omega) (by omega)
  unfold placedB expS
  split
  · rw [List.length_append, List.length_replicate]; omega
  · split
    · rw [List.length_append, List.length_cons, List.length_take, List.length_drop]; omega
    · split
      · rw [List.length_cons, List.length_cons, List.length_append, List.length_replicate]; omega
      · rw [List.length_append, List.length_cons, List.length_cons]
        split
        · rw [List.length_append, List.length_cons, List.length_take, List.length_drop]; omega
        · omega

theorem ba_size (l : List UInt8) : (⟨l.toArray⟩ : ByteArray).size = l.length := rfl

theorem fmt_cut_run (y : Nat) (w : World) (hg : Globs w) (h1 : 0 < y) (h2 : y < 9218868437227405312) :
    Calls Tryz.prog 39 #[.string ⟨(fmtB y).toArray⟩, .string ⟨#[101]⟩] w fun e w' => e = .returned (.tuple #[.string ⟨(mantB (sig (shN y).1)).toArray⟩, .string ⟨(expB ((nDigits (shN y).1 : Nat) + (shN y).2 - 1)).toArray⟩, .bool true]) ∧ Below w.heap.size w w' := by
  obtain ⟨m, hm⟩ := hg.mlen
  refine (Tryz.strings_Cut ⟨(fmtB y).toArray⟩ ⟨#[101]⟩ m w (by rw [ba_size]; have := fmt_len y h1 h2; omega) hm).mono ?_
  rintro e w' ⟨he, n, rfl⟩
  rw [show (⟨#[101]⟩ : ByteArray).data.toList = [101] from rfl, fmt_cut y h1 h2] at he
  exact ⟨he, bDrewN (Below.refl _ _) n⟩

theorem mant_rep_run (y : Nat) (w : World) (hg : Globs w) (h1 : 0 < y) (h2 : y < 9218868437227405312) :
    Calls Tryz.prog 40 #[.string ⟨(mantB (sig (shN y).1)).toArray⟩, .string ⟨#[46]⟩, .string ⟨#[]⟩, .int .i64 1] w fun e w' => e = .returned (.string ⟨(sig (shN y).1).toArray⟩) ∧ Below w.heap.size w w' := by
  obtain ⟨m, hm⟩ := hg.mlen
  obtain ⟨h3, h4, _⟩ := sh_bounds y h1 h2
  have h5 := (sig_len _ h3 h4).2
  have h6 := mant_len (sig (shN y).1)
  refine (Tryz.strings_Replace ⟨(mantB (sig (shN y).1)).toArray⟩ ⟨#[46]⟩ ⟨#[]⟩ 1 m w (by rw [ba_size]; omega) hm (by decide) (by rw [ba_size, show (⟨#[]⟩ : ByteArray).size = 0 from rfl]; omega)).mono ?_
  rintro e w' ⟨he, hb⟩
  rw [show (⟨#[46]⟩ : ByteArray).data.toList = [46] from rfl, show (⟨#[]⟩ : ByteArray).data.toList = [] from rfl, mant_back _ (sig_digs _)] at he
  exact ⟨he, hb⟩

theorem exp_run (x : Int) (w : World) (h : x.natAbs < 1000) :
    Calls Tryz.prog 41 #[.string ⟨(expB x).toArray⟩] w fun e w' => e = .returned (.tuple #[.int .i64 x, .nilIface]) ∧ Below w.heap.size w w' := by
  refine (Tryz.strconv_Atoi ⟨(expB x).toArray⟩ x (by rw [ba_size]; have := exp_len x; omega) (atoi_exp x h) w).mono ?_
  rintro e w' ⟨he, t, rfl⟩
  exact ⟨he, bytesWorld_below w _ t⟩

set_option maxRecDepth 100000 in
set_option maxHeartbeats 1000000 in
theorem show_num (x : Nat) (w : World) (hg : Globs w) (hx : x < 18446744073709551616) (h : 0 < ru x) (h' : ru x < 9218868437227405312) :
    Calls Tryz.prog 13 #[.int .u64 x] w fun e w' => e = .returned (.string ⟨(showB x).toArray⟩) ∧ Below w.heap.size w w' := by
  rw [show_sgn x (by omega), if_neg (show ¬ ru x = 9218868437227405312 by omega), if_neg (show ¬ ru x = 0 by omega)]
  have hb := run_mfrom x
  have h1 : (FloatKind.f64.format.order x x == some Ordering.eq) = true := by rw [f_self x hx, decide_eq_true (by omega)]
  have h2 : (FloatKind.f64.format.order x x != some Ordering.eq) = false := by rw [bne, h1]; rfl
  have h3 : (FloatKind.f64.format.order x 0 == some Ordering.eq) = false := by rw [f_zero x hx (by omega), decide_eq_false (by omega)]
  have HS := Lib.hid (signbit_any x w hx)
  have HI := Lib.hid (isinf_any x w hx (by omega))
  rw [decide_eq_false (show ¬ ru x = 9218868437227405312 by omega)] at HI
  have HA := Lib.hid (abs_any x w hx)
  have HF := Lib.hid (format_any (ru x) w hg.glob h h')
  have HG := Lib.hid (fun (w' : World) (hb : Below w.heap.size w w') => hg.on hb)
  have HC := Lib.hid (fun (w' : World) (hb : Globs w') => fmt_cut_run (ru x) w' hb h h')
  have HR := Lib.hid (fun (w' : World) (hb : Globs w') => mant_rep_run (ru x) w' hb h h')
  obtain ⟨b1, b2, b3⟩ := sh_bounds (ru x) h h'
  have b4 := sig_len _ b1 b2
  have HX := Lib.hid (fun (w' : World) => exp_run ((nDigits (shN (ru x)).1 : Nat) + (shN (ru x)).2 - 1) w' b3)
  have hp : (nDigits (shN (ru x)).1 : Nat) + (shN (ru x)).2 - 1 + 1 = (nDigits (shN (ru x)).1 : Nat) + (shN (ru x)).2 := by omega
  have HP := Lib.hid (fun (w' : World) (hb : Globs w') => placed_any ⟨(sig (shN (ru x)).1).toArray⟩ ((nDigits (shN (ru x)).1 : Nat) + (shN (ru x)).2 - 1 + 1) w' hb.glob (by rw [ba_size]; omega) (by rw [ba_size]; omega) (by omega) (by omega))
  rw [hp] at HP
  change Hid (∀ (w' : World) (_ : Globs w'), Calls Tryz.prog 42 #[.string ⟨(sig (shN (ru x)).1).toArray⟩, .int .i64 ((nDigits (shN (ru x)).1 : Nat) + (shN (ru x)).2)] w' fun e w'' => e = .returned (.string ⟨(showA (ru x)).toArray⟩) ∧ Below w'.heap.size w' w'') at HP
  have hq : ((nDigits (shN (ru x)).1 : Nat) + (shN (ru x)).2).natAbs < 2000 := by omega
  have hzl : (⟨(showA (ru x)).toArray⟩ : ByteArray).size ≤ 1000 := by
    exact placed_len _ _ b4.2 (by omega) (by omega)
  have hR : sgS x ++ (⟨(showA (ru x)).toArray⟩ : ByteArray) = ⟨((if ngB x then [45] else []) ++ showA (ru x)).toArray⟩ := by
    refine str_is ?_
    unfold sgS
    cases ngB x <;> simp
  generalize (⟨((if ngB x then [45] else []) ++ showA (ru x)).toArray⟩ : ByteArray) = R at *
  generalize (⟨(showA (ru x)).toArray⟩ : ByteArray) = RR at *
  unfold sgS at hR
  generalize ((nDigits (shN (ru x)).1 : Nat) + (shN (ru x)).2 : Int) = q at *
  generalize expB (q - 1) = EE at *
  generalize sig (shN (ru x)).1 = SS at *
  generalize mantB SS = MM at *
  generalize fmtB (ru x) = FF at *
  cases hn : ngB x <;> rw [hn] at HS hR
  all_goals
    simp only [if_true, Bool.false_eq_true, if_false] at hR
    clear hn b1 b2 b3 b4 hp
    go_enter Tryz.func13, Tryz.ntmps13
    go_wp2_with fail
    refine HS.out.mono ?_
    rintro e w5 ⟨rfl, rfl⟩
    go_wp2_with fail
    refine HI.out.mono ?_
    rintro e w5 ⟨rfl, rfl⟩
    go_wp2_with fail
    refine HA.out.mono ?_
    rintro e w5 ⟨rfl, rfl⟩
    go_wp2_with fail
    refine HF.out.mono ?_
    rintro e w6 ⟨rfl, hb6⟩
    have HB6 := Lib.hid hb6
    clear hb6
    go_wp2_with fail
    refine (HC.out _ (HG.out _ HB6.out)).mono ?_
    rintro e w7 ⟨rfl, hb7⟩
    have HB7 := Lib.hid (HB6.out.trans (hb7.mono HB6.out.size))
    clear hb7
    go_wp2_with fail
    refine (HR.out _ (HG.out _ HB7.out)).mono ?_
    rintro e w8 ⟨rfl, hb8⟩
    have HB8 := Lib.hid (HB7.out.trans (hb8.mono HB7.out.size))
    clear hb8
    go_wp2_with fail
    refine (HX.out _).mono ?_
    rintro e w9 ⟨rfl, hb9⟩
    have HB9 := Lib.hid (HB8.out.trans (hb9.mono HB8.out.size))
    clear hb9
    go_wp2_with fail
    refine (HP.out _ (HG.out _ HB9.out)).mono ?_
    rintro e wa ⟨rfl, hba⟩
    have HBa := Lib.hid (HB9.out.trans (hba.mono HB9.out.size))
    clear hba
    go_wp2_with fail
    go_ret
    exact ⟨rfl, HBa.out⟩

/-- Show, at every number -/
theorem show_any (x : Nat) (w : World) (hg : Globs w) (hx : x < 18446744073709551616) :
    Calls Tryz.prog 13 #[.int .u64 x] w fun e w' => e = .returned (.string ⟨(showB x).toArray⟩) ∧ Below w.heap.size w w' := by
  by_cases h1 : 9218868437227405312 < ru x
  · exact show_nan x w hx h1
  · by_cases h2 : ru x = 9218868437227405312
    · exact show_inf x w hx h2
    · by_cases h3 : ru x = 0
      · exact show_zero x w hx h3
      · exact show_num x w hg hx (by omega) (by omega)
end Go.Proofs.YtmhagigokgklaaaGreatDoor

/- ParseFloat of decimal texts whose digits are all held. -/
namespace Go.Proofs.YtmhagigokgklaaaGreatDoor
open Go Go.RowKit

set_option maxRecDepth 100000 in
set_option maxHeartbeats 4000000 in
theorem special_no (s : ByteArray) (w : World) (h0 : 0 < s.size) (hs : s.size ≤ 1000) (hb : s[0].toNat = 46 ∨ (48 ≤ s[0].toNat ∧ s[0].toNat ≤ 57)) :
    Calls Tryz.prog 141 #[.string s] w fun e w' => e = .returned (.tuple #[.float .f64 0, .int .i64 0, .bool false]) ∧ w' = w := by
  have hn1 : ((s.size : Int) == 0) = false := by rw [beq_eq_false_iff_ne]; omega
  have hn2 : (s.size == 0) = false := by rw [beq_eq_false_iff_ne]; omega
  have hn3 : ¬ s.size = 0 := by omega
  have t1 : (((s[0]'h0).toNat : Int) == 43) = false := by rw [beq_eq_false_iff_ne]; omega
  have t2 : (((s[0]'h0).toNat : Int) == 45) = false := by rw [beq_eq_false_iff_ne]; omega
  have t3 : (((s[0]'h0).toNat : Int) == 105) = false := by rw [beq_eq_false_iff_ne]; omega
  have t4 : (((s[0]'h0).toNat : Int) == 73) = false := by rw [beq_eq_false_iff_ne]; omega
  have t5 : (((s[0]'h0).toNat : Int) == 110) = false := by rw [beq_eq_false_iff_ne]; omega
  have t6 : (((s[0]'h0).toNat : Int) == 78) = false := by rw [beq_eq_false_iff_ne]; omega
  clear hb
  go_enter Tryz.func141, Tryz.ntmps141
  go_wp2_with fail
  refine bodyPost_ret (v := .tuple #[.float .f64 0, .int .i64 0, .bool false]) (by simp [results, Tryz.results141, go_sem]) rfl ⟨rfl, rfl⟩

/-- what atof64 hands back -/
def AfPost (d : Nat) (p : Int) (n : Nat) (w : World) (e : Ending) (w' : World) : Prop := ∃ r, Near (dX d p) (dQ p) r ∧ e = .returned (.tuple #[.float .f64 r, .int .i64 n, errV r]) ∧ Below w.heap.size w w'

theorem bits_or_zero : bits .or .u64 0 0 = 0 := by decide +kernel
theorem bits_or_inf : bits .or .u64 0 9218868437227405312 = 9218868437227405312 := by decide +kernel

set_option maxRecDepth 100000 in
set_option maxHeartbeats 4000000 in
theorem atof_dec (s : ByteArray) (d K : Nat) (p : Int) (w : World) (hG : Glob w) (hT : GlobT K w) (h0 : 0 < s.size) (hs : s.size ≤ 1000) (hb : s[0].toNat = 46 ∨ (48 ≤ s[0].toNat ∧ s[0].toNat ≤ 57)) (hd : d < 10 ^ 19)
    (hrf : Calls Tryz.prog 142 #[.string s] w fun e w' => e = .returned (.tuple #[.int .u64 d, .int .i64 p, .bool false, .bool false, .bool false, .int .i64 s.size, .bool true]) ∧ w' = w) :
    Calls Tryz.prog 117 #[.string s] w (AfPost d p s.size w) := by
  have hopt := hG.opt
  have HSP := Lib.hid (special_no s w h0 hs hb)
  have HRF := Lib.hid hrf
  have HBU : Hid (∀ W : World, Calls Tryz.prog 150 #[.bool false] W fun e w' => e = .returned (.int .u64 0) ∧ W = w') := Lib.hid (fun W => b2u_any false W)
  have hor := bits_or_zero
  have hor2 := bits_or_inf
  have hfb : ∀ W : World, (callFunc 151 #[.int .u64 0]).run Tryz.prog W = .ok (.value (.float .f64 0)) W := run_sfrom 0
  have hfi : ∀ W : World, (callFunc 151 #[.int .u64 9218868437227405312]).run Tryz.prog W = .ok (.value (.float .f64 9218868437227405312)) W := run_sfrom 9218868437227405312
  clear hrf hb h0
  by_cases hd0 : d = 0
  · subst hd0
    have HN := Lib.hid (zero_near p)
    go_enter Tryz.func117, Tryz.ntmps117
    go_wp2_with fail
    refine HSP.out.mono ?_
    rintro e w ⟨rfl, rfl⟩
    go_wp2_with fail
    refine HRF.out.mono ?_
    rintro e w ⟨rfl, rfl⟩
    go_wp2_with fail
    refine (HBU.out _).mono ?_
    rintro e w' ⟨rfl, rfl⟩
    go_wp2_with fail
    refine bodyPost_ret (v := .tuple #[.float .f64 0, .int .i64 s.size, .nilIface]) (by simp [results, Tryz.results117, go_sem]) rfl ⟨0, HN.out, rfl, Below.refl _ _⟩
  · have hdz : ((d : Int) == 0) = false := by rw [beq_eq_false_iff_ne]; omega
    have hdz2 : (d == 0) = false := by rw [beq_eq_false_iff_ne]; omega
    have hdz3 : ¬ d = 0 := hd0
    by_cases hp1 : 310 < p
    · have HN := Lib.hid (far_inf d p (by omega) (by omega))
      clear hd hdz3
      go_enter Tryz.func117, Tryz.ntmps117
      go_wp2_with fail
      refine HSP.out.mono ?_
      rintro e w ⟨rfl, rfl⟩
      go_wp2_with fail
      refine HRF.out.mono ?_
      rintro e w ⟨rfl, rfl⟩
      go_wp2_with fail
      refine (HBU.out _).mono ?_
      rintro e w' ⟨rfl, rfl⟩
      go_wp2_with fail
      refine bodyPost_ret (v := .tuple #[.float .f64 9218868437227405312, .int .i64 s.size, .iface 111 (.int .i64 1)]) (by simp [results, Tryz.results117, go_sem]) rfl ⟨INF, HN.out, rfl, Below.refl _ _⟩
    · by_cases hp2 : p < -345
      · have HN := Lib.hid (far_zero d 19 p hd (by omega))
        clear hd hdz3
        go_enter Tryz.func117, Tryz.ntmps117
        go_wp2_with fail
        refine HSP.out.mono ?_
        rintro e w ⟨rfl, rfl⟩
        go_wp2_with fail
        refine HRF.out.mono ?_
        rintro e w ⟨rfl, rfl⟩
        go_wp2_with fail
        refine (HBU.out _).mono ?_
        rintro e w' ⟨rfl, rfl⟩
        go_wp2_with fail
        refine bodyPost_ret (v := .tuple #[.float .f64 0, .int .i64 s.size, .nilIface]) (by simp [results, Tryz.results117, go_sem]) rfl ⟨0, HN.out, rfl, Below.refl _ _⟩
      · have hpa : -345 ≤ p := by omega
        have hpb : p ≤ 310 := by omega
        have HEX := Lib.hid (exact_any d p K w hT (by omega) (by omega))
        have HPF := Lib.hid (pf64_any d p w hG (by omega) (by omega) (by omega) (by omega))
        clear hd hdz3 hp1 hp2 hT
        go_enter Tryz.func117, Tryz.ntmps117
        go_wp2_with fail
        refine HSP.out.mono ?_
        rintro e w ⟨rfl, rfl⟩
        go_wp2_with fail
        refine HRF.out.mono ?_
        rintro e w ⟨rfl, rfl⟩
        go_wp2_with fail
        refine (HBU.out _).mono ?_
        rintro e w' ⟨rfl, rfl⟩
        go_wp2_with fail
        refine HEX.out.mono ?_
        rintro e w ⟨r, ok, rfl, hok, rfl⟩
        have HOK := Lib.hid hok
        clear hok
        cases ok
        · go_wp2_with fail
          refine HPF.out.mono ?_
          rintro e w2 ⟨r2, hn, rfl, hb⟩
          have HN := Lib.hid hn
          have HB := Lib.hid hb
          clear hn hb
          go_wp2_with fail
          refine bodyPost_ret (v := .tuple #[.float .f64 r2, .int .i64 s.size, errV r2]) (by simp [results, Tryz.results117, go_sem]) rfl ⟨r2, HN.out, rfl, HB.out⟩
        · go_wp2_with fail
          refine bodyPost_ret (v := .tuple #[.float .f64 r, .int .i64 s.size, .nilIface]) (by simp [results, Tryz.results117, go_sem]) rfl ⟨r, (HOK.out (by trivial)).1, ?_, Below.refl _ _⟩
          rw [show errV r = .nilIface from if_neg (Nat.ne_of_lt (HOK.out (by trivial)).2)]

/-- what ParseFloat hands back -/
def PlPost (X Q : Nat) (w : World) (e : Ending) (w' : World) : Prop := ∃ r ev, Near X Q r ∧ e = .returned (.tuple #[.float .f64 r, ev]) ∧ Below w.heap.size w w'

set_option maxRecDepth 100000 in
set_option maxHeartbeats 4000000 in
theorem pfloat_of (s : ByteArray) (X Q K : Nat) (w : World) (hT : GlobT K w) (hs : s.size ≤ 1000)
    (haf : Calls Tryz.prog 117 #[.string s] w fun e w' => ∃ r, Near X Q r ∧ e = .returned (.tuple #[.float .f64 r, .int .i64 s.size, errV r]) ∧ Below w.heap.size w w') :
    Calls Tryz.prog 23 #[.string s, .int .i64 64] w (PlPost X Q w) := by
  have HAF := Lib.hid haf
  have HT := Lib.hid hT
  clear haf hT
  have hpp : Calls Tryz.prog 93 #[.string s, .int .i64 64] w fun e w' => ∃ r, Near X Q r ∧ e = .returned (.tuple #[.float .f64 r, .int .i64 s.size, errV r]) ∧ Below w.heap.size w w' := by
    go_enter Tryz.func93, Tryz.ntmps93
    go_wp2_with fail
    refine HAF.out.mono ?_
    rintro e w2 ⟨r2, hn, rfl, hb⟩
    have HN := Lib.hid hn
    have HB := Lib.hid hb
    clear hn hb
    go_wp2_with fail
    refine bodyPost_ret (v := .tuple #[.float .f64 r2, .int .i64 s.size, errV r2]) (by simp [results, Tryz.results93, go_sem]) rfl ⟨r2, HN.out, rfl, HB.out⟩
  have HPP := Lib.hid hpp
  clear hpp
  have hpf : Calls Tryz.prog 61 #[.string s, .int .i64 64] w fun e w' => ∃ r, Near X Q r ∧ e = .returned (.tuple #[.float .f64 r, errV r]) ∧ Below w.heap.size w w' := by
    go_enter Tryz.func61, Tryz.ntmps61
    go_wp2_with fail
    refine HPP.out.mono ?_
    rintro e w2 ⟨r2, hn, rfl, hb⟩
    have HN := Lib.hid hn
    have HB := Lib.hid hb
    clear hn hb
    go_wp2_with fail
    refine bodyPost_ret (v := .tuple #[.float .f64 r2, errV r2]) (by simp [results, Tryz.results61, go_sem]) rfl ⟨r2, HN.out, rfl, HB.out⟩
  have HPF := Lib.hid hpf
  clear hpf
  go_enter Tryz.func23, Tryz.ntmps23
  go_wp2_with fail
  refine HPF.out.mono ?_
  rintro e w2 ⟨r2, hn, rfl, hb⟩
  have HN := Lib.hid hn
  have HB := Lib.hid hb
  clear hn
  by_cases hr : r2 = INF
  · have he : errV r2 = .iface 111 (.int .i64 1) := if_pos hr
    obtain ⟨te, pe, hv⟩ := (HT.out.on hb).rng
    have HTE := Lib.hid (Tryz.strconv_toError_range ⟨#[80, 97, 114, 115, 101, 70, 108, 111, 97, 116]⟩ s 0 64 (.iface te pe) w2 (by omega) hv (.inr ⟨te, pe, rfl⟩))
    clear hr hv hb
    rw [he]
    clear he
    go_wp2_with fail
    refine HTE.out.mono ?_
    rintro e w3 ⟨N, rfl, hN, hcell, hb3⟩
    have HB3 := Lib.hid hb3
    clear hb3 hcell hN
    go_wp2_with fail
    refine bodyPost_ret (v := .tuple #[.float .f64 r2, .iface 112 (.pointer (some ⟨N, 0, Option.none⟩))]) (by simp [results, Tryz.results23, go_sem]) rfl ⟨r2, _, HN.out, rfl, HB.out.trans (HB3.out.mono HB.out.size)⟩
  · have he : errV r2 = .nilIface := if_neg hr
    clear hr hb
    rw [he]
    clear he
    go_wp2_with fail
    refine bodyPost_ret (v := .tuple #[.float .f64 r2, .nilIface]) (by simp [results, Tryz.results23, go_sem]) rfl ⟨r2, _, HN.out, rfl, HB.out⟩
end Go.Proofs.YtmhagigokgklaaaGreatDoor

/- num.class. -/
namespace Go.Proofs.YtmhagigokgklaaaGreatDoor
open Go Go.RowKit

def clsN (c : Nat) : Nat := if c = 48 then 1 else if 48 ≤ c ∧ c ≤ 57 then 2 else if c = 46 then 3 else if c = 69 ∨ c = 101 then 4 else if c = 43 ∨ c = 45 then 5 else if c = 95 then 6 else 0

theorem or32 (c : Nat) (h : c < 256) : (bits .or .u8 (c : Int) 32 = 101) = (c = 69 ∨ c = 101) := by
  have key : ∀ c : Fin 256, (bits .or .u8 ((c.val : Nat) : Int) 32 = 101) ↔ (c.val = 69 ∨ c.val = 101) := by decide +kernel
  exact propext (key ⟨c, h⟩)

theorem digit_yes (r : Int) (w : World) (h1 : 48 ≤ r) (h2 : r ≤ 57) :
    Calls Tryz.prog 85 #[.int .i32 r] w fun e w' => e = .returned (.bool true) ∧ w' = w := by
  go_enter Tryz.func85, Tryz.ntmps85
  go_wp2_with fail
  go_ret
  exact ⟨ret_bool (by first | rfl | (simp; done) | (simp; omega)), rfl⟩
theorem digit_low (r : Int) (w : World) (h1 : r < 48) :
    Calls Tryz.prog 85 #[.int .i32 r] w fun e w' => e = .returned (.bool false) ∧ w' = w := by
  go_enter Tryz.func85, Tryz.ntmps85
  go_wp2_with fail
  go_ret
  exact ⟨ret_bool (by simp), rfl⟩
theorem digit_high (r : Int) (w : World) (h1 : 57 < r) :
    Calls Tryz.prog 85 #[.int .i32 r] w fun e w' => e = .returned (.bool false) ∧ w' = w := by
  have h0 : 48 ≤ r := by omega
  go_enter Tryz.func85, Tryz.ntmps85
  go_wp2_with fail
  go_ret
  exact ⟨ret_bool (by simp; omega), rfl⟩
theorem digit_no (r : Int) (w : World) (h : ¬ (48 ≤ r ∧ r ≤ 57)) :
    Calls Tryz.prog 85 #[.int .i32 r] w fun e w' => e = .returned (.bool false) ∧ w' = w := by
  by_cases h1 : r < 48
  · exact digit_low r w h1
  · exact digit_high r w (by omega)

set_option maxRecDepth 100000 in
theorem class_0 (c : Nat) (w : World) (_h : c < 256) (hq : c = 48) :
    Calls Tryz.prog 63 #[.int .u8 c] w fun e w' => e = .returned (.int .i64 (clsN c)) ∧ w' = w := by
  have hv : clsN c = 1 := by unfold clsN; repeat (first | rw [if_pos (by omega)] | rw [if_neg (by omega)])
  rw [hv]
  have t0 : ((c : Int) == 48) = true := by rw [beq_iff_eq]; omega
  clear hv hq
  go_enter Tryz.func63, Tryz.ntmps63
  go_wp2_with fail
  go_ret
  exact ⟨rfl, rfl⟩

set_option maxRecDepth 100000 in
theorem class_1 (c : Nat) (w : World) (h : c < 256) (hq : 48 < c ∧ c ≤ 57) :
    Calls Tryz.prog 63 #[.int .u8 c] w fun e w' => e = .returned (.int .i64 (clsN c)) ∧ w' = w := by
  have hv : clsN c = 2 := by unfold clsN; repeat (first | rw [if_pos (by omega)] | rw [if_neg (by omega)])
  rw [hv]
  have HD := Lib.hid (digit_yes c w (by omega) (by omega))
  have t0 : ((c : Int) == 48) = false := by rw [beq_eq_false_iff_ne]; omega
  clear hv hq
  go_enter Tryz.func63, Tryz.ntmps63
  go_wp2_with fail
  refine HD.out.mono ?_
  rintro e w5 ⟨rfl, rfl⟩
  go_wp2_with fail
  go_ret
  exact ⟨rfl, rfl⟩

set_option maxRecDepth 100000 in
theorem class_2 (c : Nat) (w : World) (h : c < 256) (hq : c = 46) :
    Calls Tryz.prog 63 #[.int .u8 c] w fun e w' => e = .returned (.int .i64 (clsN c)) ∧ w' = w := by
  have hv : clsN c = 3 := by unfold clsN; repeat (first | rw [if_pos (by omega)] | rw [if_neg (by omega)])
  rw [hv]
  have HD := Lib.hid (digit_no c w (by omega))
  have t0 : ((c : Int) == 48) = false := by rw [beq_eq_false_iff_ne]; omega
  have t2 : ((c : Int) == 46) = true := by rw [beq_iff_eq]; omega
  clear hv hq
  go_enter Tryz.func63, Tryz.ntmps63
  go_wp2_with fail
  refine HD.out.mono ?_
  rintro e w5 ⟨rfl, rfl⟩
  go_wp2_with fail
  go_ret
  exact ⟨rfl, rfl⟩

set_option maxRecDepth 100000 in
theorem class_3 (c : Nat) (w : World) (h : c < 256) (hq : c = 69 ∨ c = 101) :
    Calls Tryz.prog 63 #[.int .u8 c] w fun e w' => e = .returned (.int .i64 (clsN c)) ∧ w' = w := by
  have hv : clsN c = 4 := by unfold clsN; repeat (first | rw [if_pos (by omega)] | rw [if_neg (by omega)])
  rw [hv]
  have ho := or32 c h
  have HD := Lib.hid (digit_no c w (by omega))
  have t0 : ((c : Int) == 48) = false := by rw [beq_eq_false_iff_ne]; omega
  have t2 : ((c : Int) == 46) = false := by rw [beq_eq_false_iff_ne]; omega
  have t3 : (bits .or .u8 (c : Int) 32 == 101) = true := by rw [beq_iff_eq, ho]; omega
  clear hv ho hq
  go_enter Tryz.func63, Tryz.ntmps63
  go_wp2_with fail
  refine HD.out.mono ?_
  rintro e w5 ⟨rfl, rfl⟩
  go_wp2_with fail
  go_ret
  exact ⟨rfl, rfl⟩

set_option maxRecDepth 100000 in
theorem class_4 (c : Nat) (w : World) (h : c < 256) (hq : c = 43) :
    Calls Tryz.prog 63 #[.int .u8 c] w fun e w' => e = .returned (.int .i64 (clsN c)) ∧ w' = w := by
  have hv : clsN c = 5 := by unfold clsN; repeat (first | rw [if_pos (by omega)] | rw [if_neg (by omega)])
  rw [hv]
  have ho := or32 c h
  have HD := Lib.hid (digit_no c w (by omega))
  have t0 : ((c : Int) == 48) = false := by rw [beq_eq_false_iff_ne]; omega
  have t2 : ((c : Int) == 46) = false := by rw [beq_eq_false_iff_ne]; omega
  have t3 : (bits .or .u8 (c : Int) 32 == 101) = false := by rw [beq_eq_false_iff_ne, ne_eq, ho]; omega
  have t4 : ((c : Int) == 43) = true := by rw [beq_iff_eq]; omega
  clear hv ho hq
  go_enter Tryz.func63, Tryz.ntmps63
  go_wp2_with fail
  refine HD.out.mono ?_
  rintro e w5 ⟨rfl, rfl⟩
  go_wp2_with fail
  go_ret
  exact ⟨rfl, rfl⟩

set_option maxRecDepth 100000 in
theorem class_5 (c : Nat) (w : World) (h : c < 256) (hq : c = 45) :
    Calls Tryz.prog 63 #[.int .u8 c] w fun e w' => e = .returned (.int .i64 (clsN c)) ∧ w' = w := by
  have hv : clsN c = 5 := by unfold clsN; repeat (first | rw [if_pos (by omega)] | rw [if_neg (by omega)])
  rw [hv]
  have ho := or32 c h
  have HD := Lib.hid (digit_no c w (by omega))
  have t0 : ((c : Int) == 48) = false := by rw [beq_eq_false_iff_ne]; omega
  have t2 : ((c : Int) == 46) = false := by rw [beq_eq_false_iff_ne]; omega
  have t3 : (bits .or .u8 (c : Int) 32 == 101) = false := by rw [beq_eq_false_iff_ne, ne_eq, ho]; omega
  have t4 : ((c : Int) == 43) = false := by rw [beq_eq_false_iff_ne]; omega
  have t5 : ((c : Int) == 45) = true := by rw [beq_iff_eq]; omega
  clear hv ho hq
  go_enter Tryz.func63, Tryz.ntmps63
  go_wp2_with fail
  refine HD.out.mono ?_
  rintro e w5 ⟨rfl, rfl⟩
  go_wp2_with fail
  go_ret
  exact ⟨rfl, rfl⟩

set_option maxRecDepth 100000 in
theorem class_6 (c : Nat) (w : World) (h : c < 256) (hq : c = 95) :
    Calls Tryz.prog 63 #[.int .u8 c] w fun e w' => e = .returned (.int .i64 (clsN c)) ∧ w' = w := by
  have hv : clsN c = 6 := by unfold clsN; repeat (first | rw [if_pos (by omega)] | rw [if_neg (by omega)])
  rw [hv]
  have ho := or32 c h
  have HD := Lib.hid (digit_no c w (by omega))
  have t0 : ((c : Int) == 48) = false := by rw [beq_eq_false_iff_ne]; omega
  have t2 : ((c : Int) == 46) = false := by rw [beq_eq_false_iff_ne]; omega
  have t3 : (bits .or .u8 (c : Int) 32 == 101) = false := by rw [beq_eq_false_iff_ne, ne_eq, ho]; omega
  have t4 : ((c : Int) == 43) = false := by rw [beq_eq_false_iff_ne]; omega
  have t5 : ((c : Int) == 45) = false := by rw [beq_eq_false_iff_ne]; omega
  have t6 : ((c : Int) == 95) = true := by rw [beq_iff_eq]; omega
  clear hv ho hq
  go_enter Tryz.func63, Tryz.ntmps63
  go_wp2_with fail
  refine HD.out.mono ?_
  rintro e w5 ⟨rfl, rfl⟩
  go_wp2_with fail
  go_ret
  exact ⟨rfl, rfl⟩

set_option maxRecDepth 100000 in
theorem class_7 (c : Nat) (w : World) (h : c < 256) (hq : ¬ (48 ≤ c ∧ c ≤ 57) ∧ c ≠ 46 ∧ c ≠ 69 ∧ c ≠ 101 ∧ c ≠ 43 ∧ c ≠ 45 ∧ c ≠ 95) :
    Calls Tryz.prog 63 #[.int .u8 c] w fun e w' => e = .returned (.int .i64 (clsN c)) ∧ w' = w := by
  have hv : clsN c = 0 := by unfold clsN; repeat (first | rw [if_pos (by omega)] | rw [if_neg (by omega)])
  rw [hv]
  have ho := or32 c h
  have HD := Lib.hid (digit_no c w (by omega))
  have t0 : ((c : Int) == 48) = false := by rw [beq_eq_false_iff_ne]; omega
  have t2 : ((c : Int) == 46) = false := by rw [beq_eq_false_iff_ne]; omega
  have t3 : (bits .or .u8 (c : Int) 32 == 101) = false := by rw [beq_eq_false_iff_ne, ne_eq, ho]; omega
  have t4 : ((c : Int) == 43) = false := by rw [beq_eq_false_iff_ne]; omega
  have t5 : ((c : Int) == 45) = false := by rw [beq_eq_false_iff_ne]; omega
  have t6 : ((c : Int) == 95) = false := by rw [beq_eq_false_iff_ne]; omega
  clear hv ho hq
  go_enter Tryz.func63, Tryz.ntmps63
  go_wp2_with fail
  refine HD.out.mono ?_
  rintro e w5 ⟨rfl, rfl⟩
  go_wp2_with fail
  go_ret
  exact ⟨rfl, rfl⟩

theorem class_any (c : Nat) (w : World) (h : c < 256) :
    Calls Tryz.prog 63 #[.int .u8 c] w fun e w' => e = .returned (.int .i64 (clsN c)) ∧ w' = w := by
  by_cases q0 : c = 48
  · exact class_0 c w h q0
  by_cases q1 : 48 < c ∧ c ≤ 57
  · exact class_1 c w h q1
  by_cases q2 : c = 46
  · exact class_2 c w h q2
  by_cases q3 : c = 69 ∨ c = 101
  · exact class_3 c w h q3
  by_cases q4 : c = 43
  · exact class_4 c w h q4
  by_cases q5 : c = 45
  · exact class_5 c w h q5
  by_cases q6 : c = 95
  · exact class_6 c w h q6
  exact class_7 c w h (by omega)
end Go.Proofs.YtmhagigokgklaaaGreatDoor

/- num.decimal. -/
namespace Go.Proofs.YtmhagigokgklaaaGreatDoor
open Go Go.RowKit

/-- where a state and a class lead -/
def nextL : List Nat := [0, 0, 0, 0, 0, 0, 0, 0, 2, 3, 5, 0, 0, 0, 0, 0, 0, 12, 8, 0, 0, 0, 3, 3, 12, 8, 0, 4, 0, 3, 3, 0, 0, 0, 0, 0, 6, 6, 0, 0, 0, 0, 0, 6, 6, 0, 8, 0, 7, 0, 6, 6, 0, 0, 0, 0, 0, 10, 10, 0, 0, 9, 0, 0, 10, 10, 0, 0, 0, 0, 0, 10, 10, 0, 0, 0, 11, 0, 10, 10, 0, 0, 0, 0, 0, 6, 6, 0, 8, 0, 0]
def nextN (s c : Nat) : Nat := nextL.getD (s * 7 + c) 0
def nextV : Array Value := (nextL.map fun n => Value.int .i64 (n : Nat)).toArray
def zeroV : Array Value := #[.int .i64 0, .int .i64 0, .int .i64 0, .int .i64 0, .int .i64 0, .int .i64 0, .int .i64 0, .int .i64 0, .int .i64 0, .int .i64 0, .int .i64 0, .int .i64 0, .int .i64 0, .int .i64 0, .int .i64 0, .int .i64 0, .int .i64 0, .int .i64 0, .int .i64 0, .int .i64 0, .int .i64 0, .int .i64 0, .int .i64 0, .int .i64 0, .int .i64 0, .int .i64 0, .int .i64 0, .int .i64 0, .int .i64 0, .int .i64 0, .int .i64 0, .int .i64 0, .int .i64 0, .int .i64 0, .int .i64 0, .int .i64 0, .int .i64 0, .int .i64 0, .int .i64 0, .int .i64 0, .int .i64 0, .int .i64 0, .int .i64 0, .int .i64 0, .int .i64 0, .int .i64 0, .int .i64 0, .int .i64 0, .int .i64 0, .int .i64 0, .int .i64 0, .int .i64 0, .int .i64 0, .int .i64 0, .int .i64 0, .int .i64 0, .int .i64 0, .int .i64 0, .int .i64 0, .int .i64 0, .int .i64 0, .int .i64 0, .int .i64 0, .int .i64 0, .int .i64 0, .int .i64 0, .int .i64 0, .int .i64 0, .int .i64 0, .int .i64 0, .int .i64 0, .int .i64 0, .int .i64 0, .int .i64 0, .int .i64 0, .int .i64 0, .int .i64 0, .int .i64 0, .int .i64 0, .int .i64 0, .int .i64 0, .int .i64 0, .int .i64 0, .int .i64 0, .int .i64 0, .int .i64 0, .int .i64 0, .int .i64 0, .int .i64 0, .int .i64 0, .int .i64 0]

set_option maxRecDepth 100000 in
theorem next_build (W : World) : (Instr.build 91 #[(1, .agg #[.int .i64 0, .int .i64 2, .int .i64 3, .int .i64 5, .int .i64 0, .int .i64 0, .int .i64 0]), (2, .agg #[.int .i64 0, .int .i64 0, .int .i64 0, .int .i64 12, .int .i64 8, .int .i64 0, .int .i64 0]), (3, .agg #[.int .i64 0, .int .i64 3, .int .i64 3, .int .i64 12, .int .i64 8, .int .i64 0, .int .i64 4]), (4, .agg #[.int .i64 0, .int .i64 3, .int .i64 3, .int .i64 0, .int .i64 0, .int .i64 0, .int .i64 0]), (5, .agg #[.int .i64 0, .int .i64 6, .int .i64 6, .int .i64 0, .int .i64 0, .int .i64 0, .int .i64 0]), (6, .agg #[.int .i64 0, .int .i64 6, .int .i64 6, .int .i64 0, .int .i64 8, .int .i64 0, .int .i64 7]), (7, .agg #[.int .i64 0, .int .i64 6, .int .i64 6, .int .i64 0, .int .i64 0, .int .i64 0, .int .i64 0]), (8, .agg #[.int .i64 0, .int .i64 10, .int .i64 10, .int .i64 0, .int .i64 0, .int .i64 9, .int .i64 0]), (9, .agg #[.int .i64 0, .int .i64 10, .int .i64 10, .int .i64 0, .int .i64 0, .int .i64 0, .int .i64 0]), (10, .agg #[.int .i64 0, .int .i64 10, .int .i64 10, .int .i64 0, .int .i64 0, .int .i64 0, .int .i64 11]), (11, .agg #[.int .i64 0, .int .i64 10, .int .i64 10, .int .i64 0, .int .i64 0, .int .i64 0, .int .i64 0]), (12, .agg #[.int .i64 0, .int .i64 6, .int .i64 6, .int .i64 0, .int .i64 8, .int .i64 0, .int .i64 0])]).run Tryz.prog W = .ok (.agg nextV) W := by kernel_rfl
theorem next_size : nextV.size = 91 := by kernel_rfl
theorem next_cells (W : World) : (storeCells ⟨W.heap.size, 0, Option.none⟩ nextV.toList 0).run Tryz.prog (W.alloc (.cells zeroV 91)) = .ok () (W.alloc (.cells nextV 91)) :=
  run_storeCells_new W _ zeroV nextV (by kernel_rfl) (by rfl) (by kernel_rfl)
theorem addr_add (b o k : Nat) : Addr.add ⟨b, o, Option.none⟩ k = ⟨b, o + k, Option.none⟩ := by unfold Addr.add; split <;> simp_all
theorem at_row (W : World) (b o q : Nat) (h : q < 13) : (Instr.indexAt 91 (.pointer (some ⟨b, o, Option.none⟩)) (.int .i64 (q : Nat))).run Tryz.prog W = .ok (.pointer (some ⟨b, o + q * 7, Option.none⟩)) W := by
  have hl : Tryz.prog.arrayLen 91 = 13 := by kernel_rfl
  have hs : (sizeOf (Tryz.prog.elem 91)).run Tryz.prog W = .ok 7 W := by kernel_rfl
  rw [run_indexAt_array (h := by kernel_rfl), hl, if_pos (by omega), hs]
  show Result.ok (Value.pointer (some (Addr.add ⟨b, o, Option.none⟩ ((q : Int).toNat * 7)))) W = _
  rw [Int.toNat_natCast, addr_add]
theorem at_cell (W : World) (b o q : Nat) (h : q < 7) : (Instr.indexAt 90 (.pointer (some ⟨b, o, Option.none⟩)) (.int .i64 (q : Nat))).run Tryz.prog W = .ok (.pointer (some ⟨b, o + q, Option.none⟩)) W := by
  have hl : Tryz.prog.arrayLen 90 = 7 := by kernel_rfl
  have hs : (sizeOf (Tryz.prog.elem 90)).run Tryz.prog W = .ok 1 W := by kernel_rfl
  rw [run_indexAt_array (h := by kernel_rfl), hl, if_pos (by omega), hs]
  show Result.ok (Value.pointer (some (Addr.add ⟨b, o, Option.none⟩ ((q : Int).toNat * 1)))) W = _
  rw [Int.toNat_natCast, addr_add, Nat.mul_one]
theorem next_is (i : Nat) (h : i < 91) : nextV[i]? = some (.int .i64 ((nextL.getD i 0 : Nat) : Int)) := by
  have hl : i < nextL.length := h
  unfold nextV
  rw [List.getElem?_toArray, List.getElem?_map, List.getElem?_eq_getElem hl, List.getD_eq_getElem?_getD, List.getElem?_eq_getElem hl]
  rfl
theorem row_1 (W : World) : (Instr.build 90 #[(1, .int .i64 2), (2, .int .i64 3), (3, .int .i64 5)]).run Tryz.prog W = .ok (.agg #[.int .i64 0, .int .i64 2, .int .i64 3, .int .i64 5, .int .i64 0, .int .i64 0, .int .i64 0]) W := by kernel_rfl
theorem row_2 (W : World) : (Instr.build 90 #[(3, .int .i64 12), (4, .int .i64 8)]).run Tryz.prog W = .ok (.agg #[.int .i64 0, .int .i64 0, .int .i64 0, .int .i64 12, .int .i64 8, .int .i64 0, .int .i64 0]) W := by kernel_rfl
theorem row_3 (W : World) : (Instr.build 90 #[(1, .int .i64 3), (2, .int .i64 3), (3, .int .i64 12), (4, .int .i64 8), (6, .int .i64 4)]).run Tryz.prog W = .ok (.agg #[.int .i64 0, .int .i64 3, .int .i64 3, .int .i64 12, .int .i64 8, .int .i64 0, .int .i64 4]) W := by kernel_rfl
theorem row_4 (W : World) : (Instr.build 90 #[(1, .int .i64 3), (2, .int .i64 3)]).run Tryz.prog W = .ok (.agg #[.int .i64 0, .int .i64 3, .int .i64 3, .int .i64 0, .int .i64 0, .int .i64 0, .int .i64 0]) W := by kernel_rfl
theorem row_5 (W : World) : (Instr.build 90 #[(1, .int .i64 6), (2, .int .i64 6)]).run Tryz.prog W = .ok (.agg #[.int .i64 0, .int .i64 6, .int .i64 6, .int .i64 0, .int .i64 0, .int .i64 0, .int .i64 0]) W := by kernel_rfl
theorem row_6 (W : World) : (Instr.build 90 #[(1, .int .i64 6), (2, .int .i64 6), (4, .int .i64 8), (6, .int .i64 7)]).run Tryz.prog W = .ok (.agg #[.int .i64 0, .int .i64 6, .int .i64 6, .int .i64 0, .int .i64 8, .int .i64 0, .int .i64 7]) W := by kernel_rfl
theorem row_8 (W : World) : (Instr.build 90 #[(1, .int .i64 10), (2, .int .i64 10), (5, .int .i64 9)]).run Tryz.prog W = .ok (.agg #[.int .i64 0, .int .i64 10, .int .i64 10, .int .i64 0, .int .i64 0, .int .i64 9, .int .i64 0]) W := by kernel_rfl
theorem row_9 (W : World) : (Instr.build 90 #[(1, .int .i64 10), (2, .int .i64 10)]).run Tryz.prog W = .ok (.agg #[.int .i64 0, .int .i64 10, .int .i64 10, .int .i64 0, .int .i64 0, .int .i64 0, .int .i64 0]) W := by kernel_rfl
theorem row_10 (W : World) : (Instr.build 90 #[(1, .int .i64 10), (2, .int .i64 10), (6, .int .i64 11)]).run Tryz.prog W = .ok (.agg #[.int .i64 0, .int .i64 10, .int .i64 10, .int .i64 0, .int .i64 0, .int .i64 0, .int .i64 11]) W := by kernel_rfl
theorem row_12 (W : World) : (Instr.build 90 #[(1, .int .i64 6), (2, .int .i64 6), (4, .int .i64 8)]).run Tryz.prog W = .ok (.agg #[.int .i64 0, .int .i64 6, .int .i64 6, .int .i64 0, .int .i64 8, .int .i64 0, .int .i64 0]) W := by kernel_rfl

theorem cls_lt (c : Nat) : clsN c < 7 := by
  unfold clsN
  repeat (split; · omega)
  omega
/-- the state behind a text -/
def stN (l : List UInt8) : Nat := l.foldl (fun q c => nextN q (clsN c.toNat)) 1
def endB (q : Nat) : Bool := q == 2 || q == 3 || q == 6 || q == 10 || q == 12
/-- a decimal number -/
def decB (l : List UInt8) : Bool := endB (stN l)

theorem next_lt : ∀ q c, nextN q c < 13 := by
  intro q c
  unfold nextN
  by_cases h : q * 7 + c < 91
  · have key : ∀ i : Fin 91, nextL.getD i.val 0 < 13 := by decide +kernel
    exact key ⟨_, h⟩
  · rw [List.getD_eq_getElem?_getD, List.getElem?_eq_none (by show nextL.length ≤ _; exact Nat.not_lt.1 h)]; decide
theorem next_zero (c : Nat) (h : c < 7) : nextN 0 c = 0 := by
  have key : ∀ i : Fin 7, nextN 0 i.val = 0 := by decide +kernel
  exact key ⟨c, h⟩
theorem fold_zero : ∀ l : List UInt8, l.foldl (fun q c => nextN q (clsN c.toNat)) 0 = 0
  | [] => rfl
  | x :: l => by rw [List.foldl_cons, next_zero _ (cls_lt _)]; exact fold_zero l
theorem st_step (s : ByteArray) (k : Nat) (h : k < s.size) : stN (s.data.toList.take (k + 1)) = nextN (stN (s.data.toList.take k)) (clsN (s[k].toNat)) := by
  have hl : k < s.data.toList.length := by simpa using h
  unfold stN
  rw [List.take_succ_eq_append_getElem hl, List.foldl_append]
  rfl
theorem st_stop (s : ByteArray) (k : Nat) (h : stN (s.data.toList.take k) = 0) : decB s.data.toList = false := by
  unfold decB
  have : stN s.data.toList = 0 := by
    conv => lhs; rw [← List.take_append_drop k s.data.toList]
    unfold stN at *
    rw [List.foldl_append, h]; exact fold_zero _
  rw [this]; rfl

attribute [-go_sem] Instr.build in
set_option maxRecDepth 100000 in
set_option maxHeartbeats 1000000 in
theorem decimal_any (s : ByteArray) (w : World) (hs : s.size ≤ 1000) :
    Calls Tryz.prog 24 #[.string s] w fun e w' => e = .returned (.bool (decB s.data.toList)) ∧ Below w.heap.size w w' := by
  have hb := next_build
  have hsz := next_size
  have hst := next_cells
  have hr1 := row_1
  have hr2 := row_2
  have hr3 := row_3
  have hr4 := row_4
  have hr5 := row_5
  have hr6 := row_6
  have hr8 := row_8
  have hr9 := row_9
  have hr10 := row_10
  have hr12 := row_12
  rw [show zeroV = Tryz.zeroCells91 from by kernel_rfl] at hst
  have hnx : ∀ i, i < 91 → nextV[i]? = some (.int .i64 ((nextL.getD i 0 : Nat) : Int)) := next_is
  generalize nextV = NV at *
  go_enter Tryz.func24, Tryz.ntmps24
  go_wp2_with fail
  go_loopw [4, 5, 21] (fun st _ i wr => ∃ k q : Nat, k ≤ s.size ∧ q < 13 ∧ q = stN (s.data.toList.take k) ∧ st = .int .i64 q ∧ i = .int .i64 k ∧ Below w.heap.size w wr ∧ wr.heap[w.heap.size]? = some (.cells NV 91 (0, 0))) (fun _ _ i _ => s.size - (intOf i).toNat)
  case atStart => exact ⟨0, 1, Nat.zero_le _, by decide, by simp [stN], rfl, rfl, (Below.refl _ _).alloc (Nat.le_refl _) _, heap_alloc_last w _⟩
  case round =>
    obtain ⟨k, q, hk, hq, hst2, rfl, rfl, hb, hcell⟩ := hrel
    have HST := Lib.hid hst2
    have HBW := Lib.hid hb
    clear hst2 hb
    by_cases hks : k < s.size
    · have hc7 : clsN (s[k].toNat) < 7 := cls_lt _
      have hc := class_any (s[k].toNat)
      have h256 : s[k].toNat < 256 := s[k].toNat_lt
      have HCL := Lib.hid (fun (W : World) => hc W h256)
      generalize hcc : clsN (s[k].toNat) = c at *
      have hcl : wr.cell? ⟨w.heap.size, q * 7 + c, Option.none⟩ = some (.int .i64 (nextN q c : Nat)) := by
        rw [cell_of_row wr w.heap.size _ _ _ _ hcell]
        exact hnx _ (by omega)
      have HS1 := Lib.hid (st_step s k hks)
      rw [hcc, ← HST.out] at HS1
      have hz13 := next_lt q c
      have HCE := Lib.hid hcell
      generalize nextN q c = z at *
      clear hc h256 hcell
      have hro := fun W => at_row W w.heap.size 0 q hq
      rw [Nat.zero_add] at hro
      have hce := fun W => at_cell W w.heap.size (q * 7) c hc7
      by_cases hz : z = 0
      · subst hz
        have HF : Hid (decB s.data.toList = false) := Lib.hid (st_stop s (k + 1) HS1.out)
        go_wp2_with fail
        go_quiet ((go_at_call 63; exact Calls.quiet_of_same (HCL.out _)))
        go_wp2
        go_ret
        exact ⟨ret_bool HF.out.symm, bDrewN HBW.out _⟩
      · have hz2 : ((z : Int) == 0) = false := by rw [beq_eq_false_iff_ne]; omega
        have hz3 : ((z : Int) = 0) = False := by simp; omega
        go_wp2_with fail
        go_quiet ((go_at_call 63; exact Calls.quiet_of_same (HCL.out _)))
        go_wp2
        go_roundw
        case rel => exact ⟨k + 1, z, by omega, hz13, HS1.out.symm, rfl, by go_num, bDrewN HBW.out _, HCE.out⟩
        case measure => simp [RowKit.intOf] <;> omega
    · have hke : k = s.size := by omega
      have HE : Hid (decB s.data.toList = endB q) := Lib.hid (by
        unfold decB
        rw [HST.out, hke, List.take_of_length_le (by simp)])
      clear hke HST
      have h13 : q = 0 ∨ q = 1 ∨ q = 2 ∨ q = 3 ∨ q = 4 ∨ q = 5 ∨ q = 6 ∨ q = 7 ∨ q = 8 ∨ q = 9 ∨ q = 10 ∨ q = 11 ∨ q = 12 := by omega
      rcases h13 with rfl | rfl | rfl | rfl | rfl | rfl | rfl | rfl | rfl | rfl | rfl | rfl | rfl
      all_goals
        go_wp2_with fail
        go_ret
        exact ⟨ret_bool HE.out.symm, HBW.out⟩
end Go.Proofs.YtmhagigokgklaaaGreatDoor
