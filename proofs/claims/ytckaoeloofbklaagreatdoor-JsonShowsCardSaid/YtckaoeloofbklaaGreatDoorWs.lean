/- Joined texts: Td Og Of Od Oe. Each begins with its own remark. -/
import Derived.Test.YtckaoeloofbklaaGreatDoorWr
import Derived.Test.YtckaoeloofbklaaGreatDoorWi
import Derived.Test.YtckaoeloofbklaaGreatDoorWq
import Derived.Lib.ItoaMem
import Derived.Lib.ItoaLen
import Derived.Test.YtckaoeloofbklaaGreatDoorWc
import Derived.Test.YtckaoeloofbklaaGreatDoorWl
import Derived.Deep.DeepAppendWide
import Derived.Deep.AppendLies
import Derived.Test.YtckaoeloofbklaaGreatDoorWe
import Derived.BigQuiet
import Derived.Deep.Cut
import Derived.Deep.CutRange
set_option maxRecDepth 100000
set_option maxHeartbeats 16000000
namespace Go.Proofs.YtckaoeloofbklaaGreatDoor
open Go Go.RowKit Go.Sort Go.Lib
set_option exponentiation.threshold 3000
def rsL (x : Nat) : List UInt8 := if x < 9223372036854775808 then [] else [45]
def rsS (x : Nat) : ByteArray := if x < 9223372036854775808 then ⟨#[]⟩ else ⟨#[45]⟩
theorem sgS_list (x : Nat) : (rsS x).data.toList = rsL x := by unfold rsS rsL; split <;> rfl
theorem sgS_size (x : Nat) : (rsS x).size ≤ 1 := by unfold rsS; split <;> decide
theorem show_nanB (x : Nat) (h : 9218868437227405312 < ru x) : showB x = nanB := by unfold showB; exact if_pos h
theorem show_infB (x : Nat) (h : ru x = 9218868437227405312) : showB x = rsL x ++ infB := by
 unfold showB
 unfold ru at h
 rw [if_neg (show ¬ 9218868437227405312 < x % 9223372036854775808 by omega), if_pos h]; rfl
theorem show_zeroB (x : Nat) (h : ru x = 0) : showB x = rsL x ++ [48] := by
 unfold showB
 unfold ru at h
 rw [if_neg (show ¬ 9218868437227405312 < x % 9223372036854775808 by omega), if_neg (show ¬ x % 9223372036854775808 = 9218868437227405312 by omega), if_pos h]; rfl
theorem show_finB (x : Nat) (h1 : 0 < ru x) (h2 : ru x < 9218868437227405312) : showB x = rsL x ++ showA (ru x) := by
 unfold showB
 unfold ru at *
 rw [if_neg (show ¬ 9218868437227405312 < x % 9223372036854775808 by omega), if_neg (show ¬ x % 9223372036854775808 = 9218868437227405312 by omega), if_neg (show ¬ x % 9223372036854775808 = 0 by omega)]; rfl
theorem last_dec (t : Nat) (h : t % 10 ≠ 0) : ∃ l c, decDigits t = l ++ [c] ∧ c.toNat ≠ 48 := by
 rw [decDigits]
 have key : ∀ k : Fin 10, k.val ≠ 0 → (UInt8.ofNat (48 + k.val)).toNat ≠ 48 := by decide +kernel
 split
 ·rename_i h1
  exact ⟨[], _, rfl, key ⟨t, h1⟩ (fun e => by simp only at e; omega)⟩
 ·exact ⟨_, _, rfl, key ⟨t % 10, Nat.mod_lt _ (by decide)⟩ h⟩
def dzS (t i : Nat) : ByteArray := ⟨(decDigits t ++ List.replicate i 48).toArray⟩
theorem dzS_size (t i : Nat) : (dzS t i).size = (decDigits t).length + i := by
 show (decDigits t ++ List.replicate i 48).toArray.size = _
 rw [List.size_toArray, List.length_append, List.length_replicate]
theorem dzS_get (t i k : Nat) (h : k < (dzS t i).size) : (dzS t i)[k] = (decDigits t ++ List.replicate i 48)[k]'(by rw [dzS_size] at h; simpa using h) := rfl
theorem dzS_last0 (t i : Nat) (h : (decDigits t).length + i < (dzS t (i + 1)).size) : (dzS t (i + 1))[(decDigits t).length + i].toNat = 48 := by
 rw [dzS_get, List.getElem_append_right (by omega), List.getElem_replicate]; rfl
theorem dzS_last (t m : Nat) (h : t % 10 ≠ 0) (hm : (decDigits t).length = m + 1) (h' : m < (dzS t 0).size) : (dzS t 0)[m].toNat ≠ 48 := by
 obtain ⟨l, c, e1, e2⟩ := last_dec t h
 rw [dzS_get]
 have e3 : m = l.length := by
  have := congrArg List.length e1
  rw [hm, List.length_append, List.length_singleton] at this
  omega
 subst e3
 simp only [List.replicate_zero, List.append_nil, e1]
 rw [List.getElem_append_right (Nat.le_refl _)]
 simpa using e2
theorem dzS_cut (t i : Nat) : (dzS t (i + 1)).extract 0 ((decDigits t).length + i) = dzS t i := by
 refine str_is ?_
 rw [ByteArray.data_extract]
 simp only [dzS, Array.toList_extract, List.extract_eq_take_drop, List.drop_zero, Nat.sub_zero]
 rw [List.take_append, List.take_of_length_le (by omega), show (decDigits t).length + i - (decDigits t).length = i by omega, List.take_replicate, Nat.min_eq_left (by omega)]
def RsPost (x : Nat) (w : World) (e : Ending) (w' : World) : Prop := e = .returned (.string ⟨(showB x).toArray⟩) ∧ Below w.heap.size w w'
theorem rshow_any (x : Nat) (w : World) (hx : x < 18446744073709551616) : Calls Tryz.prog 86 #[.int .u64 x] w (RsPost x w) := by
 obtain ⟨r, hr⟩ : ∃ r, ru x = r := ⟨_, rfl⟩
 have hr63 : r < 9223372036854775808 := by rw [← hr]; exact Nat.mod_lt _ (by decide)
 have hxr : (x < 9223372036854775808 ∧ x = r ∧ rsS x = ⟨#[]⟩) ∨ (9223372036854775808 ≤ x ∧ x = r + 9223372036854775808 ∧ rsS x = ⟨#[45]⟩) := by
  unfold ru at hr
  rcases Nat.lt_or_ge x 9223372036854775808 with h | h
  ·exact .inl ⟨h, by omega, by unfold rsS; rw [if_pos h]⟩
  ·exact .inr ⟨h, by omega, by unfold rsS; rw [if_neg (by omega)]⟩
 have hS1 := sgS_size x
 have HNAN : Hid (9218868437227405312 < r → RsPost x w (.returned (.string ⟨#[78, 97, 78]⟩)) w) := Lib.hid fun h => by
  refine ⟨?_, Below.refl _ _⟩
  rw [show_nanB x (by omega)]; rfl
 have HINF : Hid (r = 9218868437227405312 → RsPost x w (.returned (.string (rsS x ++ ⟨#[73, 110, 102, 105, 110, 105, 116, 121]⟩))) w) := Lib.hid fun h => by
  refine ⟨?_, Below.refl _ _⟩
  rw [show_infB x (by omega), str_is (s := rsS x ++ ⟨#[73, 110, 102, 105, 110, 105, 116, 121]⟩) (l := rsL x ++ infB) (by rw [ByteArray.data_append, Array.toList_append, sgS_list]; rfl)]
 have HZERO : Hid (r = 0 → RsPost x w (.returned (.string (rsS x ++ ⟨#[48]⟩))) w) := Lib.hid fun h => by
  refine ⟨?_, Below.refl _ _⟩
  rw [show_zeroB x (by omega), str_is (s := rsS x ++ ⟨#[48]⟩) (l := rsL x ++ [48]) (by rw [ByteArray.data_append, Array.toList_append, sgS_list])]
 have HFIN : Hid (0 < r → r < 9218868437227405312 → ∀ (D : Nat) (q : Int), SameV D q (shN r).1 (shN r).2 → 1 ≤ D → D ≤ 1152921504606846976 → ∃ (t i : Nat) (p : Int), D = t * 10 ^ i ∧ t % 10 ≠ 0 ∧ decDigits D = decDigits t ++ List.replicate i 48 ∧ i ≤ 20 ∧ ((nDigits D : Nat) : Int) + q = p ∧ (p - 1).natAbs < 1000 ∧ 1 ≤ (decDigits t).length ∧ (decDigits t).length ≤ 20 ∧ ∀ (W : World) (s : ByteArray), s.data.toList = rsL x ++ placedB (decDigits t) p → Below w.heap.size w W → RsPost x w (.returned (.string s)) W) := Lib.hid fun h1 h2 D q hs hD1 hD2 => by
  obtain ⟨b1, b2, b3⟩ := sh_bounds r h1 h2
  obtain ⟨e1, e2⟩ := same_sig hs hD1 b1
  obtain ⟨t, i, e3, e4⟩ := strip_ex D hD1
  have ht0 : 1 ≤ t := by omega
  have hsig : sig D = decDigits t := by rw [e3, sig_tens t ht0, sig_odd t e4]
  have hi : nDigits D = nDigits t + i := by rw [e3, nd_tens t ht0]
  have hnd := nd_le 18 D (by omega)
  have htp := nDigits_pos t
  refine ⟨t, i, _, e3, e4, by rw [e3, dec_tens t ht0], by omega, rfl, by rw [e2]; exact b3, by rw [decDigits_length]; exact htp, by rw [decDigits_length]; omega, fun W s h hb => ⟨?_, hb⟩⟩
  rw [str_is h, show_finB x (by omega) (by omega), hr]
  unfold showA
  rw [← e1, hsig, e2]
 clear hr
 have HSL : Hid ((rsS x).data.toList = rsL x) := Lib.hid (sgS_list x)
 generalize rsS x = S at *
 have HXR := Lib.hid hxr
 have hx64 : (x : Int) < 18446744073709551616 := by omega
 clear hxr
 go_enter Tryz.func86, Tryz.ntmps86
 go_upto_if 8 with (fail)
 go_cut [0, 3] from 7 to 10 (fun s0 s3 wx => s0 = .int .u64 r ∧ s3 = .string S ∧ wx = w)
 case first =>
  rcases HXR.out with ⟨h1, h2, h3⟩ | ⟨h1, h2, h3⟩
  ·subst h2 h3
   have hi : decide ((9223372036854775808 : Int) ≤ (x : Int)) = false := decide_eq_false (by omega)
   rw [hi]
   clear HNAN HINF HZERO HFIN HXR h1 hr63 hx hx64 hi
   go_wp2_with fail
   go_meet
   exact ⟨rfl, rfl, rfl⟩
  ·subst h3
   have hi : decide ((9223372036854775808 : Int) ≤ (x : Int)) = true := decide_eq_true (by omega)
   rw [hi]
   have hi2 : (x : Int) - 9223372036854775808 = (r : Int) := by omega
   have hr0 : (0 : Int) ≤ (r : Int) := by omega
   have hr64 : (r : Int) < 9223372036854775808 := by omega
   clear HNAN HINF HZERO HFIN HXR h1 h2 hx hx64 hr63 hi
   go_wp2_with fail
   go_meet
   exact ⟨rfl, rfl, rfl⟩
 case rest =>
  obtain ⟨rfl, rfl, rfl⟩ := hcut
  clear HXR
  clear hx64 hx
  by_cases h1 : 9218868437227405312 < r
  ·have HE := Lib.hid (HNAN.out h1)
   have hi : (9218868437227405312 : Int) < (r : Int) := by omega
   clear HNAN HINF HZERO HFIN h1
   go_wp2_with fail
   go_ret
   exact HE.out
  ·by_cases h2 : r = 9218868437227405312
   ·have HE := Lib.hid (HINF.out h2)
    subst h2
    clear HNAN HINF HZERO HFIN h1
    go_wp2_with fail
    go_ret
    exact HE.out
   ·by_cases h3 : r = 0
    ·have HE := Lib.hid (HZERO.out h3)
     subst h3
     clear HNAN HINF HZERO HFIN h1 h2
     go_wp2_with fail
     go_ret
     exact HE.out
    ·have HF := Lib.hid (HFIN.out (by omega) (by omega))
     have HS := Lib.hid (shortest_any r wc (by omega) (by omega))
     have hi1 : ¬ (9218868437227405312 : Int) < (r : Int) := by omega
     have hi2 : ((r : Int) == 9218868437227405312) = false := by rw [beq_eq_false_iff_ne]; omega
     have hi2n : ¬ (r : Int) = 9218868437227405312 := by omega
     have hi3 : ((r : Int) == 0) = false := by rw [beq_eq_false_iff_ne]; omega
     have hi3n : ¬ (r : Int) = 0 := by omega
     clear HNAN HINF HZERO HFIN h1 h2 h3
     go_wp2_with fail
     refine HS.out.mono ?_
     rintro e w1 ⟨⟨D, q, hsame, hD1, hD2, rfl⟩, hb1⟩
     obtain ⟨t, i, p, g1, g2, g3, g4, g5, g6, g7, g8, g9⟩ := HF.out D q hsame hD1 hD2
     have hds : (⟨(decDigits D).toArray⟩ : ByteArray) = dzS t i := by unfold dzS; rw [g3]
     rw [hds, g5]
     have B1 := Lib.hid hb1
     have HP := Lib.hid g9
     have HT := Lib.hid g2
     clear hb1 hsame hD1 hD2 g1 g2 g3 g5 g9 hds HF HS hi1 hi2 hi2n hi3 hi3n hr63
     obtain ⟨N, hN⟩ : ∃ N, (decDigits t).length = N := ⟨_, rfl⟩
     rw [hN] at g7 g8
     have HN := Lib.hid hN
     clear hN
     go_wp2_with fail
     go_loopg [4] i (fun g s4 wr => g ≤ i ∧ s4 = .string (dzS t g) ∧ wr = w1)
     case atStart => exact ⟨Nat.le_refl _, rfl, rfl⟩
     case round =>
      obtain ⟨hgi, rfl, hwr⟩ := hrel
      obtain rfl : w1 = wr := hwr.symm
      by_cases h0 : gk = 0
      ·subst h0
       have hs : (dzS t 0).size = N := by rw [dzS_size, HN.out]; rfl
       obtain ⟨m, rfl⟩ : ∃ m, N = m + 1 := ⟨N - 1, by omega⟩
       have hm : m < (dzS t 0).size := by omega
       have hl := dzS_last t m HT.out HN.out hm
       have hl2 : (((dzS t 0)[m].toNat : Int) == 48) = false := by rw [beq_eq_false_iff_ne]; omega
       have hl3 : ¬ ((dzS t 0)[m].toNat : Int) = 48 := by omega
       have hmm : ((m + 1 : Nat) : Int) - 1 = (m : Int) := by omega
       have hmm2 : (m : Int) + 1 - 1 = (m : Int) := by omega
       have hd : (dzS t 0).data.toList = decDigits t := by simp [dzS]
       have HD := Lib.hid hd
       generalize dzS t 0 = d at *
       clear hd hgi
       by_cases c1 : ((m + 1 : Nat) : Int) ≤ p ∧ p ≤ 21
       ·obtain ⟨ca, cb⟩ := c1
        obtain ⟨k, hk⟩ : ∃ k : Nat, p - ((m + 1 : Nat) : Int) = (k : Int) := ⟨(p - ((m + 1 : Nat) : Int)).toNat, by omega⟩
        have hk2 : p - ((m : Int) + 1) = (k : Int) := by omega
        have HZ := Lib.hid (fun W => rzeros_any k W (by omega))
        have hz : (⟨(List.replicate k (48 : UInt8)).toArray⟩ : ByteArray).size ≤ 100 := by rw [zz]; omega
        have HE : Hid (RsPost x wc (.returned (.string (S ++ d ++ ⟨(List.replicate k (48 : UInt8)).toArray⟩))) w1) := Lib.hid (by
         refine HP.out w1 _ ?_ B1.out
         rw [placedB, HN.out, if_pos ⟨ca, cb⟩, hk, Int.toNat_natCast]
         simp only [ByteArray.data_append, Array.toList_append, HD.out, HSL.out, List.append_assoc])
        have hcc : (m : Int) + 1 ≤ p := by omega
        generalize (⟨(List.replicate k (48 : UInt8)).toArray⟩ : ByteArray) = Z at *
        clear hk
        go_wp2_with fail
        all_goals
         refine (HZ.out _).mono ?_
         rintro e w5 ⟨rfl, rfl⟩
         go_wp2_with fail
         go_ret
         exact HE.out
       ·by_cases c2 : 0 < p ∧ p < ((m + 1 : Nat) : Int)
        ·obtain ⟨ca, cb⟩ := c2
         obtain ⟨k, rfl⟩ : ∃ k : Nat, p = (k : Int) := ⟨p.toNat, by omega⟩
         have hA : ∀ W : World, (Instr.slice 9 (.string d) none (some (.int .i64 k)) none).run Tryz.prog W = .ok (.string (d.extract 0 k)) W := fun W => run_slice_string_h W _ d Tryz.underlying9 .i64 k (by omega) (by omega)
         have hC : ∀ W : World, (Instr.slice 9 (.string d) (some (.int .i64 k)) none none).run Tryz.prog W = .ok (.string (d.extract k d.size)) W := fun W => run_slice_string_l W _ d Tryz.underlying9 .i64 k (by omega) (by omega)
         have za : (d.extract 0 k).size ≤ 100 := by rw [ByteArray.size_extract]; omega
         have zc : (d.extract k d.size).size ≤ 100 := by rw [ByteArray.size_extract]; omega
         have hdl : d.data.toList.length = m + 1 := by rw [HD.out]; exact HN.out
         have HE : Hid (∀ n : Nat, RsPost x wc (.returned (.string (S ++ d.extract 0 k ++ ⟨#[46]⟩ ++ d.extract k d.size))) (w1.drewN n)) := Lib.hid (fun n => by
          refine HP.out (w1.drewN n) _ ?_ (bDrewN B1.out _)
          rw [placedB, HN.out, if_neg c1, if_pos ⟨ca, cb, by omega⟩, Int.toNat_natCast]
          simp only [ByteArray.data_append, Array.toList_append, HSL.out, List.append_assoc, ByteArray.data_extract, Array.toList_extract, List.extract_eq_take_drop, List.drop_zero, Nat.sub_zero, HD.out]
          rw [List.take_of_length_le (i := d.size - k) (by rw [List.length_drop, HN.out]; omega)]
          rfl)
         generalize d.extract 0 k = dA at *
         generalize d.extract k d.size = dC at *
         have hcc : ¬ (m : Int) + 1 ≤ (k : Int) := by omega
         have hcd : (k : Int) < (m : Int) + 1 := by omega
         clear c1 cb hdl
         go_wp2_with fail
         go_quiet (fail)
         go_wp2
         go_ret
         exact HE.out _
        ·by_cases c3 : -6 < p ∧ p ≤ 0
         ·obtain ⟨ca, cb⟩ := c3
          obtain ⟨k, hk⟩ : ∃ k : Nat, -p = (k : Int) := ⟨(-p).toNat, by omega⟩
          have HZ := Lib.hid (fun W => rzeros_any k W (by omega))
          have hz : (⟨(List.replicate k (48 : UInt8)).toArray⟩ : ByteArray).size ≤ 100 := by rw [zz]; omega
          have HE : Hid (RsPost x wc (.returned (.string (S ++ ⟨#[48, 46]⟩ ++ ⟨(List.replicate k (48 : UInt8)).toArray⟩ ++ d))) w1) := Lib.hid (by
           refine HP.out w1 _ ?_ B1.out
           rw [placedB, HN.out, if_neg c1, if_neg (fun h => c2 ⟨h.1, h.2.1⟩), if_pos ⟨ca, cb⟩, hk, Int.toNat_natCast]
           simp only [ByteArray.data_append, Array.toList_append, HD.out, HSL.out, List.append_assoc]
           rfl)
          have hcc : ¬ (m : Int) + 1 ≤ p := by omega
          have hcd : ¬ 0 < p := by omega
          generalize (⟨(List.replicate k (48 : UInt8)).toArray⟩ : ByteArray) = Z at *
          clear c1 c2
          go_wp2_with fail
          all_goals
           refine (HZ.out _).mono ?_
           rintro e w5 ⟨rfl, rfl⟩
           go_wp2_with fail
           go_ret
           exact HE.out
         ·have hfar : 21 < p ∨ p ≤ -6 := by omega
          have hcc : ((m : Int) + 1 ≤ p ∧ 21 < p) ∨ (¬ (m : Int) + 1 ≤ p ∧ p ≤ -6) := by omega
          have HPL : Hid (placedB (decDigits t) p = (if 1 < m + 1 then (decDigits t).take 1 ++ 46 :: (decDigits t).drop 1 else decDigits t) ++ expS (p - 1)) := Lib.hid (by
           rw [placedB, HN.out, if_neg c1, if_neg (fun h => c2 ⟨h.1, h.2.1⟩), if_neg c3])
          clear c1 c2 c3 hfar
          by_cases hm0 : m = 0
          ·subst hm0
           rcases hcc with ⟨ca, cb⟩ | ⟨ca, cb⟩
           ·obtain ⟨k, hk⟩ : ∃ k : Nat, p - 1 = (k : Int) := ⟨(p - 1).toNat, by omega⟩
            have hexp : expS (p - 1) = 101 :: 43 :: decDigits k := by
             unfold expS
             rw [if_neg (show ¬ p - 1 < 0 by omega), show (p - 1).natAbs = k by omega]
            have HTX := Lib.hid (fun W => text_any k W (by omega))
            have hzt : (⟨(decDigits k).toArray⟩ : ByteArray).size ≤ 100 := by
             show (decDigits k).toArray.size ≤ 100
             rw [List.size_toArray, decDigits_length]
             exact Nat.le_trans (nd_le 3 _ (by omega)) (by decide)
            have HE : Hid (∀ W, Below w1.heap.size w1 W → RsPost x wc (.returned (.string (S ++ d ++ ⟨#[101, 43]⟩ ++ ⟨(decDigits k).toArray⟩))) W) := Lib.hid (fun W hW => by
             refine HP.out W _ ?_ (B1.out.trans (hW.mono B1.out.size))
             rw [HPL.out, if_neg (by decide), hexp]
             simp only [ByteArray.data_append, Array.toList_append, HD.out, HSL.out, List.append_assoc]
             rfl)
            generalize (⟨(decDigits k).toArray⟩ : ByteArray) = Z at *
            have q1 : ¬ p ≤ 21 := by omega
            have q2 : 0 < p := by omega
            have q3 : ¬ p < 1 := by omega
            have q4 : -6 < p := by omega
            have q5 : ¬ p ≤ 0 := by omega
            have HPL' := HPL
            clear HPL HPL' hexp cb
            clear ca
            have ca : (1 : Int) ≤ p := by omega
            go_wp2_with fail
            refine (HTX.out _).mono ?_
            rintro e w5 ⟨rfl, hb5⟩
            have B5 := Lib.hid hb5
            clear hb5
            go_wp2_with fail
            go_ret
            exact HE.out _ B5.out
           ·obtain ⟨k, hk⟩ : ∃ k : Nat, 1 - p = (k : Int) := ⟨(1 - p).toNat, by omega⟩
            have hexp : expS (p - 1) = 101 :: 45 :: decDigits k := by
             unfold expS
             rw [if_pos (show p - 1 < 0 by omega), show (p - 1).natAbs = k by omega]
            have HTX := Lib.hid (fun W => text_any k W (by omega))
            have hzt : (⟨(decDigits k).toArray⟩ : ByteArray).size ≤ 100 := by
             show (decDigits k).toArray.size ≤ 100
             rw [List.size_toArray, decDigits_length]
             exact Nat.le_trans (nd_le 3 _ (by omega)) (by decide)
            have HE : Hid (∀ W, Below w1.heap.size w1 W → RsPost x wc (.returned (.string (S ++ d ++ ⟨#[101, 45]⟩ ++ ⟨(decDigits k).toArray⟩))) W) := Lib.hid (fun W hW => by
             refine HP.out W _ ?_ (B1.out.trans (hW.mono B1.out.size))
             rw [HPL.out, if_neg (by decide), hexp]
             simp only [ByteArray.data_append, Array.toList_append, HD.out, HSL.out, List.append_assoc]
             rfl)
            generalize (⟨(decDigits k).toArray⟩ : ByteArray) = Z at *
            have q2 : ¬ 0 < p := by omega
            have q4 : ¬ -6 < p := by omega
            have HPL' := HPL
            clear HPL HPL' hexp cb
            clear ca
            have ca : ¬ (1 : Int) ≤ p := by omega
            go_wp2_with fail
            refine (HTX.out _).mono ?_
            rintro e w5 ⟨rfl, hb5⟩
            have B5 := Lib.hid hb5
            clear hb5
            go_wp2_with fail
            go_ret
            exact HE.out _ B5.out
          ·obtain ⟨m', rfl⟩ : ∃ m', m = m' + 1 := ⟨m - 1, by omega⟩
           have hA : ∀ W : World, (Instr.slice 9 (.string d) none (some (.int .i64 1)) none).run Tryz.prog W = .ok (.string (d.extract 0 1)) W := fun W => run_slice_string_h W _ d Tryz.underlying9 .i64 1 (by omega) (by omega)
           have hC : ∀ W : World, (Instr.slice 9 (.string d) (some (.int .i64 1)) none none).run Tryz.prog W = .ok (.string (d.extract 1 d.size)) W := fun W => run_slice_string_l W _ d Tryz.underlying9 .i64 1 (by omega) (by omega)
           have za : (d.extract 0 1).size ≤ 100 := by rw [ByteArray.size_extract]; omega
           have zc : (d.extract 1 d.size).size ≤ 100 := by rw [ByteArray.size_extract]; omega
           rcases hcc with ⟨ca, cb⟩ | ⟨ca, cb⟩
           ·obtain ⟨k, hk⟩ : ∃ k : Nat, p - 1 = (k : Int) := ⟨(p - 1).toNat, by omega⟩
            have hexp : expS (p - 1) = 101 :: 43 :: decDigits k := by
             unfold expS
             rw [if_neg (show ¬ p - 1 < 0 by omega), show (p - 1).natAbs = k by omega]
            have HTX := Lib.hid (fun W => text_any k W (by omega))
            have hzt : (⟨(decDigits k).toArray⟩ : ByteArray).size ≤ 100 := by
             show (decDigits k).toArray.size ≤ 100
             rw [List.size_toArray, decDigits_length]
             exact Nat.le_trans (nd_le 3 _ (by omega)) (by decide)
            have HE : Hid (∀ (n : Nat) (W : World), Below (w1.drewN n).heap.size (w1.drewN n) W → RsPost x wc (.returned (.string (S ++ (d.extract 0 1 ++ ⟨#[46]⟩ ++ d.extract 1 d.size) ++ ⟨#[101, 43]⟩ ++ ⟨(decDigits k).toArray⟩))) W) := Lib.hid (fun n W hW => by
             refine HP.out W _ ?_ ((bDrewN B1.out n).trans (hW.mono (bDrewN B1.out n).size))
             rw [HPL.out, if_pos (by omega), hexp]
             simp only [ByteArray.data_append, Array.toList_append, HSL.out, List.append_assoc, ByteArray.data_extract, Array.toList_extract, List.extract_eq_take_drop, List.drop_zero, Nat.sub_zero, HD.out]
             rw [List.take_of_length_le (i := d.size - 1) (by rw [List.length_drop, HN.out]; omega)]
             rfl)
            generalize d.extract 0 1 = dA at *
            generalize d.extract 1 d.size = dC at *
            have hmgt : (1 : Int) < ((m' + 1 : Nat) : Int) + 1 := by omega
            generalize (⟨(decDigits k).toArray⟩ : ByteArray) = Z at *
            have q1 : ¬ p ≤ 21 := by omega
            have q2 : 0 < p := by omega
            have q3 : ¬ p < ((m' + 1 : Nat) : Int) + 1 := by omega
            have q4 : -6 < p := by omega
            have q5 : ¬ p ≤ 0 := by omega
            have HPL' := HPL
            clear HPL HPL' hexp cb
            go_wp2_with fail
            go_quiet (fail)
            go_wp2_with fail
            refine (HTX.out _).mono ?_
            rintro e w5 ⟨rfl, hb5⟩
            have B5 := Lib.hid hb5
            clear hb5
            go_wp2_with fail
            go_ret
            exact HE.out _ _ B5.out
           ·obtain ⟨k, hk⟩ : ∃ k : Nat, 1 - p = (k : Int) := ⟨(1 - p).toNat, by omega⟩
            have hexp : expS (p - 1) = 101 :: 45 :: decDigits k := by
             unfold expS
             rw [if_pos (show p - 1 < 0 by omega), show (p - 1).natAbs = k by omega]
            have HTX := Lib.hid (fun W => text_any k W (by omega))
            have hzt : (⟨(decDigits k).toArray⟩ : ByteArray).size ≤ 100 := by
             show (decDigits k).toArray.size ≤ 100
             rw [List.size_toArray, decDigits_length]
             exact Nat.le_trans (nd_le 3 _ (by omega)) (by decide)
            have HE : Hid (∀ (n : Nat) (W : World), Below (w1.drewN n).heap.size (w1.drewN n) W → RsPost x wc (.returned (.string (S ++ (d.extract 0 1 ++ ⟨#[46]⟩ ++ d.extract 1 d.size) ++ ⟨#[101, 45]⟩ ++ ⟨(decDigits k).toArray⟩))) W) := Lib.hid (fun n W hW => by
             refine HP.out W _ ?_ ((bDrewN B1.out n).trans (hW.mono (bDrewN B1.out n).size))
             rw [HPL.out, if_pos (by omega), hexp]
             simp only [ByteArray.data_append, Array.toList_append, HSL.out, List.append_assoc, ByteArray.data_extract, Array.toList_extract, List.extract_eq_take_drop, List.drop_zero, Nat.sub_zero, HD.out]
             rw [List.take_of_length_le (i := d.size - 1) (by rw [List.length_drop, HN.out]; omega)]
             rfl)
            generalize d.extract 0 1 = dA at *
            generalize d.extract 1 d.size = dC at *
            have hmgt : (1 : Int) < ((m' + 1 : Nat) : Int) + 1 := by omega
            generalize (⟨(decDigits k).toArray⟩ : ByteArray) = Z at *
            have q2 : ¬ 0 < p := by omega
            have q4 : ¬ -6 < p := by omega
            have HPL' := HPL
            clear HPL HPL' hexp cb
            go_wp2_with fail
            go_quiet (fail)
            go_wp2_with fail
            refine (HTX.out _).mono ?_
            rintro e w5 ⟨rfl, hb5⟩
            have B5 := Lib.hid hb5
            clear hb5
            go_wp2_with fail
            go_ret
            exact HE.out _ _ B5.out
      ·obtain ⟨g, rfl⟩ : ∃ g, gk = g + 1 := ⟨gk - 1, by omega⟩
       obtain ⟨m, hm'⟩ : ∃ m, m = N + g := ⟨_, rfl⟩
       have hs : (dzS t (g + 1)).size = m + 1 := by rw [dzS_size, HN.out]; omega
       have hm : m < (dzS t (g + 1)).size := by omega
       have hl : (dzS t (g + 1))[m].toNat = 48 := by
        have e0 : m = (decDigits t).length + g := by rw [HN.out]; exact hm'
        have := dzS_last0 t g (by rw [← e0]; exact hm)
        simpa only [← e0] using this
       have hcut := dzS_cut t g
       rw [HN.out, ← hm'] at hcut
       have hmp : 0 < m := by omega
       have hmk : m ≤ 100 := by omega
       have hmm : ((m + 1 : Nat) : Int) - 1 = (m : Int) := by omega
       have hmm2 : (m : Int) + 1 - 1 = (m : Int) := by omega
       have h1m : (1 : Int) < (m : Int) + 1 := by omega
       have hA : ∀ W : World, (Instr.slice 9 (.string (dzS t (g + 1))) none (some (.int .i64 m)) none).run Tryz.prog W = .ok (.string (dzS t g)) W := fun W => by
        rw [← hcut]
        exact run_slice_string_h W _ _ Tryz.underlying9 .i64 m (by omega) (by omega)
       have HGI := Lib.hid hgi
       have HMM := Lib.hid hm'
       clear hcut hm' h0 hgi
       generalize dzS t (g + 1) = d at *
       go_wp2_with fail
       go_roundg g
       case measure => omega
       case rel => exact ⟨by have := HGI.out; omega, rfl, rfl⟩
end Go.Proofs.YtckaoeloofbklaaGreatDoor
namespace Go.Proofs.YtckaoeloofbklaaGreatDoor
open Go Go.RowKit Go.Lib
theorem floatR_any (u : Nat) (w : World) (hu : u < 18446744073709551616) :
  Calls Tryz.prog 58 #[.int .u64 u] w fun e w' => e = .returned (.string ⟨(fltN u).toArray⟩) ∧ Below w.heap.size w w' := by
 have hlen := showB_len u
 have HS := Lib.hid (rshow_any u w hu)
 have hru : ru u = u % 9223372036854775808 := rfl
 obtain ⟨q, hq⟩ : ∃ q, ru u = q := ⟨_, rfl⟩
 have hinf : infU u = decide (9218868437227405312 ≤ q) := by unfold infU; rw [hq]
 have hq1 : (u : Int) % 9223372036854775808 = (q : Int) := by omega
 have hq2 : (u : Int).tmod 9223372036854775808 = (q : Int) := by rw [Int.tmod_eq_emod_of_nonneg (by omega)]; omega
 have hqb : q < 9223372036854775808 := by omega
 obtain ⟨L, hL⟩ : ∃ L, fltN u = L := ⟨_, rfl⟩
 have hL2 := hL
 unfold fltN at hL2
 rw [hL, hinf] at *
 obtain ⟨S, hS⟩ : ∃ S, showB u = S := ⟨_, rfl⟩
 unfold RsPost at HS
 rw [hS] at HS hL2 hlen
 have HL := Lib.hid hL2
 clear hL hL2 hru hq hinf hS
 go_enter Tryz.func58, Tryz.ntmps58
 go_wp2_with fail
 refine HS.out.mono ?_
 rintro e w1 ⟨rfl, hb1⟩
 have HB1 := Lib.hid hb1
 clear hb1 HS
 by_cases hi : 9218868437227405312 ≤ q
 ·have hi2 : (9218868437227405312 : Int) ≤ (q : Int) := by omega
  have hLv := HL.out
  rw [decide_eq_true hi, if_pos rfl] at hLv
  subst hLv
  clear HL
  go_wp2_with fail
  go_ret
  exact ⟨rfl, HB1.out⟩
 ·have hi2 : (q : Int) < 9218868437227405312 := by omega
  have hi3 := hi2
  have hLv := HL.out
  rw [decide_eq_false hi, if_neg (by decide)] at hLv
  have HL2 := Lib.hid hLv
  clear hLv HL hi hi3 hqb
  go_upto_if 9 with (fail)
  clear hq1 hq2
  have hdd : decide ((9218868437227405312 : Int) ≤ (q : Int)) = false := decide_eq_false (by omega)
  simp only [hdd]
  clear hi2 hdd
  go_upto_block 0 with fail
  go_wp2_with fail
  go_loopg [4] S.length (fun g s4 wr => ∃ i : Nat, i + g = S.length ∧ s4 = .int .i64 i ∧ (S.take i).any (fun c => c == 46 || c == 101) = false ∧ wr = w1)
  case atStart => exact ⟨0, by omega, rfl, rfl, rfl⟩
  case round =>
   obtain ⟨i, hig, rfl, hno, rfl⟩ := hrel
   have HNO := Lib.hid hno
   clear hno
   by_cases hlt : i < S.length
   ·have hlt2 : (i : Int) < (S.length : Int) := by omega
    obtain ⟨c, hc⟩ : ∃ c, S[i]? = some c := ⟨_, List.getElem?_eq_getElem hlt⟩
    have hlt3 : i < (⟨S.toArray⟩ : ByteArray).size := hlt
    have hix : (⟨S.toArray⟩ : ByteArray)[i] = c := by
     rw [List.getElem?_eq_getElem hlt] at hc
     exact Option.some.inj hc
    have hix2 : S[i] = c := hix
    have htk : S.take (i + 1) = S.take i ++ [c] := by rw [List.take_add_one, hc]; rfl
    have hmem : c ∈ S := List.mem_of_getElem? hc
    by_cases hp : c = 46 ∨ c = 101
    ·have hany : S.any (fun c => c == 46 || c == 101) = true := by
      rw [List.any_eq_true]
      exact ⟨c, hmem, by rcases hp with rfl | rfl <;> rfl⟩
     have hLv := HL2.out
     rw [if_pos hany] at hLv
     have HLV := Lib.hid hLv
     clear hany hLv HL2 htk hmem hc
     rcases hp with rfl | rfl
     ·go_wp2_with fail
      go_ret
      exact ⟨by rw [← HLV.out]; rfl, HB1.out⟩
     ·go_wp2_with fail
      go_ret
      exact ⟨by rw [← HLV.out]; rfl, HB1.out⟩
    ·have h46 : c ≠ 46 := fun e => hp (.inl e)
     have h101 : c ≠ 101 := fun e => hp (.inr e)
     have g46 : ¬ (c.toNat : Int) = 46 := fun e => h46 (UInt8.toNat_inj.1 (by show c.toNat = 46; omega))
     have g101 : ¬ (c.toNat : Int) = 101 := fun e => h101 (UInt8.toNat_inj.1 (by show c.toNat = 101; omega))
     have e46 : ((c.toNat : Int) == 46) = false := beq_eq_false_iff_ne.2 g46
     have e101 : ((c.toNat : Int) == 101) = false := beq_eq_false_iff_ne.2 g101
     have HTK : Hid ((S.take (i + 1)).any (fun c => c == 46 || c == 101) = false) := Lib.hid (by
      rw [htk, List.any_append, HNO.out]
      simp [h46, h101])
     clear htk hmem hc hp h46 h101
     go_wp2_with fail
     go_roundg (gk - 1)
     case measure => omega
     case rel => exact ⟨i + 1, by omega, by go_num, HTK.out, rfl⟩
   ·have hlt2 : ¬ (i : Int) < (S.length : Int) := by omega
    have hany := HNO.out
    rw [List.take_of_length_le (by omega)] at hany
    have hLv := HL2.out
    rw [if_neg (by rw [hany]; decide)] at hLv
    have HLV := Lib.hid hLv
    have hsum : ¬ 9223372036854775807 < S.length + 2 := by omega
    clear hany hLv HL2
    go_wp2_with fail
    go_ret
    exact ⟨by rw [← HLV.out, ← ba_app]; rfl, HB1.out⟩
end Go.Proofs.YtckaoeloofbklaaGreatDoor
namespace Go.Proofs.YtckaoeloofbklaaGreatDoor
open Go Go.RowKit Go.Lib
def ExRel (N : Nat) (g k : Nat) (l : List UInt8) : Prop := (l = [] ∧ k = N ∧ g = N + 1) ∨ (l ≠ [] ∧ g = k ∧ decDigits N = (if k = 0 then [] else decDigits k) ++ l)
theorem exrel_step (N g k : Nat) (l : List UInt8) (h : ExRel N g k l) (hc : 0 < k ∨ l = []) : ExRel N (k / 10) (k / 10) (UInt8.ofNat (48 + k % 10) :: l) ∧ k / 10 < g := by
 have hd : decDigits k = (if k / 10 = 0 then [] else decDigits (k / 10)) ++ [UInt8.ofNat (48 + k % 10)] := by
  rw [decDigits]
  split
  ·rename_i h; rw [if_pos (by omega), Nat.mod_eq_of_lt h]; rfl
  ·rename_i h; rw [if_neg (by omega)]
 rcases h with ⟨rfl, rfl, rfl⟩ | ⟨h1, rfl, h2⟩
 ·exact ⟨.inr ⟨by simp, rfl, hd⟩, by omega⟩
 ·have hk : 0 < g := hc.resolve_right h1
  refine ⟨.inr ⟨by simp, rfl, ?_⟩, by omega⟩
  rw [h2, if_neg (by omega), hd, List.append_assoc]; rfl
theorem exrel_end (N g : Nat) (l : List UInt8) (h : ExRel N g 0 l) (hl : l ≠ []) : l = decDigits N := by
 rcases h with ⟨h1, _⟩ | ⟨_, _, h2⟩
 ·exact absurd h1 hl
 ·rw [if_pos rfl, List.nil_append] at h2; exact h2.symm
theorem exrel_len (N g k : Nat) (l : List UInt8) (h : ExRel N g k l) : l.length ≤ (decDigits N).length := by
 rcases h with ⟨h1, _⟩ | ⟨_, _, h2⟩
 ·rw [h1]; exact Nat.zero_le _
 ·rw [h2, List.length_append]; omega
theorem integer_any (n : Int) (w : World) (hn : -9223372036854775808 ≤ n ∧ n ≤ 9223372036854775807) :
  Calls Tryz.prog 57 #[.int .i64 n] w fun e w' => e = .returned (.string ⟨(itoa n).toArray⟩) ∧ Below w.heap.size w w' := by
 obtain ⟨hn1, hn2⟩ := hn
 obtain ⟨N, hN⟩ : ∃ N, n.natAbs = N := ⟨_, rfl⟩
 have hNle : N ≤ 9223372036854775808 := by omega
 have hlen : (decDigits N).length ≤ 20 := by
  rw [decDigits_length]
  exact nd_le 19 _ (by omega)
 have HLEN := Lib.hid hlen
 obtain ⟨R, hR⟩ : ∃ R, itoa n = R := ⟨_, rfl⟩
 rw [hR]
 clear hlen
 rcases (show n < 0 ∨ 0 ≤ n by omega) with hneg | hneg
 ·obtain rfl : n = -(N : Int) := by omega
  have hRR := Lib.hid (show R = 45 :: decDigits N by rw [← hR]; exact itoa_neg N (by omega))
  have hnb : 1 ≤ N := by omega
  clear hR hN hn1 hn2
  go_enter Tryz.func57, Tryz.ntmps57
  go_wp2_with fail
  go_loopg [3, 4, 5] (N + 1) (fun g s3 s4 _ wr => ∃ (k : Nat) (l : List UInt8), ExRel N g k l ∧ k ≤ 9223372036854775808 ∧ l.length ≤ 20 ∧ s3 = .string ⟨l.toArray⟩ ∧ s4 = .int .i64 (-(k : Int)) ∧ Below w.heap.size w wr)
  case atStart => exact ⟨N, [], .inl ⟨rfl, rfl, rfl⟩, by omega, by simp, rfl, rfl, Below.refl _ _⟩
  case round =>
   obtain ⟨k, l, hr, hk, hl, rfl, rfl, hb⟩ := hrel
   have HB := Lib.hid hb
   have HR := Lib.hid hr
   clear hb hr
   by_cases hc : 0 < k ∨ l = []
   ·have hst := exrel_step N gk k l HR.out hc
    obtain ⟨d, hd⟩ : ∃ d, k % 10 = d := ⟨_, rfl⟩
    obtain ⟨k', hk'⟩ : ∃ k', k / 10 = k' := ⟨_, rfl⟩
    have hd10 : d < 10 := by omega
    rw [hd, hk'] at hst
    have HST := Lib.hid hst
    have hk10 : (k : Int) % 10 = (d : Int) := by omega
    have hk10b : (k : Int).tmod 10 = (d : Int) := by rw [Int.tmod_eq_emod_of_nonneg (by omega)]; omega
    have hkd : (k : Int).tdiv 10 = (k' : Int) := by rw [Int.tdiv_eq_ediv_of_nonneg (by omega)]; omega
    have hkd2 : (k : Int) / 10 = (k' : Int) := by omega
    have hn10 : (-(k : Int)).tmod 10 = -(d : Int) := by rw [Int.neg_tmod, hk10b]
    have hnd : (-(k : Int)).tdiv 10 = -(k' : Int) := by rw [Int.neg_tdiv, hkd]
    have hk'le : k' ≤ 922337203685477581 := by omega
    obtain ⟨c, hcd⟩ : ∃ c, UInt8.ofNat (48 + d) = c := ⟨_, rfl⟩
    have hct : ((c.toNat : Nat) : Int) = 48 + (d : Int) := by
     rw [← hcd, UInt8.toNat_ofNat', Nat.mod_eq_of_lt (show 48 + d < 2 ^ 8 by omega)]; push_cast; rfl
    have hds := fun W => str_of1 c W
    rw [hct] at hds
    rw [hcd] at HST
    have hcs := cons_str c l
    have hl2 : l.length + 1 ≤ 21 := by omega
    clear hd hk' hst hcd hct
    have hsz : (⟨l.toArray⟩ : ByteArray).size ≤ 20 := hl
    by_cases hk0 : 0 < k
    ·have hki : ¬ (k : Int) = 0 := by omega
     have hkj : ((k : Int) == 0) = false := beq_eq_false_iff_ne.2 hki
     have hkn : ¬ -(k : Int) = 0 := by omega
     have hkm : (-(k : Int) == 0) = false := beq_eq_false_iff_ne.2 hkn
     by_cases hd0 : d = 0
     ·subst hd0
      have hds0 : ∀ W : World, (convert 28 9 (.slice (some ⟨W.heap.size, 0, Option.none⟩) 1 1)).run Tryz.prog (W.alloc (.cells #[.int .u8 48] 5)) = .ok (.string ⟨#[c]⟩) (W.alloc (.cells #[.int .u8 48] 5)) := hds
      go_wp2_with fail
      go_roundg k'
      case measure => exact HST.out.2
      case rel => exact ⟨k', c :: l, HST.out.1, by omega, Nat.le_trans (exrel_len _ _ _ _ HST.out.1) HLEN.out, rfl, by first | rfl | go_num, HB.out.alloc HB.out.size _⟩
     ·have hdn : -(d : Int) < 0 := by omega
      go_wp2_with fail
      go_roundg k'
      case measure => exact HST.out.2
      case rel => exact ⟨k', c :: l, HST.out.1, by omega, Nat.le_trans (exrel_len _ _ _ _ HST.out.1) HLEN.out, rfl, by first | rfl | go_num, HB.out.alloc HB.out.size _⟩
    ·have hl0 : l = [] := hc.resolve_left hk0
     obtain rfl : k = 0 := by omega
     have hd0 : d = 0 := by omega
     have hk0' : k' = 0 := by omega
     subst hd0 hk0'
     have hds0 : ∀ W : World, (convert 28 9 (.slice (some ⟨W.heap.size, 0, Option.none⟩) 1 1)).run Tryz.prog (W.alloc (.cells #[.int .u8 48] 5)) = .ok (.string ⟨#[c]⟩) (W.alloc (.cells #[.int .u8 48] 5)) := hds
     have hle : l.isEmpty = true := by rw [hl0]; rfl
     have hcn := cons_str c []
     go_wp2_with fail
     go_roundg 0
     case measure => exact HST.out.2
     case rel => exact ⟨0, c :: l, HST.out.1, by omega, Nat.le_trans (exrel_len _ _ _ _ HST.out.1) HLEN.out, by rw [hl0] <;> first | rfl | (congr 1), by first | rfl | go_num, HB.out.alloc HB.out.size _⟩
   ·have hk0 : k = 0 := by omega
    have hl0 : l ≠ [] := fun h => hc (.inr h)
    subst hk0
    have HD := Lib.hid (exrel_end N gk l HR.out hl0)
    have hle : l.isEmpty = false := by cases l; exact absurd rfl hl0; rfl
    have hsz : (⟨l.toArray⟩ : ByteArray).size ≤ 20 := hl
    clear hc hl0
    have hcs := cons_str 45 l
    have hnz : -(N : Int) < 0 := by omega
    go_wp2_with fail
    go_ret
    exact ⟨by rw [hRR.out, ← HD.out]; rfl, HB.out⟩
 ·obtain rfl : n = (N : Int) := by omega
  have hRR := Lib.hid (show R = decDigits N by rw [← hR]; exact itoa_nonneg N)
  have hnb : N ≤ 9223372036854775807 := by omega
  have hng : ¬ (N : Int) < 0 := by omega
  clear hR hN hn1 hn2
  go_enter Tryz.func57, Tryz.ntmps57
  go_wp2_with fail
  go_loopg [3, 4, 5] (N + 1) (fun g s3 s4 _ wr => ∃ (k : Nat) (l : List UInt8), ExRel N g k l ∧ k ≤ 9223372036854775807 ∧ l.length ≤ 20 ∧ s3 = .string ⟨l.toArray⟩ ∧ s4 = .int .i64 ((k : Int)) ∧ Below w.heap.size w wr)
  case atStart => exact ⟨N, [], .inl ⟨rfl, rfl, rfl⟩, by omega, by simp, rfl, rfl, Below.refl _ _⟩
  case round =>
   obtain ⟨k, l, hr, hk, hl, rfl, rfl, hb⟩ := hrel
   have HB := Lib.hid hb
   have HR := Lib.hid hr
   clear hb hr
   by_cases hc : 0 < k ∨ l = []
   ·have hst := exrel_step N gk k l HR.out hc
    obtain ⟨d, hd⟩ : ∃ d, k % 10 = d := ⟨_, rfl⟩
    obtain ⟨k', hk'⟩ : ∃ k', k / 10 = k' := ⟨_, rfl⟩
    have hd10 : d < 10 := by omega
    rw [hd, hk'] at hst
    have HST := Lib.hid hst
    have hk10 : (k : Int) % 10 = (d : Int) := by omega
    have hk10b : (k : Int).tmod 10 = (d : Int) := by rw [Int.tmod_eq_emod_of_nonneg (by omega)]; omega
    have hkd : (k : Int).tdiv 10 = (k' : Int) := by rw [Int.tdiv_eq_ediv_of_nonneg (by omega)]; omega
    have hkd2 : (k : Int) / 10 = (k' : Int) := by omega
    have hk'le : k' ≤ 922337203685477581 := by omega
    obtain ⟨c, hcd⟩ : ∃ c, UInt8.ofNat (48 + d) = c := ⟨_, rfl⟩
    have hct : ((c.toNat : Nat) : Int) = 48 + (d : Int) := by
     rw [← hcd, UInt8.toNat_ofNat', Nat.mod_eq_of_lt (show 48 + d < 2 ^ 8 by omega)]; push_cast; rfl
    have hds := fun W => str_of1 c W
    rw [hct] at hds
    rw [hcd] at HST
    have hcs := cons_str c l
    have hl2 : l.length + 1 ≤ 21 := by omega
    clear hd hk' hst hcd hct
    have hsz : (⟨l.toArray⟩ : ByteArray).size ≤ 20 := hl
    have hdn : ¬ (d : Int) < 0 := by omega
    by_cases hk0 : 0 < k
    ·have hki : ¬ (k : Int) = 0 := by omega
     have hkj : ((k : Int) == 0) = false := beq_eq_false_iff_ne.2 hki
     go_wp2_with fail
     go_roundg k'
     case measure => exact HST.out.2
     case rel => exact ⟨k', c :: l, HST.out.1, by omega, Nat.le_trans (exrel_len _ _ _ _ HST.out.1) HLEN.out, rfl, by first | rfl | go_num, HB.out.alloc HB.out.size _⟩
    ·have hl0 : l = [] := hc.resolve_left hk0
     obtain rfl : k = 0 := by omega
     have hd0 : d = 0 := by omega
     have hk0' : k' = 0 := by omega
     subst hd0 hk0'
     have hds0 : ∀ W : World, (convert 28 9 (.slice (some ⟨W.heap.size, 0, Option.none⟩) 1 1)).run Tryz.prog (W.alloc (.cells #[.int .u8 48] 5)) = .ok (.string ⟨#[c]⟩) (W.alloc (.cells #[.int .u8 48] 5)) := hds
     have hle : l.isEmpty = true := by rw [hl0]; rfl
     have hcn := cons_str c []
     go_wp2_with fail
     go_roundg 0
     case measure => exact HST.out.2
     case rel => exact ⟨0, c :: l, HST.out.1, by omega, Nat.le_trans (exrel_len _ _ _ _ HST.out.1) HLEN.out, by rw [hl0] <;> first | rfl | (congr 1), by first | rfl | go_num, HB.out.alloc HB.out.size _⟩
   ·have hk0 : k = 0 := by omega
    have hl0 : l ≠ [] := fun h => hc (.inr h)
    subst hk0
    have HD := Lib.hid (exrel_end N gk l HR.out hl0)
    have hle : l.isEmpty = false := by cases l; exact absurd rfl hl0; rfl
    have hsz : (⟨l.toArray⟩ : ByteArray).size ≤ 20 := hl
    clear hc hl0
    go_wp2_with fail
    go_ret
    exact ⟨by rw [hRR.out, ← HD.out]; rfl, HB.out⟩
end Go.Proofs.YtckaoeloofbklaaGreatDoor
namespace Go.Proofs.YtckaoeloofbklaaGreatDoor
open Go Go.RowKit Go.Lib
theorem infoPt : (Tryz.prog.info? 77).map (fun i => (i.zero, i.size, i.bytes)) = some (some (.agg #[.int .i64 0, .int .i32 0]), 2, 16) := by kernel_rfl
def ptC (x : Nat × Nat) : List Value := [.int .i64 (x.1 : Int), .int .i32 (x.2 : Int)]
def PtRow (w W : World) (v : Value) (l : List (Nat × Nat)) : Prop := W.ownsRow w.heap.size 77 2 v l.length (l.flatMap ptC) ∧ Below w.heap.size w W
theorem PtRow.go {w W W' : World} {v : Value} {l : List (Nat × Nat)} (h : PtRow w W v l) (hb : Below W.heap.size W W') : PtRow w W' v l :=
 ⟨row_kept h.1 fun g hg => hb.block g (row_blk h.1 hg).2.1, h.2.trans (hb.mono h.2.size)⟩
theorem PtRow.form {w W : World} {v : Value} {l : List (Nat × Nat)} (h : PtRow w W v l) : ∃ ao cap, v = .slice ao l.length cap := by
 rcases h.1.2 with ⟨rfl, h0⟩ | ⟨g, cap, cur, rfl, _⟩
 ·exact ⟨_, _, by rw [h0]⟩
 ·exact ⟨_, _, rfl⟩
theorem PtRow.app {w W : World} {v : Value} {l : List (Nat × Nat)} (h : PtRow w W v l) (o r : Nat) (hl : l.length ≤ 100000000) :
  ∃ ao cap W', (Builtin.append_ #[74, 74] 74 #[v, .slice (some ⟨W.heap.size, 0, Option.none⟩) 1 1]).run Tryz.prog (W.alloc (.cells #[.int .i64 (o : Int), .int .i32 (r : Int)] 77)) = .ok (.slice ao (l ++ [(o, r)]).length cap) W' ∧ PtRow w W' (.slice ao (l ++ [(o, r)]).length cap) (l ++ [(o, r)]) := by
 obtain ⟨i, hi, hz0, hz1, hz2⟩ := info_parts infoPt
 have hA := h.go ((Below.refl W.heap.size W).alloc (Nat.le_refl _) (.cells #[.int .i64 (o : Int), .int .i32 (r : Int)] 77))
 have hbx := heap_alloc_new W (.cells #[.int .i64 (o : Int), .int .i32 (r : Int)] 77)
 generalize W.alloc (.cells #[.int .i64 (o : Int), .int .i32 (r : Int)] 77) = WA at *
 obtain ⟨v', W', h1, h2, h3, _⟩ := run_append_own_wide (P := Tryz.prog) WA w.heap.size 74 74 77 i _ 2 16 Tryz.underlying74 hi hz0 hz1 hz2 rfl (by decide) v l.length _ hA.1 ⟨W.heap.size, 0, Option.none⟩ 1 1 (ptC (o, r)) rfl (fun j u hu => by
  rw [show (⟨W.heap.size, 0, Option.none⟩ : Addr).add j = ⟨W.heap.size, 0 + j, Option.none⟩ from by unfold Addr.add; split <;> simp_all]
  rw [cell_of_row _ _ _ _ _ _ hbx]
  rw [Nat.zero_add, Array.getElem?_toList.symm]
  exact hu) (by intro u hu; simp [ptC] at hu; rcases hu with rfl | rfl <;> rfl) (by unfold maxLen; omega) (by omega) hA.2.size
 have hlen : (l ++ [(o, r)]).length = l.length + 1 := by simp
 have hfl : (l ++ [(o, r)]).flatMap ptC = l.flatMap ptC ++ ptC (o, r) := by simp
 have hB : Below w.heap.size w W' := hA.2.trans ⟨h3.os, h3.tape, h3.output, h3.size, fun k hk => h3.block k (Nat.lt_of_lt_of_le hk hA.2.size) (fun e => by
  have := (row_blk hA.1 e.symm).1
  omega)⟩
 have hR : PtRow w W' v' (l ++ [(o, r)]) := ⟨by rw [hlen, hfl]; exact h2, hB⟩
 obtain ⟨ao, cap, rfl⟩ := hR.form
 exact ⟨ao, cap, W', h1, hR⟩
theorem PtRow.cell {w W : World} {ao : Option Addr} {n cap : Nat} {l : List (Nat × Nat)} (h : PtRow w W (.slice ao n cap) l) (hl : 0 < l.length) :
  ∃ g, ao = some ⟨g, 0, Option.none⟩ ∧ n = l.length ∧ g < W.heap.size ∧ ∀ i x, l[i]? = some x → W.cell? ⟨g, i * 2 + 1, Option.none⟩ = some (.int .i32 (x.2 : Int)) := by
 rcases h.1.2 with ⟨_, h0⟩ | ⟨g, cap', cur, hv, hb, hg, h1, h2, h3, h4⟩
 ·omega
 ·simp only [Value.slice.injEq] at hv
  obtain ⟨rfl, rfl, rfl⟩ := hv
  refine ⟨g, rfl, rfl, (Array.getElem?_eq_some_iff.1 hg).1, fun i x hx => ?_⟩
  rw [cell_of_row _ _ _ _ _ _ hg]
  have key : ∀ (l : List (Nat × Nat)) (i : Nat), l[i]? = some x → (l.flatMap ptC)[i * 2 + 1]? = some (.int .i32 (x.2 : Int)) := by
   intro l
   induction l with
   | nil => intro i h; cases h
   | cons y r ih =>
    intro i h
    cases i with
    | zero =>
     simp at h
     subst h
     rfl
    | succ i =>
     have := ih i (by simpa using h)
     rw [List.flatMap_cons, show (i + 1) * 2 + 1 = (ptC y).length + (i * 2 + 1) by simp [ptC]; omega, List.getElem?_append_right (Nat.le_add_right _ _), Nat.add_sub_cancel_left]
     exact this
  have hk := key l i hx
  rw [← h4, List.getElem?_take] at hk
  split at hk
  ·rw [← Array.getElem?_toList]; exact hk
  ·cases hk
theorem pointsR_any (b : ByteArray) (w : World) (hs : b.size ≤ 100000000) :
  Calls Tryz.prog 38 #[.string b] w fun e w' => (∃ ao n cap, e = .returned (.slice ao n cap) ∧ PtRow w w' (.slice ao n cap) (ptsO 0 b.data.toList)) := by
 obtain ⟨l, hle⟩ : ∃ l, l = b.data.toList := ⟨_, rfl⟩
 have hls : l.length = b.size := by rw [hle]; simp
 have HP := Lib.hid (fun p (W : World) h => pieceR_any b p W h hs)
 rw [← hle] at HP ⊢
 have HLS := Lib.hid hls
 clear hle hls
 go_enter Tryz.func38, Tryz.ntmps38
 go_wp2_with fail
 go_loopg [3, 4, 5, 6, 7] b.size (fun g s3 s4 _ _ _ wr => ∃ (p : Nat) (ao : Option Addr) (n cap : Nat) (pre : List (Nat × Nat)), p + g = b.size ∧ s4 = .int .i64 p ∧ s3 = .slice ao n cap ∧ pre.length ≤ p ∧ PtRow w wr (.slice ao n cap) pre ∧ pre ++ ptsO p (l.drop p) = ptsO 0 l)
 case atStart => exact ⟨0, Option.none, 0, 0, [], by omega, rfl, rfl, Nat.le_refl _, ⟨⟨rfl, .inl ⟨rfl, rfl⟩⟩, Below.refl _ _⟩, rfl⟩
 case round =>
  obtain ⟨p, ao, n, cap, pre, hp, rfl, rfl, hpre, hrow, hpts⟩ := hrel
  have HROW := Lib.hid hrow
  have HPTS := Lib.hid hpts
  clear hrow hpts
  by_cases hlt : p < b.size
  ·have hlt2 : (p : Int) < (b.size : Int) := by omega
   have hpl : p < l.length := by rw [HLS.out]; exact hlt
   obtain ⟨c, t, hct⟩ : ∃ c t, l.drop p = c :: t := ⟨_, _, List.drop_eq_getElem_cons hpl⟩
   have hcl := ptsO_cons p c t
   have hpl2 := piece_len c t
   have htl : t.length + 1 = b.size - p := by
    have := congrArg List.length hct
    rw [List.length_drop, List.length_cons, HLS.out] at this
    omega
   have hdd : (c :: t).drop (pieceN (c :: t)).1 = l.drop (p + (pieceN (c :: t)).1) := by rw [← hct, List.drop_drop]
   rw [hdd] at hcl
   have HC := Lib.hid (HP.out p wr hlt)
   rw [hct] at HC
   have hsc := scal_le (ptR_scal c t)
   have hpr : (if (pieceN (c :: t)).2 then (Go.Lib.decodeL (c :: t)).1 else 65533) = ptR (c :: t) := rfl
   rw [hpr] at hcl
   have hpts := HPTS.out
   rw [hct, hcl] at hpts
   generalize ptR (c :: t) = R at *
   obtain ⟨N, hN⟩ : ∃ N, (pieceN (c :: t)).1 = N := ⟨_, rfl⟩
   rw [hN] at HC hpts hpl2
   generalize (pieceN (c :: t)).2 = ok at *
   have hN1 := hpl2.1
   have hN2 : p + N ≤ b.size := by omega
   have HH : Hid ((pre ++ [(p, R)]) ++ ptsO (p + N) (l.drop (p + N)) = ptsO 0 l) := Lib.hid (by rw [List.append_assoc]; exact hpts)
   clear hcl hpl2 htl hdd hpr hpts HPTS hct hN
   go_wp2_with fail
   refine HC.out.mono ?_
   rintro e w5 ⟨rfl, hb5⟩
   obtain ⟨ao2, cap2, w6, hr6, hp6⟩ := (HROW.out.go hb5).app p R (by omega)
   have hll : (pre ++ [(p, R)]).length = pre.length + 1 := by simp
   generalize (pre ++ [(p, R)]).length = n2 at *
   have HR6 := Lib.hid hr6
   have HP6 := Lib.hid hp6
   clear hr6 hp6 hb5 HC HROW
   go_wp2_with (first | (at_builtin; refine Lib.wpList_append_run _ rfl _ _ _ _ rfl _ _ rfl rfl _ _ HR6.out ?_) | fail)
   go_roundg (b.size - (p + N))
   case measure => omega
   case rel => exact ⟨p + N, ao2, n2, cap2, pre ++ [(p, R)], by omega, by go_num, by first | rfl | rw [hll], by rw [List.length_append, List.length_singleton]; omega, HP6.out, HH.out⟩
  ·have hlt2 : ¬ (p : Int) < (b.size : Int) := by omega
   have hpts := HPTS.out
   rw [List.drop_eq_nil_of_le (by rw [HLS.out]; omega), ptsO_nil, List.append_nil] at hpts
   have HH := Lib.hid hpts
   clear hpts HPTS
   go_wp2_with fail
   go_ret
   exact ⟨_, _, _, rfl, by rw [← HH.out]; exact HROW.out⟩
end Go.Proofs.YtckaoeloofbklaaGreatDoor
namespace Go.Proofs.YtckaoeloofbklaaGreatDoor
open Go Go.RowKit Go.Lib
theorem PtRow.len {w W : World} {ao : Option Addr} {n cap : Nat} {l : List (Nat × Nat)} (h : PtRow w W (.slice ao n cap) l) : n = l.length := by
 obtain ⟨ao', cap', e⟩ := h.form
 simp only [Value.slice.injEq] at e
 exact e.2.1
theorem hex_slice (q : Nat) (h : q < 16) (W : World) : (Instr.slice 9 (.string (⟨#[48, 49, 50, 51, 52, 53, 54, 55, 56, 57, 97, 98, 99, 100, 101, 102]⟩ : ByteArray)) (some (.int .i64 (q : Int))) (some (.int .i64 ((q : Int) + 1))) Option.none).run Tryz.prog W = .ok (.string ⟨#[hexD q]⟩) W := by
 have hz : ((⟨#[48, 49, 50, 51, 52, 53, 54, 55, 56, 57, 97, 98, 99, 100, 101, 102]⟩ : ByteArray) : ByteArray).size = 16 := rfl
 have h2 := run_slice_string (P := Tryz.prog) W 9 ((⟨#[48, 49, 50, 51, 52, 53, 54, 55, 56, 57, 97, 98, 99, 100, 101, 102]⟩ : ByteArray) : ByteArray) .i64 .i64 q ((q : Int) + 1) Tryz.underlying9 (by omega) (by omega) (by omega)
 have h3 : ((⟨#[48, 49, 50, 51, 52, 53, 54, 55, 56, 57, 97, 98, 99, 100, 101, 102]⟩ : ByteArray) : ByteArray).extract (Int.toNat (q : Int)) (Int.toNat ((q : Int) + 1)) = ⟨#[hexD q]⟩ := by
  apply ByteArray.ext
  apply Array.toList_inj.1
  rw [show Int.toNat (q : Int) = q by omega, show Int.toNat ((q : Int) + 1) = q + 1 by omega]
  rw [ByteArray.data_extract, Array.toList_extract, List.extract_eq_take_drop]
  have ht := hexD_tab ⟨q, h⟩
  simp only at ht
  have hq : q < ((⟨#[48, 49, 50, 51, 52, 53, 54, 55, 56, 57, 97, 98, 99, 100, 101, 102]⟩ : ByteArray) : ByteArray).data.toList.length := h
  rw [List.getElem?_eq_getElem hq] at ht
  rw [show q + 1 - q = 1 by omega, List.drop_eq_getElem_cons hq, Option.some.inj ht]
  rfl
 rw [h3] at h2
 exact h2
def quoOf (ps : List (Nat × Nat)) : List UInt8 := 34 :: (ps.map (·.2)).flatMap quoR
theorem quoOf_len (ps : List (Nat × Nat)) : (quoOf ps).length ≤ 6 * ps.length + 1 := by
 have := quoRs_len (ps.map (·.2))
 rw [List.length_map] at this
 unfold quoOf
 rw [List.length_cons]
 omega
theorem quoteR_any (b : ByteArray) (w : World) (hs : b.size ≤ 10000000) :
  Calls Tryz.prog 18 #[.string b] w fun e w' => e = .returned (.string ⟨(quoL b.data.toList).toArray⟩) ∧ Below w.heap.size w w' := by
 have HP := Lib.hid (pointsR_any b w (by omega))
 obtain ⟨ps, hps⟩ : ∃ ps, ps = ptsO 0 b.data.toList := ⟨_, rfl⟩
 have hsn : ps.map (·.2) = pts b.data.toList := by rw [hps]; exact ptsO_pts 0 _
 have hpl : ps.length ≤ b.size := by
  rw [hps, ptsO_len]
  exact Nat.le_trans (pts_len _) (Nat.le_of_eq (by simp))
 have hsc : ∀ (i : Nat) (x : Nat × Nat), ps[i]? = some x → Scal x.2 := fun i x hx => pts_scals b.data.toList x.2 (by rw [← hsn]; exact List.mem_map.2 ⟨x, List.mem_of_getElem? hx, rfl⟩)
 have hq : quoL b.data.toList = quoOf ps ++ [34] := by unfold quoOf; rw [hsn]; rfl
 generalize quoL b.data.toList = Z at *
 have HZ := Lib.hid hq
 rw [← hps] at HP
 have HSC := Lib.hid hsc
 clear hq hsn hps hsc
 go_enter Tryz.func18, Tryz.ntmps18
 go_wp2_with fail
 refine HP.out.mono ?_
 rintro e w1 ⟨ao, n, cap, rfl, hrow⟩
 have hn := hrow.len
 have HROW := Lib.hid hrow
 have HN := Lib.hid hn
 have hnb : n ≤ 10000000 := by omega
 clear hrow hn HP
 go_wp2_with fail
 go_loopg [4, 5, 6, 7] n (fun g s4 s5 _ _ wr => ∃ i : Nat, i + g = n ∧ s5 = .int .i64 i ∧ s4 = .string ⟨(quoOf (ps.take i)).toArray⟩ ∧ Below w1.heap.size w1 wr)
 case atStart => exact ⟨0, by omega, rfl, rfl, Below.refl _ _⟩
 case round =>
  obtain ⟨i, hi, rfl, rfl, hbw⟩ := hrel
  have HBW := Lib.hid hbw
  have hQl : (quoOf (ps.take i)).length ≤ 6 * b.size + 1 := by
   have := quoOf_len (ps.take i)
   rw [List.length_take] at this
   omega
  clear hbw
  by_cases hlt : i < n
  ·have hlt2 : (i : Int) < (n : Int) := by omega
   have hil : i < ps.length := by rw [← HN.out]; exact hlt
   obtain ⟨x, hx⟩ : ∃ x, ps[i]? = some x := ⟨_, List.getElem?_eq_getElem hil⟩
   obtain ⟨g, hao, -, hgw, hcell⟩ := HROW.out.cell (by omega)
   have c1 := hcell i x hx
   have hgr : g < wr.heap.size := Nat.lt_of_lt_of_le hgw HBW.out.size
   rw [← HBW.out.cell (p := ⟨g, i * 2 + 1, Option.none⟩) hgw] at c1
   have hsc := HSC.out i x hx
   have htk : quoOf (ps.take (i + 1)) = quoOf (ps.take i) ++ quoR x.2 := by
    rw [List.take_add_one, hx]
    simp [quoOf]
   have HTK := Lib.hid htk
   have hrl := scal_le hsc
   have HBY := Lib.hid (fun W => bytesR_any x.2 W hsc)
   have hna := not_asIs x.2
   have hquo : quoR x.2 = if asIsN x.2 = true then enc x.2 else 92 :: 117 :: hex4L x.2 := rfl
   rw [hquo] at HTK
   generalize quoOf (ps.take i) = Q at *
   generalize x.2 = r at *
   have HNA := Lib.hid hna
   obtain ⟨A, hA⟩ : ∃ A, A = asIsN r := ⟨_, rfl⟩
   have HAS := Lib.hid hA
   clear hA
   subst hao
   have hqs : (⟨Q.toArray⟩ : ByteArray).size ≤ 100000000 := by show Q.length ≤ _; omega
   clear hcell hx hsc hil hgw htk hquo hna hQl
   go_upto_region 7 with fail
   go_cut [58] from 21 to 58 (fun s58 wx => s58 = .bool (!A) ∧ wx = wr)
   case first =>
    by_cases h0 : r = 127
    ·subst h0
     obtain rfl : A = false := HAS.out.trans (by decide)
     go_wp2_with fail
     go_meet
     exact ⟨rfl, rfl⟩
    by_cases h1 : r = 34
    ·subst h1
     obtain rfl : A = false := HAS.out.trans (by decide)
     go_wp2_with fail
     go_meet
     exact ⟨rfl, rfl⟩
    by_cases h2 : r = 92
    ·subst h2
     obtain rfl : A = false := HAS.out.trans (by decide)
     go_wp2_with fail
     go_meet
     exact ⟨rfl, rfl⟩
    by_cases h3 : r = 60
    ·subst h3
     obtain rfl : A = false := HAS.out.trans (by decide)
     go_wp2_with fail
     go_meet
     exact ⟨rfl, rfl⟩
    by_cases h4 : r = 62
    ·subst h4
     obtain rfl : A = false := HAS.out.trans (by decide)
     go_wp2_with fail
     go_meet
     exact ⟨rfl, rfl⟩
    by_cases h5 : r = 38
    ·subst h5
     obtain rfl : A = false := HAS.out.trans (by decide)
     go_wp2_with fail
     go_meet
     exact ⟨rfl, rfl⟩
    by_cases h6 : r = 39
    ·subst h6
     obtain rfl : A = false := HAS.out.trans (by decide)
     go_wp2_with fail
     go_meet
     exact ⟨rfl, rfl⟩
    by_cases h7 : r = 8232
    ·subst h7
     obtain rfl : A = false := HAS.out.trans (by decide)
     go_wp2_with fail
     go_meet
     exact ⟨rfl, rfl⟩
    by_cases h8 : r = 8233
    ·subst h8
     obtain rfl : A = false := HAS.out.trans (by decide)
     go_wp2_with fail
     go_meet
     exact ⟨rfl, rfl⟩
    have e0 : ((r : Int) == 127) = false := by rw [beq_eq_false_iff_ne]; omega
    have e1 : ((r : Int) == 34) = false := by rw [beq_eq_false_iff_ne]; omega
    have e2 : ((r : Int) == 92) = false := by rw [beq_eq_false_iff_ne]; omega
    have e3 : ((r : Int) == 60) = false := by rw [beq_eq_false_iff_ne]; omega
    have e4 : ((r : Int) == 62) = false := by rw [beq_eq_false_iff_ne]; omega
    have e5 : ((r : Int) == 38) = false := by rw [beq_eq_false_iff_ne]; omega
    have e6 : ((r : Int) == 39) = false := by rw [beq_eq_false_iff_ne]; omega
    have e7 : ((r : Int) == 8232) = false := by rw [beq_eq_false_iff_ne]; omega
    have e8 : ((r : Int) == 8233) = false := by rw [beq_eq_false_iff_ne]; omega
    by_cases h : 32 ≤ r
    ·have hv : asIsN r = true := by unfold asIsN; simp [*]
     obtain rfl : A = true := HAS.out.trans hv
     clear hv
     have hge : ¬ (r : Int) < 32 := by omega
     go_wp2_with fail
     go_meet
     exact ⟨rfl, rfl⟩
    ·have hv : asIsN r = false := by unfold asIsN; simp [h]
     obtain rfl : A = false := HAS.out.trans hv
     clear hv
     have hge : (r : Int) < 32 := by omega
     go_wp2_with fail
     go_meet
     exact ⟨rfl, rfl⟩
   case rest =>
    obtain ⟨rfl, rfl⟩ := hcut
    cases A with
    | true =>
     have has := HAS.out.symm
     have htk := HTK.out
     rw [has, if_pos rfl] at htk
     have HTQ := Lib.hid htk
     have hes : (⟨(enc r).toArray⟩ : ByteArray).size ≤ 4 := (enc_len r).2
     clear htk HTK has HNA HAS
     go_wp2_with fail
     refine (HBY.out _).mono ?_
     rintro e w5 ⟨rfl, hb5⟩
     have HB5 := Lib.hid (HBW.out.trans (hb5.mono HBW.out.size))
     clear hb5
     go_wp2_with fail
     go_roundg (gk - 1)
     case measure => omega
     case rel => exact ⟨i + 1, by omega, by go_num, by rw [HTQ.out]; refine congrArg Value.string (ByteArray.ext (Array.toList_inj.1 ?_)); simp [ByteArray.data_append], HB5.out⟩
    | false =>
     have has := HAS.out.symm
     have hr8 := HNA.out has
     have htk := HTK.out
     rw [has, if_neg (by decide)] at htk
     have HTQ := Lib.hid htk
     clear htk HTK has HNA HAS
     obtain ⟨q3, hq3⟩ : ∃ q, r / 4096 = q := ⟨_, rfl⟩
     obtain ⟨p2, hp2⟩ : ∃ q, r / 256 = q := ⟨_, rfl⟩
     obtain ⟨q2, hq2⟩ : ∃ q, p2 % 16 = q := ⟨_, rfl⟩
     obtain ⟨p1, hp1⟩ : ∃ q, r / 16 = q := ⟨_, rfl⟩
     obtain ⟨q1, hq1⟩ : ∃ q, p1 % 16 = q := ⟨_, rfl⟩
     obtain ⟨q0, hq0⟩ : ∃ q, r % 16 = q := ⟨_, rfl⟩
     have hx4 : hex4L r = [hexD q3, hexD q2, hexD q1, hexD q0] := by
      unfold hex4L
      rw [hq3, hp2, hp1, hq0, hq2, hq1, Nat.mod_eq_of_lt (show q3 < 16 by omega)]
     have HX := Lib.hid hx4
     have t3 : (r : Int).tdiv 4096 = (q3 : Int) := by rw [Int.tdiv_eq_ediv_of_nonneg (by omega)]; omega
     have t2 : (r : Int).tdiv 256 = (p2 : Int) := by rw [Int.tdiv_eq_ediv_of_nonneg (by omega)]; omega
     have u2 : (p2 : Int).tmod 16 = (q2 : Int) := by rw [Int.tmod_eq_emod_of_nonneg (by omega)]; omega
     have t1 : (r : Int).tdiv 16 = (p1 : Int) := by rw [Int.tdiv_eq_ediv_of_nonneg (by omega)]; omega
     have u1 : (p1 : Int).tmod 16 = (q1 : Int) := by rw [Int.tmod_eq_emod_of_nonneg (by omega)]; omega
     have u0 : (r : Int).tmod 16 = (q0 : Int) := by rw [Int.tmod_eq_emod_of_nonneg (by omega)]; omega
     have t3b : (r : Int) / 4096 = (q3 : Int) := by omega
     have t2b : (r : Int) / 256 = (p2 : Int) := by omega
     have u2b : (p2 : Int) % 16 = (q2 : Int) := by omega
     have t1b : (r : Int) / 16 = (p1 : Int) := by omega
     have u1b : (p1 : Int) % 16 = (q1 : Int) := by omega
     have u0b : (r : Int) % 16 = (q0 : Int) := by omega
     have k3 : q3 ≤ 15 := by omega
     have k2 : q2 ≤ 15 := by omega
     have k1 : q1 ≤ 15 := by omega
     have k0 : q0 ≤ 15 := by omega
     have k5 : p2 ≤ 100 := by omega
     have k6 : p1 ≤ 1000 := by omega
     have w3 : IntKind.i64.wrap ((q3 : Int) + 1) = (q3 : Int) + 1 := by rw [IntKind.wrap_i64]; omega
     have w2 : IntKind.i64.wrap ((q2 : Int) + 1) = (q2 : Int) + 1 := by rw [IntKind.wrap_i64]; omega
     have w1' : IntKind.i64.wrap ((q1 : Int) + 1) = (q1 : Int) + 1 := by rw [IntKind.wrap_i64]; omega
     have w0 : IntKind.i64.wrap ((q0 : Int) + 1) = (q0 : Int) + 1 := by rw [IntKind.wrap_i64]; omega
     have s3 := hex_slice q3 (by omega)
     have s2 := hex_slice q2 (by omega)
     have s1 := hex_slice q1 (by omega)
     have s0 := hex_slice q0 (by omega)
     have hql : Q.length ≤ 100000000 := hqs
     have z1 : ¬ 9223372036854775807 < Q.length + 2 + 1 := by omega
     have z2 : ¬ 9223372036854775807 < Q.length + 2 + 1 + 1 := by omega
     have z3 : ¬ 9223372036854775807 < Q.length + 2 + 1 + 1 + 1 := by omega
     have z4 : ¬ 9223372036854775807 < Q.length + 2 + 1 + 1 + 1 + 1 := by omega
     clear hq3 hp2 hq2 hp1 hq1 hq0 hx4
     go_wp2_with fail
     go_quiet (fail)
     go_wp2_with fail
     go_roundg (gk - 1)
     case measure => omega
     case rel => exact ⟨i + 1, by omega, by go_num, by rw [HTQ.out, HX.out]; refine congrArg Value.string (ByteArray.ext (Array.toList_inj.1 ?_)); simp [ByteArray.data_append], by first | exact HBW.out | exact HBW.out.drew | exact bDrewN HBW.out _⟩
  ·have hlt2 : ¬ (i : Int) < (n : Int) := by omega
   have htk : ps.take i = ps := List.take_of_length_le (by rw [← HN.out]; omega)
   rw [htk]
   rw [htk] at hQl
   have HLQ := Lib.hid hQl
   clear htk hQl
   have hz := HZ.out
   generalize quoOf ps = Q at *
   have HZ2 := Lib.hid hz
   clear hz HZ
   have hqs : (⟨Q.toArray⟩ : ByteArray).size ≤ 100000000 := by have := HLQ.out; show Q.length ≤ _; omega
   have z0 : (⟨#[34]⟩ : ByteArray).size = 1 := rfl
   go_wp2_with fail
   go_ret
   exact ⟨by rw [HZ2.out]; refine congrArg (fun z => Ending.returned (Value.string z)) (ByteArray.ext (Array.toList_inj.1 ?_)); simp [ByteArray.data_append], HROW.out.2.trans (HBW.out.mono HROW.out.2.size)⟩
end Go.Proofs.YtckaoeloofbklaaGreatDoor
