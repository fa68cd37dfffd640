/- Joined texts: Jr Js Kp Oh. Each begins with its own remark. -/
import Derived.Test.YtckaoeloofbklaaGreatDoorWn
import Derived.Test.YtckaoeloofbklaaGreatDoorWi
import Derived.Test.YtckaoeloofbklaaGreatDoorWj
import Derived.Test.YtckaoeloofbklaaGreatDoorWs
set_option maxRecDepth 100000
set_option maxHeartbeats 8000000
namespace Go.Proofs.YtckaoeloofbklaaGreatDoor
open Go Go.RowKit Go.Lib
theorem textJ_any (r : Nat) (s : ByteArray) (t out t' : List UInt8) (d : Nat) (w : World) (h : Rd r s (34 :: t) d w) (h17 : 17 ≤ r) (hT : Lib.Utf8Tabs 0 1 w) (hs : Str decB8 enc t out t') :
  Calls Tryz.prog 50 #[.pointer (some ⟨r, 0, none⟩)] w (ValOk r s d w (jStr ⟨out.toArray⟩) t') := by
 have hal := h.alloc (.cells #[.int .u8 0, .bool false, .int .i64 0, .int .u64 0, .string ⟨#[]⟩, .slice none 0 0, .slice none 0 0] 27)
 have hnew := heap_alloc_new w (.cells #[.int .u8 0, .bool false, .int .i64 0, .int .u64 0, .string ⟨#[]⟩, .slice none 0 0, .slice none 0 0] 27)
 have hkr := (KR.refl r w).alloc (.cells #[.int .u8 0, .bool false, .int .i64 0, .int .u64 0, .string ⟨#[]⟩, .slice none 0 0, .slice none 0 0] 27)
 have hrl := h.lt
 have HR := Lib.hid (quoted_any r s t out t' d _ hal h17 (utabs_kept hT (hkr.low' h17 (by omega))) hs)
 have HN := Lib.hid hnew
 have HKR := Lib.hid hkr
 clear h hal hnew hkr
 go_enter Tryz.func50, Tryz.ntmps50
 go_wp2_with fail
 refine HR.out.mono ?_
 rintro e w1 ⟨rfl, hrd, hkr⟩
 have hn1 := (hkr.block w.heap.size (by simp) (by omega)).trans HN.out
 obtain ⟨n0, n1, n2, n3, n4, n5, n6⟩ := cell_agg7 hn1
 have q : ∀ j, w1.frozen? ⟨w.heap.size, j, none⟩ = false := fun j => froz_agg hn1 j
 have HRD := Lib.hid hrd
 have HK1 := Lib.hid hkr
 have HN1 := Lib.hid hn1
 clear hrd hkr hn1
 go_wp2_with fail
 show bodyPost _ _ _ _ _ (set7 w1 w.heap.size (.int .u8 5) (.bool false) (.int .i64 0) (.int .u64 0) (.string ⟨out.toArray⟩) (.slice none 0 0) (.slice none 0 0))
 have hF := seven_set HN1.out (.int .u8 5) (.bool false) (.int .i64 0) (.int .u64 0) (.string ⟨out.toArray⟩) (.slice none 0 0) (.slice none 0 0)
 have hok := fun e he => set7_ok (e := e) (k := 5) (b := false) (n := 0) (u := 0) (x := ⟨out.toArray⟩) (p := w.heap.size) he (HKR.out.trans HK1.out) HRD.out (Nat.le_refl _) hrl (.int .u8 5) (.bool false) (.int .i64 0) (.int .u64 0) (.string ⟨out.toArray⟩) (.slice none 0 0) (.slice none 0 0)
 unfold set7 at hok ⊢
 generalize ((((((w1.setCell ⟨w.heap.size, 0, none⟩ (.int .u8 5)).setCell ⟨w.heap.size, 1, none⟩ (.bool false)).setCell ⟨w.heap.size, 2, none⟩ (.int .i64 0)).setCell ⟨w.heap.size, 3, none⟩ (.int .u64 0)).setCell ⟨w.heap.size, 4, none⟩ (.string ⟨out.toArray⟩)).setCell ⟨w.heap.size, 5, none⟩ (.slice none 0 0)).setCell ⟨w.heap.size, 6, none⟩ (.slice none 0 0) = F at *
 obtain ⟨g0, g1, g2, g3, g4, g5, g6⟩ := cell_agg7 hF
 refine bodyPost_ret (v := atomV 5 false 0 0 ⟨out.toArray⟩) (by simp [results, Tryz.results50, go_sem, atomV, g0, g1, g2, g3, g4, g5, g6]) rfl ?_
 exact hok _ rfl
theorem digs_is : ∀ c : UInt8, (([48, 49, 50, 51, 52, 53, 54, 55, 56, 57] : List UInt8)).contains c = isDgB c := by
 intro c
 have key : ∀ c : Fin 256, (([48, 49, 50, 51, 52, 53, 54, 55, 56, 57] : List UInt8)).contains (UInt8.ofNat c.val) = isDgB (UInt8.ofNat c.val) := by decide +kernel
 have := key ⟨c.toNat, c.toNat_lt⟩
 simpa only [UInt8.ofNat_toNat] using this
theorem drop_digs : ∀ (D u : List UInt8), D.all isDgB = true → Ends isDgB u → (D ++ u).dropWhile isDgB = u
 | [], [], _, _ => rfl
 | [], c :: u, _, h => by
  have h : isDgB c = false := h
  rw [List.nil_append, List.dropWhile_cons, if_neg (by rw [h]; decide)]
 | c :: D, u, h, hu => by
  rw [List.all_cons, Bool.and_eq_true] at h
  rw [List.cons_append, List.dropWhile_cons, if_pos h.1]
  exact drop_digs D u h.2 hu
theorem digits_any (c : UInt8) (D u : List UInt8) (hc : isDgB c = true) (hD : D.all isDgB = true) (hu : Ends isDgB u) (w : World) :
  Calls Tryz.prog 116 #[.string ⟨(c :: D ++ u).toArray⟩] w fun e w' => e = .returned (.tuple #[.string ⟨u.toArray⟩, .bool true]) ∧ Below w.heap.size w w' := by
 have ht := trim_left ⟨(c :: D ++ u).toArray⟩ (⟨#[48, 49, 50, 51, 52, 53, 54, 55, 56, 57]⟩ : ByteArray) w (by decide) (by decide)
 rw [show (fun x => ((⟨#[48, 49, 50, 51, 52, 53, 54, 55, 56, 57]⟩ : ByteArray)).data.toList.contains x) = isDgB from funext digs_is] at ht
 rw [show (⟨(c :: D ++ u).toArray⟩ : ByteArray).data.toList = c :: D ++ u from rfl, drop_digs (c :: D) u (by rw [List.all_cons, hc, hD]; rfl) hu] at ht
 have HT := Lib.hid ht
 clear ht
 have hne : (u == c :: (D ++ u)) = false := by
  rw [beq_eq_false_iff_ne]
  intro e
  have := congrArg List.length e
  simp only [List.length_append, List.length_cons] at this
  omega
 go_enter Tryz.func116, Tryz.ntmps116
 go_wp2_with fail
 refine HT.out.mono ?_
 rintro e w1 ⟨rfl, hb⟩
 go_wp2_with fail
 go_ret2
 exact ⟨by simp, hb⟩
structure NumT (l : List UInt8) (c : UInt8) (W fr ex : List UInt8) : Prop where
 eq : l = c :: W ++ (fr ++ ex)
 hc : isDgB c = true
 hw : W.all isDgB = true
 z : c = 48 → W = []
 fr : fr = [] ∨ ∃ x F, fr = 46 :: x :: F ∧ isDgB x = true ∧ F.all isDgB = true
 ex : ex = [] ∨ ∃ sg x X, ex = 101 :: sg :: x :: X ∧ (sg = 43 ∨ sg = 45) ∧ isDgB x = true ∧ X.all isDgB = true
theorem cut_no (l : List UInt8) (w : World) (h : ∀ t, l ≠ 46 :: t) : Calls Tryz.prog 117 #[.string ⟨l.toArray⟩, .string (⟨#[46]⟩ : ByteArray)] w fun e w' => e = .returned (.tuple #[.string ⟨l.toArray⟩, .bool false]) ∧ w' = w := by
 have := Tryz.strings_CutPrefix ⟨l.toArray⟩ (⟨#[46]⟩ : ByteArray) w
 rw [show (⟨l.toArray⟩ : ByteArray).data.toList = l from rfl, show ((⟨#[46]⟩ : ByteArray) : ByteArray).data.toList = [46] from rfl] at this
 have hp : Lib.hasPrefix l [46] = false := by
  cases l with
  | nil => rfl
  | cons c t =>
   have : c ≠ 46 := by rintro rfl; exact h t rfl
   have : ¬ (46 = c) := fun e => this e.symm
   simp [Lib.hasPrefix, List.isPrefixOf, this]
 have ht : Lib.trimPrefix l [46] = l := by simp [Lib.trimPrefix, hp]
 rwa [hp, ht] at this
theorem cut_yes (l : List UInt8) (w : World) : Calls Tryz.prog 117 #[.string ⟨(46 :: l).toArray⟩, .string (⟨#[46]⟩ : ByteArray)] w fun e w' => e = .returned (.tuple #[.string ⟨l.toArray⟩, .bool true]) ∧ w' = w := by
 have := Tryz.strings_CutPrefix ⟨(46 :: l).toArray⟩ (⟨#[46]⟩ : ByteArray) w
 rw [show (⟨(46 :: l).toArray⟩ : ByteArray).data.toList = 46 :: l from rfl, show ((⟨#[46]⟩ : ByteArray) : ByteArray).data.toList = [46] from rfl] at this
 have hp : Lib.hasPrefix (46 :: l) [46] = true := by simp [Lib.hasPrefix]
 have ht : Lib.trimPrefix (46 :: l) [46] = l := by simp [Lib.trimPrefix, hp]
 rwa [hp, ht] at this
theorem sign_any (sg : UInt8) (h : sg = 43 ∨ sg = 45) (W : World) : ∃ z : Int, 0 ≤ z ∧ Calls Tryz.prog 118 #[.string (⟨#[43, 45]⟩ : ByteArray), .int .u8 (sg.toNat : Int)] W fun e w' => e = .returned (.int .i64 z) ∧ w' = W := by
 refine ⟨_, ?_, Tryz.strings_IndexByte (⟨#[43, 45]⟩ : ByteArray) (sg.toNat : Int) W⟩
 rcases h with rfl | rfl <;> decide
theorem sl1 (c : UInt8) (t : List UInt8) (_h : (c :: t).length ≤ 1000000) : ∀ W, (Instr.slice 9 (.string ⟨(c :: t).toArray⟩) (some (.int .i64 1)) Option.none Option.none).run Tryz.prog W = .ok (.string ⟨t.toArray⟩) W := fun W => by
 have hs : (⟨(c :: t).toArray⟩ : ByteArray).size = (c :: t).length := rfl
 have := run_slice_string_l W 9 ⟨(c :: t).toArray⟩ Tryz.underlying9 .i64 1 (by decide) (by rw [hs, List.length_cons]; omega)
 have he : (⟨(c :: t).toArray⟩ : ByteArray).extract 1 (⟨(c :: t).toArray⟩ : ByteArray).size = ⟨t.toArray⟩ := by
  apply ByteArray.ext
  apply Array.toList_inj.1
  rw [ext_drop]
  rfl
 rw [show (Int.toNat 1) = 1 from rfl, he] at this
 exact this
theorem formed_any (ng : Bool) (l : List UInt8) (c : UInt8) (W fr ex : List UInt8) (h : NumT l c W fr ex) (w : World) (hl : l.length ≤ 100000) :
  Calls Tryz.prog 81 #[.string ⟨(sgB ng ++ l).toArray⟩] w fun e w' => e = .returned (.tuple #[.bool true, .bool (fr ++ ex).isEmpty]) ∧ Below w.heap.size w w' := by
 obtain ⟨rfl, hc, hw, hz, hf, he⟩ := h
 have h1 := Tryz.strings_TrimPrefix ⟨(sgB ng ++ (c :: W ++ (fr ++ ex))).toArray⟩ (⟨#[45]⟩ : ByteArray) w
 have htp : Lib.trimPrefix (sgB ng ++ (c :: W ++ (fr ++ ex))) ([45] : List UInt8) = c :: W ++ (fr ++ ex) := by
  cases ng
  ·have hne : c ≠ 45 := by rintro rfl; revert hc; decide
   have : ¬ (45 = c) := fun e => hne e.symm
   simp [sgB, Lib.trimPrefix, Lib.hasPrefix, this]
  ·simp [sgB, Lib.trimPrefix, Lib.hasPrefix]
 rw [show ((⟨#[45]⟩ : ByteArray) : ByteArray).data.toList = ([45] : List UInt8) from rfl, show (⟨(sgB ng ++ (c :: W ++ (fr ++ ex))).toArray⟩ : ByteArray).data.toList = sgB ng ++ (c :: W ++ (fr ++ ex)) from rfl, htp] at h1
 have hu : Ends isDgB (fr ++ ex) := by
  rcases hf with rfl | ⟨x, F, rfl, -⟩
  ·rcases he with rfl | ⟨sg, x, X, rfl, -⟩
   ·trivial
   ·show isDgB 101 = false; decide
  ·show isDgB 46 = false; decide
 have h2 := fun w => digits_any c W (fr ++ ex) hc hw hu w
 obtain ⟨S, hS⟩ : ∃ S : ByteArray, S = ⟨(c :: W ++ (fr ++ ex)).toArray⟩ := ⟨_, rfl⟩
 have hsz : S.size = W.length + 1 + (fr.length + ex.length) := by
  rw [hS]
  show (c :: W ++ (fr ++ ex)).length = _
  simp; omega
 have hlt : 0 < S.size := by omega
 have hget : S[0]'hlt = c := by subst hS; rfl
 rw [← hS] at h1
 simp only [← hS] at h2
 clear hS htp
 have H1 := Lib.hid h1
 have H2 := Lib.hid h2
 clear h1 h2
 have hlti : (0 : Int) < (S.size : Int) := by omega
 go_enter Tryz.func81, Tryz.ntmps81
 go_wp2_with fail
 refine H1.out.mono ?_
 rintro e w1 ⟨rfl, hww⟩
 subst hww
 have H2' := Lib.hid (H2.out w1)
 go_wp2_with fail
 refine H2'.out.mono ?_
 rintro e w2 ⟨rfl, hb2⟩
 go_upto_region 5 with fail
 ·rename_i hq1 hq2
  have : c = 48 := UInt8.toNat_inj.1 (by show c.toNat = 48; omega)
  have hW := hz this
  subst hW
  exact absurd hq2 (by simp [wrap64])
 ·clear hget hlt hlti hsz H1 H2 H2' hz hw
  have HB2 := Lib.hid hb2
  clear hb2
  rcases hf with rfl | ⟨x, F, rfl, hx, hF⟩
  ·rcases he with rfl | ⟨sg, y, Y, rfl, hsg, hy, hY⟩
   ·skip
    have H3 := Lib.hid (cut_no [] w2 (by intro t h; cases h))
    go_upto_region 6 with fail
    go_wp2_with fail
    refine H3.out.mono ?_
    rintro e w3 ⟨rfl, hww⟩
    replace hww := hww.symm
    subst hww
    go_wp2_with fail
    go_ret2
    exact ⟨by simp, HB2.out⟩
   ·skip
    have H3 := Lib.hid (cut_no (101 :: sg :: y :: Y) w2 (by intro t h; cases h))
    go_upto_region 6 with fail
    go_wp2_with fail
    refine H3.out.mono ?_
    rintro e w3 ⟨rfl, hww⟩
    replace hww := hww.symm
    subst hww
    have hsl1 := sl1 101 (sg :: y :: Y) (by simp at hl ⊢; omega)
    have hsl2 := sl1 sg (y :: Y) (by simp at hl ⊢; omega)
    have hor : (bits .or .u8 ((((⟨(101 :: sg :: y :: Y).toArray⟩ : ByteArray)[0]'(Nat.succ_pos _)).toNat : Nat) : Int) 32 == 101) = true := by
     show (bits .or .u8 101 32 == 101) = true
     decide +kernel
    obtain ⟨z, hge, h5⟩ := sign_any sg hsg w2
    have H5 := Lib.hid h5
    clear h5
    have H6 := Lib.hid (digits_any y Y [] hy hY trivial w2)
    rw [List.append_nil] at H6
    go_wp2_with fail
    refine H5.out.mono ?_
    rintro e w5 ⟨rfl, hww⟩
    replace hww := hww.symm
    subst hww
    go_wp2_with fail
    refine H6.out.mono ?_
    rintro e w6 ⟨rfl, hb6⟩
    have HB6 := Lib.hid (HB2.out.trans (hb6.mono HB2.out.size))
    clear hb6
    go_wp2_with fail
    go_ret2
    exact ⟨by simp, HB6.out⟩
  ·rcases he with rfl | ⟨sg, y, Y, rfl, hsg, hy, hY⟩
   ·skip
    have H3 := Lib.hid (cut_yes (x :: F) w2)
    go_upto_region 6 with fail
    go_wp2_with fail
    refine H3.out.mono ?_
    rintro e w3 ⟨rfl, hww⟩
    replace hww := hww.symm
    subst hww
    have H4 := Lib.hid (digits_any x F [] hx hF trivial w2)
    rw [List.append_nil] at H4
    go_wp2_with fail
    refine H4.out.mono ?_
    rintro e w4 ⟨rfl, hb4⟩
    have HB4 := Lib.hid (HB2.out.trans (hb4.mono HB2.out.size))
    clear hb4
    go_wp2_with fail
    go_ret2
    exact ⟨by simp, HB4.out⟩
   ·skip
    have H3 := Lib.hid (cut_yes (x :: F ++ (101 :: sg :: y :: Y)) w2)
    go_upto_region 6 with fail
    go_wp2_with fail
    refine H3.out.mono ?_
    rintro e w3 ⟨rfl, hww⟩
    replace hww := hww.symm
    subst hww
    have H4 := Lib.hid (digits_any x F (101 :: sg :: y :: Y) hx hF (show isDgB 101 = false by decide) w2)
    go_wp2_with fail
    refine H4.out.mono ?_
    rintro e w4 ⟨rfl, hb4⟩
    have HB4 := Lib.hid (HB2.out.trans (hb4.mono HB2.out.size))
    clear hb4
    have hsl1 := sl1 101 (sg :: y :: Y) (by simp at hl ⊢; omega)
    have hsl2 := sl1 sg (y :: Y) (by simp at hl ⊢; omega)
    have hor : (bits .or .u8 ((((⟨(101 :: sg :: y :: Y).toArray⟩ : ByteArray)[0]'(Nat.succ_pos _)).toNat : Nat) : Int) 32 == 101) = true := by
     show (bits .or .u8 101 32 == 101) = true
     decide +kernel
    obtain ⟨z, hge, h5⟩ := sign_any sg hsg w4
    have H5 := Lib.hid h5
    clear h5
    have H6 := Lib.hid (digits_any y Y [] hy hY trivial w4)
    rw [List.append_nil] at H6
    go_wp2_with fail
    refine H5.out.mono ?_
    rintro e w5 ⟨rfl, hww⟩
    replace hww := hww.symm
    subst hww
    go_wp2_with fail
    refine H6.out.mono ?_
    rintro e w6 ⟨rfl, hb6⟩
    have HB6 := Lib.hid (HB4.out.trans (hb6.mono HB4.out.size))
    clear hb6
    go_wp2_with fail
    go_ret2
    exact ⟨by simp, HB6.out⟩
 ·clear hget hlt hlti hsz H1 H2 H2' hz hw
  have HB2 := Lib.hid hb2
  clear hb2
  rcases hf with rfl | ⟨x, F, rfl, hx, hF⟩
  ·rcases he with rfl | ⟨sg, y, Y, rfl, hsg, hy, hY⟩
   ·skip
    have H3 := Lib.hid (cut_no [] w2 (by intro t h; cases h))
    go_upto_region 6 with fail
    go_wp2_with fail
    refine H3.out.mono ?_
    rintro e w3 ⟨rfl, hww⟩
    replace hww := hww.symm
    subst hww
    go_wp2_with fail
    go_ret2
    exact ⟨by simp, HB2.out⟩
   ·skip
    have H3 := Lib.hid (cut_no (101 :: sg :: y :: Y) w2 (by intro t h; cases h))
    go_upto_region 6 with fail
    go_wp2_with fail
    refine H3.out.mono ?_
    rintro e w3 ⟨rfl, hww⟩
    replace hww := hww.symm
    subst hww
    have hsl1 := sl1 101 (sg :: y :: Y) (by simp at hl ⊢; omega)
    have hsl2 := sl1 sg (y :: Y) (by simp at hl ⊢; omega)
    have hor : (bits .or .u8 ((((⟨(101 :: sg :: y :: Y).toArray⟩ : ByteArray)[0]'(Nat.succ_pos _)).toNat : Nat) : Int) 32 == 101) = true := by
     show (bits .or .u8 101 32 == 101) = true
     decide +kernel
    obtain ⟨z, hge, h5⟩ := sign_any sg hsg w2
    have H5 := Lib.hid h5
    clear h5
    have H6 := Lib.hid (digits_any y Y [] hy hY trivial w2)
    rw [List.append_nil] at H6
    go_wp2_with fail
    refine H5.out.mono ?_
    rintro e w5 ⟨rfl, hww⟩
    replace hww := hww.symm
    subst hww
    go_wp2_with fail
    refine H6.out.mono ?_
    rintro e w6 ⟨rfl, hb6⟩
    have HB6 := Lib.hid (HB2.out.trans (hb6.mono HB2.out.size))
    clear hb6
    go_wp2_with fail
    go_ret2
    exact ⟨by simp, HB6.out⟩
  ·rcases he with rfl | ⟨sg, y, Y, rfl, hsg, hy, hY⟩
   ·skip
    have H3 := Lib.hid (cut_yes (x :: F) w2)
    go_upto_region 6 with fail
    go_wp2_with fail
    refine H3.out.mono ?_
    rintro e w3 ⟨rfl, hww⟩
    replace hww := hww.symm
    subst hww
    have H4 := Lib.hid (digits_any x F [] hx hF trivial w2)
    rw [List.append_nil] at H4
    go_wp2_with fail
    refine H4.out.mono ?_
    rintro e w4 ⟨rfl, hb4⟩
    have HB4 := Lib.hid (HB2.out.trans (hb4.mono HB2.out.size))
    clear hb4
    go_wp2_with fail
    go_ret2
    exact ⟨by simp, HB4.out⟩
   ·skip
    have H3 := Lib.hid (cut_yes (x :: F ++ (101 :: sg :: y :: Y)) w2)
    go_upto_region 6 with fail
    go_wp2_with fail
    refine H3.out.mono ?_
    rintro e w3 ⟨rfl, hww⟩
    replace hww := hww.symm
    subst hww
    have H4 := Lib.hid (digits_any x F (101 :: sg :: y :: Y) hx hF (show isDgB 101 = false by decide) w2)
    go_wp2_with fail
    refine H4.out.mono ?_
    rintro e w4 ⟨rfl, hb4⟩
    have HB4 := Lib.hid (HB2.out.trans (hb4.mono HB2.out.size))
    clear hb4
    have hsl1 := sl1 101 (sg :: y :: Y) (by simp at hl ⊢; omega)
    have hsl2 := sl1 sg (y :: Y) (by simp at hl ⊢; omega)
    have hor : (bits .or .u8 ((((⟨(101 :: sg :: y :: Y).toArray⟩ : ByteArray)[0]'(Nat.succ_pos _)).toNat : Nat) : Int) 32 == 101) = true := by
     show (bits .or .u8 101 32 == 101) = true
     decide +kernel
    obtain ⟨z, hge, h5⟩ := sign_any sg hsg w4
    have H5 := Lib.hid h5
    clear h5
    have H6 := Lib.hid (digits_any y Y [] hy hY trivial w4)
    rw [List.append_nil] at H6
    go_wp2_with fail
    refine H5.out.mono ?_
    rintro e w5 ⟨rfl, hww⟩
    replace hww := hww.symm
    subst hww
    go_wp2_with fail
    refine H6.out.mono ?_
    rintro e w6 ⟨rfl, hb6⟩
    have HB6 := Lib.hid (HB4.out.trans (hb6.mono HB4.out.size))
    clear hb6
    go_wp2_with fail
    go_ret2
    exact ⟨by simp, HB6.out⟩
end Go.Proofs.YtckaoeloofbklaaGreatDoor
namespace Go.Proofs.YtckaoeloofbklaaGreatDoor
open Go Go.RowKit Go.Lib
inductive NJ : List UInt8 → JV → Prop
 | int {a : List UInt8} {n : Int} (ng : Bool) (l : List UInt8) (c : UInt8) (W : List UInt8) (ha : a = sgB ng ++ l) (hf : NumT l c W [] []) (hl : l.length ≤ 1000) (h0 : a ≠ [45, 48]) (hp : Lib.parseIntB 64 a = .ok n) : NJ a (jInt n)
 | flt {a : List UInt8} {u : Nat} (ng : Bool) (l : List UInt8) (c : UInt8) (W fr ex : List UInt8) (ha : a = sgB ng ++ l) (hf : NumT l c W fr ex) (hl : l.length ≤ 1000) (h : fr ++ ex ≠ [] ∨ a = [45, 48]) (hu : u < 18446744073709551616) (hi : infU u = false)
   (hP : ∀ K w, Globs w → GlobT K w → Calls Tryz.prog 121 #[.string ⟨a.toArray⟩] w fun e w' => e = .returned (.tuple #[.int .u64 (u : Nat), .int .i64 0]) ∧ Below w.heap.size w w') : NJ a (jFlt u)
theorem suf_mem (l : List UInt8) (c : UInt8) (h : Lib.hasSuffix l [c] = true) : c ∈ l := by
 unfold Lib.hasSuffix at h
 have := List.isSuffixOf_iff_suffix.1 h
 exact this.subset (by simp)
theorem long_any (a : List UInt8) (u : Nat) (w : World) (hP : Calls Tryz.prog 121 #[.string ⟨a.toArray⟩] w fun e w' => e = .returned (.tuple #[.int .u64 (u : Nat), .int .i64 0]) ∧ Below w.heap.size w w') :
  Calls Tryz.prog 83 #[.string ⟨a.toArray⟩] w fun e w' => e = .returned (.int .u64 (u : Nat)) ∧ Below w.heap.size w w' := by
 have HP := Lib.hid hP
 clear hP
 go_enter Tryz.func83, Tryz.ntmps83
 go_wp2_with fail
 refine HP.out.mono ?_
 rintro e w1 ⟨rfl, hb⟩
 go_wp2_with fail
 go_ret
 exact ⟨rfl, hb⟩
theorem number_int (r : Nat) (s : ByteArray) (a t : List UInt8) (d : Nat) (w : World) (h : Rd r s (a ++ t) d w) (hn : a.all numC = true) (ht : Ends numC t) (n : Int) (ng : Bool) (l : List UInt8) (c : UInt8) (W : List UInt8) (ha : a = sgB ng ++ l) (hf : NumT l c W [] []) (hl : l.length ≤ 1000) (h0 : a ≠ [45, 48]) (hp : Lib.parseIntB 64 a = .ok n) :
  Calls Tryz.prog 51 #[.pointer (some ⟨r, 0, none⟩)] w (ValOk r s d w (jInt n) t) := by
 have hal := h.alloc (.cells #[.int .u8 0, .bool false, .int .i64 0, .int .u64 0, .string ⟨#[]⟩, .slice none 0 0, .slice none 0 0] 27)
 have hnew := heap_alloc_new w (.cells #[.int .u8 0, .bool false, .int .i64 0, .int .u64 0, .string ⟨#[]⟩, .slice none 0 0, .slice none 0 0] 27)
 have hkr := (KR.refl r w).alloc (.cells #[.int .u8 0, .bool false, .int .i64 0, .int .u64 0, .string ⟨#[]⟩, .slice none 0 0, .slice none 0 0] 27)
 have hrl := h.lt
 obtain ⟨m, hm, c1⟩ := hal.pos
 have HR := Lib.hid (run_any _ numC numc_any ent_numc r s a t d _ hal hn ht)
 have HN := Lib.hid hnew
 have HKR := Lib.hid hkr
 have HFM := Lib.hid (fun w => formed_any ng l c W [] [] hf w (by omega))
 rw [← ha] at HFM
 have hal2 : a.length ≤ 1001 := by rw [ha, List.length_append]; cases ng <;> simp [sgB] <;> omega
 have hne : (a == [45, 48]) = false := by rw [beq_eq_false_iff_ne]; exact h0
 have HPI := Lib.hid (fun W => Tryz.strconv_ParseInt_10_at64_ok ⟨a.toArray⟩ (by show a.length ≤ _; omega) n hp W)
 clear h hal hnew hkr hm h0 ha hf hp
 go_enter Tryz.func51, Tryz.ntmps51
 go_wp2_with fail
 refine HR.out.mono ?_
 rintro e w1 ⟨rfl, hr1, hk1⟩
 have hs1 := hk1.size
 have HK1 := Lib.hid (HKR.out.trans hk1)
 have HN1 := Lib.hid ((hk1.block w.heap.size (by simp) (by omega)).trans HN.out)
 have HR1 := Lib.hid hr1
 have HFO := Lib.hid (HFM.out w1)
 clear hr1 hk1 c1
 go_wp2_with fail
 refine HFO.out.mono ?_
 rintro e w2 ⟨rfl, hb2⟩
 have hs2 := hb2.size
 have hlt1 : w.heap.size < w1.heap.size := by simp at hs1; omega
 have HK2 := Lib.hid (HK1.out.trans (KR.of hb2))
 have HN2 := Lib.hid ((hb2.block w.heap.size hlt1).trans HN1.out)
 have HR2 := Lib.hid (HR1.out.below hb2)
 clear hb2
 have HPP := Lib.hid (HPI.out w2)
 go_wp2_with fail
 refine HPP.out.mono ?_
 rintro e w3 ⟨rfl, hw3⟩
 have hb3 : Below w2.heap.size w2 w3 := by
  rcases hw3 with rfl | ⟨x, rfl⟩
  ·exact Below.refl _ _
  ·exact bytesWorld_below _ _ _
 have hs3 := hb3.size
 have HK3 := Lib.hid (HK2.out.trans (KR.of hb3))
 have HN3 := Lib.hid ((hb3.block w.heap.size (by omega)).trans HN2.out)
 have HR3 := Lib.hid (HR2.out.below hb3)
 clear hb3 hw3
 have hn9 := HN3.out
 obtain ⟨n0, n1, n2, n3, n4, n5, n6⟩ := cell_agg7 hn9
 have q : ∀ j, w3.frozen? ⟨w.heap.size, j, none⟩ = false := fun j => froz_agg hn9 j
 have HN9 := Lib.hid hn9
 have HK9 := Lib.hid HK3.out
 have HRD9 := Lib.hid HR3.out
 clear hn9
 go_wp2_with fail
 show bodyPost _ _ _ _ _ (set7 w3 w.heap.size (.int .u8 3) (.bool false) (.int .i64 n) (.int .u64 0) (.string ⟨#[]⟩) (.slice none 0 0) (.slice none 0 0))
 have hF := seven_set HN9.out (.int .u8 3) (.bool false) (.int .i64 n) (.int .u64 0) (.string ⟨#[]⟩) (.slice none 0 0) (.slice none 0 0)
 have hok := fun e he => set7_ok (e := e) (k := 3) (b := false) (n := n) (u := 0) (x := ⟨#[]⟩) (p := w.heap.size) he HK9.out HRD9.out (Nat.le_refl _) hrl (.int .u8 3) (.bool false) (.int .i64 n) (.int .u64 0) (.string ⟨#[]⟩) (.slice none 0 0) (.slice none 0 0)
 unfold set7 at hok ⊢
 generalize ((((((w3.setCell ⟨w.heap.size, 0, none⟩ (.int .u8 3)).setCell ⟨w.heap.size, 1, none⟩ (.bool false)).setCell ⟨w.heap.size, 2, none⟩ (.int .i64 n)).setCell ⟨w.heap.size, 3, none⟩ (.int .u64 0)).setCell ⟨w.heap.size, 4, none⟩ (.string ⟨#[]⟩)).setCell ⟨w.heap.size, 5, none⟩ (.slice none 0 0)).setCell ⟨w.heap.size, 6, none⟩ (.slice none 0 0) = F at *
 obtain ⟨g0, g1, g2, g3, g4, g5, g6⟩ := cell_agg7 hF
 refine bodyPost_ret (v := atomV 3 false n 0 ⟨#[]⟩) (by simp [results, Tryz.results51, go_sem, atomV, g0, g1, g2, g3, g4, g5, g6]) rfl ?_
 exact hok _ rfl
theorem number_flt (r : Nat) (s : ByteArray) (a t : List UInt8) (d : Nat) (w : World) (h : Rd r s (a ++ t) d w) (hn : a.all numC = true) (ht : Ends numC t) (K : Nat) (hG : Globs w) (hT : GlobT K w) (hK : K ≤ r) (u : Nat) (ng : Bool) (l : List UInt8) (c : UInt8) (W fr ex : List UInt8) (ha : a = sgB ng ++ l) (hf : NumT l c W fr ex) (hl : l.length ≤ 1000) (hw : fr ++ ex ≠ [] ∨ a = [45, 48]) (hu : u < 18446744073709551616) (hi : infU u = false)
  (hP : ∀ K w, Globs w → GlobT K w → Calls Tryz.prog 121 #[.string ⟨a.toArray⟩] w fun e w' => e = .returned (.tuple #[.int .u64 (u : Nat), .int .i64 0]) ∧ Below w.heap.size w w') :
  Calls Tryz.prog 51 #[.pointer (some ⟨r, 0, none⟩)] w (ValOk r s d w (jFlt u) t) := by
 have hal := h.alloc (.cells #[.int .u8 0, .bool false, .int .i64 0, .int .u64 0, .string ⟨#[]⟩, .slice none 0 0, .slice none 0 0] 27)
 have hnew := heap_alloc_new w (.cells #[.int .u8 0, .bool false, .int .i64 0, .int .u64 0, .string ⟨#[]⟩, .slice none 0 0, .slice none 0 0] 27)
 have hkr := (KR.refl r w).alloc (.cells #[.int .u8 0, .bool false, .int .i64 0, .int .u64 0, .string ⟨#[]⟩, .slice none 0 0, .slice none 0 0] 27)
 have hrl := h.lt
 obtain ⟨m, hm, c1⟩ := hal.pos
 have HR := Lib.hid (run_any _ numC numc_any ent_numc r s a t d _ hal hn ht)
 have HN := Lib.hid hnew
 have HKR := Lib.hid hkr
 have HFM := Lib.hid (fun w => formed_any ng l c W fr ex hf w (by omega))
 rw [← ha] at HFM
 have hK17 := hT.lt
 have HG := Lib.hid (fun W (h : KR r w W) => (⟨hG.below (by omega) (h.below (by omega)), hT.below hK (h.below (by omega))⟩ : Globs W ∧ GlobT K W))
 have HLO := Lib.hid (fun W (h : KR r w W) => long_any a u W (hP K W (HG.out W h).1 (HG.out W h).2))
 have HSH := Lib.hid (fun W (h : KR r w W) => show_any u W (HG.out W h).1 hu)
 have hsl := showB_len u
 have hsuf : Lib.hasSuffix (showB u) ((⟨#[121]⟩ : ByteArray) : ByteArray).data.toList = false := by
  rw [← Bool.not_eq_true]
  intro hh
  have := showB_okC u hi 121 (suf_mem _ _ hh)
  revert this; decide
 have HSU := Lib.hid (fun W => Tryz.strings_HasSuffix ⟨(showB u).toArray⟩ (⟨#[121]⟩ : ByteArray) W (by show (showB u).length ≤ _; omega))
 rw [show (⟨(showB u).toArray⟩ : ByteArray).data.toList = showB u from rfl, hsuf] at HSU
 have hcond : ((fr ++ ex).isEmpty = false) ∨ ((fr ++ ex).isEmpty = true ∧ a = [45, 48]) := by
  rcases hw with hw | hw
  ·left; cases he : fr ++ ex with
   | nil => exact absurd he hw
   | cons => rfl
  ·cases he : fr ++ ex with
   | nil => exact .inr ⟨rfl, hw⟩
   | cons => exact .inl rfl
 clear h hal hnew hkr hm hw hP hf ha
 generalize (fr ++ ex).isEmpty = wh at *
 go_enter Tryz.func51, Tryz.ntmps51
 go_wp2_with fail
 refine HR.out.mono ?_
 rintro e w1 ⟨rfl, hr1, hk1⟩
 have hs1 := hk1.size
 have HK1 := Lib.hid (HKR.out.trans hk1)
 have HN1 := Lib.hid ((hk1.block w.heap.size (by simp) (by omega)).trans HN.out)
 have HR1 := Lib.hid hr1
 have HFO := Lib.hid (HFM.out w1)
 clear hr1 hk1 c1
 go_wp2_with fail
 refine HFO.out.mono ?_
 rintro e w2 ⟨rfl, hb2⟩
 have hs2 := hb2.size
 have hlt1 : w.heap.size < w1.heap.size := by simp at hs1; omega
 have HK2 := Lib.hid (HK1.out.trans (KR.of hb2))
 have HN2 := Lib.hid ((hb2.block w.heap.size hlt1).trans HN1.out)
 have HR2 := Lib.hid (HR1.out.below hb2)
 clear hb2
 have HLL := Lib.hid (HLO.out w2 HK2.out)
 go_upto_region 10 with fail
 ·exfalso
  clear HR HN HKR HFM HG HLO HSH HSU HK1 HN1 HR1 HFO HK2 HN2 HR2 HLL
  rcases hcond with h | ⟨-, h⟩ <;> simp_all
 ·skip
  go_wp2_with fail
  refine HLL.out.mono ?_
  rintro e w3 ⟨rfl, hb3⟩
  have hs3 := hb3.size
  have HK3 := Lib.hid (HK2.out.trans (KR.of hb3))
  have HN3 := Lib.hid ((hb3.block w.heap.size (by omega)).trans HN2.out)
  have HR3 := Lib.hid (HR2.out.below hb3)
  clear hb3
  have HSW := Lib.hid (HSH.out w3 HK3.out)
  go_wp2_with fail
  refine HSW.out.mono ?_
  rintro e w4 ⟨rfl, hb4⟩
  have hs4 := hb4.size
  have HK4 := Lib.hid (HK3.out.trans (KR.of hb4))
  have HN4 := Lib.hid ((hb4.block w.heap.size (by omega)).trans HN3.out)
  have HR4 := Lib.hid (HR3.out.below hb4)
  clear hb4
  have HSX := Lib.hid (HSU.out w4)
  go_wp2_with fail
  refine HSX.out.mono ?_
  rintro e w5 ⟨rfl, hw5⟩
  replace hw5 := hw5.symm
  subst hw5
  have hn9 := HN4.out
  obtain ⟨n0, n1, n2, n3, n4, n5, n6⟩ := cell_agg7 hn9
  have q : ∀ j, w4.frozen? ⟨w.heap.size, j, none⟩ = false := fun j => froz_agg hn9 j
  have HN9 := Lib.hid hn9
  have HK9 := Lib.hid HK4.out
  have HRD9 := Lib.hid HR4.out
  clear hn9
  go_wp2_with fail
  show bodyPost _ _ _ _ _ (set7 w4 w.heap.size (.int .u8 4) (.bool false) (.int .i64 0) (.int .u64 ((u : Nat) : Int)) (.string ⟨#[]⟩) (.slice none 0 0) (.slice none 0 0))
  have hF := seven_set HN9.out (.int .u8 4) (.bool false) (.int .i64 0) (.int .u64 ((u : Nat) : Int)) (.string ⟨#[]⟩) (.slice none 0 0) (.slice none 0 0)
  have hok := fun e he => set7_ok (e := e) (k := 4) (b := false) (n := 0) (u := ((u : Nat) : Int)) (x := ⟨#[]⟩) (p := w.heap.size) he HK9.out HRD9.out (Nat.le_refl _) hrl (.int .u8 4) (.bool false) (.int .i64 0) (.int .u64 ((u : Nat) : Int)) (.string ⟨#[]⟩) (.slice none 0 0) (.slice none 0 0)
  unfold set7 at hok ⊢
  generalize ((((((w4.setCell ⟨w.heap.size, 0, none⟩ (.int .u8 4)).setCell ⟨w.heap.size, 1, none⟩ (.bool false)).setCell ⟨w.heap.size, 2, none⟩ (.int .i64 0)).setCell ⟨w.heap.size, 3, none⟩ (.int .u64 ((u : Nat) : Int))).setCell ⟨w.heap.size, 4, none⟩ (.string ⟨#[]⟩)).setCell ⟨w.heap.size, 5, none⟩ (.slice none 0 0)).setCell ⟨w.heap.size, 6, none⟩ (.slice none 0 0) = F at *
  obtain ⟨g0, g1, g2, g3, g4, g5, g6⟩ := cell_agg7 hF
  refine bodyPost_ret (v := atomV 4 false 0 ((u : Nat) : Int) ⟨#[]⟩) (by simp [results, Tryz.results51, go_sem, atomV, g0, g1, g2, g3, g4, g5, g6]) rfl ?_
  exact hok _ rfl
 ·skip
  go_wp2_with fail
  refine HLL.out.mono ?_
  rintro e w3 ⟨rfl, hb3⟩
  have hs3 := hb3.size
  have HK3 := Lib.hid (HK2.out.trans (KR.of hb3))
  have HN3 := Lib.hid ((hb3.block w.heap.size (by omega)).trans HN2.out)
  have HR3 := Lib.hid (HR2.out.below hb3)
  clear hb3
  have HSW := Lib.hid (HSH.out w3 HK3.out)
  go_wp2_with fail
  refine HSW.out.mono ?_
  rintro e w4 ⟨rfl, hb4⟩
  have hs4 := hb4.size
  have HK4 := Lib.hid (HK3.out.trans (KR.of hb4))
  have HN4 := Lib.hid ((hb4.block w.heap.size (by omega)).trans HN3.out)
  have HR4 := Lib.hid (HR3.out.below hb4)
  clear hb4
  have HSX := Lib.hid (HSU.out w4)
  go_wp2_with fail
  refine HSX.out.mono ?_
  rintro e w5 ⟨rfl, hw5⟩
  replace hw5 := hw5.symm
  subst hw5
  have hn9 := HN4.out
  obtain ⟨n0, n1, n2, n3, n4, n5, n6⟩ := cell_agg7 hn9
  have q : ∀ j, w4.frozen? ⟨w.heap.size, j, none⟩ = false := fun j => froz_agg hn9 j
  have HN9 := Lib.hid hn9
  have HK9 := Lib.hid HK4.out
  have HRD9 := Lib.hid HR4.out
  clear hn9
  go_wp2_with fail
  show bodyPost _ _ _ _ _ (set7 w4 w.heap.size (.int .u8 4) (.bool false) (.int .i64 0) (.int .u64 ((u : Nat) : Int)) (.string ⟨#[]⟩) (.slice none 0 0) (.slice none 0 0))
  have hF := seven_set HN9.out (.int .u8 4) (.bool false) (.int .i64 0) (.int .u64 ((u : Nat) : Int)) (.string ⟨#[]⟩) (.slice none 0 0) (.slice none 0 0)
  have hok := fun e he => set7_ok (e := e) (k := 4) (b := false) (n := 0) (u := ((u : Nat) : Int)) (x := ⟨#[]⟩) (p := w.heap.size) he HK9.out HRD9.out (Nat.le_refl _) hrl (.int .u8 4) (.bool false) (.int .i64 0) (.int .u64 ((u : Nat) : Int)) (.string ⟨#[]⟩) (.slice none 0 0) (.slice none 0 0)
  unfold set7 at hok ⊢
  generalize ((((((w4.setCell ⟨w.heap.size, 0, none⟩ (.int .u8 4)).setCell ⟨w.heap.size, 1, none⟩ (.bool false)).setCell ⟨w.heap.size, 2, none⟩ (.int .i64 0)).setCell ⟨w.heap.size, 3, none⟩ (.int .u64 ((u : Nat) : Int))).setCell ⟨w.heap.size, 4, none⟩ (.string ⟨#[]⟩)).setCell ⟨w.heap.size, 5, none⟩ (.slice none 0 0)).setCell ⟨w.heap.size, 6, none⟩ (.slice none 0 0) = F at *
  obtain ⟨g0, g1, g2, g3, g4, g5, g6⟩ := cell_agg7 hF
  refine bodyPost_ret (v := atomV 4 false 0 ((u : Nat) : Int) ⟨#[]⟩) (by simp [results, Tryz.results51, go_sem, atomV, g0, g1, g2, g3, g4, g5, g6]) rfl ?_
  exact hok _ rfl
end Go.Proofs.YtckaoeloofbklaaGreatDoor
namespace Go.Proofs.YtckaoeloofbklaaGreatDoor
open Go Go.RowKit Go.Lib
theorem showT_len (r : Bool) : ∀ (vs : List JV) (ks : List ByteArray), (∀ v ∈ vs, (shJ v).length + 10 ≤ 200 * v.weigh) → (showT Lib.itoa fltI r ks vs).length ≤ 6 * (ks.map ByteArray.size).sum + 200 * JV.weighL vs
 | [], ks, _ => by rw [showT]; simp
 | v :: vs, ks, h => by
  have ih := showT_len r vs ks.tail fun x hx => h x (by simp [hx])
  have h1 := h v (by simp)
  unfold shJ at h1
  have hq := quoL_len (ks.headD ⟨#[]⟩).data.toList
  have hs : (ks.headD ⟨#[]⟩).data.toList.length + (ks.tail.map ByteArray.size).sum ≤ (ks.map ByteArray.size).sum := by
   cases ks with
   | nil => simp
   | cons k ks => simp
  rw [showT, JV.weighL, List.length_append, List.length_cons, List.length_append]
  cases r with
  | false => simp only [Bool.false_eq_true, if_false, List.length_nil]; omega
  | true => simp only [if_true, List.length_append, List.length_cons, List.length_nil]; omega
theorem show_len : ∀ v, Rng v → (shJ v).length + 10 ≤ 200 * v.weigh := by
 refine JV.ind fun k b n u s ks vs ih hr => ?_
 obtain ⟨h1, h2, h3, h4, h⟩ := hr
 have hT := fun r => showT_len r vs ks fun v hv => ih v hv (h v hv)
 unfold shJ
 rw [showJ, JV.weigh]
 have hd : ∀ l : List UInt8, (l.drop 1).length ≤ l.length := fun l => by rw [List.length_drop]; omega
 split
 ·simp only [List.length_cons, List.length_nil]; omega
 ·split
  ·cases b <;> simp <;> omega
  ·split
   ·have := itoa_len n h1 h2; omega
   ·split
    ·have := fltN_len u.toNat
     unfold fltI
     omega
    ·split
     ·have := quoL_len s.data.toList
      have h0 : s.data.toList.length = s.size := by simp
      omega
     ·split
      ·have h1 := hT true
       have h2 := hd (showT Lib.itoa fltI true ks vs)
       simp only [List.length_cons, List.length_append, List.length_nil]
       omega
      ·have h1 := hT false
       have h2 := hd (showT Lib.itoa fltI false ks vs)
       simp only [List.length_cons, List.length_append, List.length_nil]
       omega
end Go.Proofs.YtckaoeloofbklaaGreatDoor
namespace Go.Proofs.YtckaoeloofbklaaGreatDoor
open Go Go.RowKit Go.Lib
def RShowOk (v : JV) : Prop := ∀ (ok : Nat → Prop) (V : Value) (w : World), JAt ok w v V → v.formed = true → Rng v → v.weigh ≤ 1000000 →
 Calls Tryz.prog 31 #[V] w fun e w' => e = .returned (.string ⟨(shJ v).toArray⟩) ∧ Below w.heap.size w w'
theorem rshow_6 (b : Bool) (n u : Int) (s : ByteArray) (ks : List ByteArray) (vs : List JV) (ka : Option Addr) (kc : Nat) (a : Option Addr) (c : Nat) (ok : Nat → Prop) (w : World)
  (hks : StrsAt ok w ka ks) (hvs : vs = [] ∨ ∃ q off, a = some ⟨q, off, none⟩ ∧ ok q ∧ q < w.heap.size ∧ ItAt ok w q off vs) (hvn : vs.length ≤ 35184372080000)
  (ih : ∀ x ∈ vs, RShowOk x) (hf : ∀ x ∈ vs, x.formed = true) (hr : ∀ x ∈ vs, Rng x) (hw : JV.weighL vs ≤ 1000000) (hkw : ∀ k ∈ ks, k.size ≤ 1000000) (hl : ((showT Lib.itoa fltI false ks vs).drop 1).length ≤ 200000000) :
  Calls Tryz.prog 31 #[.agg #[.int .u8 6, .bool b, .int .i64 n, .int .u64 u, .string s, .slice ka ks.length kc, .slice a vs.length c]] w fun e w' => e = .returned (.string ⟨(91 :: (showT Lib.itoa fltI false ks vs).drop 1 ++ [93]).toArray⟩) ∧ Below w.heap.size w w' := by
 obtain ⟨Z, hZ⟩ : ∃ Z, Z = 91 :: (showT Lib.itoa fltI false ks vs).drop 1 ++ [93] := ⟨_, rfl⟩
 rw [← hZ]
 have HZ := Lib.hid hZ
 clear hZ
 have hbx := heap_alloc_new w (.cells #[.int .u8 6, .bool b, .int .i64 n, .int .u64 u, .string s, .slice ka ks.length kc, .slice a vs.length c] 27)
 have hbA : Below w.heap.size w (w.alloc (.cells #[.int .u8 6, .bool b, .int .i64 n, .int .u64 u, .string s, .slice ka ks.length kc, .slice a vs.length c] 27)) := (Below.refl _ _).alloc (Nat.le_refl _) _
 obtain ⟨c0, c1, c2, c3, c4, c5, c6⟩ := cell_agg7 hbx
 have HBX := Lib.hid hbx
 have HBA := Lib.hid hbA
 have HKS := Lib.hid hks
 have HVS := Lib.hid hvs
 have HIH := Lib.hid ih
 have HF := Lib.hid hf
 have HR := Lib.hid hr
 have HW := Lib.hid hw
 have HKW := Lib.hid hkw
 skip
 have HL := Lib.hid hl
 have hlA := (Array.getElem?_eq_some_iff.1 hbx).1
 clear hbx hbA hks hvs ih hf hr hw hkw hl
 go_enter Tryz.func31, Tryz.ntmps31
 go_upto_region 1 with fail
 generalize w.alloc (.cells #[.int .u8 6, .bool b, .int .i64 n, .int .u64 u, .string s, .slice ka ks.length kc, .slice a vs.length c] 27) = wA at *
 go_wp2_with fail
 clear c0 c1 c2 c3 c4 c5 c6
 go_loopg [3, 4] vs.length (fun g s3 s4 wr => ∃ k : Nat, k + g = vs.length ∧ s4 = .int .i64 k ∧ s3 = .string ⟨((showT Lib.itoa fltI false ks (vs.take k)).drop 1).toArray⟩ ∧ Below wA.heap.size wA wr)
 case atStart => exact ⟨0, by omega, rfl, by rw [List.take_zero, showT]; rfl, Below.refl _ _⟩
 case round =>
  obtain ⟨k, hk, rfl, rfl, hbw⟩ := hrel
  have hbr := (hbw.block w.heap.size hlA).trans HBX.out
  obtain ⟨c0, c1, c2, c3, c4, c5, c6⟩ := cell_agg7 hbr
  have HBW := Lib.hid hbw
  clear hbw hbr
  rcases Nat.lt_or_ge k vs.length with hlt | hge
  ·obtain ⟨x, hx⟩ : ∃ x, vs[k]? = some x := ⟨_, List.getElem?_eq_getElem hlt⟩
   have hxm := List.mem_of_getElem? hx
   obtain ⟨q, off, ha, _hq, hqw, hit⟩ := HVS.out.resolve_left (by rintro rfl; simp at hlt)
   obtain ⟨V, h7, hja⟩ := hit.get hx
   obtain ⟨xk, xb, xn, xu, xs, xa, xm, xc, xa2, xm2, xc2, rfl, d0, d1, d2, d3, d4, d5, d6⟩ := it_cells h7 hja
   have hbw := HBA.out.trans (HBW.out.mono HBA.out.size)
   have hkq : ∀ i : Nat, wr.cell? ⟨q, i, none⟩ = w.cell? ⟨q, i, none⟩ := fun i => hbw.cell (p := ⟨q, i, none⟩) hqw
   rw [← hkq, Nat.mul_comm 7 k] at d0 d1 d2 d3 d4 d5 d6
   have hst := showT_step Lib.itoa fltI false ks vs k x hx
   have hle := Nat.le_trans (showT_le false ks vs k x hx) HL.out
   have hxw : x.weigh ≤ 1000000 := Nat.le_trans (weigh_le hx) HW.out
   have HJ := Lib.hid (fun (W : World) (hW : Below wr.heap.size wr W) => HIH.out x hxm (fun _ => True) _ W (hja.kept (fun i _ hi2 => ⟨(hbw.trans (hW.mono hbw.size)).block i hi2, trivial⟩)) (HF.out x hxm) (HR.out x hxm) hxw)
   rw [List.length_append] at hle
   rw [showK_f] at hst hle
   have HST := Lib.hid hst
   generalize (showT Lib.itoa fltI false ks (vs.take k)).drop 1 = T at *
   generalize hSX : shJ x = SX at *
   have hts : (⟨T.toArray⟩ : ByteArray).size ≤ 200000000 := by show T.length ≤ _; omega
   have hxs : (⟨SX.toArray⟩ : ByteArray).size ≤ 200000000 := by show SX.length ≤ _; (try simp only [List.length_append, List.length_cons, List.length_nil] at hle); omega
   have z44 : (⟨#[44]⟩ : ByteArray).size = 1 := rfl
   have z58 : (⟨#[58]⟩ : ByteArray).size = 1 := rfl
   subst ha
   clear hx hxm h7 hja hit hqw hkq hst hle HVS hbw hSX
   by_cases hk0 : k = 0
   ·have hk1 : ¬ (0 : Int) < (k : Int) := by omega
    have hst := HST.out
    rw [if_pos hk0] at hst
    have HS2 := Lib.hid hst
    clear hst HST hk0
    obtain ⟨A1, hA1⟩ : ∃ A, A = T ++ SX := ⟨_, rfl⟩
    have e1 : (⟨T.toArray⟩ : ByteArray) ++ ⟨SX.toArray⟩ = ⟨A1.toArray⟩ := by rw [hA1]; exact ba_app _ _
    have y1 : (⟨A1.toArray⟩ : ByteArray).size ≤ 900000000 := by show A1.length ≤ _; have h1 : T.length ≤ 200000000 := hts; have h2 : SX.length ≤ 200000000 := hxs; simp only [hA1, List.length_append]; omega
    have HAS := Lib.hid (show A1 = T ++ (SX) by simp [hA1])
    clear hA1
    go_wp2_with fail
    refine (HJ.out _ (Below.refl _ _)).mono ?_
    rintro e w5 ⟨rfl, hb5⟩
    have HB5 := Lib.hid (HBW.out.trans (hb5.mono HBW.out.size))
    clear hb5 HJ c0 c1 c2 c3 c4 c5 c6 d0 d1 d2 d3 d4 d5 d6
    go_wp2_with fail
    go_roundg (gk - 1)
    case measure => omega
    case rel => exact ⟨k + 1, by omega, by go_num, by rw [HS2.out, HAS.out] <;> exact congrArg (fun z => Value.string ⟨List.toArray z⟩) (by simp), HB5.out⟩
   ·have hk1 : (0 : Int) < (k : Int) := by omega
    have hst := HST.out
    rw [if_neg hk0] at hst
    have HS2 := Lib.hid hst
    clear hst HST hk0
    obtain ⟨A1, hA1⟩ : ∃ A, A = T ++ [44] := ⟨_, rfl⟩
    have e1 : (⟨T.toArray⟩ : ByteArray) ++ (⟨#[44]⟩ : ByteArray) = ⟨A1.toArray⟩ := by rw [hA1]; exact ba_app _ _
    have y1 : (⟨A1.toArray⟩ : ByteArray).size ≤ 900000000 := by show A1.length ≤ _; have h1 : T.length ≤ 200000000 := hts; have h2 : SX.length ≤ 200000000 := hxs; simp only [hA1, List.length_append, List.length_cons, List.length_nil]; omega
    obtain ⟨A2, hA2⟩ : ∃ A, A = A1 ++ SX := ⟨_, rfl⟩
    have e2 : (⟨A1.toArray⟩ : ByteArray) ++ ⟨SX.toArray⟩ = ⟨A2.toArray⟩ := by rw [hA2]; exact ba_app _ _
    have y2 : (⟨A2.toArray⟩ : ByteArray).size ≤ 900000000 := by show A2.length ≤ _; have h1 : T.length ≤ 200000000 := hts; have h2 : SX.length ≤ 200000000 := hxs; simp only [hA2, hA1, List.length_append, List.length_cons, List.length_nil]; omega
    have HAS := Lib.hid (show A2 = T ++ ([44] ++ SX) by simp [hA2, hA1])
    clear hA1 hA2
    go_wp2_with fail
    refine (HJ.out _ (Below.refl _ _)).mono ?_
    rintro e w5 ⟨rfl, hb5⟩
    have HB5 := Lib.hid (HBW.out.trans (hb5.mono HBW.out.size))
    clear hb5 HJ c0 c1 c2 c3 c4 c5 c6 d0 d1 d2 d3 d4 d5 d6
    go_wp2_with fail
    go_roundg (gk - 1)
    case measure => omega
    case rel => exact ⟨k + 1, by omega, by go_num, by rw [HS2.out, HAS.out] <;> exact congrArg (fun z => Value.string ⟨List.toArray z⟩) (by simp), HB5.out⟩
  ·obtain rfl : k = vs.length := by omega
   rw [List.take_length]
   have hls := HL.out
   generalize (showT Lib.itoa fltI false ks vs).drop 1 = T at *
   have hts : (⟨T.toArray⟩ : ByteArray).size ≤ 200000000 := hls
   have hls2 : T.length ≤ 200000000 := hls
   obtain ⟨A1, hA1⟩ : ∃ A, A = [91] ++ T := ⟨_, rfl⟩
   obtain ⟨A2, hA2⟩ : ∃ A, A = A1 ++ [93] := ⟨_, rfl⟩
   have e1 : (⟨#[91]⟩ : ByteArray) ++ ⟨T.toArray⟩ = ⟨A1.toArray⟩ := by rw [hA1]; exact ba_app _ _
   have e2 : (⟨A1.toArray⟩ : ByteArray) ++ ⟨#[93]⟩ = ⟨A2.toArray⟩ := by rw [hA2]; exact ba_app _ _
   have y1 : (⟨A1.toArray⟩ : ByteArray).size ≤ 500000000 := by show A1.length ≤ _; rw [hA1]; simp; omega
   have zo : (⟨#[91]⟩ : ByteArray).size = 1 := rfl
   have zz' : (⟨#[93]⟩ : ByteArray).size = 1 := rfl
   have HAS := Lib.hid (show A2 = 91 :: T ++ [93] by rw [hA2, hA1]; rfl)
   clear hls hA1 hA2
   go_wp2_with fail
   go_ret
   exact ⟨(show Ending.returned (.string ⟨A2.toArray⟩) = Ending.returned (.string ⟨Z.toArray⟩) from by rw [show A2 = Z by rw [HAS.out, HZ.out]]), HBA.out.trans (HBW.out.mono HBA.out.size)⟩
theorem rshow_7 (b : Bool) (n u : Int) (s : ByteArray) (ks : List ByteArray) (vs : List JV) (ka : Option Addr) (kc : Nat) (a : Option Addr) (c : Nat) (ok : Nat → Prop) (w : World)
  (hks : StrsAt ok w ka ks) (hvs : vs = [] ∨ ∃ q off, a = some ⟨q, off, none⟩ ∧ ok q ∧ q < w.heap.size ∧ ItAt ok w q off vs) (hvn : vs.length ≤ 35184372080000) (hkv : vs.length = ks.length)
  (ih : ∀ x ∈ vs, RShowOk x) (hf : ∀ x ∈ vs, x.formed = true) (hr : ∀ x ∈ vs, Rng x) (hw : JV.weighL vs ≤ 1000000) (hkw : ∀ k ∈ ks, k.size ≤ 1000000) (hl : ((showT Lib.itoa fltI true ks vs).drop 1).length ≤ 200000000) :
  Calls Tryz.prog 31 #[.agg #[.int .u8 7, .bool b, .int .i64 n, .int .u64 u, .string s, .slice ka ks.length kc, .slice a vs.length c]] w fun e w' => e = .returned (.string ⟨(123 :: (showT Lib.itoa fltI true ks vs).drop 1 ++ [125]).toArray⟩) ∧ Below w.heap.size w w' := by
 obtain ⟨Z, hZ⟩ : ∃ Z, Z = 123 :: (showT Lib.itoa fltI true ks vs).drop 1 ++ [125] := ⟨_, rfl⟩
 rw [← hZ]
 have HZ := Lib.hid hZ
 clear hZ
 have hbx := heap_alloc_new w (.cells #[.int .u8 7, .bool b, .int .i64 n, .int .u64 u, .string s, .slice ka ks.length kc, .slice a vs.length c] 27)
 have hbA : Below w.heap.size w (w.alloc (.cells #[.int .u8 7, .bool b, .int .i64 n, .int .u64 u, .string s, .slice ka ks.length kc, .slice a vs.length c] 27)) := (Below.refl _ _).alloc (Nat.le_refl _) _
 obtain ⟨c0, c1, c2, c3, c4, c5, c6⟩ := cell_agg7 hbx
 have HBX := Lib.hid hbx
 have HBA := Lib.hid hbA
 have HKS := Lib.hid hks
 have HVS := Lib.hid hvs
 have HIH := Lib.hid ih
 have HF := Lib.hid hf
 have HR := Lib.hid hr
 have HW := Lib.hid hw
 have HKW := Lib.hid hkw
 have HKV := Lib.hid hkv
 have HL := Lib.hid hl
 have hlA := (Array.getElem?_eq_some_iff.1 hbx).1
 clear hbx hbA hks hvs ih hf hr hw hkw hkv hl
 go_enter Tryz.func31, Tryz.ntmps31
 go_upto_region 1 with fail
 generalize w.alloc (.cells #[.int .u8 7, .bool b, .int .i64 n, .int .u64 u, .string s, .slice ka ks.length kc, .slice a vs.length c] 27) = wA at *
 go_wp2_with fail
 clear c0 c1 c2 c3 c4 c5 c6
 go_loopg [3, 4] vs.length (fun g s3 s4 wr => ∃ k : Nat, k + g = vs.length ∧ s4 = .int .i64 k ∧ s3 = .string ⟨((showT Lib.itoa fltI true ks (vs.take k)).drop 1).toArray⟩ ∧ Below wA.heap.size wA wr)
 case atStart => exact ⟨0, by omega, rfl, by rw [List.take_zero, showT]; rfl, Below.refl _ _⟩
 case round =>
  obtain ⟨k, hk, rfl, rfl, hbw⟩ := hrel
  have hbr := (hbw.block w.heap.size hlA).trans HBX.out
  obtain ⟨c0, c1, c2, c3, c4, c5, c6⟩ := cell_agg7 hbr
  have HBW := Lib.hid hbw
  clear hbw hbr
  rcases Nat.lt_or_ge k vs.length with hlt | hge
  ·obtain ⟨x, hx⟩ : ∃ x, vs[k]? = some x := ⟨_, List.getElem?_eq_getElem hlt⟩
   have hxm := List.mem_of_getElem? hx
   obtain ⟨q, off, ha, _hq, hqw, hit⟩ := HVS.out.resolve_left (by rintro rfl; simp at hlt)
   obtain ⟨V, h7, hja⟩ := hit.get hx
   obtain ⟨xk, xb, xn, xu, xs, xa, xm, xc, xa2, xm2, xc2, rfl, d0, d1, d2, d3, d4, d5, d6⟩ := it_cells h7 hja
   have hbw := HBA.out.trans (HBW.out.mono HBA.out.size)
   have hkq : ∀ i : Nat, wr.cell? ⟨q, i, none⟩ = w.cell? ⟨q, i, none⟩ := fun i => hbw.cell (p := ⟨q, i, none⟩) hqw
   rw [← hkq, Nat.mul_comm 7 k] at d0 d1 d2 d3 d4 d5 d6
   have hst := showT_step Lib.itoa fltI true ks vs k x hx
   have hle := Nat.le_trans (showT_le true ks vs k x hx) HL.out
   have hxw : x.weigh ≤ 1000000 := Nat.le_trans (weigh_le hx) HW.out
   have HJ := Lib.hid (fun (W : World) (hW : Below wr.heap.size wr W) => HIH.out x hxm (fun _ => True) _ W (hja.kept (fun i _ hi2 => ⟨(hbw.trans (hW.mono hbw.size)).block i hi2, trivial⟩)) (HF.out x hxm) (HR.out x hxm) hxw)
   rw [List.length_append] at hle
   obtain ⟨y, hy⟩ : ∃ y, ks[k]? = some y := ⟨_, List.getElem?_eq_getElem (by have := HKV.out; omega)⟩
   have hkks : k < ks.length := (List.getElem?_eq_some_iff.1 hy).1
   have hyh : (ks.drop k).headD ⟨#[]⟩ = y := by
    have hkl : k < ks.length := (List.getElem?_eq_some_iff.1 hy).1
    rw [List.drop_eq_getElem_cons hkl]
    rw [List.getElem?_eq_getElem hkl] at hy
    exact Option.some.inj hy
   rw [showK_t _ _ _ hyh] at hst hle
   obtain ⟨q2, o2, ha2, _hq2, hq2w, hc2⟩ := HKS.out.resolve_left (by rintro rfl; simp at hy)
   have dk := hc2 k y hy
   have hkq2 : ∀ i : Nat, wr.cell? ⟨q2, i, none⟩ = w.cell? ⟨q2, i, none⟩ := fun i => hbw.cell (p := ⟨q2, i, none⟩) hq2w
   rw [← hkq2] at dk
   have hqr : q < wr.heap.size := Nat.lt_of_lt_of_le hqw hbw.size
   have HQ := Lib.hid (quoteR_any y wr (by have := HKW.out y (List.mem_of_getElem? hy); omega))
   subst ha2
   generalize quoL y.data.toList = QY at *
   have hqy : (⟨QY.toArray⟩ : ByteArray).size ≤ 200000000 := by show QY.length ≤ _; simp only [List.length_append, List.length_cons, List.length_nil] at hle; omega
   have HST := Lib.hid hst
   generalize (showT Lib.itoa fltI true ks (vs.take k)).drop 1 = T at *
   generalize hSX : shJ x = SX at *
   have hts : (⟨T.toArray⟩ : ByteArray).size ≤ 200000000 := by show T.length ≤ _; omega
   have hxs : (⟨SX.toArray⟩ : ByteArray).size ≤ 200000000 := by show SX.length ≤ _; (try simp only [List.length_append, List.length_cons, List.length_nil] at hle); omega
   have z44 : (⟨#[44]⟩ : ByteArray).size = 1 := rfl
   have z58 : (⟨#[58]⟩ : ByteArray).size = 1 := rfl
   subst ha
   clear hx hxm h7 hja hit hqw hkq hst hle HVS hbw hSX hy hyh hc2 hq2w hkq2 HKS
   by_cases hk0 : k = 0
   ·have hk1 : ¬ (0 : Int) < (k : Int) := by omega
    have hst := HST.out
    rw [if_pos hk0] at hst
    have HS2 := Lib.hid hst
    clear hst HST hk0
    obtain ⟨A1, hA1⟩ : ∃ A, A = T ++ QY := ⟨_, rfl⟩
    have e1 : (⟨T.toArray⟩ : ByteArray) ++ ⟨QY.toArray⟩ = ⟨A1.toArray⟩ := by rw [hA1]; exact ba_app _ _
    have y1 : (⟨A1.toArray⟩ : ByteArray).size ≤ 900000000 := by show A1.length ≤ _; have h1 : T.length ≤ 200000000 := hts; have h2 : SX.length ≤ 200000000 := hxs; have h3 : QY.length ≤ 200000000 := hqy; simp only [hA1, List.length_append]; omega
    obtain ⟨A2, hA2⟩ : ∃ A, A = A1 ++ [58] := ⟨_, rfl⟩
    have e2 : (⟨A1.toArray⟩ : ByteArray) ++ (⟨#[58]⟩ : ByteArray) = ⟨A2.toArray⟩ := by rw [hA2]; exact ba_app _ _
    have y2 : (⟨A2.toArray⟩ : ByteArray).size ≤ 900000000 := by show A2.length ≤ _; have h1 : T.length ≤ 200000000 := hts; have h2 : SX.length ≤ 200000000 := hxs; have h3 : QY.length ≤ 200000000 := hqy; simp only [hA2, hA1, List.length_append, List.length_cons, List.length_nil]; omega
    obtain ⟨A3, hA3⟩ : ∃ A, A = A2 ++ SX := ⟨_, rfl⟩
    have e3 : (⟨A2.toArray⟩ : ByteArray) ++ ⟨SX.toArray⟩ = ⟨A3.toArray⟩ := by rw [hA3]; exact ba_app _ _
    have y3 : (⟨A3.toArray⟩ : ByteArray).size ≤ 900000000 := by show A3.length ≤ _; have h1 : T.length ≤ 200000000 := hts; have h2 : SX.length ≤ 200000000 := hxs; have h3 : QY.length ≤ 200000000 := hqy; simp only [hA3, hA2, hA1, List.length_append, List.length_cons, List.length_nil]; omega
    have HAS := Lib.hid (show A3 = T ++ (QY ++ [58] ++ SX) by simp [hA3, hA2, hA1])
    clear hA1 hA2 hA3
    go_wp2_with fail
    refine HQ.out.mono ?_
    rintro e w4 ⟨rfl, hb4⟩
    have hbr4 := (hb4.block w.heap.size (by have := HBW.out.size; omega)).trans ((HBW.out.block w.heap.size hlA).trans HBX.out)
    clear c0 c1 c2 c3 c4 c5 c6
    obtain ⟨c0, c1, c2, c3, c4, c5, c6⟩ := cell_agg7 hbr4
    have hkq4 : ∀ i : Nat, w4.cell? ⟨q, i, none⟩ = wr.cell? ⟨q, i, none⟩ := fun i => hb4.cell (p := ⟨q, i, none⟩) hqr
    rw [← hkq4] at d0 d1 d2 d3 d4 d5 d6
    have HB4 := Lib.hid hb4
    clear hb4 hbr4 hkq4 HQ dk
    go_wp2_with fail
    refine (HJ.out _ HB4.out).mono ?_
    rintro e w5 ⟨rfl, hb5⟩
    have HB5 := Lib.hid (HBW.out.trans ((HB4.out.trans (hb5.mono HB4.out.size)).mono HBW.out.size))
    clear hb5 HJ c0 c1 c2 c3 c4 c5 c6 d0 d1 d2 d3 d4 d5 d6
    go_wp2_with fail
    go_roundg (gk - 1)
    case measure => omega
    case rel => exact ⟨k + 1, by omega, by go_num, by rw [HS2.out, HAS.out] <;> exact congrArg (fun z => Value.string ⟨List.toArray z⟩) (by simp), HB5.out⟩
   ·have hk1 : (0 : Int) < (k : Int) := by omega
    have hst := HST.out
    rw [if_neg hk0] at hst
    have HS2 := Lib.hid hst
    clear hst HST hk0
    obtain ⟨A1, hA1⟩ : ∃ A, A = T ++ [44] := ⟨_, rfl⟩
    have e1 : (⟨T.toArray⟩ : ByteArray) ++ (⟨#[44]⟩ : ByteArray) = ⟨A1.toArray⟩ := by rw [hA1]; exact ba_app _ _
    have y1 : (⟨A1.toArray⟩ : ByteArray).size ≤ 900000000 := by show A1.length ≤ _; have h1 : T.length ≤ 200000000 := hts; have h2 : SX.length ≤ 200000000 := hxs; have h3 : QY.length ≤ 200000000 := hqy; simp only [hA1, List.length_append, List.length_cons, List.length_nil]; omega
    obtain ⟨A2, hA2⟩ : ∃ A, A = A1 ++ QY := ⟨_, rfl⟩
    have e2 : (⟨A1.toArray⟩ : ByteArray) ++ ⟨QY.toArray⟩ = ⟨A2.toArray⟩ := by rw [hA2]; exact ba_app _ _
    have y2 : (⟨A2.toArray⟩ : ByteArray).size ≤ 900000000 := by show A2.length ≤ _; have h1 : T.length ≤ 200000000 := hts; have h2 : SX.length ≤ 200000000 := hxs; have h3 : QY.length ≤ 200000000 := hqy; simp only [hA2, hA1, List.length_append, List.length_cons, List.length_nil]; omega
    obtain ⟨A3, hA3⟩ : ∃ A, A = A2 ++ [58] := ⟨_, rfl⟩
    have e3 : (⟨A2.toArray⟩ : ByteArray) ++ (⟨#[58]⟩ : ByteArray) = ⟨A3.toArray⟩ := by rw [hA3]; exact ba_app _ _
    have y3 : (⟨A3.toArray⟩ : ByteArray).size ≤ 900000000 := by show A3.length ≤ _; have h1 : T.length ≤ 200000000 := hts; have h2 : SX.length ≤ 200000000 := hxs; have h3 : QY.length ≤ 200000000 := hqy; simp only [hA3, hA2, hA1, List.length_append, List.length_cons, List.length_nil]; omega
    obtain ⟨A4, hA4⟩ : ∃ A, A = A3 ++ SX := ⟨_, rfl⟩
    have e4 : (⟨A3.toArray⟩ : ByteArray) ++ ⟨SX.toArray⟩ = ⟨A4.toArray⟩ := by rw [hA4]; exact ba_app _ _
    have y4 : (⟨A4.toArray⟩ : ByteArray).size ≤ 900000000 := by show A4.length ≤ _; have h1 : T.length ≤ 200000000 := hts; have h2 : SX.length ≤ 200000000 := hxs; have h3 : QY.length ≤ 200000000 := hqy; simp only [hA4, hA3, hA2, hA1, List.length_append, List.length_cons, List.length_nil]; omega
    have HAS := Lib.hid (show A4 = T ++ ([44] ++ QY ++ [58] ++ SX) by simp [hA4, hA3, hA2, hA1])
    clear hA1 hA2 hA3 hA4
    go_wp2_with fail
    refine HQ.out.mono ?_
    rintro e w4 ⟨rfl, hb4⟩
    have hbr4 := (hb4.block w.heap.size (by have := HBW.out.size; omega)).trans ((HBW.out.block w.heap.size hlA).trans HBX.out)
    clear c0 c1 c2 c3 c4 c5 c6
    obtain ⟨c0, c1, c2, c3, c4, c5, c6⟩ := cell_agg7 hbr4
    have hkq4 : ∀ i : Nat, w4.cell? ⟨q, i, none⟩ = wr.cell? ⟨q, i, none⟩ := fun i => hb4.cell (p := ⟨q, i, none⟩) hqr
    rw [← hkq4] at d0 d1 d2 d3 d4 d5 d6
    have HB4 := Lib.hid hb4
    clear hb4 hbr4 hkq4 HQ dk
    go_wp2_with fail
    refine (HJ.out _ HB4.out).mono ?_
    rintro e w5 ⟨rfl, hb5⟩
    have HB5 := Lib.hid (HBW.out.trans ((HB4.out.trans (hb5.mono HB4.out.size)).mono HBW.out.size))
    clear hb5 HJ c0 c1 c2 c3 c4 c5 c6 d0 d1 d2 d3 d4 d5 d6
    go_wp2_with fail
    go_roundg (gk - 1)
    case measure => omega
    case rel => exact ⟨k + 1, by omega, by go_num, by rw [HS2.out, HAS.out] <;> exact congrArg (fun z => Value.string ⟨List.toArray z⟩) (by simp), HB5.out⟩
  ·obtain rfl : k = vs.length := by omega
   rw [List.take_length]
   have hls := HL.out
   generalize (showT Lib.itoa fltI true ks vs).drop 1 = T at *
   have hts : (⟨T.toArray⟩ : ByteArray).size ≤ 200000000 := hls
   have hls2 : T.length ≤ 200000000 := hls
   obtain ⟨A1, hA1⟩ : ∃ A, A = [123] ++ T := ⟨_, rfl⟩
   obtain ⟨A2, hA2⟩ : ∃ A, A = A1 ++ [125] := ⟨_, rfl⟩
   have e1 : (⟨#[123]⟩ : ByteArray) ++ ⟨T.toArray⟩ = ⟨A1.toArray⟩ := by rw [hA1]; exact ba_app _ _
   have e2 : (⟨A1.toArray⟩ : ByteArray) ++ ⟨#[125]⟩ = ⟨A2.toArray⟩ := by rw [hA2]; exact ba_app _ _
   have y1 : (⟨A1.toArray⟩ : ByteArray).size ≤ 500000000 := by show A1.length ≤ _; rw [hA1]; simp; omega
   have zo : (⟨#[123]⟩ : ByteArray).size = 1 := rfl
   have zz' : (⟨#[125]⟩ : ByteArray).size = 1 := rfl
   have HAS := Lib.hid (show A2 = 123 :: T ++ [125] by rw [hA2, hA1]; rfl)
   clear hls hA1 hA2
   go_wp2_with fail
   go_ret
   exact ⟨(show Ending.returned (.string ⟨A2.toArray⟩) = Ending.returned (.string ⟨Z.toArray⟩) from by rw [show A2 = Z by rw [HAS.out, HZ.out]]), HBA.out.trans (HBW.out.mono HBA.out.size)⟩
theorem rshow_atom (k : Int) (b : Bool) (n u : Int) (s : ByteArray) (ks : List ByteArray) (vs : List JV) (ka : Option Addr) (kc : Nat) (a : Option Addr) (c : Nat) (w : World) (hk : 1 ≤ k ∧ k ≤ 5) (r1 : -9223372036854775808 ≤ n) (r2 : n < 9223372036854775808) (r3 : 0 ≤ u) (r4 : u < 18446744073709551616) (hs : s.size ≤ 10000000) :
  Calls Tryz.prog 31 #[.agg #[.int .u8 k, .bool b, .int .i64 n, .int .u64 u, .string s, .slice ka ks.length kc, .slice a vs.length c]] w fun e w' => e = .returned (.string ⟨(shJ (.mk k b n u s ks vs)).toArray⟩) ∧ Below w.heap.size w w' := by
 have hbx := heap_alloc_new w (.cells #[.int .u8 k, .bool b, .int .i64 n, .int .u64 u, .string s, .slice ka ks.length kc, .slice a vs.length c] 27)
 have hbA : Below w.heap.size w (w.alloc (.cells #[.int .u8 k, .bool b, .int .i64 n, .int .u64 u, .string s, .slice ka ks.length kc, .slice a vs.length c] 27)) := (Below.refl _ _).alloc (Nat.le_refl _) _
 obtain ⟨c0, c1, c2, c3, c4, c5, c6⟩ := cell_agg7 hbx
 obtain ⟨m, rfl⟩ : ∃ m : Nat, u = (m : Int) := ⟨u.toNat, by omega⟩
 have HI := Lib.hid (fun W => integer_any n W ⟨r1, by omega⟩)
 have HFL := Lib.hid (fun W => floatR_any m W (by omega))
 have HQ := Lib.hid (fun W => quoteR_any s W hs)
 have HBA := Lib.hid hbA
 have hk5 : k = 1 ∨ k = 2 ∨ k = 3 ∨ k = 4 ∨ k = 5 := by omega
 have hsh : shJ (.mk k b n (m : Int) s ks vs) = if k = 1 then [110, 117, 108, 108] else if k = 2 then (if b then [116, 114, 117, 101] else [102, 97, 108, 115, 101]) else if k = 3 then itoa n else if k = 4 then fltN m else if k = 5 then quoL s.data.toList else if k = 7 then 123 :: (showT Lib.itoa fltI true ks vs).drop 1 ++ [125] else 91 :: (showT Lib.itoa fltI false ks vs).drop 1 ++ [93] := by
  unfold shJ
  rw [showJ]
  unfold fltI
  rw [Int.toNat_natCast]
 generalize shJ (.mk k b n (m : Int) s ks vs) = L at *
 clear hbx hbA hk r1 r2 r3 r4 hs
 rcases hk5 with rfl | rfl | rfl | rfl | rfl
 ·rw [if_pos rfl] at hsh
  subst hsh
  go_enter Tryz.func31, Tryz.ntmps31
  go_wp2_with fail
  go_ret
  exact ⟨rfl, HBA.out⟩
 ·rw [if_neg (by decide), if_pos rfl] at hsh
  subst hsh
  cases b with
  | true =>
   go_enter Tryz.func31, Tryz.ntmps31
   go_wp2_with fail
   go_ret
   exact ⟨rfl, HBA.out⟩
  | false =>
   go_enter Tryz.func31, Tryz.ntmps31
   go_wp2_with fail
   go_ret
   exact ⟨rfl, HBA.out⟩
 ·rw [if_neg (by decide), if_neg (by decide), if_pos rfl] at hsh
  subst hsh
  go_enter Tryz.func31, Tryz.ntmps31
  go_wp2_with fail
  refine (HI.out _).mono ?_
  rintro e w2 ⟨rfl, hb2⟩
  have HB2 := Lib.hid (HBA.out.trans (hb2.mono HBA.out.size))
  clear hb2
  go_wp2_with fail
  go_ret
  exact ⟨rfl, HB2.out⟩
 ·rw [if_neg (by decide), if_neg (by decide), if_neg (by decide), if_pos rfl] at hsh
  subst hsh
  go_enter Tryz.func31, Tryz.ntmps31
  go_wp2_with fail
  refine (HFL.out _).mono ?_
  rintro e w2 ⟨rfl, hb2⟩
  have HB2 := Lib.hid (HBA.out.trans (hb2.mono HBA.out.size))
  clear hb2
  go_wp2_with fail
  go_ret
  exact ⟨rfl, HB2.out⟩
 ·rw [if_neg (by decide), if_neg (by decide), if_neg (by decide), if_neg (by decide), if_pos rfl] at hsh
  subst hsh
  go_enter Tryz.func31, Tryz.ntmps31
  go_wp2_with fail
  refine (HQ.out _).mono ?_
  rintro e w2 ⟨rfl, hb2⟩
  have HB2 := Lib.hid (HBA.out.trans (hb2.mono HBA.out.size))
  clear hb2
  go_wp2_with fail
  go_ret
  exact ⟨rfl, HB2.out⟩
theorem rshowV_any : ∀ v, RShowOk v := by
 refine JV.ind fun k b n u s ks vs ih => ?_
 intro ok V w hj hf hr hw
 have hlen := show_len _ hr
 rw [JAt] at hj
 obtain ⟨ka, kc, a, ac, rfl, hks, hvs, hkn, hvn⟩ := hj
 have hf0 := hf
 rw [JV.formed, Bool.and_eq_true] at hf
 obtain ⟨hp, hfl⟩ := hf
 have hfl := formedL_mem hfl
 obtain ⟨hk1, hk2, -⟩ := JV.plain_kind hp
 simp only [JV.kind] at hk1 hk2
 obtain ⟨r1, r2, r3, r4, hR⟩ := hr
 have hw0 := hw
 rw [JV.weigh] at hw
 have hkw : ∀ k ∈ ks, k.size ≤ 1000000 := fun k hk => by have := key_le hk; omega
 have hsh : shJ (.mk k b n u s ks vs) = if k = 1 then [110, 117, 108, 108] else if k = 2 then (if b then [116, 114, 117, 101] else [102, 97, 108, 115, 101]) else if k = 3 then itoa n else if k = 4 then fltI u else if k = 5 then quoL s.data.toList else if k = 7 then 123 :: (showT Lib.itoa fltI true ks vs).drop 1 ++ [125] else 91 :: (showT Lib.itoa fltI false ks vs).drop 1 ++ [93] := by
  unfold shJ
  rw [showJ]
 by_cases k5 : k ≤ 5
 ·exact rshow_atom k b n u s ks vs ka kc a ac w ⟨hk1, k5⟩ r1 r2 r3 r4 (by omega)
 ·by_cases k6 : k = 6
  ·subst k6
   rw [if_neg (by decide), if_neg (by decide), if_neg (by decide), if_neg (by decide), if_neg (by decide), if_neg (by decide)] at hsh
   rw [hsh] at hlen ⊢
   exact rshow_6 b n u s ks vs ka kc a ac ok w hks hvs hvn ih hfl hR (by omega) hkw (by simp only [List.length_cons, List.length_append, List.length_nil] at hlen; omega)
  ·obtain rfl : k = 7 := by omega
   rw [if_neg (by decide), if_neg (by decide), if_neg (by decide), if_neg (by decide), if_neg (by decide), if_pos rfl] at hsh
   rw [hsh] at hlen ⊢
   have hkv : vs.length = ks.length := by
    simp [JV.plain] at hp
    exact hp.1.2
   exact rshow_7 b n u s ks vs ka kc a ac ok w hks hvs hvn hkv ih hfl hR (by omega) hkw (by simp only [List.length_cons, List.length_append, List.length_nil] at hlen; omega)
end Go.Proofs.YtckaoeloofbklaaGreatDoor
