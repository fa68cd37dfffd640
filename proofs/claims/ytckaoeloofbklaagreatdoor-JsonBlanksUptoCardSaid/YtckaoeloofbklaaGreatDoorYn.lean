/- Joined texts: Jb Jh Ji Jk. Each begins with its own remark. -/
import Derived.Test.YtckaoeloofbklaaGreatDoorYl
import Derived.Test.YtckaoeloofbklaaGreatDoorYi
import Derived.Test.YtckaoeloofbklaaGreatDoorYm
import Derived.Deep.LoopGhost
import Derived.Maps.OwnSet
import Derived.Maps.Views
namespace Go.Proofs.YtckaoeloofbklaaGreatDoor
open Go Go.RowKit Go.Lib
theorem trim_left (s cs : ByteArray) (w : World) (hcs : cs.size < 4294967281) (ha : cs.data.toList.all (fun b => decide (b.toNat < 128)) = true) :
    Calls Tryz.prog 71 #[.string s, .string cs] w fun e w' => e = .returned (.string ⟨(s.data.toList.dropWhile (cs.data.toList.contains ·)).toArray⟩) ∧ Below w.heap.size w w' :=
  Any.strings_TrimLeft_laid Tryz.lays161 (by kernel_rfl) s cs w hcs (fun j b hj => of_decide_eq_true (List.all_eq_true.1 ha b (List.mem_of_getElem? hj)))
theorem blanks_is : ∀ c : UInt8, (([32, 9, 10, 13] : List UInt8)).contains c = isBl c := by
  intro c
  have key : ∀ c : Fin 256, (([32, 9, 10, 13] : List UInt8)).contains (UInt8.ofNat c.val) = isBl (UInt8.ofNat c.val) := by decide +kernel
  have := key ⟨c.toNat, c.toNat_lt⟩
  simpa only [UInt8.ofNat_toNat] using this
theorem trim_blanks (s : ByteArray) (w : World) :
    Calls Tryz.prog 71 #[.string s, .string (⟨#[32, 9, 10, 13]⟩ : ByteArray)] w fun e w' => e = .returned (.string ⟨(skipB s.data.toList).toArray⟩) ∧ Below w.heap.size w w' := by
  have := trim_left s (⟨#[32, 9, 10, 13]⟩ : ByteArray) w (by decide) (by decide)
  rw [show (fun x => ((⟨#[32, 9, 10, 13]⟩ : ByteArray)).data.toList.contains x) = isBl from funext blanks_is] at this
  exact this
theorem suf_drop {s : ByteArray} {t : List UInt8} (h : t <:+ s.data.toList) : s.data.toList.drop (s.size - t.length) = t := by
  obtain ⟨p, hp⟩ := h
  have hl := congrArg List.length hp
  rw [List.length_append] at hl
  have hl2 : s.data.toList.length = s.size := by simp
  rw [← hp, show s.size - t.length = p.length by omega, List.drop_left]
theorem suf_ext {s : ByteArray} {t : List UInt8} (h : t <:+ s.data.toList) (m : Nat) (hm : m + t.length = s.size) : (s.extract m s.size).data.toList = t := by
  rw [ext_drop, show m = s.size - t.length by omega, suf_drop h]
theorem skip_suf (t : List UInt8) : skipB t <:+ t := List.dropWhile_suffix _
set_option maxRecDepth 100000 in
set_option maxHeartbeats 4000000 in
theorem blanks_any (r : Nat) (s : ByteArray) (t : List UInt8) (d : Nat) (w : World) (h : Rd r s t d w) :
    Calls Tryz.prog 47 #[.pointer (some ⟨r, 0, none⟩)] w fun e w' => e = .returned (.tuple #[]) ∧ Rd r s (skipB t) d w' ∧ KR r w w' := by
  have hbig := h.big
  obtain ⟨m, hm, c1⟩ := h.pos
  obtain ⟨c0, -, -⟩ := cell_agg3 h.at_
  have f1 := froz_agg h.at_ 1
  have hex := suf_ext h.suf m hm
  have hT : ∀ W, Calls Tryz.prog 71 #[.string (s.extract m s.size), .string (⟨#[32, 9, 10, 13]⟩ : ByteArray)] W fun e w' => e = .returned (.string ⟨(skipB t).toArray⟩) ∧ Below W.heap.size W w' := fun W => by
    have := trim_blanks (s.extract m s.size) W
    rwa [hex] at this
  have hsl : ∀ W, (Instr.slice 9 (.string s) (some (.int .i64 m)) Option.none Option.none).run Tryz.prog W = .ok (.string (s.extract m s.size)) W := fun W => run_slice_string_l W _ s Tryz.underlying9 .i64 m (by omega) (by omega)
  have hsk := (skip_suf t).length_le
  have hsz : (⟨(skipB t).toArray⟩ : ByteArray).size = (skipB t).length := rfl
  obtain ⟨k, hk⟩ : ∃ k, k + (skipB t).length = s.size := ⟨s.size - (skipB t).length, by omega⟩
  have hsub : (s.size : Int) - ((skipB t).length : Int) = (k : Int) := by omega
  have hwk : IntKind.i64.wrap (k : Int) = (k : Int) := by rw [IntKind.wrap_i64]; omega
  have HT := Lib.hid hT
  have hset := fun (w' : World) (hb : Below w.heap.size w w') => (h.below hb).set' (t' := skipB t) (skip_suf t) k hk
  have HSET := Lib.hid hset
  have HH := Lib.hid h
  have hrl := h.lt
  have hat := h.at_
  have HAT := Lib.hid hat
  clear hT hex hset h hat hk
  generalize s.extract m s.size = sx at *
  generalize (⟨(skipB t).toArray⟩ : ByteArray) = sy at *
  generalize (skipB t).length = n at *
  subst hsz
  go_enter Tryz.func47, Tryz.ntmps47
  go_region_with (first | (refine (HT.out _).mono ?_; rintro e w5 ⟨rfl, hb5⟩; have ha5 := (hb5.block r (by simpa using hrl)).trans HAT.out; obtain ⟨e0, e1, e2⟩ := cell_agg3 ha5; have f5 := froz_agg ha5 1) | fail)
  all_goals
    go_end0
    exact ⟨rfl, HSET.out _ ((Below.refl _ _).drew.trans hb5), (KR.of ((Below.refl _ _).drew.trans hb5)).set _ _⟩
end Go.Proofs.YtckaoeloofbklaaGreatDoor
namespace Go.Proofs.YtckaoeloofbklaaGreatDoor
open Go Go.RowKit Go.Lib
theorem toN (z : Int) (k : Nat) (h : z = (k : Int)) : z.toNat.toUInt8 = UInt8.ofNat k := by subst h; rfl
theorem utf_enc (n : Nat) : Utf8.encode (n : Int) = ⟨(enc n).toArray⟩ := by
  have hnat : ((n : Int)).toNat = n := by omega
  unfold enc Go.Lib.encodeRune
  by_cases hs : Scal n
  · have hv : Utf8.valid (n : Int) = true := by
      unfold Scal at hs
      simp [Utf8.valid]
      omega
    unfold Utf8.encode
    simp only [hv, if_true, hnat]
    unfold Scal at hs
    by_cases h1 : n < 128
    · rw [if_pos h1, Lib.encodeRuneZ_one (by omega) (by omega)]
      rfl
    · rw [if_neg h1]
      by_cases h2 : n < 2048
      · rw [if_pos h2, Lib.encodeRuneZ_two (by omega) (by omega)]
        simp only [List.map_cons, List.map_nil]
        rw [toN _ (192 + n / 64) (by omega), toN _ (128 + n % 64) (by omega)]
      · rw [if_neg h2]
        by_cases h3 : n < 65536
        · rw [if_pos h3, Lib.encodeRuneZ_three (by omega)]
          simp only [List.map_cons, List.map_nil]
          rw [toN _ (224 + n / 4096) (by omega), toN _ (128 + n / 64 % 64) (by omega), toN _ (128 + n % 64) (by omega)]
        · rw [if_neg h3, Lib.encodeRuneZ_four (by omega) (by omega)]
          simp only [List.map_cons, List.map_nil]
          rw [toN _ (240 + n / 262144) (by omega), toN _ (128 + n / 4096 % 64) (by omega), toN _ (128 + n / 64 % 64) (by omega), toN _ (128 + n % 64) (by omega)]
  · have hv : Utf8.valid (n : Int) = false := by
      unfold Scal at hs
      simp [Utf8.valid]
      omega
    unfold Scal at hs
    unfold Utf8.encode
    simp only [hv, Bool.false_eq_true, if_false]
    rw [Lib.encodeRuneZ_bad (by omega)]
    rfl
theorem conv_rune (n : Nat) (W : World) : (convert 21 9 (.int .i32 (n : Int))).run Tryz.prog W = .ok (.string ⟨(enc n).toArray⟩) W := by
  rw [run_convert_int_string W 21 9 .i32 n (by kernel_rfl) Tryz.underlying9, utf_enc]
theorem Rd.cell1 {r : Nat} {s : ByteArray} {t : List UInt8} {d : Nat} {w : World} (h : Rd r s t d w) (m : Nat) (hm : m + t.length = s.size) : w.cell? ⟨r, 1, none⟩ = some (.int .i64 (m : Int)) := by
  obtain ⟨k, hk, hc⟩ := h.pos
  rwa [show k = m by omega] at hc
theorem has_pre_no (t : List UInt8) (h : t.take 2 ≠ [92, 117]) : Lib.hasPrefix t [92, 117] = false := by
  unfold Lib.hasPrefix
  rw [Bool.eq_false_iff]
  intro hp
  apply h
  rw [List.isPrefixOf_iff_prefix] at hp
  obtain ⟨u, rfl⟩ := hp
  rfl
theorem ixb_none : Lib.indexByte (⟨#[34, 92, 47, 98, 102, 110, 114, 116]⟩ : ByteArray).data.toList ((117 : Int)).toNat.toUInt8 = -1 := by decide
set_option maxRecDepth 100000 in
set_option maxHeartbeats 4000000 in
theorem escape_one (r : Nat) (s : ByteArray) (t : List UInt8) (a b c d : UInt8) (n dd : Nat) (w : World) (h : Rd r s (92 :: 117 :: a :: b :: c :: d :: t) dd w) (hn : hex4 a b c d = some n) (hr : n < 55296 ∨ 56320 ≤ n) :
    Calls Tryz.prog 113 #[.pointer (some ⟨r, 0, none⟩)] w fun e w' => e = .returned (.string ⟨(enc n).toArray⟩) ∧ Rd r s t dd w' ∧ KR r w w' := by
  have hbig := h.big
  obtain ⟨m, hlt, hm, -, c1⟩ := h.head
  have HM := Lib.hid (show m + (92 :: 117 :: a :: b :: c :: d :: t).length = s.size from hm)
  simp only [List.length_cons] at hm
  obtain ⟨c0, -, -⟩ := cell_agg3 h.at_
  have f1 := froz_agg h.at_ 1
  obtain ⟨hn1, -, -⟩ := hex4_val a b c d n hn
  have hsuf := h.suf
  obtain ⟨h0, hu⟩ := suf_get ((List.suffix_cons 92 _).trans hsuf)
  simp only [List.length_cons] at h0 hu
  obtain ⟨hlt1, hu2⟩ : ∃ hl : m + 1 < s.size, s[m + 1] = 117 := by
    have : s.size - (t.length + 1 + 1 + 1 + 1 + 1) = m + 1 := by omega
    simp only [this] at hu h0
    exact ⟨h0, hu⟩
  clear hu h0
  have hX : ∀ W, Rd r s (92 :: 117 :: a :: b :: c :: d :: t) dd W → Calls Tryz.prog 146 #[.pointer (some ⟨r, 0, none⟩), .int .i64 ((m : Int) + 2)] W fun e w' => e = .returned (.tuple #[.int .i32 (n : Int), .bool true]) ∧ Rd r s (92 :: 117 :: a :: b :: c :: d :: t) dd w' ∧ KR r W w' := fun W (hW : Rd r s (92 :: 117 :: a :: b :: c :: d :: t) dd W) => hexJ_any r s _ t a b c d n dd W hW (m + 2) (by simp; omega) (((List.suffix_cons 117 _).trans (List.suffix_cons 92 _)).trans hsuf) hn
  have hI := fun W => Tryz.strings_IndexByte ⟨#[34, 92, 47, 98, 102, 110, 114, 116]⟩ 117 W
  rw [ixb_none] at hI
  have hset : ∀ W, Rd r s (92 :: 117 :: a :: b :: c :: d :: t) dd W → Rd r s t dd (W.setCell ⟨r, 1, none⟩ (.int .i64 ((m : Int) + 6))) := fun W (hW : Rd r s (92 :: 117 :: a :: b :: c :: d :: t) dd W) => hW.set' (t' := t) (((((List.suffix_cons _ _).trans (List.suffix_cons _ _)).trans (List.suffix_cons _ _)).trans (List.suffix_cons _ _)).trans ((List.suffix_cons _ _).trans (List.suffix_cons _ _))) (m + 6) (by omega)
  have HX := Lib.hid hX
  have HI := Lib.hid hI
  have HSET := Lib.hid hset
  have HH := Lib.hid h
  have hm6 : (m : Int) + 6 ≤ s.size := by omega
  have hne : ((m : Int) + 1 == (s.size : Int)) = false := by rw [beq_eq_false_iff_ne]; omega
  have hcr := fun W => conv_rune n W
  clear hX hI hset h hsuf hm
  rcases hr with hr | hr
  · have g1 : (55296 : Int) ≤ (n : Int) ↔ False := by simp; omega
    go_enter Tryz.func113, Tryz.ntmps113
    go_wp2_with (first | (go_at_call 118; refine (HI.out _).mono ?_; rintro e w5 ⟨rfl, rfl⟩) | fail)
    refine (HX.out _ HH.out).mono ?_
    rintro e w6 ⟨rfl, hr6, hk6⟩
    obtain ⟨d0, -, -⟩ := cell_agg3 hr6.at_
    have d1 := hr6.cell1 m HM.out
    have f6 := froz_agg hr6.at_ 1
    have HR6 := Lib.hid (HSET.out _ hr6)
    have HK6 := Lib.hid hk6
    clear hr6 hk6 c0 c1 f1
    go_upto_region 15 with fail
    go_quiet (fail)
    go_wp2_with fail
    go_ret
    exact ⟨rfl, HR6.out.drewN _, (HK6.out.set _ _).drewN _⟩
  · have g1 : (55296 : Int) ≤ (n : Int) := by omega
    have g2 : decide ((n : Int) < 56320) = false := by rw [decide_eq_false_iff_not]; omega
    have g3 : decide (n < 56320) = false := by rw [decide_eq_false_iff_not]; omega
    go_enter Tryz.func113, Tryz.ntmps113
    go_wp2_with (first | (go_at_call 118; refine (HI.out _).mono ?_; rintro e w5 ⟨rfl, rfl⟩) | fail)
    refine (HX.out _ HH.out).mono ?_
    rintro e w6 ⟨rfl, hr6, hk6⟩
    obtain ⟨d0, -, -⟩ := cell_agg3 hr6.at_
    have d1 := hr6.cell1 m HM.out
    have f6 := froz_agg hr6.at_ 1
    have HR6 := Lib.hid (HSET.out _ hr6)
    have HK6 := Lib.hid hk6
    clear hr6 hk6 c0 c1 f1
    go_upto_region 15 with fail
    go_quiet (fail)
    go_wp2_with fail
    go_ret
    exact ⟨rfl, HR6.out.drewN _, (HK6.out.set _ _).drewN _⟩
set_option maxRecDepth 100000 in
set_option maxHeartbeats 4000000 in
theorem escape_lone (r : Nat) (s : ByteArray) (t : List UInt8) (a b c d : UInt8) (n dd : Nat) (w : World) (h : Rd r s (92 :: 117 :: a :: b :: c :: d :: t) dd w) (hn : hex4 a b c d = some n) (hr1 : 55296 ≤ n) (hr2 : n < 56320) (ht : t.take 2 ≠ [92, 117]) :
    Calls Tryz.prog 113 #[.pointer (some ⟨r, 0, none⟩)] w fun e w' => e = .returned (.string ⟨(enc n).toArray⟩) ∧ Rd r s t dd w' ∧ KR r w w' := by
  have hbig := h.big
  obtain ⟨m, hlt, hm, -, c1⟩ := h.head
  have HM := Lib.hid (show m + (92 :: 117 :: a :: b :: c :: d :: t).length = s.size from hm)
  simp only [List.length_cons] at hm
  obtain ⟨c0, -, -⟩ := cell_agg3 h.at_
  have f1 := froz_agg h.at_ 1
  obtain ⟨hn1, -, -⟩ := hex4_val a b c d n hn
  have hsuf := h.suf
  obtain ⟨h0, hu⟩ := suf_get ((List.suffix_cons 92 _).trans hsuf)
  simp only [List.length_cons] at h0 hu
  obtain ⟨hlt1, hu2⟩ : ∃ hl : m + 1 < s.size, s[m + 1] = 117 := by
    have : s.size - (t.length + 1 + 1 + 1 + 1 + 1) = m + 1 := by omega
    simp only [this] at hu h0
    exact ⟨h0, hu⟩
  clear hu h0
  have hX : ∀ W, Rd r s (92 :: 117 :: a :: b :: c :: d :: t) dd W → Calls Tryz.prog 146 #[.pointer (some ⟨r, 0, none⟩), .int .i64 ((m : Int) + 2)] W fun e w' => e = .returned (.tuple #[.int .i32 (n : Int), .bool true]) ∧ Rd r s (92 :: 117 :: a :: b :: c :: d :: t) dd w' ∧ KR r W w' := fun W (hW : Rd r s (92 :: 117 :: a :: b :: c :: d :: t) dd W) => hexJ_any r s _ t a b c d n dd W hW (m + 2) (by simp; omega) (((List.suffix_cons 117 _).trans (List.suffix_cons 92 _)).trans hsuf) hn
  have hI := fun W => Tryz.strings_IndexByte ⟨#[34, 92, 47, 98, 102, 110, 114, 116]⟩ 117 W
  rw [ixb_none] at hI
  have hset : ∀ W, Rd r s (92 :: 117 :: a :: b :: c :: d :: t) dd W → Rd r s t dd (W.setCell ⟨r, 1, none⟩ (.int .i64 ((m : Int) + 6))) := fun W (hW : Rd r s (92 :: 117 :: a :: b :: c :: d :: t) dd W) => hW.set' (t' := t) (((((List.suffix_cons _ _).trans (List.suffix_cons _ _)).trans (List.suffix_cons _ _)).trans (List.suffix_cons _ _)).trans ((List.suffix_cons _ _).trans (List.suffix_cons _ _))) (m + 6) (by omega)
  have HX := Lib.hid hX
  have HI := Lib.hid hI
  have HSET := Lib.hid hset
  have HH := Lib.hid h
  have hm6 : (m : Int) + 6 ≤ s.size := by omega
  have hne : ((m : Int) + 1 == (s.size : Int)) = false := by rw [beq_eq_false_iff_ne]; omega
  have hcr := fun W => conv_rune n W
  have hts : (s.extract (m + 6) s.size).data.toList = t := suf_ext ((((((List.suffix_cons _ _).trans (List.suffix_cons _ _)).trans (List.suffix_cons _ _)).trans (List.suffix_cons _ _)).trans ((List.suffix_cons _ _).trans (List.suffix_cons _ _))).trans hsuf) (m + 6) (by omega)
  have hsl : ∀ W, (Instr.slice 9 (.string s) (some (.int .i64 ((m : Int) + 6))) Option.none Option.none).run Tryz.prog W = .ok (.string (s.extract (m + 6) s.size)) W := fun W => run_slice_string_l W _ s Tryz.underlying9 .i64 ((m : Int) + 6) (by omega) (by omega)
  have hpr : ∀ W, Calls Tryz.prog 150 #[.string (s.extract (m + 6) s.size), .string ⟨#[92, 117]⟩] W fun e w' => e = .returned (.bool false) ∧ w' = W := fun W => by
    have := Tryz.strings_HasPrefix (s.extract (m + 6) s.size) ⟨#[92, 117]⟩ W
    rw [hts, has_pre_no t ht] at this
    exact this
  have HPR := Lib.hid hpr
  generalize s.extract (m + 6) s.size = sx at *
  clear hX hI hset h hsuf hm hpr hts
  have g1 : (55296 : Int) ≤ (n : Int) := by omega
  have g2 : (n : Int) < 56320 := by omega
  go_enter Tryz.func113, Tryz.ntmps113
  go_wp2_with (first | (go_at_call 118; refine (HI.out _).mono ?_; rintro e w5 ⟨rfl, rfl⟩) | fail)
  refine (HX.out _ HH.out).mono ?_
  rintro e w6 ⟨rfl, hr6, hk6⟩
  obtain ⟨d0, -, -⟩ := cell_agg3 hr6.at_
  have d1 := hr6.cell1 m HM.out
  have f6 := froz_agg hr6.at_ 1
  have HR6 := Lib.hid (HSET.out _ hr6)
  have HK6 := Lib.hid hk6
  clear hr6 hk6 c0 c1 f1
  go_upto_region 15 with fail
  go_quiet ((exact Calls.quiet_of_same (HPR.out _)))
  go_wp2_with fail
  go_ret
  exact ⟨rfl, HR6.out.drewN _, (HK6.out.set _ _).drewN _⟩
set_option maxRecDepth 100000 in
set_option maxHeartbeats 4000000 in
theorem escape_pair (r : Nat) (s : ByteArray) (t : List UInt8) (a b c d a' b' c' d' : UInt8) (n n' dd : Nat) (w : World) (h : Rd r s (92 :: 117 :: a :: b :: c :: d :: 92 :: 117 :: a' :: b' :: c' :: d' :: t) dd w) (hn : hex4 a b c d = some n) (hr1 : 55296 ≤ n) (hr2 : n < 56320) (hn' : hex4 a' b' c' d' = some n') (hr3 : 56320 ≤ n') (hr4 : n' < 57344) :
    Calls Tryz.prog 113 #[.pointer (some ⟨r, 0, none⟩)] w fun e w' => e = .returned (.string ⟨(enc (65536 + (n - 55296) * 1024 + (n' - 56320))).toArray⟩) ∧ Rd r s t dd w' ∧ KR r w w' := by
  have hbig := h.big
  obtain ⟨m, hlt, hm, -, c1⟩ := h.head
  have HM := Lib.hid (show m + (92 :: 117 :: a :: b :: c :: d :: 92 :: 117 :: a' :: b' :: c' :: d' :: t).length = s.size from hm)
  simp only [List.length_cons] at hm
  obtain ⟨c0, -, -⟩ := cell_agg3 h.at_
  have f1 := froz_agg h.at_ 1
  obtain ⟨hn1, -, -⟩ := hex4_val a b c d n hn
  obtain ⟨hn1', -, -⟩ := hex4_val a' b' c' d' n' hn'
  have hsuf := h.suf
  obtain ⟨h0, hu⟩ := suf_get ((List.suffix_cons 92 _).trans hsuf)
  simp only [List.length_cons] at h0 hu
  obtain ⟨hlt1, hu2⟩ : ∃ hl : m + 1 < s.size, s[m + 1] = 117 := by
    have : s.size - (t.length + 1 + 1 + 1 + 1 + 1 + 1 + 1 + 1 + 1 + 1 + 1) = m + 1 := by omega
    simp only [this] at hu h0
    exact ⟨h0, hu⟩
  clear hu h0
  have hX : ∀ W, Rd r s (92 :: 117 :: a :: b :: c :: d :: 92 :: 117 :: a' :: b' :: c' :: d' :: t) dd W → Calls Tryz.prog 146 #[.pointer (some ⟨r, 0, none⟩), .int .i64 ((m : Int) + 2)] W fun e w' => e = .returned (.tuple #[.int .i32 (n : Int), .bool true]) ∧ Rd r s (92 :: 117 :: a :: b :: c :: d :: 92 :: 117 :: a' :: b' :: c' :: d' :: t) dd w' ∧ KR r W w' := fun W (hW : Rd r s (92 :: 117 :: a :: b :: c :: d :: 92 :: 117 :: a' :: b' :: c' :: d' :: t) dd W) => hexJ_any r s _ (92 :: 117 :: a' :: b' :: c' :: d' :: t) a b c d n dd W hW (m + 2) (by simp; omega) (((List.suffix_cons 117 _).trans (List.suffix_cons 92 _)).trans hsuf) hn
  have hI := fun W => Tryz.strings_IndexByte ⟨#[34, 92, 47, 98, 102, 110, 114, 116]⟩ 117 W
  rw [ixb_none] at hI
  have hset : ∀ W, Rd r s (92 :: 117 :: a :: b :: c :: d :: 92 :: 117 :: a' :: b' :: c' :: d' :: t) dd W → Rd r s (92 :: 117 :: a' :: b' :: c' :: d' :: t) dd (W.setCell ⟨r, 1, none⟩ (.int .i64 ((m : Int) + 6))) := fun W (hW : Rd r s (92 :: 117 :: a :: b :: c :: d :: 92 :: 117 :: a' :: b' :: c' :: d' :: t) dd W) => hW.set' (t' := (92 :: 117 :: a' :: b' :: c' :: d' :: t)) (((((List.suffix_cons _ _).trans (List.suffix_cons _ _)).trans (List.suffix_cons _ _)).trans (List.suffix_cons _ _)).trans ((List.suffix_cons _ _).trans (List.suffix_cons _ _))) (m + 6) (by simp only [List.length_cons]; omega)
  have hX2 : ∀ W, Rd r s (92 :: 117 :: a' :: b' :: c' :: d' :: t) dd W → Calls Tryz.prog 146 #[.pointer (some ⟨r, 0, none⟩), .int .i64 ((m : Int) + 6 + 2)] W fun e w' => e = .returned (.tuple #[.int .i32 (n' : Int), .bool true]) ∧ Rd r s (92 :: 117 :: a' :: b' :: c' :: d' :: t) dd w' ∧ KR r W w' := fun W (hW : Rd r s (92 :: 117 :: a' :: b' :: c' :: d' :: t) dd W) => hexJ_any r s _ t a' b' c' d' n' dd W hW (m + 6 + 2) (by simp; omega) (((List.suffix_cons 117 _).trans (List.suffix_cons 92 _)).trans ((((((List.suffix_cons _ _).trans (List.suffix_cons _ _)).trans (List.suffix_cons _ _)).trans (List.suffix_cons _ _)).trans ((List.suffix_cons _ _).trans (List.suffix_cons _ _))).trans hsuf)) hn'
  have HX2 := Lib.hid hX2
  have hset2 : ∀ W, Rd r s (92 :: 117 :: a' :: b' :: c' :: d' :: t) dd W → Rd r s t dd (W.setCell ⟨r, 1, none⟩ (.int .i64 ((m : Int) + 6 + 6))) := fun W hW => hW.set' (t' := t) (((((List.suffix_cons _ _).trans (List.suffix_cons _ _)).trans (List.suffix_cons _ _)).trans (List.suffix_cons _ _)).trans ((List.suffix_cons _ _).trans (List.suffix_cons _ _))) (m + 6 + 6) (by omega)
  have HSET2 := Lib.hid hset2
  have HM2 := Lib.hid (show (m + 6) + (92 :: 117 :: a' :: b' :: c' :: d' :: t).length = s.size by simp; omega)
  have HX := Lib.hid hX
  have HI := Lib.hid hI
  have HSET := Lib.hid hset
  have HH := Lib.hid h
  have hm6 : (m : Int) + 12 ≤ s.size := by omega
  have hne : ((m : Int) + 1 == (s.size : Int)) = false := by rw [beq_eq_false_iff_ne]; omega
  have hts : (s.extract (m + 6) s.size).data.toList = (92 :: 117 :: a' :: b' :: c' :: d' :: t) := suf_ext ((((((List.suffix_cons _ _).trans (List.suffix_cons _ _)).trans (List.suffix_cons _ _)).trans (List.suffix_cons _ _)).trans ((List.suffix_cons _ _).trans (List.suffix_cons _ _))).trans hsuf) (m + 6) (by simp only [List.length_cons]; omega)
  have hsl : ∀ W, (Instr.slice 9 (.string s) (some (.int .i64 ((m : Int) + 6))) Option.none Option.none).run Tryz.prog W = .ok (.string (s.extract (m + 6) s.size)) W := fun W => run_slice_string_l W _ s Tryz.underlying9 .i64 ((m : Int) + 6) (by omega) (by omega)
  have hpr : ∀ W, Calls Tryz.prog 150 #[.string (s.extract (m + 6) s.size), .string ⟨#[92, 117]⟩] W fun e w' => e = .returned (.bool true) ∧ w' = W := fun W => by
    have := Tryz.strings_HasPrefix (s.extract (m + 6) s.size) ⟨#[92, 117]⟩ W
    rw [hts, show Lib.hasPrefix (92 :: 117 :: a' :: b' :: c' :: d' :: t) (⟨#[92, 117]⟩ : ByteArray).data.toList = true from by simp [Lib.hasPrefix]] at this
    exact this
  have HPR := Lib.hid hpr
  generalize s.extract (m + 6) s.size = sx at *
  clear hX2 hset2 hX hI hset h hsuf hm hpr hts
  have g1 : (55296 : Int) ≤ (n : Int) := by omega
  have g2 : (n : Int) < 56320 := by omega
  go_enter Tryz.func113, Tryz.ntmps113
  go_wp2_with (first | (go_at_call 118; refine (HI.out _).mono ?_; rintro e w5 ⟨rfl, rfl⟩) | fail)
  refine (HX.out _ HH.out).mono ?_
  rintro e w6 ⟨rfl, hr6, hk6⟩
  obtain ⟨d0, -, -⟩ := cell_agg3 hr6.at_
  have d1 := hr6.cell1 m HM.out
  have f6 := froz_agg hr6.at_ 1
  have HR6 := Lib.hid (HSET.out _ hr6)
  have HK6 := Lib.hid hk6
  clear hr6 hk6 c0 c1 f1
  go_upto_region 15 with fail
  go_quiet ((exact Calls.quiet_of_same (HPR.out _)))
  go_wp2_with fail
  refine (HX2.out _ (HR6.out.drewN _)).mono ?_
  rintro e w7 ⟨rfl, hr7, hk7⟩
  obtain ⟨q0, -, -⟩ := cell_agg3 hr7.at_
  have q1 := hr7.cell1 (m + 6) HM2.out
  have f7 := froz_agg hr7.at_ 1
  have HR7 := Lib.hid (HSET2.out _ hr7)
  have HK7 := Lib.hid hk7
  have g3 : (56320 : Int) ≤ (n' : Int) := by omega
  have g4 : (n' : Int) < 57344 := by omega
  clear hr7 hk7 d0 d1 f6
  go_wp2_with fail
  rw [show (65536 + ((n : Int) - 55296) * 1024 + (n' : Int) - 56320) = ((65536 + (n - 55296) * 1024 + (n' - 56320) : Nat) : Int) by omega, utf_enc]
  go_ret
  exact ⟨rfl, HR7.out, ((((HK6.out.set _ _).drewN _).trans HK7.out).set _ _)⟩
end Go.Proofs.YtckaoeloofbklaaGreatDoor
namespace Go.Proofs.YtckaoeloofbklaaGreatDoor
open Go Go.RowKit Go.Lib
theorem escape_any (r : Nat) (s : ByteArray) (x o t : List UInt8) (dd : Nat) (w : World) (h : Rd r s (92 :: x) dd w) (he : Esc enc x o t) :
    Calls Tryz.prog 113 #[.pointer (some ⟨r, 0, none⟩)] w fun e w' => e = .returned (.string ⟨o.toArray⟩) ∧ Rd r s t dd w' ∧ KR r w w' := by
  cases he with
  | one hn hr => exact escape_one r s t _ _ _ _ _ dd w h hn hr
  | lone hn h1 h2 ht => exact escape_lone r s t _ _ _ _ _ dd w h hn h1 h2 ht
  | pair hn h1 h2 hn' h3 h4 => exact escape_pair r s t _ _ _ _ _ _ _ _ _ _ dd w h hn h1 h2 hn' h3 h4
theorem esc_len {x o t : List UInt8} (he : Esc enc x o t) : o.length ≤ 4 ∧ t.length + 5 ≤ x.length ∧ t <:+ x := by
  cases he with
  | one hn hr => exact ⟨(enc_len _).2, by simp, ⟨[117, _, _, _, _], rfl⟩⟩
  | lone hn h1 h2 ht => exact ⟨(enc_len _).2, by simp, ⟨[117, _, _, _, _], rfl⟩⟩
  | pair hn h1 h2 hn' h3 h4 => exact ⟨(enc_len _).2, by simp, ⟨[117, _, _, _, _, 92, 117, _, _, _, _], rfl⟩⟩
theorem dec_len (l : List UInt8) : (decB8 l).length ≤ 4 * l.length := by
  have h1 := encs_len (pts l)
  have h2 := pts_len l
  unfold decB8
  omega
theorem BL.kr {B b r : Nat} {l : List UInt8} {W W' : World} (h : BL B b l W) (hk : KR r W W') (hr : ∃ c, W.heap[r]? = some (.cells c 56 (0, 0))) : BL B b l W' := by
  obtain ⟨c, hr⟩ := hr
  rcases h with ⟨h1, v, h2, h3, h4⟩ | ⟨h1, v, h2, h3, h4⟩
  all_goals
    have hb : b ≠ r := by rintro rfl; rw [h2] at hr; simp at hr
    have hv : W'.ownsRowF B 5 1 v (Lib.byteCells l).length (Lib.byteCells l) := by
      refine ⟨h3.1, ?_⟩
      rcases h3.2 with g | ⟨g, cap, cur, fz, g1, g2, g3, g4⟩
      · exact .inl g
      · refine .inr ⟨g, cap, cur, fz, g1, g2, ?_, g4⟩
        rw [hk.block g (Array.getElem?_eq_some_iff.1 g3).1 (by rintro rfl; rw [g3] at hr; simp at hr)]
        exact g3
    have hbk := (hk.block b (Array.getElem?_eq_some_iff.1 h2).1 hb).trans h2
  · exact .inl ⟨h1, v, hbk, hv, h4⟩
  · exact .inr ⟨h1, v, hbk, hv, h4⟩
theorem Rd.obj {r : Nat} {s : ByteArray} {t : List UInt8} {d : Nat} {w : World} (h : Rd r s t d w) : ∃ c, w.heap[r]? = some (.cells c 56 (0, 0)) := ⟨_, h.at_⟩
theorem Rd.bw {B b r : Nat} {l : List UInt8} {s : ByteArray} {t : List UInt8} {d : Nat} {W W' : World} (h : Rd r s t d W) (hw : BW B b l W W') (hb : b ≠ r) : Rd r s t d W' := by
  refine h.kept ?_
  rw [h.at_]
  exact hw.oth _ _ h.at_ (by simp; omega) (fun c fz e => by injection e with _ e _; simp at e)
theorem KR.low {r B : Nat} {a w w' : World} (h : KR r a w) (hb : Below B w w') (hB : a.heap.size ≤ B) : KR r a w' :=
  ⟨hb.os.trans h.os, hb.tape.trans h.tape, hb.output.trans h.output, Nat.le_trans h.size hb.size, fun k hk hr => (hb.block k (by omega)).trans (h.block k hk hr)⟩
theorem KR.low' {r n : Nat} {a w : World} (h : KR r a w) (hn : n ≤ r) (hn2 : n ≤ a.heap.size) : Below n a w := ⟨h.os, h.tape, h.output, h.size, fun k hk => h.block k (by omega) (by omega)⟩
set_option maxRecDepth 100000 in
set_option maxHeartbeats 4000000 in
theorem quoted_any (r : Nat) (s : ByteArray) (t out t' : List UInt8) (d : Nat) (w : World) (h : Rd r s (34 :: t) d w) (h17 : 17 ≤ r) (hT : Lib.Utf8Tabs 0 1 w) (hs : Str decB8 enc t out t') :
    Calls Tryz.prog 76 #[.pointer (some ⟨r, 0, none⟩)] w fun e w' => e = .returned (.string ⟨out.toArray⟩) ∧ Rd r s t' d w' ∧ KR r w w' := by
  have hbig := h.big
  have HMU := Lib.hid (must_yes r s 34 t d w h)
  have hrl := h.lt
  have HT := Lib.hid hT
  have HS := Lib.hid hs
  clear h hT hs
  go_enter Tryz.func76, Tryz.ntmps76
  go_wp2_with fail
  refine HMU.out.mono ?_
  rintro e w1 ⟨rfl, hr1, hk1⟩
  have HR1 := Lib.hid hr1
  have HK1 := Lib.hid hk1
  have h1s := hk1.size
  clear hr1 hk1
  go_wp2_with fail
  have hbl := bl_new w1.heap.size w1 (Nat.le_refl _)
  have hrA := HR1.out.alloc (.cells #[.pointer none, .slice none 0 0] 49)
  have hkA := HK1.out.alloc (.cells #[.pointer none, .slice none 0 0] 49)
  have hsA : w1.heap.size < (w1.alloc (.cells #[.pointer none, .slice none 0 0] 49)).heap.size := by simp
  have HBL := Lib.hid hbl
  have HRA := Lib.hid hrA
  have HKA := Lib.hid hkA
  clear hbl hrA hkA
  generalize w1.alloc (.cells #[.pointer none, .slice none 0 0] 49) = wA at *
  obtain ⟨b, hb⟩ : ∃ b, b = w1.heap.size := ⟨_, rfl⟩
  rw [← hb] at HBL hsA h1s
  rw [← hb]
  have hbr : b ≠ r := by omega
  clear hb HR1 HK1
  go_loopg [] t.length (fun g wr => ∃ (acc u o2 : List UInt8), u.length ≤ g ∧ Str decB8 enc u o2 t' ∧ acc ++ o2 = out ∧ acc.length + 4 * u.length ≤ 4 * s.size ∧ Rd r s u d wr ∧ KR r w wr ∧ BL b b acc wr ∧ b < wr.heap.size)
  case atStart => exact ⟨[], t, out, Nat.le_refl _, HS.out, rfl, by have := HRA.out.len; simp; omega, HRA.out, HKA.out, HBL.out, hsA⟩
  case round =>
    obtain ⟨acc, u, o2, hug, hstr, hacc, hal, hrd, hkr, hbl, hbs⟩ := hrel
    have hTW := utabs_kept HT.out (hkr.low' h17 (by omega))
    cases hstr with
    | last ha =>
      rename_i a
      rw [List.length_append, List.length_cons] at hug hal
      have hlen := hrd.len
      rw [List.length_append, List.length_cons] at hlen
      have HRUN := Lib.hid (run_any _ strC strc_any ent_strc r s a (34 :: t') d wr hrd ha (show strC 34 = false by decide))
      have HKR := Lib.hid hkr
      have HBL2 := Lib.hid (fun w2 (hk : KR r wr w2) => hbl.kr hk hrd.obj)
      have HTW := Lib.hid hTW
      have hrs := hkr.size
      clear hrd hkr hbl hTW
      go_wp2_with fail
      refine HRUN.out.mono ?_
      rintro e w2 ⟨rfl, hr2, hk2⟩
      have hs2 := hk2.size
      have HDEC := Lib.hid (decode_any ⟨a.toArray⟩ w2 (by omega) (utabs_kept HTW.out (hk2.low' h17 (by omega))) (by show a.toArray.size ≤ _; rw [List.size_toArray]; omega))
      have HR2 := Lib.hid hr2
      have HK2 := Lib.hid hk2
      clear hr2 hk2
      go_wp2_with fail
      refine HDEC.out.mono ?_
      rintro e w3 ⟨rfl, hb3⟩
      have hs3 := hb3.size
      have hdl := dec_len a
      have HW := Lib.hid (bw_string b b acc ⟨(decB8 a).toArray⟩ w3 ((HBL2.out _ HK2.out).below hb3) (by show _ + (decB8 a).toArray.size ≤ _; rw [List.size_toArray]; omega) (by omega))
      have HR3 := Lib.hid (HR2.out.below hb3)
      have HK3 := Lib.hid ((HKR.out.trans HK2.out).trans (KR.of hb3))
      clear hb3
      go_wp2_with fail
      refine HW.out.mono ?_
      rintro e w4 ⟨rfl, hw4⟩
      have hr4 := HR3.out.bw hw4 hbr
      have hk4 := HK3.out.low hw4.below h1s
      have hs4 := hw4.below.size
      have HBL4 := Lib.hid hw4.bl
      obtain ⟨k, hlt, hk, -, c1⟩ := hr4.head
      obtain ⟨c0, -, -⟩ := cell_agg3 hr4.at_
      have hne : ((k : Int) == (s.size : Int)) = false := by rw [beq_eq_false_iff_ne]; omega
      have HR4 := Lib.hid hr4
      have HK4 := Lib.hid hk4
      clear hr4 hk4 hw4
      go_upto_region 4 with fail
      go_quiet (fail)
      have HIS := Lib.hid (is_yes r s 34 t' d _ (HR4.out.drewN nq))
      go_wp2_with fail
      refine HIS.out.mono ?_
      rintro e w5 ⟨rfl, hr5, hk5⟩
      have hs5 := hk5.size
      have hbl5 : BL b b (acc ++ decB8 a) w5 := (HBL4.out.below ((Below.refl _ _).trans (bDrewN (Below.refl _ _) nq))).kr hk5 (HR4.out.drewN nq).obj
      have HST := Lib.hid (Tryz.Builder_String_any_k b b _ w5 hbl5 (by have : w4.heap.size ≤ w5.heap.size := hs5; omega))
      have HR5 := Lib.hid hr5
      have HK5 := Lib.hid hk5
      clear hr5 hk5 hbl5
      go_wp2_with fail
      refine HST.out.mono ?_
      rintro e w6 ⟨rfl, hbl6, hb6, hk6⟩
      have hr6 : Rd r s t' d w6 := HR5.out.bw ⟨hbl6, hb6, hk6⟩ hbr
      have HR6 := Lib.hid hr6
      have HB6 := Lib.hid hb6
      clear hbl6 hr6 hb6 hk6
      go_wp2_with fail
      go_ret
      exact ⟨rfl, HR6.out, ((HK4.out.drewN _).trans HK5.out).low HB6.out h1s⟩
    | esc ha he hstr2 =>
      rename_i a TX o1 t1 o3
      rw [List.length_append, List.length_cons] at hug hal
      have hlen := hrd.len
      rw [List.length_append, List.length_cons] at hlen
      have HRUN := Lib.hid (run_any _ strC strc_any ent_strc r s a (92 :: TX) d wr hrd ha (show strC 92 = false by decide))
      have HKR := Lib.hid hkr
      have HBL2 := Lib.hid (fun w2 (hk : KR r wr w2) => hbl.kr hk hrd.obj)
      have HTW := Lib.hid hTW
      have hrs := hkr.size
      clear hrd hkr hbl hTW
      go_wp2_with fail
      refine HRUN.out.mono ?_
      rintro e w2 ⟨rfl, hr2, hk2⟩
      have hs2 := hk2.size
      have HDEC := Lib.hid (decode_any ⟨a.toArray⟩ w2 (by omega) (utabs_kept HTW.out (hk2.low' h17 (by omega))) (by show a.toArray.size ≤ _; rw [List.size_toArray]; omega))
      have HR2 := Lib.hid hr2
      have HK2 := Lib.hid hk2
      clear hr2 hk2
      go_wp2_with fail
      refine HDEC.out.mono ?_
      rintro e w3 ⟨rfl, hb3⟩
      have hs3 := hb3.size
      have hdl := dec_len a
      have HW := Lib.hid (bw_string b b acc ⟨(decB8 a).toArray⟩ w3 ((HBL2.out _ HK2.out).below hb3) (by show _ + (decB8 a).toArray.size ≤ _; rw [List.size_toArray]; omega) (by omega))
      have HR3 := Lib.hid (HR2.out.below hb3)
      have HK3 := Lib.hid ((HKR.out.trans HK2.out).trans (KR.of hb3))
      clear hb3
      go_wp2_with fail
      refine HW.out.mono ?_
      rintro e w4 ⟨rfl, hw4⟩
      have hr4 := HR3.out.bw hw4 hbr
      have hk4 := HK3.out.low hw4.below h1s
      have hs4 := hw4.below.size
      have HBL4 := Lib.hid hw4.bl
      obtain ⟨k, hlt, hk, -, c1⟩ := hr4.head
      obtain ⟨c0, -, -⟩ := cell_agg3 hr4.at_
      have hne : ((k : Int) == (s.size : Int)) = false := by rw [beq_eq_false_iff_ne]; omega
      have HR4 := Lib.hid hr4
      have HK4 := Lib.hid hk4
      clear hr4 hk4 hw4
      go_upto_region 4 with fail
      go_quiet (fail)
      have HIS := Lib.hid (is_no r s 34 (92 :: TX) d _ (HR4.out.drewN nq) (show ((92 : UInt8) == 34) = false by decide))
      go_wp2_with fail
      refine HIS.out.mono ?_
      rintro e w5 ⟨rfl, hr5, hk5⟩
      have hs5 := hk5.size
      have hbl5 : BL b b (acc ++ decB8 a) w5 := (HBL4.out.below ((Below.refl _ _).trans (bDrewN (Below.refl _ _) nq))).kr hk5 (HR4.out.drewN nq).obj
      have HBL5 := Lib.hid hbl5
      have HR5 := Lib.hid hr5
      have HK5 := Lib.hid ((HK4.out.drewN nq).trans hk5)
      have HPK := Lib.hid (peek_cons r s 92 TX d w5 hr5)
      clear hr5 hk5 hbl5 c0 c1
      go_wp2_with fail
      refine HPK.out.mono ?_
      rintro e w6 ⟨rfl, hr6, hk6⟩
      have hs6 := hk6.size
      have HESC := Lib.hid (escape_any r s TX o1 t1 d w6 hr6 he)
      have HBL6 := Lib.hid (HBL5.out.kr hk6 HR5.out.obj)
      have HR6 := Lib.hid hr6
      have HK6 := Lib.hid (HK5.out.trans hk6)
      obtain ⟨hel1, hel2, -⟩ := esc_len he
      clear hr6 hk6
      go_wp2_with fail
      refine HESC.out.mono ?_
      rintro e w7 ⟨rfl, hr7, hk7⟩
      have hs7 := hk7.size
      have hbw : b ≤ w7.heap.size := by have : w4.heap.size ≤ w5.heap.size := hs5; omega
      have HW7 := Lib.hid (bw_string b b (acc ++ decB8 a) ⟨o1.toArray⟩ w7 (HBL6.out.kr hk7 HR6.out.obj) (by show _ + o1.toArray.size ≤ _; rw [List.size_toArray, List.length_append]; omega) hbw)
      have HR7 := Lib.hid hr7
      have HK7 := Lib.hid (HK6.out.trans hk7)
      clear hr7 hk7
      go_wp2_with fail
      refine HW7.out.mono ?_
      rintro e w8 ⟨rfl, hw8⟩
      have hs8 := hw8.below.size
      have HR8 := Lib.hid (HR7.out.bw hw8 hbr)
      have HK8 := Lib.hid (HK7.out.low hw8.below h1s)
      have HBL8 := Lib.hid hw8.bl
      clear hw8
      go_wp2_with fail
      go_roundg t1.length
      case measure => omega
      case rel => exact ⟨acc ++ decB8 a ++ o1, t1, o3, Nat.le_refl _, hstr2, by rw [← hacc]; simp, by rw [List.length_append, List.length_append]; omega, HR8.out, HK8.out, HBL8.out, by obtain ⟨_, _, hh⟩ := HBL8.out.cells; exact (Array.getElem?_eq_some_iff.1 hh).1⟩
end Go.Proofs.YtckaoeloofbklaaGreatDoor
namespace Go.Proofs.YtckaoeloofbklaaGreatDoor
open Go Go.RowKit Go.Lib Go.Maps
theorem lawB : Keyed Tryz.prog 5 := int_keyed Tryz.underlying5
def mvV (r : Nat) (f : Nat) : Value := .func (.func f) #[.pointer (some ⟨r, 0, none⟩)] #[]
def mvR (r : Nat) (v : Value) : Option (DataW Unit × List MemPlace) := match v with
  | .func (.func f) ⟨[.pointer (some ⟨r', 0, none⟩)]⟩ ⟨[]⟩ => if r' = r then some (.lit (.int .i64 f), []) else none
  | .nilFunc => some (.lit (.int .i64 (-1)), [])
  | _ => none
theorem mvR_mk (r f : Nat) : mvR r (mvV r f) = some (.lit (.int .i64 f), []) := by simp [mvR, mvV]
theorem mvR_nil (r : Nat) : mvR r .nilFunc = some (.lit (.int .i64 (-1)), []) := rfl
theorem mvR_inv {r : Nat} {v : Value} {f : Nat} {ps : List MemPlace} (h : mvR r v = some (.lit (.int .i64 (f : Int)), ps)) : v = mvV r f := by
  unfold mvR at h
  split at h
  · split at h
    · rename_i e
      subst e
      simp only [Option.some.injEq, Prod.mk.injEq, DataW.lit.injEq, Lit.int.injEq] at h
      obtain ⟨⟨_, h⟩, _⟩ := h
      rw [mvV, Int.ofNat_inj.1 h]
    · cases h
  · simp only [Option.some.injEq, Prod.mk.injEq, DataW.lit.injEq, Lit.int.injEq] at h
    obtain ⟨⟨_, h⟩, _⟩ := h
    omega
  · cases h
theorem mvR_none {r : Nat} {v : Value} {ps : List MemPlace} (h : mvR r v = some (.lit (.int .i64 (-1)), ps)) : v = .nilFunc := by
  unfold mvR at h
  split at h
  · split at h
    · simp only [Option.some.injEq, Prod.mk.injEq, DataW.lit.injEq, Lit.int.injEq] at h
      obtain ⟨⟨_, h⟩, _⟩ := h
      omega
    · cases h
  · rfl
  · cases h
def u8L (c : Int) : Lit := .int .u8 c
def begD : DataW Unit := (((DataW.put (.map []) (u8L 91) (.lit (.int .i64 48))).put (u8L 123) (.lit (.int .i64 49))).put (u8L 34) (.lit (.int .i64 50))).put (u8L 45) (.lit (.int .i64 51))
def begF (c : UInt8) : Option Nat := if c = 91 then some 48 else if c = 123 then some 49 else if c = 34 then some 50 else if c = 45 then some 51 else none
def begZ (c : UInt8) : Int := match begF c with | some f => f | none => -1
theorem beg_ne (c : UInt8) (k : UInt8) (h : ¬ c = k) : u8L (c.toNat : Int) ≠ u8L (k.toNat : Int) := by
  unfold u8L
  intro e
  injection e with _ e
  exact h (UInt8.toNat_inj.1 (by omega))
theorem beg_at (c : UInt8) : begD.atKey (u8L (c.toNat : Int)) (.lit (.int .i64 (-1))) = .lit (.int .i64 (begZ c)) ∧ Maps.has begD (u8L (c.toNat : Int)) = (begF c).isSome := by
  by_cases h1 : c = 91
  · subst h1; exact ⟨rfl, rfl⟩
  by_cases h2 : c = 123
  · subst h2; exact ⟨rfl, rfl⟩
  by_cases h3 : c = 34
  · subst h3; exact ⟨rfl, rfl⟩
  by_cases h4 : c = 45
  · subst h4; exact ⟨rfl, rfl⟩
  have e : begF c = none := by unfold begF; rw [if_neg h1, if_neg h2, if_neg h3, if_neg h4]
  have g1 : u8L (c.toNat : Int) ≠ u8L 91 := beg_ne c 91 h1
  have g2 : u8L (c.toNat : Int) ≠ u8L 123 := beg_ne c 123 h2
  have g3 : u8L (c.toNat : Int) ≠ u8L 34 := beg_ne c 34 h3
  have g4 : u8L (c.toNat : Int) ≠ u8L 45 := beg_ne c 45 h4
  unfold begZ
  rw [e]
  unfold begD
  rw [atKey_put_other g4, atKey_put_other g3, atKey_put_other g2, atKey_put_other g1, has_put_other g4, has_put_other g3, has_put_other g2, has_put_other g1]
  exact ⟨rfl, rfl⟩
theorem wpList_insert_own {H : Type} {P : Program} (w : World) {ops : Array Oper} {rest : List Oper} {o : Oper} {a : Act} {Q : Exit → Act → World → Prop}
    (hg : o.guard = none) (m x v : Operand) (t : TypeId) (hop : o.op = Op.insert t m x v)
    (k e : TypeId) (K : Keyed P k) (ht : P.underlying t = some (.map k e)) (R : Value → Option (DataW H × List MemPlace)) (b n : Nat) (D : DataW H)
    (hm : a.eval m = .map (some b)) (hown : w.ownsMap P k R b n D) (hn : n < maxLen) (key val : Value) (kl : Lit) (hx : a.eval x = key) (hv : a.eval v = val) (hkey : keyOf P k key = some kl)
    (d : DataW H) (ps : List MemPlace) (hval : R val = some (d, ps))
    (hK : ∀ w', w'.ownsMap P k R b (n + 1) (D.put kl d) → w.grownBy w' (some b) → wpList P ops Q rest (a.put o.dst undef) w') :
    wpList P ops Q (o :: rest) a w := by
  refine wpList_plain hg fun K' hK' => ?_
  obtain ⟨w', hrun, r1, r2⟩ := hown.update K ht hn hkey hval
  unfold Oper.wp
  simp [execOp, hop, hm, hx, hv, hrun, Result.andThen]
  exact hK' _ _ (hK w' r1 r2)
theorem key8 (c : Nat) (h : c < 256) : keyOf Tryz.prog 5 (.int .u8 (c : Int)) = some (u8L (c : Int)) := keyOf_int_mk Tryz.underlying5 (by simp only [Lit.wf, Bool.and_eq_true, decide_eq_true_eq]; exact ⟨show (0 : Int) ≤ c by omega, show (c : Int) ≤ 255 by omega⟩)
end Go.Proofs.YtckaoeloofbklaaGreatDoor
