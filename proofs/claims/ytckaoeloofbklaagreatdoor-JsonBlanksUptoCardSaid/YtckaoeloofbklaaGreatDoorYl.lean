/- Joined texts: Kc Ja Je Jc Jd Jf Hd Kd Ke. Each begins with its own remark. -/
import Derived.Test.YtckaoeloofbklaaGreatDoorYd
import Derived.Test.YtckaoeloofbklaaGreatDoorYk
import Derived.Test.YtckaoeloofbklaaGreatDoorYc
import Derived.Shelf.Strings.SlTrimAscii
import Derived.Deep.RegionHeld
import Derived.Deep.QuietTactic
import Derived.BigQuiet
import Derived.Test.YtckaoeloofbklaaGreatDoorYi
import Derived.Deep.LoopGhost
import Derived.Deep.Cut
namespace Go.Proofs.YtckaoeloofbklaaGreatDoor
open Go Go.RowKit Go.Lib
def okC (c : UInt8) : Bool := isDgB c || c == 46 || c == 101 || c == 43 || c == 45
theorem dig_ok {c : UInt8} (h : isDig c) : isDgB c = true := by
  unfold isDgB
  exact decide_eq_true h
theorem dig_okC {c : UInt8} (h : isDig c) : okC c = true := by unfold okC; rw [dig_ok h]; rfl
theorem exp_okC (x : Int) : ∀ c ∈ expS x, okC c = true := by
  unfold expS
  intro c hc
  rcases List.mem_cons.1 hc with rfl | hc
  · decide
  · rcases List.mem_cons.1 hc with rfl | hc
    · split <;> decide
    · exact dig_okC (dec_digs _ c hc)
theorem placed_okC (d : List UInt8) (p : Int) (hd : ∀ c ∈ d, isDig c) : ∀ c ∈ placedB d p, okC c = true := by
  have hz : ∀ (k : Nat), ∀ c ∈ List.replicate k (48 : UInt8), okC c = true := fun k c hc => by rw [z48 k c hc]; decide
  unfold placedB
  intro c hc
  split at hc
  · rcases List.mem_append.1 hc with h | h
    · exact dig_okC (hd c h)
    · exact hz _ c h
  · split at hc
    · rcases List.mem_append.1 hc with h | h
      · exact dig_okC (hd c (List.mem_of_mem_take h))
      · rcases List.mem_cons.1 h with rfl | h
        · decide
        · exact dig_okC (hd c (List.mem_of_mem_drop h))
    · split at hc
      · rcases List.mem_cons.1 hc with rfl | hc
        · decide
        · rcases List.mem_cons.1 hc with rfl | hc
          · decide
          · rcases List.mem_append.1 hc with h | h
            · exact hz _ c h
            · exact dig_okC (hd c h)
      · rcases List.mem_append.1 hc with h | h
        · split at h
          · rcases List.mem_append.1 h with h | h
            · exact dig_okC (hd c (List.mem_of_mem_take h))
            · rcases List.mem_cons.1 h with rfl | h
              · decide
              · exact dig_okC (hd c (List.mem_of_mem_drop h))
          · exact dig_okC (hd c h)
        · exact exp_okC _ c h
theorem showA_okC (a : Nat) (h1 : 0 < a) (h2 : a < 9218868437227405312) : ∀ c ∈ showA a, okC c = true := by
  obtain ⟨b1, b2, b3⟩ := sh_bounds a h1 h2
  unfold showA
  obtain ⟨t, i, e1, e2⟩ := strip_ex (shN a).1 b1
  have ht0 : 1 ≤ t := by omega
  have hsig : sig (shN a).1 = decDigits t := by rw [e1, sig_tens t ht0, sig_odd t e2]
  rw [hsig]
  exact placed_okC _ _ (dec_digs t)
theorem ba_app (a b : List UInt8) : (⟨a.toArray⟩ : ByteArray) ++ ⟨b.toArray⟩ = ⟨(a ++ b).toArray⟩ := by
  apply ByteArray.ext
  simp [ByteArray.data_append]
def infU (u : Nat) : Bool := decide (9218868437227405312 ≤ ru u)
theorem showB_fin (u : Nat) (h : infU u = false) : showB u = sgB (ngB u) ++ (if ru u = 0 then [48] else showA (ru u)) := by
  have h := of_decide_eq_false h
  rw [show_sgn u (by omega), sg_of, if_neg (by omega)]
theorem showB_okC (u : Nat) (h : infU u = false) : ∀ c ∈ showB u, okC c = true := by
  rw [showB_fin u h]
  have h := of_decide_eq_false h
  intro c hc
  rcases List.mem_append.1 hc with hc | hc
  · cases hn : ngB u <;> rw [hn] at hc <;> simp [sgB] at hc
    rw [hc]; decide
  · split at hc
    · simp at hc; rw [hc]; decide
    · exact showA_okC _ (by omega) (by omega) c hc
theorem showB_len (u : Nat) : (showB u).length ≤ 101 := by
  by_cases h1 : 9218868437227405312 < ru u
  · rw [show_nan_eq u h1]; decide
  · by_cases h2 : ru u = 9218868437227405312
    · rw [show_sgn u (by omega), sg_of, if_pos h2]
      cases ngB u <;> decide
    · rw [showB_fin u (decide_eq_false (by omega))]
      rw [List.length_append]
      have : (sgB (ngB u)).length ≤ 1 := by cases ngB u <;> decide
      split
      · simp; omega
      · have := (shown_form (ru u) (by omega) (by omega)).2.1
        omega
def fltN (u : Nat) : List UInt8 := if infU u then [110, 117, 108, 108] else if (showB u).any (fun c => c == 46 || c == 101) then showB u else showB u ++ [46, 48]
theorem indexAny_any (m : List UInt8) : ∀ l : List UInt8, Lib.containsAny l m = l.any (m.contains ·)
  | [] => rfl
  | b :: l => by
    have ih := indexAny_any m l
    unfold Lib.containsAny at ih ⊢
    rw [List.any_cons, ← ih, Lib.indexAny]
    have := Lib.indexAny_ge m l
    cases hb : m.contains b with
    | true => simp
    | false =>
      simp only [Bool.false_or]
      by_cases hx : Lib.indexAny l m = -1
      · simp [hx]
      · have e : (Lib.indexAny l m == -1) = false := by simpa using hx
        simp [e]
        omega
set_option maxRecDepth 100000 in
set_option maxHeartbeats 4000000 in
theorem float_any (u : Nat) (w : World) (hg : Globs w) (hu : u < 18446744073709551616) :
    Calls Tryz.prog 46 #[.int .u64 u] w fun e w' => e = .returned (.string ⟨(fltN u).toArray⟩) ∧ Below w.heap.size w w' := by
  have hlen := showB_len u
  have h128 : ∀ (j : Nat) b, (showB u)[j]? = some b → b.toNat < 128 := by
    intro j b hj
    have hm := List.mem_of_getElem? hj
    cases hi : infU u with
    | false =>
      have := showB_okC u hi b hm
      have key : ∀ c : Fin 256, okC (UInt8.ofNat c.val) = true → c.val < 128 := by decide +kernel
      exact key ⟨b.toNat, b.toNat_lt⟩ (by simpa only [UInt8.ofNat_toNat] using this)
    | true =>
      have hi := of_decide_eq_true hi
      by_cases h1 : 9218868437227405312 < ru u
      · rw [show_nan_eq u h1] at hm
        clear hj; revert b; decide
      · rw [show_sgn u (by omega), sg_of, if_pos (by omega)] at hm
        clear hj
        revert hm
        cases ngB u <;> revert b <;> decide
  have HS := Lib.hid (show_any u w hg hu)
  have hca : ∀ (m : ByteArray) (W : World), m.size < 100 → (∀ (j : Nat) b, m.data.toList[j]? = some b → b.toNat < 128) → Calls Tryz.prog 70 #[.string ⟨(showB u).toArray⟩, .string m] W fun e w' => e = .returned (.bool ((showB u).any (m.data.toList.contains ·))) ∧ Below W.heap.size W w' := fun m W h1 h2 => by
    have := Tryz.strings_ContainsAny_laid ⟨(showB u).toArray⟩ m W (by show (showB u).length < _; omega) (by omega) h128 h2
    rw [indexAny_any] at this
    exact this
  have h3 : (showB u).any (((⟨#[78, 121]⟩ : ByteArray) : ByteArray).data.toList.contains ·) = infU u := by
    cases hi : infU u with
    | false =>
      rw [List.any_eq_false]
      intro c hc
      have := showB_okC u hi c hc
      have key : ∀ c : Fin 256, okC (UInt8.ofNat c.val) = true → ((⟨#[78, 121]⟩ : ByteArray) : ByteArray).data.toList.contains (UInt8.ofNat c.val) = false := by decide +kernel
      have := key ⟨c.toNat, c.toNat_lt⟩ (by simpa only [UInt8.ofNat_toNat] using this)
      simp only [UInt8.ofNat_toNat] at this
      rw [this]; decide
    | true =>
      have hi := of_decide_eq_true hi
      by_cases h1 : 9218868437227405312 < ru u
      · rw [show_nan_eq u h1]; decide
      · rw [show_sgn u (by omega), sg_of, if_pos (by omega)]
        cases ngB u <;> decide
  have h4 : (showB u).any (((⟨#[46, 101]⟩ : ByteArray) : ByteArray).data.toList.contains ·) = (showB u).any (fun c => c == 46 || c == 101) := by
    congr 1
    funext c
    have key : ∀ c : Fin 256, ((⟨#[46, 101]⟩ : ByteArray) : ByteArray).data.toList.contains (UInt8.ofNat c.val) = (UInt8.ofNat c.val == 46 || UInt8.ofNat c.val == 101) := by decide +kernel
    have := key ⟨c.toNat, c.toNat_lt⟩
    simpa only [UInt8.ofNat_toNat] using this
  have HN := Lib.hid (fun W => hca (⟨#[78, 121]⟩ : ByteArray) W (by decide) (by intro j b hj; have := List.mem_of_getElem? hj; clear hj; revert b; decide))
  have HE := Lib.hid (fun W => hca (⟨#[46, 101]⟩ : ByteArray) W (by decide) (by intro j b hj; have := List.mem_of_getElem? hj; clear hj; revert b; decide))
  rw [h3] at HN
  rw [h4] at HE
  clear hca h3 h4 h128
  have HL := Lib.hid (rfl : fltN u = fltN u)
  generalize hL : fltN u = L at HL ⊢
  replace HL := Lib.hid hL
  clear hL
  go_enter Tryz.func46, Tryz.ntmps46
  go_wp2_with fail
  refine HS.out.mono ?_
  rintro e w1 ⟨rfl, hb1⟩
  have HN1 := Lib.hid (HN.out w1)
  have HB1 := Lib.hid hb1
  clear hb1
  go_wp2_with fail
  refine HN1.out.mono ?_
  rintro e w2 ⟨rfl, hb2⟩
  have HE2 := Lib.hid (HE.out w2)
  have HB2 := Lib.hid (HB1.out.trans (hb2.mono HB1.out.size))
  clear hb2
  cases hi : infU u with
  | true =>
    go_wp2_with fail
    go_ret
    exact ⟨by rw [← HL.out]; unfold fltN; rw [if_pos hi]; rfl, HB2.out⟩
  | false =>
    go_wp2_with fail
    refine HE2.out.mono ?_
    rintro e w3 ⟨rfl, hb3⟩
    have HB3 := Lib.hid (HB2.out.trans (hb3.mono HB2.out.size))
    clear hb3
    cases ha : (showB u).any (fun c => c == 46 || c == 101) with
    | true =>
      go_wp2_with fail
      go_ret
      exact ⟨by rw [← HL.out]; unfold fltN; rw [if_neg (by rw [hi]; decide), if_pos ha]; rfl, HB3.out⟩
    | false =>
      go_wp2_with fail
      go_ret
      exact ⟨by rw [← HL.out]; unfold fltN; rw [if_neg (by rw [hi]; decide), if_neg (by rw [ha]; decide), ← ba_app]; rfl, HB3.out⟩
end Go.Proofs.YtckaoeloofbklaaGreatDoor
namespace Go.Proofs.YtckaoeloofbklaaGreatDoor
open Go Go.RowKit Go.Lib
structure KR (r : Nat) (w w' : World) : Prop where
  os : w'.os = w.os
  tape : w'.tape = w.tape
  output : w'.output = w.output
  size : w.heap.size ≤ w'.heap.size
  block : ∀ k, k < w.heap.size → k ≠ r → w'.heap[k]? = w.heap[k]?
theorem KR.refl (r : Nat) (w : World) : KR r w w := ⟨rfl, rfl, rfl, Nat.le_refl _, fun _ _ _ => rfl⟩
theorem KR.trans {r : Nat} {a b c : World} (h : KR r a b) (k : KR r b c) : KR r a c :=
  ⟨k.os.trans h.os, k.tape.trans h.tape, k.output.trans h.output, Nat.le_trans h.size k.size, fun i hi hr => (k.block i (Nat.lt_of_lt_of_le hi h.size) hr).trans (h.block i hi hr)⟩
theorem KR.of {r : Nat} {w w' : World} (h : Below w.heap.size w w') : KR r w w' := ⟨h.os, h.tape, h.output, h.size, fun k hk _ => h.block k hk⟩
theorem KR.below {r : Nat} {w w' : World} (h : KR r w w') (hr : r ≤ w.heap.size) : Below r w w' := ⟨h.os, h.tape, h.output, h.size, fun k hk => h.block k (by omega) (by omega)⟩
theorem KR.drewN {r : Nat} {a w : World} (h : KR r a w) (n : Nat) : KR r a (w.drewN n) := ⟨h.os, h.tape, h.output, h.size, h.block⟩
theorem KR.set {r : Nat} {a w : World} (h : KR r a w) (j : Nat) (u : Value) : KR r a (w.setCell ⟨r, j, none⟩ u) :=
  ⟨h.os, h.tape, h.output, by simpa [World.setCell] using h.size, fun k hk hr => (Below.heap_setCell w ⟨r, j, none⟩ u k hr).trans (h.block k hk hr)⟩
structure Rd (r : Nat) (s : ByteArray) (t : List UInt8) (d : Nat) (w : World) : Prop where
  at_ : w.heap[r]? = some (.cells #[.string s, .int .i64 ((s.size - t.length : Nat) : Int), .int .i64 (d : Int)] 56 (0, 0))
  suf : t <:+ s.data.toList
  big : s.size ≤ 35184372080000
theorem Rd.lt {r : Nat} {s : ByteArray} {t : List UInt8} {d : Nat} {w : World} (h : Rd r s t d w) : r < w.heap.size := (Array.getElem?_eq_some_iff.1 h.at_).1
theorem Rd.len {r : Nat} {s : ByteArray} {t : List UInt8} {d : Nat} {w : World} (h : Rd r s t d w) : t.length ≤ s.size := by
  have := h.suf.length_le
  simpa using this
theorem Rd.kept {r : Nat} {s : ByteArray} {t : List UInt8} {d : Nat} {w w' : World} (h : Rd r s t d w) (hb : w'.heap[r]? = w.heap[r]?) : Rd r s t d w' := ⟨hb.trans h.at_, h.suf, h.big⟩
theorem Rd.below {r : Nat} {s : ByteArray} {t : List UInt8} {d : Nat} {w w' : World} (h : Rd r s t d w) (hb : Below w.heap.size w w') : Rd r s t d w' := h.kept (hb.block r h.lt)
theorem Rd.drewN {r : Nat} {s : ByteArray} {t : List UInt8} {d : Nat} {w : World} (h : Rd r s t d w) (n : Nat) : Rd r s t d (w.drewN n) := h.kept rfl
theorem Rd.set {r : Nat} {s : ByteArray} {t t' : List UInt8} {d : Nat} {w : World} (h : Rd r s t d w) (ht : t' <:+ t) : Rd r s t' d (w.setCell ⟨r, 1, none⟩ (.int .i64 ((s.size - t'.length : Nat) : Int))) := by
  refine ⟨?_, ht.trans h.suf, h.big⟩
  have := setCellJ (j := 1) h.at_ (.int .i64 ((s.size - t'.length : Nat) : Int))
  simpa using this
theorem suf_get {s : ByteArray} {c : UInt8} {t : List UInt8} (h : (c :: t) <:+ s.data.toList) : ∃ h0 : s.size - (t.length + 1) < s.size, s[s.size - (t.length + 1)] = c := by
  obtain ⟨p, hp⟩ := h
  have hl := congrArg List.length hp
  rw [List.length_append, List.length_cons] at hl
  have hl2 : s.data.toList.length = s.size := by simp
  rw [hl2] at hl
  refine ⟨by omega, ?_⟩
  have e : s[s.size - (t.length + 1)]'(by omega) = s.data.toList[s.size - (t.length + 1)]'(by omega) := rfl
  rw [e]
  have : s.data.toList[s.size - (t.length + 1)]? = some c := by
    rw [← hp, List.getElem?_append_right (by omega), show s.size - (t.length + 1) - p.length = 0 by omega]
    rfl
  rw [List.getElem?_eq_getElem (by omega)] at this
  exact Option.some.inj this
theorem Rd.head {r : Nat} {s : ByteArray} {c : UInt8} {t : List UInt8} {d : Nat} {w : World} (h : Rd r s (c :: t) d w) :
    ∃ (m : Nat) (h0 : m < s.size), m + (t.length + 1) = s.size ∧ s[m] = c ∧ w.cell? ⟨r, 1, none⟩ = some (.int .i64 (m : Int)) := by
  obtain ⟨hlt, hget⟩ := suf_get h.suf
  have hl := h.len
  rw [List.length_cons] at hl
  exact ⟨_, hlt, by omega, hget, (cell_agg3 h.at_).2.1⟩
theorem Rd.pos {r : Nat} {s : ByteArray} {t : List UInt8} {d : Nat} {w : World} (h : Rd r s t d w) :
    ∃ (m : Nat), m + t.length = s.size ∧ w.cell? ⟨r, 1, none⟩ = some (.int .i64 (m : Int)) := by
  have hl := h.len
  exact ⟨_, by omega, (cell_agg3 h.at_).2.1⟩
theorem Rd.set' {r : Nat} {s : ByteArray} {t t' : List UInt8} {d : Nat} {w : World} (h : Rd r s t d w) (ht : t' <:+ t) (m : Nat) (hm : m + t'.length = s.size) : Rd r s t' d (w.setCell ⟨r, 1, none⟩ (.int .i64 (m : Int))) := by
  have := h.set ht
  rwa [show s.size - t'.length = m by omega] at this
def wrongV (e : Int) (at_ : Nat) : Value := .iface 53 (.agg #[.int .i64 e, .int .i64 (at_ : Int)])
def Gives (x : Int) (n : Nat) (e : Ending) : Prop := e = .panicked [{ v := wrongV x n, recovered := false }]
theorem fail_any (p : Value) (n : Nat) (w : World) : Calls Tryz.prog 26 #[p, .int .i64 (n : Int)] w fun e w' => Gives 160 n e ∧ w' = w := by
  unfold Gives wrongV
  go_enter Tryz.func26, Tryz.ntmps26
  go_wp2_with fail
  exact ⟨rfl, rfl, rfl⟩
set_option maxRecDepth 100000 in
set_option maxHeartbeats 2000000 in
theorem is_yes (r : Nat) (s : ByteArray) (c : UInt8) (t : List UInt8) (d : Nat) (w : World) (h : Rd r s (c :: t) d w) :
    Calls Tryz.prog 110 #[.pointer (some ⟨r, 0, none⟩), .int .u8 (c.toNat : Int)] w fun e w' => e = .returned (.bool true) ∧ Rd r s t d w' ∧ KR r w w' := by
  have hbig := h.big
  obtain ⟨m, hlt, hm, hget, c1⟩ := h.head
  have hR := Lib.hid (fun n => (h.drewN n).set' (t' := t) (List.suffix_cons c t) (m + 1) (by omega))
  have hK := Lib.hid (KR.refl r w)
  obtain ⟨c0, -, -⟩ := cell_agg3 h.at_
  have f1 := froz_agg h.at_ 1
  clear hm h
  have hli : (m : Int) < (s.size : Int) := by omega
  go_enter Tryz.func110, Tryz.ntmps110
  go_upto_region 1 with fail
  go_quiet (fail)
  go_wp2_with fail
  go_ret
  exact ⟨rfl, hR.out _, (hK.out.drewN _).set _ _⟩
set_option maxRecDepth 100000 in
set_option maxHeartbeats 2000000 in
theorem is_no (r : Nat) (s : ByteArray) (c : UInt8) (t : List UInt8) (d : Nat) (w : World) (h : Rd r s t d w) (hn : Ends (· == c) t) :
    Calls Tryz.prog 110 #[.pointer (some ⟨r, 0, none⟩), .int .u8 (c.toNat : Int)] w fun e w' => e = .returned (.bool false) ∧ Rd r s t d w' ∧ KR r w w' := by
  have hbig := h.big
  have hR := Lib.hid (fun n => h.drewN n)
  have hK := Lib.hid (KR.refl r w)
  obtain ⟨c0, -, -⟩ := cell_agg3 h.at_
  cases t with
  | nil =>
    obtain ⟨m, hm, c1⟩ := h.pos
    rw [List.length_nil, Nat.add_zero] at hm
    subst hm
    clear h
    go_enter Tryz.func110, Tryz.ntmps110
    go_upto_region 1 with fail
    go_quiet (fail)
    go_wp2_with fail
    go_ret
    exact ⟨rfl, hR.out _, hK.out.drewN _⟩
  | cons x t =>
    obtain ⟨m, hlt, hm, hget, c1⟩ := h.head
    have hx : ((x.toNat : Int) == (c.toNat : Int)) = false := by
      rw [beq_eq_false_iff_ne]
      intro e
      have : x = c := UInt8.toNat_inj.1 (by omega)
      simp [Ends, this] at hn
    have hli : (m : Int) < (s.size : Int) := by omega
    clear hm h
    go_enter Tryz.func110, Tryz.ntmps110
    go_upto_region 1 with fail
    go_quiet (fail)
    go_wp2_with fail
    go_ret
    exact ⟨rfl, hR.out _, hK.out.drewN _⟩
theorem must_yes (r : Nat) (s : ByteArray) (c : UInt8) (t : List UInt8) (d : Nat) (w : World) (h : Rd r s (c :: t) d w) :
    Calls Tryz.prog 78 #[.pointer (some ⟨r, 0, none⟩), .int .u8 (c.toNat : Int)] w fun e w' => e = .returned (.tuple #[]) ∧ Rd r s t d w' ∧ KR r w w' := by
  have HI := Lib.hid (is_yes r s c t d w h)
  clear h
  go_enter Tryz.func78, Tryz.ntmps78
  go_wp2_with fail
  refine HI.out.mono ?_
  rintro e w1 ⟨rfl, h1⟩
  have H1 := Lib.hid h1
  clear h1
  go_wp2_with fail
  go_end0
  exact ⟨rfl, H1.out⟩
set_option maxRecDepth 100000 in
set_option maxHeartbeats 2000000 in
theorem peek_cons (r : Nat) (s : ByteArray) (c : UInt8) (t : List UInt8) (d : Nat) (w : World) (h : Rd r s (c :: t) d w) :
    Calls Tryz.prog 52 #[.pointer (some ⟨r, 0, none⟩)] w fun e w' => e = .returned (.int .u8 (c.toNat : Int)) ∧ Rd r s (c :: t) d w' ∧ KR r w w' := by
  have hbig := h.big
  obtain ⟨m, hlt, hm, hget, c1⟩ := h.head
  have hR := Lib.hid (fun n => h.drewN n)
  have hK := Lib.hid (KR.refl r w)
  obtain ⟨c0, -, -⟩ := cell_agg3 h.at_
  clear hm h
  have hli : (m : Int) < (s.size : Int) := by omega
  go_enter Tryz.func52, Tryz.ntmps52
  go_upto_region 1 with fail
  go_quiet (fail)
  go_wp2_with fail
  go_quiet (fail)
  go_wp2_with fail
  go_ret
  exact ⟨rfl, (hR.out _).drewN _, (hK.out.drewN _).drewN _⟩
set_option maxRecDepth 100000 in
set_option maxHeartbeats 2000000 in
theorem peek_nil (r : Nat) (s : ByteArray) (d : Nat) (w : World) (h : Rd r s [] d w) :
    Calls Tryz.prog 52 #[.pointer (some ⟨r, 0, none⟩)] w fun e w' => e = .returned (.int .u8 0) ∧ Rd r s [] d w' ∧ KR r w w' := by
  have hbig := h.big
  obtain ⟨m, hm, c1⟩ := h.pos
  rw [List.length_nil, Nat.add_zero] at hm
  subst hm
  have hR := Lib.hid (fun n => h.drewN n)
  have hK := Lib.hid (KR.refl r w)
  obtain ⟨c0, -, -⟩ := cell_agg3 h.at_
  clear h
  go_enter Tryz.func52, Tryz.ntmps52
  go_upto_region 1 with fail
  go_quiet (fail)
  go_wp2_with fail
  go_ret
  exact ⟨rfl, hR.out _, hK.out.drewN _⟩
end Go.Proofs.YtckaoeloofbklaaGreatDoor
namespace Go.Proofs.YtckaoeloofbklaaGreatDoor
open Go Go.RowKit Go.Lib
def StrsAt (ok : Nat → Prop) (w : World) (a : Option Addr) (ks : List ByteArray) : Prop :=
  ks = [] ∨ ∃ b off, a = some ⟨b, off, none⟩ ∧ ok b ∧ b < w.heap.size ∧ ∀ j k, ks[j]? = some k → w.cell? ⟨b, off + j, none⟩ = some (.string k)
def Cells7 (w : World) (b off : Nat) (V : Value) : Prop := ∃ x0 x1 x2 x3 x4 x5 x6, V = .agg #[x0, x1, x2, x3, x4, x5, x6] ∧ w.cell? ⟨b, off, none⟩ = some x0 ∧ w.cell? ⟨b, off + 1, none⟩ = some x1 ∧ w.cell? ⟨b, off + 2, none⟩ = some x2 ∧
  w.cell? ⟨b, off + 3, none⟩ = some x3 ∧ w.cell? ⟨b, off + 4, none⟩ = some x4 ∧ w.cell? ⟨b, off + 5, none⟩ = some x5 ∧ w.cell? ⟨b, off + 6, none⟩ = some x6
def atomV (k : Int) (b : Bool) (n u : Int) (s : ByteArray) : Value := .agg #[.int .u8 k, .bool b, .int .i64 n, .int .u64 u, .string s, .slice none 0 0, .slice none 0 0]
mutual
def JAt (ok : Nat → Prop) (w : World) : JV → Value → Prop
  | .mk k b n u s ks vs, V => ∃ a c a' c', V = .agg #[.int .u8 k, .bool b, .int .i64 n, .int .u64 u, .string s, .slice a ks.length c, .slice a' vs.length c'] ∧
      StrsAt ok w a ks ∧ (vs = [] ∨ ∃ q off, a' = some ⟨q, off, none⟩ ∧ ok q ∧ q < w.heap.size ∧ ItAt ok w q off vs) ∧ ks.length ≤ 35184372080000 ∧ vs.length ≤ 35184372080000
def ItAt (ok : Nat → Prop) (w : World) (q : Nat) (off : Nat) : List JV → Prop
  | [] => True
  | v :: vs => (∃ V, Cells7 w q off V ∧ JAt ok w v V) ∧ ItAt ok w q (off + 7) vs
end
theorem Cells7.kept {w w' : World} {b off : Nat} {V : Value} (h : Cells7 w b off V) (hb : w'.heap[b]? = w.heap[b]?) : Cells7 w' b off V := by
  obtain ⟨x0, x1, x2, x3, x4, x5, x6, h, e0, e1, e2, e3, e4, e5, e6⟩ := h
  exact ⟨x0, x1, x2, x3, x4, x5, x6, h, by rwa [World.cell?_of_block hb], by rwa [World.cell?_of_block hb], by rwa [World.cell?_of_block hb], by rwa [World.cell?_of_block hb], by rwa [World.cell?_of_block hb], by rwa [World.cell?_of_block hb], by rwa [World.cell?_of_block hb]⟩
theorem StrsAt.kept {ok ok' : Nat → Prop} {w w' : World} {a : Option Addr} {ks : List ByteArray} (h : StrsAt ok w a ks) (hk : ∀ b, ok b → b < w.heap.size → w'.heap[b]? = w.heap[b]? ∧ ok' b) : StrsAt ok' w' a ks := by
  rcases h with h | ⟨b, off, h1, h2, h3, h4⟩
  · exact .inl h
  · obtain ⟨e1, e2⟩ := hk b h2 h3
    refine .inr ⟨b, off, h1, e2, ?_, fun j k hj => by rw [World.cell?_of_block e1]; exact h4 j k hj⟩
    have := (Array.getElem?_eq_some_iff.1 (e1.trans (Array.getElem?_eq_getElem h3))).1
    exact this
mutual
theorem JAt.kept {ok ok' : Nat → Prop} {w w' : World} (hk : ∀ b, ok b → b < w.heap.size → w'.heap[b]? = w.heap[b]? ∧ ok' b) : ∀ (v : JV) (V : Value), JAt ok w v V → JAt ok' w' v V
  | .mk k b n u s ks vs, V => by
    rw [JAt, JAt]
    rintro ⟨a, c, a', c', h1, h2, h3, h4⟩
    refine ⟨a, c, a', c', h1, h2.kept hk, ?_, h4⟩
    rcases h3 with h3 | ⟨q, off, g1, g2, g3, g4⟩
    · exact .inl h3
    · obtain ⟨e1, e2⟩ := hk q g2 g3
      exact .inr ⟨q, off, g1, e2, (Array.getElem?_eq_some_iff.1 (e1.trans (Array.getElem?_eq_getElem g3))).1, ItAt.kept hk e1 vs g4⟩
theorem ItAt.kept {ok ok' : Nat → Prop} {w w' : World} (hk : ∀ b, ok b → b < w.heap.size → w'.heap[b]? = w.heap[b]? ∧ ok' b) {q off : Nat} (hq : w'.heap[q]? = w.heap[q]?) : ∀ (vs : List JV), ItAt ok w q off vs → ItAt ok' w' q off vs
  | [], _ => by rw [ItAt]; trivial
  | v :: vs, h => by
    rw [ItAt] at h ⊢
    obtain ⟨⟨V, h1, h2⟩, h3⟩ := h
    exact ⟨⟨V, h1.kept hq, JAt.kept hk v V h2⟩, ItAt.kept hk hq vs h3⟩
end
theorem atom_at (ok : Nat → Prop) (w : World) (k : Int) (b : Bool) (n u : Int) (s : ByteArray) : JAt ok w (.mk k b n u s [] []) (atomV k b n u s) := by
  rw [JAt]
  exact ⟨none, 0, none, 0, rfl, .inl rfl, .inl rfl, by simp, by simp⟩
def ValOk (r : Nat) (s : ByteArray) (d : Nat) (w : World) (v : JV) (t : List UInt8) (e : Ending) (w' : World) : Prop :=
  ∃ V, e = .returned V ∧ JAt (fun b => w.heap.size ≤ b) w' v V ∧ Rd r s t d w' ∧ KR r w w'
def ValBad (r : Nat) (s : ByteArray) (w : World) (x : Int) (t : List UInt8) (e : Ending) (w' : World) : Prop :=
  Gives x (s.size - t.length) e ∧ KR r w w'
def ValPost (r : Nat) (s : ByteArray) (d : Nat) (w : World) (o : Out JV) (e : Ending) (w' : World) : Prop := match o with
  | .ok v t => ValOk r s d w v t e w'
  | .err x t => ValBad r s w x t e w'
end Go.Proofs.YtckaoeloofbklaaGreatDoor
namespace Go.Proofs.YtckaoeloofbklaaGreatDoor
open Go Go.RowKit Go.Lib
def Tells (f : Nat) (p : UInt8 → Bool) : Prop := ∀ (c : UInt8) (W : World), Calls Tryz.prog f #[.int .i32 (c.toNat : Int)] W fun e W' => e = .returned (.bool (p c)) ∧ W' = W
theorem wrap_byte (x : UInt8) : IntKind.i32.wrap (x.toNat : Int) = (x.toNat : Int) := by
  have := x.toNat_lt
  rw [IntKind.wrap_i32]; omega
theorem run_mid (s : ByteArray) (a u : List UInt8) (h : (a ++ u) <:+ s.data.toList) (m k : Nat) (hm : m + (a ++ u).length = s.size) (hk : k + u.length = s.size) : s.extract m k = ⟨a.toArray⟩ := by
  obtain ⟨p, hp⟩ := h
  have hl := congrArg List.length hp
  have hl2 : s.data.toList.length = s.size := by simp
  rw [List.length_append, hl2] at hl
  rw [List.length_append] at hm
  apply ByteArray.ext
  apply Array.toList_inj.1
  have e1 : (s.extract m k).data.toList = (s.data.toList.drop m).take (k - m) := by
    simp [List.extract_eq_take_drop]
  rw [e1, ← hp, show m = p.length by rw [List.length_append] at hl; omega, List.drop_left, show k - p.length = a.length by rw [List.length_append] at hl; omega, List.take_left]
set_option maxRecDepth 100000 in
set_option maxHeartbeats 4000000 in
theorem run_any (f : Nat) (p : UInt8 → Bool) (hf : Tells f p) (he : ∀ args w, (callFunc f args).run Tryz.prog w = .ok (.enter f args) w) (r : Nat) (s : ByteArray) (a u : List UInt8) (d : Nat) (w : World) (h : Rd r s (a ++ u) d w) (ha : a.all p = true) (hu : Ends p u) :
    Calls Tryz.prog 79 #[.pointer (some ⟨r, 0, none⟩), .func (.func f) #[] #[]] w fun e w' => e = .returned (.string ⟨a.toArray⟩) ∧ Rd r s u d w' ∧ KR r w w' := by
  have hbig := h.big
  obtain ⟨m, hm, c1⟩ := h.pos
  obtain ⟨c0, -, -⟩ := cell_agg3 h.at_
  have hmid := run_mid s a u h.suf m
  have HM := Lib.hid (fun k hk => hmid k hm hk)
  have HA := Lib.hid ha
  have HF := Lib.hid hf
  have HH := Lib.hid h
  have HMM := Lib.hid hm
  clear hmid ha hf hm
  have hms : (m : Int) ≤ (s.size : Int) := by have := HMM.out; omega
  go_enter Tryz.func79, Tryz.ntmps79
  go_wp2_with fail
  go_loopg [] a.length (fun g wr => ∃ b, b.length = g ∧ b.all p = true ∧ Rd r s (b ++ u) d wr ∧ KR r w wr)
  case atStart => exact ⟨a, rfl, HA.out, HH.out, KR.refl _ _⟩
  case round =>
    obtain ⟨b, hbg, hbp, hrd, hkr⟩ := hrel
    clear c0 c1
    obtain ⟨c0, -, -⟩ := cell_agg3 hrd.at_
    cases b with
    | nil =>
      cases u with
      | nil =>
        obtain ⟨k, hk, c1⟩ := hrd.pos
        rw [List.append_nil, List.length_nil, Nat.add_zero] at hk
        subst hk
        have hsl : ∀ W, (Instr.slice 9 (.string s) (some (.int .i64 m)) (some (.int .i64 s.size)) Option.none).run Tryz.prog W = .ok (.string ⟨a.toArray⟩) W := fun W => by
          rw [← HM.out s.size rfl]
          exact run_slice_string W 9 s .i64 .i64 m s.size Tryz.underlying9 (by omega) (by omega) (by omega)
        have HRD := Lib.hid hrd
        have HKR := Lib.hid hkr
        clear hrd hkr
        go_upto_region 2 with fail
        go_quiet (fail)
        go_wp2_with fail
        go_quiet (fail)
        go_wp2_with fail
        go_ret
        exact ⟨rfl, (HRD.out.drewN _).drewN _, (HKR.out.drewN _).drewN _⟩
      | cons x u =>
        obtain ⟨k, hlt, hk, hget, c1⟩ := hrd.head
        have hsl : ∀ W, (Instr.slice 9 (.string s) (some (.int .i64 m)) (some (.int .i64 k)) Option.none).run Tryz.prog W = .ok (.string ⟨a.toArray⟩) W := fun W => by
          rw [← HM.out k hk]
          have hmk : m ≤ k := by have := HMM.out; rw [List.length_append, List.length_cons] at this; omega
          exact run_slice_string W 9 s .i64 .i64 m k Tryz.underlying9 (by omega) (by omega) (by omega)
        have hpx : p x = false := hu
        have hwx := wrap_byte x
        have hfx := HF.out x
        rw [hpx] at hfx
        have HFX := Lib.hid hfx
        have HRD := Lib.hid hrd
        have HKR := Lib.hid hkr
        clear hrd hkr hfx
        have hli : (k : Int) < (s.size : Int) := by omega
        go_upto_region 2 with fail
        go_quiet ((exact Calls.quiet_of_same (HFX.out _)))
        go_wp2_with fail
        go_quiet (fail)
        go_wp2_with fail
        go_ret
        exact ⟨rfl, (HRD.out.drewN _).drewN _, (HKR.out.drewN _).drewN _⟩
    | cons x b =>
      obtain ⟨k, hlt, hk, hget, c1⟩ := hrd.head
      rw [List.all_cons, Bool.and_eq_true] at hbp
      have hwx := wrap_byte x
      have hfx := HF.out x
      rw [hbp.1] at hfx
      have HFX := Lib.hid hfx
      have hk' : k + ((b ++ u).length + 1) = s.size := hk
      have hset := fun n => (hrd.drewN n).set' (t' := b ++ u) (List.suffix_cons x (b ++ u)) (k + 1) (by omega)
      have HSET := Lib.hid hset
      have HKR := Lib.hid hkr
      have f1 := froz_agg hrd.at_ 1
      clear hrd hkr hfx hset
      have hli : (k : Int) < (s.size : Int) := by omega
      go_upto_region 2 with fail
      go_quiet ((exact Calls.quiet_of_same (HFX.out _)))
      go_wp2_with fail
      go_roundg (gk - 1)
      case measure => simp at hbg; omega
      case rel => exact ⟨b, by simp at hbg; omega, hbp.2, HSET.out _, (HKR.out.drewN _).set _ _⟩
end Go.Proofs.YtckaoeloofbklaaGreatDoor
namespace Go.Proofs.YtckaoeloofbklaaGreatDoor
open Go Go.RowKit Go.Lib
theorem or_al : ∀ c : Fin 256, bits .or .i32 ((c.val : Nat) : Int) 32 = ((c.val ||| 32 : Nat) : Int) := by decide +kernel
theorem or_is : ∀ c : Fin 256, (97 ≤ c.val ||| 32 ∧ c.val ||| 32 ≤ 122) ↔ isAl (UInt8.ofNat c.val) = true := by decide +kernel
theorem al_or (c : UInt8) : isAl c = decide (97 ≤ c.toNat ||| 32 ∧ c.toNat ||| 32 ≤ 122) := by
  have := or_is ⟨c.toNat, c.toNat_lt⟩
  simp only [UInt8.ofNat_toNat] at this
  rw [Bool.eq_iff_iff, decide_eq_true_iff]
  exact this.symm
set_option maxHeartbeats 1000000 in
theorem alphaJ_any : Tells 54 isAl := by
  intro c w
  have hor := or_al ⟨c.toNat, c.toNat_lt⟩
  have hal := al_or c
  simp only at hor
  rw [hal]
  clear hal
  generalize c.toNat ||| 32 = o at *
  by_cases h1 : 97 ≤ o
  · by_cases h2 : o ≤ 122
    · have e : decide (97 ≤ o ∧ o ≤ 122) = true := decide_eq_true ⟨h1, h2⟩
      rw [e]
      go_enter Tryz.func54, Tryz.ntmps54
      go_wp2_with fail
      go_ret
      exact ⟨ret_bool (by first | rfl | (simp; done) | (simp; omega)), rfl⟩
    · have e : decide (97 ≤ o ∧ o ≤ 122) = false := decide_eq_false (fun h => h2 h.2)
      have h3 : 122 < o := by omega
      rw [e]
      clear h2
      go_enter Tryz.func54, Tryz.ntmps54
      go_wp2_with fail
      go_ret
      exact ⟨ret_bool (by first | rfl | (simp; done) | (simp; omega)), rfl⟩
  · have e : decide (97 ≤ o ∧ o ≤ 122) = false := decide_eq_false (fun h => h1 h.1)
    have h3 : o < 97 := by omega
    rw [e]
    clear h1
    go_enter Tryz.func54, Tryz.ntmps54
    go_wp2_with fail
    go_ret
    exact ⟨ret_bool (by first | rfl | (simp; done) | (simp; omega)), rfl⟩
theorem digit_any : Tells 53 isDgB := by
  intro c w
  by_cases h : 48 ≤ c.toNat ∧ c.toNat ≤ 57
  · have e : isDgB c = true := decide_eq_true h
    rw [e]
    exact digit_yes _ w (by omega) (by omega)
  · have e : isDgB c = false := decide_eq_false h
    rw [e]
    exact digit_no _ w (by omega)
set_option maxHeartbeats 1000000 in
theorem strc_any : Tells 112 strC := by
  intro c w
  have hc := c.toNat_lt
  by_cases h1 : 32 ≤ c.toNat
  · have h34 : (c == 34) = decide (c.toNat = 34) := by rw [Bool.eq_iff_iff, beq_iff_eq, decide_eq_true_iff, ← UInt8.toNat_inj]; rfl
    have h92 : (c == 92) = decide (c.toNat = 92) := by rw [Bool.eq_iff_iff, beq_iff_eq, decide_eq_true_iff, ← UInt8.toNat_inj]; rfl
    have e : strC c = (!decide (c.toNat = 34) && !decide (c.toNat = 92)) := by
      unfold strC
      rw [decide_eq_true h1, bne, bne, h34, h92]; rfl
    rw [e]
    clear e h34 h92
    generalize c.toNat = n at *
    by_cases h2 : n = 34
    · subst h2
      go_enter Tryz.func112, Tryz.ntmps112
      go_wp2_with fail
      go_ret
      exact ⟨rfl, rfl⟩
    · by_cases h3 : n = 92
      · subst h3
        go_enter Tryz.func112, Tryz.ntmps112
        go_wp2_with fail
        go_ret
        exact ⟨rfl, rfl⟩
      · rw [decide_eq_false h2, decide_eq_false h3]
        have g2 : (n : Int) ≠ 34 := by omega
        have g3 : (n : Int) ≠ 92 := by omega
        go_enter Tryz.func112, Tryz.ntmps112
        go_wp2_with fail
        go_ret
        exact ⟨ret_bool (by first | rfl | (simp; done) | (simp; omega)), rfl⟩
  · have e : strC c = false := by unfold strC; rw [decide_eq_false h1]; rfl
    have h3 : c.toNat < 32 := by omega
    rw [e]
    clear h1 e
    go_enter Tryz.func112, Tryz.ntmps112
    go_wp2_with fail
    go_ret
    exact ⟨ret_bool (by first | rfl | (simp; done) | (simp; omega)), rfl⟩
set_option maxHeartbeats 1000000 in
theorem numc_any : Tells 80 numC := by
  intro c w
  have HA := Lib.hid (alphaJ_any c)
  have HD := Lib.hid (digit_any c)
  have h46 : (c == 46) = decide (c.toNat = 46) := by rw [Bool.eq_iff_iff, beq_iff_eq, decide_eq_true_iff, ← UInt8.toNat_inj]; rfl
  have h43 : (c == 43) = decide (c.toNat = 43) := by rw [Bool.eq_iff_iff, beq_iff_eq, decide_eq_true_iff, ← UInt8.toNat_inj]; rfl
  have h45 : (c == 45) = decide (c.toNat = 45) := by rw [Bool.eq_iff_iff, beq_iff_eq, decide_eq_true_iff, ← UInt8.toNat_inj]; rfl
  have hc := c.toNat_lt
  unfold numC
  rw [h46, h43, h45]
  clear h46 h43 h45
  generalize isAl c = a at *
  generalize isDgB c = dg at *
  generalize c.toNat = n at *
  by_cases q46 : n = 46
  · subst q46
    cases a <;> cases dg
    all_goals
      go_enter Tryz.func80, Tryz.ntmps80
      go_wp2_with (first | (refine (HA.out _).mono ?_; rintro e w5 ⟨rfl, rfl⟩) | (refine (HD.out _).mono ?_; rintro e w5 ⟨rfl, rfl⟩) | fail)
      go_ret
      exact ⟨rfl, rfl⟩
  · have g46 : (n : Int) ≠ 46 := by omega
    rw [decide_eq_false q46]
    by_cases q43 : n = 43
    · subst q43
      cases a <;> cases dg
      all_goals
        go_enter Tryz.func80, Tryz.ntmps80
        go_wp2_with (first | (refine (HA.out _).mono ?_; rintro e w5 ⟨rfl, rfl⟩) | (refine (HD.out _).mono ?_; rintro e w5 ⟨rfl, rfl⟩) | fail)
        go_ret
        exact ⟨rfl, rfl⟩
    · have g43 : (n : Int) ≠ 43 := by omega
      rw [decide_eq_false q43]
      by_cases q45 : n = 45
      · subst q45
        cases a <;> cases dg
        all_goals
          go_enter Tryz.func80, Tryz.ntmps80
          go_wp2_with (first | (refine (HA.out _).mono ?_; rintro e w5 ⟨rfl, rfl⟩) | (refine (HD.out _).mono ?_; rintro e w5 ⟨rfl, rfl⟩) | fail)
          go_ret
          exact ⟨rfl, rfl⟩
      · have g45 : (n : Int) ≠ 45 := by omega
        rw [decide_eq_false q45]
        cases a <;> cases dg
        all_goals
          go_enter Tryz.func80, Tryz.ntmps80
          go_wp2_with (first | (refine (HA.out _).mono ?_; rintro e w5 ⟨rfl, rfl⟩) | (refine (HD.out _).mono ?_; rintro e w5 ⟨rfl, rfl⟩) | fail)
          go_ret
          exact ⟨ret_bool (by first | rfl | (simp; done) | (simp; omega)), rfl⟩
end Go.Proofs.YtckaoeloofbklaaGreatDoor
namespace Go.Proofs.YtckaoeloofbklaaGreatDoor
open Go Go.RowKit Go.Lib
theorem ent_alpha : ∀ args w, (callFunc 54 args).run Tryz.prog w = .ok (.enter 54 args) w := enters_of Tryz.func54 (by kernel_rfl) rfl
theorem ent_numc : ∀ args w, (callFunc 80 args).run Tryz.prog w = .ok (.enter 80 args) w := enters_of Tryz.func80 (by kernel_rfl) rfl
theorem ent_strc : ∀ args w, (callFunc 112 args).run Tryz.prog w = .ok (.enter 112 args) w := enters_of Tryz.func112 (by kernel_rfl) rfl
theorem Rd.alloc {r : Nat} {s : ByteArray} {t : List UInt8} {d : Nat} {w : World} (h : Rd r s t d w) (o : Obj) : Rd r s t d (w.alloc o) := h.below ((Below.refl _ _).alloc (Nat.le_refl _) o)
theorem KR.alloc {r : Nat} {a w : World} (h : KR r a w) (o : Obj) : KR r a (w.alloc o) := h.trans (KR.of ((Below.refl _ _).alloc (Nat.le_refl _) o))
theorem KR.setNew {r : Nat} {a w : World} (h : KR r a w) (p : Addr) (u : Value) (hp : a.heap.size ≤ p.block) : KR r a (w.setCell p u) :=
  ⟨h.os, h.tape, h.output, by simpa [World.setCell] using h.size, fun k hk hr => (Below.heap_setCell w p u k (by omega)).trans (h.block k hk hr)⟩
theorem cell_agg7 {w : World} {b : Nat} {x0 x1 x2 x3 x4 x5 x6 : Value} {T : TypeId} {f : Nat × Nat} (h : w.heap[b]? = some (.cells #[x0, x1, x2, x3, x4, x5, x6] T f)) :
    w.cell? ⟨b, 0, none⟩ = some x0 ∧ w.cell? ⟨b, 1, none⟩ = some x1 ∧ w.cell? ⟨b, 2, none⟩ = some x2 ∧ w.cell? ⟨b, 3, none⟩ = some x3 ∧ w.cell? ⟨b, 4, none⟩ = some x4 ∧ w.cell? ⟨b, 5, none⟩ = some x5 ∧ w.cell? ⟨b, 6, none⟩ = some x6 := by
  refine ⟨?_, ?_, ?_, ?_, ?_, ?_, ?_⟩ <;> simp [World.cell?, h]
theorem seven_set {w : World} {p : Nat} {T : TypeId} {x0 x1 x2 x3 x4 x5 x6 : Value} (h : w.heap[p]? = some (.cells #[x0, x1, x2, x3, x4, x5, x6] T (0, 0))) (y0 y1 y2 y3 y4 y5 y6 : Value) :
    (((((((w.setCell ⟨p, 0, none⟩ y0).setCell ⟨p, 1, none⟩ y1).setCell ⟨p, 2, none⟩ y2).setCell ⟨p, 3, none⟩ y3).setCell ⟨p, 4, none⟩ y4).setCell ⟨p, 5, none⟩ y5).setCell ⟨p, 6, none⟩ y6).heap[p]? = some (.cells #[y0, y1, y2, y3, y4, y5, y6] T (0, 0)) := by
  have h0 := setCellJ (j := 0) h y0
  have h1 := setCellJ (j := 1) h0 y1
  have h2 := setCellJ (j := 2) h1 y2
  have h3 := setCellJ (j := 3) h2 y3
  have h4 := setCellJ (j := 4) h3 y4
  have h5 := setCellJ (j := 5) h4 y5
  have h6 := setCellJ (j := 6) h5 y6
  simpa using h6
def set7 (w : World) (p : Nat) (y0 y1 y2 y3 y4 y5 y6 : Value) : World :=
  ((((((w.setCell ⟨p, 0, none⟩ y0).setCell ⟨p, 1, none⟩ y1).setCell ⟨p, 2, none⟩ y2).setCell ⟨p, 3, none⟩ y3).setCell ⟨p, 4, none⟩ y4).setCell ⟨p, 5, none⟩ y5).setCell ⟨p, 6, none⟩ y6
theorem set7_kr {r p : Nat} {a w : World} (h : KR r a w) (hp : a.heap.size ≤ p) (y0 y1 y2 y3 y4 y5 y6 : Value) : KR r a (set7 w p y0 y1 y2 y3 y4 y5 y6) :=
  ((((((h.setNew _ y0 hp).setNew _ y1 hp).setNew _ y2 hp).setNew _ y3 hp).setNew _ y4 hp).setNew _ y5 hp).setNew _ y6 hp
theorem set7_block {p k : Nat} {w : World} (hk : k ≠ p) (y0 y1 y2 y3 y4 y5 y6 : Value) : (set7 w p y0 y1 y2 y3 y4 y5 y6).heap[k]? = w.heap[k]? := by
  unfold set7
  rw [Below.heap_setCell _ _ _ _ hk, Below.heap_setCell _ _ _ _ hk, Below.heap_setCell _ _ _ _ hk, Below.heap_setCell _ _ _ _ hk, Below.heap_setCell _ _ _ _ hk, Below.heap_setCell _ _ _ _ hk, Below.heap_setCell _ _ _ _ hk]
theorem set7_ok {r p : Nat} {s : ByteArray} {t : List UInt8} {d : Nat} {a w : World} {k : Int} {b : Bool} {n u : Int} {x : ByteArray} {e : Ending} (he : e = .returned (atomV k b n u x)) (h : KR r a w) (hr : Rd r s t d w) (hp : a.heap.size ≤ p) (hrp : r < a.heap.size) (y0 y1 y2 y3 y4 y5 y6 : Value) :
    ValOk r s d a (.mk k b n u x [] []) t e (set7 w p y0 y1 y2 y3 y4 y5 y6) :=
  ⟨_, he, atom_at _ _ _ _ _ _ _, hr.kept (set7_block (by omega) ..), set7_kr h hp ..⟩
set_option maxRecDepth 100000 in
set_option maxHeartbeats 2000000 in
theorem word_null (r : Nat) (s : ByteArray) (t : List UInt8) (d : Nat) (w : World) (h : Rd r s (([110, 117, 108, 108] : List UInt8) ++ t) d w) (ht : Ends isAl t) :
    Calls Tryz.prog 55 #[.pointer (some ⟨r, 0, none⟩)] w (ValOk r s d w jNull t) := by
  have hal := h.alloc (.cells #[.int .u8 0, .bool false, .int .i64 0, .int .u64 0, .string ⟨#[]⟩, .slice none 0 0, .slice none 0 0] 27)
  have HR := Lib.hid (run_any _ isAl alphaJ_any ent_alpha r s ([110, 117, 108, 108] : List UInt8) t d _ hal (by decide) ht)
  obtain ⟨m, hm, c1⟩ := hal.pos
  have hnew := heap_alloc_new w (.cells #[.int .u8 0, .bool false, .int .i64 0, .int .u64 0, .string ⟨#[]⟩, .slice none 0 0, .slice none 0 0] 27)
  have HN := Lib.hid hnew
  have hrl := h.lt
  have HKR := Lib.hid ((KR.refl r w).alloc (.cells #[.int .u8 0, .bool false, .int .i64 0, .int .u64 0, .string ⟨#[]⟩, .slice none 0 0, .slice none 0 0] 27))
  clear h hal hm hnew
  go_enter Tryz.func55, Tryz.ntmps55
  go_wp2_with fail
  refine HR.out.mono ?_
  rintro e w1 ⟨rfl, hrd, hkr⟩
  have hn1 := (hkr.block w.heap.size (by simp) (by omega)).trans HN.out
  obtain ⟨n0, n1, n2, n3, n4, n5, n6⟩ := cell_agg7 hn1
  have q : ∀ j, w1.frozen? ⟨w.heap.size, j, none⟩ = false := fun j => froz_agg hn1 j
  have HRD := Lib.hid hrd
  have HK1 := Lib.hid hkr
  have HN1 := Lib.hid hn1
  clear hrd hkr hn1
  go_wp2_with fail
  show bodyPost _ _ _ _ _ (set7 w1 w.heap.size (.int .u8 1) (.bool false) (.int .i64 0) (.int .u64 0) (.string ⟨#[]⟩) (.slice none 0 0) (.slice none 0 0))
  have hF := seven_set HN1.out (.int .u8 1) (.bool false) (.int .i64 0) (.int .u64 0) (.string ⟨#[]⟩) (.slice none 0 0) (.slice none 0 0)
  have hok := fun e he => set7_ok (e := e) (k := 1) (b := false) (n := 0) (u := 0) (x := ⟨#[]⟩) (p := w.heap.size) he (HKR.out.trans HK1.out) HRD.out (Nat.le_refl _) hrl (.int .u8 1) (.bool false) (.int .i64 0) (.int .u64 0) (.string ⟨#[]⟩) (.slice none 0 0) (.slice none 0 0)
  unfold set7 at hok ⊢
  generalize ((((((w1.setCell ⟨w.heap.size, 0, none⟩ (.int .u8 1)).setCell ⟨w.heap.size, 1, none⟩ (.bool false)).setCell ⟨w.heap.size, 2, none⟩ (.int .i64 0)).setCell ⟨w.heap.size, 3, none⟩ (.int .u64 0)).setCell ⟨w.heap.size, 4, none⟩ (.string ⟨#[]⟩)).setCell ⟨w.heap.size, 5, none⟩ (.slice none 0 0)).setCell ⟨w.heap.size, 6, none⟩ (.slice none 0 0) = F at *
  obtain ⟨g0, g1, g2, g3, g4, g5, g6⟩ := cell_agg7 hF
  refine bodyPost_ret (v := atomV 1 false 0 0 ⟨#[]⟩) (by simp [results, Tryz.results55, go_sem, atomV, g0, g1, g2, g3, g4, g5, g6]) rfl ?_
  exact hok _ rfl
set_option maxRecDepth 100000 in
set_option maxHeartbeats 2000000 in
theorem word_true (r : Nat) (s : ByteArray) (t : List UInt8) (d : Nat) (w : World) (h : Rd r s (([116, 114, 117, 101] : List UInt8) ++ t) d w) (ht : Ends isAl t) :
    Calls Tryz.prog 55 #[.pointer (some ⟨r, 0, none⟩)] w (ValOk r s d w (jBool true) t) := by
  have hal := h.alloc (.cells #[.int .u8 0, .bool false, .int .i64 0, .int .u64 0, .string ⟨#[]⟩, .slice none 0 0, .slice none 0 0] 27)
  have HR := Lib.hid (run_any _ isAl alphaJ_any ent_alpha r s ([116, 114, 117, 101] : List UInt8) t d _ hal (by decide) ht)
  obtain ⟨m, hm, c1⟩ := hal.pos
  have hnew := heap_alloc_new w (.cells #[.int .u8 0, .bool false, .int .i64 0, .int .u64 0, .string ⟨#[]⟩, .slice none 0 0, .slice none 0 0] 27)
  have HN := Lib.hid hnew
  have hrl := h.lt
  have HKR := Lib.hid ((KR.refl r w).alloc (.cells #[.int .u8 0, .bool false, .int .i64 0, .int .u64 0, .string ⟨#[]⟩, .slice none 0 0, .slice none 0 0] 27))
  clear h hal hm hnew
  go_enter Tryz.func55, Tryz.ntmps55
  go_wp2_with fail
  refine HR.out.mono ?_
  rintro e w1 ⟨rfl, hrd, hkr⟩
  have hn1 := (hkr.block w.heap.size (by simp) (by omega)).trans HN.out
  obtain ⟨n0, n1, n2, n3, n4, n5, n6⟩ := cell_agg7 hn1
  have q : ∀ j, w1.frozen? ⟨w.heap.size, j, none⟩ = false := fun j => froz_agg hn1 j
  have HRD := Lib.hid hrd
  have HK1 := Lib.hid hkr
  have HN1 := Lib.hid hn1
  clear hrd hkr hn1
  go_wp2_with fail
  show bodyPost _ _ _ _ _ (set7 w1 w.heap.size (.int .u8 2) (.bool true) (.int .i64 0) (.int .u64 0) (.string ⟨#[]⟩) (.slice none 0 0) (.slice none 0 0))
  have hF := seven_set HN1.out (.int .u8 2) (.bool true) (.int .i64 0) (.int .u64 0) (.string ⟨#[]⟩) (.slice none 0 0) (.slice none 0 0)
  have hok := fun e he => set7_ok (e := e) (k := 2) (b := true) (n := 0) (u := 0) (x := ⟨#[]⟩) (p := w.heap.size) he (HKR.out.trans HK1.out) HRD.out (Nat.le_refl _) hrl (.int .u8 2) (.bool true) (.int .i64 0) (.int .u64 0) (.string ⟨#[]⟩) (.slice none 0 0) (.slice none 0 0)
  unfold set7 at hok ⊢
  generalize ((((((w1.setCell ⟨w.heap.size, 0, none⟩ (.int .u8 2)).setCell ⟨w.heap.size, 1, none⟩ (.bool true)).setCell ⟨w.heap.size, 2, none⟩ (.int .i64 0)).setCell ⟨w.heap.size, 3, none⟩ (.int .u64 0)).setCell ⟨w.heap.size, 4, none⟩ (.string ⟨#[]⟩)).setCell ⟨w.heap.size, 5, none⟩ (.slice none 0 0)).setCell ⟨w.heap.size, 6, none⟩ (.slice none 0 0) = F at *
  obtain ⟨g0, g1, g2, g3, g4, g5, g6⟩ := cell_agg7 hF
  refine bodyPost_ret (v := atomV 2 true 0 0 ⟨#[]⟩) (by simp [results, Tryz.results55, go_sem, atomV, g0, g1, g2, g3, g4, g5, g6]) rfl ?_
  exact hok _ rfl
set_option maxRecDepth 100000 in
set_option maxHeartbeats 2000000 in
theorem word_false (r : Nat) (s : ByteArray) (t : List UInt8) (d : Nat) (w : World) (h : Rd r s (([102, 97, 108, 115, 101] : List UInt8) ++ t) d w) (ht : Ends isAl t) :
    Calls Tryz.prog 55 #[.pointer (some ⟨r, 0, none⟩)] w (ValOk r s d w (jBool false) t) := by
  have hal := h.alloc (.cells #[.int .u8 0, .bool false, .int .i64 0, .int .u64 0, .string ⟨#[]⟩, .slice none 0 0, .slice none 0 0] 27)
  have HR := Lib.hid (run_any _ isAl alphaJ_any ent_alpha r s ([102, 97, 108, 115, 101] : List UInt8) t d _ hal (by decide) ht)
  obtain ⟨m, hm, c1⟩ := hal.pos
  have hnew := heap_alloc_new w (.cells #[.int .u8 0, .bool false, .int .i64 0, .int .u64 0, .string ⟨#[]⟩, .slice none 0 0, .slice none 0 0] 27)
  have HN := Lib.hid hnew
  have hrl := h.lt
  have HKR := Lib.hid ((KR.refl r w).alloc (.cells #[.int .u8 0, .bool false, .int .i64 0, .int .u64 0, .string ⟨#[]⟩, .slice none 0 0, .slice none 0 0] 27))
  clear h hal hm hnew
  go_enter Tryz.func55, Tryz.ntmps55
  go_wp2_with fail
  refine HR.out.mono ?_
  rintro e w1 ⟨rfl, hrd, hkr⟩
  have hn1 := (hkr.block w.heap.size (by simp) (by omega)).trans HN.out
  obtain ⟨n0, n1, n2, n3, n4, n5, n6⟩ := cell_agg7 hn1
  have q : ∀ j, w1.frozen? ⟨w.heap.size, j, none⟩ = false := fun j => froz_agg hn1 j
  have HRD := Lib.hid hrd
  have HK1 := Lib.hid hkr
  have HN1 := Lib.hid hn1
  clear hrd hkr hn1
  go_wp2_with fail
  show bodyPost _ _ _ _ _ (set7 w1 w.heap.size (.int .u8 2) (.bool false) (.int .i64 0) (.int .u64 0) (.string ⟨#[]⟩) (.slice none 0 0) (.slice none 0 0))
  have hF := seven_set HN1.out (.int .u8 2) (.bool false) (.int .i64 0) (.int .u64 0) (.string ⟨#[]⟩) (.slice none 0 0) (.slice none 0 0)
  have hok := fun e he => set7_ok (e := e) (k := 2) (b := false) (n := 0) (u := 0) (x := ⟨#[]⟩) (p := w.heap.size) he (HKR.out.trans HK1.out) HRD.out (Nat.le_refl _) hrl (.int .u8 2) (.bool false) (.int .i64 0) (.int .u64 0) (.string ⟨#[]⟩) (.slice none 0 0) (.slice none 0 0)
  unfold set7 at hok ⊢
  generalize ((((((w1.setCell ⟨w.heap.size, 0, none⟩ (.int .u8 2)).setCell ⟨w.heap.size, 1, none⟩ (.bool false)).setCell ⟨w.heap.size, 2, none⟩ (.int .i64 0)).setCell ⟨w.heap.size, 3, none⟩ (.int .u64 0)).setCell ⟨w.heap.size, 4, none⟩ (.string ⟨#[]⟩)).setCell ⟨w.heap.size, 5, none⟩ (.slice none 0 0)).setCell ⟨w.heap.size, 6, none⟩ (.slice none 0 0) = F at *
  obtain ⟨g0, g1, g2, g3, g4, g5, g6⟩ := cell_agg7 hF
  refine bodyPost_ret (v := atomV 2 false 0 0 ⟨#[]⟩) (by simp [results, Tryz.results55, go_sem, atomV, g0, g1, g2, g3, g4, g5, g6]) rfl ?_
  exact hok _ rfl
end Go.Proofs.YtckaoeloofbklaaGreatDoor
namespace Go.Proofs.YtckaoeloofbklaaGreatDoor
section
variable (intL fltL : Int → List UInt8)
mutual
def showJ : JV → List UInt8
  | .mk k b n u s ks vs =>
    if k = 1 then [110, 117, 108, 108]
    else if k = 2 then (if b then [116, 114, 117, 101] else [102, 97, 108, 115, 101])
    else if k = 3 then intL n
    else if k = 4 then fltL u
    else if k = 5 then quoL s.data.toList
    else if k = 7 then 123 :: (showT true ks vs).drop 1 ++ [125]
    else 91 :: (showT false ks vs).drop 1 ++ [93]
def showT : Bool → List ByteArray → List JV → List UInt8
  | _, _, [] => []
  | r, ks, v :: vs => 44 :: ((if r then quoL (ks.headD ⟨#[]⟩).data.toList ++ [58] else []) ++ showJ v) ++ showT r ks.tail vs
end
variable (inf : Int → Bool)
mutual
def normJ : JV → JV
  | .mk k b n u s ks vs => if k = 4 ∧ inf u = true then jNull else .mk k b n u ⟨(decB8 s.data.toList).toArray⟩ (ks.map fun k => ⟨(decB8 k.data.toList).toArray⟩) (normL vs)
def normL : List JV → List JV
  | [] => []
  | v :: l => normJ v :: normL l
end
mutual
def dupJ : JV → Bool
  | .mk _ _ _ _ _ ks vs => !decide (ks.map fun k => (⟨(decB8 k.data.toList).toArray⟩ : ByteArray)).Nodup || dupL vs
def dupL : List JV → Bool
  | [] => false
  | v :: l => dupJ v || dupL l
end
end
def markC (c : UInt8) : Bool := c == 91 || c == 93 || c == 123 || c == 125 || c == 44 || c == 58
inductive Bl : Bool → List UInt8 → List UInt8 → Prop
  | nil {b} : Bl b [] []
  | char {b c s t} (h : (xor b (c == 34)) = true ∨ markC c = false) (h' : Bl (xor b (c == 34)) s t) : Bl b (c :: s) (c :: t)
  | mark {c s t p q} (h : markC c = true) (hp : p.all isBl = true) (hq : q.all isBl = true) (h' : Bl false s t) : Bl false (c :: s) (p ++ c :: (q ++ t))
def inN (b : Bool) (l : List UInt8) : Bool := l.foldl (fun b c => xor b (c == 34)) b
theorem Bl.split : ∀ {b : Bool} {a s T : List UInt8}, Bl b (a ++ s) T → ∃ t1 T', T = t1 ++ T' ∧ Bl b a t1 ∧ Bl (inN b a) s T'
  | b, [], s, T, h => ⟨[], T, rfl, .nil, h⟩
  | b, c :: a, s, T, h => by
    rw [List.cons_append] at h
    cases h with
    | char h1 h2 =>
      obtain ⟨t1, T', rfl, g1, g2⟩ := h2.split
      exact ⟨c :: t1, T', rfl, .char h1 g1, g2⟩
    | mark h1 hp hq h2 =>
      rename_i t p q
      obtain ⟨t1, T', rfl, g1, g2⟩ := h2.split
      have hc : (c == 34) = false := by
        unfold markC at h1
        rw [beq_eq_false_iff_ne]; rintro rfl; revert h1; decide
      refine ⟨p ++ c :: (q ++ t1), T', by simp, .mark h1 hp hq g1, ?_⟩
      show Bl (inN (xor false (c == 34)) a) s T'
      rw [hc]
      exact g2
theorem Bl.same : ∀ {b : Bool} {a t : List UInt8}, Bl b a t → (∀ c ∈ a, markC c = false ∧ c ≠ 34) → t = a
  | b, [], t, h, _ => by cases h; rfl
  | b, c :: a, t, h, hm => by
    cases h with
    | char h1 h2 => rw [h2.same fun x hx => hm x (by simp [hx])]
    | mark h1 hp hq h2 => exact absurd h1 (by rw [(hm c (by simp)).1]; decide)
theorem Bl.within : ∀ {a t : List UInt8}, Bl true a t → (∀ c ∈ a, c ≠ 34) → t = a
  | [], t, h, _ => by cases h; rfl
  | c :: a, t, h, hm => by
    cases h with
    | char h1 h2 =>
      have hc : (c == 34) = false := beq_eq_false_iff_ne.2 (hm c (by simp))
      rw [hc] at h2
      rw [h2.within fun x hx => hm x (by simp [hx])]
theorem in_none : ∀ (b : Bool) (a : List UInt8), (∀ c ∈ a, c ≠ 34) → inN b a = b
  | b, [], _ => rfl
  | b, c :: a, h => by
    have hc : (c == 34) = false := beq_eq_false_iff_ne.2 (h c (by simp))
    show inN (xor b (c == 34)) a = b
    rw [hc, Bool.xor_false]
    exact in_none b a fun x hx => h x (by simp [hx])
theorem in_append (b : Bool) (a c : List UInt8) : inN b (a ++ c) = inN (inN b a) c := by unfold inN; rw [List.foldl_append]
theorem quoI_ne (l : List UInt8) : ∀ c ∈ quoI l, c ≠ 34 := by
  intro c hc
  unfold quoI at hc
  obtain ⟨r, hr, hc⟩ := List.mem_flatMap.1 hc
  unfold quoR at hc
  split at hc
  · rename_i hi
    have := List.all_eq_true.1 (asIs_str r (pts_scals l r hr) hi) c hc
    unfold strC at this
    rintro rfl
    simp at this
  · simp only [hex4L, List.mem_cons, List.mem_nil_iff, or_false] at hc
    have hd : ∀ n : Fin 16, hexD n.val ≠ 34 := by decide +kernel
    have hd' : ∀ n, n < 16 → hexD n ≠ 34 := fun n h => hd ⟨n, h⟩
    rcases hc with rfl | rfl | rfl | rfl | rfl | rfl
    · decide
    · decide
    all_goals exact hd' _ (by omega)
theorem Bl.quoted {l t s : List UInt8} (h : Bl false (quoL l ++ s) t) : ∃ T', t = 34 :: (quoI l ++ 34 :: T') ∧ Bl false s T' := by
  obtain ⟨t1, T', rfl, g1, g2⟩ := h.split
  unfold quoL at g1 g2
  rw [List.cons_append] at g1 g2
  cases g1 with
  | mark h1 => exact absurd h1 (by decide)
  | char h1 h2 =>
    rename_i t2
    have h2 : Bl true (quoI l ++ [34]) t2 := h2
    obtain ⟨u1, U', rfl, k1, k2⟩ := h2.split
    rw [k1.within (quoI_ne l)]
    rw [in_none _ _ (quoI_ne l)] at k2
    cases k2 with
    | char h3 h4 =>
      cases h4 with
      | nil =>
        refine ⟨T', by simp, ?_⟩
        have : inN false (34 :: (quoI l ++ [34])) = false := by
          show inN true (quoI l ++ [34]) = false
          rw [in_append, in_none _ _ (quoI_ne l)]
          rfl
        rw [this] at g2
        exact g2
end Go.Proofs.YtckaoeloofbklaaGreatDoor
namespace Go.Proofs.YtckaoeloofbklaaGreatDoor
open Go Go.RowKit Go.Lib
theorem ItAt.get {ok : Nat → Prop} {w : World} {q : Nat} : ∀ {vs : List JV} {off : Nat} {i : Nat} {x : JV}, ItAt ok w q off vs → vs[i]? = some x → ∃ V, Cells7 w q (off + 7 * i) V ∧ JAt ok w x V
  | [], _, _, _, _, h => by simp at h
  | v :: vs, off, 0, x, h, hx => by
    rw [ItAt] at h
    simp at hx
    subst hx
    simpa using h.1
  | v :: vs, off, i + 1, x, h, hx => by
    rw [ItAt] at h
    have := ItAt.get h.2 (i := i) (x := x) (by simpa using hx)
    rwa [show off + 7 * (i + 1) = off + 7 + 7 * i by omega]
section
variable (intL fltL : Int → List UInt8)
def showK (r : Bool) (ks : List ByteArray) (v : JV) : List UInt8 := (if r then quoL (ks.headD ⟨#[]⟩).data.toList ++ [58] else []) ++ showJ intL fltL v
theorem showT_cons (r : Bool) (ks : List ByteArray) (v : JV) (vs : List JV) : showT intL fltL r ks (v :: vs) = 44 :: showK intL fltL r ks v ++ showT intL fltL r ks.tail vs := by rw [showT]; rfl
theorem showT_snoc (r : Bool) (v : JV) : ∀ (vs : List JV) (ks : List ByteArray), showT intL fltL r ks (vs ++ [v]) = showT intL fltL r ks vs ++ 44 :: showK intL fltL r (ks.drop vs.length) v
  | [], ks => by rw [List.nil_append, showT_cons, showT, showT]; simp
  | u :: vs, ks => by
    rw [List.cons_append, showT_cons, showT_cons, showT_snoc r v vs ks.tail]
    simp [List.drop_tail]
theorem showT_step (r : Bool) (ks : List ByteArray) (vs : List JV) (i : Nat) (x : JV) (hx : vs[i]? = some x) :
    (showT intL fltL r ks (vs.take (i + 1))).drop 1 = (showT intL fltL r ks (vs.take i)).drop 1 ++ ((if i = 0 then [] else [44]) ++ showK intL fltL r (ks.drop i) x) := by
  obtain ⟨hi, hx'⟩ := List.getElem?_eq_some_iff.1 hx
  have ht : vs.take (i + 1) = vs.take i ++ [x] := by rw [List.take_add_one, hx]; rfl
  have hl : (vs.take i).length = i := by rw [List.length_take]; omega
  rw [ht, showT_snoc, hl]
  cases i with
  | zero => simp [showT]
  | succ i =>
    obtain ⟨u, us, hu⟩ : ∃ u us, vs.take (i + 1) = u :: us := by
      cases h : vs.take (i + 1) with
      | nil => rw [h] at hl; simp at hl
      | cons u us => exact ⟨u, us, rfl⟩
    rw [hu, showT_cons]
    simp
end
end Go.Proofs.YtckaoeloofbklaaGreatDoor
namespace Go.Proofs.YtckaoeloofbklaaGreatDoor
open Go Go.RowKit Go.Lib
def fltI (u : Int) : List UInt8 := fltN u.toNat
theorem BW.on {B b : Nat} {l : List UInt8} {A C D : World} (h : BW B b l A C) (hb : Below C.heap.size C D) (hA : B ≤ A.heap.size) : BW B b l A D :=
  ⟨h.bl.below hb, h.below.trans (hb.mono (Nat.le_trans hA h.below.size)), h.oth.below hb⟩
abbrev shJ : JV → List UInt8 := showJ Lib.itoa fltI
theorem fbool_is (bb : Bool) : Lib.formatBool bb = if bb then [116, 114, 117, 101] else [102, 97, 108, 115, 101] := by cases bb <;> rfl
theorem fbool_len (bb : Bool) : (Lib.formatBool bb).length ≤ 5 := by cases bb <;> decide
theorem itoa_len (n : Int) (h1 : -9223372036854775808 ≤ n) (h2 : n < 9223372036854775808) : (Lib.itoa n).length ≤ 20 := by
  unfold Lib.itoa
  split
  · rw [List.length_cons, decDigits_length]
    have := nd_le 18 n.natAbs (by omega)
    omega
  · rw [decDigits_length]
    have := nd_le 18 n.toNat (by omega)
    omega
theorem fltN_len (u : Nat) : (fltN u).length ≤ 110 := by
  have := showB_len u
  unfold fltN
  split
  · simp
  · split
    · omega
    · rw [List.length_append]; simp; omega
theorem quoL_len (l : List UInt8) : (quoL l).length ≤ 6 * l.length + 2 := by
  have h := outQ_len (ptsO 0 l)
  rw [outQ_all, ptsO_len] at h
  have := pts_len l
  unfold quoL
  rw [List.length_append, List.length_cons]
  simp
  omega
set_option maxRecDepth 100000 in
set_option maxHeartbeats 4000000 in
theorem show_null (B b : Nat) (l : List UInt8) (bb : Bool) (n u : Int) (s : ByteArray) (x y : Value) (w : World) (h : BL B b l w) (hB : B ≤ w.heap.size) (hl : l.length + 4 ≤ 140737488355328) :
    Calls Tryz.prog 22 #[.pointer (some ⟨b, 0, none⟩), .agg #[.int .u8 1, .bool bb, .int .i64 n, .int .u64 u, .string s, x, y]] w fun e w' => e = .returned (.tuple #[]) ∧ BW B b (l ++ [110, 117, 108, 108]) w w' := by
  have hA : BW B b l w (w.alloc (.cells #[.int .u8 1, .bool bb, .int .i64 n, .int .u64 u, .string s, x, y] 27)) := ⟨h.below ((Below.refl _ _).alloc (Nat.le_refl _) _), (Below.refl _ _).alloc hB _, (Lib.OthersKept.refl _ _ _).alloc _⟩
  have hsA : (w.alloc (.cells #[.int .u8 1, .bool bb, .int .i64 n, .int .u64 u, .string s, x, y] 27)).heap.size = w.heap.size + 1 := by simp
  have hbx := heap_alloc_new w (.cells #[.int .u8 1, .bool bb, .int .i64 n, .int .u64 u, .string s, x, y] 27)
  have hbA : Below w.heap.size w (w.alloc (.cells #[.int .u8 1, .bool bb, .int .i64 n, .int .u64 u, .string s, x, y] 27)) := (Below.refl _ _).alloc (Nat.le_refl _) _
  obtain ⟨c0, c1, c2, c3, c4, c5, c6⟩ := cell_agg7 hbx
  have HA := Lib.hid hA
  have HBA := Lib.hid hbA
  clear hA hbx h hbA
  go_enter Tryz.func22, Tryz.ntmps22
  go_upto_region 1 with fail
  generalize w.alloc (.cells #[.int .u8 1, .bool bb, .int .i64 n, .int .u64 u, .string s, x, y] 27) = wA at *
  have HWW := HA
  have HW := Lib.hid (bw_string B b l (⟨#[110, 117, 108, 108]⟩ : ByteArray) wA HWW.out.bl (by show _ + 4 ≤ _; omega) (by have := HWW.out.below.size; omega))
  go_wp2_with fail
  refine HW.out.mono ?_
  rintro e w3 ⟨rfl, hw⟩
  have HW3 := Lib.hid hw
  clear hw
  go_wp2_with fail
  go_end0
  exact ⟨rfl, HWW.out.trans HW3.out⟩
set_option maxRecDepth 100000 in
set_option maxHeartbeats 4000000 in
theorem show_bool (B b : Nat) (l : List UInt8) (bb : Bool) (n u : Int) (s : ByteArray) (x y : Value) (w : World) (h : BL B b l w) (hB : B ≤ w.heap.size) (hl : l.length + 5 ≤ 140737488355328) :
    Calls Tryz.prog 22 #[.pointer (some ⟨b, 0, none⟩), .agg #[.int .u8 2, .bool bb, .int .i64 n, .int .u64 u, .string s, x, y]] w fun e w' => e = .returned (.tuple #[]) ∧ BW B b (l ++ Lib.formatBool bb) w w' := by
  have hA : BW B b l w (w.alloc (.cells #[.int .u8 2, .bool bb, .int .i64 n, .int .u64 u, .string s, x, y] 27)) := ⟨h.below ((Below.refl _ _).alloc (Nat.le_refl _) _), (Below.refl _ _).alloc hB _, (Lib.OthersKept.refl _ _ _).alloc _⟩
  have hsA : (w.alloc (.cells #[.int .u8 2, .bool bb, .int .i64 n, .int .u64 u, .string s, x, y] 27)).heap.size = w.heap.size + 1 := by simp
  have hbx := heap_alloc_new w (.cells #[.int .u8 2, .bool bb, .int .i64 n, .int .u64 u, .string s, x, y] 27)
  have hbA : Below w.heap.size w (w.alloc (.cells #[.int .u8 2, .bool bb, .int .i64 n, .int .u64 u, .string s, x, y] 27)) := (Below.refl _ _).alloc (Nat.le_refl _) _
  obtain ⟨c0, c1, c2, c3, c4, c5, c6⟩ := cell_agg7 hbx
  have HA := Lib.hid hA
  have HBA := Lib.hid hbA
  clear hA hbx h hbA
  go_enter Tryz.func22, Tryz.ntmps22
  go_upto_region 1 with fail
  generalize w.alloc (.cells #[.int .u8 2, .bool bb, .int .i64 n, .int .u64 u, .string s, x, y] 27) = wA at *
  have HC := Lib.hid ((Tryz.strconv_FormatBool bb wA).mono (R' := fun e w' => e = .returned (.string ⟨(Lib.formatBool bb).toArray⟩) ∧ Below wA.heap.size wA w') (by rintro e w' ⟨rfl, rfl⟩; exact ⟨rfl, Below.refl _ _⟩))
  go_wp2_with fail
  refine HC.out.mono ?_
  rintro e w2 ⟨rfl, hb2⟩
  have HWW := Lib.hid (HA.out.on hb2 hB)
  clear hb2
  have HW := Lib.hid (bw_string B b l ⟨(Lib.formatBool bb).toArray⟩ w2 HWW.out.bl (by show _ + (Lib.formatBool bb).length ≤ _; have := fbool_len bb; omega) (by have := HWW.out.below.size; omega))
  go_wp2_with fail
  refine HW.out.mono ?_
  rintro e w3 ⟨rfl, hw⟩
  have HW3 := Lib.hid hw
  clear hw
  go_wp2_with fail
  go_end0
  exact ⟨rfl, HWW.out.trans HW3.out⟩
set_option maxRecDepth 100000 in
set_option maxHeartbeats 4000000 in
theorem show_int (B b : Nat) (l : List UInt8) (bb : Bool) (n u : Int) (s : ByteArray) (x y : Value) (w : World) (h : BL B b l w) (hB : B ≤ w.heap.size) (hl : l.length + 100 ≤ 140737488355328) (hg : Globs w) (h1 : -9223372036854775808 ≤ n) (h2 : n < 9223372036854775808) :
    Calls Tryz.prog 22 #[.pointer (some ⟨b, 0, none⟩), .agg #[.int .u8 3, .bool bb, .int .i64 n, .int .u64 u, .string s, x, y]] w fun e w' => e = .returned (.tuple #[]) ∧ BW B b (l ++ Lib.itoa n) w w' := by
  have hA : BW B b l w (w.alloc (.cells #[.int .u8 3, .bool bb, .int .i64 n, .int .u64 u, .string s, x, y] 27)) := ⟨h.below ((Below.refl _ _).alloc (Nat.le_refl _) _), (Below.refl _ _).alloc hB _, (Lib.OthersKept.refl _ _ _).alloc _⟩
  have hsA : (w.alloc (.cells #[.int .u8 3, .bool bb, .int .i64 n, .int .u64 u, .string s, x, y] 27)).heap.size = w.heap.size + 1 := by simp
  have hbx := heap_alloc_new w (.cells #[.int .u8 3, .bool bb, .int .i64 n, .int .u64 u, .string s, x, y] 27)
  have hbA : Below w.heap.size w (w.alloc (.cells #[.int .u8 3, .bool bb, .int .i64 n, .int .u64 u, .string s, x, y] 27)) := (Below.refl _ _).alloc (Nat.le_refl _) _
  obtain ⟨c0, c1, c2, c3, c4, c5, c6⟩ := cell_agg7 hbx
  have HA := Lib.hid hA
  have HBA := Lib.hid hbA
  clear hA hbx h hbA
  go_enter Tryz.func22, Tryz.ntmps22
  go_upto_region 1 with fail
  generalize w.alloc (.cells #[.int .u8 3, .bool bb, .int .i64 n, .int .u64 u, .string s, x, y] 27) = wA at *
  have HC := Lib.hid ((Tryz.strconv_FormatInt_10 n h1 (by omega) wA (hg.on HBA.out).glob.u10).mono (R' := fun e w' => e = .returned (.string ⟨(Lib.itoa n).toArray⟩) ∧ Below wA.heap.size wA w') (by rintro e w' ⟨rfl, k, os, rfl⟩; exact ⟨rfl, below_grow _ wA (Nat.le_refl _) k os⟩))
  go_wp2_with fail
  refine HC.out.mono ?_
  rintro e w2 ⟨rfl, hb2⟩
  have HWW := Lib.hid (HA.out.on hb2 hB)
  clear hb2
  have HW := Lib.hid (bw_string B b l ⟨(Lib.itoa n).toArray⟩ w2 HWW.out.bl (by show _ + (Lib.itoa n).length ≤ _; have := itoa_len n h1 h2; omega) (by have := HWW.out.below.size; omega))
  go_wp2_with fail
  refine HW.out.mono ?_
  rintro e w3 ⟨rfl, hw⟩
  have HW3 := Lib.hid hw
  clear hw
  go_wp2_with fail
  go_end0
  exact ⟨rfl, HWW.out.trans HW3.out⟩
set_option maxRecDepth 100000 in
set_option maxHeartbeats 4000000 in
theorem show_flt (B b : Nat) (l : List UInt8) (bb : Bool) (n : Int) (u : Nat) (s : ByteArray) (x y : Value) (w : World) (h : BL B b l w) (hB : B ≤ w.heap.size) (hl : l.length + 200 ≤ 140737488355328) (hg : Globs w) (h2 : u < 18446744073709551616) :
    Calls Tryz.prog 22 #[.pointer (some ⟨b, 0, none⟩), .agg #[.int .u8 4, .bool bb, .int .i64 n, .int .u64 (u : Int), .string s, x, y]] w fun e w' => e = .returned (.tuple #[]) ∧ BW B b (l ++ fltN u) w w' := by
  have hA : BW B b l w (w.alloc (.cells #[.int .u8 4, .bool bb, .int .i64 n, .int .u64 (u : Int), .string s, x, y] 27)) := ⟨h.below ((Below.refl _ _).alloc (Nat.le_refl _) _), (Below.refl _ _).alloc hB _, (Lib.OthersKept.refl _ _ _).alloc _⟩
  have hsA : (w.alloc (.cells #[.int .u8 4, .bool bb, .int .i64 n, .int .u64 (u : Int), .string s, x, y] 27)).heap.size = w.heap.size + 1 := by simp
  have hbx := heap_alloc_new w (.cells #[.int .u8 4, .bool bb, .int .i64 n, .int .u64 (u : Int), .string s, x, y] 27)
  have hbA : Below w.heap.size w (w.alloc (.cells #[.int .u8 4, .bool bb, .int .i64 n, .int .u64 (u : Int), .string s, x, y] 27)) := (Below.refl _ _).alloc (Nat.le_refl _) _
  obtain ⟨c0, c1, c2, c3, c4, c5, c6⟩ := cell_agg7 hbx
  have HA := Lib.hid hA
  have HBA := Lib.hid hbA
  clear hA hbx h hbA
  go_enter Tryz.func22, Tryz.ntmps22
  go_upto_region 1 with fail
  generalize w.alloc (.cells #[.int .u8 4, .bool bb, .int .i64 n, .int .u64 (u : Int), .string s, x, y] 27) = wA at *
  have HC := Lib.hid (float_any u wA (hg.on HBA.out) h2)
  go_wp2_with fail
  refine HC.out.mono ?_
  rintro e w2 ⟨rfl, hb2⟩
  have HWW := Lib.hid (HA.out.on hb2 hB)
  clear hb2
  have HW := Lib.hid (bw_string B b l ⟨(fltN u).toArray⟩ w2 HWW.out.bl (by show _ + (fltN u).length ≤ _; have := fltN_len u; omega) (by have := HWW.out.below.size; omega))
  go_wp2_with fail
  refine HW.out.mono ?_
  rintro e w3 ⟨rfl, hw⟩
  have HW3 := Lib.hid hw
  clear hw
  go_wp2_with fail
  go_end0
  exact ⟨rfl, HWW.out.trans HW3.out⟩
set_option maxRecDepth 100000 in
set_option maxHeartbeats 4000000 in
theorem show_str (B b : Nat) (l : List UInt8) (bb : Bool) (n u : Int) (s : ByteArray) (x y : Value) (w : World) (h : BL B b l w) (hB : B ≤ w.heap.size) (hl : l.length + 6 * s.size + 2 ≤ 140737488355328) (h17 : 17 ≤ w.heap.size) (hT : Lib.Utf8Tabs 0 1 w) (hs : s.size ≤ 17592186040000) :
    Calls Tryz.prog 22 #[.pointer (some ⟨b, 0, none⟩), .agg #[.int .u8 5, .bool bb, .int .i64 n, .int .u64 u, .string s, x, y]] w fun e w' => e = .returned (.tuple #[]) ∧ BW B b (l ++ quoL s.data.toList) w w' := by
  have hA : BW B b l w (w.alloc (.cells #[.int .u8 5, .bool bb, .int .i64 n, .int .u64 u, .string s, x, y] 27)) := ⟨h.below ((Below.refl _ _).alloc (Nat.le_refl _) _), (Below.refl _ _).alloc hB _, (Lib.OthersKept.refl _ _ _).alloc _⟩
  have hsA : (w.alloc (.cells #[.int .u8 5, .bool bb, .int .i64 n, .int .u64 u, .string s, x, y] 27)).heap.size = w.heap.size + 1 := by simp
  have hbx := heap_alloc_new w (.cells #[.int .u8 5, .bool bb, .int .i64 n, .int .u64 u, .string s, x, y] 27)
  have hbA : Below w.heap.size w (w.alloc (.cells #[.int .u8 5, .bool bb, .int .i64 n, .int .u64 u, .string s, x, y] 27)) := (Below.refl _ _).alloc (Nat.le_refl _) _
  obtain ⟨c0, c1, c2, c3, c4, c5, c6⟩ := cell_agg7 hbx
  have HA := Lib.hid hA
  have HBA := Lib.hid hbA
  clear hA hbx h hbA
  go_enter Tryz.func22, Tryz.ntmps22
  go_upto_region 1 with fail
  generalize w.alloc (.cells #[.int .u8 5, .bool bb, .int .i64 n, .int .u64 u, .string s, x, y] 27) = wA at *
  have HC := Lib.hid (quote_any s wA (by have := HBA.out.size; omega) (utabs_kept hT (HBA.out.mono h17)) hs)
  go_wp2_with fail
  refine HC.out.mono ?_
  rintro e w2 ⟨rfl, hb2⟩
  have HWW := Lib.hid (HA.out.on hb2 hB)
  clear hb2
  have HW := Lib.hid (bw_string B b l ⟨(quoL s.data.toList).toArray⟩ w2 HWW.out.bl (by show _ + (quoL s.data.toList).length ≤ _; have := quoL_len s.data.toList; have h0 : s.data.toList.length = s.size := (by simp); omega) (by have := HWW.out.below.size; omega))
  go_wp2_with fail
  refine HW.out.mono ?_
  rintro e w3 ⟨rfl, hw⟩
  have HW3 := Lib.hid hw
  clear hw
  go_wp2_with fail
  go_end0
  exact ⟨rfl, HWW.out.trans HW3.out⟩
end Go.Proofs.YtckaoeloofbklaaGreatDoor
