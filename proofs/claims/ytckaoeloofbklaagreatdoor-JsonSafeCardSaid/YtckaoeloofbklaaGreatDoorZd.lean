/- Joined texts: Ja Je Pa Jc Jd Jf Vb Vc. Each begins with its own remark. -/
import Derived.Test.YtckaoeloofbklaaGreatDoorZc
import Derived.Shelf.Strings.SlTrimAscii
import Derived.Deep.RegionHeld
import Derived.Deep.QuietTactic
import Derived.BigQuiet
import Derived.Test.YtckaoeloofbklaaGreatDoorZb
import Derived.Deep.LoopGhost
import Derived.Deep.Cut
import Derived.Lib.LaidTab
import Derived.Lib.ItoaNum
import Derived.Laws.Bits64b
import GoSem.PinnedTables
import Derived.Test.YtckaoeloofbklaaGreatDoorZShelf

/- The reader of JSON: what it is, and its small methods. -/
namespace Go.Proofs.YtckaoeloofbklaaGreatDoor
open Go Go.RowKit Go.Lib

/-- what lay in w lies in w' but block r -/
structure KR (r : Nat) (w w' : World) : Prop where
  os : w'.os = w.os
  tape : w'.tape = w.tape
  output : w'.output = w.output
  size : w.heap.size ≤ w'.heap.size
  block : ∀ k, k < w.heap.size → k ≠ r → w'.heap[k]? = w.heap[k]?
theorem KR.refl (r : Nat) (w : World) : KR r w w := ⟨rfl, rfl, rfl, Nat.le_refl _, fun _ _ _ => rfl⟩
theorem KR.trans {r : Nat} {a b c : World} (h : KR r a b) (k : KR r b c) : KR r a c :=
  ⟨k.os.trans h.os, k.tape.trans h.tape, k.output.trans h.output, Nat.le_trans h.size k.size, fun i hi hr => (k.block i (Nat.lt_of_lt_of_le hi h.size) hr).trans (h.block i hi hr)⟩
theorem KR.of {r : Nat} {w w' : World} (h : Below w.heap.size w w') : KR r w w' := ⟨h.os, h.tape, h.output, h.size, fun k hk _ => h.block k hk⟩
theorem KR.below {r : Nat} {w w' : World} (h : KR r w w') (hr : r ≤ w.heap.size) : Below r w w' := ⟨h.os, h.tape, h.output, h.size, fun k hk => h.block k (by omega) (by omega)⟩
theorem KR.drewN {r : Nat} {a w : World} (h : KR r a w) (n : Nat) : KR r a (w.drewN n) := ⟨h.os, h.tape, h.output, h.size, h.block⟩
theorem KR.set {r : Nat} {a w : World} (h : KR r a w) (j : Nat) (u : Value) : KR r a (w.setCell ⟨r, j, none⟩ u) :=
  ⟨h.os, h.tape, h.output, by simpa [World.setCell] using h.size, fun k hk hr => (Below.heap_setCell w ⟨r, j, none⟩ u k hr).trans (h.block k hk hr)⟩

/-- the reader at block r: its text, what stands from where it is on, how deep it is -/
structure Rd (r : Nat) (s : ByteArray) (t : List UInt8) (d : Nat) (w : World) : Prop where
  at_ : w.heap[r]? = some (.cells #[.string s, .int .i64 ((s.size - t.length : Nat) : Int), .int .i64 (d : Int)] 56 (0, 0))
  suf : t <:+ s.data.toList
  big : s.size ≤ 35184372080000
theorem Rd.lt {r : Nat} {s : ByteArray} {t : List UInt8} {d : Nat} {w : World} (h : Rd r s t d w) : r < w.heap.size := (Array.getElem?_eq_some_iff.1 h.at_).1
theorem Rd.len {r : Nat} {s : ByteArray} {t : List UInt8} {d : Nat} {w : World} (h : Rd r s t d w) : t.length ≤ s.size := by
  have := h.suf.length_le
  simpa using this
theorem Rd.kept {r : Nat} {s : ByteArray} {t : List UInt8} {d : Nat} {w w' : World} (h : Rd r s t d w) (hb : w'.heap[r]? = w.heap[r]?) : Rd r s t d w' := ⟨hb.trans h.at_, h.suf, h.big⟩
theorem Rd.below {r : Nat} {s : ByteArray} {t : List UInt8} {d : Nat} {w w' : World} (h : Rd r s t d w) (hb : Below w.heap.size w w') : Rd r s t d w' := h.kept (hb.block r h.lt)
theorem Rd.drewN {r : Nat} {s : ByteArray} {t : List UInt8} {d : Nat} {w : World} (h : Rd r s t d w) (n : Nat) : Rd r s t d (w.drewN n) := h.kept rfl
theorem Rd.set {r : Nat} {s : ByteArray} {t t' : List UInt8} {d : Nat} {w : World} (h : Rd r s t d w) (ht : t' <:+ t) : Rd r s t' d (w.setCell ⟨r, 1, none⟩ (.int .i64 ((s.size - t'.length : Nat) : Int))) := by
  refine ⟨?_, ht.trans h.suf, h.big⟩
  have := setCellJ (j := 1) h.at_ (.int .i64 ((s.size - t'.length : Nat) : Int))
  simpa using this
theorem suf_get {s : ByteArray} {c : UInt8} {t : List UInt8} (h : (c :: t) <:+ s.data.toList) : ∃ h0 : s.size - (t.length + 1) < s.size, s[s.size - (t.length + 1)] = c := by
  obtain ⟨p, hp⟩ := h
  have hl := congrArg List.length hp
  rw [List.length_append, List.length_cons] at hl
  have hl2 : s.data.toList.length = s.size := by simp
  rw [hl2] at hl
  refine ⟨by omega, ?_⟩
  have e : s[s.size - (t.length + 1)]'(by omega) = s.data.toList[s.size - (t.length + 1)]'(by omega) := rfl
  rw [e]
  have : s.data.toList[s.size - (t.length + 1)]? = some c := by
    rw [← hp, List.getElem?_append_right (by omega), show s.size - (t.length + 1) - p.length = 0 by omega]
    rfl
  rw [List.getElem?_eq_getElem (by omega)] at this
  exact Option.some.inj this

theorem Rd.head {r : Nat} {s : ByteArray} {c : UInt8} {t : List UInt8} {d : Nat} {w : World} (h : Rd r s (c :: t) d w) :
    ∃ (m : Nat) (h0 : m < s.size), m + (t.length + 1) = s.size ∧ s[m] = c ∧ w.cell? ⟨r, 1, none⟩ = some (.int .i64 (m : Int)) := by
  obtain ⟨hlt, hget⟩ := suf_get h.suf
  have hl := h.len
  rw [List.length_cons] at hl
  exact ⟨_, hlt, by omega, hget, (cell_agg3 h.at_).2.1⟩
theorem Rd.pos {r : Nat} {s : ByteArray} {t : List UInt8} {d : Nat} {w : World} (h : Rd r s t d w) :
    ∃ (m : Nat), m + t.length = s.size ∧ w.cell? ⟨r, 1, none⟩ = some (.int .i64 (m : Int)) := by
  have hl := h.len
  exact ⟨_, by omega, (cell_agg3 h.at_).2.1⟩
theorem Rd.set' {r : Nat} {s : ByteArray} {t t' : List UInt8} {d : Nat} {w : World} (h : Rd r s t d w) (ht : t' <:+ t) (m : Nat) (hm : m + t'.length = s.size) : Rd r s t' d (w.setCell ⟨r, 1, none⟩ (.int .i64 (m : Int))) := by
  have := h.set ht
  rwa [show s.size - t'.length = m by omega] at this

def wrongV (e : Int) (at_ : Nat) : Value := .iface 53 (.agg #[.int .i64 e, .int .i64 (at_ : Int)])
/-- the call gives up -/
def Gives (x : Int) (n : Nat) (e : Ending) : Prop := e = .panicked [{ v := wrongV x n, recovered := false }]

theorem fail_any (p : Value) (n : Nat) (w : World) : Calls Tryz.prog 26 #[p, .int .i64 (n : Int)] w fun e w' => Gives 160 n e ∧ w' = w := by
  unfold Gives wrongV
  go_enter Tryz.func26, Tryz.ntmps26
  go_wp2_with fail
  exact ⟨rfl, rfl, rfl⟩

set_option maxRecDepth 100000 in
set_option maxHeartbeats 2000000 in
theorem is_yes (r : Nat) (s : ByteArray) (c : UInt8) (t : List UInt8) (d : Nat) (w : World) (h : Rd r s (c :: t) d w) :
    Calls Tryz.prog 110 #[.pointer (some ⟨r, 0, none⟩), .int .u8 (c.toNat : Int)] w fun e w' => e = .returned (.bool true) ∧ Rd r s t d w' ∧ KR r w w' := by
  have hbig := h.big
  obtain ⟨m, hlt, hm, hget, c1⟩ := h.head
  have hR := Lib.hid (fun n => (h.drewN n).set' (t' := t) (List.suffix_cons c t) (m + 1) (by omega))
  have hK := Lib.hid (KR.refl r w)
  obtain ⟨c0, -, -⟩ := cell_agg3 h.at_
  have f1 := froz_agg h.at_ 1
  clear hm h
  have hli : (m : Int) < (s.size : Int) := by omega
  go_enter Tryz.func110, Tryz.ntmps110
  go_upto_region 1 with fail
  go_quiet (fail)
  go_wp2_with fail
  go_ret
  exact ⟨rfl, hR.out _, (hK.out.drewN _).set _ _⟩
set_option maxRecDepth 100000 in
set_option maxHeartbeats 2000000 in
theorem is_no (r : Nat) (s : ByteArray) (c : UInt8) (t : List UInt8) (d : Nat) (w : World) (h : Rd r s t d w) (hn : Ends (· == c) t) :
    Calls Tryz.prog 110 #[.pointer (some ⟨r, 0, none⟩), .int .u8 (c.toNat : Int)] w fun e w' => e = .returned (.bool false) ∧ Rd r s t d w' ∧ KR r w w' := by
  have hbig := h.big
  have hR := Lib.hid (fun n => h.drewN n)
  have hK := Lib.hid (KR.refl r w)
  obtain ⟨c0, -, -⟩ := cell_agg3 h.at_
  cases t with
  | nil =>
    obtain ⟨m, hm, c1⟩ := h.pos
    rw [List.length_nil, Nat.add_zero] at hm
    subst hm
    clear h
    go_enter Tryz.func110, Tryz.ntmps110
    go_upto_region 1 with fail
    go_quiet (fail)
    go_wp2_with fail
    go_ret
    exact ⟨rfl, hR.out _, hK.out.drewN _⟩
  | cons x t =>
    obtain ⟨m, hlt, hm, hget, c1⟩ := h.head
    have hx : ((x.toNat : Int) == (c.toNat : Int)) = false := by
      rw [beq_eq_false_iff_ne]
      intro e
      have : x = c := UInt8.toNat_inj.1 (by omega)
      simp [Ends, this] at hn
    have hli : (m : Int) < (s.size : Int) := by omega
    clear hm h
    go_enter Tryz.func110, Tryz.ntmps110
    go_upto_region 1 with fail
    go_quiet (fail)
    go_wp2_with fail
    go_ret
    exact ⟨rfl, hR.out _, hK.out.drewN _⟩

theorem must_yes (r : Nat) (s : ByteArray) (c : UInt8) (t : List UInt8) (d : Nat) (w : World) (h : Rd r s (c :: t) d w) :
    Calls Tryz.prog 78 #[.pointer (some ⟨r, 0, none⟩), .int .u8 (c.toNat : Int)] w fun e w' => e = .returned (.tuple #[]) ∧ Rd r s t d w' ∧ KR r w w' := by
  have HI := Lib.hid (is_yes r s c t d w h)
  clear h
  go_enter Tryz.func78, Tryz.ntmps78
  go_wp2_with fail
  refine HI.out.mono ?_
  rintro e w1 ⟨rfl, h1⟩
  have H1 := Lib.hid h1
  clear h1
  go_wp2_with fail
  go_end0
  exact ⟨rfl, H1.out⟩

set_option maxRecDepth 100000 in
set_option maxHeartbeats 2000000 in
/-- peek: the byte that stands there -/
theorem peek_cons (r : Nat) (s : ByteArray) (c : UInt8) (t : List UInt8) (d : Nat) (w : World) (h : Rd r s (c :: t) d w) :
    Calls Tryz.prog 52 #[.pointer (some ⟨r, 0, none⟩)] w fun e w' => e = .returned (.int .u8 (c.toNat : Int)) ∧ Rd r s (c :: t) d w' ∧ KR r w w' := by
  have hbig := h.big
  obtain ⟨m, hlt, hm, hget, c1⟩ := h.head
  have hR := Lib.hid (fun n => h.drewN n)
  have hK := Lib.hid (KR.refl r w)
  obtain ⟨c0, -, -⟩ := cell_agg3 h.at_
  clear hm h
  have hli : (m : Int) < (s.size : Int) := by omega
  go_enter Tryz.func52, Tryz.ntmps52
  go_upto_region 1 with fail
  go_quiet (fail)
  go_wp2_with fail
  go_quiet (fail)
  go_wp2_with fail
  go_ret
  exact ⟨rfl, (hR.out _).drewN _, (hK.out.drewN _).drewN _⟩
set_option maxRecDepth 100000 in
set_option maxHeartbeats 2000000 in
theorem peek_nil (r : Nat) (s : ByteArray) (d : Nat) (w : World) (h : Rd r s [] d w) :
    Calls Tryz.prog 52 #[.pointer (some ⟨r, 0, none⟩)] w fun e w' => e = .returned (.int .u8 0) ∧ Rd r s [] d w' ∧ KR r w w' := by
  have hbig := h.big
  obtain ⟨m, hm, c1⟩ := h.pos
  rw [List.length_nil, Nat.add_zero] at hm
  subst hm
  have hR := Lib.hid (fun n => h.drewN n)
  have hK := Lib.hid (KR.refl r w)
  obtain ⟨c0, -, -⟩ := cell_agg3 h.at_
  clear h
  go_enter Tryz.func52, Tryz.ntmps52
  go_upto_region 1 with fail
  go_quiet (fail)
  go_wp2_with fail
  go_ret
  exact ⟨rfl, hR.out _, hK.out.drewN _⟩
end Go.Proofs.YtckaoeloofbklaaGreatDoor

/- Values in memory. -/
namespace Go.Proofs.YtckaoeloofbklaaGreatDoor
open Go Go.RowKit Go.Lib

/-- names in memory, in blocks that are ok -/
def StrsAt (ok : Nat → Prop) (w : World) (a : Option Addr) (ks : List ByteArray) : Prop :=
  ks = [] ∨ ∃ b off, a = some ⟨b, off, none⟩ ∧ ok b ∧ b < w.heap.size ∧ ∀ j k, ks[j]? = some k → w.cell? ⟨b, off + j, none⟩ = some (.string k)
/-- seven cells are a value -/
def Cells7 (w : World) (b off : Nat) (V : Value) : Prop := ∃ x0 x1 x2 x3 x4 x5 x6, V = .agg #[x0, x1, x2, x3, x4, x5, x6] ∧ w.cell? ⟨b, off, none⟩ = some x0 ∧ w.cell? ⟨b, off + 1, none⟩ = some x1 ∧ w.cell? ⟨b, off + 2, none⟩ = some x2 ∧
  w.cell? ⟨b, off + 3, none⟩ = some x3 ∧ w.cell? ⟨b, off + 4, none⟩ = some x4 ∧ w.cell? ⟨b, off + 5, none⟩ = some x5 ∧ w.cell? ⟨b, off + 6, none⟩ = some x6
/-- a value without names and items -/
def atomV (k : Int) (b : Bool) (n u : Int) (s : ByteArray) : Value := .agg #[.int .u8 k, .bool b, .int .i64 n, .int .u64 u, .string s, .slice none 0 0, .slice none 0 0]
mutual
/-- a value as it lies in memory, in blocks that are ok -/
def JAt (ok : Nat → Prop) (w : World) : JV → Value → Prop
  | .mk k b n u s ks vs, V => ∃ a c a' c', V = .agg #[.int .u8 k, .bool b, .int .i64 n, .int .u64 u, .string s, .slice a ks.length c, .slice a' vs.length c'] ∧
      StrsAt ok w a ks ∧ (vs = [] ∨ ∃ q off, a' = some ⟨q, off, none⟩ ∧ ok q ∧ q < w.heap.size ∧ ItAt ok w q off vs) ∧ ks.length ≤ 35184372080000 ∧ vs.length ≤ 35184372080000
def ItAt (ok : Nat → Prop) (w : World) (q : Nat) (off : Nat) : List JV → Prop
  | [] => True
  | v :: vs => (∃ V, Cells7 w q off V ∧ JAt ok w v V) ∧ ItAt ok w q (off + 7) vs
end
theorem Cells7.kept {w w' : World} {b off : Nat} {V : Value} (h : Cells7 w b off V) (hb : w'.heap[b]? = w.heap[b]?) : Cells7 w' b off V := by
  obtain ⟨x0, x1, x2, x3, x4, x5, x6, h, e0, e1, e2, e3, e4, e5, e6⟩ := h
  exact ⟨x0, x1, x2, x3, x4, x5, x6, h, by rwa [World.cell?_of_block hb], by rwa [World.cell?_of_block hb], by rwa [World.cell?_of_block hb], by rwa [World.cell?_of_block hb], by rwa [World.cell?_of_block hb], by rwa [World.cell?_of_block hb], by rwa [World.cell?_of_block hb]⟩
theorem StrsAt.kept {ok ok' : Nat → Prop} {w w' : World} {a : Option Addr} {ks : List ByteArray} (h : StrsAt ok w a ks) (hk : ∀ b, ok b → b < w.heap.size → w'.heap[b]? = w.heap[b]? ∧ ok' b) : StrsAt ok' w' a ks := by
  rcases h with h | ⟨b, off, h1, h2, h3, h4⟩
  · exact .inl h
  · obtain ⟨e1, e2⟩ := hk b h2 h3
    refine .inr ⟨b, off, h1, e2, ?_, fun j k hj => by rw [World.cell?_of_block e1]; exact h4 j k hj⟩
    have := (Array.getElem?_eq_some_iff.1 (e1.trans (Array.getElem?_eq_getElem h3))).1
    exact this
mutual
theorem JAt.kept {ok ok' : Nat → Prop} {w w' : World} (hk : ∀ b, ok b → b < w.heap.size → w'.heap[b]? = w.heap[b]? ∧ ok' b) : ∀ (v : JV) (V : Value), JAt ok w v V → JAt ok' w' v V
  | .mk k b n u s ks vs, V => by
    rw [JAt, JAt]
    rintro ⟨a, c, a', c', h1, h2, h3, h4⟩
    refine ⟨a, c, a', c', h1, h2.kept hk, ?_, h4⟩
    rcases h3 with h3 | ⟨q, off, g1, g2, g3, g4⟩
    · exact .inl h3
    · obtain ⟨e1, e2⟩ := hk q g2 g3
      exact .inr ⟨q, off, g1, e2, (Array.getElem?_eq_some_iff.1 (e1.trans (Array.getElem?_eq_getElem g3))).1, ItAt.kept hk e1 vs g4⟩
theorem ItAt.kept {ok ok' : Nat → Prop} {w w' : World} (hk : ∀ b, ok b → b < w.heap.size → w'.heap[b]? = w.heap[b]? ∧ ok' b) {q off : Nat} (hq : w'.heap[q]? = w.heap[q]?) : ∀ (vs : List JV), ItAt ok w q off vs → ItAt ok' w' q off vs
  | [], _ => by rw [ItAt]; trivial
  | v :: vs, h => by
    rw [ItAt] at h ⊢
    obtain ⟨⟨V, h1, h2⟩, h3⟩ := h
    exact ⟨⟨V, h1.kept hq, JAt.kept hk v V h2⟩, ItAt.kept hk hq vs h3⟩
end
theorem atom_at (ok : Nat → Prop) (w : World) (k : Int) (b : Bool) (n u : Int) (s : ByteArray) : JAt ok w (.mk k b n u s [] []) (atomV k b n u s) := by
  rw [JAt]
  exact ⟨none, 0, none, 0, rfl, .inl rfl, .inl rfl, by simp, by simp⟩

/-- what a method that reads a value leaves -/
def ValOk (r : Nat) (s : ByteArray) (d : Nat) (w : World) (v : JV) (t : List UInt8) (e : Ending) (w' : World) : Prop :=
  ∃ V, e = .returned V ∧ JAt (fun b => w.heap.size ≤ b) w' v V ∧ Rd r s t d w' ∧ KR r w w'
/-- .. or one that gives up -/
def ValBad (r : Nat) (s : ByteArray) (w : World) (x : Int) (t : List UInt8) (e : Ending) (w' : World) : Prop :=
  Gives x (s.size - t.length) e ∧ KR r w w'
def ValPost (r : Nat) (s : ByteArray) (d : Nat) (w : World) (o : Out JV) (e : Ending) (w' : World) : Prop := match o with
  | .ok v t => ValOk r s d w v t e w'
  | .err x t => ValBad r s w x t e w'
end Go.Proofs.YtckaoeloofbklaaGreatDoor

/- num.class. -/
namespace Go.Proofs.YtckaoeloofbklaaGreatDoor
open Go Go.RowKit

def clsN (c : Nat) : Nat := if c = 48 then 1 else if 48 ≤ c ∧ c ≤ 57 then 2 else if c = 46 then 3 else if c = 69 ∨ c = 101 then 4 else if c = 43 ∨ c = 45 then 5 else if c = 95 then 6 else 0

theorem or32 (c : Nat) (h : c < 256) : (bits .or .u8 (c : Int) 32 = 101) = (c = 69 ∨ c = 101) := by
  have key : ∀ c : Fin 256, (bits .or .u8 ((c.val : Nat) : Int) 32 = 101) ↔ (c.val = 69 ∨ c.val = 101) := by decide +kernel
  exact propext (key ⟨c, h⟩)

theorem digit_yes (r : Int) (w : World) (h1 : 48 ≤ r) (h2 : r ≤ 57) :
    Calls Tryz.prog 53 #[.int .i32 r] w fun e w' => e = .returned (.bool true) ∧ w' = w := by
  go_enter Tryz.func53, Tryz.ntmps53
  go_wp2_with fail
  go_ret
  exact ⟨ret_bool (by first | rfl | (simp; done) | (simp; omega)), rfl⟩
theorem digit_low (r : Int) (w : World) (h1 : r < 48) :
    Calls Tryz.prog 53 #[.int .i32 r] w fun e w' => e = .returned (.bool false) ∧ w' = w := by
  go_enter Tryz.func53, Tryz.ntmps53
  go_wp2_with fail
  go_ret
  exact ⟨ret_bool (by simp), rfl⟩
theorem digit_high (r : Int) (w : World) (h1 : 57 < r) :
    Calls Tryz.prog 53 #[.int .i32 r] w fun e w' => e = .returned (.bool false) ∧ w' = w := by
  have h0 : 48 ≤ r := by omega
  go_enter Tryz.func53, Tryz.ntmps53
  go_wp2_with fail
  go_ret
  exact ⟨ret_bool (by simp; omega), rfl⟩
theorem digit_no (r : Int) (w : World) (h : ¬ (48 ≤ r ∧ r ≤ 57)) :
    Calls Tryz.prog 53 #[.int .i32 r] w fun e w' => e = .returned (.bool false) ∧ w' = w := by
  by_cases h1 : r < 48
  · exact digit_low r w h1
  · exact digit_high r w (by omega)

set_option maxRecDepth 100000 in
theorem class_0 (c : Nat) (w : World) (_h : c < 256) (hq : c = 48) :
    Calls Tryz.prog 197 #[.int .u8 c] w fun e w' => e = .returned (.int .i64 (clsN c)) ∧ w' = w := by
  have hv : clsN c = 1 := by unfold clsN; repeat (first | rw [if_pos (by omega)] | rw [if_neg (by omega)])
  rw [hv]
  have t0 : ((c : Int) == 48) = true := by rw [beq_iff_eq]; omega
  clear hv hq
  go_enter Tryz.func197, Tryz.ntmps197
  go_wp2_with fail
  go_ret
  exact ⟨rfl, rfl⟩

set_option maxRecDepth 100000 in
theorem class_1 (c : Nat) (w : World) (h : c < 256) (hq : 48 < c ∧ c ≤ 57) :
    Calls Tryz.prog 197 #[.int .u8 c] w fun e w' => e = .returned (.int .i64 (clsN c)) ∧ w' = w := by
  have hv : clsN c = 2 := by unfold clsN; repeat (first | rw [if_pos (by omega)] | rw [if_neg (by omega)])
  rw [hv]
  have HD := Lib.hid (digit_yes c w (by omega) (by omega))
  have t0 : ((c : Int) == 48) = false := by rw [beq_eq_false_iff_ne]; omega
  clear hv hq
  go_enter Tryz.func197, Tryz.ntmps197
  go_wp2_with fail
  refine HD.out.mono ?_
  rintro e w5 ⟨rfl, rfl⟩
  go_wp2_with fail
  go_ret
  exact ⟨rfl, rfl⟩

set_option maxRecDepth 100000 in
theorem class_2 (c : Nat) (w : World) (h : c < 256) (hq : c = 46) :
    Calls Tryz.prog 197 #[.int .u8 c] w fun e w' => e = .returned (.int .i64 (clsN c)) ∧ w' = w := by
  have hv : clsN c = 3 := by unfold clsN; repeat (first | rw [if_pos (by omega)] | rw [if_neg (by omega)])
  rw [hv]
  have HD := Lib.hid (digit_no c w (by omega))
  have t0 : ((c : Int) == 48) = false := by rw [beq_eq_false_iff_ne]; omega
  have t2 : ((c : Int) == 46) = true := by rw [beq_iff_eq]; omega
  clear hv hq
  go_enter Tryz.func197, Tryz.ntmps197
  go_wp2_with fail
  refine HD.out.mono ?_
  rintro e w5 ⟨rfl, rfl⟩
  go_wp2_with fail
  go_ret
  exact ⟨rfl, rfl⟩

set_option maxRecDepth 100000 in
theorem class_3 (c : Nat) (w : World) (h : c < 256) (hq : c = 69 ∨ c = 101) :
    Calls Tryz.prog 197 #[.int .u8 c] w fun e w' => e = .returned (.int .i64 (clsN c)) ∧ w' = w := by
  have hv : clsN c = 4 := by unfold clsN; repeat (first | rw [if_pos (by omega)] | rw [if_neg (by omega)])
  rw [hv]
  have ho := or32 c h
  have HD := Lib.hid (digit_no c w (by omega))
  have t0 : ((c : Int) == 48) = false := by rw [beq_eq_false_iff_ne]; omega
  have t2 : ((c : Int) == 46) = false := by rw [beq_eq_false_iff_ne]; omega
  have t3 : (bits .or .u8 (c : Int) 32 == 101) = true := by rw [beq_iff_eq, ho]; omega
  clear hv ho hq
  go_enter Tryz.func197, Tryz.ntmps197
  go_wp2_with fail
  refine HD.out.mono ?_
  rintro e w5 ⟨rfl, rfl⟩
  go_wp2_with fail
  go_ret
  exact ⟨rfl, rfl⟩

set_option maxRecDepth 100000 in
theorem class_4 (c : Nat) (w : World) (h : c < 256) (hq : c = 43) :
    Calls Tryz.prog 197 #[.int .u8 c] w fun e w' => e = .returned (.int .i64 (clsN c)) ∧ w' = w := by
  have hv : clsN c = 5 := by unfold clsN; repeat (first | rw [if_pos (by omega)] | rw [if_neg (by omega)])
  rw [hv]
  have ho := or32 c h
  have HD := Lib.hid (digit_no c w (by omega))
  have t0 : ((c : Int) == 48) = false := by rw [beq_eq_false_iff_ne]; omega
  have t2 : ((c : Int) == 46) = false := by rw [beq_eq_false_iff_ne]; omega
  have t3 : (bits .or .u8 (c : Int) 32 == 101) = false := by rw [beq_eq_false_iff_ne, ne_eq, ho]; omega
  have t4 : ((c : Int) == 43) = true := by rw [beq_iff_eq]; omega
  clear hv ho hq
  go_enter Tryz.func197, Tryz.ntmps197
  go_wp2_with fail
  refine HD.out.mono ?_
  rintro e w5 ⟨rfl, rfl⟩
  go_wp2_with fail
  go_ret
  exact ⟨rfl, rfl⟩

set_option maxRecDepth 100000 in
theorem class_5 (c : Nat) (w : World) (h : c < 256) (hq : c = 45) :
    Calls Tryz.prog 197 #[.int .u8 c] w fun e w' => e = .returned (.int .i64 (clsN c)) ∧ w' = w := by
  have hv : clsN c = 5 := by unfold clsN; repeat (first | rw [if_pos (by omega)] | rw [if_neg (by omega)])
  rw [hv]
  have ho := or32 c h
  have HD := Lib.hid (digit_no c w (by omega))
  have t0 : ((c : Int) == 48) = false := by rw [beq_eq_false_iff_ne]; omega
  have t2 : ((c : Int) == 46) = false := by rw [beq_eq_false_iff_ne]; omega
  have t3 : (bits .or .u8 (c : Int) 32 == 101) = false := by rw [beq_eq_false_iff_ne, ne_eq, ho]; omega
  have t4 : ((c : Int) == 43) = false := by rw [beq_eq_false_iff_ne]; omega
  have t5 : ((c : Int) == 45) = true := by rw [beq_iff_eq]; omega
  clear hv ho hq
  go_enter Tryz.func197, Tryz.ntmps197
  go_wp2_with fail
  refine HD.out.mono ?_
  rintro e w5 ⟨rfl, rfl⟩
  go_wp2_with fail
  go_ret
  exact ⟨rfl, rfl⟩

set_option maxRecDepth 100000 in
theorem class_6 (c : Nat) (w : World) (h : c < 256) (hq : c = 95) :
    Calls Tryz.prog 197 #[.int .u8 c] w fun e w' => e = .returned (.int .i64 (clsN c)) ∧ w' = w := by
  have hv : clsN c = 6 := by unfold clsN; repeat (first | rw [if_pos (by omega)] | rw [if_neg (by omega)])
  rw [hv]
  have ho := or32 c h
  have HD := Lib.hid (digit_no c w (by omega))
  have t0 : ((c : Int) == 48) = false := by rw [beq_eq_false_iff_ne]; omega
  have t2 : ((c : Int) == 46) = false := by rw [beq_eq_false_iff_ne]; omega
  have t3 : (bits .or .u8 (c : Int) 32 == 101) = false := by rw [beq_eq_false_iff_ne, ne_eq, ho]; omega
  have t4 : ((c : Int) == 43) = false := by rw [beq_eq_false_iff_ne]; omega
  have t5 : ((c : Int) == 45) = false := by rw [beq_eq_false_iff_ne]; omega
  have t6 : ((c : Int) == 95) = true := by rw [beq_iff_eq]; omega
  clear hv ho hq
  go_enter Tryz.func197, Tryz.ntmps197
  go_wp2_with fail
  refine HD.out.mono ?_
  rintro e w5 ⟨rfl, rfl⟩
  go_wp2_with fail
  go_ret
  exact ⟨rfl, rfl⟩

set_option maxRecDepth 100000 in
theorem class_7 (c : Nat) (w : World) (h : c < 256) (hq : ¬ (48 ≤ c ∧ c ≤ 57) ∧ c ≠ 46 ∧ c ≠ 69 ∧ c ≠ 101 ∧ c ≠ 43 ∧ c ≠ 45 ∧ c ≠ 95) :
    Calls Tryz.prog 197 #[.int .u8 c] w fun e w' => e = .returned (.int .i64 (clsN c)) ∧ w' = w := by
  have hv : clsN c = 0 := by unfold clsN; repeat (first | rw [if_pos (by omega)] | rw [if_neg (by omega)])
  rw [hv]
  have ho := or32 c h
  have HD := Lib.hid (digit_no c w (by omega))
  have t0 : ((c : Int) == 48) = false := by rw [beq_eq_false_iff_ne]; omega
  have t2 : ((c : Int) == 46) = false := by rw [beq_eq_false_iff_ne]; omega
  have t3 : (bits .or .u8 (c : Int) 32 == 101) = false := by rw [beq_eq_false_iff_ne, ne_eq, ho]; omega
  have t4 : ((c : Int) == 43) = false := by rw [beq_eq_false_iff_ne]; omega
  have t5 : ((c : Int) == 45) = false := by rw [beq_eq_false_iff_ne]; omega
  have t6 : ((c : Int) == 95) = false := by rw [beq_eq_false_iff_ne]; omega
  clear hv ho hq
  go_enter Tryz.func197, Tryz.ntmps197
  go_wp2_with fail
  refine HD.out.mono ?_
  rintro e w5 ⟨rfl, rfl⟩
  go_wp2_with fail
  go_ret
  exact ⟨rfl, rfl⟩

theorem class_any (c : Nat) (w : World) (h : c < 256) :
    Calls Tryz.prog 197 #[.int .u8 c] w fun e w' => e = .returned (.int .i64 (clsN c)) ∧ w' = w := by
  by_cases q0 : c = 48
  · exact class_0 c w h q0
  by_cases q1 : 48 < c ∧ c ≤ 57
  · exact class_1 c w h q1
  by_cases q2 : c = 46
  · exact class_2 c w h q2
  by_cases q3 : c = 69 ∨ c = 101
  · exact class_3 c w h q3
  by_cases q4 : c = 43
  · exact class_4 c w h q4
  by_cases q5 : c = 45
  · exact class_5 c w h q5
  by_cases q6 : c = 95
  · exact class_6 c w h q6
  exact class_7 c w h (by omega)
end Go.Proofs.YtckaoeloofbklaaGreatDoor

/- The reader: runs of bytes; letters. -/
namespace Go.Proofs.YtckaoeloofbklaaGreatDoor
open Go Go.RowKit Go.Lib

/-- a function of code points that tells whether a byte is one of some -/
def Tells (f : Nat) (p : UInt8 → Bool) : Prop := ∀ (c : UInt8) (W : World), Calls Tryz.prog f #[.int .i32 (c.toNat : Int)] W fun e W' => e = .returned (.bool (p c)) ∧ W' = W

theorem wrap_byte (x : UInt8) : IntKind.i32.wrap (x.toNat : Int) = (x.toNat : Int) := by
  have := x.toNat_lt
  rw [IntKind.wrap_i32]; omega
theorem run_mid (s : ByteArray) (a u : List UInt8) (h : (a ++ u) <:+ s.data.toList) (m k : Nat) (hm : m + (a ++ u).length = s.size) (hk : k + u.length = s.size) : s.extract m k = ⟨a.toArray⟩ := by
  obtain ⟨p, hp⟩ := h
  have hl := congrArg List.length hp
  have hl2 : s.data.toList.length = s.size := by simp
  rw [List.length_append, hl2] at hl
  rw [List.length_append] at hm
  apply ByteArray.ext
  apply Array.toList_inj.1
  have e1 : (s.extract m k).data.toList = (s.data.toList.drop m).take (k - m) := by
    simp [List.extract_eq_take_drop]
  rw [e1, ← hp, show m = p.length by rw [List.length_append] at hl; omega, List.drop_left, show k - p.length = a.length by rw [List.length_append] at hl; omega, List.take_left]

set_option maxRecDepth 100000 in
set_option maxHeartbeats 4000000 in
theorem run_any (f : Nat) (p : UInt8 → Bool) (hf : Tells f p) (he : ∀ args w, (callFunc f args).run Tryz.prog w = .ok (.enter f args) w) (r : Nat) (s : ByteArray) (a u : List UInt8) (d : Nat) (w : World) (h : Rd r s (a ++ u) d w) (ha : a.all p = true) (hu : Ends p u) :
    Calls Tryz.prog 79 #[.pointer (some ⟨r, 0, none⟩), .func (.func f) #[] #[]] w fun e w' => e = .returned (.string ⟨a.toArray⟩) ∧ Rd r s u d w' ∧ KR r w w' := by
  have hbig := h.big
  obtain ⟨m, hm, c1⟩ := h.pos
  obtain ⟨c0, -, -⟩ := cell_agg3 h.at_
  have hmid := run_mid s a u h.suf m
  have HM := Lib.hid (fun k hk => hmid k hm hk)
  have HA := Lib.hid ha
  have HF := Lib.hid hf
  have HH := Lib.hid h
  have HMM := Lib.hid hm
  clear hmid ha hf hm
  have hms : (m : Int) ≤ (s.size : Int) := by have := HMM.out; omega
  go_enter Tryz.func79, Tryz.ntmps79
  go_wp2_with fail
  go_loopg [] a.length (fun g wr => ∃ b, b.length = g ∧ b.all p = true ∧ Rd r s (b ++ u) d wr ∧ KR r w wr)
  case atStart => exact ⟨a, rfl, HA.out, HH.out, KR.refl _ _⟩
  case round =>
    obtain ⟨b, hbg, hbp, hrd, hkr⟩ := hrel
    clear c0 c1
    obtain ⟨c0, -, -⟩ := cell_agg3 hrd.at_
    cases b with
    | nil =>
      cases u with
      | nil =>
        obtain ⟨k, hk, c1⟩ := hrd.pos
        rw [List.append_nil, List.length_nil, Nat.add_zero] at hk
        subst hk
        have hsl : ∀ W, (Instr.slice 9 (.string s) (some (.int .i64 m)) (some (.int .i64 s.size)) Option.none).run Tryz.prog W = .ok (.string ⟨a.toArray⟩) W := fun W => by
          rw [← HM.out s.size rfl]
          exact run_slice_string W 9 s .i64 .i64 m s.size Tryz.underlying9 (by omega) (by omega) (by omega)
        have HRD := Lib.hid hrd
        have HKR := Lib.hid hkr
        clear hrd hkr
        go_upto_region 2 with fail
        go_quiet (fail)
        go_wp2_with fail
        go_quiet (fail)
        go_wp2_with fail
        go_ret
        exact ⟨rfl, (HRD.out.drewN _).drewN _, (HKR.out.drewN _).drewN _⟩
      | cons x u =>
        obtain ⟨k, hlt, hk, hget, c1⟩ := hrd.head
        have hsl : ∀ W, (Instr.slice 9 (.string s) (some (.int .i64 m)) (some (.int .i64 k)) Option.none).run Tryz.prog W = .ok (.string ⟨a.toArray⟩) W := fun W => by
          rw [← HM.out k hk]
          have hmk : m ≤ k := by have := HMM.out; rw [List.length_append, List.length_cons] at this; omega
          exact run_slice_string W 9 s .i64 .i64 m k Tryz.underlying9 (by omega) (by omega) (by omega)
        have hpx : p x = false := hu
        have hwx := wrap_byte x
        have hfx := HF.out x
        rw [hpx] at hfx
        have HFX := Lib.hid hfx
        have HRD := Lib.hid hrd
        have HKR := Lib.hid hkr
        clear hrd hkr hfx
        have hli : (k : Int) < (s.size : Int) := by omega
        go_upto_region 2 with fail
        go_quiet ((exact Calls.quiet_of_same (HFX.out _)))
        go_wp2_with fail
        go_quiet (fail)
        go_wp2_with fail
        go_ret
        exact ⟨rfl, (HRD.out.drewN _).drewN _, (HKR.out.drewN _).drewN _⟩
    | cons x b =>
      obtain ⟨k, hlt, hk, hget, c1⟩ := hrd.head
      rw [List.all_cons, Bool.and_eq_true] at hbp
      have hwx := wrap_byte x
      have hfx := HF.out x
      rw [hbp.1] at hfx
      have HFX := Lib.hid hfx
      have hk' : k + ((b ++ u).length + 1) = s.size := hk
      have hset := fun n => (hrd.drewN n).set' (t' := b ++ u) (List.suffix_cons x (b ++ u)) (k + 1) (by omega)
      have HSET := Lib.hid hset
      have HKR := Lib.hid hkr
      have f1 := froz_agg hrd.at_ 1
      clear hrd hkr hfx hset
      have hli : (k : Int) < (s.size : Int) := by omega
      go_upto_region 2 with fail
      go_quiet ((exact Calls.quiet_of_same (HFX.out _)))
      go_wp2_with fail
      go_roundg (gk - 1)
      case measure => simp at hbg; omega
      case rel => exact ⟨b, by simp at hbg; omega, hbp.2, HSET.out _, (HKR.out.drewN _).set _ _⟩
end Go.Proofs.YtckaoeloofbklaaGreatDoor

/- Which bytes are letters, a number's, a string's: the closures; words. -/
namespace Go.Proofs.YtckaoeloofbklaaGreatDoor
open Go Go.RowKit Go.Lib

theorem or_al : ∀ c : Fin 256, bits .or .i32 ((c.val : Nat) : Int) 32 = ((c.val ||| 32 : Nat) : Int) := by decide +kernel
theorem or_is : ∀ c : Fin 256, (97 ≤ c.val ||| 32 ∧ c.val ||| 32 ≤ 122) ↔ isAl (UInt8.ofNat c.val) = true := by decide +kernel
theorem al_or (c : UInt8) : isAl c = decide (97 ≤ c.toNat ||| 32 ∧ c.toNat ||| 32 ≤ 122) := by
  have := or_is ⟨c.toNat, c.toNat_lt⟩
  simp only [UInt8.ofNat_toNat] at this
  rw [Bool.eq_iff_iff, decide_eq_true_iff]
  exact this.symm
set_option maxHeartbeats 1000000 in
theorem alphaJ_any : Tells 54 isAl := by
  intro c w
  have hor := or_al ⟨c.toNat, c.toNat_lt⟩
  have hal := al_or c
  simp only at hor
  rw [hal]
  clear hal
  generalize c.toNat ||| 32 = o at *
  by_cases h1 : 97 ≤ o
  · by_cases h2 : o ≤ 122
    · have e : decide (97 ≤ o ∧ o ≤ 122) = true := decide_eq_true ⟨h1, h2⟩
      rw [e]
      go_enter Tryz.func54, Tryz.ntmps54
      go_wp2_with fail
      go_ret
      exact ⟨ret_bool (by first | rfl | (simp; done) | (simp; omega)), rfl⟩
    · have e : decide (97 ≤ o ∧ o ≤ 122) = false := decide_eq_false (fun h => h2 h.2)
      have h3 : 122 < o := by omega
      rw [e]
      clear h2
      go_enter Tryz.func54, Tryz.ntmps54
      go_wp2_with fail
      go_ret
      exact ⟨ret_bool (by first | rfl | (simp; done) | (simp; omega)), rfl⟩
  · have e : decide (97 ≤ o ∧ o ≤ 122) = false := decide_eq_false (fun h => h1 h.1)
    have h3 : o < 97 := by omega
    rw [e]
    clear h1
    go_enter Tryz.func54, Tryz.ntmps54
    go_wp2_with fail
    go_ret
    exact ⟨ret_bool (by first | rfl | (simp; done) | (simp; omega)), rfl⟩
theorem digit_any : Tells 53 isDgB := by
  intro c w
  by_cases h : 48 ≤ c.toNat ∧ c.toNat ≤ 57
  · have e : isDgB c = true := decide_eq_true h
    rw [e]
    exact digit_yes _ w (by omega) (by omega)
  · have e : isDgB c = false := decide_eq_false h
    rw [e]
    exact digit_no _ w (by omega)
set_option maxHeartbeats 1000000 in
theorem strc_any : Tells 112 strC := by
  intro c w
  have hc := c.toNat_lt
  by_cases h1 : 32 ≤ c.toNat
  · have h34 : (c == 34) = decide (c.toNat = 34) := by rw [Bool.eq_iff_iff, beq_iff_eq, decide_eq_true_iff, ← UInt8.toNat_inj]; rfl
    have h92 : (c == 92) = decide (c.toNat = 92) := by rw [Bool.eq_iff_iff, beq_iff_eq, decide_eq_true_iff, ← UInt8.toNat_inj]; rfl
    have e : strC c = (!decide (c.toNat = 34) && !decide (c.toNat = 92)) := by
      unfold strC
      rw [decide_eq_true h1, bne, bne, h34, h92]; rfl
    rw [e]
    clear e h34 h92
    generalize c.toNat = n at *
    by_cases h2 : n = 34
    · subst h2
      go_enter Tryz.func112, Tryz.ntmps112
      go_wp2_with fail
      go_ret
      exact ⟨rfl, rfl⟩
    · by_cases h3 : n = 92
      · subst h3
        go_enter Tryz.func112, Tryz.ntmps112
        go_wp2_with fail
        go_ret
        exact ⟨rfl, rfl⟩
      · rw [decide_eq_false h2, decide_eq_false h3]
        have g2 : (n : Int) ≠ 34 := by omega
        have g3 : (n : Int) ≠ 92 := by omega
        go_enter Tryz.func112, Tryz.ntmps112
        go_wp2_with fail
        go_ret
        exact ⟨ret_bool (by first | rfl | (simp; done) | (simp; omega)), rfl⟩
  · have e : strC c = false := by unfold strC; rw [decide_eq_false h1]; rfl
    have h3 : c.toNat < 32 := by omega
    rw [e]
    clear h1 e
    go_enter Tryz.func112, Tryz.ntmps112
    go_wp2_with fail
    go_ret
    exact ⟨ret_bool (by first | rfl | (simp; done) | (simp; omega)), rfl⟩
set_option maxHeartbeats 1000000 in
theorem numc_any : Tells 80 numC := by
  intro c w
  have HA := Lib.hid (alphaJ_any c)
  have HD := Lib.hid (digit_any c)
  have h46 : (c == 46) = decide (c.toNat = 46) := by rw [Bool.eq_iff_iff, beq_iff_eq, decide_eq_true_iff, ← UInt8.toNat_inj]; rfl
  have h43 : (c == 43) = decide (c.toNat = 43) := by rw [Bool.eq_iff_iff, beq_iff_eq, decide_eq_true_iff, ← UInt8.toNat_inj]; rfl
  have h45 : (c == 45) = decide (c.toNat = 45) := by rw [Bool.eq_iff_iff, beq_iff_eq, decide_eq_true_iff, ← UInt8.toNat_inj]; rfl
  have hc := c.toNat_lt
  unfold numC
  rw [h46, h43, h45]
  clear h46 h43 h45
  generalize isAl c = a at *
  generalize isDgB c = dg at *
  generalize c.toNat = n at *
  by_cases q46 : n = 46
  · subst q46
    cases a <;> cases dg
    all_goals
      go_enter Tryz.func80, Tryz.ntmps80
      go_wp2_with (first | (refine (HA.out _).mono ?_; rintro e w5 ⟨rfl, rfl⟩) | (refine (HD.out _).mono ?_; rintro e w5 ⟨rfl, rfl⟩) | fail)
      go_ret
      exact ⟨rfl, rfl⟩
  · have g46 : (n : Int) ≠ 46 := by omega
    rw [decide_eq_false q46]
    by_cases q43 : n = 43
    · subst q43
      cases a <;> cases dg
      all_goals
        go_enter Tryz.func80, Tryz.ntmps80
        go_wp2_with (first | (refine (HA.out _).mono ?_; rintro e w5 ⟨rfl, rfl⟩) | (refine (HD.out _).mono ?_; rintro e w5 ⟨rfl, rfl⟩) | fail)
        go_ret
        exact ⟨rfl, rfl⟩
    · have g43 : (n : Int) ≠ 43 := by omega
      rw [decide_eq_false q43]
      by_cases q45 : n = 45
      · subst q45
        cases a <;> cases dg
        all_goals
          go_enter Tryz.func80, Tryz.ntmps80
          go_wp2_with (first | (refine (HA.out _).mono ?_; rintro e w5 ⟨rfl, rfl⟩) | (refine (HD.out _).mono ?_; rintro e w5 ⟨rfl, rfl⟩) | fail)
          go_ret
          exact ⟨rfl, rfl⟩
      · have g45 : (n : Int) ≠ 45 := by omega
        rw [decide_eq_false q45]
        cases a <;> cases dg
        all_goals
          go_enter Tryz.func80, Tryz.ntmps80
          go_wp2_with (first | (refine (HA.out _).mono ?_; rintro e w5 ⟨rfl, rfl⟩) | (refine (HD.out _).mono ?_; rintro e w5 ⟨rfl, rfl⟩) | fail)
          go_ret
          exact ⟨ret_bool (by first | rfl | (simp; done) | (simp; omega)), rfl⟩
end Go.Proofs.YtckaoeloofbklaaGreatDoor

/- The reader: words. -/
namespace Go.Proofs.YtckaoeloofbklaaGreatDoor
open Go Go.RowKit Go.Lib

theorem ent_alpha : ∀ args w, (callFunc 54 args).run Tryz.prog w = .ok (.enter 54 args) w := enters_of Tryz.func54 (by kernel_rfl) rfl
theorem ent_numc : ∀ args w, (callFunc 80 args).run Tryz.prog w = .ok (.enter 80 args) w := enters_of Tryz.func80 (by kernel_rfl) rfl
theorem ent_strc : ∀ args w, (callFunc 112 args).run Tryz.prog w = .ok (.enter 112 args) w := enters_of Tryz.func112 (by kernel_rfl) rfl

/-- the reader behind the making of a block -/
theorem Rd.alloc {r : Nat} {s : ByteArray} {t : List UInt8} {d : Nat} {w : World} (h : Rd r s t d w) (o : Obj) : Rd r s t d (w.alloc o) := h.below ((Below.refl _ _).alloc (Nat.le_refl _) o)
theorem KR.alloc {r : Nat} {a w : World} (h : KR r a w) (o : Obj) : KR r a (w.alloc o) := h.trans (KR.of ((Below.refl _ _).alloc (Nat.le_refl _) o))
theorem KR.setNew {r : Nat} {a w : World} (h : KR r a w) (p : Addr) (u : Value) (hp : a.heap.size ≤ p.block) : KR r a (w.setCell p u) :=
  ⟨h.os, h.tape, h.output, by simpa [World.setCell] using h.size, fun k hk hr => (Below.heap_setCell w p u k (by omega)).trans (h.block k hk hr)⟩

theorem cell_agg7 {w : World} {b : Nat} {x0 x1 x2 x3 x4 x5 x6 : Value} {T : TypeId} {f : Nat × Nat} (h : w.heap[b]? = some (.cells #[x0, x1, x2, x3, x4, x5, x6] T f)) :
    w.cell? ⟨b, 0, none⟩ = some x0 ∧ w.cell? ⟨b, 1, none⟩ = some x1 ∧ w.cell? ⟨b, 2, none⟩ = some x2 ∧ w.cell? ⟨b, 3, none⟩ = some x3 ∧ w.cell? ⟨b, 4, none⟩ = some x4 ∧ w.cell? ⟨b, 5, none⟩ = some x5 ∧ w.cell? ⟨b, 6, none⟩ = some x6 := by
  refine ⟨?_, ?_, ?_, ?_, ?_, ?_, ?_⟩ <;> simp [World.cell?, h]
theorem seven_set {w : World} {p : Nat} {T : TypeId} {x0 x1 x2 x3 x4 x5 x6 : Value} (h : w.heap[p]? = some (.cells #[x0, x1, x2, x3, x4, x5, x6] T (0, 0))) (y0 y1 y2 y3 y4 y5 y6 : Value) :
    (((((((w.setCell ⟨p, 0, none⟩ y0).setCell ⟨p, 1, none⟩ y1).setCell ⟨p, 2, none⟩ y2).setCell ⟨p, 3, none⟩ y3).setCell ⟨p, 4, none⟩ y4).setCell ⟨p, 5, none⟩ y5).setCell ⟨p, 6, none⟩ y6).heap[p]? = some (.cells #[y0, y1, y2, y3, y4, y5, y6] T (0, 0)) := by
  have h0 := setCellJ (j := 0) h y0
  have h1 := setCellJ (j := 1) h0 y1
  have h2 := setCellJ (j := 2) h1 y2
  have h3 := setCellJ (j := 3) h2 y3
  have h4 := setCellJ (j := 4) h3 y4
  have h5 := setCellJ (j := 5) h4 y5
  have h6 := setCellJ (j := 6) h5 y6
  simpa using h6

/-- seven stores into a block of the call's own -/
def set7 (w : World) (p : Nat) (y0 y1 y2 y3 y4 y5 y6 : Value) : World :=
  ((((((w.setCell ⟨p, 0, none⟩ y0).setCell ⟨p, 1, none⟩ y1).setCell ⟨p, 2, none⟩ y2).setCell ⟨p, 3, none⟩ y3).setCell ⟨p, 4, none⟩ y4).setCell ⟨p, 5, none⟩ y5).setCell ⟨p, 6, none⟩ y6
theorem set7_kr {r p : Nat} {a w : World} (h : KR r a w) (hp : a.heap.size ≤ p) (y0 y1 y2 y3 y4 y5 y6 : Value) : KR r a (set7 w p y0 y1 y2 y3 y4 y5 y6) :=
  ((((((h.setNew _ y0 hp).setNew _ y1 hp).setNew _ y2 hp).setNew _ y3 hp).setNew _ y4 hp).setNew _ y5 hp).setNew _ y6 hp
theorem set7_block {p k : Nat} {w : World} (hk : k ≠ p) (y0 y1 y2 y3 y4 y5 y6 : Value) : (set7 w p y0 y1 y2 y3 y4 y5 y6).heap[k]? = w.heap[k]? := by
  unfold set7
  rw [Below.heap_setCell _ _ _ _ hk, Below.heap_setCell _ _ _ _ hk, Below.heap_setCell _ _ _ _ hk, Below.heap_setCell _ _ _ _ hk, Below.heap_setCell _ _ _ _ hk, Below.heap_setCell _ _ _ _ hk, Below.heap_setCell _ _ _ _ hk]
theorem set7_ok {r p : Nat} {s : ByteArray} {t : List UInt8} {d : Nat} {a w : World} {k : Int} {b : Bool} {n u : Int} {x : ByteArray} {e : Ending} (he : e = .returned (atomV k b n u x)) (h : KR r a w) (hr : Rd r s t d w) (hp : a.heap.size ≤ p) (hrp : r < a.heap.size) (y0 y1 y2 y3 y4 y5 y6 : Value) :
    ValOk r s d a (.mk k b n u x [] []) t e (set7 w p y0 y1 y2 y3 y4 y5 y6) :=
  ⟨_, he, atom_at _ _ _ _ _ _ _, hr.kept (set7_block (by omega) ..), set7_kr h hp ..⟩

-- WORDS
set_option maxRecDepth 100000 in
set_option maxHeartbeats 2000000 in
theorem word_null (r : Nat) (s : ByteArray) (t : List UInt8) (d : Nat) (w : World) (h : Rd r s (([110, 117, 108, 108] : List UInt8) ++ t) d w) (ht : Ends isAl t) :
    Calls Tryz.prog 55 #[.pointer (some ⟨r, 0, none⟩)] w (ValOk r s d w jNull t) := by
  have hal := h.alloc (.cells #[.int .u8 0, .bool false, .int .i64 0, .int .u64 0, .string ⟨#[]⟩, .slice none 0 0, .slice none 0 0] 27)
  have HR := Lib.hid (run_any _ isAl alphaJ_any ent_alpha r s ([110, 117, 108, 108] : List UInt8) t d _ hal (by decide) ht)
  obtain ⟨m, hm, c1⟩ := hal.pos
  have hnew := heap_alloc_new w (.cells #[.int .u8 0, .bool false, .int .i64 0, .int .u64 0, .string ⟨#[]⟩, .slice none 0 0, .slice none 0 0] 27)
  have HN := Lib.hid hnew
  have hrl := h.lt
  have HKR := Lib.hid ((KR.refl r w).alloc (.cells #[.int .u8 0, .bool false, .int .i64 0, .int .u64 0, .string ⟨#[]⟩, .slice none 0 0, .slice none 0 0] 27))
  clear h hal hm hnew
  go_enter Tryz.func55, Tryz.ntmps55
  go_wp2_with fail
  refine HR.out.mono ?_
  rintro e w1 ⟨rfl, hrd, hkr⟩
  have hn1 := (hkr.block w.heap.size (by simp) (by omega)).trans HN.out
  obtain ⟨n0, n1, n2, n3, n4, n5, n6⟩ := cell_agg7 hn1
  have q : ∀ j, w1.frozen? ⟨w.heap.size, j, none⟩ = false := fun j => froz_agg hn1 j
  have HRD := Lib.hid hrd
  have HK1 := Lib.hid hkr
  have HN1 := Lib.hid hn1
  clear hrd hkr hn1
  go_wp2_with fail
  show bodyPost _ _ _ _ _ (set7 w1 w.heap.size (.int .u8 1) (.bool false) (.int .i64 0) (.int .u64 0) (.string ⟨#[]⟩) (.slice none 0 0) (.slice none 0 0))
  have hF := seven_set HN1.out (.int .u8 1) (.bool false) (.int .i64 0) (.int .u64 0) (.string ⟨#[]⟩) (.slice none 0 0) (.slice none 0 0)
  have hok := fun e he => set7_ok (e := e) (k := 1) (b := false) (n := 0) (u := 0) (x := ⟨#[]⟩) (p := w.heap.size) he (HKR.out.trans HK1.out) HRD.out (Nat.le_refl _) hrl (.int .u8 1) (.bool false) (.int .i64 0) (.int .u64 0) (.string ⟨#[]⟩) (.slice none 0 0) (.slice none 0 0)
  unfold set7 at hok ⊢
  generalize ((((((w1.setCell ⟨w.heap.size, 0, none⟩ (.int .u8 1)).setCell ⟨w.heap.size, 1, none⟩ (.bool false)).setCell ⟨w.heap.size, 2, none⟩ (.int .i64 0)).setCell ⟨w.heap.size, 3, none⟩ (.int .u64 0)).setCell ⟨w.heap.size, 4, none⟩ (.string ⟨#[]⟩)).setCell ⟨w.heap.size, 5, none⟩ (.slice none 0 0)).setCell ⟨w.heap.size, 6, none⟩ (.slice none 0 0) = F at *
  obtain ⟨g0, g1, g2, g3, g4, g5, g6⟩ := cell_agg7 hF
  refine bodyPost_ret (v := atomV 1 false 0 0 ⟨#[]⟩) (by simp [results, Tryz.results55, go_sem, atomV, g0, g1, g2, g3, g4, g5, g6]) rfl ?_
  exact hok _ rfl
set_option maxRecDepth 100000 in
set_option maxHeartbeats 2000000 in
theorem word_true (r : Nat) (s : ByteArray) (t : List UInt8) (d : Nat) (w : World) (h : Rd r s (([116, 114, 117, 101] : List UInt8) ++ t) d w) (ht : Ends isAl t) :
    Calls Tryz.prog 55 #[.pointer (some ⟨r, 0, none⟩)] w (ValOk r s d w (jBool true) t) := by
  have hal := h.alloc (.cells #[.int .u8 0, .bool false, .int .i64 0, .int .u64 0, .string ⟨#[]⟩, .slice none 0 0, .slice none 0 0] 27)
  have HR := Lib.hid (run_any _ isAl alphaJ_any ent_alpha r s ([116, 114, 117, 101] : List UInt8) t d _ hal (by decide) ht)
  obtain ⟨m, hm, c1⟩ := hal.pos
  have hnew := heap_alloc_new w (.cells #[.int .u8 0, .bool false, .int .i64 0, .int .u64 0, .string ⟨#[]⟩, .slice none 0 0, .slice none 0 0] 27)
  have HN := Lib.hid hnew
  have hrl := h.lt
  have HKR := Lib.hid ((KR.refl r w).alloc (.cells #[.int .u8 0, .bool false, .int .i64 0, .int .u64 0, .string ⟨#[]⟩, .slice none 0 0, .slice none 0 0] 27))
  clear h hal hm hnew
  go_enter Tryz.func55, Tryz.ntmps55
  go_wp2_with fail
  refine HR.out.mono ?_
  rintro e w1 ⟨rfl, hrd, hkr⟩
  have hn1 := (hkr.block w.heap.size (by simp) (by omega)).trans HN.out
  obtain ⟨n0, n1, n2, n3, n4, n5, n6⟩ := cell_agg7 hn1
  have q : ∀ j, w1.frozen? ⟨w.heap.size, j, none⟩ = false := fun j => froz_agg hn1 j
  have HRD := Lib.hid hrd
  have HK1 := Lib.hid hkr
  have HN1 := Lib.hid hn1
  clear hrd hkr hn1
  go_wp2_with fail
  show bodyPost _ _ _ _ _ (set7 w1 w.heap.size (.int .u8 2) (.bool true) (.int .i64 0) (.int .u64 0) (.string ⟨#[]⟩) (.slice none 0 0) (.slice none 0 0))
  have hF := seven_set HN1.out (.int .u8 2) (.bool true) (.int .i64 0) (.int .u64 0) (.string ⟨#[]⟩) (.slice none 0 0) (.slice none 0 0)
  have hok := fun e he => set7_ok (e := e) (k := 2) (b := true) (n := 0) (u := 0) (x := ⟨#[]⟩) (p := w.heap.size) he (HKR.out.trans HK1.out) HRD.out (Nat.le_refl _) hrl (.int .u8 2) (.bool true) (.int .i64 0) (.int .u64 0) (.string ⟨#[]⟩) (.slice none 0 0) (.slice none 0 0)
  unfold set7 at hok ⊢
  generalize ((((((w1.setCell ⟨w.heap.size, 0, none⟩ (.int .u8 2)).setCell ⟨w.heap.size, 1, none⟩ (.bool true)).setCell ⟨w.heap.size, 2, none⟩ (.int .i64 0)).setCell ⟨w.heap.size, 3, none⟩ (.int .u64 0)).setCell ⟨w.heap.size, 4, none⟩ (.string ⟨#[]⟩)).setCell ⟨w.heap.size, 5, none⟩ (.slice none 0 0)).setCell ⟨w.heap.size, 6, none⟩ (.slice none 0 0) = F at *
  obtain ⟨g0, g1, g2, g3, g4, g5, g6⟩ := cell_agg7 hF
  refine bodyPost_ret (v := atomV 2 true 0 0 ⟨#[]⟩) (by simp [results, Tryz.results55, go_sem, atomV, g0, g1, g2, g3, g4, g5, g6]) rfl ?_
  exact hok _ rfl
set_option maxRecDepth 100000 in
set_option maxHeartbeats 2000000 in
theorem word_false (r : Nat) (s : ByteArray) (t : List UInt8) (d : Nat) (w : World) (h : Rd r s (([102, 97, 108, 115, 101] : List UInt8) ++ t) d w) (ht : Ends isAl t) :
    Calls Tryz.prog 55 #[.pointer (some ⟨r, 0, none⟩)] w (ValOk r s d w (jBool false) t) := by
  have hal := h.alloc (.cells #[.int .u8 0, .bool false, .int .i64 0, .int .u64 0, .string ⟨#[]⟩, .slice none 0 0, .slice none 0 0] 27)
  have HR := Lib.hid (run_any _ isAl alphaJ_any ent_alpha r s ([102, 97, 108, 115, 101] : List UInt8) t d _ hal (by decide) ht)
  obtain ⟨m, hm, c1⟩ := hal.pos
  have hnew := heap_alloc_new w (.cells #[.int .u8 0, .bool false, .int .i64 0, .int .u64 0, .string ⟨#[]⟩, .slice none 0 0, .slice none 0 0] 27)
  have HN := Lib.hid hnew
  have hrl := h.lt
  have HKR := Lib.hid ((KR.refl r w).alloc (.cells #[.int .u8 0, .bool false, .int .i64 0, .int .u64 0, .string ⟨#[]⟩, .slice none 0 0, .slice none 0 0] 27))
  clear h hal hm hnew
  go_enter Tryz.func55, Tryz.ntmps55
  go_wp2_with fail
  refine HR.out.mono ?_
  rintro e w1 ⟨rfl, hrd, hkr⟩
  have hn1 := (hkr.block w.heap.size (by simp) (by omega)).trans HN.out
  obtain ⟨n0, n1, n2, n3, n4, n5, n6⟩ := cell_agg7 hn1
  have q : ∀ j, w1.frozen? ⟨w.heap.size, j, none⟩ = false := fun j => froz_agg hn1 j
  have HRD := Lib.hid hrd
  have HK1 := Lib.hid hkr
  have HN1 := Lib.hid hn1
  clear hrd hkr hn1
  go_wp2_with fail
  show bodyPost _ _ _ _ _ (set7 w1 w.heap.size (.int .u8 2) (.bool false) (.int .i64 0) (.int .u64 0) (.string ⟨#[]⟩) (.slice none 0 0) (.slice none 0 0))
  have hF := seven_set HN1.out (.int .u8 2) (.bool false) (.int .i64 0) (.int .u64 0) (.string ⟨#[]⟩) (.slice none 0 0) (.slice none 0 0)
  have hok := fun e he => set7_ok (e := e) (k := 2) (b := false) (n := 0) (u := 0) (x := ⟨#[]⟩) (p := w.heap.size) he (HKR.out.trans HK1.out) HRD.out (Nat.le_refl _) hrl (.int .u8 2) (.bool false) (.int .i64 0) (.int .u64 0) (.string ⟨#[]⟩) (.slice none 0 0) (.slice none 0 0)
  unfold set7 at hok ⊢
  generalize ((((((w1.setCell ⟨w.heap.size, 0, none⟩ (.int .u8 2)).setCell ⟨w.heap.size, 1, none⟩ (.bool false)).setCell ⟨w.heap.size, 2, none⟩ (.int .i64 0)).setCell ⟨w.heap.size, 3, none⟩ (.int .u64 0)).setCell ⟨w.heap.size, 4, none⟩ (.string ⟨#[]⟩)).setCell ⟨w.heap.size, 5, none⟩ (.slice none 0 0)).setCell ⟨w.heap.size, 6, none⟩ (.slice none 0 0) = F at *
  obtain ⟨g0, g1, g2, g3, g4, g5, g6⟩ := cell_agg7 hF
  refine bodyPost_ret (v := atomV 2 false 0 0 ⟨#[]⟩) (by simp [results, Tryz.results55, go_sem, atomV, g0, g1, g2, g3, g4, g5, g6]) rfl ?_
  exact hok _ rfl
end Go.Proofs.YtckaoeloofbklaaGreatDoor

/- The library's tables in memory; prescale. -/
namespace Go.Proofs.YtckaoeloofbklaaGreatDoor
open Go Go.RowKit

/-- the row of a power of ten in the library's table -/
def hiN (i : Nat) : Nat := (Go.Pinned.pow10Rows.getD i (0, 0)).1
def loN (i : Nat) : Nat := (Go.Pinned.pow10Rows.getD i (0, 0)).2

def rowsOK : Int → List (Nat × Nat) → Bool
  | _, [] => true
  | p, c :: l => decide (c.1 < 18446744073709551616) && decide (c.2 < 18446744073709551616) && decide (pmN p + c.2 = c.1 * 18446744073709551616) && rowsOK (p + 1) l

theorem rowsOK_get : ∀ (l : List (Nat × Nat)) (p : Int), rowsOK p l = true → ∀ k : Nat, k < l.length → (l.getD k (0, 0)).1 < 18446744073709551616 ∧ (l.getD k (0, 0)).2 < 18446744073709551616 ∧ pmN (p + k) + (l.getD k (0, 0)).2 = (l.getD k (0, 0)).1 * 18446744073709551616
  | [], _, _, _, h => by simp at h
  | c :: l, p, h, 0, _ => by
    simp only [rowsOK, Bool.and_eq_true, decide_eq_true_eq] at h
    simpa using ⟨h.1.1.1, h.1.1.2, h.1.2⟩
  | c :: l, p, h, k + 1, hk => by
    simp only [rowsOK, Bool.and_eq_true, decide_eq_true_eq] at h
    have := rowsOK_get l (p + 1) h.2 k (by simpa using hk)
    rw [show p + ((k + 1 : Nat) : Int) = p + 1 + (k : Int) from by push_cast; omega]
    simpa using this

theorem rows_ok : rowsOK (-348) Go.Pinned.pow10Rows = true := by decide +kernel
theorem rows_len : Go.Pinned.pow10Rows.length = 696 := by decide +kernel

theorem row_is (p : Int) (h1 : -348 ≤ p) (h2 : p ≤ 347) : hiN (p + 348).toNat < 18446744073709551616 ∧ loN (p + 348).toNat < 18446744073709551616 ∧ pmN p + loN (p + 348).toNat = hiN (p + 348).toNat * 18446744073709551616 := by
  have := rowsOK_get _ _ rows_ok (p + 348).toNat (by rw [rows_len]; omega)
  rwa [show -348 + ((p + 348).toNat : Int) = p from by omega] at this

/-- the library's tables hold what they hold -/
structure Glob (w : World) : Prop where
  lt : 17 ≤ w.heap.size
  pow : ∀ i, i < 696 → w.cell? ⟨12, i * 2, Option.none⟩ = some (.int .u64 (hiN i)) ∧ w.cell? ⟨12, i * 2 + 1, Option.none⟩ = some (.int .u64 (loN i))
  u10 : Lib.TabIs Tryz.prog w "internal/strconv.uint64pow10" .u64 Lib.pow10Tab
  opt : w.cell? ⟨8, 0, Option.none⟩ = some (.bool true)

theorem u10_num : Tryz.prog.globalNamed "internal/strconv.uint64pow10" = some 2 := by kernel_rfl

theorem Glob.below {w w' : World} {B : Nat} (h : Glob w) (hB : 17 ≤ B) (hb : Below B w w') : Glob w' := by
  refine ⟨Nat.le_trans h.lt hb.size, fun i hi => ?_, ?_, ?_⟩
  · obtain ⟨a, b⟩ := h.pow i hi
    exact ⟨(hb.cell (p := ⟨12, i * 2, Option.none⟩) (Nat.lt_of_lt_of_le (show 12 < 17 by decide) hB)).trans a, (hb.cell (p := ⟨12, i * 2 + 1, Option.none⟩) (Nat.lt_of_lt_of_le (show 12 < 17 by decide) hB)).trans b⟩
  · have hu := h.u10
    unfold Lib.TabIs World.var? at *
    rw [u10_num] at *
    simp only [Option.bind_some] at *
    rw [hb.block _ (Nat.lt_of_lt_of_le (by decide) hB)]; exact hu
  · exact (hb.cell (p := ⟨8, 0, Option.none⟩) (Nat.lt_of_lt_of_le (by decide) hB)).trans h.opt
theorem Glob.alloc {w : World} (h : Glob w) (o : Obj) : Glob (w.alloc o) := h.below (B := 17) (Nat.le_refl _) ((Below.refl _ _).alloc h.lt o)
theorem Glob.drewN {w : World} (h : Glob w) (n : Nat) : Glob (w.drewN n) := h.below h.lt (bDrewN (Below.refl _ _) n)

/-- a scaler at block b -/
def preCells (hi lo : Nat) (s : Int) : Array Value := #[.int .u64 hi, .int .u64 lo, .int .i64 s]

theorem setCell_heap {w : World} {g j : Nat} {cur : Array Value} {t : TypeId} {fr : Nat × Nat} (h : w.heap[g]? = some (.cells cur t fr)) (u : Value) : (w.setCell ⟨g, j, Option.none⟩ u).heap[g]? = some (.cells (cur.setIfInBounds j u) t fr) := by
  simp only [World.setCell, Array.getElem?_modify, if_true, h, Option.map_some]
  rfl

set_option maxHeartbeats 1000000 in
theorem prescale_at (b i : Nat) (e lp : Int) (T : TypeId) (x0 x1 x2 : Value) (w : World) (hg : Glob w) (hb : w.heap[b]? = some (.cells #[x0, x1, x2] T (0, 0))) (hb17 : 17 ≤ b) (hi : i < 696) (he1 : -5000 ≤ e) (he2 : e ≤ 5000) (hl1 : -5000 ≤ lp) (hl2 : lp ≤ 5000) :
    Calls Tryz.prog 231 #[.pointer (some ⟨b, 0, Option.none⟩), .int .i64 e, .int .i64 ((i : Int) - 348), .int .i64 lp] w fun e' w' => e' = .returned (.tuple #[]) ∧
      w'.heap[b]? = some (.cells (preCells (hiN i) (loN i) (-(e + lp + 3))) T (0, 0)) ∧ Below b w w' ∧ w'.heap.size = w.heap.size := by
  obtain ⟨c0, c1⟩ := hg.pow i hi
  have hblt : b < w.heap.size := (Array.getElem?_eq_some_iff.1 hb).1
  have f0 : ∀ o, w.frozen? ⟨b, o, Option.none⟩ = false := fun o => by simp [World.frozen?, hb]
  have d0 : w.cell? ⟨b, 0, Option.none⟩ = some x0 := by rw [cell_of_row w b 0 _ _ _ hb]; rfl
  have d1 : w.cell? ⟨b, 1, Option.none⟩ = some x1 := by rw [cell_of_row w b 1 _ _ _ hb]; rfl
  have d2 : w.cell? ⟨b, 2, Option.none⟩ = some x2 := by rw [cell_of_row w b 2 _ _ _ hb]; rfl
  have hne : (b = 12) = False := by simp; omega
  have HB := Lib.hid hb
  clear hb hg
  go_enter Tryz.func231, Tryz.ntmps231
  go_wp2
  go_end0
  refine ⟨rfl, ?_, (((Below.refl _ _).setCell (p := ⟨b, 0, Option.none⟩) (Nat.le_refl _) _).setCell (p := ⟨b, 1, Option.none⟩) (Nat.le_refl _) _).setCell (p := ⟨b, 2, Option.none⟩) (Nat.le_refl _) _, by simp [World.setCell]⟩
  exact setCell_heap (setCell_heap (setCell_heap HB.out _) _) _

end Go.Proofs.YtckaoeloofbklaaGreatDoor

/- Scaling, walked: uscale. -/
namespace Go.Proofs.YtckaoeloofbklaaGreatDoor
open Go Go.RowKit

theorem or_one (a : Nat) : a ||| 1 = 2 * (a / 2) + 1 := by
  have h := Nat.div_add_mod (a ||| 1) 2
  rw [Nat.or_div_two, Nat.or_mod_two_eq_one.2 (.inr rfl)] at h
  simpa using h.symm

theorem shl_back (H s : Nat) : (H / 2 ^ s * 2 ^ s = H) ↔ H % 2 ^ s = 0 := by
  have h := Nat.div_add_mod H (2 ^ s)
  rw [Nat.mul_comm] at h
  omega

/-- what uscale makes of the words of the two products -/
def uscR (H mid m2 S : Nat) : Nat :=
  if H % S = 0 then
    let H' := if mid < m2 then H - 1 else H
    if 1 < (mid + 18446744073709551616 - m2) % 18446744073709551616 then 2 * (H' / S / 2) + 1 else H' / S
  else 2 * (H / S / 2) + 1
theorem uscN_R (x hi lo S : Nat) : uscN x hi lo S = uscR (x * hi / 18446744073709551616) (x * hi % 18446744073709551616) (x * lo / 18446744073709551616) S := rfl

theorem and_63 : ∀ s : Fin 64, bits BinOp.and IntKind.i64 (s.val : Int) 63 = (s.val : Int) := by decide +kernel

set_option maxHeartbeats 1000000 in
theorem uscale_at (b x hi lo s : Nat) (w : World) (hx : x < 18446744073709551616) (hhi : hi < 18446744073709551616) (hlo : lo < 18446744073709551616) (hge : lo ≤ hi * 18446744073709551616) (hs : s < 64)
    (c0 : w.cell? ⟨b, 0, Option.none⟩ = some (.int .u64 hi)) (c1 : w.cell? ⟨b, 1, Option.none⟩ = some (.int .u64 lo)) (c2 : w.cell? ⟨b, 2, Option.none⟩ = some (.int .i64 s)) :
    Calls Tryz.prog 233 #[.int .u64 x, .pointer (some ⟨b, 0, Option.none⟩)] w fun e w' => e = .returned (.int .u64 (uscN x hi lo (2 ^ s) : Nat)) ∧ ∃ n, w' = w.drewN n := by
  have HM1 := Lib.hid (fun W : World => Tryz.bits_Mul64 x hi hx hhi W)
  have HM2 := Lib.hid (fun W : World => Tryz.bits_Mul64 x lo hx hlo W)
  have HB2 := Lib.hid b2u_any
  have HB3 := Lib.hid (fun b W => (b2u_any b W).mono fun _ w' (h : _ ∧ W = w') => (⟨h.1, h.2.symm⟩ : _ ∧ w' = W))
  have h1 : x * hi / 18446744073709551616 < 18446744073709551616 := by
    rw [Nat.div_lt_iff_lt_mul (by omega)]
    exact Nat.mul_lt_mul'' hx hhi
  have h2 : x * lo / 18446744073709551616 < 18446744073709551616 := by
    rw [Nat.div_lt_iff_lt_mul (by omega)]
    exact Nat.mul_lt_mul'' hx hlo
  have h3 : x * hi % 18446744073709551616 < 18446744073709551616 := Nat.mod_lt _ (by omega)
  have h4 : x * hi % 18446744073709551616 < x * lo / 18446744073709551616 → 1 ≤ x * hi / 18446744073709551616 := fun h => by
    have p0 : x * lo ≤ x * hi * 18446744073709551616 := by rw [Nat.mul_assoc]; exact Nat.mul_le_mul_left x hge
    generalize x * hi = P at *
    generalize x * lo = Q at *
    omega
  rw [uscN_R]
  generalize x * hi / 18446744073709551616 = H at *
  generalize x * hi % 18446744073709551616 = mid at *
  generalize x * lo / 18446744073709551616 = m2 at *
  generalize x * lo % 18446744073709551616 = low at *
  obtain ⟨U, hU⟩ : ∃ U, U = uscR H mid m2 (2 ^ s) := ⟨_, rfl⟩
  rw [← hU]
  have hand := and_63 ⟨s, hs⟩
  simp only at hand
  have hwr : IntKind.u64.wrap ((H : Int) / 2 ^ s * 2 ^ s) = ((H / 2 ^ s * 2 ^ s : Nat) : Int) := by
    have : H / 2 ^ s * 2 ^ s ≤ H := Nat.div_mul_le_self _ _
    rw [show ((H : Int) / 2 ^ s * 2 ^ s) = ((H / 2 ^ s * 2 ^ s : Nat) : Int) from by push_cast; rfl, IntKind.wrap_u64]
    omega
  by_cases h0 : H % 2 ^ s = 0
  · have ht : (IntKind.u64.wrap ((H : Int) / 2 ^ s * 2 ^ s) != (H : Int)) = false := by
      rw [hwr, (shl_back H s).2 h0]; simp
    have HU : Hid (U = uscR H mid m2 (2 ^ s) ∧ H % 2 ^ s = 0) := Lib.hid ⟨hU, h0⟩
    have hδ : IntKind.u64.wrap ((mid : Int) - (m2 : Int)) = (((mid + 18446744073709551616 - m2) % 18446744073709551616 : Nat) : Int) := by rw [IntKind.wrap_u64]; omega
    obtain ⟨d, hd⟩ : ∃ d, d = (mid + 18446744073709551616 - m2) % 18446744073709551616 := ⟨_, rfl⟩
    rw [← hd] at hδ
    have HD := Lib.hid hd
    clear hU h0 hwr hd
    by_cases hlt : mid < m2
    · have h5 := h4 hlt
      have hl1 : decide (mid < m2) = true := by simpa using hlt
      have hw1 : IntKind.u64.wrap ((H : Int) - 1) = ((H - 1 : Nat) : Int) := by rw [IntKind.wrap_u64]; omega
      have h6 : (H - 1) / 2 ^ s ≤ H - 1 := Nat.div_le_self _ _
      have hor : bits BinOp.or IntKind.u64 (((H - 1 : Nat) : Int) / 2 ^ s) 1 = ((2 * ((H - 1) / 2 ^ s / 2) + 1 : Nat) : Int) := by
        have := bits_or_u64_nat ((H - 1) / 2 ^ s) 1 (by omega) (by omega)
        rw [or_one] at this
        rw [← this]; push_cast; rfl
      have hor0 : bits BinOp.or IntKind.u64 (((H - 1 : Nat) : Int) / 2 ^ s) 0 = (((H - 1 : Nat) : Int) / 2 ^ s) := by
        have := bits_or_u64_nat ((H - 1) / 2 ^ s) 0 (by omega) (by omega)
        rw [Nat.or_zero] at this
        push_cast at this
        exact this
      have HLT := Lib.hid hlt
      obtain ⟨H1, hH1⟩ : ∃ H1, H1 = H - 1 := ⟨_, rfl⟩
      have HH1 := Lib.hid hH1
      rw [← hH1] at hw1 hor hor0
      have hH2 : H1 < 18446744073709551616 := by omega
      clear h4 hlt h6 hH1 h5
      by_cases hd1 : 1 < d
      · have hd2 : decide ((1 : Int) < (d : Int)) = true := by rw [decide_eq_true_eq]; omega
        have hd3 : decide (1 < d) = true := by rw [decide_eq_true_eq]; omega
        have hUe : U = 2 * (H1 / 2 ^ s / 2) + 1 := by rw [HU.out.1]; unfold uscR; rw [if_pos HU.out.2]; simp only [if_pos HLT.out]; rw [← HD.out, if_pos hd1, HH1.out]
        have HUE := Lib.hid hUe
        clear hUe hd1
        go_enter Tryz.func233, Tryz.ntmps233
        go_wp2_with fail
        refine (HM1.out _).mono ?_
        rintro e w1 ⟨rfl, rfl⟩
        go_wp2_with fail
        refine (HM2.out _).mono ?_
        rintro e w1 ⟨rfl, rfl⟩
        go_wp2_with fail
        refine (HB2.out _ _).mono ?_
        rintro e w1 ⟨rfl, rfl⟩
        go_wp2_with fail
        go_quiet ((go_at_call 256; exact Calls.quiet_of_same (HB3.out _ _)))
        go_wp2_with fail
        go_ret
        exact ⟨ret_int (by rw [HUE.out]; push_cast; rfl), by first | exact ⟨_, rfl⟩ | exact ⟨_, by assumption⟩⟩
      · have hd2 : decide ((1 : Int) < (d : Int)) = false := by rw [decide_eq_false_iff_not]; omega
        have hd3 : decide (1 < d) = false := by rw [decide_eq_false_iff_not]; omega
        have hUe : U = H1 / 2 ^ s := by rw [HU.out.1]; unfold uscR; rw [if_pos HU.out.2]; simp only [if_pos HLT.out]; rw [← HD.out, if_neg hd1, HH1.out]
        have HUE := Lib.hid hUe
        clear hUe hd1
        go_enter Tryz.func233, Tryz.ntmps233
        go_wp2_with fail
        refine (HM1.out _).mono ?_
        rintro e w1 ⟨rfl, rfl⟩
        go_wp2_with fail
        refine (HM2.out _).mono ?_
        rintro e w1 ⟨rfl, rfl⟩
        go_wp2_with fail
        refine (HB2.out _ _).mono ?_
        rintro e w1 ⟨rfl, rfl⟩
        go_wp2_with fail
        go_quiet ((go_at_call 256; exact Calls.quiet_of_same (HB3.out _ _)))
        go_wp2_with fail
        go_ret
        exact ⟨ret_int (by rw [HUE.out]; push_cast; rfl), by first | exact ⟨_, rfl⟩ | exact ⟨_, by assumption⟩⟩
    · have hl1 : decide (mid < m2) = false := by simpa using hlt
      have h6 : H / 2 ^ s ≤ H := Nat.div_le_self _ _
      have hor : bits BinOp.or IntKind.u64 ((H : Int) / 2 ^ s) 1 = ((2 * (H / 2 ^ s / 2) + 1 : Nat) : Int) := by
        have := bits_or_u64_nat (H / 2 ^ s) 1 (by omega) (by omega)
        rw [or_one] at this
        rw [← this]; push_cast; rfl
      have hor0 : bits BinOp.or IntKind.u64 ((H : Int) / 2 ^ s) 0 = ((H : Int) / 2 ^ s) := by
        have := bits_or_u64_nat (H / 2 ^ s) 0 (by omega) (by omega)
        rw [Nat.or_zero] at this
        push_cast at this
        exact this
      have HLT := Lib.hid hlt
      clear h4 hlt h6
      by_cases hd1 : 1 < d
      · have hd2 : decide ((1 : Int) < (d : Int)) = true := by rw [decide_eq_true_eq]; omega
        have hd3 : decide (1 < d) = true := by rw [decide_eq_true_eq]; omega
        have hUe : U = 2 * (H / 2 ^ s / 2) + 1 := by rw [HU.out.1]; unfold uscR; rw [if_pos HU.out.2]; simp only [if_neg HLT.out]; rw [← HD.out, if_pos hd1]
        have HUE := Lib.hid hUe
        clear hUe hd1
        go_enter Tryz.func233, Tryz.ntmps233
        go_wp2_with fail
        refine (HM1.out _).mono ?_
        rintro e w1 ⟨rfl, rfl⟩
        go_wp2_with fail
        refine (HM2.out _).mono ?_
        rintro e w1 ⟨rfl, rfl⟩
        go_wp2_with fail
        refine (HB2.out _ _).mono ?_
        rintro e w1 ⟨rfl, rfl⟩
        go_wp2_with fail
        go_quiet ((go_at_call 256; exact Calls.quiet_of_same (HB3.out _ _)))
        go_wp2_with fail
        go_ret
        exact ⟨ret_int (by rw [HUE.out]; push_cast; rfl), by first | exact ⟨_, rfl⟩ | exact ⟨_, by assumption⟩⟩
      · have hd2 : decide ((1 : Int) < (d : Int)) = false := by rw [decide_eq_false_iff_not]; omega
        have hd3 : decide (1 < d) = false := by rw [decide_eq_false_iff_not]; omega
        have hUe : U = H / 2 ^ s := by rw [HU.out.1]; unfold uscR; rw [if_pos HU.out.2]; simp only [if_neg HLT.out]; rw [← HD.out, if_neg hd1]
        have HUE := Lib.hid hUe
        clear hUe hd1
        go_enter Tryz.func233, Tryz.ntmps233
        go_wp2_with fail
        refine (HM1.out _).mono ?_
        rintro e w1 ⟨rfl, rfl⟩
        go_wp2_with fail
        refine (HM2.out _).mono ?_
        rintro e w1 ⟨rfl, rfl⟩
        go_wp2_with fail
        refine (HB2.out _ _).mono ?_
        rintro e w1 ⟨rfl, rfl⟩
        go_wp2_with fail
        go_quiet ((go_at_call 256; exact Calls.quiet_of_same (HB3.out _ _)))
        go_wp2_with fail
        go_ret
        exact ⟨ret_int (by rw [HUE.out]; push_cast; rfl), by first | exact ⟨_, rfl⟩ | exact ⟨_, by assumption⟩⟩
  · have ht : (IntKind.u64.wrap ((H : Int) / 2 ^ s * 2 ^ s) != (H : Int)) = true := by
      rw [hwr]
      simp only [bne_iff_ne, ne_eq]
      intro h
      exact h0 ((shl_back H s).1 (by exact_mod_cast h))
    have hor : bits BinOp.or IntKind.u64 ((H : Int) / 2 ^ s) 1 = ((2 * (H / 2 ^ s / 2) + 1 : Nat) : Int) := by
      have h5 : H / 2 ^ s ≤ H := Nat.div_le_self _ _
      have := bits_or_u64_nat (H / 2 ^ s) 1 (by omega) (by omega)
      rw [or_one] at this
      rw [← this]; push_cast; rfl
    have hUe : U = 2 * (H / 2 ^ s / 2) + 1 := by rw [hU]; unfold uscR; rw [if_neg h0]
    have HU := Lib.hid hUe
    clear hU h0 hwr hUe
    go_enter Tryz.func233, Tryz.ntmps233
    go_wp2_with fail
    refine (HM1.out _).mono ?_
    rintro e w1 ⟨rfl, rfl⟩
    go_wp2_with fail
    go_ret
    exact ⟨ret_int (by rw [HU.out]; push_cast; rfl), 0, rfl⟩
end Go.Proofs.YtckaoeloofbklaaGreatDoor
