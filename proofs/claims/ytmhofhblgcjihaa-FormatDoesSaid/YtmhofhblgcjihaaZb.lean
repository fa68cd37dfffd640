/- A list of formatting elements in memory; kept, marker, Len, Mark, At. -/
import Derived.Test.YtmhofhblgcjihaaZa
import Derived.Test.YtmhofhblgcjihaaZe
namespace Go.Proofs.Ytmhofhblgcjihaa
open Go Go.RowKit

/-- an element -/
structure El where
  id : Int
  sp : ByteArray
  nm : ByteArray
def El.none : El := ⟨0, ⟨#[]⟩, ⟨#[]⟩⟩

/-- an entry, as the document has it -/
structure Ab where
  el : El
  ats : List At
def Ab.none : Ab := ⟨El.none, []⟩

/-- .. and as it lies in memory -/
structure En where
  el : El
  a : Option Addr
  c : Nat
  ats : List At

def En.ab (x : En) : Ab := ⟨x.el, x.ats⟩
def En.cells (x : En) : List Value := [.int .i64 x.el.id, .string x.el.sp, .string x.el.nm, .slice x.a x.ats.length x.c]
def flatE (l : List En) : List Value := l.flatMap En.cells

theorem flatE_length (l : List En) : (flatE l).length = l.length * 4 := by
  induction l with
  | nil => rfl
  | cons x l ih => simp only [flatE, List.flatMap_cons, List.length_append, List.length_cons] at *; rw [ih]; simp [En.cells]; omega
theorem flatE_append (a b : List En) : flatE (a ++ b) = flatE a ++ flatE b := by simp [flatE]
theorem flatE_one (x : En) : flatE [x] = x.cells := by simp [flatE]
theorem flatE_cons (x : En) (l : List En) : flatE (x :: l) = x.cells ++ flatE l := rfl
theorem flatE_take (l : List En) (i : Nat) : (flatE l).take (i * 4) = flatE (l.take i) := by
  induction l generalizing i with
  | nil => simp [flatE]
  | cons x l ih =>
    cases i with
    | zero => simp [flatE]
    | succ i => rw [List.take_succ_cons, flatE_cons, flatE_cons, ← ih, show (i + 1) * 4 = x.cells.length + i * 4 from by simp [En.cells]; omega, List.take_length_add_append]
theorem flatE_drop (l : List En) (i : Nat) : (flatE l).drop (i * 4) = flatE (l.drop i) := by
  have h := List.take_append_drop (i * 4) (flatE l)
  have h2 : flatE l = flatE (l.take i) ++ flatE (l.drop i) := by rw [← flatE_append, List.take_append_drop]
  rw [flatE_take] at h
  rw [h2] at h
  have h3 := List.append_cancel_left h
  rw [← h2] at h3
  exact h3
theorem flatE_get (l : List En) (j : Nat) (x : En) (h : l[j]? = some x) (i : Nat) (u : Value) (hu : x.cells[i]? = some u) : (flatE l)[j * 4 + i]? = some u := by
  have hj := (List.getElem?_eq_some_iff.1 h).1
  have hi : i < 4 := (List.getElem?_eq_some_iff.1 hu).1
  have e : flatE l = flatE (l.take j) ++ (x.cells ++ flatE (l.drop (j + 1))) := by
    rw [← flatE_cons, ← flatE_append]
    congr 1
    conv => lhs; rw [← List.take_append_drop j l, List.drop_eq_getElem_cons hj]
    rw [(List.getElem?_eq_some_iff.1 h).2]
  have hl : (flatE (l.take j)).length = j * 4 := by rw [flatE_length, List.length_take]; congr 1; omega
  rw [e, List.getElem?_append_right (by omega), hl, Nat.add_sub_cancel_left, List.getElem?_append_left hi]
  exact hu
theorem En.one (x : En) : ∀ u ∈ x.cells, u.oneCell' = true := by
  intro u hu
  simp [En.cells] at hu
  rcases hu with rfl | rfl | rfl | rfl <;> rfl
theorem flatE_oneC (l : List En) : ∀ u ∈ flatE l, u.oneCell' = true := by
  intro u hu
  obtain ⟨x, _, hx⟩ := List.mem_flatMap.1 hu
  exact x.one u hx

/-! ### what a call keeps -/
structure Keeps (S : Nat → Prop) (w w' : World) : Prop where
  os : w'.os = w.os
  tape : w'.tape = w.tape
  output : w'.output = w.output
  size : w.heap.size ≤ w'.heap.size
  block : ∀ i, i < w.heap.size → ¬ S i → w'.heap[i]? = w.heap[i]?

theorem Keeps.refl (S : Nat → Prop) (w : World) : Keeps S w w := ⟨rfl, rfl, rfl, Nat.le_refl _, fun _ _ _ => rfl⟩
theorem Keeps.of_below {S : Nat → Prop} {w w' : World} (h : Below w.heap.size w w') : Keeps S w w' := ⟨h.os, h.tape, h.output, h.size, fun i hi _ => h.block i hi⟩
theorem Keeps.trans' {S T : Nat → Prop} {a b c : World} (h : Keeps S a b) (h2 : Keeps T b c) (hT : ∀ i, T i → S i ∨ a.heap.size ≤ i) : Keeps S a c :=
  ⟨h2.os.trans h.os, h2.tape.trans h.tape, h2.output.trans h.output, Nat.le_trans h.size h2.size, fun i hi hn => (h2.block i (Nat.lt_of_lt_of_le hi h.size) (fun ht => (hT i ht).elim hn (by omega))).trans (h.block i hi hn)⟩
theorem Keeps.trans {S : Nat → Prop} {a b c : World} (h : Keeps S a b) (h2 : Keeps S b c) : Keeps S a c := h.trans' h2 (fun _ hi => .inl hi)
theorem Keeps.drew {S : Nat → Prop} {a w : World} (h : Keeps S a w) : Keeps S a w.drew := ⟨h.os, h.tape, h.output, h.size, h.block⟩
theorem Keeps.alloc {S : Nat → Prop} {a w : World} (h : Keeps S a w) (o : Obj) : Keeps S a (w.alloc o) :=
  h.trans (.of_below ((Below.refl _ _).alloc (Nat.le_refl _) _))
theorem Keeps.setCell {S : Nat → Prop} {a w : World} (h : Keeps S a w) {p : Addr} (hp : S p.block ∨ a.heap.size ≤ p.block) (u : Value) : Keeps S a (w.setCell p u) :=
  ⟨h.os, h.tape, h.output, by have := h.size; simpa [World.setCell] using this, fun i hi hn => (Below.heap_setCell w p u i (by rintro rfl; exact hp.elim hn (by omega))).trans (h.block i hi hn)⟩
theorem Keeps.grown {S : Nat → Prop} {a w w' : World} {row : Option Nat} (h : Keeps S a w) (hg : w.grownBy w' row) (hr : ∀ k, row = some k → S k ∨ a.heap.size ≤ k) : Keeps S a w' :=
  ⟨hg.os.trans h.os, hg.tape.trans h.tape, hg.output.trans h.output, Nat.le_trans h.size hg.size, fun i hi hn => (hg.block i (Nat.lt_of_lt_of_le hi h.size) (fun e => (hr i e.symm).elim hn (by omega))).trans (h.block i hi hn)⟩
theorem Keeps.below {S : Nat → Prop} {w w' : World} {B : Nat} (h : Keeps S w w') (hB : B ≤ w.heap.size) (hs : ∀ k, S k → B ≤ k) : Below B w w' :=
  ⟨h.os, h.tape, h.output, h.size, fun k hk => h.block k (by omega) (fun hS => by have := hs k hS; omega)⟩

def fp (b : Nat) (v : Value) (k : Nat) : Prop := k = b ∨ v.ownBlock = some k

theorem AtsAt.keeps {w w' : World} {S : Nat → Prop} {v : Value} {l : List At} (h : AtsAt w v l) (hk : Keeps S w w') (hs : 0 < l.length → ∀ q o n c, v = .slice (some ⟨q, o, Option.none⟩) n c → ¬ S q) : AtsAt w' v l := by
  rcases h with h | ⟨b, off, c, rfl, hlt, h1, h2, h3⟩
  · exact .inl h
  · have hb := hk.block b hlt (hs h1 b off _ c rfl)
    refine .inr ⟨b, off, c, rfl, Nat.lt_of_lt_of_le hlt hk.size, h1, h2, fun j x hj => ?_⟩
    obtain ⟨e0, e1, e2⟩ := h3 j x hj
    exact ⟨(World.cell?_of_block (w := w) (a := ⟨b, off + j * 3, Option.none⟩) hb).trans e0, (World.cell?_of_block (w := w) (a := ⟨b, off + j * 3 + 1, Option.none⟩) hb).trans e1, (World.cell?_of_block (w := w) (a := ⟨b, off + j * 3 + 2, Option.none⟩) hb).trans e2⟩

theorem AtsAt.blk {w : World} {v : Value} {l : List At} (h : AtsAt w v l) (hn : 0 < l.length) : ∀ q o n c, v = .slice (some ⟨q, o, Option.none⟩) n c → q < w.heap.size := by
  intro q o n c e
  rcases h with ⟨rfl, _⟩ | ⟨b, off, c', rfl, hlt, _⟩
  · simp at hn
  · cases e; exact hlt

/-- a list at block b: its one field is the slice v, which holds es -/
structure Raw (w : World) (b : Nat) (v : Value) (es : List En) : Prop where
  box : ∃ T, w.heap[b]? = some (.cells #[v] T (0, 0))
  own : w.ownsRow 0 37 4 v es.length (flatE es)
  ne : v.ownBlock ≠ some b
  len : es.length ≤ 1000000
  ats : ∀ x ∈ es, AtsAt w (.slice x.a x.ats.length x.c) x.ats
  off : ∀ x ∈ es, 0 < x.ats.length → ∀ q o, x.a = some ⟨q, o, Option.none⟩ → ¬ fp b v q
  sm : ∀ x ∈ es, x.ats.length * 48 ≤ 140737488355328

theorem own_keeps {w w' : World} {v : Value} {n : Nat} {xs : List Value} {S : Nat → Prop} (h : w.ownsRow 0 37 4 v n xs) (hk : Keeps S w w') (hs : ∀ k, v.ownBlock = some k → ¬ S k) : w'.ownsRow 0 37 4 v n xs := by
  refine ⟨h.1, ?_⟩
  rcases h.2 with hn | ⟨g, cap, cur, hv, hbg, hg, rest⟩
  · exact .inl hn
  · refine .inr ⟨g, cap, cur, hv, hbg, ?_, rest⟩
    rw [hk.block g (Array.getElem?_eq_some_iff.1 hg).1 (hs g (by rw [hv]; rfl))]; exact hg

theorem Raw.keeps {w w' : World} {b : Nat} {v : Value} {es : List En} {S : Nat → Prop} (h : Raw w b v es) (hk : Keeps S w w') (hs : ∀ k, fp b v k → ¬ S k) (ha : ∀ x ∈ es, 0 < x.ats.length → ∀ q o, x.a = some ⟨q, o, Option.none⟩ → ¬ S q) : Raw w' b v es := by
  obtain ⟨T, hT⟩ := h.box
  have hb : b < w.heap.size := (Array.getElem?_eq_some_iff.1 hT).1
  exact ⟨⟨T, (hk.block b hb (hs b (.inl rfl))).trans hT⟩, own_keeps h.own hk (fun k e => hs k (.inr e)), h.ne, h.len, fun x hx => (h.ats x hx).keeps hk (fun hn q o n c e => by injection e with e1; exact ha x hx hn q o e1), h.off, h.sm⟩

theorem Raw.lt {w : World} {b : Nat} {v : Value} {es : List En} (h : Raw w b v es) : ∀ k, fp b v k → k < w.heap.size := by
  obtain ⟨T, hT⟩ := h.box
  rintro k (rfl | hk)
  · exact (Array.getElem?_eq_some_iff.1 hT).1
  · exact (h.own.lt k hk).2

theorem Raw.below {w w' : World} {b : Nat} {v : Value} {es : List En} (h : Raw w b v es) (hk : Below w.heap.size w w') : Raw w' b v es :=
  h.keeps (Keeps.of_below (S := fun _ => False) hk) (fun _ _ h => h) (fun _ _ _ _ _ _ h => h)

theorem Raw.cell {w : World} {b : Nat} {v : Value} {es : List En} (h : Raw w b v es) : w.cell? ⟨b, 0, Option.none⟩ = some v := by
  obtain ⟨T, hT⟩ := h.box
  rw [cell_of_row w b 0 _ _ _ hT]; rfl
theorem Raw.frozen {w : World} {b : Nat} {v : Value} {es : List En} (h : Raw w b v es) : w.frozen? ⟨b, 0, Option.none⟩ = false := by
  obtain ⟨T, hT⟩ := h.box
  simp [World.frozen?, hT]

/-- the slice's shape -/
theorem Raw.form {w : World} {b : Nat} {v : Value} {es : List En} (h : Raw w b v es) :
    (v = .slice Option.none 0 0 ∧ es = []) ∨ ∃ g cap, v = .slice (some ⟨g, 0, Option.none⟩) es.length cap ∧ g < w.heap.size ∧ g ≠ b ∧ es.length ≤ cap ∧ cap ≤ maxLen ∧
      (∀ j x, es[j]? = some x → ∀ i u, x.cells[i]? = some u → w.cell? ⟨g, j * 4 + i, Option.none⟩ = some u) ∧
      (∀ o, w.frozen? ⟨g, o, Option.none⟩ = false) := by
  rcases h.own.2 with ⟨hv, hn⟩ | ⟨g, cap, cur, hv, _, hg, hc, hm, hs, ht⟩
  · exact .inl ⟨hv, List.eq_nil_of_length_eq_zero hn⟩
  · refine .inr ⟨g, cap, hv, (Array.getElem?_eq_some_iff.1 hg).1, ?_, hc, hm, ?_, fun o => by simp [World.frozen?, hg]⟩
    · rintro rfl
      exact h.ne (by rw [hv]; rfl)
    · intro j x hx i u hu
      have hj : j < es.length := (List.getElem?_eq_some_iff.1 hx).1
      have h0 := flatE_get es j x hx i u hu
      rw [← ht, List.getElem?_take] at h0
      split at h0
      · rw [cell_of_row w g _ _ _ _ hg]; simpa using h0
      · cases h0

/-- the cells of an entry, one by one -/
theorem Raw.at4 {w : World} {b g cap : Nat} {n : Nat} {es : List En} (h : Raw w b (.slice (some ⟨g, 0, Option.none⟩) n cap) es) (k : Nat) (hk : k < es.length) {W : World} (hb : Below w.heap.size w W) :
    W.cell? ⟨g, k * 4, Option.none⟩ = some (.int .i64 es[k].el.id) ∧ W.cell? ⟨g, k * 4 + 1, Option.none⟩ = some (.string es[k].el.sp) ∧ W.cell? ⟨g, k * 4 + 2, Option.none⟩ = some (.string es[k].el.nm) ∧ W.cell? ⟨g, k * 4 + 3, Option.none⟩ = some (.slice es[k].a es[k].ats.length es[k].c) := by
  rcases (h.below hb).form with ⟨e, _⟩ | ⟨g', cap', e, _, _, _, _, hcs, _⟩
  · cases e
  · cases e
    have := hcs k es[k] (by simp [hk])
    exact ⟨this 0 _ rfl, this 1 _ rfl, this 2 _ rfl, this 3 _ rfl⟩

/-- what a method leaves -/
def MPost (b : Nat) (v : Value) (es : List En) (w : World) (e0 : Ending) (l' : List Ab) (e : Ending) (w' : World) : Prop :=
  e = e0 ∧ ∃ v' es', es'.map En.ab = l' ∧ Raw w' b v' es' ∧ Keeps (fp b v) w w' ∧ (∀ k, fp b v' k → fp b v k ∨ w.heap.size ≤ k) ∧ ∀ x ∈ es', x ∈ es ∨ ∀ q o, x.a = some ⟨q, o, Option.none⟩ → w.heap.size ≤ q

set_option maxHeartbeats 400000 in
theorem len_any (b : Nat) (v : Value) (es : List En) (w : World) (hs : Raw w b v es) :
    Calls Try.prog 13 #[.pointer (some ⟨b, 0, Option.none⟩)] w fun e w' => e = .returned (.int .i64 es.length) ∧ w = w' := by
  have hc := hs.cell
  rcases hs.form with ⟨rfl, rfl⟩ | ⟨g, cap, rfl, _, _, h1, h2, _⟩
  all_goals
    go_enter Try.func13, Try.ntmps13
    go_wp2
    go_ret
    exact ⟨rfl, rfl⟩

set_option maxHeartbeats 400000 in
theorem marker_any (i : Int) (sp nm : ByteArray) (a : Option Addr) (n c : Nat) (w : World) :
    Calls Try.prog 27 #[.agg #[.int .i64 i, .string sp, .string nm, .slice a n c]] w fun e w' => e = .returned (.bool (i == 0)) ∧ Below w.heap.size w w' := by
  go_enter Try.func27, Try.ntmps27
  go_wp2
  go_ret
  exact ⟨rfl, (Below.refl _ _).alloc (Nat.le_refl _) _⟩

/-- an entry whose attributes are nobody else's -/
def KeptPost (x : El) (l : List At) (w : World) (e : Ending) (w' : World) : Prop :=
  ∃ a c, e = .returned (.agg #[.int .i64 x.id, .string x.sp, .string x.nm, .slice a l.length c]) ∧ AtsAt w' (.slice a l.length c) l ∧ (∀ q o, a = some ⟨q, o, Option.none⟩ → w.heap.size ≤ q ∧ q < w'.heap.size) ∧ Below w.heap.size w w'

set_option maxRecDepth 100000 in
set_option maxHeartbeats 1000000 in
theorem kept_any (x : El) (v : Value) (l : List At) (w : World) (hv : AtsAt w v l) (hsm : l.length * 48 ≤ 140737488355328) :
    Calls Try.prog 25 #[.agg #[.int .i64 x.id, .string x.sp, .string x.nm], v] w (KeptPost x l w) := by
  have hB : Below w.heap.size w ((w.alloc (.cells #[.int .i64 x.id, .string x.sp, .string x.nm] 29)).alloc (.cells #[.int .i64 0, .string ⟨#[]⟩, .string ⟨#[]⟩, .slice Option.none 0 0] 37)) := ((Below.refl _ _).alloc (Nat.le_refl _) _).alloc (by simp) _
  have hcl := clone_any v l _ (hv.below (Nat.le_refl _) hB) hsm
  have HC := Lib.hid hcl
  clear hcl
  obtain ⟨va, vc, rfl⟩ := hv.form
  clear hv
  go_enter Try.func25, Try.ntmps25
  go_wp2_with fail
  refine HC.out.mono ?_
  rintro e w1 ⟨v', rfl, hown, hb1⟩
  have hsz : w.heap.size + 1 < w1.heap.size := by have := hb1.size; simp at this; omega
  have c0 : w1.cell? ⟨w.heap.size, 0, Option.none⟩ = some (.int .i64 x.id) := (hb1.cell (p := ⟨w.heap.size, 0, Option.none⟩) (by simp; omega)).trans (by simp [go_sem])
  have c1 : w1.cell? ⟨w.heap.size, 1, Option.none⟩ = some (.string x.sp) := (hb1.cell (p := ⟨w.heap.size, 1, Option.none⟩) (by simp; omega)).trans (by simp [go_sem])
  have c2 : w1.cell? ⟨w.heap.size, 2, Option.none⟩ = some (.string x.nm) := (hb1.cell (p := ⟨w.heap.size, 2, Option.none⟩) (by simp; omega)).trans (by simp [go_sem])
  have qf : ∀ o, w1.frozen? ⟨w.heap.size + 1, o, Option.none⟩ = false := fun o => (hb1.frozen (p := ⟨w.heap.size + 1, o, Option.none⟩) (by simp)).trans (by simp [go_sem])
  have q : ∀ o, w1.cell? ⟨w.heap.size + 1, o, Option.none⟩ = ((w.alloc (.cells #[.int .i64 x.id, .string x.sp, .string x.nm] 29)).alloc (.cells #[.int .i64 0, .string ⟨#[]⟩, .string ⟨#[]⟩, .slice Option.none 0 0] 37)).cell? ⟨w.heap.size + 1, o, Option.none⟩ := fun o => hb1.cell (p := ⟨w.heap.size + 1, o, Option.none⟩) (by simp)
  have q0 : w1.cell? ⟨w.heap.size + 1, 0, Option.none⟩ = some (.int .i64 0) := (q 0).trans (by simp [go_sem])
  have q1 : w1.cell? ⟨w.heap.size + 1, 1, Option.none⟩ = some (.string ⟨#[]⟩) := (q 1).trans (by simp [go_sem])
  have q2 : w1.cell? ⟨w.heap.size + 1, 2, Option.none⟩ = some (.string ⟨#[]⟩) := (q 2).trans (by simp [go_sem])
  have q3 : w1.cell? ⟨w.heap.size + 1, 3, Option.none⟩ = some (.slice Option.none 0 0) := (q 3).trans (by simp [go_sem])
  have hbw : Below w.heap.size w w1 := hB.trans (hb1.mono hB.size)
  have HBW := Lib.hid hbw
  clear q hb1 HC hB hbw
  rcases hown with ⟨rfl, rfl⟩ | ⟨g, cap, cur, rfl, hge, hg, hlc, hcm, hcs⟩
  · go_wp2_with fail
    go_region
    all_goals
      go_wp2
      refine bodyPost_ret (v := .agg #[.int .i64 x.id, .string x.sp, .string x.nm, .slice Option.none 0 0]) (by simp [results, Try.results25, go_sem, q0, q1, q2, q3]) rfl ⟨Option.none, 0, rfl, .inl ⟨rfl, _, _, rfl⟩, (fun q o e => by cases e), ?_⟩
      exact (((((HBW.out).setCell (p := ⟨w.heap.size + 1, 0, Option.none⟩) (Nat.le_succ _) _).setCell (p := ⟨w.heap.size + 1, 1, Option.none⟩) (Nat.le_succ _) _).setCell (p := ⟨w.heap.size + 1, 2, Option.none⟩) (Nat.le_succ _) _).setCell (p := ⟨w.heap.size + 1, 3, Option.none⟩) (Nat.le_succ _) _).drew
  · have hats : AtsAt w1 (.slice (some ⟨g, 0, Option.none⟩) l.length l.length) l := by
      by_cases h0 : l.length = 0
      · rw [h0]
        exact .inl ⟨List.eq_nil_of_length_eq_zero h0, _, _, rfl⟩
      · refine .inr ⟨g, 0, _, rfl, (Array.getElem?_eq_some_iff.1 hg).1, by omega, by unfold maxLen at hcm; omega, fun j x hx => ?_⟩
        obtain ⟨e0, e1, e2⟩ := hcs j x hx
        refine ⟨?_, ?_, ?_⟩
        · rw [cell_of_row _ _ _ _ _ _ hg, Nat.zero_add]; exact e0
        · rw [cell_of_row _ _ _ _ _ _ hg, Nat.zero_add]; exact e1
        · rw [cell_of_row _ _ _ _ _ _ hg, Nat.zero_add]; exact e2
    have hgl : g < w1.heap.size := (Array.getElem?_eq_some_iff.1 hg).1
    have hge2 : w.heap.size + 2 ≤ g := by simpa using hge
    have HAT := Lib.hid hats
    unfold maxLen at hcm
    clear hats hcs hg hge
    go_wp2_with fail
    go_region
    all_goals
      go_wp2
      refine bodyPost_ret (v := .agg #[.int .i64 x.id, .string x.sp, .string x.nm, .slice (some ⟨g, 0, Option.none⟩) l.length l.length]) (by simp [results, Try.results25, go_sem, q0, q1, q2, q3]) rfl ⟨some ⟨g, 0, Option.none⟩, l.length, rfl, HAT.out.keeps (S := fun k => k = w.heap.size + 1) ?_ ?_, fun q o e => ?_, ?_⟩
      · exact (((((Keeps.refl (fun k => k = w.heap.size + 1) w1).setCell (p := ⟨w.heap.size + 1, 0, Option.none⟩) (.inl rfl) _).setCell (p := ⟨w.heap.size + 1, 1, Option.none⟩) (.inl rfl) _).setCell (p := ⟨w.heap.size + 1, 2, Option.none⟩) (.inl rfl) _).setCell (p := ⟨w.heap.size + 1, 3, Option.none⟩) (.inl rfl) _).drew
      · intro _ q o n c e hq
        cases e
        omega
      · cases e
        exact ⟨by omega, by simpa [World.setCell] using hgl⟩
      · exact (((((HBW.out).setCell (p := ⟨w.heap.size + 1, 0, Option.none⟩) (Nat.le_succ _) _).setCell (p := ⟨w.heap.size + 1, 1, Option.none⟩) (Nat.le_succ _) _).setCell (p := ⟨w.heap.size + 1, 2, Option.none⟩) (Nat.le_succ _) _).setCell (p := ⟨w.heap.size + 1, 3, Option.none⟩) (Nat.le_succ _) _).drew
end Go.Proofs.Ytmhofhblgcjihaa
