/- A stack of elements in memory, and what its methods do: Len, At, Top, Push. -/
import Derived.Test.YtibfiblajicdpaaDoorB
import Derived.Deep.RegionLaw
import Derived.Deep.AppendLies
namespace Go.Proofs.YtibfiblajicdpaaDoor
open Go Go.RowKit

/-- an element -/
structure El where
  id : Int
  sp : ByteArray
  nm : ByteArray

def El.cells (x : El) : List Value := [.int .i64 x.id, .string x.sp, .string x.nm]
def El.none : El := ⟨0, ⟨#[]⟩, ⟨#[]⟩⟩
def flat (l : List El) : List Value := l.flatMap El.cells

theorem flat_length (l : List El) : (flat l).length = l.length * 3 := by
  induction l with
  | nil => rfl
  | cons x l ih => simp only [flat, List.flatMap_cons, List.length_append, List.length_cons] at *; rw [ih]; simp [El.cells]; omega
theorem flat_append (a b : List El) : flat (a ++ b) = flat a ++ flat b := by simp [flat]
theorem flat_one (x : El) : flat [x] = [.int .i64 x.id, .string x.sp, .string x.nm] := by simp [flat, El.cells]
theorem flat_get (l : List El) (j : Nat) (x : El) (h : l[j]? = some x) : (flat l)[j * 3]? = some (.int .i64 x.id) ∧ (flat l)[j * 3 + 1]? = some (.string x.sp) ∧ (flat l)[j * 3 + 2]? = some (.string x.nm) := by
  induction l generalizing j with
  | nil => simp at h
  | cons y l ih =>
    cases j with
    | zero => simp at h; subst h; simp [flat, El.cells]
    | succ j =>
      simp at h
      have := ih j h
      have e : flat (y :: l) = y.cells ++ flat l := rfl
      have hl : y.cells.length = 3 := rfl
      rw [e]
      refine ⟨?_, ?_, ?_⟩
      · rw [List.getElem?_append_right (by rw [hl]; omega), hl, show (j + 1) * 3 - 3 = j * 3 from by omega]; exact this.1
      · rw [List.getElem?_append_right (by rw [hl]; omega), hl, show (j + 1) * 3 + 1 - 3 = j * 3 + 1 from by omega]; exact this.2.1
      · rw [List.getElem?_append_right (by rw [hl]; omega), hl, show (j + 1) * 3 + 2 - 3 = j * 3 + 2 from by omega]; exact this.2.2

/-- all blocks that were there are as they were, but those of S -/
structure Keeps (S : Nat → Prop) (w w' : World) : Prop where
  os : w'.os = w.os
  tape : w'.tape = w.tape
  output : w'.output = w.output
  size : w.heap.size ≤ w'.heap.size
  block : ∀ k, k < w.heap.size → ¬ S k → w'.heap[k]? = w.heap[k]?

theorem Keeps.refl (S : Nat → Prop) (w : World) : Keeps S w w := ⟨rfl, rfl, rfl, Nat.le_refl _, fun _ _ _ => rfl⟩
theorem Keeps.of_below {S : Nat → Prop} {w w' : World} (h : Below w.heap.size w w') : Keeps S w w' := ⟨h.os, h.tape, h.output, h.size, fun k hk _ => h.block k hk⟩
theorem Keeps.mono {S S' : Nat → Prop} {w w' : World} (h : Keeps S w w') (hs : ∀ k, k < w.heap.size → S k → S' k) : Keeps S' w w' := ⟨h.os, h.tape, h.output, h.size, fun k hk hn => h.block k hk (fun hS => hn (hs k hk hS))⟩
theorem Keeps.trans {S : Nat → Prop} {a b c : World} (h : Keeps S a b) (k : Keeps S b c) : Keeps S a c :=
  ⟨k.os.trans h.os, k.tape.trans h.tape, k.output.trans h.output, Nat.le_trans h.size k.size, fun i hi hn => (k.block i (Nat.lt_of_lt_of_le hi h.size) hn).trans (h.block i hi hn)⟩
/-- the second step may write what the first may, and what is new -/
theorem Keeps.trans' {S S' : Nat → Prop} {a b c : World} (h : Keeps S a b) (k : Keeps S' b c) (hs : ∀ i, S' i → S i ∨ a.heap.size ≤ i) : Keeps S a c :=
  ⟨k.os.trans h.os, k.tape.trans h.tape, k.output.trans h.output, Nat.le_trans h.size k.size, fun i hi hn => (k.block i (Nat.lt_of_lt_of_le hi h.size) (fun hS => (hs i hS).elim hn (by omega))).trans (h.block i hi hn)⟩
theorem Keeps.drew {S : Nat → Prop} {a w : World} (h : Keeps S a w) : Keeps S a w.drew := ⟨h.os, h.tape, h.output, h.size, h.block⟩
theorem Keeps.drewN {S : Nat → Prop} {a w : World} (h : Keeps S a w) (n : Nat) : Keeps S a (w.drewN n) := ⟨h.os, h.tape, h.output, h.size, h.block⟩
theorem Keeps.alloc {S : Nat → Prop} {a w : World} (h : Keeps S a w) (o : Obj) : Keeps S a (w.alloc o) :=
  h.trans (.of_below ((Below.refl _ _).alloc (Nat.le_refl _) _))
theorem Keeps.setCell {S : Nat → Prop} {a w : World} (h : Keeps S a w) {p : Addr} (hp : S p.block ∨ a.heap.size ≤ p.block) (u : Value) : Keeps S a (w.setCell p u) :=
  ⟨h.os, h.tape, h.output, by have := h.size; simpa [World.setCell] using this, fun i hi hn => (Below.heap_setCell w p u i (by rintro rfl; exact hp.elim hn (by omega))).trans (h.block i hi hn)⟩
theorem Keeps.grown {S : Nat → Prop} {a w w' : World} {row : Option Nat} (h : Keeps S a w) (hg : w.grownBy w' row) (hr : ∀ k, row = some k → S k ∨ a.heap.size ≤ k) : Keeps S a w' :=
  ⟨hg.os.trans h.os, hg.tape.trans h.tape, hg.output.trans h.output, Nat.le_trans h.size hg.size, fun i hi hn => (hg.block i (Nat.lt_of_lt_of_le hi h.size) (fun e => (hr i e.symm).elim hn (by omega))).trans (h.block i hi hn)⟩
theorem Keeps.below {S : Nat → Prop} {w w' : World} {B : Nat} (h : Keeps S w w') (hB : B ≤ w.heap.size) (hs : ∀ k, S k → B ≤ k) : Below B w w' :=
  ⟨h.os, h.tape, h.output, h.size, fun k hk => h.block k (by omega) (fun hS => by have := hs k hS; omega)⟩

/-- the blocks that a stack is made of -/
def fp (b : Nat) (v : Value) (k : Nat) : Prop := k = b ∨ v.ownBlock = some k

/-- a stack at block b: its one field is the slice v, which holds l -/
structure Stk (w : World) (b : Nat) (v : Value) (l : List El) : Prop where
  box : ∃ T, w.heap[b]? = some (.cells #[v] T (0, 0))
  own : w.ownsRow 0 30 3 v l.length (flat l)
  ne : v.ownBlock ≠ some b
  len : l.length ≤ 1000000

theorem Stk.keeps {w w' : World} {b : Nat} {v : Value} {l : List El} {S : Nat → Prop} (h : Stk w b v l) (hk : Keeps S w w') (hs : ∀ k, fp b v k → ¬ S k) : Stk w' b v l := by
  obtain ⟨T, hT⟩ := h.box
  have hb : b < w.heap.size := (Array.getElem?_eq_some_iff.1 hT).1
  refine ⟨⟨T, (hk.block b hb (hs b (.inl rfl))).trans hT⟩, ⟨h.own.1, ?_⟩, h.ne, h.len⟩
  rcases h.own.2 with hn | ⟨g, cap, cur, hv, hbg, hg, rest⟩
  · exact .inl hn
  · refine .inr ⟨g, cap, cur, hv, hbg, ?_, rest⟩
    rw [hk.block g (Array.getElem?_eq_some_iff.1 hg).1 (hs g (.inr (by rw [hv]; rfl)))]; exact hg

theorem Stk.lt {w : World} {b : Nat} {v : Value} {l : List El} (h : Stk w b v l) : ∀ k, fp b v k → k < w.heap.size := by
  obtain ⟨T, hT⟩ := h.box
  rintro k (rfl | hk)
  · exact (Array.getElem?_eq_some_iff.1 hT).1
  · exact (h.own.lt k hk).2

theorem Stk.below {w w' : World} {b : Nat} {v : Value} {l : List El} (h : Stk w b v l) (hk : Below w.heap.size w w') : Stk w' b v l :=
  h.keeps (Keeps.of_below (S := fun _ => False) hk) (fun _ _ h => h)

theorem Stk.cell {w : World} {b : Nat} {v : Value} {l : List El} (h : Stk w b v l) : w.cell? ⟨b, 0, Option.none⟩ = some v := by
  obtain ⟨T, hT⟩ := h.box
  rw [cell_of_row w b 0 _ _ _ hT]; rfl
theorem Stk.frozen {w : World} {b : Nat} {v : Value} {l : List El} (h : Stk w b v l) : w.frozen? ⟨b, 0, Option.none⟩ = false := by
  obtain ⟨T, hT⟩ := h.box
  simp [World.frozen?, hT]

/-- the slice's shape -/
theorem Stk.form {w : World} {b : Nat} {v : Value} {l : List El} (h : Stk w b v l) :
    (v = .slice Option.none 0 0 ∧ l = []) ∨ ∃ g cap, v = .slice (some ⟨g, 0, Option.none⟩) l.length cap ∧ g < w.heap.size ∧ g ≠ b ∧ l.length ≤ cap ∧ cap ≤ maxLen ∧
      (∀ j x, l[j]? = some x → w.cell? ⟨g, j * 3, Option.none⟩ = some (.int .i64 x.id) ∧ w.cell? ⟨g, j * 3 + 1, Option.none⟩ = some (.string x.sp) ∧ w.cell? ⟨g, j * 3 + 2, Option.none⟩ = some (.string x.nm)) ∧
      (∀ o, w.frozen? ⟨g, o, Option.none⟩ = false) := by
  rcases h.own.2 with ⟨hv, hn⟩ | ⟨g, cap, cur, hv, _, hg, hc, hm, hs, ht⟩
  · exact .inl ⟨hv, List.eq_nil_of_length_eq_zero hn⟩
  · refine .inr ⟨g, cap, hv, (Array.getElem?_eq_some_iff.1 hg).1, ?_, hc, hm, ?_, fun o => by simp [World.frozen?, hg]⟩
    · rintro rfl
      exact h.ne (by rw [hv]; rfl)
    · intro j x hx
      have hj : j < l.length := (List.getElem?_eq_some_iff.1 hx).1
      obtain ⟨h0, h1, h2⟩ := flat_get l j x hx
      rw [← ht] at h0 h1 h2
      have tk : ∀ q u, (List.take (l.length * 3) cur.toList)[q]? = some u → w.cell? ⟨g, q, Option.none⟩ = some u := by
        intro q u hq
        rw [cell_of_row w g q _ _ _ hg]
        rw [List.getElem?_take] at hq
        split at hq
        · simpa using hq
        · cases hq
      exact ⟨tk _ _ h0, tk _ _ h1, tk _ _ h2⟩

/-- what a method leaves -/
def MPost (b : Nat) (v : Value) (w : World) (e0 : Ending) (l' : List El) (e : Ending) (w' : World) : Prop :=
  e = e0 ∧ ∃ v', Stk w' b v' l' ∧ Keeps (fp b v) w w' ∧ ∀ k, fp b v' k → fp b v k ∨ w.heap.size ≤ k

theorem infoEl : (Tryd.prog.info? 30).map (fun i => (i.zero, i.size, i.bytes)) = some (some (.agg #[.int .i64 0, .string ⟨#[]⟩, .string ⟨#[]⟩]), 3, 40) := by kernel_rfl

set_option maxHeartbeats 400000 in
theorem len_any (b : Nat) (v : Value) (l : List El) (w : World) (hs : Stk w b v l) :
    Calls Tryd.prog 12 #[.pointer (some ⟨b, 0, Option.none⟩)] w fun e w' => e = .returned (.int .i64 l.length) ∧ w = w' := by
  have hc := hs.cell
  rcases hs.form with ⟨rfl, rfl⟩ | ⟨g, cap, rfl, _, _, h1, h2, _⟩
  all_goals
    go_enter Tryd.func12, Tryd.ntmps12
    go_wp2
    go_ret
    exact ⟨rfl, rfl⟩

theorem grown_far {w W w1 : World} {row : Option Nat} (hg : W.grownBy w1 row) (hW : Below w.heap.size w W) {b : Nat} (hb : b < w.heap.size) (hne : row ≠ some b) (o : Nat) :
    w1.cell? ⟨b, o, Option.none⟩ = w.cell? ⟨b, o, Option.none⟩ ∧ w1.frozen? ⟨b, o, Option.none⟩ = w.frozen? ⟨b, o, Option.none⟩ := by
  have h : w1.heap[b]? = w.heap[b]? := (hg.block b (Nat.lt_of_lt_of_le hb hW.size) (fun e => hne e.symm)).trans (hW.block b hb)
  exact ⟨World.cell?_of_block (w := w) (a := ⟨b, o, Option.none⟩) h, World.frozen?_of_block (w := w) (a := ⟨b, o, Option.none⟩) h⟩

theorem cells_two (w : World) (A : Obj) (c0 c1 c2 : Value) (t : TypeId) : ∀ j u, [c0, c1, c2][j]? = some u → ((w.alloc A).alloc (.cells #[c0, c1, c2] t)).drew.cell? ((⟨w.heap.size + 1, 0, Option.none⟩ : Addr).add j) = some u := by
  intro j u hu
  have hadd : (⟨w.heap.size + 1, 0, Option.none⟩ : Addr).add j = ⟨w.heap.size + 1, j, Option.none⟩ := by unfold Addr.add; split <;> simp_all
  rw [hadd, cell_of_row _ _ j _ _ _ (heap_two w A _)]
  simpa using hu

/-- behind an append onto the stack's slice, and the store of what came out -/
theorem push_done {w W w1 : World} {b : Nat} {v : Value} {l : List El} {x : El} (hs : Stk w b v l) (hlen : l.length < 1000000) (hW : Below w.heap.size w W) (g cap : Nat)
    (hown : w1.ownsRow 0 30 3 (.slice (some ⟨g, 0, Option.none⟩) (l.length + 1) cap) (l.length + 1) (flat l ++ [.int .i64 x.id, .string x.sp, .string x.nm]))
    (hgr : W.grownBy w1 v.ownBlock) (hat : v.ownBlock = some g ∨ w.heap.size ≤ g) :
    MPost b v w (.returned (.tuple #[])) (l ++ [x]) (.returned (.tuple #[])) (w1.setCell ⟨b, 0, Option.none⟩ (.slice (some ⟨g, 0, Option.none⟩) (l.length + 1) cap)) := by
  obtain ⟨T, hT⟩ := hs.box
  have hblt := hs.lt b (.inl rfl)
  have hb1 : w1.heap[b]? = some (.cells #[v] T (0, 0)) := ((hgr.block b (Nat.lt_of_lt_of_le hblt hW.size) (fun e => hs.ne e.symm)).trans (hW.block b hblt)).trans hT
  have hgb : g ≠ b := by
    rintro rfl
    rcases hat with h | h
    · exact hs.ne h
    · omega
  refine ⟨rfl, .slice (some ⟨g, 0, Option.none⟩) (l.length + 1) cap, ⟨⟨T, ?_⟩, ?_, ?_, by simp; omega⟩, ?_, ?_⟩
  · simp only [World.setCell, Array.getElem?_modify, if_true, hb1, Option.map_some]
    rfl
  · rw [flat_append, flat_one]
    simp only [List.length_append, List.length_cons, List.length_nil, Nat.zero_add]
    refine ⟨hown.1, ?_⟩
    rcases hown.2 with ⟨h, _⟩ | ⟨g', cap', cur, hv, h1, h2, rest⟩
    · cases h
    · refine .inr ⟨g', cap', cur, hv, h1, ?_, rest⟩
      rw [Below.heap_setCell _ _ _ _ (by cases hv; exact hgb)]; exact h2
  · simp [Value.ownBlock, hgb]
  · refine Keeps.setCell ?_ (.inl (.inl rfl)) _
    exact (Keeps.of_below hW).grown hgr (fun k hk => .inl (.inr hk))
  · rintro k (rfl | hk)
    · exact .inl (.inl rfl)
    · simp [Value.ownBlock] at hk
      subst hk
      rcases hat with h | h
      · exact .inl (.inr h)
      · exact .inr h

set_option maxHeartbeats 1000000 in
theorem push_any (b : Nat) (v : Value) (l : List El) (x : El) (w : World) (hs : Stk w b v l) (hlen : l.length < 1000000) :
    Calls Tryd.prog 8 #[.pointer (some ⟨b, 0, Option.none⟩), .agg #[.int .i64 x.id, .string x.sp, .string x.nm]] w (MPost b v w (.returned (.tuple #[])) (l ++ [x])) := by
  obtain ⟨i0, hi, hz0, hz1, hz2⟩ := info_parts infoEl
  have hc := hs.cell
  have hf := hs.frozen
  have hown := hs.own
  have hblt := hs.lt b (.inl rfl)
  have ht := Tryd.underlying22
  have hne := hs.ne
  have hW : Below w.heap.size w ((w.alloc (.cells #[.int .i64 x.id, .string x.sp, .string x.nm] 30)).alloc (.cells #[.int .i64 x.id, .string x.sp, .string x.nm] 30)).drew := (((Below.refl _ _).alloc (Nat.le_refl _) _).alloc (by simp) _).drew
  have hown2 := ((hown.alloc (.cells #[.int .i64 x.id, .string x.sp, .string x.nm] 30)).alloc (.cells #[.int .i64 x.id, .string x.sp, .string x.nm] 30))
  have hcs := cells_two w (.cells #[.int .i64 x.id, .string x.sp, .string x.nm] 30) (.int .i64 x.id) (.string x.sp) (.string x.nm) 30
  have HS := Lib.hid hs
  clear hs
  go_enter Tryd.func8, Tryd.ntmps8
  go_wp2
  go_region_law (refine step_append_lies _ rfl _ _ 22 rfl 0 30 i0 _ 3 40 ht hi hz0 hz1 hz2 rfl (by decide) v l.length (flat l) rfl (by exact hown2) ⟨w.heap.size + 1, 0, Option.none⟩ 1 1 [.int .i64 x.id, .string x.sp, .string x.nm] rfl rfl (by exact hcs) (by simp [Value.oneCell']) (by decide) (by unfold maxLen; omega) (by omega) (Nat.zero_le _) _ rfl ?_; intro g cap w1 hown1 hgr hat hlt; obtain ⟨hc1, hf1⟩ := grown_far hgr hW hblt hne 0; rw [hc] at hc1; rw [hf] at hf1)
  all_goals
    go_end0
    exact push_done HS.out hlen hW g cap hown1 hgr (hat.imp id (by simp; omega))
end Go.Proofs.YtibfiblajicdpaaDoor
