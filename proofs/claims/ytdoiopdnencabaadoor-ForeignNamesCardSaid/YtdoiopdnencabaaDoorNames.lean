/- Laws for ForeignNames and ForeignOnce: what is written is written once for all; a slice in blocks from .. to ... -/
import Derived.Test.YtdoiopdnencabaaDoorFo
namespace Go.Proofs.YtdoiopdnencabaaDoor
open Go Go.RowKit

/-! ### once for all -/
def stillW (fs : List (List UInt8)) : Bool := fs.all fun f => (fs.find? (isW f)).isNone
set_option maxRecDepth 100000 in
theorem tagsStill : stillW (split32 [] tagsW.data.toList) = true := by decide +kernel
set_option maxRecDepth 100000 in
theorem attrsStill : stillW (split32 [] attrsW.data.toList) = true := by decide +kernel

theorem great_twice {ws : ByteArray} (h : stillW (split32 [] ws.data.toList) = true) (nm : ByteArray) : greatB (greatB nm ws) ws = greatB nm ws := by
  unfold greatB
  simp only [greatL_split]
  cases hf : (split32 [] ws.data.toList).find? (isW nm.data.toList) with
  | none =>
    have e : firstW nm.data.toList (split32 [] ws.data.toList) = nm.data.toList := by unfold firstW; rw [hf]
    rw [e]
    simp only [e]
  | some f =>
    have e : firstW nm.data.toList (split32 [] ws.data.toList) = f := by unfold firstW; rw [hf]
    have hm := List.mem_of_find?_eq_some hf
    have hn := List.all_eq_true.1 h f hm
    have e2 : firstW f (split32 [] ws.data.toList) = f := by
      unfold firstW
      cases hg : (split32 [] ws.data.toList).find? (isW f) with
      | none => rfl
      | some g => rw [hg] at hn; cases hn
    rw [e]
    simp only [e2]

theorem tag_twice (sp nm : ByteArray) : tagB sp (tagB sp nm) = tagB sp nm := by
  unfold tagB
  cases (sp.toList == [115, 118, 103])
  · rfl
  · simp only [if_true]
    exact great_twice tagsStill nm

theorem low_twice (sp nm : ByteArray) : lowName sp (lowName sp nm) = lowName sp nm := by
  unfold lowName
  cases (sp.toList == [115, 118, 103])
  · cases (sp.toList == [109, 97, 116, 104])
    · rfl
    · simp only [Bool.false_eq_true, if_false, true_and]
      cases h : (nm.toList == ([100, 101, 102, 105, 110, 105, 116, 105, 111, 110, 117, 114, 108] : List UInt8))
      · simp [h]
      · have : (urlW.toList == ([100, 101, 102, 105, 110, 105, 116, 105, 111, 110, 117, 114, 108] : List UInt8)) = false := by decide +kernel
        simp [this]
  · simp only [if_true]
    exact great_twice attrsStill nm

theorem cutA_ne {n : ByteArray} (h : spaceT n = true) : (cutA n).toList.isEmpty = false := by
  rcases space_is h with h | h | h
  · rw [(big_is h).2.1]; decide +kernel
  · rw [(xml_is h).2.1]; decide +kernel
  · rw [(ns_is h).2.1]; decide +kernel

theorem attr_twice (sp : ByteArray) (x : At) : attrA sp (attrA sp x) = attrA sp x := by
  obtain ⟨xs, nm, va⟩ := x
  cases h0 : xs.toList.isEmpty
  · have e : attrA sp ⟨xs, nm, va⟩ = ⟨xs, nm, va⟩ := by unfold attrA; rw [h0]; rfl
    rw [e, e]
  · have e : attrA sp ⟨xs, nm, va⟩ = spacedA ⟨xs, lowName sp nm, va⟩ := by unfold attrA; rw [h0]; rfl
    rw [e]
    cases h1 : spaceT (lowName sp nm)
    · cases h2 : ((lowName sp nm).toList == ([120, 109, 108, 110, 115] : List UInt8))
      · have e2 : spacedA ⟨xs, lowName sp nm, va⟩ = ⟨xs, lowName sp nm, va⟩ := by simp only [spacedA, h1, h2]; rfl
        rw [e2]
        unfold attrA
        rw [h0, if_pos rfl, low_twice]
        exact e2
      · have e2 : spacedA ⟨xs, lowName sp nm, va⟩ = ⟨lowName sp nm, lowName sp nm, va⟩ := by simp only [spacedA, h1, h2]; rfl
        rw [e2]
        unfold attrA
        have : (lowName sp nm).toList.isEmpty = false := by rw [eq_of_beq h2]; rfl
        rw [this]; rfl
    · have e2 : spacedA ⟨xs, lowName sp nm, va⟩ = ⟨cutA (lowName sp nm), cutB (lowName sp nm), va⟩ := by simp only [spacedA, h1]; rfl
      rw [e2]
      unfold attrA
      rw [show (At.mk (cutA (lowName sp nm)) (cutB (lowName sp nm)) va).sp.toList.isEmpty = false from cutA_ne h1]; rfl

theorem attr_va (sp : ByteArray) (x : At) : (attrA sp x).va = x.va := by
  unfold attrA spacedA
  split
  · split
    · rfl
    · split <;> rfl
  · rfl

theorem low_size (sp nm : ByteArray) (h : nm.size ≤ maxLen) : (lowName sp nm).size ≤ maxLen := by
  unfold lowName
  split
  · have := great_size attrsOk (nm := nm) (by unfold maxLen at h; omega)
    unfold maxLen; omega
  · split
    · decide
    · exact h
theorem cutB_size (n : ByteArray) : (cutB n).size ≤ n.size := by
  unfold cutB
  split
  · simp
  · exact Nat.zero_le _
theorem attr_size (sp : ByteArray) (x : At) (h : x.nm.size ≤ maxLen) : (attrA sp x).nm.size ≤ maxLen := by
  have h1 := low_size sp x.nm h
  have h2 := cutB_size (lowName sp x.nm)
  unfold attrA spacedA
  split
  · split
    · exact Nat.le_trans h2 h1
    · split <;> exact h1
  · exact h

/-! ### a slice whose block lies from lo on, ahead of hi -/
def OwnQ (w : World) (lo hi : Nat) (v : Value) (l : List At) : Prop :=
  (v = .slice none 0 0 ∧ l = []) ∨
  ∃ g cap cur, v = .slice (some ⟨g, 0, none⟩) l.length cap ∧ lo ≤ g ∧ g < hi ∧ w.heap[g]? = some (.cells cur 27 (0, 0)) ∧
    ∀ j x, l[j]? = some x → cur[j * 3]? = some (.string x.sp) ∧ cur[j * 3 + 1]? = some (.string x.nm) ∧ cur[j * 3 + 2]? = some (.string x.va)
theorem OwnQ.of {w : World} {lo : Nat} {v : Value} {l : List At} (h : OwnP w lo v l) : OwnQ w lo w.heap.size v l := by
  rcases h with h | ⟨g, cap, cur, e, h1, h2, h3⟩
  · exact .inl h
  · exact .inr ⟨g, cap, cur, e, h1, (Array.getElem?_eq_some_iff.1 h2).1, h2, h3⟩
theorem OwnQ.own {w : World} {lo hi : Nat} {v : Value} {l : List At} (h : OwnQ w lo hi v l) : OwnP w lo v l := by
  rcases h with h | ⟨g, cap, cur, e, h1, _, h2, h3⟩
  · exact .inl h
  · exact .inr ⟨g, cap, cur, e, h1, h2, h3⟩
theorem OwnQ.keep {w w' : World} {lo hi : Nat} {v : Value} {l : List At} (h : OwnQ w lo hi v l) (hk : ∀ i, lo ≤ i → i < hi → w'.heap[i]? = w.heap[i]?) : OwnQ w' lo hi v l := by
  rcases h with h | ⟨g, cap, cur, e, h1, h1', h2, h3⟩
  · exact .inl h
  · exact .inr ⟨g, cap, cur, e, h1, h1', (hk g h1 h1').trans h2, h3⟩

/-- all but what lies from lo on, ahead of hi, is as it was -/
structure Apart (lo hi : Nat) (w w' : World) : Prop where
  os : w'.os = w.os
  tape : w'.tape = w.tape
  output : w'.output = w.output
  size : w.heap.size ≤ w'.heap.size
  block : ∀ i, i < w.heap.size → ¬ (lo ≤ i ∧ i < hi) → w'.heap[i]? = w.heap[i]?
theorem Apart.refl (lo hi : Nat) (w : World) : Apart lo hi w w := ⟨rfl, rfl, rfl, Nat.le_refl _, fun _ _ _ => rfl⟩
theorem Apart.setCell {lo hi : Nat} {w w' : World} (h : Apart lo hi w w') {g j : Nat} (h1 : lo ≤ g) (h2 : g < hi) (u : Value) : Apart lo hi w (w'.setCell ⟨g, j, none⟩ u) := by
  refine ⟨h.os, h.tape, h.output, ?_, fun i hi' hn => ?_⟩
  · have : (w'.setCell ⟨g, j, none⟩ u).heap.size = w'.heap.size := by simp [World.setCell]
    rw [this]; exact h.size
  · rw [Below.heap_setCell _ _ _ _ (by rintro rfl; exact hn ⟨h1, h2⟩)]
    exact h.block i hi' hn
theorem Apart.below {lo hi : Nat} {w w' : World} (h : Apart lo hi w w') {B : Nat} (hB : B ≤ lo) (hw : B ≤ w.heap.size) : Below B w w' :=
  ⟨h.os, h.tape, h.output, h.size, fun k hk => h.block k (by omega) (fun ⟨h1, _⟩ => by omega)⟩

/-- one cell of an own slice, written -/
theorem OwnQ.set1 {w : World} {lo hi g cap : Nat} {l : List At} {n : Nat} (h : OwnQ w lo hi (.slice (some ⟨g, 0, none⟩) n cap) l) (k : Nat) (hk : k < l.length) (u : ByteArray) :
    OwnQ (w.setCell ⟨g, k * 3 + 1, none⟩ (.string u)) lo hi (.slice (some ⟨g, 0, none⟩) n cap) (l.set k ⟨l[k].sp, u, l[k].va⟩) := by
  rcases h with ⟨h, _⟩ | ⟨g', cap', cur, he, h1, h1', h2, h3⟩
  · cases h
  · cases he
    refine .inr ⟨g, cap, _, by simp, h1, h1', setCell_heap h2 _, fun j y hy => ?_⟩
    have hin : k * 3 + 2 < cur.size := by
      obtain ⟨_, _, e2⟩ := h3 k l[k] (by simp [hk])
      exact (Array.getElem?_eq_some_iff.1 e2).1
    by_cases hj : k = j
    · subst hj
      simp only [List.getElem?_set_self hk, Option.some.injEq] at hy
      subst hy
      obtain ⟨e0, e1, e2⟩ := h3 k l[k] (by simp [hk])
      refine ⟨?_, ?_, ?_⟩
      · rw [← e0, Array.getElem?_setIfInBounds, if_neg (by omega)]
      · rw [Array.getElem?_setIfInBounds, if_pos rfl, if_pos (by omega)]
      · rw [← e2, Array.getElem?_setIfInBounds, if_neg (by omega)]
    · rw [List.getElem?_set_ne hj] at hy
      obtain ⟨e0, e1, e2⟩ := h3 j y hy
      refine ⟨?_, ?_, ?_⟩
      · rw [← e0, Array.getElem?_setIfInBounds, if_neg (by omega)]
      · rw [← e1, Array.getElem?_setIfInBounds, if_neg (by omega)]
      · rw [← e2, Array.getElem?_setIfInBounds, if_neg (by omega)]
theorem sameB_refl (l : List At) : sameB l l = true := (sameB_is l l).2 rfl
end Go.Proofs.YtdoiopdnencabaaDoor
