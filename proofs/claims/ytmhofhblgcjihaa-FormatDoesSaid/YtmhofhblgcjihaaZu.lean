/- The plain law of a list of formatting elements: what stands behind the last marker. -/
import Derived.Test.YtmhofhblgcjihaaZt
import Derived.Test.YtmhofhblgcjihaaZn
namespace Go.Proofs.Ytmhofhblgcjihaa
open Go Go.RowKit Go.Shelf

/-- ends with a marker, or is empty -/
def Mk (A : List Ab) : Prop := A = [] ∨ ∃ A' m, A = A' ++ [m] ∧ noMark m = false
def NoM (B : List Ab) : Prop := ∀ x ∈ B, noMark x = true

theorem takeWhile_all {α : Type} (p : α → Bool) (l r : List α) (h : ∀ x ∈ l, p x = true) : (l ++ r).takeWhile p = l ++ r.takeWhile p := by
  induction l with
  | nil => rfl
  | cons x l ih => simp [h x (by simp), ih (fun y hy => h y (by simp [hy]))]

theorem base_split {A B : List Ab} (hA : Mk A) (hB : NoM B) : baseN (A ++ B) = A.length := by
  unfold baseN cntTop
  rw [List.reverse_append, takeWhile_all noMark B.reverse A.reverse (fun x hx => hB x (by simpa using hx))]
  rcases hA with rfl | ⟨A', m, rfl, hm⟩
  · simp
  · simp [hm]; omega

theorem split_all (l : List Ab) : ∃ A B, l = A ++ B ∧ Mk A ∧ NoM B := by
  have key : ∀ r : List Ab, ∃ A B, r.reverse = A ++ B ∧ Mk A ∧ NoM B := by
    intro r
    induction r with
    | nil => exact ⟨[], [], rfl, .inl rfl, fun x h => by simp at h⟩
    | cons x r ih =>
      obtain ⟨A, B, h1, h2, h3⟩ := ih
      rw [List.reverse_cons, h1]
      cases hx : noMark x
      · exact ⟨A ++ B ++ [x], [], by simp, .inr ⟨_, x, rfl, hx⟩, fun x h => by simp at h⟩
      · refine ⟨A, B ++ [x], by simp, h2, fun y hy => ?_⟩
        rcases List.mem_append.1 hy with h | h
        · exact h3 y h
        · simp at h; rw [h]; exact hx
  have := key l.reverse
  rwa [List.reverse_reverse] at this

theorem take_base {A B : List Ab} (hA : Mk A) (hB : NoM B) : (A ++ B).take (baseN (A ++ B)) = A := by rw [base_split hA hB]; simp
theorem drop_base {A B : List Ab} (hA : Mk A) (hB : NoM B) : (A ++ B).drop (baseN (A ++ B)) = B := by rw [base_split hA hB]; simp

/-- the oldest of three that are so is gone -/
def remF (q : Ab → Bool) (B : List Ab) : List Ab := if 3 ≤ B.countP q then B.eraseP q else B

theorem idxs_len_hi (P : Ab → Bool) (A B : List Ab) (k : Nat) (hk : k ≤ B.length) : idxs P (A ++ B) A.length (A.length + k) = ((List.range k).filter fun j => match B[j]? with | some x => P x | Option.none => false).map (A.length + ·) := by
  induction k with
  | zero => exact idxs_lo P (A ++ B) A.length
  | succ k ih =>
    rw [← Nat.add_assoc, idxs_succ P (A ++ B) A.length (A.length + k) (by omega) (by simp; omega), ih (by omega), List.range_succ, List.filter_append, List.map_append]
    congr 1
    have hkb : k < B.length := by omega
    rw [List.getElem_append_right (Nat.le_add_right _ _)]
    simp only [List.filter_cons, List.filter_nil, List.getElem?_eq_getElem hkb, Nat.add_sub_cancel_left]
    cases P B[k] <;> simp

theorem filter_range_len (P : Ab → Bool) (B : List Ab) : ((List.range B.length).filter fun j => match B[j]? with | some x => P x | Option.none => false).length = B.countP P := by
  induction B with
  | nil => rfl
  | cons x B ih =>
    rw [List.length_cons, List.range_succ_eq_map, List.filter_cons, List.countP_cons, List.filter_map]
    have e : ((fun j => match (x :: B)[j]? with | some x => P x | Option.none => false) ∘ Nat.succ) = fun j => match B[j]? with | some x => P x | Option.none => false := by
      funext j; simp
    rw [e]
    cases h : P x <;> simp [h, ih]

theorem filter_range_head (P : Ab → Bool) (B : List Ab) (h : 0 < B.countP P) : B.eraseIdx (((List.range B.length).filter fun j => match B[j]? with | some x => P x | Option.none => false).headD 0) = B.eraseP P := by
  induction B with
  | nil => simp at h
  | cons x B ih =>
    rw [List.length_cons, List.range_succ_eq_map, List.filter_cons, List.filter_map]
    have e : ((fun j => match (x :: B)[j]? with | some x => P x | Option.none => false) ∘ Nat.succ) = fun j => match B[j]? with | some x => P x | Option.none => false := by
      funext j; simp
    rw [e]
    cases hx : P x
    · rw [List.countP_cons, hx] at h
      have h2 := ih (by simpa using h)
      have hl := filter_range_len P B
      generalize hg : ((List.range B.length).filter fun j => match B[j]? with | some x => P x | Option.none => false) = g at *
      cases g with
      | nil => rw [← hl] at h; simp at h
      | cons a g => simp [hx] at h2 ⊢; exact h2
    · simp [hx]

theorem erase_right {A B : List Ab} (i : Nat) : (A ++ B).eraseIdx (A.length + i) = A ++ B.eraseIdx i := by
  rw [List.eraseIdx_append_of_length_le (by omega), Nat.add_sub_cancel_left]

theorem pushB_split {A B : List Ab} (hA : Mk A) (hB : NoM B) (e : El) (ats : List At) : pushB (A ++ B) e ats = A ++ (remF (alikeB e (sortA ats)) B ++ [⟨e, ats⟩]) := by
  unfold pushB remF
  generalize alikeB e (sortA ats) = P
  have h := idxs_len_hi P A B B.length (Nat.le_refl _)
  rw [base_split hA hB, List.length_append, h, List.length_map, filter_range_len, ← List.append_assoc]
  congr 1
  by_cases h3 : 3 ≤ B.countP P
  · rw [if_pos h3, if_pos h3]
    have h2 := filter_range_head P B (by omega)
    have hl := filter_range_len P B
    generalize hg : ((List.range B.length).filter fun j => match B[j]? with | some x => P x | Option.none => false) = g at *
    cases g with
    | nil => simp at hl; omega
    | cons a g =>
      rw [List.map_cons, List.headD_cons, erase_right]
      rw [List.headD_cons] at h2
      rw [h2]
  · rw [if_neg h3, if_neg h3]

theorem clearB_split {A B : List Ab} (hA : Mk A) (hB : NoM B) : clearB (A ++ B) = A.dropLast := by
  unfold clearB
  rw [base_split hA hB, List.dropLast_eq_take]
  rcases hA with rfl | ⟨A', m, rfl, hm⟩
  · simp
  · rw [List.take_append_of_le_length (by simp)]

theorem findB_split {A B : List Ab} (hA : Mk A) (hB : NoM B) (nm : ByteArray) : findB nm (A ++ B) = B.reverse.find? fun x => x.el.nm.toList == nm.toList := by
  unfold findB
  rw [drop_base hA hB]

theorem NoM.snoc {B : List Ab} {x : Ab} (h : NoM B) (hx : ¬ x.el.id = 0) : NoM (B ++ [x]) := fun y hy => by
  rcases List.mem_append.1 hy with h1 | h1
  · exact h y h1
  · simp at h1; rw [h1]; simpa [noMark] using hx
theorem NoM.remF {B : List Ab} {q : Ab → Bool} (h : NoM B) : NoM (remF q B) := fun y hy => by
  unfold Proofs.Ytmhofhblgcjihaa.remF at hy
  split at hy
  · exact h y (List.mem_of_mem_eraseP hy)
  · exact h y hy
theorem mem_remF {B : List Ab} {q : Ab → Bool} {x : Ab} (h : x ∈ remF q B) : x ∈ B := by
  unfold Proofs.Ytmhofhblgcjihaa.remF at h
  split at h
  · exact List.mem_of_mem_eraseP h
  · exact h
theorem Mk.mark (A B : List Ab) : Mk (A ++ B ++ [Ab.none]) := .inr ⟨_, Ab.none, rfl, rfl⟩

theorem sortA_nil : sortA [] = [] := by simp [sortA]
theorem sortA_one (a : At) : sortA [a] = [a] := by simp [sortA]
theorem sortA_small {l : List At} (h : l.length ≤ 1) : sortA l = l := by
  match l, h with
  | [], _ => exact sortA_nil
  | [a], _ => exact sortA_one a

/-- a push where all lists of attributes are of at most one: by words that the kernel computes -/
def alikeS (e : El) (ats : List At) (x : Ab) : Bool := (x.el.sp.toList == e.sp.toList) && ((x.el.nm.toList == e.nm.toList) && sameL x.ats ats)
def pushS (l : List Ab) (e : El) (ats : List At) : List Ab :=
  (if 3 ≤ (idxs (alikeS e ats) l (baseN l) l.length).length then l.eraseIdx ((idxs (alikeS e ats) l (baseN l) l.length).headD 0) else l) ++ [⟨e, ats⟩]

theorem alike_small {e : El} {ats : List At} {x : Ab} (h1 : ats.length ≤ 1) (h2 : x.ats.length ≤ 1) : alikeB e (sortA ats) x = alikeS e ats x := by
  unfold alikeB alikeS
  rw [sortA_small h1, sortA_small h2]

theorem pushB_small {l : List Ab} {e : El} {ats : List At} (h1 : ats.length ≤ 1) (h2 : ∀ x ∈ l, x.ats.length ≤ 1) : pushB l e ats = pushS l e ats := by
  have key : ∀ lo hi, idxs (alikeB e (sortA ats)) l lo hi = idxs (alikeS e ats) l lo hi := by
    intro lo hi
    unfold idxs
    congr 1
    funext j
    cases hj : l[j]? with
    | none => rfl
    | some x => simp only; rw [alike_small h1 (h2 x (List.mem_of_getElem? hj))]
  unfold pushB pushS
  rw [key]
end Go.Proofs.Ytmhofhblgcjihaa
