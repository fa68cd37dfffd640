/- A list that was there, and what the call keeps of all else; the plain law of FormatClears. -/
import Derived.Test.YtmhofhblgcjihaaYb
namespace Go.Proofs.Ytmhofhblgcjihaa
open Go Go.RowKit Go.Shelf

/-- a list: of what was there in w0 only what S names may have turned -/
structure Sk (w0 : World) (S : Nat → Prop) (b : Nat) (l : List Ab) (W : World) : Prop where
  ex : ∃ v es, es.map En.ab = l ∧ Raw W b v es ∧ ∀ k, fp b v k → S k ∨ w0.heap.size ≤ k
  keeps : Keeps S w0 W

theorem Sk.step {w0 W W' : World} {S : Nat → Prop} {b : Nat} {l l' : List Ab} {v : Value} {e0 e : Ending} (h : Sk w0 S b l W) (hf : ∀ k, fp b v k → S k ∨ w0.heap.size ≤ k) (hm : MPost b v W e0 l' e W') : e = e0 ∧ Sk w0 S b l' W' := by
  obtain ⟨rfl, v', es', h1, h2, h3, h4⟩ := hm
  exact ⟨rfl, ⟨v', es', h1, h2, fun k hk => (h4 k hk).elim (hf k) (fun hle => .inr (Nat.le_trans h.keeps.size hle))⟩, h.keeps.trans' h3 hf⟩

theorem Sk.go {w0 W W' : World} {S : Nat → Prop} {b : Nat} {l : List Ab} (h : Sk w0 S b l W) (hb : Below W.heap.size W W') : Sk w0 S b l W' := by
  obtain ⟨v, es, h0, h1, h2⟩ := h.ex
  exact ⟨⟨v, es, h0, h1.below hb, h2⟩, h.keeps.trans (.of_below hb)⟩

theorem Sk.len {w0 W : World} {S : Nat → Prop} {b : Nat} {l : List Ab} (h : Sk w0 S b l W) : l.length ≤ 1000000 := by
  obtain ⟨v, es, h0, h1, h2⟩ := h.ex
  rw [← h0, List.length_map]; exact h1.len

/-- from now on -/
theorem St.sk {w W : World} {b : Nat} {l : List Ab} (h : St w b l W) : ∃ S, Sk W S b l W ∧ (∀ k, S k → w.heap.size ≤ k ∧ k < W.heap.size) ∧ ∀ W', Keeps S W W' → Below w.heap.size w W' := by
  obtain ⟨v, es, h0, h1, h2⟩ := h.ex
  refine ⟨fp b v, ⟨⟨v, es, h0, h1, fun k hk => .inl hk⟩, Keeps.refl _ _⟩, fun k hk => ⟨h2 k hk, h1.lt k hk⟩, fun W' hk => h.below.trans (hk.below h.below.size h2)⟩

theorem sk_push0 {w0 W : World} {S : Nat → Prop} {b : Nat} {l : List Ab} (h : Sk w0 S b l W) (e : El) (hlen : l.length < 900000) (l' : List Ab) (hl : pushB l e [] = l') :
    Calls Try.prog 10 #[.pointer (some ⟨b, 0, Option.none⟩), .agg #[.int .i64 e.id, .string e.sp, .string e.nm], .slice Option.none 0 0] W fun e' W' => e' = .returned (.tuple #[]) ∧ Sk w0 S b l' W' := by
  obtain ⟨v, es, h0, h1, h2⟩ := h.ex
  rw [← h0, List.length_map] at hlen
  refine (push_any b v es e _ [] W h1 (.inl ⟨rfl, _, _, rfl⟩) (fun h => by simp at h) (by simp) hlen).mono fun e' W' hm => ?_
  rw [h0, hl] at hm
  exact h.step h2 hm

theorem sk_mark {w0 W : World} {S : Nat → Prop} {b : Nat} {l : List Ab} (h : Sk w0 S b l W) (hlen : l.length < 900000) (l' : List Ab) (hl : l ++ [Ab.none] = l') :
    Calls Try.prog 8 #[.pointer (some ⟨b, 0, Option.none⟩)] W fun e' W' => e' = .returned (.tuple #[]) ∧ Sk w0 S b l' W' := by
  obtain ⟨v, es, h0, h1, h2⟩ := h.ex
  rw [← h0, List.length_map] at hlen
  refine (mark_any b v es W h1 hlen).mono fun e' W' hm => ?_
  rw [h0, hl] at hm
  exact h.step h2 hm

theorem sk_clear {w0 W : World} {S : Nat → Prop} {b : Nat} {l : List Ab} (h : Sk w0 S b l W) (l' : List Ab) (hl : clearB l = l') :
    Calls Try.prog 16 #[.pointer (some ⟨b, 0, Option.none⟩)] W fun e' W' => e' = .returned (.tuple #[]) ∧ Sk w0 S b l' W' := by
  obtain ⟨v, es, h0, h1, h2⟩ := h.ex
  refine (clear_any b v es W h1).mono fun e' W' hm => ?_
  rw [h0, hl] at hm
  exact h.step h2 hm

theorem sk_len {w0 W : World} {S : Nat → Prop} {b : Nat} {l : List Ab} (h : Sk w0 S b l W) (c : Int) (hc : (l.length : Int) = c) :
    Calls Try.prog 13 #[.pointer (some ⟨b, 0, Option.none⟩)] W fun e W' => e = .returned (.int .i64 c) ∧ W = W' := by
  obtain ⟨v, es, rfl, h1, h2⟩ := h.ex
  rw [← hc, List.length_map]
  exact len_any b v es W h1

theorem sk_lost {w0 W : World} {S : Nat → Prop} {b : Nat} {l : List Ab} (h : Sk w0 S b l W) (ov : Value) (op : List Int) (ho : IntsAt W ov op) (c : Int) (hc : (lostN op l : Int) = c) :
    Calls Try.prog 15 #[.pointer (some ⟨b, 0, Option.none⟩), ov] W fun e W' => e = .returned (.int .i64 c) ∧ Sk w0 S b l W' := by
  have h' := h
  obtain ⟨v, es, rfl, h1, h2⟩ := h.ex
  rw [← hc]
  exact (lost_any b v es ov op W h1 ho).mono fun e W' ⟨h3, h4⟩ => ⟨h3, h'.go h4⟩

theorem sk_at {w0 W : World} {S : Nat → Prop} {b : Nat} {l : List Ab} (h : Sk w0 S b l W) (i : Nat) (x : Ab) (hx : l[i]? = some x) :
    Calls Try.prog 12 #[.pointer (some ⟨b, 0, Option.none⟩), .int .i64 i] W (OutPost x #[.int .i64 0] W) := by
  obtain ⟨v, es, rfl, h1, h2⟩ := h.ex
  obtain ⟨hi, he⟩ := List.getElem?_eq_some_iff.1 hx
  rw [List.getElem_map] at he
  rw [List.length_map] at hi
  rw [← he]
  exact at_in b v es i W h1 hi

theorem IntsAt.keeps {w w' : World} {S : Nat → Prop} {v : Value} {l : List Int} (h : IntsAt w v l) (hk : Keeps S w w') (hs : ∀ q o n c, v = .slice (some ⟨q, o, Option.none⟩) n c → ¬ S q) : IntsAt w' v l := by
  rcases h with h | ⟨b, off, c, rfl, hlt, h1, h2⟩
  · exact .inl h
  · have hb := hk.block b hlt (hs b off _ c rfl)
    exact .inr ⟨b, off, c, rfl, Nat.lt_of_lt_of_le hlt hk.size, h1, fun j x hj => (World.cell?_of_block (w := w) (a := ⟨b, off + j, Option.none⟩) hb).trans (h2 j x hj)⟩

def encI (l : List Int) : List Value := l.map fun x => .int .i64 x

theorem ints_of_row {w : World} {base : Nat} {v : Value} {l : List Int} (h : w.ownsRow base 3 1 v l.length (encI l)) (hl : l.length ≤ 9223372036854775807) : IntsAt w v l ∧ ∀ q o n c, v = .slice (some ⟨q, o, Option.none⟩) n c → base ≤ q := by
  rcases h.2 with ⟨rfl, hn⟩ | ⟨g, cap, cur, rfl, h1, h2, hcc, hmm, _, ht⟩
  · exact ⟨.inl ⟨List.eq_nil_of_length_eq_zero hn, _, _, rfl⟩, fun q o n c e => by cases e⟩
  · refine ⟨.inr ⟨g, 0, cap, rfl, (Array.getElem?_eq_some_iff.1 h2).1, hl, fun j x hj => ?_⟩, fun q o n c e => by cases e; exact h1⟩
    have hjl := (List.getElem?_eq_some_iff.1 hj).1
    rw [cell_of_row w g _ _ _ _ h2, Nat.zero_add]
    have h0 : (encI l)[j]? = some (.int .i64 x) := by simp [encI, hj]
    rw [← ht, List.getElem?_take, if_pos (by omega)] at h0
    simpa using h0

/-! ### the plain law -/
/-- elements of numbers that are small -/
def AInv (B : List Ab) : Prop := ∀ x ∈ B, 1 ≤ x.el.id ∧ x.el.id ≤ 300
theorem AInv.nom {B : List Ab} (h : AInv B) : NoM B := fun x hx => by have := h x hx; simp [noMark]; omega
theorem AInv.push {B : List Ab} (h : AInv B) (e : El) (he : 1 ≤ e.id ∧ e.id ≤ 300) : AInv (pushB B e []) ∧ (pushB B e []).length ≤ B.length + 1 := by
  have := pushB_split (A := []) (.inl rfl) h.nom e []
  rw [List.nil_append, List.nil_append] at this
  rw [this]
  refine ⟨fun x hx => ?_, ?_⟩
  · rcases List.mem_append.1 hx with h1 | h1
    · exact h x (mem_remF h1)
    · simp at h1; rw [h1]; exact he
  · have : (remF (alikeB e (sortA [])) B).length ≤ B.length := by
      unfold remF
      split
      · exact List.eraseP_sublist.length_le
      · exact Nat.le_refl _
    simp; omega

/-- elements of great numbers -/
def CInv (B : List Ab) : Prop := ∀ x ∈ B, 1000 ≤ x.el.id
theorem CInv.nom {B : List Ab} (h : CInv B) : NoM B := fun x hx => by have := h x hx; simp [noMark]; omega
theorem mk_one (L : List Ab) : Mk (L ++ [Ab.none]) := .inr ⟨L, Ab.none, rfl, rfl⟩
theorem CInv.push {L B : List Ab} (h : CInv B) (e : El) (he : 1000 ≤ e.id) : ∃ B', pushB ((L ++ [Ab.none]) ++ B) e [] = (L ++ [Ab.none]) ++ B' ∧ CInv B' ∧ B'.length ≤ B.length + 1 := by
  refine ⟨_, pushB_split (mk_one L) h.nom e [], fun x hx => ?_, ?_⟩
  · rcases List.mem_append.1 hx with h1 | h1
    · exact h x (mem_remF h1)
    · simp at h1; rw [h1]; exact he
  · have : (remF (alikeB e (sortA [])) B).length ≤ B.length := by
      unfold remF
      split
      · exact List.eraseP_sublist.length_le
      · exact Nat.le_refl _
    simp; omega

theorem CInv.clear {L B : List Ab} (h : CInv B) : clearB ((L ++ [Ab.none]) ++ B) = L := by
  rw [clearB_split (mk_one L) h.nom]; simp

theorem CInv.lost {L B : List Ab} (h : CInv B) (op : List Int) (hop : ∀ x ∈ op, x ≤ 300) : lostN op ((L ++ [Ab.none]) ++ B) = L.length + 1 := by
  unfold lostN cntTop
  rw [List.reverse_append, takeWhile_all (lostP op) B.reverse _ (fun x hx => ?_)]
  · have h0 : lostP op Ab.none = false := by simp [lostP, Ab.none, El.none]
    simp [h0]
    omega
  · have h1 := h x (by simpa using hx)
    have h2 : op.contains x.el.id = false := by
      rw [Bool.eq_false_iff]
      intro hc
      have := hop _ (by simpa using hc)
      omega
    have h3 : (x.el.id == 0) = false := by simpa using (by omega : ¬ x.el.id = 0)
    unfold lostP
    rw [h2, h3]; rfl

theorem AInv.lost {L : List Ab} (h : AInv L) : lostN (L.map fun x => x.el.id) L = L.length := by
  unfold lostN cntTop
  rcases List.eq_nil_or_concat L with rfl | ⟨L', x, rfl⟩
  · rfl
  · have h0 : lostP ((L'.concat x).map fun x => x.el.id) x = false := by simp [lostP]
    rw [List.concat_eq_append] at *
    generalize (L' ++ [x]).map (fun x => x.el.id) = op at *
    rw [List.reverse_append]
    simp [h0]
end Go.Proofs.Ytmhofhblgcjihaa
