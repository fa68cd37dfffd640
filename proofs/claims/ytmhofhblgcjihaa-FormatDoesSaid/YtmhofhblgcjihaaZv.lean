/- A list of the call's own; what works says. -/
import Derived.Test.YtmhofhblgcjihaaZu
namespace Go.Proofs.Ytmhofhblgcjihaa
open Go Go.RowKit Go.Shelf

/-- a list that the call made: it and all that it lies in is younger than w -/
structure St (w : World) (b : Nat) (l : List Ab) (W : World) : Prop where
  ex : ∃ v es, es.map En.ab = l ∧ Raw W b v es ∧ ∀ k, fp b v k → w.heap.size ≤ k
  below : Below w.heap.size w W

theorem St.step {w W W' : World} {b : Nat} {l l' : List Ab} {v : Value} {es : List En} {e0 e : Ending} (h : St w b l W) (hf : ∀ k, fp b v k → w.heap.size ≤ k) (hm : MPost b v es W e0 l' e W') : e = e0 ∧ St w b l' W' := by
  obtain ⟨rfl, v', es', h1, h2, h3, h4, _⟩ := hm
  refine ⟨rfl, ⟨v', es', h1, h2, fun k hk => (h4 k hk).elim (hf k) (fun hle => Nat.le_trans h.below.size hle)⟩, ?_⟩
  exact h.below.trans (h3.below h.below.size hf)

theorem St.go {w W W' : World} {b : Nat} {l : List Ab} (h : St w b l W) (hb : Below W.heap.size W W') : St w b l W' := by
  obtain ⟨v, es, h0, h1, h2⟩ := h.ex
  exact ⟨⟨v, es, h0, h1.below hb, h2⟩, h.below.trans (hb.mono h.below.size)⟩

theorem St.len {w W : World} {b : Nat} {l : List Ab} (h : St w b l W) : l.length ≤ 1000000 := by
  obtain ⟨v, es, h0, h1, h2⟩ := h.ex
  rw [← h0, List.length_map]; exact h1.len

theorem St.new {w W : World} {l : List Ab} (hb : Below w.heap.size w W) (T : TypeId) (hl : l = []) : St w W.heap.size l (W.alloc (.cells #[.slice Option.none 0 0] T)) := by
  subst hl
  refine ⟨⟨.slice Option.none 0 0, [], rfl, ⟨⟨T, heap_alloc_new W _⟩, World.ownsRow_nil _ _ _ _, by simp [Value.ownBlock], by simp, fun x h => by simp at h, fun x h => by simp at h, fun x h => by simp at h⟩, ?_⟩, hb.alloc hb.size _⟩
  rintro k (rfl | hk)
  · exact hb.size
  · simp [Value.ownBlock] at hk

theorem st_push {w W0 W : World} {b : Nat} {l : List Ab} (h : St w b l W0) (hb : Below W0.heap.size W0 W) (e : El) (va : Value) (attrs : List At) (ha : AtsAt W va attrs) (hoff : 0 < attrs.length → ∀ q o n c, va = .slice (some ⟨q, o, Option.none⟩) n c → W0.heap.size ≤ q) (hsm : attrs.length * 48 ≤ 140737488355328) (hlen : l.length < 900000) (l' : List Ab) (hl : pushB l e attrs = l') :
    Calls Try.prog 10 #[.pointer (some ⟨b, 0, Option.none⟩), .agg #[.int .i64 e.id, .string e.sp, .string e.nm], va] W fun e' W' => e' = .returned (.tuple #[]) ∧ St w b l' W' := by
  have h' := h.go hb
  obtain ⟨v, es, rfl, h1, h2⟩ := h.ex
  rw [List.length_map] at hlen
  refine (push_any b v es e va attrs W (h1.below hb) ha (fun hn q o n c hq hf => ?_) hsm hlen).mono fun e' W' hm => ?_
  · have := hoff hn q o n c hq
    have := h1.lt q hf
    omega
  · rw [hl] at hm
    exact h'.step h2 hm

theorem st_push0 {w W : World} {b : Nat} {l : List Ab} (h : St w b l W) (e : El) (hlen : l.length < 900000) (l' : List Ab) (hl : pushB l e [] = l') :
    Calls Try.prog 10 #[.pointer (some ⟨b, 0, Option.none⟩), .agg #[.int .i64 e.id, .string e.sp, .string e.nm], .slice Option.none 0 0] W fun e' W' => e' = .returned (.tuple #[]) ∧ St w b l' W' :=
  st_push h (Below.refl _ _) e _ [] (.inl ⟨rfl, _, _, rfl⟩) (fun h => by simp at h) (by simp) hlen l' hl

theorem st_mark {w W : World} {b : Nat} {l : List Ab} (h : St w b l W) (hlen : l.length < 900000) (l' : List Ab) (hl : l ++ [Ab.none] = l') :
    Calls Try.prog 8 #[.pointer (some ⟨b, 0, Option.none⟩)] W fun e' W' => e' = .returned (.tuple #[]) ∧ St w b l' W' := by
  obtain ⟨v, es, h0, h1, h2⟩ := h.ex
  rw [← h0, List.length_map] at hlen
  refine (mark_any b v es W h1 hlen).mono fun e' W' hm => ?_
  rw [h0, hl] at hm
  exact h.step h2 hm

theorem st_clear {w W : World} {b : Nat} {l : List Ab} (h : St w b l W) (l' : List Ab) (hl : clearB l = l') :
    Calls Try.prog 16 #[.pointer (some ⟨b, 0, Option.none⟩)] W fun e' W' => e' = .returned (.tuple #[]) ∧ St w b l' W' := by
  obtain ⟨v, es, h0, h1, h2⟩ := h.ex
  refine (clear_any b v es W h1).mono fun e' W' hm => ?_
  rw [h0, hl] at hm
  exact h.step h2 hm

theorem st_len {w W : World} {b : Nat} {l : List Ab} (h : St w b l W) (n : Nat) (hn : l.length = n) :
    Calls Try.prog 13 #[.pointer (some ⟨b, 0, Option.none⟩)] W fun e W' => e = .returned (.int .i64 n) ∧ W = W' := by
  obtain ⟨v, es, rfl, h1, h2⟩ := h.ex
  rw [← hn, List.length_map]
  exact len_any b v es W h1

theorem st_index {w W : World} {b : Nat} {l : List Ab} (h : St w b l W) (id : Int) (c : Int) (hc : idxB l id = c) :
    Calls Try.prog 19 #[.pointer (some ⟨b, 0, Option.none⟩), .int .i64 id] W fun e W' => e = .returned (.int .i64 c) ∧ Below W.heap.size W W' := by
  obtain ⟨v, es, rfl, h1, h2⟩ := h.ex
  rw [← hc]
  exact index_any b v es id W h1

theorem st_lost {w W : World} {b : Nat} {l : List Ab} (h : St w b l W) (ov : Value) (op : List Int) (ho : IntsAt W ov op) (n : Nat) (hn : lostN op l = n) :
    Calls Try.prog 15 #[.pointer (some ⟨b, 0, Option.none⟩), ov] W fun e W' => e = .returned (.int .i64 n) ∧ Below W.heap.size W W' := by
  obtain ⟨v, es, rfl, h1, h2⟩ := h.ex
  rw [← hn]
  exact lost_any b v es ov op W h1 ho

theorem st_remove {w W : World} {b : Nat} {l : List Ab} (h : St w b l W) (id : Int) (c : Int) (l' : List Ab) (hc : remC l id = c) (hl : remL l id = l') :
    Calls Try.prog 20 #[.pointer (some ⟨b, 0, Option.none⟩), .int .i64 id] W fun e W' => e = .returned (.int .i64 c) ∧ St w b l' W' := by
  obtain ⟨v, es, h0, h1, h2⟩ := h.ex
  refine (remove_any b v es id W h1).mono fun e' W' hm => ?_
  rw [h0, hl, hc] at hm
  exact h.step h2 hm

theorem st_find {w W : World} {b : Nat} {l : List Ab} (h : St w b l W) (nm : ByteArray) (r : Option Ab) (hr : findB nm l = r) :
    Calls Try.prog 11 #[.pointer (some ⟨b, 0, Option.none⟩), .string nm] W (FindPost r W) := by
  obtain ⟨v, es, rfl, h1, h2⟩ := h.ex
  rw [← hr]
  exact find_any b v es nm W h1

theorem st_find_some {w W : World} {b : Nat} {l : List Ab} (h : St w b l W) (nm : ByteArray) (x : Ab) (hr : findB nm l = some x) :
    Calls Try.prog 11 #[.pointer (some ⟨b, 0, Option.none⟩), .string nm] W (OutPost x #[.bool true] W) := st_find h nm _ hr
theorem st_find_none {w W : World} {b : Nat} {l : List Ab} (h : St w b l W) (nm : ByteArray) (hr : findB nm l = Option.none) :
    Calls Try.prog 11 #[.pointer (some ⟨b, 0, Option.none⟩), .string nm] W (OutPost Ab.none #[.bool false] W) := st_find h nm _ hr

theorem st_at {w W : World} {b : Nat} {l : List Ab} (h : St w b l W) (i : Nat) (x : Ab) (hx : l[i]? = some x) :
    Calls Try.prog 12 #[.pointer (some ⟨b, 0, Option.none⟩), .int .i64 i] W (OutPost x #[.int .i64 0] W) := by
  obtain ⟨v, es, rfl, h1, h2⟩ := h.ex
  obtain ⟨hi, he⟩ := List.getElem?_eq_some_iff.1 hx
  rw [List.getElem_map] at he
  rw [List.length_map] at hi
  rw [← he]
  exact at_in b v es i W h1 hi

def htmlS : ByteArray := (⟨#[104, 116, 109, 108]⟩ : ByteArray)

set_option maxHeartbeats 400000 in
theorem elem_any (id : Int) (nm : ByteArray) (w : World) :
    Calls Try.prog 9 #[.int .i64 id, .string nm] w fun e w' => e = .returned (.agg #[.int .i64 id, .string (⟨#[104, 116, 109, 108]⟩ : ByteArray), .string nm]) ∧ Below w.heap.size w w' := by
  go_enter Try.func9, Try.ntmps9
  go_wp2
  refine bodyPost_ret (v := .agg #[.int .i64 id, .string (⟨#[104, 116, 109, 108]⟩ : ByteArray), .string nm]) (by simp [results, Try.results9, go_sem]) rfl ⟨rfl, ?_⟩
  first | exact Below.refl _ _ | exact (Below.refl _ _).alloc (Nat.le_refl _) _
end Go.Proofs.Ytmhofhblgcjihaa
