/- Two lists side by side, and blocks of the caller's own that neither holds (those of wB from B on). -/
import Derived.Test.YtmhofhblgcjihaaWf
namespace Go.Proofs.Ytmhofhblgcjihaa
open Go Go.RowKit Go.Shelf

/-- none of the attributes lies in a block of S -/
def Off (S : Nat → Prop) (es : List En) : Prop := ∀ x ∈ es, 0 < x.ats.length → ∀ q o, x.a = some ⟨q, o, Option.none⟩ → ¬ S q

/-- the caller's own blocks -/
def Mine (wB : World) (B k : Nat) : Prop := B ≤ k ∧ k < wB.heap.size

structure Two (w0 wB : World) (B b1 b2 : Nat) (l1 l2 : List Ab) (W : World) : Prop where
  ex : ∃ v1 es1 v2 es2, es1.map En.ab = l1 ∧ es2.map En.ab = l2 ∧ Raw W b1 v1 es1 ∧ Raw W b2 v2 es2 ∧
    (∀ k, fp b1 v1 k → w0.heap.size ≤ k) ∧ (∀ k, fp b2 v2 k → w0.heap.size ≤ k) ∧ (∀ k, fp b1 v1 k → ¬ fp b2 v2 k) ∧
    Off (fp b2 v2) es1 ∧ Off (fp b1 v1) es2 ∧ ((∀ k, Mine wB B k → ¬ fp b1 v1 k) ∧ Off (Mine wB B) es1) ∧ ((∀ k, Mine wB B k → ¬ fp b2 v2 k) ∧ Off (Mine wB B) es2)
  below : Below w0.heap.size w0 W
  mine : ∀ k, Mine wB B k → W.heap[k]? = wB.heap[k]?
  size : wB.heap.size ≤ W.heap.size

theorem Two.swap {w0 wB W : World} {B b1 b2 : Nat} {l1 l2 : List Ab} (h : Two w0 wB B b1 b2 l1 l2 W) : Two w0 wB B b2 b1 l2 l1 W := by
  obtain ⟨v1, es1, v2, es2, h1, h2, h3, h4, h5, h6, h7, h8, h9, h10, h11⟩ := h.ex
  exact ⟨⟨v2, es2, v1, es1, h2, h1, h4, h3, h6, h5, fun k a b => h7 k b a, h9, h8, h11, h10⟩, h.below, h.mine, h.size⟩

theorem Two.go {w0 wB W W' : World} {B b1 b2 : Nat} {l1 l2 : List Ab} (h : Two w0 wB B b1 b2 l1 l2 W) (hb : Below W.heap.size W W') : Two w0 wB B b1 b2 l1 l2 W' := by
  obtain ⟨v1, es1, v2, es2, h1, h2, h3, h4, h5⟩ := h.ex
  exact ⟨⟨v1, es1, v2, es2, h1, h2, h3.below hb, h4.below hb, h5⟩, h.below.trans (hb.mono h.below.size), fun k hk => (hb.block k (Nat.lt_of_lt_of_le hk.2 h.size)).trans (h.mine k hk), Nat.le_trans h.size hb.size⟩

/-- the blocks that are made next lie in neither -/
theorem Raw.next {W Wn : World} {b : Nat} {v : Value} {es : List En} (h : Raw W b v es) : (∀ k, Mine Wn W.heap.size k → ¬ fp b v k) ∧ Off (Mine Wn W.heap.size) es := by
  refine ⟨fun k hk hf => ?_, fun x hx hn q o e hq => ?_⟩
  · have := h.lt k hf
    have := hk.1
    omega
  · have := (h.ats x hx).blk hn q o _ _ (by rw [e])
    have := hq.1
    omega

theorem Two.fresh {w0 wB W Wn : World} {B b1 b2 : Nat} {l1 l2 : List Ab} (h : Two w0 wB B b1 b2 l1 l2 W) (hb : Below W.heap.size W Wn) : Two w0 Wn W.heap.size b1 b2 l1 l2 Wn := by
  obtain ⟨v1, es1, v2, es2, h1, h2, h3, h4, h5, h6, h7, h8, h9, _, _⟩ := h.ex
  exact ⟨⟨v1, es1, v2, es2, h1, h2, h3.below hb, h4.below hb, h5, h6, h7, h8, h9, h3.next, h4.next⟩, h.below.trans (hb.mono h.below.size), fun _ _ => rfl, Nat.le_refl _⟩

/-- the caller writes into its own blocks -/
theorem Two.poke {w0 wB W W' : World} {B b1 b2 : Nat} {l1 l2 : List Ab} (h : Two w0 wB B b1 b2 l1 l2 W) (hB : w0.heap.size ≤ B) (hk : Keeps (Mine wB B) W W') : Two w0 W' W'.heap.size b1 b2 l1 l2 W' := by
  obtain ⟨v1, es1, v2, es2, h1, h2, h3, h4, h5, h6, h7, h8, h9, h10, h11⟩ := h.ex
  have k1 := h3.keeps hk (fun k a e => h10.1 k e a) h10.2
  have k2 := h4.keeps hk (fun k a e => h11.1 k e a) h11.2
  refine ⟨⟨v1, es1, v2, es2, h1, h2, k1, k2, h5, h6, h7, h8, h9, k1.next, k2.next⟩, ?_, fun _ _ => rfl, Nat.le_refl _⟩
  exact h.below.trans (hk.below h.below.size (fun k e => Nat.le_trans hB e.1))

/-- one call on the first list -/
theorem Two.call1 {w0 wB W : World} {B b1 b2 : Nat} {l1 l2 l1' : List Ab} {f : FuncId} {args : Array Value} {e0 : Ending} (h : Two w0 wB B b1 b2 l1 l2 W)
    (hc : ∀ v es, es.map En.ab = l1 → Raw W b1 v es → (∀ k, Mine wB B k → ¬ fp b1 v k) → (∀ k, fp b1 v k → w0.heap.size ≤ k) → Calls Try.prog f args W (MPostW b1 v es W e0 l1')) : Calls Try.prog f args W fun e W' => e = e0 ∧ Two w0 wB B b1 b2 l1' l2 W' := by
  obtain ⟨v1, es1, v2, es2, h1, h2, h3, h4, h5, h6, h7, h8, h9, h10, h11⟩ := h.ex
  have hle := h.below.size
  refine (hc v1 es1 h1 h3 h10.1 h5).mono ?_
  rintro e W' ⟨he, v1', es1', m1, m2, m3, m4, m5⟩
  have hfp : ∀ k, fp b1 v1' k → k < W.heap.size → fp b1 v1 k := fun k hk hlt => (m4 k hk).elim id (by omega)
  have hml : ∀ k, Mine wB B k → k < W.heap.size := fun k hk => Nat.lt_of_lt_of_le hk.2 h.size
  -- an elder block that the new attributes lie in is one that the elder ones lay in
  have hoff : ∀ S : Nat → Prop, (∀ k, S k → k < W.heap.size) → Off S es1 → Off S es1' := fun S hS ho x hx hn q o e hq => by
    rcases m5 x hx with ⟨y, hy, e1, e2⟩ | h
    · exact ho y hy (by rw [← e2]; exact hn) q o (by rw [← e1]; exact e) hq
    · have := h q o e; have := hS q hq; omega
  refine ⟨he, ⟨⟨v1', es1', v2, es2, m1, h2, m2, ?_, ?_, h6, ?_, ?_, ?_, ⟨fun k hk hg => h10.1 k hk (hfp _ hg (hml k hk)), hoff _ hml h10.2⟩, h11⟩, ?_, ?_, Nat.le_trans h.size m3.size⟩⟩
  · exact h4.keeps m3 (fun k a b => h7 k b a) (fun x hx hn q o e hq => h9 x hx hn q o e hq)
  · intro k hk
    rcases m4 k hk with h | h
    · exact h5 k h
    · omega
  · intro k hk hk2
    exact h7 k (hfp k hk (h4.lt k hk2)) hk2
  · exact hoff _ (fun k hk => h4.lt k hk) h8
  · intro x hx hn q o e hq
    have hq2 := (h4.ats x hx).blk hn q o _ _ (by rw [e])
    exact h9 x hx hn q o e (hfp q hq hq2)
  · exact h.below.trans (m3.below hle h5)
  · exact fun k hk => (m3.block k (hml k hk) (h10.1 k hk)).trans (h.mine k hk)

theorem Two.call2 {w0 wB W : World} {B b1 b2 : Nat} {l1 l2 l2' : List Ab} {f : FuncId} {args : Array Value} {e0 : Ending} (h : Two w0 wB B b1 b2 l1 l2 W)
    (hc : ∀ v es, es.map En.ab = l2 → Raw W b2 v es → (∀ k, Mine wB B k → ¬ fp b2 v k) → (∀ k, fp b2 v k → w0.heap.size ≤ k) → Calls Try.prog f args W (MPostW b2 v es W e0 l2')) : Calls Try.prog f args W fun e W' => e = e0 ∧ Two w0 wB B b1 b2 l1 l2' W' :=
  (Two.call1 h.swap hc).mono fun _ _ hm => ⟨hm.1, hm.2.swap⟩

/-- one look at the first list -/
theorem Two.read1 {w0 wB W : World} {B b1 b2 : Nat} {l1 l2 : List Ab} {f : FuncId} {args : Array Value} {Q : Ending → World → Prop} (h : Two w0 wB B b1 b2 l1 l2 W)
    (hc : ∀ v es, es.map En.ab = l1 → Raw W b1 v es → Calls Try.prog f args W Q) : Calls Try.prog f args W Q := by
  obtain ⟨v1, es1, v2, es2, h1, _, h3, _⟩ := h.ex
  exact hc v1 es1 h1 h3

theorem Two.read2 {w0 wB W : World} {B b1 b2 : Nat} {l1 l2 : List Ab} {f : FuncId} {args : Array Value} {Q : Ending → World → Prop} (h : Two w0 wB B b1 b2 l1 l2 W)
    (hc : ∀ v es, es.map En.ab = l2 → Raw W b2 v es → Calls Try.prog f args W Q) : Calls Try.prog f args W Q := Two.read1 h.swap hc

/-- both new -/
theorem Two.new {w W : World} (hb : Below w.heap.size w W) {b1 b2 : Nat} (hne : b1 ≠ b2) (h1 : Raw W b1 (.slice Option.none 0 0) []) (h2 : Raw W b2 (.slice Option.none 0 0) []) (hb1 : w.heap.size ≤ b1) (hb2 : w.heap.size ≤ b2) : Two w W W.heap.size b1 b2 [] [] W := by
  have hf : ∀ b k, fp b (.slice Option.none 0 0) k → k = b := fun b k h => h.elim id (fun e => by simp [Value.ownBlock] at e)
  refine ⟨⟨_, [], _, [], rfl, rfl, h1, h2, fun k hk => by rw [hf _ _ hk]; exact hb1, fun k hk => by rw [hf _ _ hk]; exact hb2, fun k a b => hne ((hf _ _ a).symm.trans (hf _ _ b)), ?_, ?_, h1.next, h2.next⟩, hb, fun _ _ => rfl, Nat.le_refl _⟩
  all_goals (intro x hx; cases hx)

/-- attributes in the caller's own blocks stay -/
theorem Two.ats {w0 wB W : World} {B b1 b2 : Nat} {l1 l2 : List Ab} (h : Two w0 wB B b1 b2 l1 l2 W) {v : Value} {l : List At} (hv : AtsAt wB v l) (hq : ∀ q o n c, v = .slice (some ⟨q, o, Option.none⟩) n c → B ≤ q) : AtsAt W v l := by
  rcases hv with h1 | ⟨q, off, c, rfl, hlt, h1, h2, h3⟩
  · exact .inl h1
  · have hb := h.mine q ⟨hq q off _ c rfl, hlt⟩
    refine .inr ⟨q, off, c, rfl, Nat.lt_of_lt_of_le hlt h.size, h1, h2, fun j x hj => ?_⟩
    obtain ⟨e0, e1, e2⟩ := h3 j x hj
    exact ⟨(World.cell?_of_block (w := wB) (a := ⟨q, off + j * 3, Option.none⟩) hb).trans e0, (World.cell?_of_block (w := wB) (a := ⟨q, off + j * 3 + 1, Option.none⟩) hb).trans e1, (World.cell?_of_block (w := wB) (a := ⟨q, off + j * 3 + 2, Option.none⟩) hb).trans e2⟩
end Go.Proofs.Ytmhofhblgcjihaa
