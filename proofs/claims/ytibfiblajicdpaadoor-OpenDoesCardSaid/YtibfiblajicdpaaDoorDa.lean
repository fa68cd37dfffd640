/- Two stacks side by side; texts that are held against one another; a copy of names. -/
import Derived.Test.YtibfiblajicdpaaDoorRd
import Derived.Test.YtibfiblajicdpaaDoorEi
namespace Go.Proofs.YtibfiblajicdpaaDoor
open Go Go.RowKit

/-- two stacks that share nothing: of what was there in w0 only what S names may have turned -/
structure Two (w0 : World) (S : Nat → Prop) (b1 b2 : Nat) (l1 l2 : List El) (W : World) : Prop where
  ex : ∃ v1 v2, Stk W b1 v1 l1 ∧ Stk W b2 v2 l2 ∧ (∀ k, fp b1 v1 k → S k ∨ w0.heap.size ≤ k) ∧ (∀ k, fp b2 v2 k → S k ∨ w0.heap.size ≤ k) ∧ (∀ k, fp b1 v1 k → ¬ fp b2 v2 k)
  keeps : Keeps S w0 W

theorem Two.go {w0 W W' : World} {S : Nat → Prop} {b1 b2 : Nat} {l1 l2 : List El} (h : Two w0 S b1 b2 l1 l2 W) (hb : Below W.heap.size W W') : Two w0 S b1 b2 l1 l2 W' := by
  obtain ⟨v1, v2, h1, h2, f1, f2, hd⟩ := h.ex
  exact ⟨⟨v1, v2, h1.below hb, h2.below hb, f1, f2, hd⟩, h.keeps.trans (.of_below hb)⟩

theorem Two.swap {w0 W : World} {S : Nat → Prop} {b1 b2 : Nat} {l1 l2 : List El} (h : Two w0 S b1 b2 l1 l2 W) : Two w0 S b2 b1 l2 l1 W := by
  obtain ⟨v1, v2, h1, h2, f1, f2, hd⟩ := h.ex
  exact ⟨⟨v2, v1, h2, h1, f2, f1, fun k a b => hd k b a⟩, h.keeps⟩

theorem Two.step1 {w0 W W' : World} {S : Nat → Prop} {b1 b2 : Nat} {l2 l1' : List El} {v1 v2 : Value} {e0 e : Ending} (hk : Keeps S w0 W) (h2 : Stk W b2 v2 l2) (f1 : ∀ k, fp b1 v1 k → S k ∨ w0.heap.size ≤ k) (f2 : ∀ k, fp b2 v2 k → S k ∨ w0.heap.size ≤ k) (hd : ∀ k, fp b1 v1 k → ¬ fp b2 v2 k)
    (hm : MPost b1 v1 W e0 l1' e W') : e = e0 ∧ Two w0 S b1 b2 l1' l2 W' := by
  obtain ⟨rfl, v', hs', hk', hf'⟩ := hm
  refine ⟨rfl, ⟨v', v2, hs', h2.keeps hk' (fun k a b => hd k b a), ?_, f2, ?_⟩, hk.trans' hk' f1⟩
  · intro k hk2
    rcases hf' k hk2 with h | h
    · exact f1 k h
    · exact .inr (Nat.le_trans hk.size h)
  · intro k hk2 hk3
    rcases hf' k hk2 with h | h
    · exact hd k h hk3
    · have := h2.lt k hk3; omega

/-- a method of the first stack -/
theorem Two.call1 {w0 W : World} {S : Nat → Prop} {b1 b2 : Nat} {l1 l2 l1' : List El} {f : FuncId} {args : Array Value} {e0 : Ending} (h : Two w0 S b1 b2 l1 l2 W)
    (hc : ∀ v, Stk W b1 v l1 → (∀ k, fp b1 v k → S k ∨ w0.heap.size ≤ k) → Calls Tryd.prog f args W (MPost b1 v W e0 l1')) : Calls Tryd.prog f args W fun e W' => e = e0 ∧ Two w0 S b1 b2 l1' l2 W' := by
  obtain ⟨v1, v2, h1, h2, f1, f2, hd⟩ := h.ex
  exact (hc v1 h1 f1).mono fun _ _ hm => Two.step1 h.keeps h2 f1 f2 hd hm

/-- a method of the second stack -/
theorem Two.call2 {w0 W : World} {S : Nat → Prop} {b1 b2 : Nat} {l1 l2 l2' : List El} {f : FuncId} {args : Array Value} {e0 : Ending} (h : Two w0 S b1 b2 l1 l2 W)
    (hc : ∀ v, Stk W b2 v l2 → (∀ k, fp b2 v k → S k ∨ w0.heap.size ≤ k) → Calls Tryd.prog f args W (MPost b2 v W e0 l2')) : Calls Tryd.prog f args W fun e W' => e = e0 ∧ Two w0 S b1 b2 l1 l2' W' :=
  (h.swap.call1 hc).mono fun _ _ ⟨a, b⟩ => ⟨a, b.swap⟩

/-- a method that only reads, of the first stack -/
theorem Two.read1 {w0 W : World} {S : Nat → Prop} {b1 b2 : Nat} {l1 l2 : List El} {f : FuncId} {args : Array Value} {e0 : Ending} (h : Two w0 S b1 b2 l1 l2 W)
    (hc : ∀ v, Stk W b1 v l1 → Calls Tryd.prog f args W fun e W' => e = e0 ∧ Below W.heap.size W W') : Calls Tryd.prog f args W fun e W' => e = e0 ∧ Two w0 S b1 b2 l1 l2 W' := by
  obtain ⟨v1, v2, h1, _⟩ := h.ex
  exact (hc v1 h1).mono fun _ _ ⟨a, b⟩ => ⟨a, h.go b⟩

theorem Two.read2 {w0 W : World} {S : Nat → Prop} {b1 b2 : Nat} {l1 l2 : List El} {f : FuncId} {args : Array Value} {e0 : Ending} (h : Two w0 S b1 b2 l1 l2 W)
    (hc : ∀ v, Stk W b2 v l2 → Calls Tryd.prog f args W fun e W' => e = e0 ∧ Below W.heap.size W W') : Calls Tryd.prog f args W fun e W' => e = e0 ∧ Two w0 S b1 b2 l1 l2 W' :=
  (h.swap.read1 hc).mono fun _ _ ⟨a, b⟩ => ⟨a, b.swap⟩

theorem Two.glob {w0 W : World} {S : Nat → Prop} {b1 b2 : Nat} {l1 l2 : List El} (h : Two w0 S b1 b2 l1 l2 W) (hg : Glob w0) (hS : ∀ k, S k → 0 < k) : Glob W := hg.keeps h.keeps hS

theorem Two.fpok {w0 : World} {S : Nat → Prop} {b : Nat} {v : Value} (hg : Glob w0) (hS : ∀ k, S k → 0 < k) (hf : ∀ k, fp b v k → S k ∨ w0.heap.size ≤ k) : FpOk b v := fun k hk =>
  (hf k hk).elim (hS k) (fun h => Nat.lt_of_lt_of_le hg.lt h)

/-- strings that lie apart from both -/
structure Aside2 (w0 : World) (S : Nat → Prop) (vn : Value) (ns : List ByteArray) : Prop where
  strs : StrsAt w0 vn ns
  off : 0 < ns.length → ∀ nb o n c, vn = .slice (some ⟨nb, o, Option.none⟩) n c → ¬ S nb

theorem StrsAt.blk {w : World} {vn : Value} {ns : List ByteArray} (h : StrsAt w vn ns) (hn : 0 < ns.length) : ∀ nb o n c, vn = .slice (some ⟨nb, o, Option.none⟩) n c → nb < w.heap.size := by
  intro nb o n c e
  rcases h with ⟨rfl, _⟩ | ⟨b, off, c', rfl, hlt, _⟩
  · simp at hn
  · cases e; exact hlt

theorem Aside2.at_ {w0 W : World} {S : Nat → Prop} {b1 b2 : Nat} {l1 l2 : List El} {vn : Value} {ns : List ByteArray} (h : Aside2 w0 S vn ns) (hT : Two w0 S b1 b2 l1 l2 W) : StrsAt W vn ns :=
  strs_keep h.strs h.off hT.keeps

theorem Aside2.far {w0 : World} {S : Nat → Prop} {b : Nat} {v vn : Value} {ns : List ByteArray} (h : Aside2 w0 S vn ns) (hf : ∀ k, fp b v k → S k ∨ w0.heap.size ≤ k) : 0 < ns.length → ∀ nb off n c, vn = .slice (some ⟨nb, off, Option.none⟩) n c → ¬ fp b v nb := fun hn nb off n c e hfp => by
  have h1 := h.strs.blk hn nb off n c e
  have h2 := h.off hn nb off n c e
  rcases hf nb hfp with h | h
  · exact h2 h
  · omega

/-- a new base: the present world -/
theorem Two.base {w0 W W1 : World} {S : Nat → Prop} {b1 b2 : Nat} {l1 l2 : List El} (h : Two w0 S b1 b2 l1 l2 W) (hb : Below W.heap.size W W1) :
    ∃ S1 : Nat → Prop, Two W1 S1 b1 b2 l1 l2 W1 ∧ (∀ k, S1 k → S k ∨ w0.heap.size ≤ k) ∧ (∀ k, S1 k → k < W.heap.size) ∧ (∀ W2 l1' l2', Two W1 S1 b1 b2 l1' l2' W2 → Two w0 S b1 b2 l1' l2' W2) := by
  obtain ⟨v1, v2, h1, h2, f1, f2, hd⟩ := h.ex
  refine ⟨fun k => fp b1 v1 k ∨ fp b2 v2 k, ⟨⟨v1, v2, h1.below hb, h2.below hb, fun k hk => .inl (.inl hk), fun k hk => .inl (.inr hk), hd⟩, Keeps.refl _ _⟩, ?_, ?_, ?_⟩
  · rintro k (hk | hk)
    · exact f1 k hk
    · exact f2 k hk
  · rintro k (hk | hk)
    · exact h1.lt k hk
    · exact h2.lt k hk
  · intro W2 l1' l2' h3
    obtain ⟨u1, u2, g1, g2, e1, e2, ed⟩ := h3.ex
    have hsz : w0.heap.size ≤ W1.heap.size := Nat.le_trans h.keeps.size hb.size
    have conv : ∀ k, ((fp b1 v1 k ∨ fp b2 v2 k) ∨ W1.heap.size ≤ k) → S k ∨ w0.heap.size ≤ k := by
      rintro k ((hk | hk) | hk)
      · exact f1 k hk
      · exact f2 k hk
      · exact .inr (Nat.le_trans hsz hk)
    refine ⟨⟨u1, u2, g1, g2, fun k hk => conv k (e1 k hk), fun k hk => conv k (e2 k hk), ed⟩, ?_⟩
    exact (h.keeps.trans (.of_below hb)).trans' h3.keeps (fun k hk => conv k (.inl hk))

/-! ### texts held against one another -/
set_option maxHeartbeats 1000000 in
theorem same_texts (v1 v2 : Value) (ns : List ByteArray) (w : World) (h1 : StrsAt w v1 ns) (h2 : StrsAt w v2 ns) :
    Calls Tryd.prog 42 #[v1, v2] w fun e w' => e = .returned (.bool true) ∧ Below w.heap.size w w' := by
  have form : ∀ v, StrsAt w v ns → ∃ a c, v = .slice a ns.length c := by
    rintro v (⟨rfl, a, c, rfl⟩ | ⟨b, off, c, rfl, _⟩)
    · exact ⟨_, _, rfl⟩
    · exact ⟨_, _, rfl⟩
  obtain ⟨a1, c1, rfl⟩ := form v1 h1
  obtain ⟨a2, c2, rfl⟩ := form v2 h2
  have hnl : ns.length ≤ 9223372036854775807 := by
    rcases h1 with ⟨rfl, _⟩ | ⟨b, off, c, he, _, h, _⟩
    · simp
    · exact h
  have H1 := Lib.hid h1
  have H2 := Lib.hid h2
  clear h1 h2 form
  go_enter Tryd.func42, Tryd.ntmps42
  go_wp2_with fail
  go_loopw [5] (fun i wr => ∃ k : Nat, k ≤ ns.length ∧ i = .int .i64 k ∧ Below w.heap.size w wr) (fun i _ => ns.length - (intOf i).toNat)
  case atStart => exact ⟨0, by omega, rfl, Below.refl _ _⟩
  case round =>
    obtain ⟨k, hk, rfl, hb⟩ := hrel
    by_cases hlt : k < ns.length
    · have g1 := H1.out.below (Nat.le_refl _) hb
      have g2 := H2.out.below (Nat.le_refl _) hb
      obtain ⟨b, o, rfl, q1⟩ : ∃ b off, a1 = some ⟨b, off, Option.none⟩ ∧ wr.cell? ⟨b, off + k, Option.none⟩ = some (.string (ns.getD k ByteArray.empty)) := by
        rcases g1 with ⟨rfl, _⟩ | ⟨b, off, c, he, _, _, _, hc⟩
        · simp at hlt
        · cases he; exact ⟨b, off, rfl, hc k hlt⟩
      obtain ⟨b', o', rfl, q2⟩ : ∃ b off, a2 = some ⟨b, off, Option.none⟩ ∧ wr.cell? ⟨b, off + k, Option.none⟩ = some (.string (ns.getD k ByteArray.empty)) := by
        rcases g2 with ⟨rfl, _⟩ | ⟨b, off, c, he, _, _, _, hc⟩
        · simp at hlt
        · cases he; exact ⟨b, off, rfl, hc k hlt⟩
      clear g1 g2
      generalize ns.getD k ByteArray.empty = s at *
      go_wp2_with fail
      go_quiet (fail)
      go_wp2
      go_roundw
      case rel => exact ⟨k + 1, by omega, by go_num, bDrewN hb _⟩
      case measure => simp [intOf] <;> omega
    · obtain rfl : k = ns.length := by omega
      go_wp2
      go_ret
      exact ⟨rfl, hb⟩

/-! ### a copy of names -/
theorem infoStr : (Tryd.prog.info? 9).map (fun i => (i.zero, i.size, i.bytes)) = some (some (.string ⟨#[]⟩), 1, 16) := by kernel_rfl

theorem run_names_none (W : World) (ty : TypeId) (va : Option Addr) (vc : Nat) : (Builtin.append_ #[23, 23] ty #[.slice Option.none 0 0, .slice va 0 vc]).run Tryd.prog W = .ok (.slice Option.none 0 0) W := by
  obtain ⟨i, hi, _, _, _⟩ := info_parts infoStr
  have ht := Tryd.underlying23
  cases va <;> simp [Builtin.append_, run_underlying ht, sizeOf, typeInfo, hi, Builtin.lenOf, Builtin.firstCells, loadCells, loadCellsFrom]

/-- what a copy of names is -/
theorem run_names (W : World) (ty : TypeId) (vn : Value) (ns : List ByteArray) (hv : StrsAt W vn ns) (hn : ns.length * 16 ≤ 140737488355328) :
    ∃ v' W', (Builtin.append_ #[23, 23] ty #[.slice Option.none 0 0, vn]).run Tryd.prog W = .ok v' W' ∧ (∃ a n c, v' = .slice a n c) ∧ StrsAt W' v' ns ∧ Below W.heap.size W W' ∧ (∀ nb o n c, v' = .slice (some ⟨nb, o, Option.none⟩) n c → W.heap.size ≤ nb) := by
  obtain ⟨i, hi, hz0, hz1, hz2⟩ := info_parts infoStr
  have ht := Tryd.underlying23
  rcases hv with ⟨rfl, a, c, rfl⟩ | ⟨b, off, c, rfl, hlt, h1, h2, h3⟩
  · exact ⟨_, _, run_names_none W ty a c, ⟨_, _, _, rfl⟩, .inl ⟨rfl, _, _, rfl⟩, Below.refl _ _, fun nb o n c e => by cases e⟩
  · have hnews : ∀ j u, (ns.map Value.string)[j]? = some u → W.cell? ((⟨b, off, Option.none⟩ : Addr).add j) = some u := fun j u hj => by
      have hadd : (⟨b, off, Option.none⟩ : Addr).add j = ⟨b, off + j, Option.none⟩ := by unfold Addr.add; split <;> simp_all
      rw [List.getElem?_map, Option.map_eq_some_iff] at hj
      obtain ⟨s, hs, rfl⟩ := hj
      obtain ⟨hjl, he⟩ := List.getElem?_eq_some_iff.1 hs
      rw [hadd, h3 j hjl]
      simp [hjl, he]
    obtain ⟨g, cap, W', hr, hown, hgr, hat, hgl⟩ := run_append_lies (P := Tryd.prog) W 23 ty W.heap.size 9 i _ 1 16 ht hi hz0 hz1 hz2 rfl (by decide) (.slice Option.none 0 0) 0 [] (World.ownsRow_nil W _ _ _) ⟨b, off, Option.none⟩ ns.length c (ns.map Value.string) (by simp) hnews (by
      intro u hu
      obtain ⟨s, _, rfl⟩ := List.mem_map.1 hu
      rfl) h2 (by unfold maxLen; omega) (by omega) (Nat.le_refl _) _ rfl
    have hg : W.heap.size ≤ g := by
      rcases hat with h | h
      · cases h
      · omega
    refine ⟨_, W', hr, ⟨_, _, _, rfl⟩, .inr ⟨g, 0, cap, by rw [Nat.zero_add], hgl, h1, h2, fun j hj => ?_⟩, ⟨hgr.os, hgr.tape, hgr.output, hgr.size, fun k hk => hgr.block k hk (by simp [Value.ownBlock])⟩, fun nb o n c e => by cases e; exact hg⟩
    have hcell := hown.cells (g := g) rfl j (.string (ns.getD j ByteArray.empty)) (by simp [hj])
    have hadd : (⟨g, 0, Option.none⟩ : Addr).add j = ⟨g, 0 + j, Option.none⟩ := by unfold Addr.add; split <;> simp_all
    rwa [hadd] at hcell
end Go.Proofs.YtibfiblajicdpaaDoor
