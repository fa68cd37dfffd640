/- slices.Values and slices.Collect over attributes. -/
import Derived.Laws.EntriesVeiled
import Derived.RangeFuncNested
import Derived.RangeFuncBound
import Derived.RangeFuncCalls
import Derived.RangeFuncLeaves
import Derived.Shelf.Abstract
import Derived.Shelf.RegionOpen
import Derived.WalkKit
import Derived.OwnWalkIn
import Derived.TacticsInMore
import Derived.LoopNIn
import Derived.LoopIn
import Derived.Test.YtmhofhblgcjihaaZc
namespace Go.Proofs.Ytmhofhblgcjihaa
open Go Go.RowKit Go.Shelf

attribute [local go_sem] Oper.semAt_some

def encA (x : At) : Array Value := #[.agg #[.string x.sp, .string x.nm, .string x.va]]

set_option maxRecDepth 100000 in
set_option maxHeartbeats 2000000 in
/-- the closure: it hands over what lies in the slice to whatever loop body keeps what lay below n₀ -/
theorem values1_in (F : Fence) (n : Nat) (hF : F.fn 59) (hro : F.round = Option.none) (hn : 1 ≤ n) (l Bs n₀ : Nat) (v : Value) (zs : List At) (hbs : Bs < n₀) (hbig : zs.length ≤ 1000000000000000000) (hv : 0 < zs.length → ∀ q o n c, v = .slice (some ⟨q, o, Option.none⟩) n c → q < n₀) (J Jx : List At → World → Prop)
    (hY : ∀ pre x W, J pre W → pre.length < zs.length → YieldAt F (n - 1) Try.prog l (encA x) W fun e W' =>
      (e = .returned (.bool true) ∧ J (pre ++ [x]) W' ∧ Below n₀ W W') ∨ (e = .returned (.bool false) ∧ Jx (pre ++ [x]) W'))
    (W : World) (hnW : n₀ ≤ W.heap.size) (hA : AbidesFrom W.heap.size J) (hBs : W.cell? ⟨Bs, 0, Option.none⟩ = some v) (hc : AtsAt W v zs) (h0 : J [] W) :
    CallsIn F n Try.prog 59 #[.func (.yield l) #[] #[], .pointer (some ⟨Bs, 0, Option.none⟩)] W fun e W' => (∃ v, e = .returned v) ∧
      ((∃ ys, ys = zs ∧ J ys W') ∨ (∃ pre, (∃ k, k ≤ zs.length ∧ pre = zs.take k) ∧ Jx pre W')) := by
  refine callsIn_of_wp Try.func59 rfl hF ?_ hro
  simp only [Try.ntmps59, List.size_toArray, List.length_cons, List.length_nil, Nat.reduceAdd, Nat.reduceSub, Array.replicate_succ, Array.replicate_zero, List.push_toArray, List.append_toArray, List.nil_append, List.cons_append]
  obtain ⟨va, vc, rfl⟩ := hc.form
  gi_wp2
  gi_loopw [7] (fun i wr => ∃ k : Nat, k ≤ zs.length ∧ i = .int .i64 (k : Int) ∧ J (zs.take k) wr ∧ Below n₀ W wr)
    (fun i _ => (zs.length - intOf i).toNat)
  case atStart => exact ⟨0, Nat.zero_le _, rfl, h0, Below.refl _ _⟩
  case round =>
    obtain ⟨k, hk, rfl, hJs, hnx⟩ := hrel
    have hB2 := (hnx.cell (p := ⟨Bs, 0, Option.none⟩) hbs).trans hBs
    by_cases hkl : k = zs.length
    · subst hkl
      clear hY
      gi_wp2
      go_end0
      exact ⟨⟨_, rfl⟩, .inl ⟨_, rfl, by rwa [List.take_length] at hJs⟩⟩
    · have hlt : k < zs.length := by omega
      obtain ⟨b, off, rfl, hblt, c0, c1, c2⟩ := ats_at hc hlt
      have hbn := hv (by omega) b off _ _ rfl
      have d0 := (hnx.cell (p := ⟨b, off + k * 3, Option.none⟩) hbn).trans c0
      have d1 := (hnx.cell (p := ⟨b, off + k * 3 + 1, Option.none⟩) hbn).trans c1
      have d2 := (hnx.cell (p := ⟨b, off + k * 3 + 2, Option.none⟩) hbn).trans c2
      have HT := Lib.hid (List.take_succ_eq_append_getElem hlt)
      have HY := Lib.hid hY
      clear hY c0 c1 c2 hc hv
      generalize zs[k] = x at *
      have hJ1 : J (zs.take k) (wr.alloc (.cells #[.string x.sp, .string x.nm, .string x.va] 34)) := hA _ _ _ Option.none hJs (World.grownBy_alloc _ _ _) (fun r e => by cases e)
      have hal : Below n₀ wr (wr.alloc (.cells #[.string x.sp, .string x.nm, .string x.va] 34)) := (Below.refl _ _).alloc (Nat.le_trans hnW hnx.size) _
      obtain ⟨fn, tmps, assign, body, hy, hR⟩ := HY.out _ x _ hJ1 (by rw [List.length_take]; omega)
      dsimp only [encA] at hy
      have HA := Lib.hid hA
      have HX := Lib.hid hnx
      clear hA hJs hJ1 HY
      gi_wp2
      refine hR.mono ?_
      rintro e W3 (⟨rfl, hJ3, hk3⟩ | ⟨rfl, hJx3⟩)
      · gi_wp2
        go_roundw
        case rel => exact ⟨k + 1, by omega, by simp, by rw [HT.out]; exact hJ3, (HX.out.trans hal).trans hk3⟩
        case measure => simp [intOf] <;> omega
      · gi_wp2
        refine bodyPost_ret (results_none rfl _ _ _) rfl ?_
        exact ⟨⟨_, rfl⟩, .inr ⟨_, ⟨k + 1, by omega, HT.out.symm⟩, hJx3⟩⟩

set_option maxHeartbeats 1000000 in
theorem values_in (F : Fence) (n : Nat) (hF : F.fn 45) (hro : F.round = Option.none) (a : Option Addr) (len cap : Nat) (w : World) :
    CallsIn F n Try.prog 45 #[.slice a len cap] w fun e w' => e = .returned (.func (.func 59) #[] #[.pointer (some ⟨w.heap.size, 0, Option.none⟩)]) ∧ w' = w.alloc (.cells #[.slice a len cap] 35) := by
  refine callsIn_of_wp Try.func45 rfl hF ?_ hro
  simp only [Try.ntmps45, List.size_toArray, List.length_cons, List.length_nil, Nat.reduceAdd, Nat.reduceSub, Array.replicate_succ, Array.replicate_zero, List.push_toArray, List.append_toArray, List.nil_append, List.cons_append]
  gi_wp2
  go_ret
  exact ⟨rfl, rfl⟩

/-- the iterator's contract: all of the slice; or what came first of it -/
theorem values_stops (F : Fence) (n : Nat) (hF : F.fn 59) (hro : F.round = Option.none) (hn : 1 ≤ n) (Bs n₀ : Nat) (v : Value) (zs : List At) (w : World) (hBs : Bs < n₀) (hn₀ : n₀ ≤ w.heap.size) (hbig : zs.length ≤ 1000000000000000000)
    (hc : w.cell? ⟨Bs, 0, Option.none⟩ = some v) (hs : AtsAt w v zs) (hv : 0 < zs.length → ∀ q o n c, v = .slice (some ⟨q, o, Option.none⟩) n c → q < n₀) :
    SeqStopsK F n Try.prog 59 #[.pointer (some ⟨Bs, 0, Option.none⟩)] encA (Below n₀) (fun ys => ys = zs) (fun pre => ∃ k, k ≤ zs.length ∧ pre = zs.take k) zs.length w := fun l J Jx W hW hA _ hY h0 =>
  values1_in F n hF hro hn l Bs n₀ v zs hBs hbig hv J Jx hY W (Nat.le_trans hn₀ hW.size) hA ((hW.cell (p := ⟨Bs, 0, Option.none⟩) (by show Bs < w.heap.size; omega)).trans hc) (hs.below (Nat.le_refl _) hW) h0

theorem ownsRow_kept_cells {W W' : World} {row : Option Nat} {base : Nat} {e : TypeId} {size : Nat} {v : Value} {k : Nat} {xs : List Value} (h : W.ownsRow base e size v k xs) (hg : W.grownBy W' row)
    (hrow : ∀ r, row = some r → ∃ o : Obj, W.heap[r]? = some o ∧ o.isCells = false) : W'.ownsRow base e size v k xs := by
  refine h.kept hg ?_
  rcases h.2 with ⟨rfl, _⟩ | ⟨g, cap, cur, rfl, _, hgb, _⟩
  · exact .inl rfl
  · refine .inr fun e' => ?_
    obtain ⟨o, ho, hw⟩ := hrow g (by simpa [Value.ownBlock] using e'.symm)
    rw [hgb] at ho; cases ho; cases hw

/-- between two rounds: the box holds a slice of the call's own, with what has come -/
def ApI (w0 : World) (Bs : Nat) (pre : List At) (W : World) : Prop :=
  (∃ v, W.heap[Bs]? = some (.cells #[v] 35 (0, 0)) ∧ W.ownsRow w0.heap.size 34 3 v pre.length (flatA pre)) ∧ Below w0.heap.size w0 W

theorem apI_from (w0 : World) (Bs B : Nat) (hB : w0.heap.size ≤ B) : OwnFrom B (ApI w0 Bs) := by
  rintro s W W' row ⟨⟨v, h1, h2⟩, h3⟩ hg hr
  refine ⟨⟨v, ?_, ownsRow_kept_cells h2 hg (fun r e => (hr r e).2)⟩, h3.grown hg h3.size (fun k e => Nat.le_trans hB (hr k e).1)⟩
  rw [hg.block Bs (Array.getElem?_eq_some_iff.1 h1).1 (fun e => by obtain ⟨_, o, ho, hcl⟩ := hr Bs e.symm; rw [h1] at ho; cases ho; cases hcl)]
  exact h1

end Go.Proofs.Ytmhofhblgcjihaa
