/- slices.Backward over the stack's slice: what comes, from the top down. -/
import Derived.RangeFuncNested
import Derived.RangeFuncBound
import Derived.RangeFuncCalls
import Derived.RangeFuncLeaves
import Derived.Shelf.Abstract
import Derived.Shelf.RegionOpen
import Derived.WalkKit
import Derived.OwnWalkIn
import Derived.TacticsInMore
import Derived.LoopNIn
import Derived.LoopIn
import Derived.Test.YtibfiblajicdpaaDoorI
namespace Go.Proofs.YtibfiblajicdpaaDoor
open Go Go.RowKit Go.Shelf

attribute [local go_sem] Oper.semAt_some

/-- what comes k-th -/
def revF (l : List El) (k : Nat) : Nat × El := (l.length - 1 - k, l[l.length - 1 - k]?.getD El.none)
def upto (l : List El) (k : Nat) : List (Nat × El) := (List.range k).map (revF l)
theorem upto_succ (l : List El) (k : Nat) : upto l (k + 1) = upto l k ++ [revF l k] := by simp [upto, List.range_succ]
theorem upto_length (l : List El) (k : Nat) : (upto l k).length = k := by simp [upto]

def encB (x : Nat × El) : Array Value := #[.int .i64 (x.1 : Int), .agg #[.int .i64 x.2.id, .string x.2.sp, .string x.2.nm]]

set_option maxRecDepth 100000 in
set_option maxHeartbeats 2000000 in
/-- the closure: it hands over what lies in the slice, from the end on, to whatever loop body keeps what lay below n₀ -/
theorem backward1_in (F : Fence) (n : Nat) (hF : F.fn 69) (hro : F.round = Option.none) (hn : 1 ≤ n) (l Bs n₀ g cap : Nat) (zs : List El) (hreach : zs.length ≤ 1000000) (_hcap : zs.length ≤ cap) (_hcm : cap ≤ maxLen) (hb : g < n₀) (hbs : Bs < n₀) (J Jx : List (Nat × El) → World → Prop)
    (hY : ∀ pre x W, J pre W → pre.length < zs.length → YieldAt F (n - 1) Tryd.prog l (encB x) W fun e W' =>
      (e = .returned (.bool true) ∧ J (pre ++ [x]) W' ∧ Below n₀ W W') ∨ (e = .returned (.bool false) ∧ Jx (pre ++ [x]) W'))
    (W : World) (hBs : W.cell? ⟨Bs, 0, Option.none⟩ = some (.slice (some ⟨g, 0, Option.none⟩) zs.length cap))
    (hc : ∀ j x, zs[j]? = some x → W.cell? ⟨g, j * 3, Option.none⟩ = some (.int .i64 x.id) ∧ W.cell? ⟨g, j * 3 + 1, Option.none⟩ = some (.string x.sp) ∧ W.cell? ⟨g, j * 3 + 2, Option.none⟩ = some (.string x.nm)) (h0 : J [] W) :
    CallsIn F n Tryd.prog 69 #[.func (.yield l) #[] #[], .pointer (some ⟨Bs, 0, Option.none⟩)] W fun e W' => (∃ v, e = .returned v) ∧
      ((∃ ys, ys = upto zs zs.length ∧ J ys W') ∨ (∃ pre, (∃ k, k ≤ zs.length ∧ pre = upto zs k) ∧ Jx pre W')) := by
  refine callsIn_of_wp Tryd.func69 rfl hF ?_ hro
  simp only [Tryd.ntmps69, List.size_toArray, List.length_cons, List.length_nil, Nat.reduceAdd, Nat.reduceSub, Array.replicate_succ, Array.replicate_zero, List.push_toArray, List.append_toArray, List.nil_append, List.cons_append]
  gi_wp2
  gi_loopw [3] (fun i wr => ∃ k m : Nat, k + m = zs.length ∧ i = .int .i64 ((m : Int) - 1) ∧ J (upto zs k) wr ∧ Below n₀ W wr)
    (fun i _ => (intOf i + 1).toNat)
  case atStart => exact ⟨0, zs.length, by omega, rfl, h0, Below.refl _ _⟩
  case round =>
    obtain ⟨k, m, hkm, rfl, hJs, hnx⟩ := hrel
    have hB2 := (hnx.cell (p := ⟨Bs, 0, Option.none⟩) hbs).trans hBs
    cases m with
    | zero =>
      obtain rfl : k = zs.length := by omega
      gi_wp2
      go_end0
      exact ⟨⟨_, rfl⟩, .inl ⟨_, rfl, hJs⟩⟩
    | succ m =>
      have hm : m < zs.length := by omega
      have hx : zs[m]? = some zs[m] := by simp [hm]
      have hrev : revF zs k = (m, zs[m]) := by
        unfold revF
        rw [show zs.length - 1 - k = m from by omega, hx]; rfl
      obtain ⟨c0, c1, c2⟩ := hc m _ hx
      have hus := upto_succ zs k
      rw [hrev] at hus
      have HU := Lib.hid hus
      have HK := Lib.hid hkm
      clear hus hrev hx hc hkm hBs
      generalize zs[m] = x at *
      have d0 := (hnx.cell (p := ⟨g, m * 3, Option.none⟩) hb).trans c0
      have d1 := (hnx.cell (p := ⟨g, m * 3 + 1, Option.none⟩) hb).trans c1
      have d2 := (hnx.cell (p := ⟨g, m * 3 + 2, Option.none⟩) hb).trans c2
      obtain ⟨fn, tmps, assign, body, hy, hR⟩ := hY _ (m, x) wr hJs (by rw [upto_length]; have := HK.out; omega)
      dsimp only [encB] at hy
      clear c0 c1 c2
      rw [show (((m + 1 : Nat) : Int) - 1) = (m : Int) from by omega]
      gi_wp2
      refine hR.mono ?_
      rintro e W3 (⟨rfl, hJ3, hk3⟩ | ⟨rfl, hJx3⟩)
      · gi_wp2
        go_roundw
        case rel => exact ⟨k + 1, m, by have := HK.out; omega, rfl, by rw [HU.out]; exact hJ3, hnx.trans hk3⟩
        case measure => simp [intOf] <;> omega
      · gi_wp2
        refine bodyPost_ret (results_none rfl _ _ _) rfl ?_
        exact ⟨⟨_, rfl⟩, .inr ⟨_, ⟨k + 1, by have := HK.out; omega, HU.out.symm⟩, hJx3⟩⟩

set_option maxRecDepth 100000 in
set_option maxHeartbeats 1000000 in
/-- .. at the nil slice: no round. -/
theorem backward1_nil_in (F : Fence) (n : Nat) (hF : F.fn 69) (hro : F.round = Option.none) (l Bs : Nat) (J : List (Nat × El) → World → Prop) (W : World) (hBs : W.cell? ⟨Bs, 0, Option.none⟩ = some (.slice Option.none 0 0)) (h0 : J [] W) :
    CallsIn F n Tryd.prog 69 #[.func (.yield l) #[] #[], .pointer (some ⟨Bs, 0, Option.none⟩)] W fun e W' => (∃ v, e = .returned v) ∧ J [] W' := by
  refine callsIn_of_wp Tryd.func69 rfl hF ?_ hro
  simp only [Tryd.ntmps69, List.size_toArray, List.length_cons, List.length_nil, Nat.reduceAdd, Nat.reduceSub, Array.replicate_succ, Array.replicate_zero, List.push_toArray, List.append_toArray, List.nil_append, List.cons_append]
  gi_wp2
  gi_loopw [3] (fun i wr => i = .int .i64 (-1) ∧ J [] wr) (fun _ _ => 0)
  case atStart => exact ⟨rfl, h0⟩
  case round =>
    obtain ⟨rfl, hJs⟩ := hrel
    gi_wp2
    go_end0
    exact ⟨⟨_, rfl⟩, hJs⟩

set_option maxHeartbeats 1000000 in
theorem backward_in (F : Fence) (n : Nat) (hF : F.fn 53) (hro : F.round = Option.none) (a : Option Addr) (len cap : Nat) (w : World) :
    CallsIn F n Tryd.prog 53 #[.slice a len cap] w fun e w' => e = .returned (.func (.func 69) #[] #[.pointer (some ⟨w.heap.size, 0, Option.none⟩)]) ∧ w' = w.alloc (.cells #[.slice a len cap] 22) := by
  refine callsIn_of_wp Tryd.func53 rfl hF ?_ hro
  simp only [Tryd.ntmps53, List.size_toArray, List.length_cons, List.length_nil, Nat.reduceAdd, Nat.reduceSub, Array.replicate_succ, Array.replicate_zero, List.push_toArray, List.append_toArray, List.nil_append, List.cons_append]
  gi_wp2
  go_ret
  exact ⟨rfl, rfl⟩

/-- the iterator's contract: all of the slice, from its end on; or what came first of it -/
theorem backward_stops (F : Fence) (n : Nat) (hF : F.fn 69) (hro : F.round = Option.none) (hn : 1 ≤ n) (Bs n₀ : Nat) (b : Nat) (v : Value) (zs : List El) (w : World) (hBs : Bs < n₀) (hn₀ : n₀ ≤ w.heap.size)
    (hc : w.cell? ⟨Bs, 0, Option.none⟩ = some v) (hs : Stk w b v zs) (hfp : ∀ k, fp b v k → k < n₀) :
    SeqStopsK F n Tryd.prog 69 #[.pointer (some ⟨Bs, 0, Option.none⟩)] encB (Below n₀) (fun ys => ys = upto zs zs.length) (fun pre => ∃ k, k ≤ zs.length ∧ pre = upto zs k) zs.length w := fun l J Jx W hW _ _ hY h0 => by
  have hc' := (hW.cell (p := ⟨Bs, 0, Option.none⟩) (by show Bs < w.heap.size; omega)).trans hc
  rcases (hs.below hW).form with ⟨rfl, rfl⟩ | ⟨g, cap, rfl, hg, hgb, h1, h2, hcs, _⟩
  · exact (backward1_nil_in F n hF hro l Bs J W hc' h0).mono fun e W' ⟨he, hj⟩ => ⟨he, .inl ⟨_, rfl, hj⟩⟩
  · exact backward1_in F n hF hro hn l Bs n₀ g cap zs hs.len h1 h2 (hfp g (.inr rfl)) hBs J Jx hY W hc' hcs h0
end Go.Proofs.YtibfiblajicdpaaDoor
