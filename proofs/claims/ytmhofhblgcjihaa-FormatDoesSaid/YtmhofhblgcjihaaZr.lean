/- slices.Backward over entries: what comes, from the end on. -/
import Derived.Test.YtmhofhblgcjihaaZq
namespace Go.Proofs.Ytmhofhblgcjihaa
open Go Go.RowKit Go.Shelf

attribute [local go_sem] Oper.semAt_some

/-- the slice value v holds the entries zs, in a block that lies below n₀ -/
def EnsAt (w : World) (v : Value) (zs : List En) : Prop :=
  (zs = [] ∧ ∃ a c, v = .slice a 0 c) ∨
  (∃ b off c, v = .slice (some ⟨b, off, Option.none⟩) zs.length c ∧ b < w.heap.size ∧ 0 < zs.length ∧ zs.length ≤ 1000000 ∧
    ∀ j x, zs[j]? = some x → ∀ i u, x.cells[i]? = some u → w.cell? ⟨b, off + j * 4 + i, Option.none⟩ = some u)

theorem EnsAt.form {w : World} {v : Value} {l : List En} (h : EnsAt w v l) : ∃ a c, v = .slice a l.length c := by
  rcases h with ⟨rfl, a, c, rfl⟩ | ⟨b, off, c, rfl, _⟩
  · exact ⟨_, _, rfl⟩
  · exact ⟨_, _, rfl⟩

theorem EnsAt.below {w w' : World} {v : Value} {l : List En} {B : Nat} (h : EnsAt w v l) (hB : w.heap.size ≤ B) (hb : Below B w w') : EnsAt w' v l := by
  rcases h with h | ⟨b, off, c, rfl, hlt, h1, h2, h3⟩
  · exact .inl h
  · exact .inr ⟨b, off, c, rfl, Nat.lt_of_lt_of_le hlt hb.size, h1, h2, fun j x hj i u hu => (hb.cell (p := ⟨b, off + j * 4 + i, Option.none⟩) (by show b < B; omega)).trans (h3 j x hj i u hu)⟩

theorem EnsAt.blk {w : World} {v : Value} {l : List En} (h : EnsAt w v l) (hn : 0 < l.length) : ∀ q o n c, v = .slice (some ⟨q, o, Option.none⟩) n c → q < w.heap.size := by
  intro q o n c e
  rcases h with ⟨rfl, _⟩ | ⟨b, off, c', rfl, hlt, _⟩
  · simp at hn
  · cases e; exact hlt

theorem EnsAt.len {w : World} {v : Value} {l : List En} (h : EnsAt w v l) : l.length ≤ 1000000 := by
  rcases h with ⟨rfl, _⟩ | ⟨b, off, c, rfl, _, _, h, _⟩
  · simp
  · exact h

/-- what comes k-th -/
def revF (l : List En) (k : Nat) : Nat × En := (l.length - 1 - k, l[l.length - 1 - k]?.getD En.none)

theorem revF_mem (l : List En) (k : Nat) (h : 0 < l.length) : (revF l k).2 ∈ l := by
  unfold revF
  have hlt : l.length - 1 - k < l.length := by omega
  rw [List.getElem?_eq_getElem hlt]
  exact List.getElem_mem hlt

theorem range_rev (l : List En) (k : Nat) (hk : k ≤ l.length) : (List.range k).map (fun j => (revF l j).2) = l.reverse.take k := by
  apply List.ext_getElem
  · simp [hk]
  · intro i h1 h2
    have hi : i < k := by simp at h1; exact h1
    simp only [revF, List.getElem_map, List.getElem_range, List.getElem_take, List.getElem_reverse]
    rw [List.getElem?_eq_getElem (by omega)]
    rfl

def encB (x : Nat × En) : Array Value := #[.int .i64 (x.1 : Int), .agg #[.int .i64 x.2.el.id, .string x.2.el.sp, .string x.2.el.nm, .slice x.2.a x.2.ats.length x.2.c]]

set_option maxRecDepth 100000 in
set_option maxHeartbeats 2000000 in
/-- the closure: it hands over what lies in the slice, from the end on, to whatever loop body keeps what lay below n₀ -/
theorem backward1_in (F : Fence) (n : Nat) (hF : F.fn 50) (hro : F.round = Option.none) (hn : 1 ≤ n) (l Bs n₀ : Nat) (v : Value) (zs : List En) (hbs : Bs < n₀) (hv : 0 < zs.length → ∀ q o n c, v = .slice (some ⟨q, o, Option.none⟩) n c → q < n₀) (J Jx : List Nat → World → Prop)
    (hY : ∀ pre x W, J pre W → pre.length < zs.length → YieldAt F (n - 1) Try.prog l (encB (revF zs x)) W fun e W' =>
      (e = .returned (.bool true) ∧ J (pre ++ [x]) W' ∧ Below n₀ W W') ∨ (e = .returned (.bool false) ∧ Jx (pre ++ [x]) W'))
    (W : World) (hBs : W.cell? ⟨Bs, 0, Option.none⟩ = some v) (hc : EnsAt W v zs) (h0 : J [] W) :
    CallsIn F n Try.prog 50 #[.func (.yield l) #[] #[], .pointer (some ⟨Bs, 0, Option.none⟩)] W fun e W' => (∃ v, e = .returned v) ∧
      ((∃ ys, ys = List.range zs.length ∧ J ys W') ∨ (∃ pre, (∃ k, k ≤ zs.length ∧ pre = List.range k) ∧ Jx pre W')) := by
  refine callsIn_of_wp Try.func50 rfl hF ?_ hro
  simp only [Try.ntmps50, List.size_toArray, List.length_cons, List.length_nil, Nat.reduceAdd, Nat.reduceSub, Array.replicate_succ, Array.replicate_zero, List.push_toArray, List.append_toArray, List.nil_append, List.cons_append]
  have hreach := hc.len
  obtain ⟨va, vc, rfl⟩ := hc.form
  gi_wp2
  gi_loopw [3] (fun i wr => ∃ k m : Nat, k + m = zs.length ∧ i = .int .i64 ((m : Int) - 1) ∧ J (List.range k) wr ∧ Below n₀ W wr)
    (fun i _ => (intOf i + 1).toNat)
  case atStart => exact ⟨0, zs.length, by omega, rfl, h0, Below.refl _ _⟩
  case round =>
    obtain ⟨k, m, hkm, rfl, hJs, hnx⟩ := hrel
    have hB2 := (hnx.cell (p := ⟨Bs, 0, Option.none⟩) hbs).trans hBs
    cases m with
    | zero =>
      obtain rfl : k = zs.length := by omega
      gi_wp2
      go_end0
      exact ⟨⟨_, rfl⟩, .inl ⟨_, rfl, hJs⟩⟩
    | succ m =>
      have hm : m < zs.length := by omega
      rcases hc with ⟨rfl, _⟩ | ⟨b, off, c', hva, hlt, _, _, hcs⟩
      · simp at hm
      · obtain ⟨rfl, rfl⟩ : va = some ⟨b, off, Option.none⟩ ∧ vc = c' := by injection hva with h1 h2 h3; exact ⟨h1, h3⟩
        have hb := hv (by omega) b off _ _ rfl
        have hx : zs[m]? = some zs[m] := by simp [hm]
        have hrev : revF zs k = (m, zs[m]) := by
          unfold revF
          rw [show zs.length - 1 - k = m from by omega, hx]; rfl
        have hcm := hcs m _ hx
        have HU := Lib.hid (List.range_succ (n := k))
        have hYk := hY (List.range k) k wr hJs (by rw [List.length_range]; omega)
        rw [hrev] at hYk
        have HK := Lib.hid hkm
        clear hrev hx hcs hkm hBs hv hY
        generalize zs[m] = x at *
        have d0 := (hnx.cell (p := ⟨b, off + m * 4, Option.none⟩) hb).trans (hcm 0 _ rfl)
        have d1 := (hnx.cell (p := ⟨b, off + m * 4 + 1, Option.none⟩) hb).trans (hcm 1 _ rfl)
        have d2 := (hnx.cell (p := ⟨b, off + m * 4 + 2, Option.none⟩) hb).trans (hcm 2 _ rfl)
        have d3 := (hnx.cell (p := ⟨b, off + m * 4 + 3, Option.none⟩) hb).trans (hcm 3 _ rfl)
        obtain ⟨fn, tmps, assign, body, hy, hR⟩ := hYk
        dsimp only [encB] at hy
        clear hcm hva
        rw [show (((m + 1 : Nat) : Int) - 1) = (m : Int) from by omega]
        gi_wp2
        refine hR.mono ?_
        rintro e W3 (⟨rfl, hJ3, hk3⟩ | ⟨rfl, hJx3⟩)
        · gi_wp2
          go_roundw
          case rel => exact ⟨k + 1, m, by have := HK.out; omega, rfl, by rw [HU.out]; exact hJ3, hnx.trans hk3⟩
          case measure => simp [intOf] <;> omega
        · gi_wp2
          refine bodyPost_ret (results_none rfl _ _ _) rfl ?_
          exact ⟨⟨_, rfl⟩, .inr ⟨_, ⟨k + 1, by have := HK.out; omega, HU.out.symm⟩, hJx3⟩⟩

set_option maxHeartbeats 1000000 in
theorem backward_in (F : Fence) (n : Nat) (hF : F.fn 26) (hro : F.round = Option.none) (a : Option Addr) (len cap : Nat) (w : World) :
    CallsIn F n Try.prog 26 #[.slice a len cap] w fun e w' => e = .returned (.func (.func 50) #[] #[.pointer (some ⟨w.heap.size, 0, Option.none⟩)]) ∧ w' = w.alloc (.cells #[.slice a len cap] 25) := by
  refine callsIn_of_wp Try.func26 rfl hF ?_ hro
  simp only [Try.ntmps26, List.size_toArray, List.length_cons, List.length_nil, Nat.reduceAdd, Nat.reduceSub, Array.replicate_succ, Array.replicate_zero, List.push_toArray, List.append_toArray, List.nil_append, List.cons_append]
  gi_wp2
  go_ret
  exact ⟨rfl, rfl⟩

/-- the iterator's contract: all of the slice, from its end on; or what came first of it -/
theorem backward_stops (F : Fence) (n : Nat) (hF : F.fn 50) (hro : F.round = Option.none) (hn : 1 ≤ n) (Bs n₀ : Nat) (v : Value) (zs : List En) (w : World) (hBs : Bs < n₀) (hn₀ : n₀ ≤ w.heap.size)
    (hc : w.cell? ⟨Bs, 0, Option.none⟩ = some v) (hs : EnsAt w v zs) (hv : 0 < zs.length → ∀ q o n c, v = .slice (some ⟨q, o, Option.none⟩) n c → q < n₀) :
    SeqStopsK F n Try.prog 50 #[.pointer (some ⟨Bs, 0, Option.none⟩)] (fun k => encB (revF zs k)) (Below n₀) (fun ys => ys = List.range zs.length) (fun pre => ∃ k, k ≤ zs.length ∧ pre = List.range k) zs.length w := fun l J Jx W hW _ _ hY h0 =>
  backward1_in F n hF hro hn l Bs n₀ v zs hBs hv J Jx hY W ((hW.cell (p := ⟨Bs, 0, Option.none⟩) (by show Bs < w.heap.size; omega)).trans hc) (hs.below (Nat.le_refl _) hW) h0
end Go.Proofs.Ytmhofhblgcjihaa
