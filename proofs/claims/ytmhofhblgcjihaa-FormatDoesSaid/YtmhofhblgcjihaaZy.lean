/- From the rows' conditions to what the walks ask: numbers that came in. -/
import Derived.Test.YtmhofhblgcjihaaRows
import Derived.Test.YtmhofhblgcjihaaZw
import Derived.ProofKit
import Derived.ChangeSlices
import Derived.OpenShut
import Derived.Stop.Joined
import Derived.SliceStrings
import Derived.Deep.Slices
import Derived.JoinedOf
import Derived.JoinedAt
import Derived.Carry
namespace Go.Proofs.Ytmhofhblgcjihaa
open Go Go.ChangeShapes Go.WideShapes Go.ChangeAt Go.RowKit Go.WideMaps Go.WideElems Go.Deep

theorem own : ownKnob Try.prog.godebug = Option.none := by kernel_rfl
theorem laidOut : laidOutB Try.prog = true := by kernel_rfl

section
variable {H : Type} {enc : TypeId × Value → H} {W : World}

theorem int_cells : Try.prog.cellsOf 3 = 1 := by kernel_rfl

theorem add_none (b off j : Nat) : (⟨b, off, Option.none⟩ : Addr).add j = ⟨b, off + j, Option.none⟩ := by
  unfold Addr.add; split <;> simp_all

theorem ints_of_cells {base : Nat} {fuel : Nat} {cs : List Value} {x : DataW H × List MemPlace} (hf : DataW.trod enc Try.prog W base (fun _ => true) true fuel 22 cs = some x) :
    ∃ a len cap l, cs = [.slice a len cap] ∧ IntsAt W (.slice a len cap) l := by
  rcases open_ints Try.underlying22 Try.underlying3 int_cells hf with ⟨hcs, _⟩ | ⟨ad, len, cap, zs, hcs, _, hl, hm, hz, _, hcell, _⟩
  · exact ⟨_, _, _, [], hcs, .inl ⟨rfl, _, _, rfl⟩⟩
  · simp only [if_true] at hz
    by_cases h0 : len = 0
    · subst h0
      exact ⟨_, _, _, [], hcs, .inl ⟨rfl, _, _, rfl⟩⟩
    · have hc0 := hcell 0 (by omega)
      have hspot : ad.spot = Option.none := by
        have := World.cell?_spot hc0
        simpa [Addr.add] using this
      obtain ⟨b, off, spot⟩ := ad
      simp at hspot
      subst hspot
      have hlen : (zs.take len).length = len := by simp; omega
      refine ⟨_, _, _, zs.take len, hcs, .inr ⟨b, off, cap, by rw [hlen], ?_, by rw [hlen]; unfold maxLen at hm; omega, ?_⟩⟩
      · exact World.block_lt_of_cell? W _ hc0
      · intro j y hy
        rw [List.getElem?_take] at hy
        split at hy
        · have hj : j < zs.length := (List.getElem?_eq_some_iff.1 hy).1
          have := hcell j hj
          rw [add_none] at this
          rw [this, List.getD_eq_getElem?_getD, hy]; rfl
        · cases hy

theorem ints_of_trod {a : Option Addr} {len cap : Nat} {x : DataW H × List MemPlace} (h : ∃ fuel, DataW.trod enc Try.prog W 0 (fun _ => true) true fuel 22 (Value.slice a len cap).cells.toList = some x) : ∃ l, IntsAt W (.slice a len cap) l := by
  obtain ⟨fuel, hf⟩ := h
  obtain ⟨a', len', cap', l, hcs, hl⟩ := ints_of_cells hf
  simp [Value.cells] at hcs
  obtain ⟨rfl, rfl, rfl⟩ := hcs
  exact ⟨l, hl⟩

theorem u8_of_trod {n : Int} {x : DataW H × List MemPlace} (h : ∃ fuel, DataW.trod enc Try.prog W 0 (fun _ => true) true fuel 5 (Value.int .u8 n).cells.toList = some x) : 0 ≤ n ∧ n ≤ 255 := by
  obtain ⟨fuel, hf⟩ := h
  obtain ⟨m, hcs, _, hw⟩ := DataW.trod_int Try.underlying5 hf
  simp [Value.cells] at hcs
  subst hcs
  simp [Lit.wf, IntKind.min, IntKind.max, IntKind.signed, IntKind.bits] at hw
  omega
end
end Go.Proofs.Ytmhofhblgcjihaa
