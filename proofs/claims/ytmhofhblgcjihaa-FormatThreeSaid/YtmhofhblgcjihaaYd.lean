/- Numbers that came in, with their bounds. -/
import Derived.Test.YtmhofhblgcjihaaZy
namespace Go.Proofs.Ytmhofhblgcjihaa
open Go Go.ChangeShapes Go.WideShapes Go.ChangeAt Go.RowKit Go.WideMaps Go.WideElems Go.Deep
section
variable {H : Type} {enc : TypeId × Value → H} {W : World}
theorem ints_of_trod2 {a : Option Addr} {len cap : Nat} {x : DataW H × List MemPlace} (h : ∃ fuel, DataW.trod enc Try.prog W 0 (fun _ => true) true fuel 22 (Value.slice a len cap).cells.toList = some x) : ∃ l, IntsAt W (.slice a len cap) l ∧ ∀ y ∈ l, y ≤ 9223372036854775807 := by
  obtain ⟨fuel, hf⟩ := h
  rcases open_ints Try.underlying22 Try.underlying3 int_cells hf with ⟨hcs, _⟩ | ⟨ad, len', cap', zs, hcs, _, hl, hm, hz, _, hcell, hwf⟩
  · simp [Value.cells] at hcs
    obtain ⟨rfl, rfl, rfl⟩ := hcs
    exact ⟨[], .inl ⟨rfl, _, _, rfl⟩, by simp⟩
  · simp [Value.cells] at hcs
    obtain ⟨rfl, rfl, rfl⟩ := hcs
    simp only [if_true] at hz
    by_cases h0 : len = 0
    · subst h0
      exact ⟨[], .inl ⟨rfl, _, _, rfl⟩, by simp⟩
    · have hc0 := hcell 0 (by omega)
      have hspot : ad.spot = Option.none := by
        have := World.cell?_spot hc0
        simpa [Addr.add] using this
      obtain ⟨b, off, spot⟩ := ad
      simp at hspot
      subst hspot
      have hlen : (zs.take len).length = len := by simp; omega
      refine ⟨zs.take len, .inr ⟨b, off, cap, by rw [hlen], ?_, by rw [hlen]; unfold maxLen at hm; omega, ?_⟩, fun y hy => ?_⟩
      · exact World.block_lt_of_cell? W _ hc0
      · intro j y hy
        rw [List.getElem?_take] at hy
        split at hy
        · have hj : j < zs.length := (List.getElem?_eq_some_iff.1 hy).1
          have := hcell j hj
          rw [add_none] at this
          rw [this, List.getD_eq_getElem?_getD, hy]; rfl
        · cases hy
      · have hw := hwf y (List.mem_of_mem_take hy)
        simp [Lit.wf, IntKind.min, IntKind.max, IntKind.signed, IntKind.bits] at hw
        omega

end
end Go.Proofs.Ytmhofhblgcjihaa
