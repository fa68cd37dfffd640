/- The law OpenDoes, as its tied card: for every input the call returns true, and the arguments read as before. -/
import Derived.Test.YtibfiblajicdpaaDoorDoesM
import Derived.Test.YtibfiblajicdpaaDoorCards
import Derived.Test.YtibfiblajicdpaaDoorTie
import Derived.SevenTiedAt
namespace Go.Proofs.YtibfiblajicdpaaDoor
open Go

theorem openDoes_proved : Rows.OpenDoesCardSaid :=
  Claim7.holds_tied_plain_at .later [] [.listed, .data] true (true, Rows.openDoesCard.stood.harness.2) false
    openDoes_said (fun _ h => by cases h) (by kernel_rfl) (fun _ h => by cases h) openDoes_row_tie rfl ⟨rfl, rfl⟩ (by kernel_rfl) rfl
    (fun f fn hf hfn => by
      obtain rfl : f = 6 := Option.some.inj ((show Tryd.prog.funcNamed "lacuna/lacunalaw06.OpenDoes" = some 6 by kernel_rfl).symm.trans hf) |>.symm
      obtain rfl : fn = Tryd.f6 := (Option.some.inj (Tryd.func6.symm.trans hfn)).symm
      exact ⟨by kernel_rfl, fun j t ht => by
        rw [Tryd.params6] at ht
        have hm : t ∈ [45] := by simpa using Array.mem_of_getElem? ht
        have hall : ([45].all fun u => !Tryd.prog.wantsStandIn u) = true := by kernel_rfl
        exact (show Tryd.prog.wantsStandIn t = false by simpa using List.all_eq_true.1 hall t hm)⟩)
    (by kernel_rfl)
#print axioms openDoes_proved
end Go.Proofs.YtibfiblajicdpaaDoor
