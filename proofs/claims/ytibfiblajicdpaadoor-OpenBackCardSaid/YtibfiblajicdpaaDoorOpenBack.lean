/- The law OpenBack, as its tied card: for every input the call returns true, and the arguments read as before. -/
import Derived.Test.YtibfiblajicdpaaDoorBackM
import Derived.Test.YtibfiblajicdpaaDoorCards
import Derived.Test.YtibfiblajicdpaaDoorTie
import Derived.SevenTiedAt
namespace Go.Proofs.YtibfiblajicdpaaDoor
open Go

theorem openBack_proved : Rows.OpenBackCardSaid :=
  Claim7.holds_tied_plain_at .later [] [.listed, .data] true (true, Rows.openBackCard.stood.harness.2) false
    openBack_said (fun _ h => by cases h) (by kernel_rfl) (fun _ h => by cases h) openBack_row_tie rfl ⟨rfl, rfl⟩ (by kernel_rfl) rfl
    (fun f fn hf hfn => by
      obtain rfl : f = 5 := Option.some.inj ((show Tryd.prog.funcNamed "lacuna/lacunalaw06.OpenBack" = some 5 by kernel_rfl).symm.trans hf) |>.symm
      obtain rfl : fn = Tryd.f5 := (Option.some.inj (Tryd.func5.symm.trans hfn)).symm
      exact ⟨by kernel_rfl, fun j t ht => by
        rw [Tryd.params5] at ht
        have hm : t ∈ [22, 30, 3] := by simpa using Array.mem_of_getElem? ht
        have hall : ([22, 30, 3].all fun u => !Tryd.prog.wantsStandIn u) = true := by kernel_rfl
        exact (show Tryd.prog.wantsStandIn t = false by simpa using List.all_eq_true.1 hall t hm)⟩)
    (by kernel_rfl)
#print axioms openBack_proved
end Go.Proofs.YtibfiblajicdpaaDoor
