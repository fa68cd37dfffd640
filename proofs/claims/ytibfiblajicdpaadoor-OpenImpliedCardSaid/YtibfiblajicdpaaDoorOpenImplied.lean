/- The law OpenImplied, as its tied card: for every input the call returns true, and the arguments read as before. -/
import Derived.Test.YtibfiblajicdpaaDoorS
import Derived.Test.YtibfiblajicdpaaDoorCards
import Derived.Test.YtibfiblajicdpaaDoorTie
import Derived.SevenTiedAt
namespace Go.Proofs.YtibfiblajicdpaaDoor
open Go

theorem openImplied_proved : Rows.OpenImpliedCardSaid :=
  Claim7.holds_tied_plain_at .later [] [.listed, .data] true (true, Rows.openImpliedCard.stood.harness.2) false
    openImplied_said (fun _ h => by cases h) (by kernel_rfl) (fun _ h => by cases h) openImplied_row_tie rfl ⟨rfl, rfl⟩ (by kernel_rfl) rfl
    (fun f fn hf hfn => by
      obtain rfl : f = 4 := Option.some.inj ((show Tryd.prog.funcNamed "lacuna/lacunalaw06.OpenImplied" = some 4 by kernel_rfl).symm.trans hf) |>.symm
      obtain rfl : fn = Tryd.f4 := (Option.some.inj (Tryd.func4.symm.trans hfn)).symm
      exact ⟨by kernel_rfl, fun j t ht => by
        rw [Tryd.params4] at ht
        have hm : t ∈ [22, 4, 9] := by simpa using Array.mem_of_getElem? ht
        have hall : ([22, 4, 9].all fun u => !Tryd.prog.wantsStandIn u) = true := by kernel_rfl
        exact (show Tryd.prog.wantsStandIn t = false by simpa using List.all_eq_true.1 hall t hm)⟩)
    (by kernel_rfl)
#print axioms openImplied_proved
end Go.Proofs.YtibfiblajicdpaaDoor
