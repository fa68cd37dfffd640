/- The law NumParses, as its tied card: for every input the call returns true, and the arguments read as before. -/
import Derived.Test.YtmhagigokgklaaaGreatDoorKMnM
import Derived.Test.YtmhagigokgklaaaGreatDoorCards
import Derived.Test.YtmhagigokgklaaaGreatDoorTie
import Derived.SevenTiedAt
namespace Go.Proofs.YtmhagigokgklaaaGreatDoor
open Go

theorem numParses_proved : Rows.NumParsesCardSaid :=
  Claim7.holds_tied_plain_at .later [] [.data, .data, .widerDeep, .widerDeep, .data, .data, .data, .data, .data, .data, .sentinel, .sentinel, .pinned, .pinned, .pinned] true (true, Rows.numParsesCard.stood.harness.2) true
    numParses_said (fun _ h => by cases h) (by kernel_rfl) (fun _ h => by cases h) numParses_row_tie rfl ⟨rfl, rfl⟩ (by kernel_rfl) rfl
    (fun f fn hf hfn => by
      obtain rfl : f = 3 := Option.some.inj ((show Tryz.prog.funcNamed "lacuna/lacunalaw15.NumParses" = some 3 by kernel_rfl).symm.trans hf) |>.symm
      obtain rfl : fn = Tryz.f3 := (Option.some.inj (Tryz.func3.symm.trans hfn)).symm
      exact ⟨by kernel_rfl, fun j t ht => by
        rw [Tryz.params3] at ht
        have hm : t ∈ [9] := by simpa using Array.mem_of_getElem? ht
        have hall : ([9].all fun u => !Tryz.prog.wantsStandIn u) = true := by kernel_rfl
        exact (show Tryz.prog.wantsStandIn t = false by simpa using List.all_eq_true.1 hall t hm)⟩)
    (by kernel_rfl)
#print axioms numParses_proved
end Go.Proofs.YtmhagigokgklaaaGreatDoor
