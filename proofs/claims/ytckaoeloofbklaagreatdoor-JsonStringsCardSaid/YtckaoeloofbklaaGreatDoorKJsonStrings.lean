/- The law JsonStrings, as its tied card: for every input the call returns true, and the arguments read as before. -/
import Derived.Test.YtckaoeloofbklaaGreatDoorKKnM
import Derived.Test.YtckaoeloofbklaaGreatDoorCards
import Derived.Test.YtckaoeloofbklaaGreatDoorTie
import Derived.SevenTiedAt
namespace Go.Proofs.YtckaoeloofbklaaGreatDoor
open Go

theorem jsonStrings_proved : Rows.JsonStringsCardSaid :=
  Claim7.holds_tied_plain_at .later [] [.data, .data, .widerDeep, .widerDeep, .data, .data, .data, .data, .data, .data, .sentinel, .sentinel, .pinned, .pinned, .pinned] true (true, Rows.jsonStringsCard.stood.harness.2) true
    jsonStrings_said (fun _ h => by cases h) (by kernel_rfl) (fun _ h => by cases h) jsonStrings_row_tie rfl ⟨rfl, rfl⟩ (by kernel_rfl) rfl
    (fun f fn hf hfn => by
      obtain rfl : f = 6 := Option.some.inj ((show Tryz.prog.funcNamed "lacuna/lacunalaw16.JsonStrings" = some 6 by kernel_rfl).symm.trans hf) |>.symm
      obtain rfl : fn = Tryz.f6 := (Option.some.inj (Tryz.func6.symm.trans hfn)).symm
      exact ⟨by kernel_rfl, fun j t ht => by
        rw [Tryz.params6] at ht
        have hm : t ∈ [9] := by simpa using Array.mem_of_getElem? ht
        have hall : ([9].all fun u => !Tryz.prog.wantsStandIn u) = true := by kernel_rfl
        exact (show Tryz.prog.wantsStandIn t = false by simpa using List.all_eq_true.1 hall t hm)⟩)
    (by kernel_rfl)
#print axioms jsonStrings_proved
end Go.Proofs.YtckaoeloofbklaaGreatDoor
