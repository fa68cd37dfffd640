/- The law JsonShows, as its tied card: for every input the call returns true, and the arguments read as before. -/
import Derived.Test.YtckaoeloofbklaaGreatDoorKOnM
import Derived.Test.YtckaoeloofbklaaGreatDoorCards
import Derived.Test.YtckaoeloofbklaaGreatDoorTie
import Derived.SevenTiedAt
namespace Go.Proofs.YtckaoeloofbklaaGreatDoor
open Go
theorem jsonShows_proved : Rows.JsonShowsCardSaid :=
 Claim7.holds_tied_plain_at .later [] [.data, .data, .widerDeep, .widerDeep, .data, .data, .data, .data, .data, .data, .sentinel, .sentinel, .pinned, .pinned, .pinned] true (true, Rows.jsonShowsCard.stood.harness.2) true
  jsonShows_said (fun _ h => by cases h) (by kernel_rfl) (fun _ h => by cases h) jsonShows_row_tie rfl ⟨rfl, rfl⟩ (by kernel_rfl) rfl
  (fun f fn hf hfn => by
   obtain rfl : f = 4 := Option.some.inj ((show Tryz.prog.funcNamed "lacuna/lacunalaw16.JsonShows" = some 4 by kernel_rfl).symm.trans hf) |>.symm
   obtain rfl : fn = Tryz.f4 := (Option.some.inj (Tryz.func4.symm.trans hfn)).symm
   exact ⟨by kernel_rfl, fun j t ht => by
    rw [Tryz.params4] at ht
    have hm : t ∈ [27, 27, 9] := by simpa using Array.mem_of_getElem? ht
    have hall : ([27, 27, 9].all fun u => !Tryz.prog.wantsStandIn u) = true := by kernel_rfl
    exact (show Tryz.prog.wantsStandIn t = false by simpa using List.all_eq_true.1 hall t hm)⟩)
  (by kernel_rfl)
#print axioms jsonShows_proved
end Go.Proofs.YtckaoeloofbklaaGreatDoor
