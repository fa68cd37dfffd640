/- The law JsonBlanks, where what it reads is of bulk at most 1048576, as its tied card. -/
import Derived.Test.YtckaoeloofbklaaGreatDoorKKuM
import Derived.Test.YtckaoeloofbklaaGreatDoorCards
import Derived.Test.YtckaoeloofbklaaGreatDoorTie
import Derived.SevenTiedAt
namespace Go.Proofs.YtckaoeloofbklaaGreatDoor
open Go
theorem jsonBlanksUpto_proved : Rows.JsonBlanksUptoCardSaid :=
  Claim7.holds_tied_plain_at .later [] _ _ _ _
    jsonBlanksUpto_said (fun _ h => by cases h) (by kernel_rfl) (fun _ h => by cases h) jsonBlanksUpto_row_tie rfl ⟨rfl, rfl⟩ (by kernel_rfl) rfl
    (fun f fn hf hfn => by
      obtain rfl : f = 3 := Option.some.inj ((show Tryz.prog.funcNamed "lacuna/lacunalaw16.JsonBlanks" = some 3 by kernel_rfl).symm.trans hf) |>.symm
      obtain rfl : fn = Tryz.f3 := (Option.some.inj (Tryz.func3.symm.trans hfn)).symm
      exact ⟨by kernel_rfl, fun j t ht => by
        rw [Tryz.params3] at ht
        have hm : t ∈ [27, 28] := by simpa using Array.mem_of_getElem? ht
        have hall : ([27, 28].all fun u => !Tryz.prog.wantsStandIn u) = true := by kernel_rfl
        exact (show Tryz.prog.wantsStandIn t = false by simpa using List.all_eq_true.1 hall t hm)⟩)
    (by kernel_rfl)
#print axioms jsonBlanksUpto_proved
end Go.Proofs.YtckaoeloofbklaaGreatDoor
