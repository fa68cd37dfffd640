/- The law OpenScopes, as its tied card: for every input the call returns true, and the arguments read as before. No condition beyond the card's own: the two tables of the library (strings.asciiSpace, unicode.White_Space) hold what the program's text lays. -/
import Derived.Test.YtibfiblajicdpaaDoorQ
import Derived.Test.YtibfiblajicdpaaDoorCards
import Derived.Test.YtibfiblajicdpaaDoorTie
import Derived.SevenTiedAt
namespace Go.Proofs.YtibfiblajicdpaaDoor
open Go

theorem openScopes_proved : Rows.OpenScopesCardSaid :=
  Claim7.holds_tied_plain_at .later [] [.listed, .data] true (true, Rows.openScopesCard.stood.harness.2) false
    openScopes_said (fun _ h => by cases h) (by kernel_rfl) (fun _ h => by cases h) openScopes_row_tie rfl ⟨rfl, rfl⟩ (by kernel_rfl) rfl
    (fun f fn hf hfn => by
      obtain rfl : f = 3 := Option.some.inj ((show Tryd.prog.funcNamed "lacuna/lacunalaw06.OpenScopes" = some 3 by kernel_rfl).symm.trans hf) |>.symm
      obtain rfl : fn = Tryd.f3 := (Option.some.inj (Tryd.func3.symm.trans hfn)).symm
      exact ⟨by kernel_rfl, fun j t ht => by
        rw [Tryd.params3] at ht
        have hm : t ∈ [22, 23] := by simpa using Array.mem_of_getElem? ht
        have hall : ([22, 23].all fun u => !Tryd.prog.wantsStandIn u) = true := by kernel_rfl
        exact (show Tryd.prog.wantsStandIn t = false by simpa using List.all_eq_true.1 hall t hm)⟩)
    (by kernel_rfl)
#print axioms openScopes_proved
end Go.Proofs.YtibfiblajicdpaaDoor
