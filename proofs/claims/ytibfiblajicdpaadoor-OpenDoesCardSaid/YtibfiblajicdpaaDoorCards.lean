/-
  DERIVED. GIVEN WITH THE SEED: THE CARDS: each row of YtibfiblajicdpaaDoorRows.lean that lists a variable, with what it lists TIED to the program's text (the seventh form; the later family's looks); each row that meets fmt, with fmt's text TOLD by the authors' own Lean function (tested against real Go, not proved from fmt's source: count such statements apart). THE CARD IS WHAT COUNTS. Prove the row's statement (the work); the ties are given (YtibfiblajicdpaaDoorTie.lean); close each card by the builder's one call (the guide's Derived/Test/ToyasCard.lean, 'card_holds'). Laid BY PROGRAM, IN A SANDBOX (cutbox-door.mjs). By AI agents, Wed Nov 11 2026. No macro, syntax, notation, axiom, sorry.
-/
import Derived.Test.YtibfiblajicdpaaDoorRows
import GoSem.ClaimSeven
namespace Go.Proofs.YtibfiblajicdpaaDoor
namespace Rows

/-- THE TIED CARD OF 'lacunalaw06.OpenScopes'. -/
def openScopesCard : Claim7 := { stood := { row := openScopesRow, standIns := [], harness := (true, "3644384ee15cb796cf7f1b971c4e5cbb30a780bc22804e2de31d94004b1de894"), looks := false }, kinds := [], alts := [], laidByText := true, laidKinds := [.listed, .data], laidTests := true, laidLooks := .later }
def OpenScopesCardSaid : Prop := Claim7.holds Tryd.pinned (.plain (OpenSpec.ofChange openScopesSpec)) openScopesCard

/-- THE TIED CARD OF 'lacunalaw06.OpenImplied'. -/
def openImpliedCard : Claim7 := { stood := { row := openImpliedRow, standIns := [], harness := (true, "3644384ee15cb796cf7f1b971c4e5cbb30a780bc22804e2de31d94004b1de894"), looks := false }, kinds := [], alts := [], laidByText := true, laidKinds := [.listed, .data], laidTests := true, laidLooks := .later }
def OpenImpliedCardSaid : Prop := Claim7.holds Tryd.pinned (.plain (OpenSpec.ofChange openImpliedSpec)) openImpliedCard

/-- THE TIED CARD OF 'lacunalaw06.OpenBack'. -/
def openBackCard : Claim7 := { stood := { row := openBackRow, standIns := [], harness := (true, "3644384ee15cb796cf7f1b971c4e5cbb30a780bc22804e2de31d94004b1de894"), looks := false }, kinds := [], alts := [], laidByText := true, laidKinds := [.listed, .data], laidTests := true, laidLooks := .later }
def OpenBackCardSaid : Prop := Claim7.holds Tryd.pinned (.plain (OpenSpec.ofChange openBackSpec)) openBackCard

/-- THE TIED CARD OF 'lacunalaw06.OpenDoes'. -/
def openDoesCard : Claim7 := { stood := { row := openDoesRow, standIns := [], harness := (true, "3644384ee15cb796cf7f1b971c4e5cbb30a780bc22804e2de31d94004b1de894"), looks := false }, kinds := [], alts := [], laidByText := true, laidKinds := [.listed, .data], laidTests := true, laidLooks := .later }
def OpenDoesCardSaid : Prop := Claim7.holds Tryd.pinned (.plain (OpenSpec.ofChange openDoesSpec)) openDoesCard

/-- THE SECOND FORM's CARD OF 'lacunalaw06.OpenScopes'. -/
def openScopesUptoCard : Claim7 := { stood := { row := openScopesUptoRow, standIns := [], harness := (true, "3644384ee15cb796cf7f1b971c4e5cbb30a780bc22804e2de31d94004b1de894"), looks := false }, kinds := [], alts := [], laidByText := true, laidKinds := [.listed, .data], laidTests := true, laidLooks := .later }
def OpenScopesUptoCardSaid : Prop := Claim7.holds Tryd.pinned (.plain (OpenSpec.upto openScopesSpec)) openScopesUptoCard

/-- THE SECOND FORM's CARD OF 'lacunalaw06.OpenImplied'. -/
def openImpliedUptoCard : Claim7 := { stood := { row := openImpliedUptoRow, standIns := [], harness := (true, "3644384ee15cb796cf7f1b971c4e5cbb30a780bc22804e2de31d94004b1de894"), looks := false }, kinds := [], alts := [], laidByText := true, laidKinds := [.listed, .data], laidTests := true, laidLooks := .later }
def OpenImpliedUptoCardSaid : Prop := Claim7.holds Tryd.pinned (.plain (OpenSpec.upto openImpliedSpec)) openImpliedUptoCard

/-- THE SECOND FORM's CARD OF 'lacunalaw06.OpenBack'. -/
def openBackUptoCard : Claim7 := { stood := { row := openBackUptoRow, standIns := [], harness := (true, "3644384ee15cb796cf7f1b971c4e5cbb30a780bc22804e2de31d94004b1de894"), looks := false }, kinds := [], alts := [], laidByText := true, laidKinds := [.listed, .data], laidTests := true, laidLooks := .later }
def OpenBackUptoCardSaid : Prop := Claim7.holds Tryd.pinned (.plain (OpenSpec.upto openBackSpec)) openBackUptoCard

/-- THE SECOND FORM's CARD OF 'lacunalaw06.OpenDoes'. -/
def openDoesUptoCard : Claim7 := { stood := { row := openDoesUptoRow, standIns := [], harness := (true, "3644384ee15cb796cf7f1b971c4e5cbb30a780bc22804e2de31d94004b1de894"), looks := false }, kinds := [], alts := [], laidByText := true, laidKinds := [.listed, .data], laidTests := true, laidLooks := .later }
def OpenDoesUptoCardSaid : Prop := Claim7.holds Tryd.pinned (.plain (OpenSpec.upto openDoesSpec)) openDoesUptoCard
end Rows
end Go.Proofs.YtibfiblajicdpaaDoor
