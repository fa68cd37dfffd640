/-
  DERIVED. GIVEN WITH THE SEED: THE CARDS: each row of YtckaoeloofbklaaGreatDoorRows.lean that lists a variable, with what it lists TIED to the program's text (the seventh form; the later family's looks); each row that meets fmt, with fmt's text TOLD by the authors' own Lean function (tested against real Go, not proved from fmt's source: count such statements apart). THE CARD IS WHAT COUNTS. Prove the row's statement (the work); the ties are given (YtckaoeloofbklaaGreatDoorTie.lean); close each card by the builder's one call (the guide's Derived/Test/ToyasCard.lean, 'card_holds'). Laid BY PROGRAM, IN A SANDBOX (cutbox-door.mjs). By AI agents, Wed Nov 11 2026. No macro, syntax, notation, axiom, sorry.
-/
import Derived.Test.YtckaoeloofbklaaGreatDoorRows
import GoSem.ClaimSeven
namespace Go.Proofs.YtckaoeloofbklaaGreatDoor
namespace Rows

/-- THE TIED CARD OF 'lacunalaw16.JsonBlanks'. -/
def jsonBlanksCard : Claim7 := { stood := { row := jsonBlanksRow, standIns := [], harness := (true, "98a79d18a05738be422458f03f55411a1eb8667c7cf92d45779168623c4b9854"), looks := true }, kinds := [], alts := [], laidByText := true, laidKinds := [.data, .data, .widerDeep, .widerDeep, .data, .data, .data, .data, .data, .data, .sentinel, .sentinel, .pinned, .pinned, .pinned], laidTests := true, laidLooks := .later }
def JsonBlanksCardSaid : Prop := Claim7.holds Tryz.pinned (.plain (OpenSpec.ofChange jsonBlanksSpec)) jsonBlanksCard

/-- THE TIED CARD OF 'lacunalaw16.JsonShows'. -/
def jsonShowsCard : Claim7 := { stood := { row := jsonShowsRow, standIns := [], harness := (true, "98a79d18a05738be422458f03f55411a1eb8667c7cf92d45779168623c4b9854"), looks := true }, kinds := [], alts := [], laidByText := true, laidKinds := [.data, .data, .widerDeep, .widerDeep, .data, .data, .data, .data, .data, .data, .sentinel, .sentinel, .pinned, .pinned, .pinned], laidTests := true, laidLooks := .later }
def JsonShowsCardSaid : Prop := Claim7.holds Tryz.pinned (.plain (OpenSpec.ofChange jsonShowsSpec)) jsonShowsCard

/-- THE TIED CARD OF 'lacunalaw16.JsonSafe'. -/
def jsonSafeCard : Claim7 := { stood := { row := jsonSafeRow, standIns := [], harness := (true, "98a79d18a05738be422458f03f55411a1eb8667c7cf92d45779168623c4b9854"), looks := true }, kinds := [], alts := [], laidByText := true, laidKinds := [.data, .data, .widerDeep, .widerDeep, .data, .data, .data, .data, .data, .data, .sentinel, .sentinel, .pinned, .pinned, .pinned], laidTests := true, laidLooks := .later }
def JsonSafeCardSaid : Prop := Claim7.holds Tryz.pinned (.plain (OpenSpec.ofChange jsonSafeSpec)) jsonSafeCard

/-- THE TIED CARD OF 'lacunalaw16.JsonStrings'. -/
def jsonStringsCard : Claim7 := { stood := { row := jsonStringsRow, standIns := [], harness := (true, "98a79d18a05738be422458f03f55411a1eb8667c7cf92d45779168623c4b9854"), looks := true }, kinds := [], alts := [], laidByText := true, laidKinds := [.data, .data, .widerDeep, .widerDeep, .data, .data, .data, .data, .data, .data, .sentinel, .sentinel, .pinned, .pinned, .pinned], laidTests := true, laidLooks := .later }
def JsonStringsCardSaid : Prop := Claim7.holds Tryz.pinned (.plain (OpenSpec.ofChange jsonStringsSpec)) jsonStringsCard

/-- THE SECOND FORM's CARD OF 'lacunalaw16.JsonBlanks'. -/
def jsonBlanksUptoCard : Claim7 := { stood := { row := jsonBlanksUptoRow, standIns := [], harness := (true, "98a79d18a05738be422458f03f55411a1eb8667c7cf92d45779168623c4b9854"), looks := true }, kinds := [], alts := [], laidByText := true, laidKinds := [.data, .data, .widerDeep, .widerDeep, .data, .data, .data, .data, .data, .data, .sentinel, .sentinel, .pinned, .pinned, .pinned], laidTests := true, laidLooks := .later }
def JsonBlanksUptoCardSaid : Prop := Claim7.holds Tryz.pinned (.plain (OpenSpec.upto jsonBlanksSpec)) jsonBlanksUptoCard

/-- THE SECOND FORM's CARD OF 'lacunalaw16.JsonShows'. -/
def jsonShowsUptoCard : Claim7 := { stood := { row := jsonShowsUptoRow, standIns := [], harness := (true, "98a79d18a05738be422458f03f55411a1eb8667c7cf92d45779168623c4b9854"), looks := true }, kinds := [], alts := [], laidByText := true, laidKinds := [.data, .data, .widerDeep, .widerDeep, .data, .data, .data, .data, .data, .data, .sentinel, .sentinel, .pinned, .pinned, .pinned], laidTests := true, laidLooks := .later }
def JsonShowsUptoCardSaid : Prop := Claim7.holds Tryz.pinned (.plain (OpenSpec.upto jsonShowsSpec)) jsonShowsUptoCard

/-- THE SECOND FORM's CARD OF 'lacunalaw16.JsonSafe'. -/
def jsonSafeUptoCard : Claim7 := { stood := { row := jsonSafeUptoRow, standIns := [], harness := (true, "98a79d18a05738be422458f03f55411a1eb8667c7cf92d45779168623c4b9854"), looks := true }, kinds := [], alts := [], laidByText := true, laidKinds := [.data, .data, .widerDeep, .widerDeep, .data, .data, .data, .data, .data, .data, .sentinel, .sentinel, .pinned, .pinned, .pinned], laidTests := true, laidLooks := .later }
def JsonSafeUptoCardSaid : Prop := Claim7.holds Tryz.pinned (.plain (OpenSpec.upto jsonSafeSpec)) jsonSafeUptoCard

/-- THE SECOND FORM's CARD OF 'lacunalaw16.JsonStrings'. -/
def jsonStringsUptoCard : Claim7 := { stood := { row := jsonStringsUptoRow, standIns := [], harness := (true, "98a79d18a05738be422458f03f55411a1eb8667c7cf92d45779168623c4b9854"), looks := true }, kinds := [], alts := [], laidByText := true, laidKinds := [.data, .data, .widerDeep, .widerDeep, .data, .data, .data, .data, .data, .data, .sentinel, .sentinel, .pinned, .pinned, .pinned], laidTests := true, laidLooks := .later }
def JsonStringsUptoCardSaid : Prop := Claim7.holds Tryz.pinned (.plain (OpenSpec.upto jsonStringsSpec)) jsonStringsUptoCard
end Rows
end Go.Proofs.YtckaoeloofbklaaGreatDoor
