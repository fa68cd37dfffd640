/-
  DERIVED. GIVEN WITH THE SEED: THE CARDS: each row of YtdoiopdnencabaaDoorRows.lean that lists a variable, with what it lists TIED to the program's text (the seventh form; the later family's looks); each row that meets fmt, with fmt's text TOLD by the authors' own Lean function (tested against real Go, not proved from fmt's source: count such statements apart). THE CARD IS WHAT COUNTS. Prove the row's statement (the work); the ties are given (YtdoiopdnencabaaDoorTie.lean); close each card by the builder's one call (the guide's Derived/Test/ToyasCard.lean, 'card_holds'). Laid BY PROGRAM, IN A SANDBOX (cutbox-door.mjs). By AI agents, Wed Nov 11 2026. No macro, syntax, notation, axiom, sorry.
-/
import Derived.Test.YtdoiopdnencabaaDoorRows
import GoSem.ClaimSeven
namespace Go.Proofs.YtdoiopdnencabaaDoor
namespace Rows

/-- THE TIED CARD OF 'lacunalaw08.ForeignNames'. -/
def foreignNamesCard : Claim7 := { stood := { row := foreignNamesRow, standIns := [], harness := (true, "fa605716a7fe4be3e66639c2dc034788dfd34e5920f0fca0b8fdaf5f70115ad6"), looks := false }, kinds := [], alts := [], laidByText := true, laidKinds := [.listed, .data], laidTests := true, laidLooks := .later }
def ForeignNamesCardSaid : Prop := Claim7.holds Tryd.pinned (.plain (OpenSpec.ofChange foreignNamesSpec)) foreignNamesCard

/-- THE TIED CARD OF 'lacunalaw08.ForeignOnce'. -/
def foreignOnceCard : Claim7 := { stood := { row := foreignOnceRow, standIns := [], harness := (true, "fa605716a7fe4be3e66639c2dc034788dfd34e5920f0fca0b8fdaf5f70115ad6"), looks := false }, kinds := [], alts := [], laidByText := true, laidKinds := [.listed, .data], laidTests := true, laidLooks := .later }
def ForeignOnceCardSaid : Prop := Claim7.holds Tryd.pinned (.plain (OpenSpec.ofChange foreignOnceSpec)) foreignOnceCard

/-- THE TIED CARD OF 'lacunalaw08.ForeignRules'. -/
def foreignRulesCard : Claim7 := { stood := { row := foreignRulesRow, standIns := [], harness := (true, "fa605716a7fe4be3e66639c2dc034788dfd34e5920f0fca0b8fdaf5f70115ad6"), looks := false }, kinds := [], alts := [], laidByText := true, laidKinds := [.listed, .data], laidTests := true, laidLooks := .later }
def ForeignRulesCardSaid : Prop := Claim7.holds Tryd.pinned (.plain (OpenSpec.ofChange foreignRulesSpec)) foreignRulesCard

/-- THE TIED CARD OF 'lacunalaw08.ForeignHtml'. -/
def foreignHtmlCard : Claim7 := { stood := { row := foreignHtmlRow, standIns := [], harness := (true, "fa605716a7fe4be3e66639c2dc034788dfd34e5920f0fca0b8fdaf5f70115ad6"), looks := false }, kinds := [], alts := [], laidByText := true, laidKinds := [.listed, .data], laidTests := true, laidLooks := .later }
def ForeignHtmlCardSaid : Prop := Claim7.holds Tryd.pinned (.plain (OpenSpec.ofChange foreignHtmlSpec)) foreignHtmlCard

/-- THE SECOND FORM's CARD OF 'lacunalaw08.ForeignNames'. -/
def foreignNamesUptoCard : Claim7 := { stood := { row := foreignNamesUptoRow, standIns := [], harness := (true, "fa605716a7fe4be3e66639c2dc034788dfd34e5920f0fca0b8fdaf5f70115ad6"), looks := false }, kinds := [], alts := [], laidByText := true, laidKinds := [.listed, .data], laidTests := true, laidLooks := .later }
def ForeignNamesUptoCardSaid : Prop := Claim7.holds Tryd.pinned (.plain (OpenSpec.upto foreignNamesSpec)) foreignNamesUptoCard

/-- THE SECOND FORM's CARD OF 'lacunalaw08.ForeignOnce'. -/
def foreignOnceUptoCard : Claim7 := { stood := { row := foreignOnceUptoRow, standIns := [], harness := (true, "fa605716a7fe4be3e66639c2dc034788dfd34e5920f0fca0b8fdaf5f70115ad6"), looks := false }, kinds := [], alts := [], laidByText := true, laidKinds := [.listed, .data], laidTests := true, laidLooks := .later }
def ForeignOnceUptoCardSaid : Prop := Claim7.holds Tryd.pinned (.plain (OpenSpec.upto foreignOnceSpec)) foreignOnceUptoCard

/-- THE SECOND FORM's CARD OF 'lacunalaw08.ForeignRules'. -/
def foreignRulesUptoCard : Claim7 := { stood := { row := foreignRulesUptoRow, standIns := [], harness := (true, "fa605716a7fe4be3e66639c2dc034788dfd34e5920f0fca0b8fdaf5f70115ad6"), looks := false }, kinds := [], alts := [], laidByText := true, laidKinds := [.listed, .data], laidTests := true, laidLooks := .later }
def ForeignRulesUptoCardSaid : Prop := Claim7.holds Tryd.pinned (.plain (OpenSpec.upto foreignRulesSpec)) foreignRulesUptoCard

/-- THE SECOND FORM's CARD OF 'lacunalaw08.ForeignHtml'. -/
def foreignHtmlUptoCard : Claim7 := { stood := { row := foreignHtmlUptoRow, standIns := [], harness := (true, "fa605716a7fe4be3e66639c2dc034788dfd34e5920f0fca0b8fdaf5f70115ad6"), looks := false }, kinds := [], alts := [], laidByText := true, laidKinds := [.listed, .data], laidTests := true, laidLooks := .later }
def ForeignHtmlUptoCardSaid : Prop := Claim7.holds Tryd.pinned (.plain (OpenSpec.upto foreignHtmlSpec)) foreignHtmlUptoCard
end Rows
end Go.Proofs.YtdoiopdnencabaaDoor
