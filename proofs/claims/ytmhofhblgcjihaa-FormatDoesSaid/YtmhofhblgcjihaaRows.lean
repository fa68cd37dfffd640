/-
  No cell of these rows narrows 'for every input' (looked for: loops, veiled, ifaces, maps, wideKeys, modest, calm, conditions, laid).
  DERIVED. THE GIVEN ROWS OF THIS SEAT. 4 by the template 'for every input the law returns true; each argument reads behind the call as it read before'; 0 by the template 'total and deterministic' (their statements: YtmhofhblgcjihaaTotals.lean).
  GIVEN WITH THE SEED: the statements are not yours to turn. If you find one false, say at which input.
  Laid BY PROGRAM, IN A SANDBOX (cutbox-rows.mjs): the forced cells as the released guide's own fill.sh prints them over the translation 147ec0b376c9ac70… (all of the seat's roots in one cut). By AI agents, Wed Nov 11 2026. No macro, syntax, notation, axiom, sorry.
-/
import Derived.Test.YtmhofhblgcjihaaChecked
import GoSem.Claim
import GoSem.ClaimJoined
import GoSem.ClaimMapViews
import Derived.JoinedTies
import Derived.KernelRfl
namespace Go.Proofs.Ytmhofhblgcjihaa
/- THE CELL 'sum', in the pinned program and in every row, IS THE sha256 OF THE DUMP (.gsa) THAT YtmhofhblgcjihaaProg.lean LOADS. Nothing in Lean hashes anything: it is a label: what it is worth is what the hold of that sum in a sandbox is worth. -/
noncomputable def Try.pinned : Pinned := { name := "ytmhofhblgcjihaa", sum := "147ec0b376c9ac705e2ab29c05a8e066104770f9bc09be7b15fa193052e8fe68", checked := Try.checked }
namespace Rows
def none {H : Type} : Left H := { results := [], args := [] }

/-- 'lacunalaw07.FormatFinds': WHATEVER THE INPUT: true; the input reads as it did. -/
def formatFindsSpec : ChangeSpec := { name := "formatFinds", fn := fun _ => fun
  | [d1, d2] => { results := [.lit (.bool true)], args := [d1, d2] }
  | _ => none }
def formatFindsRow : OpenClaim := { program := "ytmhofhblgcjihaa", sum := "147ec0b376c9ac705e2ab29c05a8e066104770f9bc09be7b15fa193052e8fe68", func := "lacuna/lacunalaw07.FormatFinds", spec := "formatFinds", unfollowed := true, recurses := true, apart := false }
def FormatFindsSaid : Prop := formatFindsRow.holds Try.pinned (OpenSpec.ofChange formatFindsSpec)

/-- ITS FALSE NEIGHBOUR: 'it returns false'. Refute it at one input. -/
def formatFindsWrong : ChangeSpec := { name := "formatFinds", fn := fun _ => fun
  | [d1, d2] => { results := [.lit (.bool false)], args := [d1, d2] }
  | _ => none }
def FormatFindsWrongFalsely : Prop := formatFindsRow.holds Try.pinned (OpenSpec.ofChange formatFindsWrong)

/-- 'lacunalaw07.FormatThree': WHATEVER THE INPUT: true; the input reads as it did. -/
def formatThreeSpec : ChangeSpec := { name := "formatThree", fn := fun _ => fun
  | [d] => { results := [.lit (.bool true)], args := [d] }
  | _ => none }
def formatThreeRow : OpenClaim := { program := "ytmhofhblgcjihaa", sum := "147ec0b376c9ac705e2ab29c05a8e066104770f9bc09be7b15fa193052e8fe68", func := "lacuna/lacunalaw07.FormatThree", spec := "formatThree", unfollowed := true, recurses := true, apart := false }
def FormatThreeSaid : Prop := formatThreeRow.holds Try.pinned (OpenSpec.ofChange formatThreeSpec)

/-- ITS FALSE NEIGHBOUR: 'it returns false'. Refute it at one input. -/
def formatThreeWrong : ChangeSpec := { name := "formatThree", fn := fun _ => fun
  | [d] => { results := [.lit (.bool false)], args := [d] }
  | _ => none }
def FormatThreeWrongFalsely : Prop := formatThreeRow.holds Try.pinned (OpenSpec.ofChange formatThreeWrong)

/-- 'lacunalaw07.FormatClears': WHATEVER THE INPUT: true; the input reads as it did. -/
def formatClearsSpec : ChangeSpec := { name := "formatClears", fn := fun _ => fun
  | [d1, d2] => { results := [.lit (.bool true)], args := [d1, d2] }
  | _ => none }
def formatClearsRow : OpenClaim := { program := "ytmhofhblgcjihaa", sum := "147ec0b376c9ac705e2ab29c05a8e066104770f9bc09be7b15fa193052e8fe68", func := "lacuna/lacunalaw07.FormatClears", spec := "formatClears", unfollowed := true, recurses := true, apart := false }
def FormatClearsSaid : Prop := formatClearsRow.holds Try.pinned (OpenSpec.ofChange formatClearsSpec)

/-- ITS FALSE NEIGHBOUR: 'it returns false'. Refute it at one input. -/
def formatClearsWrong : ChangeSpec := { name := "formatClears", fn := fun _ => fun
  | [d1, d2] => { results := [.lit (.bool false)], args := [d1, d2] }
  | _ => none }
def FormatClearsWrongFalsely : Prop := formatClearsRow.holds Try.pinned (OpenSpec.ofChange formatClearsWrong)

/-- 'lacunalaw07.FormatDoes': WHATEVER THE INPUT: true; the input reads as it did. -/
def formatDoesSpec : ChangeSpec := { name := "formatDoes", fn := fun _ => fun
  | [d] => { results := [.lit (.bool true)], args := [d] }
  | _ => none }
def formatDoesRow : OpenClaim := { program := "ytmhofhblgcjihaa", sum := "147ec0b376c9ac705e2ab29c05a8e066104770f9bc09be7b15fa193052e8fe68", func := "lacuna/lacunalaw07.FormatDoes", spec := "formatDoes", inPlace := ["slices.overlaps[lacuna/api.Entry]"], unfollowed := true, recurses := true, apart := false }
def FormatDoesSaid : Prop := formatDoesRow.holds Try.pinned (OpenSpec.ofChange formatDoesSpec)

/-- ITS FALSE NEIGHBOUR: 'it returns false'. Refute it at one input. -/
def formatDoesWrong : ChangeSpec := { name := "formatDoes", fn := fun _ => fun
  | [d] => { results := [.lit (.bool false)], args := [d] }
  | _ => none }
def FormatDoesWrongFalsely : Prop := formatDoesRow.holds Try.pinned (OpenSpec.ofChange formatDoesWrong)

/- THE SECOND FORM. 'bulk': how many values and letters a reading holds, each counted each time it is reached (what is shared counts as often as it is met; a slice's spare places count too). A statement '..UptoSaid' is the law's where the arguments, and the package variables that the reading takes, are together of bulk at most 1048576: NARROWER than '..Said'. Prove '..Said' where nothing that the law and all that it calls make is longer than what came in: it says more and counts as full. Else prove '..UptoSaid'. A law counts once. -/
mutual
def uptoBulk {H : Type} : DataW H → Nat
  | .lit (.string bytes) => bytes.length + 1
  | .lit _ => 1
  | .nil => 1
  | .ptr d => uptoBulk d + 1
  | .slice elems spare => uptoBulkAll elems + uptoBulkAll spare + 1
  | .agg parts => uptoBulkAll parts + 1
  | .iface _ d => uptoBulk d + 1
  | .map entries => uptoBulkEntries entries + 1
  | .held _ => 1
def uptoBulkAll {H : Type} : List (DataW H) → Nat
  | [] => 0
  | d :: r => uptoBulk d + uptoBulkAll r
def uptoBulkEntries {H : Type} : List (Lit × DataW H) → Nat
  | [] => 0
  | x :: r => uptoBulkEntry x + uptoBulkEntries r
def uptoBulkEntry {H : Type} : Lit × DataW H → Nat
  | (.string bytes, d) => bytes.length + uptoBulk d + 1
  | (_, d) => uptoBulk d + 1
 end
def uptoSmall : (H : Type) → List (DataW H) → Bool := fun _ ds => decide (uptoBulkAll ds ≤ 1048576)
def OpenSpec.upto (s : _root_.Go.ChangeSpec) : _root_.Go.OpenSpec := { _root_.Go.OpenSpec.ofChange s with cond := some uptoSmall }

/-- 'lacunalaw07.FormatFinds', WHERE WHAT IT READS IS OF BULK AT MOST 1048576: true; the input reads as it did. -/
def formatFindsUptoRow : OpenClaim := { program := "ytmhofhblgcjihaa", sum := "147ec0b376c9ac705e2ab29c05a8e066104770f9bc09be7b15fa193052e8fe68", func := "lacuna/lacunalaw07.FormatFinds", spec := "formatFinds", unfollowed := true, recurses := true, apart := false, narrowed := true }
def FormatFindsUptoSaid : Prop := formatFindsUptoRow.holds Try.pinned (OpenSpec.upto formatFindsSpec)

/-- 'lacunalaw07.FormatThree', WHERE WHAT IT READS IS OF BULK AT MOST 1048576: true; the input reads as it did. -/
def formatThreeUptoRow : OpenClaim := { program := "ytmhofhblgcjihaa", sum := "147ec0b376c9ac705e2ab29c05a8e066104770f9bc09be7b15fa193052e8fe68", func := "lacuna/lacunalaw07.FormatThree", spec := "formatThree", unfollowed := true, recurses := true, apart := false, narrowed := true }
def FormatThreeUptoSaid : Prop := formatThreeUptoRow.holds Try.pinned (OpenSpec.upto formatThreeSpec)

/-- 'lacunalaw07.FormatClears', WHERE WHAT IT READS IS OF BULK AT MOST 1048576: true; the input reads as it did. -/
def formatClearsUptoRow : OpenClaim := { program := "ytmhofhblgcjihaa", sum := "147ec0b376c9ac705e2ab29c05a8e066104770f9bc09be7b15fa193052e8fe68", func := "lacuna/lacunalaw07.FormatClears", spec := "formatClears", unfollowed := true, recurses := true, apart := false, narrowed := true }
def FormatClearsUptoSaid : Prop := formatClearsUptoRow.holds Try.pinned (OpenSpec.upto formatClearsSpec)

/-- 'lacunalaw07.FormatDoes', WHERE WHAT IT READS IS OF BULK AT MOST 1048576: true; the input reads as it did. -/
def formatDoesUptoRow : OpenClaim := { program := "ytmhofhblgcjihaa", sum := "147ec0b376c9ac705e2ab29c05a8e066104770f9bc09be7b15fa193052e8fe68", func := "lacuna/lacunalaw07.FormatDoes", spec := "formatDoes", inPlace := ["slices.overlaps[lacuna/api.Entry]"], unfollowed := true, recurses := true, apart := false, narrowed := true }
def FormatDoesUptoSaid : Prop := formatDoesUptoRow.holds Try.pinned (OpenSpec.upto formatDoesSpec)

end Rows
end Go.Proofs.Ytmhofhblgcjihaa
