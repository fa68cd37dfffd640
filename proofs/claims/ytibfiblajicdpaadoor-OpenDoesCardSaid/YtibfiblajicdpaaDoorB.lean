/- Contract: is an element one of some names that blanks part, in the program's way. -/
import Derived.Test.YtibfiblajicdpaaDoorA
import Derived.Test.YtibfiblajicdpaaDoorWord
namespace Go.Proofs.YtibfiblajicdpaaDoor
open Go Go.RowKit

/-- of SpaceHtml, and one of some names -/
def isB (sp nm ws : ByteArray) : Bool := (sp.toList == [104, 116, 109, 108]) && amongL nm.data.toList [] ws.data.toList

set_option maxHeartbeats 400000 in
theorem is_any (i : Int) (sp nm ws : ByteArray) (w : World) (hg : Glob w) (hok : WordsOk ws) :
    Calls Tryd.prog 27 #[.agg #[.int .i64 i, .string sp, .string nm], .string ws] w fun e w' => e = .returned (.bool (isB sp nm ws)) ∧ Below w.heap.size w w' := by
  by_cases h : sp.toList = [104, 116, 109, 108]
  · have hd : (sp.toList == [104, 116, 109, 108]) = true := by simpa using h
    have e1 : isB sp nm ws = Lib.containsS (fieldsV ws) nm := by rw [isB, hd, hok.contains]; rfl
    have H1 := Lib.hid e1
    clear e1
    go_enter Tryd.func27, Tryd.ntmps27
    go_wp2_with fail
    have hg1 := (hg.alloc (.cells #[.int .i64 i, .string sp, .string nm] 30)).drew
    have hlen : (fieldsV ws).length ≤ 9223372036854775807 := fieldsV_small hok
    go_region_with (first
      | (go_at_call 55; refine (fields_any ws _ hg1 hok).mono ?_; rintro e w' ⟨rfl, rfl⟩)
      | (go_at_call 54; refine (contains_any _ _ (fieldsV ws) nm 9 hlen (by exact heap_two _ _ _)).mono ?_; rintro e w' ⟨rfl, rfl⟩))
    all_goals
      go_wp2
      go_ret
      exact ⟨ret_bool H1.out.symm, (((Below.refl _ _).alloc (Nat.le_refl _) _).alloc (by simp) _).drew⟩
  · have hd : (sp.toList == [104, 116, 109, 108]) = false := by simpa using h
    have e1 : isB sp nm ws = false := by rw [isB, hd]; rfl
    have H1 := Lib.hid e1
    clear e1
    go_enter Tryd.func27, Tryd.ntmps27
    go_wp2_with fail
    go_quiet (fail)
    go_wp2
    go_ret
    exact ⟨ret_bool H1.out.symm, bDrewN ((Below.refl _ _).alloc (Nat.le_refl _) _) _⟩
end Go.Proofs.YtibfiblajicdpaaDoor
