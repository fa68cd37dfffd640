/- Contracts of the small functions on one element: the reference's and the program's. -/
import Derived.Test.YtibfiblajicdpaaDoorB
namespace Go.Proofs.YtibfiblajicdpaaDoor
open Go Go.RowKit

/-! ### the words -/
def htmlL : List UInt8 := ([104, 116, 109, 108] : List UInt8)
def mathW : ByteArray := (⟨#[109, 105, 32, 109, 111, 32, 109, 110, 32, 109, 115, 32, 109, 116, 101, 120, 116, 32, 97, 110, 110, 111, 116, 97, 116, 105, 111, 110, 45, 120, 109, 108]⟩ : ByteArray)
def svgW : ByteArray := (⟨#[102, 111, 114, 101, 105, 103, 110, 79, 98, 106, 101, 99, 116, 32, 100, 101, 115, 99, 32, 116, 105, 116, 108, 101]⟩ : ByteArray)
def specialL : List UInt8 := ([97, 100, 100, 114, 101, 115, 115, 32, 97, 112, 112, 108, 101, 116, 32, 97, 114, 101, 97, 32, 97, 114, 116, 105, 99, 108, 101, 32, 97, 115, 105, 100, 101, 32, 98, 97, 115, 101, 32, 98, 97, 115, 101, 102, 111, 110, 116, 32, 98, 103, 115, 111, 117, 110, 100, 32, 98, 108, 111, 99, 107, 113, 117, 111, 116, 101, 32, 98, 111, 100, 121, 32, 98, 114, 32, 98, 117, 116, 116, 111, 110, 32, 99, 97, 112, 116, 105, 111, 110, 32, 99, 101, 110, 116, 101, 114, 32, 99, 111, 108, 32, 99, 111, 108, 103, 114, 111, 117, 112, 32, 100, 100, 32, 100, 101, 116, 97, 105, 108, 115, 32, 100, 105, 114, 32, 100, 105, 118, 32, 100, 108, 32, 100, 116, 32, 101, 109, 98, 101, 100, 32, 102, 105, 101, 108, 100, 115, 101, 116, 32, 102, 105, 103, 99, 97, 112, 116, 105, 111, 110, 32, 102, 105, 103, 117, 114, 101, 32, 102, 111, 111, 116, 101, 114, 32, 102, 111, 114, 109, 32, 102, 114, 97, 109, 101, 32, 102, 114, 97, 109, 101, 115, 101, 116, 32, 104, 49, 32, 104, 50, 32, 104, 51, 32, 104, 52, 32, 104, 53, 32, 104, 54, 32, 104, 101, 97, 100, 32, 104, 101, 97, 100, 101, 114, 32, 104, 103, 114, 111, 117, 112, 32, 104, 114, 32, 104, 116, 109, 108, 32, 105, 102, 114, 97, 109, 101, 32, 105, 109, 103, 32, 105, 110, 112, 117, 116, 32, 107, 101, 121, 103, 101, 110, 32, 108, 105, 32, 108, 105, 110, 107, 32, 108, 105, 115, 116, 105, 110, 103, 32, 109, 97, 105, 110, 32, 109, 97, 114, 113, 117, 101, 101, 32, 109, 101, 110, 117, 32, 109, 101, 116, 97, 32, 110, 97, 118, 32, 110, 111, 101, 109, 98, 101, 100, 32, 110, 111, 102, 114, 97, 109, 101, 115, 32, 110, 111, 115, 99, 114, 105, 112, 116, 32, 111, 98, 106, 101, 99, 116, 32, 111, 108, 32, 112, 32, 112, 97, 114, 97, 109, 32, 112, 108, 97, 105, 110, 116, 101, 120, 116, 32, 112, 114, 101, 32, 115, 99, 114, 105, 112, 116, 32, 115, 101, 97, 114, 99, 104, 32, 115, 101, 99, 116, 105, 111, 110, 32, 115, 101, 108, 101, 99, 116, 32, 115, 111, 117, 114, 99, 101, 32, 115, 116, 121, 108, 101, 32, 115, 117, 109, 109, 97, 114, 121, 32, 116, 97, 98, 108, 101, 32, 116, 98, 111, 100, 121, 32, 116, 100, 32, 116, 101, 109, 112, 108, 97, 116, 101, 32, 116, 101, 120, 116, 97, 114, 101, 97, 32, 116, 102, 111, 111, 116, 32, 116, 104, 32, 116, 104, 101, 97, 100, 32, 116, 105, 116, 108, 101, 32, 116, 114, 32, 116, 114, 97, 99, 107, 32, 117, 108, 32, 119, 98, 114, 32, 120, 109, 112] : List UInt8)
def specialW : ByteArray := ⟨specialL.toArray⟩
def plainW : ByteArray := (⟨#[97, 112, 112, 108, 101, 116, 32, 99, 97, 112, 116, 105, 111, 110, 32, 104, 116, 109, 108, 32, 116, 97, 98, 108, 101, 32, 116, 100, 32, 116, 104, 32, 109, 97, 114, 113, 117, 101, 101, 32, 111, 98, 106, 101, 99, 116, 32, 116, 101, 109, 112, 108, 97, 116, 101]⟩ : ByteArray)
def listW : ByteArray := (⟨#[111, 108, 32, 117, 108]⟩ : ByteArray)
def buttonW : ByteArray := (⟨#[98, 117, 116, 116, 111, 110]⟩ : ByteArray)
def tableW : ByteArray := (⟨#[104, 116, 109, 108, 32, 116, 97, 98, 108, 101, 32, 116, 101, 109, 112, 108, 97, 116, 101]⟩ : ByteArray)
def selectW : ByteArray := (⟨#[111, 112, 116, 103, 114, 111, 117, 112, 32, 111, 112, 116, 105, 111, 110]⟩ : ByteArray)

/-- math's and svg's points -/
def pointB (sp nm : ByteArray) : Bool :=
  if (sp.toList == [109, 97, 116, 104]) = true then amongL nm.data.toList [] mathW.data.toList
  else if (sp.toList == [115, 118, 103]) = true then amongL nm.data.toList [] svgW.data.toList
  else false

def specialB (sp nm : ByteArray) : Bool := pointB sp nm || isB sp nm specialW

/-- where a scope ends -/
def endsB (scope : Int) (sp nm : ByteArray) : Bool :=
  if scope = 0 then pointB sp nm || isB sp nm plainW
  else if scope = 1 then pointB sp nm || isB sp nm plainW || isB sp nm listW
  else if scope = 2 then pointB sp nm || isB sp nm plainW || isB sp nm buttonW
  else if scope = 3 then isB sp nm tableW
  else if scope = 4 then !isB sp nm selectW
  else false

set_option maxHeartbeats 400000 in
theorem is_ref (i : Int) (sp nm ws : ByteArray) (w : World) (hws : ws.size ≤ 100000) :
    Calls Tryd.prog 62 #[.agg #[.int .i64 i, .string sp, .string nm], .string ws] w fun e w' => e = .returned (.bool (isB sp nm ws)) ∧ Below w.heap.size w w' := by
  by_cases h : sp.toList = [104, 116, 109, 108]
  · have e1 : isB sp nm ws = amongL nm.data.toList [] ws.data.toList := by simp [isB, h]
    have H1 := Lib.hid e1
    clear e1
    go_enter Tryd.func62, Tryd.ntmps62
    go_wp2_with (go_at_call 64; refine (among_any nm ws _ hws).mono ?_; rintro e w' ⟨rfl, rfl⟩)
    go_ret
    exact ⟨ret_bool H1.out.symm, (Below.refl _ _).alloc (Nat.le_refl _) _⟩
  · have e1 : isB sp nm ws = false := by simp [isB, h]
    have H1 := Lib.hid e1
    clear e1
    go_enter Tryd.func62, Tryd.ntmps62
    go_wp2_with fail
    go_ret
    exact ⟨ret_bool H1.out.symm, (Below.refl _ _).alloc (Nat.le_refl _) _⟩

/-- math and svg are not html -/
theorem isB_math {sp : ByteArray} (h : (sp.toList == [109, 97, 116, 104]) = true) (nm ws : ByteArray) : isB sp nm ws = false := by
  rw [isB, eq_of_beq h]; rfl
theorem isB_svg {sp : ByteArray} (h : (sp.toList == [115, 118, 103]) = true) (nm ws : ByteArray) : isB sp nm ws = false := by
  rw [isB, eq_of_beq h]; rfl
theorem special_math {sp nm : ByteArray} (h : (sp.toList == [109, 97, 116, 104]) = true) : specialB sp nm = amongL nm.data.toList [] mathW.data.toList := by
  rw [specialB, isB_math h, pointB, if_pos h, Bool.or_false]
theorem special_svg {sp nm : ByteArray} (h0 : (sp.toList == [109, 97, 116, 104]) = false) (h : (sp.toList == [115, 118, 103]) = true) : specialB sp nm = amongL nm.data.toList [] svgW.data.toList := by
  rw [specialB, isB_svg h, pointB, if_neg (by simp [h0]), if_pos h, Bool.or_false]
theorem special_else {sp nm : ByteArray} (h0 : (sp.toList == [109, 97, 116, 104]) = false) (h : (sp.toList == [115, 118, 103]) = false) : specialB sp nm = isB sp nm specialW := by
  rw [specialB, pointB, if_neg (by simp [h0]), if_neg (by simp [h]), Bool.false_or]

theorem mathOk : WordsOk mathW := ⟨by decide, by decide +kernel, by decide +kernel⟩
theorem svgOk : WordsOk svgW := ⟨by decide, by decide +kernel, by decide +kernel⟩
theorem specialOk : WordsOk specialW := ⟨by decide +kernel, by decide +kernel, by decide +kernel⟩
theorem plainOk : WordsOk plainW := ⟨by decide, by decide +kernel, by decide +kernel⟩
theorem tableOk : WordsOk tableW := ⟨by decide, by decide +kernel, by decide +kernel⟩
theorem selectOk : WordsOk selectW := ⟨by decide, by decide +kernel, by decide +kernel⟩

def mathZ : List ByteArray := [(⟨#[109, 105]⟩ : ByteArray), (⟨#[109, 111]⟩ : ByteArray), (⟨#[109, 110]⟩ : ByteArray), (⟨#[109, 115]⟩ : ByteArray), (⟨#[109, 116, 101, 120, 116]⟩ : ByteArray), (⟨#[97, 110, 110, 111, 116, 97, 116, 105, 111, 110, 45, 120, 109, 108]⟩ : ByteArray)]
def svgZ : List ByteArray := [(⟨#[102, 111, 114, 101, 105, 103, 110, 79, 98, 106, 101, 99, 116]⟩ : ByteArray), (⟨#[100, 101, 115, 99]⟩ : ByteArray), (⟨#[116, 105, 116, 108, 101]⟩ : ByteArray)]
theorem mathZ_eq (nm : ByteArray) : Lib.containsS mathZ nm = amongL nm.data.toList [] mathW.data.toList := by
  rw [← mathOk.contains]; congr 1
theorem svgZ_eq (nm : ByteArray) : Lib.containsS svgZ nm = amongL nm.data.toList [] svgW.data.toList := by
  rw [← svgOk.contains]; congr 1

set_option maxRecDepth 100000 in
set_option maxHeartbeats 400000 in
theorem special_ref (i : Int) (sp nm : ByteArray) (w : World) :
    Calls Tryd.prog 49 #[.agg #[.int .i64 i, .string sp, .string nm]] w fun e w' => e = .returned (.bool (specialB sp nm)) ∧ Below w.heap.size w w' := by
  go_enter Tryd.func49, Tryd.ntmps49
  go_wp2_with fail
  · refine (among_any nm mathW _ mathOk.size).mono ?_
    rintro e w' ⟨rfl, rfl⟩
    go_wp2
    go_ret
    exact ⟨ret_bool (special_math ‹_›).symm, (Below.refl _ _).alloc (Nat.le_refl _) _⟩
  · refine (among_any nm svgW _ svgOk.size).mono ?_
    rintro e w' ⟨rfl, rfl⟩
    go_wp2
    go_ret
    exact ⟨ret_bool (special_svg ‹_› ‹_›).symm, (Below.refl _ _).alloc (Nat.le_refl _) _⟩
  · refine (is_ref i sp nm specialW _ specialOk.size).mono ?_
    rintro e w' ⟨rfl, hb⟩
    go_wp2
    go_ret
    exact ⟨ret_bool (special_else ‹_› ‹_›).symm, ((Below.refl _ _).alloc (Nat.le_refl _) _).trans (hb.mono (by simp))⟩

set_option maxHeartbeats 400000 in
theorem point_any (i : Int) (sp nm : ByteArray) (w : World) :
    Calls Tryd.prog 51 #[.agg #[.int .i64 i, .string sp, .string nm]] w fun e w' => e = .returned (.bool (pointB sp nm)) ∧ Below w.heap.size w w' := by
  go_enter Tryd.func51, Tryd.ntmps51
  go_wp2_with fail
  · refine (contains_any _ _ mathZ nm 9 (by decide) (by exact (heap_two _ _ _))).mono ?_
    rintro e w' ⟨rfl, rfl⟩
    go_wp2
    go_ret
    exact ⟨ret_bool (by rw [mathZ_eq, pointB, if_pos ‹_›]), ((Below.refl _ _).alloc (Nat.le_refl _) _).alloc (by simp) _⟩
  · refine (contains_any _ _ svgZ nm 9 (by decide) (by exact (heap_two _ _ _))).mono ?_
    rintro e w' ⟨rfl, rfl⟩
    go_wp2
    go_ret
    have h0 : (sp.toList == [109, 97, 116, 104]) = false := ‹_›
    exact ⟨ret_bool (by rw [svgZ_eq, pointB, if_neg (by simp [h0]), if_pos ‹_›]), ((Below.refl _ _).alloc (Nat.le_refl _) _).alloc (by simp) _⟩
  · go_ret
    have h0 : (sp.toList == [109, 97, 116, 104]) = false := ‹_›
    have h1 : (sp.toList == [115, 118, 103]) = false := ‹_›
    exact ⟨ret_bool (by rw [pointB, if_neg (by simp [h0]), if_neg (by simp [h1])]), (Below.refl _ _).alloc (Nat.le_refl _) _⟩

set_option maxRecDepth 100000 in
set_option maxHeartbeats 400000 in
theorem special_any (i : Int) (sp nm : ByteArray) (w : World) (hg : Glob w) :
    Calls Tryd.prog 21 #[.agg #[.int .i64 i, .string sp, .string nm]] w fun e w' => e = .returned (.bool (specialB sp nm)) ∧ Below w.heap.size w w' := by
  have hg1 := hg.alloc (.cells #[.int .i64 i, .string sp, .string nm] 30)
  by_cases hp : pointB sp nm = true
  · have e1 : specialB sp nm = true := by rw [specialB, hp]; rfl
    have H1 := Lib.hid e1; clear e1
    have H2 := Lib.hid hp; clear hp
    go_enter Tryd.func21, Tryd.ntmps21
    go_wp2_with (go_at_call 51; refine (point_any i sp nm _).mono ?_; rintro e w' ⟨rfl, hb⟩; rw [H2.out])
    go_ret
    exact ⟨ret_bool H1.out.symm, ((Below.refl _ _).alloc (Nat.le_refl _) _).trans (hb.mono (by simp))⟩
  · have e1 : specialB sp nm = isB sp nm specialW := by rw [specialB]; simp [hp]
    have hp' : pointB sp nm = false := by simpa using hp
    have H1 := Lib.hid e1; clear e1
    have H2 := Lib.hid hp'; clear hp hp'
    go_enter Tryd.func21, Tryd.ntmps21
    go_wp2_with fail
    refine (point_any i sp nm _).mono ?_
    rintro e w' ⟨rfl, hb⟩
    rw [H2.out]
    have hc0 : w'.cell? ⟨w.heap.size, 0, none⟩ = some (.int .i64 i) := (hb.cell (p := ⟨w.heap.size, 0, none⟩) (by simp)).trans (by simp [go_sem])
    have hc1 : w'.cell? ⟨w.heap.size, 1, none⟩ = some (.string sp) := (hb.cell (p := ⟨w.heap.size, 1, none⟩) (by simp)).trans (by simp [go_sem])
    have hc2 : w'.cell? ⟨w.heap.size, 2, none⟩ = some (.string nm) := (hb.cell (p := ⟨w.heap.size, 2, none⟩) (by simp)).trans (by simp [go_sem])
    have hgw := hg1.below hg1.lt hb
    go_wp2_with fail
    refine (is_any i sp nm specialW _ hgw specialOk).mono ?_
    rintro e w2 ⟨rfl, hb2⟩
    go_wp2
    go_ret
    exact ⟨ret_bool H1.out.symm, (((Below.refl _ _).alloc (Nat.le_refl _) _).trans (hb.mono (by simp))).trans (hb2.mono (by have := hb.size; simp at this; omega))⟩
end Go.Proofs.YtibfiblajicdpaaDoor
