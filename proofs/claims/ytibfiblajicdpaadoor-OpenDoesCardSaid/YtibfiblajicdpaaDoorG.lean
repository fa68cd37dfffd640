/- Contract: where a scope ends, in the reference. -/
import Derived.Test.YtibfiblajicdpaaDoorF
namespace Go.Proofs.YtibfiblajicdpaaDoor
open Go Go.RowKit

theorem isB_else {sp : ByteArray} (h : (sp.toList == [104, 116, 109, 108]) = false) (nm ws : ByteArray) : isB sp nm ws = false := by
  rw [isB, h]; rfl

/-- the cells of an element's box behind a call -/
theorem box_cells {w w' : World} {i : Int} {sp nm : ByteArray} {t : TypeId} (hb : Below (w.heap.size + 1) (w.alloc (.cells #[.int .i64 i, .string sp, .string nm] t)) w') :
    w'.cell? ⟨w.heap.size, 0, none⟩ = some (.int .i64 i) ∧ w'.cell? ⟨w.heap.size, 1, none⟩ = some (.string sp) ∧ w'.cell? ⟨w.heap.size, 2, none⟩ = some (.string nm) :=
  ⟨(hb.cell (p := ⟨w.heap.size, 0, none⟩) (by simp)).trans (by simp [go_sem]), (hb.cell (p := ⟨w.heap.size, 1, none⟩) (by simp)).trans (by simp [go_sem]), (hb.cell (p := ⟨w.heap.size, 2, none⟩) (by simp)).trans (by simp [go_sem])⟩

theorem size_box {w w' : World} {o : Obj} (hb : Below (w.alloc o).heap.size (w.alloc o) w') : w.heap.size + 1 ≤ w'.heap.size := by
  have := hb.size; simpa using this

def endsL (scope : Int) (q p : Bool) (sp nm : ByteArray) : Bool :=
  if scope = 0 then q || p else if scope = 1 then (q || p) || isB sp nm listW else if scope = 2 then (q || p) || isB sp nm buttonW
  else if scope = 3 then isB sp nm tableW else if scope = 4 then !isB sp nm selectW else false

theorem endsL_else (scope : Int) (q p : Bool) (sp nm : ByteArray) (h0 : ¬ scope = 0) (h1 : ¬ scope = 1) (h2 : ¬ scope = 2) (h3 : ¬ scope = 3) (h4 : ¬ scope = 4) : endsL scope q p sp nm = false := by simp [endsL, h0, h1, h2, h3, h4]

theorem endsL_eq (scope : Int) (q p : Bool) (sp nm : ByteArray) (hq : pointB sp nm = q) (hp : isB sp nm plainW = p) : endsB scope sp nm = endsL scope q p sp nm := by
  rw [endsB, endsL, hq, hp]

set_option maxHeartbeats 2000000 in
theorem ends_html (scope : Int) (i : Int) (sp nm : ByteArray) (w : World) (p : Bool) (H2 : Hid (isB sp nm plainW = p)) (m1 : (sp.toList == [109, 97, 116, 104]) = false) (m2 : (sp.toList == [115, 118, 103]) = false) :
    Calls Tryd.prog 60 #[.int .u8 scope, .agg #[.int .i64 i, .string sp, .string nm]] w fun e w' => e = .returned (.bool (endsL scope false p sp nm)) ∧ Below w.heap.size w w' := by
  rcases (by omega : scope = 0 ∨ scope = 1 ∨ scope = 2 ∨ scope = 3 ∨ scope = 4 ∨ (¬ scope = 0 ∧ ¬ scope = 1 ∧ ¬ scope = 2 ∧ ¬ scope = 3 ∧ ¬ scope = 4)) with rfl | rfl | rfl | rfl | rfl | ⟨h0, h1, h2, h3, h4⟩
  all_goals cases p
  all_goals
    go_enter Tryd.func60, Tryd.ntmps60
    go_wp2_with fail
    refine (is_ref i sp nm plainW _ plainOk.size).mono ?_
    rintro e w' ⟨rfl, hb⟩
    rw [H2.out]
    obtain ⟨c0, c1, c2⟩ := box_cells (by simpa using hb)
    have hsz := size_box hb
    go_wp2_with (go_at_call 62; refine (is_ref i sp nm _ _ (by decide)).mono ?_; rintro e w2 ⟨rfl, hb2⟩)
    go_ret
    refine ⟨ret_bool ?_, ?_⟩
    · first
        | (simp [endsL]; done)
        | (simp [endsL]; rfl)
        | exact (endsL_else scope _ _ sp nm ‹_› ‹_› ‹_› ‹_› ‹_›).symm
    · first
        | exact ((Below.refl _ _).alloc (Nat.le_refl _) _).trans (hb.mono (by simp))
        | exact (((Below.refl _ _).alloc (Nat.le_refl _) _).trans (hb.mono (by simp))).trans (hb2.mono (by omega))

set_option maxHeartbeats 2000000 in
theorem ends_math (scope : Int) (i : Int) (sp nm : ByteArray) (w : World) (q : Bool) (H1 : Hid (amongL nm.data.toList [] mathW.data.toList = q)) (H2 : Hid (∀ ws, isB sp nm ws = false)) (m1 : (sp.toList == [109, 97, 116, 104]) = true) (m2 : (sp.toList == [115, 118, 103]) = false) :
    Calls Tryd.prog 60 #[.int .u8 scope, .agg #[.int .i64 i, .string sp, .string nm]] w fun e w' => e = .returned (.bool (endsL scope q false sp nm)) ∧ Below w.heap.size w w' := by
  rcases (by omega : scope = 0 ∨ scope = 1 ∨ scope = 2 ∨ scope = 3 ∨ scope = 4 ∨ (¬ scope = 0 ∧ ¬ scope = 1 ∧ ¬ scope = 2 ∧ ¬ scope = 3 ∧ ¬ scope = 4)) with rfl | rfl | rfl | rfl | rfl | ⟨h0, h1, h2, h3, h4⟩
  all_goals cases q
  all_goals
    go_enter Tryd.func60, Tryd.ntmps60
    go_wp2_with fail
    refine (among_any nm mathW _ mathOk.size).mono ?_
    rintro e w' ⟨rfl, rfl⟩
    rw [H1.out]
    go_wp2_with fail
    refine (is_ref i sp nm plainW _ plainOk.size).mono ?_
    rintro e w' ⟨rfl, hb⟩
    rw [H2.out]
    obtain ⟨c0, c1, c2⟩ := box_cells (by simpa using hb)
    have hsz := size_box hb
    go_wp2_with (go_at_call 62; refine (is_ref i sp nm _ _ (by decide)).mono ?_; rintro e w2 ⟨rfl, hb2⟩)
    go_ret
    refine ⟨ret_bool ?_, ?_⟩
    · first
        | (simp [endsL]; done)
        | (simp [endsL]; rfl)
        | exact (endsL_else scope _ _ sp nm ‹_› ‹_› ‹_› ‹_› ‹_›).symm
    · first
        | exact ((Below.refl _ _).alloc (Nat.le_refl _) _).trans (hb.mono (by simp))
        | exact (((Below.refl _ _).alloc (Nat.le_refl _) _).trans (hb.mono (by simp))).trans (hb2.mono (by omega))

set_option maxHeartbeats 2000000 in
theorem ends_svg (scope : Int) (i : Int) (sp nm : ByteArray) (w : World) (q : Bool) (H1 : Hid (amongL nm.data.toList [] svgW.data.toList = q)) (H2 : Hid (∀ ws, isB sp nm ws = false)) (m1 : (sp.toList == [109, 97, 116, 104]) = false) (m2 : (sp.toList == [115, 118, 103]) = true) :
    Calls Tryd.prog 60 #[.int .u8 scope, .agg #[.int .i64 i, .string sp, .string nm]] w fun e w' => e = .returned (.bool (endsL scope q false sp nm)) ∧ Below w.heap.size w w' := by
  rcases (by omega : scope = 0 ∨ scope = 1 ∨ scope = 2 ∨ scope = 3 ∨ scope = 4 ∨ (¬ scope = 0 ∧ ¬ scope = 1 ∧ ¬ scope = 2 ∧ ¬ scope = 3 ∧ ¬ scope = 4)) with rfl | rfl | rfl | rfl | rfl | ⟨h0, h1, h2, h3, h4⟩
  all_goals cases q
  all_goals
    go_enter Tryd.func60, Tryd.ntmps60
    go_wp2_with fail
    refine (among_any nm svgW _ svgOk.size).mono ?_
    rintro e w' ⟨rfl, rfl⟩
    rw [H1.out]
    go_wp2_with fail
    refine (is_ref i sp nm plainW _ plainOk.size).mono ?_
    rintro e w' ⟨rfl, hb⟩
    rw [H2.out]
    obtain ⟨c0, c1, c2⟩ := box_cells (by simpa using hb)
    have hsz := size_box hb
    go_wp2_with (go_at_call 62; refine (is_ref i sp nm _ _ (by decide)).mono ?_; rintro e w2 ⟨rfl, hb2⟩)
    go_ret
    refine ⟨ret_bool ?_, ?_⟩
    · first
        | (simp [endsL]; done)
        | (simp [endsL]; rfl)
        | exact (endsL_else scope _ _ sp nm ‹_› ‹_› ‹_› ‹_› ‹_›).symm
    · first
        | exact ((Below.refl _ _).alloc (Nat.le_refl _) _).trans (hb.mono (by simp))
        | exact (((Below.refl _ _).alloc (Nat.le_refl _) _).trans (hb.mono (by simp))).trans (hb2.mono (by omega))

theorem ends_ref (scope : Int) (i : Int) (sp nm : ByteArray) (w : World) :
    Calls Tryd.prog 60 #[.int .u8 scope, .agg #[.int .i64 i, .string sp, .string nm]] w fun e w' => e = .returned (.bool (endsB scope sp nm)) ∧ Below w.heap.size w w' := by
  by_cases m1 : (sp.toList == [109, 97, 116, 104]) = true
  · have hq : pointB sp nm = amongL nm.data.toList [] mathW.data.toList := by rw [pointB, if_pos m1]
    rw [endsL_eq scope _ _ sp nm hq (isB_math m1 nm plainW)]
    exact ends_math scope i sp nm w _ (Lib.hid rfl) (Lib.hid (isB_math m1 nm)) m1 (by rw [eq_of_beq m1]; rfl)
  · replace m1 : (sp.toList == [109, 97, 116, 104]) = false := by simpa using m1
    by_cases m2 : (sp.toList == [115, 118, 103]) = true
    · have hq : pointB sp nm = amongL nm.data.toList [] svgW.data.toList := by rw [pointB, if_neg (by simp [m1]), if_pos m2]
      rw [endsL_eq scope _ _ sp nm hq (isB_svg m2 nm plainW)]
      exact ends_svg scope i sp nm w _ (Lib.hid rfl) (Lib.hid (isB_svg m2 nm)) m1 m2
    · replace m2 : (sp.toList == [115, 118, 103]) = false := by simpa using m2
      have hq : pointB sp nm = false := by rw [pointB, if_neg (by simp [m1]), if_neg (by simp [m2])]
      rw [endsL_eq scope _ _ sp nm hq rfl]
      exact ends_html scope i sp nm w _ (Lib.hid rfl) m1 m2
end Go.Proofs.YtibfiblajicdpaaDoor
