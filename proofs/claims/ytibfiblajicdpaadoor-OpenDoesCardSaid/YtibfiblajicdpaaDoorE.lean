/- Contracts: the closures, and where a scope ends, both ways. -/
import Derived.Test.YtibfiblajicdpaaDoorD
namespace Go.Proofs.YtibfiblajicdpaaDoor
open Go Go.RowKit

set_option maxHeartbeats 400000 in
theorem has1 (i : Int) (sp nm : ByteArray) (nb : Nat) (v : Value) (ns : List ByteArray) (w : World) (hc : w.cell? ⟨nb, 0, none⟩ = some v) (hlt : nb < w.heap.size) (hv : StrsAt w v ns) :
    Calls Tryd.prog 23 #[.agg #[.int .i64 i, .string sp, .string nm], .pointer (some ⟨nb, 0, none⟩)] w fun e w' => e = .returned (.bool (oneB sp nm ns)) ∧ Below w.heap.size w w' := by
  have hv1 := hv.below (Nat.le_refl _) ((Below.refl w.heap.size w).alloc (Nat.le_refl _) (.cells #[.int .i64 i, .string sp, .string nm] 30))
  rcases hv with ⟨rfl, a, c, rfl⟩ | ⟨b, off, c, rfl, _, _, _, _⟩
  all_goals
    go_enter Tryd.func23, Tryd.ntmps23
    go_wp2_with (go_at_call 24; refine (one_any i sp nm _ _ _ hv1).mono ?_; rintro e w' ⟨rfl, hb⟩)
    go_ret
    exact ⟨rfl, ((Below.refl _ _).alloc (Nat.le_refl _) _).trans (hb.mono (by simp))⟩

set_option maxHeartbeats 400000 in
theorem clear1 (i : Int) (sp nm : ByteArray) (nb : Nat) (v : Value) (ns : List ByteArray) (w : World) (hc : w.cell? ⟨nb, 0, none⟩ = some v) (hlt : nb < w.heap.size) (hv : StrsAt w v ns) :
    Calls Tryd.prog 63 #[.agg #[.int .i64 i, .string sp, .string nm], .pointer (some ⟨nb, 0, none⟩)] w fun e w' => e = .returned (.bool (!oneB sp nm ns)) ∧ Below w.heap.size w w' := by
  have hv1 := hv.below (Nat.le_refl _) ((Below.refl w.heap.size w).alloc (Nat.le_refl _) (.cells #[.int .i64 i, .string sp, .string nm] 30))
  rcases hv with ⟨rfl, a, c, rfl⟩ | ⟨b, off, c, rfl, _, _, _, _⟩
  all_goals
    go_enter Tryd.func63, Tryd.ntmps63
    go_wp2_with (go_at_call 24; refine (one_any i sp nm _ _ _ hv1).mono ?_; rintro e w' ⟨rfl, hb⟩)
    go_ret
    exact ⟨rfl, ((Below.refl _ _).alloc (Nat.le_refl _) _).trans (hb.mono (by simp))⟩

set_option maxHeartbeats 400000 in
theorem hasid1 (i : Int) (sp nm : ByteArray) (nb : Nat) (id : Int) (w : World) (hc : w.cell? ⟨nb, 0, none⟩ = some (.int .i64 id)) (hlt : nb < w.heap.size) :
    Calls Tryd.prog 61 #[.agg #[.int .i64 i, .string sp, .string nm], .pointer (some ⟨nb, 0, none⟩)] w fun e w' => e = .returned (.bool (i == id)) ∧ Below w.heap.size w w' := by
  go_enter Tryd.func61, Tryd.ntmps61
  go_wp2
  go_ret
  exact ⟨rfl, (Below.refl _ _).alloc (Nat.le_refl _) _⟩

/-- ends by itself, and is not left out -/
def impliedB (sp nm ws but : ByteArray) : Bool := isB sp nm ws && !(nm.toList == but.toList)

set_option maxHeartbeats 400000 in
theorem implied1 (i : Int) (sp nm : ByteArray) (wb bb : Nat) (ws but : ByteArray) (w : World) (hg : Glob w) (hok : WordsOk ws) (hc : w.cell? ⟨wb, 0, none⟩ = some (.string ws)) (hcb : w.cell? ⟨bb, 0, none⟩ = some (.string but)) (hlt : wb < w.heap.size) (hlb : bb < w.heap.size) :
    Calls Tryd.prog 26 #[.agg #[.int .i64 i, .string sp, .string nm], .pointer (some ⟨wb, 0, none⟩), .pointer (some ⟨bb, 0, none⟩)] w fun e w' => e = .returned (.bool (impliedB sp nm ws but)) ∧ Below w.heap.size w w' := by
  have hg1 := hg.alloc (.cells #[.int .i64 i, .string sp, .string nm] 30)
  by_cases hi : isB sp nm ws = true
  · have e1 : impliedB sp nm ws but = !(nm.toList == but.toList) := by rw [impliedB, hi]; rfl
    have H1 := Lib.hid e1; clear e1
    have H2 := Lib.hid hi; clear hi
    go_enter Tryd.func26, Tryd.ntmps26
    go_wp2_with fail
    refine (is_any i sp nm ws _ hg1 hok).mono ?_
    rintro e w' ⟨rfl, hb⟩
    rw [H2.out]
    have hc2 : w'.cell? ⟨w.heap.size, 2, none⟩ = some (.string nm) := (hb.cell (p := ⟨w.heap.size, 2, none⟩) (by simp)).trans (by simp [go_sem])
    have hc3 : w'.cell? ⟨bb, 0, none⟩ = some (.string but) := (hb.cell (p := ⟨bb, 0, none⟩) (by simp; omega)).trans ((((Below.refl w.heap.size w).alloc (Nat.le_refl _) _).cell (p := ⟨bb, 0, none⟩) hlb).trans hcb)
    go_wp2
    go_ret
    exact ⟨ret_bool H1.out.symm, ((Below.refl _ _).alloc (Nat.le_refl _) _).trans (hb.mono (by simp))⟩
  · have hi' : isB sp nm ws = false := by simpa using hi
    have e1 : impliedB sp nm ws but = false := by rw [impliedB, hi']; rfl
    have H1 := Lib.hid e1; clear e1
    have H2 := Lib.hid hi'; clear hi hi'
    go_enter Tryd.func26, Tryd.ntmps26
    go_wp2_with fail
    refine (is_any i sp nm ws _ hg1 hok).mono ?_
    rintro e w' ⟨rfl, hb⟩
    rw [H2.out]
    go_wp2
    go_ret
    exact ⟨ret_bool H1.out.symm, ((Below.refl _ _).alloc (Nat.le_refl _) _).trans (hb.mono (by simp))⟩

theorem amongL_join (s b : List UInt8) : ∀ (a cur : List UInt8), amongL s cur (a ++ 32 :: b) = (amongL s cur a || amongL s [] b)
  | [], cur => by simp [amongL]
  | c :: r, cur => by
    simp only [List.cons_append, amongL]
    split
    · rw [amongL_join s b r []]; simp [Bool.or_assoc]
    · rw [amongL_join s b r]

theorem isB_join (sp nm a b : ByteArray) (ws : ByteArray) (h : ws.data.toList = a.data.toList ++ 32 :: b.data.toList) : isB sp nm ws = (isB sp nm a || isB sp nm b) := by
  unfold isB
  rw [h, amongL_join]
  cases (sp.toList == [104, 116, 109, 108]) <;> simp

def plainListW : ByteArray := (⟨#[97, 112, 112, 108, 101, 116, 32, 99, 97, 112, 116, 105, 111, 110, 32, 104, 116, 109, 108, 32, 116, 97, 98, 108, 101, 32, 116, 100, 32, 116, 104, 32, 109, 97, 114, 113, 117, 101, 101, 32, 111, 98, 106, 101, 99, 116, 32, 116, 101, 109, 112, 108, 97, 116, 101, 32, 111, 108, 32, 117, 108]⟩ : ByteArray)
def plainButtonW : ByteArray := (⟨#[97, 112, 112, 108, 101, 116, 32, 99, 97, 112, 116, 105, 111, 110, 32, 104, 116, 109, 108, 32, 116, 97, 98, 108, 101, 32, 116, 100, 32, 116, 104, 32, 109, 97, 114, 113, 117, 101, 101, 32, 111, 98, 106, 101, 99, 116, 32, 116, 101, 109, 112, 108, 97, 116, 101, 32, 98, 117, 116, 116, 111, 110]⟩ : ByteArray)
theorem plainListOk : WordsOk plainListW := ⟨by decide +kernel, by decide +kernel, by decide +kernel⟩
theorem plainButtonOk : WordsOk plainButtonW := ⟨by decide +kernel, by decide +kernel, by decide +kernel⟩
theorem isB_plainList (sp nm : ByteArray) : isB sp nm plainListW = (isB sp nm plainW || isB sp nm listW) := isB_join _ _ _ _ _ (by decide +kernel)
theorem isB_plainButton (sp nm : ByteArray) : isB sp nm plainButtonW = (isB sp nm plainW || isB sp nm buttonW) := isB_join _ _ _ _ _ (by decide +kernel)

set_option maxHeartbeats 400000 in
theorem ends1 (i : Int) (sp nm : ByteArray) (w : World) (hg : Glob w) :
    Calls Tryd.prog 65 #[.agg #[.int .i64 i, .string sp, .string nm]] w fun e w' => e = .returned (.bool (isB sp nm tableW)) ∧ Below w.heap.size w w' := by
  have hg1 := hg.alloc (.cells #[.int .i64 i, .string sp, .string nm] 30)
  go_enter Tryd.func65, Tryd.ntmps65
  go_wp2_with (go_at_call 27; refine (is_any i sp nm tableW _ hg1 tableOk).mono ?_; rintro e w' ⟨rfl, hb⟩)
  go_ret
  exact ⟨rfl, ((Below.refl _ _).alloc (Nat.le_refl _) _).trans (hb.mono (by simp))⟩

set_option maxHeartbeats 400000 in
theorem ends2 (i : Int) (sp nm : ByteArray) (w : World) (hg : Glob w) :
    Calls Tryd.prog 66 #[.agg #[.int .i64 i, .string sp, .string nm]] w fun e w' => e = .returned (.bool (!isB sp nm selectW)) ∧ Below w.heap.size w w' := by
  have hg1 := hg.alloc (.cells #[.int .i64 i, .string sp, .string nm] 30)
  go_enter Tryd.func66, Tryd.ntmps66
  go_wp2_with (go_at_call 27; refine (is_any i sp nm selectW _ hg1 selectOk).mono ?_; rintro e w' ⟨rfl, hb⟩)
  go_ret
  exact ⟨rfl, ((Below.refl _ _).alloc (Nat.le_refl _) _).trans (hb.mono (by simp))⟩

set_option maxHeartbeats 400000 in
theorem ends3 (i : Int) (sp nm : ByteArray) (w : World) :
    Calls Tryd.prog 67 #[.agg #[.int .i64 i, .string sp, .string nm]] w fun e w' => e = .returned (.bool false) ∧ Below w.heap.size w w' := by
  go_enter Tryd.func67, Tryd.ntmps67
  go_wp2
  go_ret
  exact ⟨rfl, (Below.refl _ _).alloc (Nat.le_refl _) _⟩

set_option maxHeartbeats 400000 in
theorem ends4 (i : Int) (sp nm more : ByteArray) (mb : Nat) (w : World) (hg : Glob w) (hc : w.cell? ⟨mb, 0, none⟩ = some (.string more)) (hlt : mb < w.heap.size) (hok : WordsOk (plainW ++ more)) (hm : more.size ≤ 100) :
    Calls Tryd.prog 68 #[.agg #[.int .i64 i, .string sp, .string nm], .pointer (some ⟨mb, 0, none⟩)] w fun e w' => e = .returned (.bool (pointB sp nm || isB sp nm (plainW ++ more))) ∧ Below w.heap.size w w' := by
  have hg1 := hg.alloc (.cells #[.int .i64 i, .string sp, .string nm] 30)
  by_cases hp : pointB sp nm = true
  · have e1 : (pointB sp nm || isB sp nm (plainW ++ more)) = true := by rw [hp]; rfl
    have H1 := Lib.hid e1; clear e1
    have H2 := Lib.hid hp; clear hp
    go_enter Tryd.func68, Tryd.ntmps68
    go_wp2_with (go_at_call 51; refine (point_any i sp nm _).mono ?_; rintro e w' ⟨rfl, hb⟩; rw [H2.out])
    go_ret
    exact ⟨ret_bool H1.out.symm, ((Below.refl _ _).alloc (Nat.le_refl _) _).trans (hb.mono (by simp))⟩
  · have hp' : pointB sp nm = false := by simpa using hp
    have e1 : (pointB sp nm || isB sp nm (plainW ++ more)) = isB sp nm (plainW ++ more) := by rw [hp']; rfl
    have H1 := Lib.hid e1; clear e1
    have H2 := Lib.hid hp'; clear hp hp'
    go_enter Tryd.func68, Tryd.ntmps68
    go_wp2_with fail
    refine (point_any i sp nm _).mono ?_
    rintro e w' ⟨rfl, hb⟩
    rw [H2.out]
    have hc0 : w'.cell? ⟨w.heap.size, 0, none⟩ = some (.int .i64 i) := (hb.cell (p := ⟨w.heap.size, 0, none⟩) (by simp)).trans (by simp [go_sem])
    have hc1 : w'.cell? ⟨w.heap.size, 1, none⟩ = some (.string sp) := (hb.cell (p := ⟨w.heap.size, 1, none⟩) (by simp)).trans (by simp [go_sem])
    have hc2 : w'.cell? ⟨w.heap.size, 2, none⟩ = some (.string nm) := (hb.cell (p := ⟨w.heap.size, 2, none⟩) (by simp)).trans (by simp [go_sem])
    have hc3 : w'.cell? ⟨mb, 0, none⟩ = some (.string more) := (hb.cell (p := ⟨mb, 0, none⟩) (by simp; omega)).trans ((((Below.refl w.heap.size w).alloc (Nat.le_refl _) _).cell (p := ⟨mb, 0, none⟩) hlt).trans hc)
    have hgw := hg1.below hg1.lt hb
    go_wp2_with fail
    refine (is_any i sp nm _ _ hgw hok).mono ?_
    rintro e w2 ⟨rfl, hb2⟩
    go_wp2
    go_ret
    exact ⟨ret_bool H1.out.symm, (((Below.refl _ _).alloc (Nat.le_refl _) _).trans (hb.mono (by simp))).trans (hb2.mono (by have := hb.size; simp at this; omega))⟩
end Go.Proofs.YtibfiblajicdpaaDoor
