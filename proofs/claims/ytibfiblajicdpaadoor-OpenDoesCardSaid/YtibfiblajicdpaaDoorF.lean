/- Contracts: the function that tells where a scope ends; the reference's. -/
import Derived.Test.YtibfiblajicdpaaDoorE
namespace Go.Proofs.YtibfiblajicdpaaDoor
open Go Go.RowKit

/-- the function value g with lb tells where the scope ends, in every world behind w -/
def EndC (g : Nat) (lb : Array Value) (scope : Int) (w : World) : Prop :=
  (∀ args (w : World), (callFunc g args).run Tryd.prog w = .ok (.enter g args) w) ∧ ∀ (i : Int) (sp nm : ByteArray) (W : World), Below w.heap.size w W → Calls Tryd.prog g (#[.agg #[.int .i64 i, .string sp, .string nm]] ++ lb) W fun e W' => e = .returned (.bool (endsB scope sp nm)) ∧ Below W.heap.size W W'

def EndPost (scope : Int) (w : World) (e : Ending) (w' : World) : Prop :=
  ∃ g lb, e = .returned (.func (.func g) #[] lb) ∧ EndC g lb scope w' ∧ Below w.heap.size w w'

theorem endsB_plain (sp nm : ByteArray) : endsB 0 sp nm = (pointB sp nm || isB sp nm plainW) := by simp [endsB]
theorem endsB_list (sp nm : ByteArray) : endsB 1 sp nm = (pointB sp nm || isB sp nm plainListW) := by simp [endsB, isB_plainList, Bool.or_assoc]
theorem endsB_button (sp nm : ByteArray) : endsB 2 sp nm = (pointB sp nm || isB sp nm plainButtonW) := by simp [endsB, isB_plainButton, Bool.or_assoc]
theorem endsB_table (sp nm : ByteArray) : endsB 3 sp nm = isB sp nm tableW := by simp [endsB]
theorem endsB_select (sp nm : ByteArray) : endsB 4 sp nm = !isB sp nm selectW := by simp [endsB]
theorem endsB_else (scope : Int) (sp nm : ByteArray) (h0 : ¬ scope = 0) (h1 : ¬ scope = 1) (h2 : ¬ scope = 2) (h3 : ¬ scope = 3) (h4 : ¬ scope = 4) : endsB scope sp nm = false := by simp [endsB, h0, h1, h2, h3, h4]

theorem endC_more {w w' : World} (hg : Glob w) (mb : Nat) (more ws : ByteArray) (scope : Int) (hb : Below w.heap.size w w') (hc : w'.cell? ⟨mb, 0, none⟩ = some (.string more)) (hlt : mb < w'.heap.size) (hm : more.size ≤ 100)
    (hw : plainW ++ more = ws) (hok : WordsOk ws) (hs : ∀ sp nm, endsB scope sp nm = (pointB sp nm || isB sp nm ws)) :
    EndC 68 #[.pointer (some ⟨mb, 0, none⟩)] scope w' := by
  refine ⟨enters_of Tryd.func68 (by kernel_rfl) rfl, ?_⟩
  intro i sp nm W hW
  rw [hs sp nm, ← hw]
  exact ends4 i sp nm more mb W ((hg.below hg.lt hb).below (hg.below hg.lt hb).lt hW) ((hW.cell (p := ⟨mb, 0, none⟩) hlt).trans hc) (Nat.lt_of_lt_of_le hlt hW.size) (by rw [hw]; exact hok) hm

theorem below_more (w : World) (t : TypeId) (u v : Value) (o : Nat) : Below w.heap.size w ((w.alloc (.cells #[u] t)).setCell ⟨w.heap.size, o, none⟩ v) :=
  ((Below.refl _ _).alloc (Nat.le_refl _) _).setCell (p := ⟨w.heap.size, o, none⟩) (Nat.le_refl _) _

set_option maxHeartbeats 400000 in
theorem ends_any (scope : Int) (w : World) (hg : Glob w) :
    Calls Tryd.prog 52 #[.int .u8 scope] w (EndPost scope w) := by
  by_cases h3 : scope = 3
  · subst h3
    go_enter Tryd.func52, Tryd.ntmps52
    go_wp2
    go_ret
    refine ⟨_, _, rfl, ?_, by first | exact (Below.refl _ _).alloc (Nat.le_refl _) _ | exact below_more _ _ _ _ _⟩
    refine ⟨enters_of Tryd.func65 (by kernel_rfl) rfl, ?_⟩
    intro i sp nm W hW
    rw [endsB_table]
    exact ends1 i sp nm W ((hg.alloc _).below (hg.alloc _).lt hW)
  · by_cases h4 : scope = 4
    · subst h4
      go_enter Tryd.func52, Tryd.ntmps52
      go_wp2
      go_ret
      refine ⟨_, _, rfl, ?_, by first | exact (Below.refl _ _).alloc (Nat.le_refl _) _ | exact below_more _ _ _ _ _⟩
      refine ⟨enters_of Tryd.func66 (by kernel_rfl) rfl, ?_⟩
      intro i sp nm W hW
      rw [endsB_select]
      exact ends2 i sp nm W ((hg.alloc _).below (hg.alloc _).lt hW)
    · by_cases h1 : scope = 1
      · subst h1
        go_enter Tryd.func52, Tryd.ntmps52
        go_wp2
        go_ret
        refine ⟨_, _, rfl, endC_more hg w.heap.size (⟨#[32, 111, 108, 32, 117, 108]⟩ : ByteArray) plainListW 1 ?_ (by simp [go_sem]) (by simp) (by decide) (by decide +kernel) plainListOk endsB_list, ?_⟩
        all_goals exact (Below.refl _ _).alloc (Nat.le_refl _) _
      · by_cases h2 : scope = 2
        · subst h2
          go_enter Tryd.func52, Tryd.ntmps52
          go_wp2
          go_ret
          refine ⟨_, _, rfl, endC_more hg w.heap.size (⟨#[32, 98, 117, 116, 116, 111, 110]⟩ : ByteArray) plainButtonW 2 ?_ (by simp [go_sem]) (by simp) (by decide) (by decide +kernel) plainButtonOk endsB_button, ?_⟩
          all_goals exact (Below.refl _ _).alloc (Nat.le_refl _) _
        · by_cases h0 : scope = 0
          · subst h0
            go_enter Tryd.func52, Tryd.ntmps52
            go_wp2
            go_ret
            refine ⟨_, _, rfl, endC_more hg w.heap.size (⟨#[]⟩ : ByteArray) plainW 0 ?_ (by simp [go_sem]) (by simp) (by decide) (by decide +kernel) plainOk endsB_plain, ?_⟩
            all_goals exact (Below.refl _ _).alloc (Nat.le_refl _) _
          · go_enter Tryd.func52, Tryd.ntmps52
            go_wp2
            go_ret
            refine ⟨_, _, rfl, ?_, by first | exact (Below.refl _ _).alloc (Nat.le_refl _) _ | exact below_more _ _ _ _ _⟩
            refine ⟨enters_of Tryd.func67 (by kernel_rfl) rfl, ?_⟩
            intro i sp nm W hW
            rw [endsB_else scope sp nm h0 h1 h2 h3 h4]
            exact ends3 i sp nm W
end Go.Proofs.YtibfiblajicdpaaDoor
