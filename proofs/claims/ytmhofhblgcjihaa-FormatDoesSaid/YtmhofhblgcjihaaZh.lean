/- The order of attributes: cmp.Compare, cmp.Or, the closure of sorted. -/
import Derived.Laws.Cover1
import Derived.Sort.Walk0
import Derived.Test.YtmhofhblgcjihaaZg
import Derived.Shelf.SlSortCmp.QuietGrown
namespace Go.Proofs.Ytmhofhblgcjihaa
open Go Go.RowKit Go.Shelf Go.Sort

def cmpB (x y : ByteArray) : Int := if Op.bytesLess x.toList y.toList = true then -1 else if (x.toList == y.toList) = true then 0 else 1
def orB (a b c : Int) : Int := if a = 0 then (if b = 0 then c else b) else a
def cfA (x y : At) : Int := orB (cmpB x.sp y.sp) (cmpB x.nm y.nm) (cmpB x.va y.va)

theorem cmpB_range (x y : ByteArray) : cmpB x y = -1 ∨ cmpB x y = 0 ∨ cmpB x y = 1 := by
  unfold cmpB
  split
  · exact .inl rfl
  · split
    · exact .inr (.inl rfl)
    · exact .inr (.inr rfl)

theorem isNaN_any (x : ByteArray) (w : World) : Calls Try.prog 60 #[.string x] w fun e w' => e = .returned (.bool false) ∧ w' = w := by
  go_enter Try.func60, Try.ntmps60
  go_wp2
  go_ret
  exact ⟨rfl, rfl⟩

theorem compare_any (x y : ByteArray) (w : World) : Calls Try.prog 48 #[.string x, .string y] w fun e w' => e = .returned (.int .i64 (cmpB x y)) ∧ w' = w := by
  have hc : cmpB x y = if Op.bytesLess x.toList y.toList = true then -1 else if (x.toList == y.toList) = true then 0 else 1 := rfl
  generalize cmpB x y = r at *
  go_enter Try.func48, Try.ntmps48
  go_wp2_with fail
  refine (isNaN_any x _).mono ?_
  rintro e w' ⟨rfl, rfl⟩
  go_wp2_with fail
  refine (isNaN_any y _).mono ?_
  rintro e w' ⟨rfl, rfl⟩
  cases h1 : Op.bytesLess x.toList y.toList
  · cases h2 : (x.toList == y.toList)
    all_goals
      simp [h1, h2] at hc
      subst hc
      go_wp2_with fail
      go_ret
      exact ⟨rfl, rfl⟩
  · simp [h1] at hc
    subst hc
    go_wp2_with fail
    go_ret
    exact ⟨rfl, rfl⟩

set_option maxHeartbeats 1000000 in
theorem or_any (g c : Nat) (x y z : Int) (w : World) (h0 : w.cell? ⟨g, 0, Option.none⟩ = some (.int .i64 x)) (h1 : w.cell? ⟨g, 1, Option.none⟩ = some (.int .i64 y)) (h2 : w.cell? ⟨g, 2, Option.none⟩ = some (.int .i64 z)) :
    Calls Try.prog 47 #[.slice (some ⟨g, 0, Option.none⟩) 3 c] w fun e w' => e = .returned (.int .i64 (orB x y z)) ∧ w' = w := by
  have hc : orB x y z = if x = 0 then (if y = 0 then z else y) else x := rfl
  generalize orB x y z = r at *
  go_enter Try.func47, Try.ntmps47
  go_wp2_with fail
  go_loopw [8] (fun i wr => ∃ k : Nat, k ≤ 3 ∧ i = .int .i64 k ∧ wr = w ∧ (1 ≤ k → x = 0) ∧ (2 ≤ k → y = 0) ∧ (3 ≤ k → z = 0)) (fun i _ => (3 - intOf i).toNat)
  case atStart => exact ⟨0, by omega, rfl, rfl, by omega, by omega, by omega⟩
  case round =>
    obtain ⟨k, hk, rfl, rfl, k1, k2, k3⟩ := hrel
    have hk4 : k = 0 ∨ k = 1 ∨ k = 2 ∨ k = 3 := by omega
    rcases hk4 with rfl | rfl | rfl | rfl
    · clear k1 k2 k3
      by_cases hx : x = 0
      · subst hx
        simp only [if_true] at hc
        go_wp2_with fail
        go_roundw
        case rel => exact ⟨1, by simp, by simp, by simp, by simp, by simp, by simp⟩
        case measure => simp [intOf]
      · rw [if_neg hx] at hc
        subst hc
        go_wp2_with fail
        go_ret
        exact ⟨rfl, rfl⟩
    · have hx := k1 (by omega)
      clear k1 k2 k3
      subst hx
      simp only [if_true] at hc
      by_cases hx : y = 0
      · subst hx
        simp only [if_true] at hc
        go_wp2_with fail
        go_roundw
        case rel => exact ⟨2, by simp, by simp, by simp, by simp, by simp, by simp⟩
        case measure => simp [intOf]
      · rw [if_neg hx] at hc
        subst hc
        go_wp2_with fail
        go_ret
        exact ⟨rfl, rfl⟩
    · have hx := k1 (by omega)
      have hy := k2 (by omega)
      clear k1 k2 k3
      subst hx
      subst hy
      simp only [if_true] at hc
      subst hc
      by_cases hx : r = 0
      · subst hx
        go_wp2_with fail
        go_roundw
        case rel => exact ⟨3, by simp, by simp, by simp, by simp, by simp, by simp⟩
        case measure => simp [intOf]
      · go_wp2_with fail
        go_ret
        exact ⟨rfl, rfl⟩
    · have hx := k1 (by omega)
      have hy := k2 (by omega)
      have hz := k3 (by omega)
      clear k1 k2 k3
      subst hx
      subst hy
      subst hz
      simp only [if_true] at hc
      subst hc
      go_wp2_with fail
      go_ret
      exact ⟨rfl, rfl⟩

end Go.Proofs.Ytmhofhblgcjihaa
