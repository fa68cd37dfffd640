/- What the list's methods do: base, Lost, At, Mark, Clear, Index, Remove. -/
import Derived.Test.YtmhofhblgcjihaaZb
import Derived.Deep.RegionHeld3
import Derived.Deep.RegionWith
namespace Go.Proofs.Ytmhofhblgcjihaa
open Go Go.RowKit

/-- how many from the end on are so -/
def cntTop {α : Type} (P : α → Bool) (l : List α) : Nat := (l.reverse.takeWhile P).length

theorem cntTop_map {α β : Type} (f : α → β) (P : β → Bool) (l : List α) : cntTop P (l.map f) = cntTop (fun x => P (f x)) l := by
  unfold cntTop
  rw [← List.map_reverse, List.takeWhile_map, List.length_map]
  rfl

theorem cntTop_le {α : Type} (P : α → Bool) (l : List α) : cntTop P l ≤ l.length := by
  unfold cntTop
  have := (List.takeWhile_sublist P (l := l.reverse)).length_le
  simpa using this

theorem cntTop_eq {α : Type} (P : α → Bool) (l : List α) (k : Nat) (hk : k ≤ l.length) (hP : ∀ j, j < k → ∀ x, l.reverse[j]? = some x → P x = true) (hn : k = l.length ∨ ∃ x, l.reverse[k]? = some x ∧ P x = false) : cntTop P l = k := by
  unfold cntTop
  have hlr : l.reverse.length = l.length := List.length_reverse
  generalize l.reverse = r at *
  rw [← hlr] at hk hn
  clear hlr
  induction r generalizing k with
  | nil => simp at hk; simp [hk]
  | cons y r ih =>
    cases k with
    | zero =>
      rcases hn with hn | ⟨x, hx, hf⟩
      · simp at hn
      · simp at hx; subst hx; simp [hf]
    | succ k =>
      have h0 := hP 0 (by omega) y (by simp)
      simp only [List.takeWhile_cons, h0, if_true, List.length_cons]
      rw [ih k (by simpa using hk) (fun j hj x hx => hP (j + 1) (by omega) x (by simpa using hx)) (hn.imp (fun h => by simpa using h) (fun ⟨x, hx, hf⟩ => ⟨x, by simpa using hx, hf⟩))]

theorem rev_get {α : Type} (l : List α) (k : Nat) (hk : k < l.length) : l.reverse[l.length - (k + 1)]? = some l[k] := by
  rw [List.getElem?_reverse (by omega), List.getElem?_eq_getElem (by omega)]
  congr 2; omega

/-- no marker -/
def noMark (x : Ab) : Bool := !(x.el.id == 0)
/-- the place behind the last marker -/
def baseN (l : List Ab) : Nat := l.length - cntTop noMark l

set_option maxRecDepth 100000 in
set_option maxHeartbeats 1000000 in
theorem base_any (b : Nat) (v : Value) (es : List En) (w : World) (hs : Raw w b v es) :
    Calls Try.prog 22 #[.pointer (some ⟨b, 0, Option.none⟩)] w fun e w' => e = .returned (.int .i64 (baseN (es.map En.ab))) ∧ Below w.heap.size w w' := by
  have hc := hs.cell
  have hblt := hs.lt b (.inl rfl)
  have hlen := hs.len
  have hB : baseN (es.map En.ab) = es.length - cntTop (fun x : En => !(x.el.id == 0)) es := by
    unfold baseN
    rw [cntTop_map, List.length_map]
    rfl
  rw [hB]
  clear hB
  rcases hs.form with ⟨rfl, rfl⟩ | ⟨g, cap, rfl, hg, hgb, h1, h2, _, _⟩
  · clear hs
    go_enter Try.func22, Try.ntmps22
    go_wp2_with fail
    go_loop [3] (fun i => i = .int .i64 0) (fun _ => 0)
    case atStart => rfl
    case round =>
      obtain rfl := hrel
      go_wp2
      go_ret
      exact ⟨rfl, Below.refl _ _⟩
  · have HS := Lib.hid hs
    clear hs
    go_enter Try.func22, Try.ntmps22
    go_wp2_with fail
    go_loopw [3] (fun i wr => ∃ k : Nat, k ≤ es.length ∧ i = .int .i64 k ∧ (∀ j, j < es.length - k → ∀ x, es.reverse[j]? = some x → (!(x.el.id == 0)) = true) ∧ Below w.heap.size w wr) (fun i _ => (intOf i).toNat)
    case atStart => exact ⟨es.length, by omega, rfl, fun j hj => by omega, Below.refl _ _⟩
    case round =>
      obtain ⟨k, hk, rfl, hP, hb⟩ := hrel
      have hc2 := (hb.cell (p := ⟨b, 0, Option.none⟩) hblt).trans hc
      have HP := Lib.hid hP
      clear hP
      cases k with
      | zero =>
        go_wp2
        go_ret
        have e2 := cntTop_eq (fun x : En => !(x.el.id == 0)) es es.length (by omega) (by simpa using HP.out) (.inl rfl)
        exact ⟨ret_int (by rw [e2]; simp), hb⟩
      | succ k =>
        have hkl : k < es.length := by omega
        obtain ⟨c0, c1, c2, c3⟩ := HS.out.at4 k hkl hb
        have hrv := Lib.hid (rev_get es k hkl)
        generalize es[k] = x at *
        have hw1 : IntKind.i64.wrap (((k + 1 : Nat) : Int) - 1) = (k : Int) := by rw [IntKind.wrap_i64]; omega
        rw [show (((k + 1 : Nat) : Int)) = (k : Int) + 1 from by omega]
        cases hm : (x.el.id == 0)
        · go_wp2_with fail
          refine (marker_any x.el.id x.el.sp x.el.nm x.a x.ats.length x.c wr).mono ?_
          rintro e w2 ⟨rfl, hb2⟩
          rw [hm]
          have hbb := hb.trans (hb2.mono hb.size)
          have HM := Lib.hid hm
          clear hm
          go_wp2_with fail
          go_roundw
          case rel =>
            refine ⟨k, by omega, rfl, fun j hj y hy => ?_, hbb⟩
            by_cases h : j < es.length - (k + 1)
            · exact HP.out j h y hy
            · obtain rfl : j = es.length - (k + 1) := by omega
              rw [hrv.out] at hy
              cases hy
              rw [HM.out]; rfl
          case measure => simp [intOf] <;> omega
        · go_wp2_with fail
          refine (marker_any x.el.id x.el.sp x.el.nm x.a x.ats.length x.c wr).mono ?_
          rintro e w2 ⟨rfl, hb2⟩
          rw [hm]
          have hbb := hb.trans (hb2.mono hb.size)
          have HM := Lib.hid hm
          clear hm
          go_wp2_with fail
          go_ret
          have e2 := cntTop_eq (fun x : En => !(x.el.id == 0)) es (es.length - (k + 1)) (by omega) HP.out (.inr ⟨x, hrv.out, by rw [HM.out]; rfl⟩)
          exact ⟨ret_int (by rw [e2]; omega), hbb⟩
end Go.Proofs.Ytmhofhblgcjihaa
