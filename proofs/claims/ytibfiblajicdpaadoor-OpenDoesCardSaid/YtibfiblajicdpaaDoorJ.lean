/- What drop does, whatever the function that is handed to it. -/
import Derived.Test.YtibfiblajicdpaaDoorI
namespace Go.Proofs.YtibfiblajicdpaaDoor
open Go Go.RowKit

/-- a function value of the program's that answers P of an element, in every world behind w0 that is as it was but for S -/
structure CloC (g : Nat) (lb : Array Value) (P : El → Bool) (S : Nat → Prop) (w0 : World) : Prop where
  enters : ∀ args (w : World), (callFunc g args).run Tryd.prog w = .ok (.enter g args) w
  calls : ∀ (x : El) (W : World), Keeps S w0 W → Calls Tryd.prog g (#[.agg #[.int .i64 x.id, .string x.sp, .string x.nm]] ++ lb) W fun e W' => e = .returned (.bool (P x)) ∧ Below W.heap.size W W'

/-- how many on top are so -/
def cntTop (P : El → Bool) (l : List El) : Nat := (l.reverse.takeWhile P).length

theorem cntTop_eq (P : El → Bool) (l : List El) (k : Nat) (hk : k ≤ l.length) (hP : ∀ j, j < k → ∀ x, l.reverse[j]? = some x → P x = true) (hn : k = l.length ∨ ∃ x, l.reverse[k]? = some x ∧ P x = false) : cntTop P l = k := by
  unfold cntTop
  have hlr : l.reverse.length = l.length := List.length_reverse
  generalize l.reverse = r at *
  rw [← hlr] at hk hn
  clear hlr
  induction r generalizing k with
  | nil => simp at hk; simp [hk]
  | cons y r ih =>
    cases k with
    | zero =>
      rcases hn with hn | ⟨x, hx, hf⟩
      · simp at hn
      · simp at hx; subst hx; simp [hf]
    | succ k =>
      have h0 := hP 0 (by omega) y (by simp)
      simp only [List.takeWhile_cons, h0, if_true, List.length_cons]
      rw [ih k (by simpa using hk) (fun j hj x hx => hP (j + 1) (by omega) x (by simpa using hx)) (hn.imp (fun h => by simpa using h) (fun ⟨x, hx, hf⟩ => ⟨x, by simpa using hx, hf⟩))]

theorem take_pred (l : List El) (k : Nat) (hk : k < l.length) : ∃ x, l.take (l.length - k) = l.take (l.length - (k + 1)) ++ [x] ∧ l.reverse[k]? = some x := by
  refine ⟨l[l.length - (k + 1)], ?_, ?_⟩
  · rw [show l.length - k = (l.length - (k + 1)) + 1 from by omega, List.take_succ_eq_append_getElem (by omega)]
  · rw [List.getElem?_reverse hk, List.getElem?_eq_getElem (by omega)]
    congr 2
    omega

set_option maxHeartbeats 2000000 in
theorem drop_any (g : Nat) (lb : Array Value) (P : El → Bool) (b : Nat) (v : Value) (l : List El) (w : World) (hs : Stk w b v l) (hC : CloC g lb P (fp b v) w) :
    Calls Tryd.prog 25 #[.pointer (some ⟨b, 0, Option.none⟩), .func (.func g) #[] lb] w (MPost b v w (.returned (.int .i64 (cntTop P l))) (l.take (l.length - cntTop P l))) := by
  have heg := hC.enters
  have HC := Lib.hid hC.calls
  clear hC
  have hl := hs.len
  go_enter Tryd.func25, Tryd.ntmps25
  go_wp2_with fail
  go_loopw [5] (fun n wr => ∃ (k : Nat) (v' : Value), n = .int .i64 k ∧ k ≤ l.length ∧ Stk wr b v' (l.take (l.length - k)) ∧ Keeps (fp b v) w wr ∧ (∀ q, fp b v' q → fp b v q ∨ w.heap.size ≤ q) ∧ (∀ j, j < k → ∀ x, l.reverse[j]? = some x → P x = true)) (fun n _ => l.length - (intOf n).toNat)
  case atStart => exact ⟨0, v, rfl, by omega, by simpa using hs, Keeps.refl _ _, fun q h => .inl h, fun j hj => by omega⟩
  case round =>
    obtain ⟨k, v', rfl, hk, hs', hk', hf', hP⟩ := hrel
    have hc := hs'.cell
    by_cases hlt : k < l.length
    · obtain ⟨x, hx, hr⟩ := take_pred l k hlt
      have hlen : (l.take (l.length - k)).length = l.length - k := by simp
      rw [hx] at hs' hlen
      have hlen2 : 0 < l.length - k := by omega
      rcases hs'.form with ⟨rfl, h⟩ | ⟨g', cap, rfl, hg, hgb, h1, h2, _, _⟩
      · simp at h
      · rw [hlen] at hc h1
        have htop := top_any b _ _ _ hs'
        have e1 : topE (l.take (l.length - (k + 1)) ++ [x]) = x := by simp [topE]
        rw [e1] at htop
        have HT := Lib.hid htop
        have HR := Lib.hid hr
        have HX := Lib.hid hx
        have HP := Lib.hid hP
        have HL := Lib.hid hlen
        clear htop e1 hr hx hP hlen
        cases hPx : P x
        · have HPx := Lib.hid hPx
          clear hPx
          go_wp2_with fail
          refine HT.out.mono ?_
          rintro e w' ⟨rfl, hb⟩
          rw [El.v]
          go_wp2_with fail
          refine (HC.out x w' (hk'.trans (.of_below hb))).mono ?_
          rintro e w2 ⟨rfl, hb2⟩
          rw [HPx.out]
          go_wp2
          go_ret
          have e2 : cntTop P l = k := cntTop_eq P l k (by omega) HP.out (.inr ⟨x, HR.out, HPx.out⟩)
          rw [e2, HX.out]
          have hb3 := hb.trans (hb2.mono hb.size)
          exact ⟨rfl, _, hs'.below hb3, hk'.trans (.of_below hb3), hf'⟩
        · have HPx := Lib.hid hPx
          clear hPx
          go_wp2_with fail
          refine HT.out.mono ?_
          rintro e w' ⟨rfl, hb⟩
          rw [El.v]
          go_wp2_with fail
          refine (HC.out x w' (hk'.trans (.of_below hb))).mono ?_
          rintro e w2 ⟨rfl, hb2⟩
          rw [HPx.out]
          have hb3 := hb.trans (hb2.mono hb.size)
          have hpop := pop_some b _ _ x _ (hs'.below hb3)
          rw [El.v] at hpop
          have HPo := Lib.hid hpop
          clear hpop
          go_wp2_with fail
          refine HPo.out.mono ?_
          rintro e w3 ⟨rfl, v3, hs3, hk3, hf3⟩
          go_wp2_with fail
          go_roundw
          case rel =>
            refine ⟨k + 1, v3, by go_num, by omega, hs3, ?_, ?_, ?_⟩
            · exact (hk'.trans (.of_below hb3)).trans' hk3 (fun q hq => hf' q (by simpa [HL.out] using hq))
            · intro q hq
              rcases hf3 q hq with h | h
              · exact hf' q (by simpa [HL.out] using h)
              · exact .inr (by have h5 := hk'.size; have h6 := hb3.size; omega)
            · intro j hj y hy
              by_cases hjk : j < k
              · exact HP.out j hjk y hy
              · obtain rfl : j = k := by omega
                rw [HR.out] at hy; cases hy; exact HPx.out
          case measure => simp [intOf] <;> omega
    · obtain rfl : k = l.length := by omega
      have hlen : (l.take (l.length - l.length)).length = 0 := by simp
      rcases hs'.form with ⟨rfl, h⟩ | ⟨g', cap, rfl, hg, hgb, h1, h2, _, _⟩
      · go_wp2
        go_ret
        have e2 : cntTop P l = l.length := cntTop_eq P l _ (by omega) hP (.inl rfl)
        rw [e2]
        exact ⟨rfl, _, hs', hk', hf'⟩
      · rw [hlen] at hc
        go_wp2
        go_ret
        have e2 : cntTop P l = l.length := cntTop_eq P l _ (by omega) hP (.inl rfl)
        rw [e2]
        exact ⟨rfl, _, hs', hk', hf'⟩
end Go.Proofs.YtibfiblajicdpaaDoor
