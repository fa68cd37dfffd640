/- The reference's stack: Has, HasID. -/
import Derived.Test.YtibfiblajicdpaaDoorRb
import Derived.Test.YtibfiblajicdpaaDoorG
import Derived.Test.YtibfiblajicdpaaDoorN
namespace Go.Proofs.YtibfiblajicdpaaDoor
open Go Go.RowKit

theorem found_step (P E : El → Bool) (l : List El) (k : Nat) (hk : k < l.length) : foundB P E (l.take (k + 1)).reverse = if P l[k] then true else if E l[k] then false else foundB P E (l.take k).reverse := by
  rw [List.take_succ_eq_append_getElem hk, List.reverse_append]
  rfl

/-- the cells of an element of a stack, in any world behind -/
theorem stk_at {w : World} {b g cap : Nat} {l : List El} (hs : Stk w b (.slice (some ⟨g, 0, Option.none⟩) l.length cap) l) (k : Nat) (hk : k < l.length) {W : World} (hb : Below w.heap.size w W) :
    W.cell? ⟨g, k * 3, Option.none⟩ = some (.int .i64 l[k].id) ∧ W.cell? ⟨g, k * 3 + 1, Option.none⟩ = some (.string l[k].sp) ∧ W.cell? ⟨g, k * 3 + 2, Option.none⟩ = some (.string l[k].nm) := by
  rcases (hs.below hb).form with ⟨h, _⟩ | ⟨g', cap', he, _, _, _, _, hcs, _⟩
  · cases h
  · cases he
    exact hcs k l[k] (by simp [hk])

set_option maxRecDepth 100000 in
set_option maxHeartbeats 2000000 in
theorem rhas_any (b : Nat) (v vn : Value) (l : List El) (scope : Int) (ns : List ByteArray) (w : World) (hs : Stk w b v l) (hv : StrsAt w vn ns) :
    Calls Tryd.prog 41 #[.pointer (some ⟨b, 0, Option.none⟩), .int .u8 scope, vn] w fun e w' => e = .returned (.bool (foundB (oneE ns) (endE scope) l.reverse)) ∧ Below w.heap.size w w' := by
  have hc := hs.cell
  have hblt := hs.lt b (.inl rfl)
  have hlen := hs.len
  obtain ⟨na, nn, nc, rfl⟩ : ∃ a n c, vn = .slice a n c := by
    rcases hv with ⟨_, a, c, rfl⟩ | ⟨b, off, c, rfl, _⟩
    · exact ⟨_, _, _, rfl⟩
    · exact ⟨_, _, _, rfl⟩
  have HV := Lib.hid hv
  clear hv
  rcases hs.form with ⟨rfl, rfl⟩ | ⟨g, cap, rfl, hg, hgb, h1, h2, _, _⟩
  · clear hs
    go_enter Tryd.func41, Tryd.ntmps41
    go_wp2_with fail
    go_loop [7, 8, 9] (fun i _ _ => i = .int .i64 (-1)) (fun _ _ _ => 0)
    case atStart => exact rfl
    case round =>
      obtain rfl := hrel
      go_wp2
      go_ret
      exact ⟨rfl, Below.refl _ _⟩
  · have HS := Lib.hid hs
    clear hs
    go_enter Tryd.func41, Tryd.ntmps41
    go_wp2_with fail
    go_loopw [7, 8, 9] (fun i _ _ wr => ∃ k : Nat, k ≤ l.length ∧ i = .int .i64 ((k : Int) - 1) ∧ Hid (foundB (oneE ns) (endE scope) (l.take k).reverse = foundB (oneE ns) (endE scope) l.reverse) ∧ Below w.heap.size w wr) (fun i _ _ _ => (intOf i + 1).toNat)
    case atStart => exact ⟨l.length, by omega, rfl, by rw [List.take_length]; exact (rfl : foundB (oneE ns) (endE scope) l.reverse = _), Below.refl _ _⟩
    case round =>
      obtain ⟨k, hk, rfl, HF, hb⟩ := hrel
      have hc2 := (hb.cell (p := ⟨b, 0, Option.none⟩) hblt).trans hc
      cases k with
      | zero =>
        have HR : Hid (foundB (oneE ns) (endE scope) l.reverse = false) := by
          have := HF.out
          rw [show (l.take 0).reverse = [] from rfl] at this
          exact this.symm
        clear HF
        go_wp2
        go_ret
        exact ⟨ret_bool HR.out.symm, hb⟩
      | succ k =>
        have hkl : k < l.length := by omega
        have hst := found_step (oneE ns) (endE scope) l k hkl
        rw [HF.out] at hst
        have HT := Lib.hid hst
        clear hst HF
        obtain ⟨c0, c1, c2⟩ := stk_at HS.out k hkl hb
        have HSA : Hid (∀ W, Below w.heap.size w W → W.cell? ⟨g, k * 3, Option.none⟩ = some (.int .i64 l[k].id) ∧ W.cell? ⟨g, k * 3 + 1, Option.none⟩ = some (.string l[k].sp) ∧ W.cell? ⟨g, k * 3 + 2, Option.none⟩ = some (.string l[k].nm)) := fun W h => stk_at HS.out k hkl h
        generalize l[k] = x at *
        rw [show (((k + 1 : Nat) : Int) - 1) = (k : Int) from by omega]
        cases hP : oneE ns x
        · have HP := Lib.hid hP
          clear hP
          cases hE : endE scope x
          · have HE := Lib.hid hE
            clear hE
            go_wp2_with fail
            refine (one_ref x.id x.sp x.nm _ ns wr (HV.out.below (Nat.le_refl _) hb)).mono ?_
            rintro e w2 ⟨rfl, hb2⟩
            rw [show oneB x.sp x.nm ns = oneE ns x from rfl, HP.out]
            have hbb := hb.trans (hb2.mono hb.size)
            clear c0 c1 c2 hc2
            have hc3 := (hbb.cell (p := ⟨b, 0, Option.none⟩) hblt).trans hc
            obtain ⟨c0, c1, c2⟩ := HSA.out w2 hbb
            go_wp2_with fail
            refine (ends_ref scope x.id x.sp x.nm w2).mono ?_
            rintro e w3 ⟨rfl, hb3⟩
            rw [show endsB scope x.sp x.nm = endE scope x from rfl, HE.out]
            have hbc := hbb.trans (hb3.mono hbb.size)
            go_wp2
            go_roundw
            case rel => exact ⟨k, by omega, rfl, by rw [HT.out, HP.out, HE.out]; exact (rfl : _ = foundB (oneE ns) (endE scope) (l.take k).reverse), hbc⟩
            case measure => simp [intOf] <;> omega
          · have HE := Lib.hid hE
            clear hE
            go_wp2_with fail
            refine (one_ref x.id x.sp x.nm _ ns wr (HV.out.below (Nat.le_refl _) hb)).mono ?_
            rintro e w2 ⟨rfl, hb2⟩
            rw [show oneB x.sp x.nm ns = oneE ns x from rfl, HP.out]
            have hbb := hb.trans (hb2.mono hb.size)
            clear c0 c1 c2 hc2
            have hc3 := (hbb.cell (p := ⟨b, 0, Option.none⟩) hblt).trans hc
            obtain ⟨c0, c1, c2⟩ := HSA.out w2 hbb
            go_wp2_with fail
            refine (ends_ref scope x.id x.sp x.nm w2).mono ?_
            rintro e w3 ⟨rfl, hb3⟩
            rw [show endsB scope x.sp x.nm = endE scope x from rfl, HE.out]
            have hbc := hbb.trans (hb3.mono hbb.size)
            go_wp2
            go_ret
            exact ⟨ret_bool (by rw [HT.out, HP.out, HE.out]; rfl), hbc⟩
        · have HP := Lib.hid hP
          clear hP
          go_wp2_with fail
          refine (one_ref x.id x.sp x.nm _ ns wr (HV.out.below (Nat.le_refl _) hb)).mono ?_
          rintro e w2 ⟨rfl, hb2⟩
          rw [show oneB x.sp x.nm ns = oneE ns x from rfl, HP.out]
          have hbb := hb.trans (hb2.mono hb.size)
          go_wp2
          go_ret
          exact ⟨ret_bool (by rw [HT.out, HP.out]; rfl), hbb⟩

set_option maxRecDepth 100000 in
set_option maxHeartbeats 2000000 in
theorem rhasid_any (b : Nat) (v : Value) (l : List El) (scope id : Int) (w : World) (hs : Stk w b v l) :
    Calls Tryd.prog 44 #[.pointer (some ⟨b, 0, Option.none⟩), .int .u8 scope, .int .i64 id] w fun e w' => e = .returned (.bool (foundB (fun x => x.id == id) (endE scope) l.reverse)) ∧ Below w.heap.size w w' := by
  have hc := hs.cell
  have hblt := hs.lt b (.inl rfl)
  have hlen := hs.len
  obtain ⟨P, hPd⟩ : ∃ P : El → Bool, P = fun x => x.id == id := ⟨_, rfl⟩
  have HPD : Hid (∀ x, (x.id == id) = P x) := by rw [hPd]; exact (fun x => rfl : ∀ x : El, (x.id == id) = (fun x : El => x.id == id) x)
  rw [← hPd]
  clear hPd
  rcases hs.form with ⟨rfl, rfl⟩ | ⟨g, cap, rfl, hg, hgb, h1, h2, _, _⟩
  · clear hs
    go_enter Tryd.func44, Tryd.ntmps44
    go_wp2_with fail
    go_loop [7, 8] (fun i _ => i = .int .i64 (-1)) (fun _ _ => 0)
    case atStart => exact rfl
    case round =>
      obtain rfl := hrel
      go_wp2
      go_ret
      exact ⟨rfl, Below.refl _ _⟩
  · have HS := Lib.hid hs
    clear hs
    go_enter Tryd.func44, Tryd.ntmps44
    go_wp2_with fail
    go_loopw [7, 8] (fun i _ wr => ∃ k : Nat, k ≤ l.length ∧ i = .int .i64 ((k : Int) - 1) ∧ Hid (foundB P (endE scope) (l.take k).reverse = foundB P (endE scope) l.reverse) ∧ Below w.heap.size w wr) (fun i _ _ => (intOf i + 1).toNat)
    case atStart => exact ⟨l.length, by omega, rfl, by rw [List.take_length]; exact (rfl : foundB P (endE scope) l.reverse = _), Below.refl _ _⟩
    case round =>
      obtain ⟨k, hk, rfl, HF, hb⟩ := hrel
      have hc2 := (hb.cell (p := ⟨b, 0, Option.none⟩) hblt).trans hc
      cases k with
      | zero =>
        have HR : Hid (foundB P (endE scope) l.reverse = false) := by
          have := HF.out
          rw [show (l.take 0).reverse = [] from rfl] at this
          exact this.symm
        clear HF
        go_wp2
        go_ret
        exact ⟨ret_bool HR.out.symm, hb⟩
      | succ k =>
        have hkl : k < l.length := by omega
        have hst := found_step P (endE scope) l k hkl
        rw [HF.out] at hst
        have HT := Lib.hid hst
        clear hst HF
        obtain ⟨c0, c1, c2⟩ := stk_at HS.out k hkl hb
        generalize l[k] = x at *
        rw [show (((k + 1 : Nat) : Int) - 1) = (k : Int) from by omega]
        have hpe := HPD.out x
        cases hP : P x
        · rw [hP] at hpe
          have HP := Lib.hid hP
          clear hP
          cases hE : endE scope x
          · have HE := Lib.hid hE
            clear hE
            go_wp2_with fail
            refine (ends_ref scope x.id x.sp x.nm wr).mono ?_
            rintro e w3 ⟨rfl, hb3⟩
            rw [show endsB scope x.sp x.nm = endE scope x from rfl, HE.out]
            have hbc := hb.trans (hb3.mono hb.size)
            go_wp2
            go_roundw
            case rel => exact ⟨k, by omega, rfl, by rw [HT.out, HP.out, HE.out]; exact (rfl : _ = foundB P (endE scope) (l.take k).reverse), hbc⟩
            case measure => simp [intOf] <;> omega
          · have HE := Lib.hid hE
            clear hE
            go_wp2_with fail
            refine (ends_ref scope x.id x.sp x.nm wr).mono ?_
            rintro e w3 ⟨rfl, hb3⟩
            rw [show endsB scope x.sp x.nm = endE scope x from rfl, HE.out]
            have hbc := hb.trans (hb3.mono hb.size)
            go_wp2
            go_ret
            exact ⟨ret_bool (by rw [HT.out, HP.out, HE.out]; rfl), hbc⟩
        · rw [hP] at hpe
          have HP := Lib.hid hP
          clear hP
          go_wp2
          go_ret
          exact ⟨ret_bool (by rw [HT.out, HP.out]; rfl), hb⟩
end Go.Proofs.YtibfiblajicdpaaDoor
