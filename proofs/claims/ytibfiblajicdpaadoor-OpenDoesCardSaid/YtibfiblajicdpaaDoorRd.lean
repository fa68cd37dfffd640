/- The reference's stack: Implied, Clear, PopTo. -/
import Derived.Test.YtibfiblajicdpaaDoorRc
import Derived.Test.YtibfiblajicdpaaDoorK
namespace Go.Proofs.YtibfiblajicdpaaDoor
open Go Go.RowKit

theorem boxb {w w' : World} {x : El} {t : TypeId} (hb : Below (w.alloc (.cells #[.int .i64 x.id, .string x.sp, .string x.nm] t)).heap.size (w.alloc (.cells #[.int .i64 x.id, .string x.sp, .string x.nm] t)) w') :
    w'.cell? ⟨w.heap.size, 0, Option.none⟩ = some (.int .i64 x.id) ∧ w'.cell? ⟨w.heap.size, 1, Option.none⟩ = some (.string x.sp) ∧ w'.cell? ⟨w.heap.size, 2, Option.none⟩ = some (.string x.nm) :=
  ⟨(hb.cell (p := ⟨w.heap.size, 0, Option.none⟩) (by simp)).trans (by simp [go_sem]), (hb.cell (p := ⟨w.heap.size, 1, Option.none⟩) (by simp)).trans (by simp [go_sem]), (hb.cell (p := ⟨w.heap.size, 2, Option.none⟩) (by simp)).trans (by simp [go_sem])⟩

/-- strings that lie apart from the stack stay -/
theorem strs_keep {w W : World} {S : Nat → Prop} {vn : Value} {ns : List ByteArray} (hv : StrsAt w vn ns) (hno : 0 < ns.length → ∀ nb off n c, vn = .slice (some ⟨nb, off, Option.none⟩) n c → ¬ S nb) (hk : Keeps S w W) : StrsAt W vn ns := by
  rcases hv with h | ⟨nb, off, c, rfl, h1, h2, h3, h4⟩
  · exact .inl h
  · refine .inr ⟨nb, off, c, rfl, Nat.lt_of_lt_of_le h1 hk.size, h2, h3, fun j hj => ?_⟩
    exact (World.cell?_of_block (w := w) (a := ⟨nb, off + j, Option.none⟩) (hk.block nb h1 (hno h3 nb off _ c rfl))).trans (h4 j hj)

set_option maxRecDepth 100000 in
set_option maxHeartbeats 4000000 in
theorem rimplied_any (b : Nat) (v : Value) (l : List El) (th : Bool) (but : ByteArray) (w : World) (hs : Stk w b v l) :
    Calls Tryd.prog 45 #[.pointer (some ⟨b, 0, Option.none⟩), .bool th, .string but] w (MPost b v w (.returned (.int .i64 (cntTop (impB th but) l))) (l.take (l.length - cntTop (impB th but) l))) := by
  have hl := hs.len
  cases th
  · go_enter Tryd.func45, Tryd.ntmps45
    go_wp2_with fail
    go_loopw [7, 8, 9] (fun n _ _ wr => ∃ (k : Nat) (v' : Value), n = .int .i64 k ∧ k ≤ l.length ∧ Stk wr b v' (l.take (l.length - k)) ∧ Keeps (fp b v) w wr ∧ (∀ q, fp b v' q → fp b v q ∨ w.heap.size ≤ q) ∧ (∀ j, j < k → ∀ x, l.reverse[j]? = some x → impB false but x = true)) (fun n _ _ _ => l.length - (intOf n).toNat)
    case atStart => exact ⟨0, v, rfl, by omega, by simpa using hs, Keeps.refl _ _, fun q h => .inl h, fun j hj => by omega⟩
    case round =>
      obtain ⟨k, v', rfl, hk, hs', hk', hf', hP⟩ := hrel
      have hc := hs'.cell
      by_cases hlt : k < l.length
      · obtain ⟨x, hx, hr⟩ := take_pred l k hlt
        have hlen : (l.take (l.length - k)).length = l.length - k := by simp
        rw [hx] at hs' hlen
        have hlen2 : 0 < l.length - k := by omega
        rcases hs'.form with ⟨rfl, h⟩ | ⟨g', cap, rfl, hg, hgb, h1, h2, _, _⟩
        · simp at h
        · rw [hlen] at hc h1
          have htop := rtop_any b _ _ _ hs'
          rw [show topE (l.take (l.length - (k + 1)) ++ [x]) = x from by simp [topE]] at htop
          have HT := Lib.hid htop
          have HR := Lib.hid hr
          have HX := Lib.hid hx
          have HP := Lib.hid hP
          have HL := Lib.hid hlen
          clear htop hr hx hP hlen
          cases hA : isB x.sp x.nm impW
          · have HA := Lib.hid hA
            clear hA
            have HPx : Hid (impB false but x = false) := by
              have h0 : impB false but x = ((isB x.sp x.nm impW) && !(x.nm.toList == but.toList)) := by
                unfold impB impliedB; simp only [Bool.false_eq_true, if_false]
              rw [h0, HA.out]
              first | rfl | simp
            go_wp2_with fail
            refine HT.out.mono ?_
            rintro e w1 ⟨rfl, hb⟩
            rw [El.v]
            go_wp2_with fail
            refine (is_ref x.id x.sp x.nm impW _ impOk.size).mono ?_
            rintro e w2 ⟨rfl, hb2⟩
            rw [HA.out]
            obtain ⟨b0, b1, b2⟩ := boxb hb2
            have hB : Below wr.heap.size wr w2 := (hb.alloc hb.size _).trans (hb2.mono (Nat.le_trans hb.size (by simp)))
            have hz : w1.heap.size < w2.heap.size := Nat.lt_of_lt_of_le (by simp) hb2.size
            go_wp2
            go_ret
            have e2 : cntTop (impB false but) l = k := cntTop_eq _ l k (by omega) HP.out (.inr ⟨x, HR.out, HPx.out⟩)
            rw [e2, HX.out]
            exact ⟨rfl, _, hs'.below hB, hk'.trans (.of_below hB), hf'⟩
          · have HA := Lib.hid hA
            clear hA
            cases hN : (x.nm.toList == but.toList)
            · have HPx : Hid (impB false but x = true) := by
                have h0 : impB false but x = ((isB x.sp x.nm impW) && !(x.nm.toList == but.toList)) := by
                  unfold impB impliedB; simp only [Bool.false_eq_true, if_false]
                rw [h0, HA.out, hN]
                first | rfl | simp
              go_wp2_with fail
              refine HT.out.mono ?_
              rintro e w1 ⟨rfl, hb⟩
              rw [El.v]
              go_wp2_with fail
              refine (is_ref x.id x.sp x.nm impW _ impOk.size).mono ?_
              rintro e w2 ⟨rfl, hb2⟩
              rw [HA.out]
              obtain ⟨b0, b1, b2⟩ := boxb hb2
              have hB : Below wr.heap.size wr w2 := (hb.alloc hb.size _).trans (hb2.mono (Nat.le_trans hb.size (by simp)))
              have hz : w1.heap.size < w2.heap.size := Nat.lt_of_lt_of_le (by simp) hb2.size
              have hpop := rpop_some b _ _ x _ (hs'.below hB)
              rw [El.v] at hpop
              have HPo := Lib.hid hpop
              clear hpop
              go_wp2_with fail
              refine HPo.out.mono ?_
              rintro e w5 ⟨rfl, v3, hs3, hk3, hf3⟩
              go_wp2_with fail
              go_roundw
              case rel =>
                refine ⟨k + 1, v3, by go_num, by omega, hs3, ?_, ?_, ?_⟩
                · exact (hk'.trans (.of_below hB)).trans' hk3 (fun q hq => hf' q (by simpa [HL.out] using hq))
                · intro q hq
                  rcases hf3 q hq with h | h
                  · exact hf' q (by simpa [HL.out] using h)
                  · exact .inr (by have h5 := hk'.size; have h6 := hB.size; omega)
                · intro j hj y hy
                  by_cases hjk : j < k
                  · exact HP.out j hjk y hy
                  · obtain rfl : j = k := by omega
                    rw [HR.out] at hy; cases hy; exact HPx.out
              case measure => simp [intOf] <;> omega
            · have HPx : Hid (impB false but x = false) := by
                have h0 : impB false but x = ((isB x.sp x.nm impW) && !(x.nm.toList == but.toList)) := by
                  unfold impB impliedB; simp only [Bool.false_eq_true, if_false]
                rw [h0, HA.out, hN]
                first | rfl | simp
              go_wp2_with fail
              refine HT.out.mono ?_
              rintro e w1 ⟨rfl, hb⟩
              rw [El.v]
              go_wp2_with fail
              refine (is_ref x.id x.sp x.nm impW _ impOk.size).mono ?_
              rintro e w2 ⟨rfl, hb2⟩
              rw [HA.out]
              obtain ⟨b0, b1, b2⟩ := boxb hb2
              have hB : Below wr.heap.size wr w2 := (hb.alloc hb.size _).trans (hb2.mono (Nat.le_trans hb.size (by simp)))
              have hz : w1.heap.size < w2.heap.size := Nat.lt_of_lt_of_le (by simp) hb2.size
              go_wp2
              go_ret
              have e2 : cntTop (impB false but) l = k := cntTop_eq _ l k (by omega) HP.out (.inr ⟨x, HR.out, HPx.out⟩)
              rw [e2, HX.out]
              exact ⟨rfl, _, hs'.below hB, hk'.trans (.of_below hB), hf'⟩
      · obtain rfl : k = l.length := by omega
        have hlen : (l.take (l.length - l.length)).length = 0 := by simp
        rcases hs'.form with ⟨rfl, h⟩ | ⟨g', cap, rfl, hg, hgb, h1, h2, _, _⟩
        · go_wp2
          go_ret
          have e2 : cntTop (impB false but) l = l.length := cntTop_eq _ l _ (by omega) hP (.inl rfl)
          rw [e2]
          exact ⟨rfl, _, hs', hk', hf'⟩
        · rw [hlen] at hc
          go_wp2
          go_ret
          have e2 : cntTop (impB false but) l = l.length := cntTop_eq _ l _ (by omega) hP (.inl rfl)
          rw [e2]
          exact ⟨rfl, _, hs', hk', hf'⟩
  · go_enter Tryd.func45, Tryd.ntmps45
    go_wp2_with fail
    go_loopw [7, 8, 9] (fun n _ _ wr => ∃ (k : Nat) (v' : Value), n = .int .i64 k ∧ k ≤ l.length ∧ Stk wr b v' (l.take (l.length - k)) ∧ Keeps (fp b v) w wr ∧ (∀ q, fp b v' q → fp b v q ∨ w.heap.size ≤ q) ∧ (∀ j, j < k → ∀ x, l.reverse[j]? = some x → impB true but x = true)) (fun n _ _ _ => l.length - (intOf n).toNat)
    case atStart => exact ⟨0, v, rfl, by omega, by simpa using hs, Keeps.refl _ _, fun q h => .inl h, fun j hj => by omega⟩
    case round =>
      obtain ⟨k, v', rfl, hk, hs', hk', hf', hP⟩ := hrel
      have hc := hs'.cell
      by_cases hlt : k < l.length
      · obtain ⟨x, hx, hr⟩ := take_pred l k hlt
        have hlen : (l.take (l.length - k)).length = l.length - k := by simp
        rw [hx] at hs' hlen
        have hlen2 : 0 < l.length - k := by omega
        rcases hs'.form with ⟨rfl, h⟩ | ⟨g', cap, rfl, hg, hgb, h1, h2, _, _⟩
        · simp at h
        · rw [hlen] at hc h1
          have htop := rtop_any b _ _ _ hs'
          rw [show topE (l.take (l.length - (k + 1)) ++ [x]) = x from by simp [topE]] at htop
          have HT := Lib.hid htop
          have HR := Lib.hid hr
          have HX := Lib.hid hx
          have HP := Lib.hid hP
          have HL := Lib.hid hlen
          clear htop hr hx hP hlen
          cases hA : isB x.sp x.nm impW
          · have HA := Lib.hid hA
            clear hA
            cases hBq : isB x.sp x.nm thW
            · have HB := Lib.hid hBq
              clear hBq
              have HPx : Hid (impB true but x = false) := by
                have h0 : impB true but x = ((isB x.sp x.nm impW || isB x.sp x.nm thW) && !(x.nm.toList == but.toList)) := by
                  unfold impB impliedB; simp only [if_true, isB_tho]
                rw [h0, HA.out, HB.out]
                first | rfl | simp
              go_wp2_with fail
              refine HT.out.mono ?_
              rintro e w1 ⟨rfl, hb⟩
              rw [El.v]
              go_wp2_with fail
              refine (is_ref x.id x.sp x.nm impW _ impOk.size).mono ?_
              rintro e w2 ⟨rfl, hb2⟩
              rw [HA.out]
              obtain ⟨b0, b1, b2⟩ := boxb hb2
              have hB : Below wr.heap.size wr w2 := (hb.alloc hb.size _).trans (hb2.mono (Nat.le_trans hb.size (by simp)))
              have hz : w1.heap.size < w2.heap.size := Nat.lt_of_lt_of_le (by simp) hb2.size
              go_wp2_with fail
              refine (is_ref x.id x.sp x.nm thW _ (by decide)).mono ?_
              rintro e w3 ⟨rfl, hb3⟩
              rw [HB.out]
              clear b0 b1 b2
              obtain ⟨b0, b1, b2⟩ := boxb (hb2.trans (hb3.mono hb2.size))
              replace hB : Below wr.heap.size wr w3 := hB.trans (hb3.mono hB.size)
              go_wp2
              go_ret
              have e2 : cntTop (impB true but) l = k := cntTop_eq _ l k (by omega) HP.out (.inr ⟨x, HR.out, HPx.out⟩)
              rw [e2, HX.out]
              exact ⟨rfl, _, hs'.below hB, hk'.trans (.of_below hB), hf'⟩
            · have HB := Lib.hid hBq
              clear hBq
              cases hN : (x.nm.toList == but.toList)
              · have HPx : Hid (impB true but x = true) := by
                  have h0 : impB true but x = ((isB x.sp x.nm impW || isB x.sp x.nm thW) && !(x.nm.toList == but.toList)) := by
                    unfold impB impliedB; simp only [if_true, isB_tho]
                  rw [h0, HA.out, HB.out, hN]
                  first | rfl | simp
                go_wp2_with fail
                refine HT.out.mono ?_
                rintro e w1 ⟨rfl, hb⟩
                rw [El.v]
                go_wp2_with fail
                refine (is_ref x.id x.sp x.nm impW _ impOk.size).mono ?_
                rintro e w2 ⟨rfl, hb2⟩
                rw [HA.out]
                obtain ⟨b0, b1, b2⟩ := boxb hb2
                have hB : Below wr.heap.size wr w2 := (hb.alloc hb.size _).trans (hb2.mono (Nat.le_trans hb.size (by simp)))
                have hz : w1.heap.size < w2.heap.size := Nat.lt_of_lt_of_le (by simp) hb2.size
                go_wp2_with fail
                refine (is_ref x.id x.sp x.nm thW _ (by decide)).mono ?_
                rintro e w3 ⟨rfl, hb3⟩
                rw [HB.out]
                clear b0 b1 b2
                obtain ⟨b0, b1, b2⟩ := boxb (hb2.trans (hb3.mono hb2.size))
                replace hB : Below wr.heap.size wr w3 := hB.trans (hb3.mono hB.size)
                have hpop := rpop_some b _ _ x _ (hs'.below hB)
                rw [El.v] at hpop
                have HPo := Lib.hid hpop
                clear hpop
                go_wp2_with fail
                refine HPo.out.mono ?_
                rintro e w5 ⟨rfl, v3, hs3, hk3, hf3⟩
                go_wp2_with fail
                go_roundw
                case rel =>
                  refine ⟨k + 1, v3, by go_num, by omega, hs3, ?_, ?_, ?_⟩
                  · exact (hk'.trans (.of_below hB)).trans' hk3 (fun q hq => hf' q (by simpa [HL.out] using hq))
                  · intro q hq
                    rcases hf3 q hq with h | h
                    · exact hf' q (by simpa [HL.out] using h)
                    · exact .inr (by have h5 := hk'.size; have h6 := hB.size; omega)
                  · intro j hj y hy
                    by_cases hjk : j < k
                    · exact HP.out j hjk y hy
                    · obtain rfl : j = k := by omega
                      rw [HR.out] at hy; cases hy; exact HPx.out
                case measure => simp [intOf] <;> omega
              · have HPx : Hid (impB true but x = false) := by
                  have h0 : impB true but x = ((isB x.sp x.nm impW || isB x.sp x.nm thW) && !(x.nm.toList == but.toList)) := by
                    unfold impB impliedB; simp only [if_true, isB_tho]
                  rw [h0, HA.out, HB.out, hN]
                  first | rfl | simp
                go_wp2_with fail
                refine HT.out.mono ?_
                rintro e w1 ⟨rfl, hb⟩
                rw [El.v]
                go_wp2_with fail
                refine (is_ref x.id x.sp x.nm impW _ impOk.size).mono ?_
                rintro e w2 ⟨rfl, hb2⟩
                rw [HA.out]
                obtain ⟨b0, b1, b2⟩ := boxb hb2
                have hB : Below wr.heap.size wr w2 := (hb.alloc hb.size _).trans (hb2.mono (Nat.le_trans hb.size (by simp)))
                have hz : w1.heap.size < w2.heap.size := Nat.lt_of_lt_of_le (by simp) hb2.size
                go_wp2_with fail
                refine (is_ref x.id x.sp x.nm thW _ (by decide)).mono ?_
                rintro e w3 ⟨rfl, hb3⟩
                rw [HB.out]
                clear b0 b1 b2
                obtain ⟨b0, b1, b2⟩ := boxb (hb2.trans (hb3.mono hb2.size))
                replace hB : Below wr.heap.size wr w3 := hB.trans (hb3.mono hB.size)
                go_wp2
                go_ret
                have e2 : cntTop (impB true but) l = k := cntTop_eq _ l k (by omega) HP.out (.inr ⟨x, HR.out, HPx.out⟩)
                rw [e2, HX.out]
                exact ⟨rfl, _, hs'.below hB, hk'.trans (.of_below hB), hf'⟩
          · have HA := Lib.hid hA
            clear hA
            cases hN : (x.nm.toList == but.toList)
            · have HPx : Hid (impB true but x = true) := by
                have h0 : impB true but x = ((isB x.sp x.nm impW || isB x.sp x.nm thW) && !(x.nm.toList == but.toList)) := by
                  unfold impB impliedB; simp only [if_true, isB_tho]
                rw [h0, HA.out, hN]
                first | rfl | simp
              go_wp2_with fail
              refine HT.out.mono ?_
              rintro e w1 ⟨rfl, hb⟩
              rw [El.v]
              go_wp2_with fail
              refine (is_ref x.id x.sp x.nm impW _ impOk.size).mono ?_
              rintro e w2 ⟨rfl, hb2⟩
              rw [HA.out]
              obtain ⟨b0, b1, b2⟩ := boxb hb2
              have hB : Below wr.heap.size wr w2 := (hb.alloc hb.size _).trans (hb2.mono (Nat.le_trans hb.size (by simp)))
              have hz : w1.heap.size < w2.heap.size := Nat.lt_of_lt_of_le (by simp) hb2.size
              have hpop := rpop_some b _ _ x _ (hs'.below hB)
              rw [El.v] at hpop
              have HPo := Lib.hid hpop
              clear hpop
              go_wp2_with fail
              refine HPo.out.mono ?_
              rintro e w5 ⟨rfl, v3, hs3, hk3, hf3⟩
              go_wp2_with fail
              go_roundw
              case rel =>
                refine ⟨k + 1, v3, by go_num, by omega, hs3, ?_, ?_, ?_⟩
                · exact (hk'.trans (.of_below hB)).trans' hk3 (fun q hq => hf' q (by simpa [HL.out] using hq))
                · intro q hq
                  rcases hf3 q hq with h | h
                  · exact hf' q (by simpa [HL.out] using h)
                  · exact .inr (by have h5 := hk'.size; have h6 := hB.size; omega)
                · intro j hj y hy
                  by_cases hjk : j < k
                  · exact HP.out j hjk y hy
                  · obtain rfl : j = k := by omega
                    rw [HR.out] at hy; cases hy; exact HPx.out
              case measure => simp [intOf] <;> omega
            · have HPx : Hid (impB true but x = false) := by
                have h0 : impB true but x = ((isB x.sp x.nm impW || isB x.sp x.nm thW) && !(x.nm.toList == but.toList)) := by
                  unfold impB impliedB; simp only [if_true, isB_tho]
                rw [h0, HA.out, hN]
                first | rfl | simp
              go_wp2_with fail
              refine HT.out.mono ?_
              rintro e w1 ⟨rfl, hb⟩
              rw [El.v]
              go_wp2_with fail
              refine (is_ref x.id x.sp x.nm impW _ impOk.size).mono ?_
              rintro e w2 ⟨rfl, hb2⟩
              rw [HA.out]
              obtain ⟨b0, b1, b2⟩ := boxb hb2
              have hB : Below wr.heap.size wr w2 := (hb.alloc hb.size _).trans (hb2.mono (Nat.le_trans hb.size (by simp)))
              have hz : w1.heap.size < w2.heap.size := Nat.lt_of_lt_of_le (by simp) hb2.size
              go_wp2
              go_ret
              have e2 : cntTop (impB true but) l = k := cntTop_eq _ l k (by omega) HP.out (.inr ⟨x, HR.out, HPx.out⟩)
              rw [e2, HX.out]
              exact ⟨rfl, _, hs'.below hB, hk'.trans (.of_below hB), hf'⟩
      · obtain rfl : k = l.length := by omega
        have hlen : (l.take (l.length - l.length)).length = 0 := by simp
        rcases hs'.form with ⟨rfl, h⟩ | ⟨g', cap, rfl, hg, hgb, h1, h2, _, _⟩
        · go_wp2
          go_ret
          have e2 : cntTop (impB true but) l = l.length := cntTop_eq _ l _ (by omega) hP (.inl rfl)
          rw [e2]
          exact ⟨rfl, _, hs', hk', hf'⟩
        · rw [hlen] at hc
          go_wp2
          go_ret
          have e2 : cntTop (impB true but) l = l.length := cntTop_eq _ l _ (by omega) hP (.inl rfl)
          rw [e2]
          exact ⟨rfl, _, hs', hk', hf'⟩

set_option maxRecDepth 100000 in
set_option maxHeartbeats 4000000 in
theorem rclear_any (b : Nat) (v vn : Value) (l : List El) (ns : List ByteArray) (w : World) (hs : Stk w b v l) (hv : StrsAt w vn ns) (hno : 0 < ns.length → ∀ nb off n c, vn = .slice (some ⟨nb, off, Option.none⟩) n c → ¬ fp b v nb) :
    Calls Tryd.prog 48 #[.pointer (some ⟨b, 0, Option.none⟩), vn] w (MPost b v w (.returned (.int .i64 (cntTop (noneB ns) l))) (l.take (l.length - cntTop (noneB ns) l))) := by
  have hl := hs.len
  have hvn := fun W (hW : Keeps (fp b v) w W) W2 (hb : Below W.heap.size W W2) => (strs_keep hv hno hW).below (Nat.le_refl _) hb
  obtain ⟨na, nn, nc, rfl⟩ : ∃ a n c, vn = .slice a n c := by
    rcases hv with ⟨_, a, c, rfl⟩ | ⟨b, off, c, rfl, _⟩
    · exact ⟨_, _, _, rfl⟩
    · exact ⟨_, _, _, rfl⟩
  clear hv hno
  go_enter Tryd.func48, Tryd.ntmps48
  go_wp2_with fail
  go_loopw [5, 6] (fun n _ wr => ∃ (k : Nat) (v' : Value), n = .int .i64 k ∧ k ≤ l.length ∧ Stk wr b v' (l.take (l.length - k)) ∧ Keeps (fp b v) w wr ∧ (∀ q, fp b v' q → fp b v q ∨ w.heap.size ≤ q) ∧ (∀ j, j < k → ∀ x, l.reverse[j]? = some x → noneB ns x = true)) (fun n _ _ => l.length - (intOf n).toNat)
  case atStart => exact ⟨0, v, rfl, by omega, by simpa using hs, Keeps.refl _ _, fun q h => .inl h, fun j hj => by omega⟩
  case round =>
    obtain ⟨k, v', rfl, hk, hs', hk', hf', hP⟩ := hrel
    have hc := hs'.cell
    by_cases hlt : k < l.length
    · obtain ⟨x, hx, hr⟩ := take_pred l k hlt
      have hlen : (l.take (l.length - k)).length = l.length - k := by simp
      rw [hx] at hs' hlen
      have hlen2 : 0 < l.length - k := by omega
      rcases hs'.form with ⟨rfl, h⟩ | ⟨g', cap, rfl, hg, hgb, h1, h2, _, _⟩
      · simp at h
      · rw [hlen] at hc h1
        have htop := rtop_any b _ _ _ hs'
        rw [show topE (l.take (l.length - (k + 1)) ++ [x]) = x from by simp [topE]] at htop
        have HT := Lib.hid htop
        have HR := Lib.hid hr
        have HX := Lib.hid hx
        have HP := Lib.hid hP
        have HL := Lib.hid hlen
        clear htop hr hx hP hlen
        cases hO : oneB x.sp x.nm ns
        · have HO := Lib.hid hO
          clear hO
          have HPx : Hid (noneB ns x = true) := by rw [noneB, HO.out]; exact (rfl : (!false) = true)
          go_wp2_with fail
          refine HT.out.mono ?_
          rintro e w1 ⟨rfl, hb⟩
          rw [El.v]
          go_wp2_with fail
          refine (one_ref x.id x.sp x.nm _ ns w1 (hvn wr hk' w1 hb)).mono ?_
          rintro e w2 ⟨rfl, hb2⟩
          rw [HO.out]
          have hB : Below wr.heap.size wr w2 := hb.trans (hb2.mono hb.size)
          have hpop := rpop_some b _ _ x _ (hs'.below hB)
          rw [El.v] at hpop
          have HPo := Lib.hid hpop
          clear hpop
          go_wp2_with fail
          refine HPo.out.mono ?_
          rintro e w5 ⟨rfl, v3, hs3, hk3, hf3⟩
          go_wp2_with fail
          go_roundw
          case rel =>
            refine ⟨k + 1, v3, by go_num, by omega, hs3, ?_, ?_, ?_⟩
            · exact (hk'.trans (.of_below hB)).trans' hk3 (fun q hq => hf' q (by simpa [HL.out] using hq))
            · intro q hq
              rcases hf3 q hq with h | h
              · exact hf' q (by simpa [HL.out] using h)
              · exact .inr (by have h5 := hk'.size; have h6 := hB.size; omega)
            · intro j hj y hy
              by_cases hjk : j < k
              · exact HP.out j hjk y hy
              · obtain rfl : j = k := by omega
                rw [HR.out] at hy; cases hy; exact HPx.out
          case measure => simp [intOf] <;> omega
        · have HO := Lib.hid hO
          clear hO
          have HPx : Hid (noneB ns x = false) := by rw [noneB, HO.out]; exact (rfl : (!true) = false)
          go_wp2_with fail
          refine HT.out.mono ?_
          rintro e w1 ⟨rfl, hb⟩
          rw [El.v]
          go_wp2_with fail
          refine (one_ref x.id x.sp x.nm _ ns w1 (hvn wr hk' w1 hb)).mono ?_
          rintro e w2 ⟨rfl, hb2⟩
          rw [HO.out]
          have hB : Below wr.heap.size wr w2 := hb.trans (hb2.mono hb.size)
          go_wp2
          go_ret
          have e2 : cntTop (noneB ns) l = k := cntTop_eq _ l k (by omega) HP.out (.inr ⟨x, HR.out, HPx.out⟩)
          rw [e2, HX.out]
          exact ⟨rfl, _, hs'.below hB, hk'.trans (.of_below hB), hf'⟩
    · obtain rfl : k = l.length := by omega
      have hlen : (l.take (l.length - l.length)).length = 0 := by simp
      rcases hs'.form with ⟨rfl, h⟩ | ⟨g', cap, rfl, hg, hgb, h1, h2, _, _⟩
      · go_wp2
        go_ret
        have e2 : cntTop (noneB ns) l = l.length := cntTop_eq _ l _ (by omega) hP (.inl rfl)
        rw [e2]
        exact ⟨rfl, _, hs', hk', hf'⟩
      · rw [hlen] at hc
        go_wp2
        go_ret
        have e2 : cntTop (noneB ns) l = l.length := cntTop_eq _ l _ (by omega) hP (.inl rfl)
        rw [e2]
        exact ⟨rfl, _, hs', hk', hf'⟩

set_option maxRecDepth 100000 in
set_option maxHeartbeats 4000000 in
theorem rpopto_any (b : Nat) (v vn : Value) (l : List El) (ns : List ByteArray) (w : World) (hs : Stk w b v l) (hv : StrsAt w vn ns) (hno : 0 < ns.length → ∀ nb off n c, vn = .slice (some ⟨nb, off, Option.none⟩) n c → ¬ fp b v nb) :
    Calls Tryd.prog 46 #[.pointer (some ⟨b, 0, Option.none⟩), vn] w (MPost b v w (.returned (.int .i64 (popToN ns l))) (popToL ns l)) := by
  have hl := hs.len
  have hvn := fun W (hW : Keeps (fp b v) w W) W2 (hb : Below W.heap.size W W2) => (strs_keep hv hno hW).below (Nat.le_refl _) hb
  obtain ⟨na, nn, nc, rfl⟩ : ∃ a n c, vn = .slice a n c := by
    rcases hv with ⟨_, a, c, rfl⟩ | ⟨b, off, c, rfl, _⟩
    · exact ⟨_, _, _, rfl⟩
    · exact ⟨_, _, _, rfl⟩
  clear hv hno
  go_enter Tryd.func46, Tryd.ntmps46
  go_wp2_with fail
  go_loopw [5, 6, 7, 8] (fun n _ _ _ wr => ∃ (k : Nat) (v' : Value), n = .int .i64 k ∧ k ≤ l.length ∧ Stk wr b v' (l.take (l.length - k)) ∧ Keeps (fp b v) w wr ∧ (∀ q, fp b v' q → fp b v q ∨ w.heap.size ≤ q) ∧ (∀ j, j < k → ∀ x, l.reverse[j]? = some x → noneB ns x = true)) (fun n _ _ _ _ => l.length - (intOf n).toNat)
  case atStart => exact ⟨0, v, rfl, by omega, by simpa using hs, Keeps.refl _ _, fun q h => .inl h, fun j hj => by omega⟩
  case round =>
    obtain ⟨k, v', rfl, hk, hs', hk', hf', hP⟩ := hrel
    have hc := hs'.cell
    by_cases hlt : k < l.length
    · obtain ⟨x, hx, hr⟩ := take_pred l k hlt
      have hlen : (l.take (l.length - k)).length = l.length - k := by simp
      rw [hx] at hs' hlen
      have hlen2 : 0 < l.length - k := by omega
      rcases hs'.form with ⟨rfl, h⟩ | ⟨g', cap, rfl, hg, hgb, h1, h2, _, _⟩
      · simp at h
      · rw [hlen] at hc h1
        have HR := Lib.hid hr
        have HX := Lib.hid hx
        have HP := Lib.hid hP
        have HL := Lib.hid hlen
        clear hr hx hP hlen
        cases hO : oneB x.sp x.nm ns
        · have HO := Lib.hid hO
          clear hO
          have HPx : Hid (noneB ns x = true) := by rw [noneB, HO.out]; exact (rfl : (!false) = true)
          have hpop := rpop_some b _ _ x _ hs'
          rw [El.v] at hpop
          have HPo := Lib.hid hpop
          clear hpop
          go_wp2_with fail
          refine HPo.out.mono ?_
          rintro e w1 ⟨rfl, v3, hs3, hk3, hf3⟩
          have hk1 : Keeps (fp b v) w w1 := hk'.trans' hk3 (fun q hq => hf' q (by simpa [HL.out] using hq))
          have hf1 : ∀ q, fp b v3 q → fp b v q ∨ w.heap.size ≤ q := fun q hq => by
            rcases hf3 q hq with h | h
            · exact hf' q (by simpa [HL.out] using h)
            · exact .inr (by have h5 := hk'.size; omega)
          have hbA : Below w1.heap.size w1 (w1.alloc (.cells #[.int .i64 x.id, .string x.sp, .string x.nm] 30)) := (Below.refl _ _).alloc (Nat.le_refl _) _
          go_wp2_with fail
          refine (one_ref x.id x.sp x.nm _ ns _ (hvn w1 hk1 _ hbA)).mono ?_
          rintro e w2 ⟨rfl, hb2⟩
          rw [HO.out]
          have hB : Below w1.heap.size w1 w2 := hbA.trans (hb2.mono hbA.size)
          go_wp2_with fail
          go_roundw
          case rel =>
            refine ⟨k + 1, v3, by go_num, by omega, hs3.below hB, hk1.trans (.of_below hB), hf1, ?_⟩
            intro j hj y hy
            by_cases hjk : j < k
            · exact HP.out j hjk y hy
            · obtain rfl : j = k := by omega
              rw [HR.out] at hy; cases hy; exact HPx.out
          case measure => simp [intOf] <;> omega
        · have HO := Lib.hid hO
          clear hO
          have HPx : Hid (noneB ns x = false) := by rw [noneB, HO.out]; exact (rfl : (!true) = false)
          have hpop := rpop_some b _ _ x _ hs'
          rw [El.v] at hpop
          have HPo := Lib.hid hpop
          clear hpop
          go_wp2_with fail
          refine HPo.out.mono ?_
          rintro e w1 ⟨rfl, v3, hs3, hk3, hf3⟩
          have hk1 : Keeps (fp b v) w w1 := hk'.trans' hk3 (fun q hq => hf' q (by simpa [HL.out] using hq))
          have hf1 : ∀ q, fp b v3 q → fp b v q ∨ w.heap.size ≤ q := fun q hq => by
            rcases hf3 q hq with h | h
            · exact hf' q (by simpa [HL.out] using h)
            · exact .inr (by have h5 := hk'.size; omega)
          have hbA : Below w1.heap.size w1 (w1.alloc (.cells #[.int .i64 x.id, .string x.sp, .string x.nm] 30)) := (Below.refl _ _).alloc (Nat.le_refl _) _
          go_wp2_with fail
          refine (one_ref x.id x.sp x.nm _ ns _ (hvn w1 hk1 _ hbA)).mono ?_
          rintro e w2 ⟨rfl, hb2⟩
          rw [HO.out]
          have hB : Below w1.heap.size w1 w2 := hbA.trans (hb2.mono hbA.size)
          go_wp2_with fail
          go_ret
          have e2 : cntTop (noneB ns) l = k := cntTop_eq _ l k (by omega) HP.out (.inr ⟨x, HR.out, HPx.out⟩)
          have e3 : popToN ns l = (k : Int) + 1 := by rw [popToN, e2, if_neg (by omega)]
          have e4 : popToL ns l = l.take (l.length - (k + 1)) := by rw [popToL, e2]
          rw [e3, e4]
          exact ⟨by go_num, v3, hs3.below hB, hk1.trans (.of_below hB), hf1⟩
    · obtain rfl : k = l.length := by omega
      have hlen : (l.take (l.length - l.length)).length = 0 := by simp
      have e2 : cntTop (noneB ns) l = l.length := cntTop_eq _ l _ (by omega) hP (.inl rfl)
      have e3 : popToN ns l = (l.length : Int) := by rw [popToN, e2, if_pos rfl]
      have e4 : popToL ns l = l.take (l.length - l.length) := by
        rw [popToL, e2, show l.length - (l.length + 1) = 0 from by omega, show l.length - l.length = 0 from by omega]
      have E3 := Lib.hid e3
      have E4 := Lib.hid e4
      clear e2 e3 e4
      rcases hs'.form with ⟨rfl, h⟩ | ⟨g', cap, rfl, hg, hgb, h1, h2, _, _⟩
      · have HS' := Lib.hid hs'
        clear hs' h hlen hP
        go_wp2
        go_ret
        rw [E3.out, E4.out]
        exact ⟨rfl, _, HS'.out, hk', hf'⟩
      · rw [hlen] at hc
        have HS' := Lib.hid hs'
        clear hs' hlen hP
        go_wp2
        go_ret
        rw [E3.out, E4.out]
        exact ⟨rfl, _, HS'.out, hk', hf'⟩
end Go.Proofs.YtibfiblajicdpaaDoor
