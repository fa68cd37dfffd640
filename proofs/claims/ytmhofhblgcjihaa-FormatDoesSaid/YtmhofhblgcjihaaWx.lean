/- 'does': the kind that asks for a place. -/
import Derived.Test.YtmhofhblgcjihaaWm
import Derived.Test.YtmhofhblgcjihaaWu
import Derived.Deep.RegionHeld
namespace Go.Proofs.Ytmhofhblgcjihaa
open Go Go.RowKit Go.Shelf

set_option maxRecDepth 100000 in
set_option maxHeartbeats 8000000 in
theorem does_at {w0 wB W : World} {B b1 b2 : Nat} {l : List Ab} (h : Two w0 wB B b1 b2 l l W) (e : El) (va : Value) (ats : List At) (n : Int) (vo : Value) (op : List Int) (ha : ActAt w0 va ats vo op) :
    Calls Try.prog 17 #[.pointer (some ⟨b1, 0, Option.none⟩), .pointer (some ⟨b2, 0, Option.none⟩), .agg #[.int .i64 4, .int .i64 e.id, .string e.sp, .string e.nm, va, .int .i64 n, vo]] W (DoesPost w0 b1 b2 l) := by
  have hv := ha.here.below (Nat.le_refl _) h.below
  have hz0 := h.below.size
  have hsm := ha.sm
  obtain ⟨oa, oc, rfl⟩ := ha.nums.form
  obtain ⟨xa, xc, rfl⟩ := ha.here.form
  have hal : Below W.heap.size W (W.alloc (.cells #[.int .i64 4, .int .i64 e.id, .string e.sp, .string e.nm, .slice xa ats.length xc, .int .i64 n, .slice oa op.length oc] 54)) := (Below.refl _ _).alloc (Nat.le_refl _) _
  have hA0 := heap_alloc_new W (.cells #[.int .i64 4, .int .i64 e.id, .string e.sp, .string e.nm, .slice xa ats.length xc, .int .i64 n, .slice oa op.length oc] 54)
  have hwz : W.heap.size < (W.alloc (.cells #[.int .i64 4, .int .i64 e.id, .string e.sp, .string e.nm, .slice xa ats.length xc, .int .i64 n, .slice oa op.length oc] 54)).heap.size := by simp
  obtain ⟨ka, kc, w2, hr, hka, hb2, hkq, hblk⟩ := run_ats (W.alloc (.cells #[.int .i64 4, .int .i64 e.id, .string e.sp, .string e.nm, .slice xa ats.length xc, .int .i64 n, .slice oa op.length oc] 54)) 35 xa xc ats (hv.below (Nat.le_refl _) hal) hsm
  have hb02 := hal.trans (hb2.mono hal.size)
  have hT2 := h.fresh hb02
  have hE2 := (hb2.block W.heap.size hwz).trans hA0
  have hz2 := hb02.size
  have hlt2 : W.heap.size < w2.heap.size := (Array.getElem?_eq_some_iff.1 hE2).1
  have kk0 : ∀ V : World, V.heap[W.heap.size]? = w2.heap[W.heap.size]? → V.cell? ⟨W.heap.size, 0, Option.none⟩ = some (.int .i64 4) ∧ V.cell? ⟨W.heap.size, 1, Option.none⟩ = some (.int .i64 e.id) ∧ V.cell? ⟨W.heap.size, 2, Option.none⟩ = some (.string e.sp) ∧ V.cell? ⟨W.heap.size, 3, Option.none⟩ = some (.string e.nm) ∧ V.cell? ⟨W.heap.size, 4, Option.none⟩ = some (.slice xa ats.length xc) ∧ V.cell? ⟨W.heap.size, 5, Option.none⟩ = some (.int .i64 n) ∧ V.cell? ⟨W.heap.size, 6, Option.none⟩ = some (.slice oa op.length oc) := fun V hV => by
    have h1 := hV.trans hE2
    refine ⟨?_, ?_, ?_, ?_, ?_, ?_, ?_⟩
    all_goals (rw [cell_of_row V _ _ _ _ _ h1]; rfl)
  obtain ⟨c0, c1, c2, c3, c4, c5, c6⟩ := kk0 w2 rfl
  have HT := Lib.hid hT2
  have hkq2 : ∀ q o, ka = some ⟨q, o, Option.none⟩ → Mine w2 W.heap.size q := fun q o h => ⟨Nat.le_trans (by simp) (hkq q o h).1, (hkq q o h).2⟩
  have HKM := Lib.hid hkq2
  have HBK := Lib.hid hblk
  have HR := Lib.hid hr
  clear hkq2 hblk
  have HKA := Lib.hid hka
  have HKK := Lib.hid kk0
  have HACT := Lib.hid ha
  have H0 := Lib.hid h
  have HB02 := Lib.hid hb02
  have hsl := (Lib.hid hlt2)
  clear h hv hal hA0 ha hr hka hkq hb2 hb02 hT2 hE2 kk0
  go_enter Try.func17, Try.ntmps17
  obtain ⟨y, hy⟩ : ∃ y, y = atX l n := ⟨_, rfl⟩
  obtain ⟨ye, hye⟩ : ∃ ye, ye = atXe l n := ⟨_, rfl⟩
  have HY := Lib.hid hy
  have HYE := Lib.hid hye
  clear hy hye
  go_wp2_with (at_builtin; refine Lib.wpList_append_run _ rfl _ _ _ _ rfl _ _ rfl rfl _ _ HR.out ?_)
  refine (HT.out.read1 (fun v es hm hr => by have h1 := at_own b1 v es n w2 hr; rw [hm, ← HY.out, ← HYE.out] at h1; exact h1) : Calls _ _ _ _ (OutOwn y #[.int .i64 ye] w2)).mono ?_
  rintro e3 w3 ⟨a3, c3, rfl, hat3, hq3, hb3, ho3⟩
  have hal3 : Below w3.heap.size w3 (w3.alloc (.cells #[.int .i64 y.el.id, .string y.el.sp, .string y.el.nm, .slice a3 y.ats.length c3] 37)) := (Below.refl _ _).alloc (Nat.le_refl _) _
  have hT3 := (HT.out.go hb3).go hal3
  obtain ⟨d0, d1, d2, d3, d4, d5, d6⟩ := HKK.out _ (hT3.mine _ ⟨Nat.le_refl _, hlt2⟩)
  have hz3 := hb3.size
  have HT3 := Lib.hid hT3
  have HA3 := Lib.hid hat3
  have HQ3 := Lib.hid hq3
  have HO3 := Lib.hid ho3
  have HB3 := Lib.hid hb3
  clear hT3 hat3 hb3 hq3 ho3 c0 c1 c2 c4 c5 c6
  go_wp2_with fail
  refine (HT3.out.read2 (fun v es hm hr => by have h1 := rat_any b2 v es n _ hr; rw [hm, ← HY.out, ← HYE.out] at h1; exact h1) : Calls _ _ _ _ (ROut y #[.int .i64 ye] _)).mono ?_
  rintro e4 w4 ⟨a4, c4, rfl, hat4, hb4⟩
  have hz4 := hb4.size
  simp only [World.size_alloc] at hz4
  have hE4 := (hb4.block w3.heap.size (by simp)).trans (heap_alloc_new w3 (.cells #[.int .i64 y.el.id, .string y.el.sp, .string y.el.nm, .slice a3 y.ats.length c3] 37))
  have hb54 : Below w4.heap.size w4 (w4.alloc (.cells #[.int .i64 y.el.id, .string y.el.sp, .string y.el.nm, .slice a4 y.ats.length c4] 37)) := (Below.refl _ _).alloc (Nat.le_refl _) _
  have hE5 := (hb54.block w3.heap.size (by omega)).trans hE4
  have HS := Lib.hid (sameEntry_eq y a3 a4 c3 c4 _ ((HA3.out.below (Nat.le_refl _) hal3).below (Nat.le_refl _) (hb4.trans (hb54.mono hb4.size))) (hat4.below (Nat.le_refl _) hb54))
  have g0 : (w4.alloc (.cells #[.int .i64 y.el.id, .string y.el.sp, .string y.el.nm, .slice a4 y.ats.length c4] 37)).cell? ⟨w3.heap.size, 0, Option.none⟩ = some (.int .i64 y.el.id) := by rw [cell_of_row _ _ 0 _ _ _ hE5]; rfl
  have g1 : (w4.alloc (.cells #[.int .i64 y.el.id, .string y.el.sp, .string y.el.nm, .slice a4 y.ats.length c4] 37)).cell? ⟨w3.heap.size, 1, Option.none⟩ = some (.string y.el.sp) := by rw [cell_of_row _ _ 1 _ _ _ hE5]; rfl
  have g2 : (w4.alloc (.cells #[.int .i64 y.el.id, .string y.el.sp, .string y.el.nm, .slice a4 y.ats.length c4] 37)).cell? ⟨w3.heap.size, 2, Option.none⟩ = some (.string y.el.nm) := by rw [cell_of_row _ _ 2 _ _ _ hE5]; rfl
  have g3 : (w4.alloc (.cells #[.int .i64 y.el.id, .string y.el.sp, .string y.el.nm, .slice a4 y.ats.length c4] 37)).cell? ⟨w3.heap.size, 3, Option.none⟩ = some (.slice a3 y.ats.length c3) := by rw [cell_of_row _ _ 3 _ _ _ hE5]; rfl
  have hbx : Below (w3.alloc (.cells #[.int .i64 y.el.id, .string y.el.sp, .string y.el.nm, .slice a3 y.ats.length c3] 37)).heap.size (w3.alloc (.cells #[.int .i64 y.el.id, .string y.el.sp, .string y.el.nm, .slice a3 y.ats.length c3] 37)) (w4.alloc (.cells #[.int .i64 y.el.id, .string y.el.sp, .string y.el.nm, .slice a4 y.ats.length c4] 37)) := hb4.trans (hb54.mono hb4.size)
  have hby : Below w3.heap.size w3 (w4.alloc (.cells #[.int .i64 y.el.id, .string y.el.sp, .string y.el.nm, .slice a4 y.ats.length c4] 37)) := hal3.trans (hbx.mono hal3.size)
  have HBY := Lib.hid hby
  have HE5 := Lib.hid hE5
  have hz5 : w4.heap.size < (w4.alloc (.cells #[.int .i64 y.el.id, .string y.el.sp, .string y.el.nm, .slice a4 y.ats.length c4] 37)).heap.size := by simp
  clear hb4 hb54 hE4 hE5 hat4 hal3 hbx hby d0 d1 d2 d3 d4 d5 d6
  go_wp2_with fail
  refine HS.out.mono ?_
  rintro e5 w5 ⟨rfl, hb5⟩
  have hz6 := hb5.size
  have hE6 := (hb5.block w3.heap.size (by omega)).trans HE5.out
  have hby2 := HBY.out.trans (hb5.mono (by omega))
  have hbz2 := HB3.out.trans (hby2.mono HB3.out.size)
  have hbzW := HB02.out.trans (hbz2.mono (by omega))
  have hT5 := H0.out.fresh hbzW
  have HT5 := Lib.hid hT5
  have hQ5 : ∀ q o, a3 = some ⟨q, o, Option.none⟩ → w2.heap.size ≤ q ∧ q < w3.heap.size := HQ3.out
  have HQ5 := Lib.hid hQ5
  have hO5 : 0 < y.ats.length → ∃ q T, a3 = some ⟨q, 0, Option.none⟩ ∧ w5.heap[q]? = some (.cells T 34 (0, 0)) ∧ y.ats.length * 3 ≤ T.size := fun hn => by
    obtain ⟨q, T, h1, h2⟩ := HO3.out hn
    refine ⟨q, T, h1, (hby2.block q (HQ3.out q 0 h1).2).trans h2, ?_⟩
    have h3 := HA3.out
    rw [h1] at h3
    exact ats_room h3 hn h2
  have HO5 := Lib.hid hO5
  have hE7 : w5.heap[W.heap.size]? = w2.heap[W.heap.size]? := hbz2.block W.heap.size hsl.out
  have HE6 := Lib.hid hE6
  have HE7 := Lib.hid hE7
  clear hb5 hE6 hby2 hbz2 hbzW hT5 hQ5 hO5 hE7 g0 g1 g2 g3
  go_wp2_with fail
  go_loopw [13] (fun i wr => ∃ k : Nat, k ≤ y.ats.length ∧ i = .int .i64 k ∧ Keeps (fun q => a3 = some ⟨q, 0, Option.none⟩) w5 wr ∧ ∀ q, a3 = some ⟨q, 0, Option.none⟩ → 0 < y.ats.length → ∃ T : Array Value, wr.heap[q]? = some (.cells T 34 (0, 0)) ∧ y.ats.length * 3 ≤ T.size) (fun i _ => y.ats.length - (intOf i).toNat)
  case atStart =>
    refine ⟨0, by omega, rfl, Keeps.refl _ _, fun q he hn => ?_⟩
    obtain ⟨q', T, e', hT, hs⟩ := HO5.out hn
    rw [he] at e'
    cases e'
    exact ⟨T, hT, hs⟩
  case round =>
    obtain ⟨k, hk, rfl, hkp, hT⟩ := hrel
    have hyl : y.ats.length ≤ 9223372036854775807 := HA3.out.len
    have hE8 := (hkp.block w3.heap.size (by omega) (fun h => by have := HQ5.out _ _ h; omega)).trans HE6.out
    have hE9 := (hkp.block W.heap.size (by omega) (fun h => by have := HQ5.out _ _ h; omega)).trans HE7.out
    have g3 : wr.cell? ⟨w3.heap.size, 3, Option.none⟩ = some (.slice a3 y.ats.length c3) := by rw [cell_of_row _ _ 3 _ _ _ hE8]; rfl
    obtain ⟨d0, d1, d2, d3, d4, d5, d6⟩ := HKK.out _ hE9
    clear hE8 hE9
    by_cases hlt : k < y.ats.length
    · obtain ⟨q, _, rfl, _⟩ := HO5.out (by omega)
      obtain ⟨T, hTq, hTs⟩ := hT q rfl (by omega)
      obtain ⟨u0, hu0⟩ : ∃ u0, wr.cell? ⟨q, k * 3 + 1, Option.none⟩ = some u0 := ⟨T[k * 3 + 1]'(by omega), by rw [cell_of_row wr q _ T _ _ hTq]; simp⟩
      have hfz : wr.frozen? ⟨q, k * 3 + 1, Option.none⟩ = false := by simp [World.frozen?, hTq]
      have hklt : ((k : Nat) : Int) < (y.ats.length : Int) := by omega
      have hk0 : (0 : Int) ≤ (k : Int) := by omega
      have hw1 : IntKind.i64.wrap ((k : Int) + 1) = (k : Int) + 1 := by rw [IntKind.wrap_i64]; omega
      have HTQ := Lib.hid hTq
      have HKP := Lib.hid hkp
      clear hTq hkp hT
      go_wp2_with fail
      go_roundw
      case rel => exact ⟨k + 1, by omega, by go_num, HKP.out.setCell (p := ⟨q, k * 3 + 1, Option.none⟩) (.inl rfl) _, fun q' he hn => by cases he; exact ⟨_, setCell_heap7 HTQ.out _, by simpa using hTs⟩⟩
      case measure => simp [intOf] <;> omega
    · obtain rfl : k = y.ats.length := by omega
      have hP := HT5.out.poke hz0 ((Keeps.refl (Mine w5 W.heap.size) w5).trans' hkp (fun i hi => .inl ⟨by have := HQ5.out i 0 hi; omega, by have := HQ5.out i 0 hi; omega⟩))
      have hI1 : ∀ V, Below wr.heap.size wr V → Calls Try.prog 19 #[.pointer (some ⟨b1, 0, Option.none⟩), .int .i64 n] V fun e w' => e = .returned (.int .i64 (idxB l n)) ∧ Below wr.heap.size wr w' := fun V hV =>
        Two.read1 (hP.go hV) (fun v es hm hr => by have h1 := index_any b1 v es n V hr; rw [hm] at h1; exact h1.mono (fun _ _ h => ⟨h.1, hV.trans (h.2.mono hV.size)⟩))
      have hI2 : ∀ V, Below wr.heap.size wr V → Calls Try.prog 33 #[.pointer (some ⟨b2, 0, Option.none⟩), .int .i64 n] V fun e w' => e = .returned (.int .i64 (idxB l n)) ∧ Below wr.heap.size wr w' := fun V hV =>
        Two.read2 (hP.go hV) (fun v es hm hr => by have h1 := rindex_any b2 v es n V hr; rw [hm] at h1; exact h1.mono (fun _ _ h => ⟨h.1, hV.trans (h.2.mono hV.size)⟩))
      have hwlt : W.heap.size < wr.heap.size := by have := hkp.size; omega
      have hKK : ∀ V, Below wr.heap.size wr V → V.cell? ⟨W.heap.size, 0, Option.none⟩ = some (.int .i64 4) ∧ V.cell? ⟨W.heap.size, 1, Option.none⟩ = some (.int .i64 e.id) ∧ V.cell? ⟨W.heap.size, 2, Option.none⟩ = some (.string e.sp) ∧ V.cell? ⟨W.heap.size, 3, Option.none⟩ = some (.string e.nm) ∧ V.cell? ⟨W.heap.size, 4, Option.none⟩ = some (.slice xa ats.length xc) ∧ V.cell? ⟨W.heap.size, 5, Option.none⟩ = some (.int .i64 n) ∧ V.cell? ⟨W.heap.size, 6, Option.none⟩ = some (.slice oa op.length oc) := fun V hV => HKK.out V ((hV.block _ hwlt).trans ((hkp.block W.heap.size (by omega) (fun h => by have := HQ5.out _ _ h; omega)).trans HE7.out))
      have hbd : Below wr.heap.size wr wr.drew := (Below.refl _ _).drew
      have hbr := Below.refl wr.heap.size wr
      have HI1 := Lib.hid hI1
      have HI2 := Lib.hid hI2
      have HKV := Lib.hid hKK
      have HP := Lib.hid hP
      clear hkp hT hI1 hI2 hKK hP
      go_wp2_with fail
      go_region_held (fun w' => w'.cell? ⟨W.heap.size, 0, Option.none⟩ = some (.int .i64 4) ∧ w'.cell? ⟨W.heap.size, 1, Option.none⟩ = some (.int .i64 e.id) ∧ w'.cell? ⟨W.heap.size, 2, Option.none⟩ = some (.string e.sp) ∧ w'.cell? ⟨W.heap.size, 3, Option.none⟩ = some (.string e.nm) ∧ w'.cell? ⟨W.heap.size, 4, Option.none⟩ = some (.slice xa ats.length xc) ∧ w'.cell? ⟨W.heap.size, 5, Option.none⟩ = some (.int .i64 n) ∧ w'.cell? ⟨W.heap.size, 6, Option.none⟩ = some (.slice oa op.length oc))
        (first | exact HKV.out _ hb' | exact HKV.out _ hbd | exact HKV.out _ hbr | go_keep)
        (first
          | (go_at_call 19; refine (HI1.out _ (by assumption)).mono ?_; rintro e' w' ⟨rfl, hb'⟩)
          | (go_at_call 33; refine (HI2.out _ (by assumption)).mono ?_; rintro e' w' ⟨rfl, hb'⟩))
      all_goals
        go_wp2
        go_ret
        exact ⟨ret_bool (by simp), _, _, HP.out.go (by first | assumption | exact Below.drew (by assumption))⟩
end Go.Proofs.Ytmhofhblgcjihaa
