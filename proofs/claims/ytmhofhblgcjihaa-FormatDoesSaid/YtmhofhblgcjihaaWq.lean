/- 'does': the kind that finds. -/
import Derived.Test.YtmhofhblgcjihaaWj
import Derived.Test.YtmhofhblgcjihaaWm
namespace Go.Proofs.Ytmhofhblgcjihaa
open Go Go.RowKit Go.Shelf

theorem findpost_out {r : Option Ab} {w w' : World} {e : Ending} (h : FindPost r w e w') : ROut (r.getD Ab.none) #[.bool r.isSome] w e w' := by
  cases r with
  | none => obtain ⟨a, c, h1, h2, _, h3⟩ := h; exact ⟨a, c, h1, h2, h3⟩
  | some x => obtain ⟨a, c, h1, h2, _, h3⟩ := h; exact ⟨a, c, h1, h2, h3⟩

theorem rfindpost_out {r : Option Ab} {w w' : World} {e : Ending} (h : RFindPost r w e w') : ROut (r.getD Ab.none) #[.bool r.isSome] w e w' := by
  cases r with
  | none => exact h
  | some x => exact h

set_option maxRecDepth 100000 in
set_option maxHeartbeats 8000000 in
theorem does_find {w0 wB W : World} {B b1 b2 : Nat} {l : List Ab} (h : Two w0 wB B b1 b2 l l W) (e : El) (va : Value) (ats : List At) (n : Int) (vo : Value) (op : List Int) (ha : ActAt w0 va ats vo op) :
    Calls Try.prog 17 #[.pointer (some ⟨b1, 0, Option.none⟩), .pointer (some ⟨b2, 0, Option.none⟩), .agg #[.int .i64 5, .int .i64 e.id, .string e.sp, .string e.nm, va, .int .i64 n, vo]] W (DoesPost w0 b1 b2 l) := by
  have hv := ha.here.below (Nat.le_refl _) h.below
  have hz0 := h.below.size
  have hsm := ha.sm
  obtain ⟨oa, oc, rfl⟩ := ha.nums.form
  obtain ⟨xa, xc, rfl⟩ := ha.here.form
  have hal : Below W.heap.size W (W.alloc (.cells #[.int .i64 5, .int .i64 e.id, .string e.sp, .string e.nm, .slice xa ats.length xc, .int .i64 n, .slice oa op.length oc] 54)) := (Below.refl _ _).alloc (Nat.le_refl _) _
  have hA0 := heap_alloc_new W (.cells #[.int .i64 5, .int .i64 e.id, .string e.sp, .string e.nm, .slice xa ats.length xc, .int .i64 n, .slice oa op.length oc] 54)
  have hwz : W.heap.size < (W.alloc (.cells #[.int .i64 5, .int .i64 e.id, .string e.sp, .string e.nm, .slice xa ats.length xc, .int .i64 n, .slice oa op.length oc] 54)).heap.size := by simp
  obtain ⟨ka, kc, w2, hr, hka, hb2, hkq, hblk⟩ := run_ats (W.alloc (.cells #[.int .i64 5, .int .i64 e.id, .string e.sp, .string e.nm, .slice xa ats.length xc, .int .i64 n, .slice oa op.length oc] 54)) 35 xa xc ats (hv.below (Nat.le_refl _) hal) hsm
  have hb02 := hal.trans (hb2.mono hal.size)
  have hT2 := h.fresh hb02
  have hE2 := (hb2.block W.heap.size hwz).trans hA0
  have hz2 := hb02.size
  have hlt2 : W.heap.size < w2.heap.size := (Array.getElem?_eq_some_iff.1 hE2).1
  have kk0 : ∀ V : World, V.heap[W.heap.size]? = w2.heap[W.heap.size]? → V.cell? ⟨W.heap.size, 0, Option.none⟩ = some (.int .i64 5) ∧ V.cell? ⟨W.heap.size, 1, Option.none⟩ = some (.int .i64 e.id) ∧ V.cell? ⟨W.heap.size, 2, Option.none⟩ = some (.string e.sp) ∧ V.cell? ⟨W.heap.size, 3, Option.none⟩ = some (.string e.nm) ∧ V.cell? ⟨W.heap.size, 4, Option.none⟩ = some (.slice xa ats.length xc) ∧ V.cell? ⟨W.heap.size, 5, Option.none⟩ = some (.int .i64 n) ∧ V.cell? ⟨W.heap.size, 6, Option.none⟩ = some (.slice oa op.length oc) := fun V hV => by
    have h1 := hV.trans hE2
    refine ⟨?_, ?_, ?_, ?_, ?_, ?_, ?_⟩
    all_goals (rw [cell_of_row V _ _ _ _ _ h1]; rfl)
  obtain ⟨c0, c1, c2, c3, c4, c5, c6⟩ := kk0 w2 rfl
  have HT := Lib.hid hT2
  have hkq2 : ∀ q o, ka = some ⟨q, o, Option.none⟩ → Mine w2 W.heap.size q := fun q o h => ⟨Nat.le_trans (by simp) (hkq q o h).1, (hkq q o h).2⟩
  have HKM := Lib.hid hkq2
  have HBK := Lib.hid hblk
  have HR := Lib.hid hr
  clear hkq2 hblk
  have HKA := Lib.hid hka
  have HKK := Lib.hid kk0
  have HACT := Lib.hid ha
  clear h hv hal hA0 ha hr hka hkq hb2 hb02 hT2 hE2 kk0
  go_enter Try.func17, Try.ntmps17
  obtain ⟨y, hy⟩ : ∃ y, y = (findB e.nm l).getD Ab.none := ⟨_, rfl⟩
  obtain ⟨pb, hpb⟩ : ∃ pb, pb = (findB e.nm l).isSome := ⟨_, rfl⟩
  have HY := Lib.hid hy
  have HP := Lib.hid hpb
  clear hy hpb
  go_wp2_with (at_builtin; refine Lib.wpList_append_run _ rfl _ _ _ _ rfl _ _ rfl rfl _ _ HR.out ?_)
  refine (HT.out.read1 (fun v es hm hr => by have h1 := find_any b1 v es e.nm w2 hr; rw [hm] at h1; exact h1.mono (fun _ _ h => by rw [HY.out, HP.out]; exact findpost_out h)) : Calls _ _ _ _ (ROut y #[.bool pb] w2)).mono ?_
  rintro e3 w3 ⟨a3, c3, rfl, hat3, hb3⟩
  have hT3 := (HT.out.go hb3).go ((Below.refl _ _).alloc (Nat.le_refl _) (.cells #[.int .i64 y.el.id, .string y.el.sp, .string y.el.nm, .slice a3 y.ats.length c3] 37))
  obtain ⟨d0, d1, d2, d3, d4, d5, d6⟩ := HKK.out _ (hT3.mine _ ⟨Nat.le_refl _, hlt2⟩)
  have hz3 := hb3.size
  have HT3 := Lib.hid hT3
  have HA3 := Lib.hid hat3
  clear hT3 hat3 hb3 c0 c1 c2 c4 c5 c6
  go_wp2_with fail
  refine (HT3.out.read2 (fun v es hm hr => by have h1 := rfind_any b2 v es e.nm _ hr; rw [hm] at h1; exact h1.mono (fun _ _ h => by rw [HY.out, HP.out]; exact rfindpost_out h)) : Calls _ _ _ _ (ROut y #[.bool pb] _)).mono ?_
  rintro e4 w4 ⟨a4, c4, rfl, hat4, hb4⟩
  have hz4 := hb4.size
  simp only [World.size_alloc] at hz4
  have hE4 := (hb4.block w3.heap.size (by simp)).trans (heap_alloc_new w3 (.cells #[.int .i64 y.el.id, .string y.el.sp, .string y.el.nm, .slice a3 y.ats.length c3] 37))
  have hT4 := (HT3.out.go hb4).go ((Below.refl _ _).alloc (Nat.le_refl _) (.cells #[.int .i64 y.el.id, .string y.el.sp, .string y.el.nm, .slice a4 y.ats.length c4] 37))
  have hb54 : Below w4.heap.size w4 (w4.alloc (.cells #[.int .i64 y.el.id, .string y.el.sp, .string y.el.nm, .slice a4 y.ats.length c4] 37)) := (Below.refl _ _).alloc (Nat.le_refl _) _
  have hE5 := (hb54.block w3.heap.size (by omega)).trans hE4
  have HS := Lib.hid (sameEntry_eq y a3 a4 c3 c4 _ ((HA3.out.below (Nat.le_refl _) ((Below.refl _ _).alloc (Nat.le_refl _) (.cells #[.int .i64 y.el.id, .string y.el.sp, .string y.el.nm, .slice a3 y.ats.length c3] 37))).below (Nat.le_refl _) (hb4.trans (hb54.mono hb4.size))) (hat4.below (Nat.le_refl _) hb54))
  have g0 : (w4.alloc (.cells #[.int .i64 y.el.id, .string y.el.sp, .string y.el.nm, .slice a4 y.ats.length c4] 37)).cell? ⟨w3.heap.size, 0, Option.none⟩ = some (.int .i64 y.el.id) := by rw [cell_of_row _ _ 0 _ _ _ hE5]; rfl
  have g1 : (w4.alloc (.cells #[.int .i64 y.el.id, .string y.el.sp, .string y.el.nm, .slice a4 y.ats.length c4] 37)).cell? ⟨w3.heap.size, 1, Option.none⟩ = some (.string y.el.sp) := by rw [cell_of_row _ _ 1 _ _ _ hE5]; rfl
  have g2 : (w4.alloc (.cells #[.int .i64 y.el.id, .string y.el.sp, .string y.el.nm, .slice a4 y.ats.length c4] 37)).cell? ⟨w3.heap.size, 2, Option.none⟩ = some (.string y.el.nm) := by rw [cell_of_row _ _ 2 _ _ _ hE5]; rfl
  have g3 : (w4.alloc (.cells #[.int .i64 y.el.id, .string y.el.sp, .string y.el.nm, .slice a4 y.ats.length c4] 37)).cell? ⟨w3.heap.size, 3, Option.none⟩ = some (.slice a3 y.ats.length c3) := by rw [cell_of_row _ _ 3 _ _ _ hE5]; rfl
  have HT4 := Lib.hid hT4
  clear hb4 hb54 hE4 hE5 hat4 hT4 d0 d1 d2 d3 d4 d5 d6
  go_wp2_with fail
  refine HS.out.mono ?_
  rintro e5 w5 ⟨rfl, hb5⟩
  have HT5 := Lib.hid (HT4.out.go hb5)
  clear hb5
  go_wp2_with fail
  go_ret
  exact ⟨ret_bool (by simp), _, _, HT5.out⟩
end Go.Proofs.Ytmhofhblgcjihaa
