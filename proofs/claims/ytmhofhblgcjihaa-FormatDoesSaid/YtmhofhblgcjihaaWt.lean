/- 'does': the kind that asks for the lost ones. -/
import Derived.Test.YtmhofhblgcjihaaWd
import Derived.Test.YtmhofhblgcjihaaWm
namespace Go.Proofs.Ytmhofhblgcjihaa
open Go Go.RowKit Go.Shelf

set_option maxRecDepth 100000 in
set_option maxHeartbeats 8000000 in
theorem does_lost {w0 wB W : World} {B b1 b2 : Nat} {l : List Ab} (h : Two w0 wB B b1 b2 l l W) (e : El) (va : Value) (ats : List At) (n : Int) (vo : Value) (op : List Int) (ha : ActAt w0 va ats vo op) :
    Calls Try.prog 17 #[.pointer (some ⟨b1, 0, Option.none⟩), .pointer (some ⟨b2, 0, Option.none⟩), .agg #[.int .i64 9, .int .i64 e.id, .string e.sp, .string e.nm, va, .int .i64 n, vo]] W (DoesPost w0 b1 b2 l) := by
  have hv := ha.here.below (Nat.le_refl _) h.below
  have hz0 := h.below.size
  have hsm := ha.sm
  obtain ⟨oa, oc, rfl⟩ := ha.nums.form
  obtain ⟨xa, xc, rfl⟩ := ha.here.form
  have hal : Below W.heap.size W (W.alloc (.cells #[.int .i64 9, .int .i64 e.id, .string e.sp, .string e.nm, .slice xa ats.length xc, .int .i64 n, .slice oa op.length oc] 54)) := (Below.refl _ _).alloc (Nat.le_refl _) _
  have hA0 := heap_alloc_new W (.cells #[.int .i64 9, .int .i64 e.id, .string e.sp, .string e.nm, .slice xa ats.length xc, .int .i64 n, .slice oa op.length oc] 54)
  have hwz : W.heap.size < (W.alloc (.cells #[.int .i64 9, .int .i64 e.id, .string e.sp, .string e.nm, .slice xa ats.length xc, .int .i64 n, .slice oa op.length oc] 54)).heap.size := by simp
  obtain ⟨ka, kc, w2, hr, hka, hb2, hkq, hblk⟩ := run_ats (W.alloc (.cells #[.int .i64 9, .int .i64 e.id, .string e.sp, .string e.nm, .slice xa ats.length xc, .int .i64 n, .slice oa op.length oc] 54)) 35 xa xc ats (hv.below (Nat.le_refl _) hal) hsm
  have hb02 := hal.trans (hb2.mono hal.size)
  have hT2 := h.fresh hb02
  have hE2 := (hb2.block W.heap.size hwz).trans hA0
  have hz2 := hb02.size
  have hlt2 : W.heap.size < w2.heap.size := (Array.getElem?_eq_some_iff.1 hE2).1
  have kk0 : ∀ V : World, V.heap[W.heap.size]? = w2.heap[W.heap.size]? → V.cell? ⟨W.heap.size, 0, Option.none⟩ = some (.int .i64 9) ∧ V.cell? ⟨W.heap.size, 1, Option.none⟩ = some (.int .i64 e.id) ∧ V.cell? ⟨W.heap.size, 2, Option.none⟩ = some (.string e.sp) ∧ V.cell? ⟨W.heap.size, 3, Option.none⟩ = some (.string e.nm) ∧ V.cell? ⟨W.heap.size, 4, Option.none⟩ = some (.slice xa ats.length xc) ∧ V.cell? ⟨W.heap.size, 5, Option.none⟩ = some (.int .i64 n) ∧ V.cell? ⟨W.heap.size, 6, Option.none⟩ = some (.slice oa op.length oc) := fun V hV => by
    have h1 := hV.trans hE2
    refine ⟨?_, ?_, ?_, ?_, ?_, ?_, ?_⟩
    all_goals (rw [cell_of_row V _ _ _ _ _ h1]; rfl)
  obtain ⟨c0, c1, c2, c3, c4, c5, c6⟩ := kk0 w2 rfl
  have HT := Lib.hid hT2
  have hkq2 : ∀ q o, ka = some ⟨q, o, Option.none⟩ → Mine w2 W.heap.size q := fun q o h => ⟨Nat.le_trans (by simp) (hkq q o h).1, (hkq q o h).2⟩
  have HKM := Lib.hid hkq2
  have HBK := Lib.hid hblk
  have HR := Lib.hid hr
  clear hkq2 hblk
  have HKA := Lib.hid hka
  have HKK := Lib.hid kk0
  have HACT := Lib.hid ha
  clear h hv hal hA0 ha hr hka hkq hb2 hb02 hT2 hE2 kk0
  go_enter Try.func17, Try.ntmps17
  obtain ⟨oa2, oc2, w3, hr2, ho2, hb3⟩ := run_ints w2 22 oa oc op (HACT.out.nums.below (Nat.le_refl _) HT.out.below) HACT.out.nsm
  have HR2 := Lib.hid hr2
  have HO2 := Lib.hid ho2
  have HT3 := Lib.hid (HT.out.go hb3)
  clear hr2 ho2 hb3
  go_wp2_with (first | (at_builtin; refine Lib.wpList_append_run _ rfl _ _ _ _ rfl _ _ rfl rfl _ _ HR.out ?_) | (at_builtin; refine Lib.wpList_append_run _ rfl _ _ _ _ rfl _ _ rfl rfl _ _ HR2.out ?_))
  refine (HT3.out.read1 (fun v es hm hr => by have h1 := lost_any b1 v es _ op w3 hr HO2.out; rw [hm] at h1; exact h1)).mono ?_
  rintro e4 w4 ⟨rfl, hb4⟩
  have hT4 := HT3.out.go hb4
  obtain ⟨d0, d1, d2, d3, d4, d5, d6⟩ := HKK.out _ (hT4.mine _ ⟨Nat.le_refl _, hlt2⟩)
  have HO4 := Lib.hid (HO2.out.below (Nat.le_refl _) hb4)
  have HT4 := Lib.hid hT4
  clear hT4 hb4 c0 c1 c2 c3 c4 c5 c6
  go_wp2_with fail
  refine (HT4.out.read2 (fun v es hm hr => by have h1 := rlost_any b2 v es _ op w4 hr (HACT.out.nums.below (Nat.le_refl _) HT4.out.below); rw [hm] at h1; exact h1)).mono ?_
  rintro e5 w5 ⟨rfl, hb5⟩
  have hT5 := HT4.out.go hb5
  obtain ⟨c0, c1, c2, c3, c4, c5, c6⟩ := HKK.out _ (hT5.mine _ ⟨Nat.le_refl _, hlt2⟩)
  have HO5 := Lib.hid (HO4.out.below (Nat.le_refl _) hb5)
  have HT5 := Lib.hid hT5
  clear hT5 hb5 d0 d1 d2 d3 d4 d5 d6
  go_wp2_with fail
  refine (sameInts_eq _ _ op w5 HO5.out (HACT.out.nums.below (Nat.le_refl _) HT5.out.below)).mono ?_
  rintro e6 w6 ⟨rfl, hb6⟩
  have HT6 := Lib.hid (HT5.out.go hb6)
  clear hb6
  go_wp2_with fail
  go_ret
  exact ⟨ret_bool (by simp), _, _, HT6.out⟩
end Go.Proofs.Ytmhofhblgcjihaa
