/- 'does': the kinds that remove and that replace. -/
import Derived.Test.YtmhofhblgcjihaaWe
import Derived.Test.YtmhofhblgcjihaaWf
import Derived.Test.YtmhofhblgcjihaaWm
import Derived.Deep.RegionHeld
namespace Go.Proofs.Ytmhofhblgcjihaa
open Go Go.RowKit Go.Shelf

set_option maxRecDepth 100000 in
set_option maxHeartbeats 8000000 in
theorem does_remove {w0 wB W : World} {B b1 b2 : Nat} {l : List Ab} (h : Two w0 wB B b1 b2 l l W) (e : El) (va : Value) (ats : List At) (n : Int) (vo : Value) (op : List Int) (ha : ActAt w0 va ats vo op) :
    Calls Try.prog 17 #[.pointer (some ⟨b1, 0, Option.none⟩), .pointer (some ⟨b2, 0, Option.none⟩), .agg #[.int .i64 6, .int .i64 e.id, .string e.sp, .string e.nm, va, .int .i64 n, vo]] W (DoesPost w0 b1 b2 (remL l n)) := by
  have hv := ha.here.below (Nat.le_refl _) h.below
  have hz0 := h.below.size
  have hsm := ha.sm
  obtain ⟨oa, oc, rfl⟩ := ha.nums.form
  obtain ⟨xa, xc, rfl⟩ := ha.here.form
  have hal : Below W.heap.size W (W.alloc (.cells #[.int .i64 6, .int .i64 e.id, .string e.sp, .string e.nm, .slice xa ats.length xc, .int .i64 n, .slice oa op.length oc] 54)) := (Below.refl _ _).alloc (Nat.le_refl _) _
  have hA0 := heap_alloc_new W (.cells #[.int .i64 6, .int .i64 e.id, .string e.sp, .string e.nm, .slice xa ats.length xc, .int .i64 n, .slice oa op.length oc] 54)
  have hwz : W.heap.size < (W.alloc (.cells #[.int .i64 6, .int .i64 e.id, .string e.sp, .string e.nm, .slice xa ats.length xc, .int .i64 n, .slice oa op.length oc] 54)).heap.size := by simp
  obtain ⟨ka, kc, w2, hr, hka, hb2, hkq, hblk⟩ := run_ats (W.alloc (.cells #[.int .i64 6, .int .i64 e.id, .string e.sp, .string e.nm, .slice xa ats.length xc, .int .i64 n, .slice oa op.length oc] 54)) 35 xa xc ats (hv.below (Nat.le_refl _) hal) hsm
  have hb02 := hal.trans (hb2.mono hal.size)
  have hT2 := h.fresh hb02
  have hE2 := (hb2.block W.heap.size hwz).trans hA0
  have hz2 := hb02.size
  have hlt2 : W.heap.size < w2.heap.size := (Array.getElem?_eq_some_iff.1 hE2).1
  have kk0 : ∀ V : World, V.heap[W.heap.size]? = w2.heap[W.heap.size]? → V.cell? ⟨W.heap.size, 0, Option.none⟩ = some (.int .i64 6) ∧ V.cell? ⟨W.heap.size, 1, Option.none⟩ = some (.int .i64 e.id) ∧ V.cell? ⟨W.heap.size, 2, Option.none⟩ = some (.string e.sp) ∧ V.cell? ⟨W.heap.size, 3, Option.none⟩ = some (.string e.nm) ∧ V.cell? ⟨W.heap.size, 4, Option.none⟩ = some (.slice xa ats.length xc) ∧ V.cell? ⟨W.heap.size, 5, Option.none⟩ = some (.int .i64 n) ∧ V.cell? ⟨W.heap.size, 6, Option.none⟩ = some (.slice oa op.length oc) := fun V hV => by
    have h1 := hV.trans hE2
    refine ⟨?_, ?_, ?_, ?_, ?_, ?_, ?_⟩
    all_goals (rw [cell_of_row V _ _ _ _ _ h1]; rfl)
  obtain ⟨c0, c1, c2, c3, c4, c5, c6⟩ := kk0 w2 rfl
  have HT := Lib.hid hT2
  have hkq2 : ∀ q o, ka = some ⟨q, o, Option.none⟩ → Mine w2 W.heap.size q := fun q o h => ⟨Nat.le_trans (by simp) (hkq q o h).1, (hkq q o h).2⟩
  have HKM := Lib.hid hkq2
  have HBK := Lib.hid hblk
  have HR := Lib.hid hr
  clear hkq2 hblk
  have HKA := Lib.hid hka
  have HKK := Lib.hid kk0
  have HACT := Lib.hid ha
  clear h hv hal hA0 ha hr hka hkq hb2 hb02 hT2 hE2 kk0
  go_enter Try.func17, Try.ntmps17
  go_wp2_with (at_builtin; refine Lib.wpList_append_run _ rfl _ _ _ _ rfl _ _ rfl rfl _ _ HR.out ?_)
  have hT := HT.out
  have hTd := HT.out.go ((Below.refl _ _).drew)
  have HK5 : ∀ V, Two w0 w2 W.heap.size b1 b2 l l V ∨ (∃ l1 l2, Two w0 w2 W.heap.size b1 b2 l1 l2 V) → V.cell? ⟨W.heap.size, 0, Option.none⟩ = some (.int .i64 6) ∧ V.cell? ⟨W.heap.size, 1, Option.none⟩ = some (.int .i64 e.id) ∧ V.cell? ⟨W.heap.size, 2, Option.none⟩ = some (.string e.sp) ∧ V.cell? ⟨W.heap.size, 3, Option.none⟩ = some (.string e.nm) ∧ V.cell? ⟨W.heap.size, 4, Option.none⟩ = some (.slice xa ats.length xc) ∧ V.cell? ⟨W.heap.size, 5, Option.none⟩ = some (.int .i64 n) ∧ V.cell? ⟨W.heap.size, 6, Option.none⟩ = some (.slice oa op.length oc) := fun V h => by
    rcases h with h | ⟨_, _, h⟩
    all_goals exact HKK.out V (h.mine _ ⟨Nat.le_refl _, hlt2⟩)
  have HK6 := Lib.hid HK5
  clear HK5
  go_region_held (fun w' => w'.cell? ⟨W.heap.size, 0, Option.none⟩ = some (.int .i64 6) ∧ w'.cell? ⟨W.heap.size, 1, Option.none⟩ = some (.int .i64 e.id) ∧ w'.cell? ⟨W.heap.size, 2, Option.none⟩ = some (.string e.sp) ∧ w'.cell? ⟨W.heap.size, 3, Option.none⟩ = some (.string e.nm) ∧ w'.cell? ⟨W.heap.size, 4, Option.none⟩ = some (.slice xa ats.length xc) ∧ w'.cell? ⟨W.heap.size, 5, Option.none⟩ = some (.int .i64 n) ∧ w'.cell? ⟨W.heap.size, 6, Option.none⟩ = some (.slice oa op.length oc))
    (first | exact HK6.out _ (.inr ⟨_, _, hT'⟩) | exact HK6.out _ (.inl hTd) | go_keep)
    (first
      | (go_at_call 20; refine (Two.call1 (by assumption) (fun v es hm hr _ _ => by have h1 := remove_any b1 v es n _ hr; rw [hm] at h1; exact h1.mono (fun _ _ h => h.weak))).mono ?_; rintro e' w' ⟨rfl, hT'⟩)
      | (go_at_call 35; refine (Two.call2 (by assumption) (fun v es hm hr _ _ => by have h1 := rremove_any b2 v es n _ hr; rw [hm] at h1; exact h1.mono (fun _ _ h => h.weak))).mono ?_; rintro e' w' ⟨rfl, hT'⟩))
  all_goals
    go_wp2
    go_ret
    exact ⟨ret_bool (by simp), _, _, by assumption⟩

set_option maxRecDepth 100000 in
set_option maxHeartbeats 8000000 in
theorem does_replace {w0 wB W : World} {B b1 b2 : Nat} {l : List Ab} (h : Two w0 wB B b1 b2 l l W) (e : El) (va : Value) (ats : List At) (n : Int) (vo : Value) (op : List Int) (ha : ActAt w0 va ats vo op) :
    Calls Try.prog 17 #[.pointer (some ⟨b1, 0, Option.none⟩), .pointer (some ⟨b2, 0, Option.none⟩), .agg #[.int .i64 7, .int .i64 e.id, .string e.sp, .string e.nm, va, .int .i64 n, vo]] W (DoesPost w0 b1 b2 (repL l n e)) := by
  have hv := ha.here.below (Nat.le_refl _) h.below
  have hz0 := h.below.size
  have hsm := ha.sm
  obtain ⟨oa, oc, rfl⟩ := ha.nums.form
  obtain ⟨xa, xc, rfl⟩ := ha.here.form
  have hal : Below W.heap.size W (W.alloc (.cells #[.int .i64 7, .int .i64 e.id, .string e.sp, .string e.nm, .slice xa ats.length xc, .int .i64 n, .slice oa op.length oc] 54)) := (Below.refl _ _).alloc (Nat.le_refl _) _
  have hA0 := heap_alloc_new W (.cells #[.int .i64 7, .int .i64 e.id, .string e.sp, .string e.nm, .slice xa ats.length xc, .int .i64 n, .slice oa op.length oc] 54)
  have hwz : W.heap.size < (W.alloc (.cells #[.int .i64 7, .int .i64 e.id, .string e.sp, .string e.nm, .slice xa ats.length xc, .int .i64 n, .slice oa op.length oc] 54)).heap.size := by simp
  obtain ⟨ka, kc, w2, hr, hka, hb2, hkq, hblk⟩ := run_ats (W.alloc (.cells #[.int .i64 7, .int .i64 e.id, .string e.sp, .string e.nm, .slice xa ats.length xc, .int .i64 n, .slice oa op.length oc] 54)) 35 xa xc ats (hv.below (Nat.le_refl _) hal) hsm
  have hb02 := hal.trans (hb2.mono hal.size)
  have hT2 := h.fresh hb02
  have hE2 := (hb2.block W.heap.size hwz).trans hA0
  have hz2 := hb02.size
  have hlt2 : W.heap.size < w2.heap.size := (Array.getElem?_eq_some_iff.1 hE2).1
  have kk0 : ∀ V : World, V.heap[W.heap.size]? = w2.heap[W.heap.size]? → V.cell? ⟨W.heap.size, 0, Option.none⟩ = some (.int .i64 7) ∧ V.cell? ⟨W.heap.size, 1, Option.none⟩ = some (.int .i64 e.id) ∧ V.cell? ⟨W.heap.size, 2, Option.none⟩ = some (.string e.sp) ∧ V.cell? ⟨W.heap.size, 3, Option.none⟩ = some (.string e.nm) ∧ V.cell? ⟨W.heap.size, 4, Option.none⟩ = some (.slice xa ats.length xc) ∧ V.cell? ⟨W.heap.size, 5, Option.none⟩ = some (.int .i64 n) ∧ V.cell? ⟨W.heap.size, 6, Option.none⟩ = some (.slice oa op.length oc) := fun V hV => by
    have h1 := hV.trans hE2
    refine ⟨?_, ?_, ?_, ?_, ?_, ?_, ?_⟩
    all_goals (rw [cell_of_row V _ _ _ _ _ h1]; rfl)
  obtain ⟨c0, c1, c2, c3, c4, c5, c6⟩ := kk0 w2 rfl
  have HT := Lib.hid hT2
  have hkq2 : ∀ q o, ka = some ⟨q, o, Option.none⟩ → Mine w2 W.heap.size q := fun q o h => ⟨Nat.le_trans (by simp) (hkq q o h).1, (hkq q o h).2⟩
  have HKM := Lib.hid hkq2
  have HBK := Lib.hid hblk
  have HR := Lib.hid hr
  clear hkq2 hblk
  have HKA := Lib.hid hka
  have HKK := Lib.hid kk0
  have HACT := Lib.hid ha
  clear h hv hal hA0 ha hr hka hkq hb2 hb02 hT2 hE2 kk0
  go_enter Try.func17, Try.ntmps17
  go_wp2_with (at_builtin; refine Lib.wpList_append_run _ rfl _ _ _ _ rfl _ _ rfl rfl _ _ HR.out ?_)
  have hT := HT.out
  have hTd := HT.out.go ((Below.refl _ _).drew)
  have HK5 : ∀ V, Two w0 w2 W.heap.size b1 b2 l l V ∨ (∃ l1 l2, Two w0 w2 W.heap.size b1 b2 l1 l2 V) → V.cell? ⟨W.heap.size, 0, Option.none⟩ = some (.int .i64 7) ∧ V.cell? ⟨W.heap.size, 1, Option.none⟩ = some (.int .i64 e.id) ∧ V.cell? ⟨W.heap.size, 2, Option.none⟩ = some (.string e.sp) ∧ V.cell? ⟨W.heap.size, 3, Option.none⟩ = some (.string e.nm) ∧ V.cell? ⟨W.heap.size, 4, Option.none⟩ = some (.slice xa ats.length xc) ∧ V.cell? ⟨W.heap.size, 5, Option.none⟩ = some (.int .i64 n) ∧ V.cell? ⟨W.heap.size, 6, Option.none⟩ = some (.slice oa op.length oc) := fun V h => by
    rcases h with h | ⟨_, _, h⟩
    all_goals exact HKK.out V (h.mine _ ⟨Nat.le_refl _, hlt2⟩)
  have HK6 := Lib.hid HK5
  clear HK5
  go_region_held (fun w' => w'.cell? ⟨W.heap.size, 0, Option.none⟩ = some (.int .i64 7) ∧ w'.cell? ⟨W.heap.size, 1, Option.none⟩ = some (.int .i64 e.id) ∧ w'.cell? ⟨W.heap.size, 2, Option.none⟩ = some (.string e.sp) ∧ w'.cell? ⟨W.heap.size, 3, Option.none⟩ = some (.string e.nm) ∧ w'.cell? ⟨W.heap.size, 4, Option.none⟩ = some (.slice xa ats.length xc) ∧ w'.cell? ⟨W.heap.size, 5, Option.none⟩ = some (.int .i64 n) ∧ w'.cell? ⟨W.heap.size, 6, Option.none⟩ = some (.slice oa op.length oc))
    (first | exact HK6.out _ (.inr ⟨_, _, hT'⟩) | exact HK6.out _ (.inl hTd) | go_keep)
    (first
      | (go_at_call 36; refine (Two.call1 (by assumption) (fun v es hm hr _ _ => by have h1 := replace_any b1 v es n e _ hr; rw [hm] at h1; exact h1)).mono ?_; rintro e' w' ⟨rfl, hT'⟩)
      | (go_at_call 37; refine (Two.call2 (by assumption) (fun v es hm hr _ _ => by have h1 := rreplace_any b2 v es n e _ hr; rw [hm] at h1; exact h1)).mono ?_; rintro e' w' ⟨rfl, hT'⟩))
  all_goals
    go_wp2
    go_ret
    exact ⟨ret_bool (by simp), _, _, by assumption⟩

end Go.Proofs.Ytmhofhblgcjihaa
