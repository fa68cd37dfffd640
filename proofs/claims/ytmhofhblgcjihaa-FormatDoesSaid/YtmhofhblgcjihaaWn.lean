/- 'does': the kinds that clear and that push. -/
import Derived.Test.YtmhofhblgcjihaaWg
import Derived.Test.YtmhofhblgcjihaaWm
namespace Go.Proofs.Ytmhofhblgcjihaa
open Go Go.RowKit Go.Shelf

set_option maxRecDepth 100000 in
set_option maxHeartbeats 8000000 in
theorem does_clear {w0 wB W : World} {B b1 b2 : Nat} {l : List Ab} (h : Two w0 wB B b1 b2 l l W) (e : El) (va : Value) (ats : List At) (n : Int) (vo : Value) (op : List Int) (ha : ActAt w0 va ats vo op) :
    Calls Try.prog 17 #[.pointer (some ⟨b1, 0, Option.none⟩), .pointer (some ⟨b2, 0, Option.none⟩), .agg #[.int .i64 3, .int .i64 e.id, .string e.sp, .string e.nm, va, .int .i64 n, vo]] W (DoesPost w0 b1 b2 (clearB l)) := by
  have hv := ha.here.below (Nat.le_refl _) h.below
  have hz0 := h.below.size
  have hsm := ha.sm
  obtain ⟨oa, oc, rfl⟩ := ha.nums.form
  obtain ⟨xa, xc, rfl⟩ := ha.here.form
  have hal : Below W.heap.size W (W.alloc (.cells #[.int .i64 3, .int .i64 e.id, .string e.sp, .string e.nm, .slice xa ats.length xc, .int .i64 n, .slice oa op.length oc] 54)) := (Below.refl _ _).alloc (Nat.le_refl _) _
  have hA0 := heap_alloc_new W (.cells #[.int .i64 3, .int .i64 e.id, .string e.sp, .string e.nm, .slice xa ats.length xc, .int .i64 n, .slice oa op.length oc] 54)
  have hwz : W.heap.size < (W.alloc (.cells #[.int .i64 3, .int .i64 e.id, .string e.sp, .string e.nm, .slice xa ats.length xc, .int .i64 n, .slice oa op.length oc] 54)).heap.size := by simp
  obtain ⟨ka, kc, w2, hr, hka, hb2, hkq, hblk⟩ := run_ats (W.alloc (.cells #[.int .i64 3, .int .i64 e.id, .string e.sp, .string e.nm, .slice xa ats.length xc, .int .i64 n, .slice oa op.length oc] 54)) 35 xa xc ats (hv.below (Nat.le_refl _) hal) hsm
  have hb02 := hal.trans (hb2.mono hal.size)
  have hT2 := h.fresh hb02
  have hE2 := (hb2.block W.heap.size hwz).trans hA0
  have hz2 := hb02.size
  have hlt2 : W.heap.size < w2.heap.size := (Array.getElem?_eq_some_iff.1 hE2).1
  have kk0 : ∀ V : World, V.heap[W.heap.size]? = w2.heap[W.heap.size]? → V.cell? ⟨W.heap.size, 0, Option.none⟩ = some (.int .i64 3) ∧ V.cell? ⟨W.heap.size, 1, Option.none⟩ = some (.int .i64 e.id) ∧ V.cell? ⟨W.heap.size, 2, Option.none⟩ = some (.string e.sp) ∧ V.cell? ⟨W.heap.size, 3, Option.none⟩ = some (.string e.nm) ∧ V.cell? ⟨W.heap.size, 4, Option.none⟩ = some (.slice xa ats.length xc) ∧ V.cell? ⟨W.heap.size, 5, Option.none⟩ = some (.int .i64 n) ∧ V.cell? ⟨W.heap.size, 6, Option.none⟩ = some (.slice oa op.length oc) := fun V hV => by
    have h1 := hV.trans hE2
    refine ⟨?_, ?_, ?_, ?_, ?_, ?_, ?_⟩
    all_goals (rw [cell_of_row V _ _ _ _ _ h1]; rfl)
  obtain ⟨c0, c1, c2, c3, c4, c5, c6⟩ := kk0 w2 rfl
  have HT := Lib.hid hT2
  have hkq2 : ∀ q o, ka = some ⟨q, o, Option.none⟩ → Mine w2 W.heap.size q := fun q o h => ⟨Nat.le_trans (by simp) (hkq q o h).1, (hkq q o h).2⟩
  have HKM := Lib.hid hkq2
  have HBK := Lib.hid hblk
  have HR := Lib.hid hr
  clear hkq2 hblk
  have HKA := Lib.hid hka
  have HKK := Lib.hid kk0
  have HACT := Lib.hid ha
  clear h hv hal hA0 ha hr hka hkq hb2 hb02 hT2 hE2 kk0
  go_enter Try.func17, Try.ntmps17
  go_wp2_with (at_builtin; refine Lib.wpList_append_run _ rfl _ _ _ _ rfl _ _ rfl rfl _ _ HR.out ?_)
  refine (HT.out.call1 (fun v es hm hr _hmi _hge => by have h1 := clear_any b1 v es w2 hr; rw [hm] at h1; exact h1.mono (fun _ _ h => h.weak))).mono ?_
  rintro e3 w3 ⟨rfl, hT3⟩
  obtain ⟨d0, d1, d2, d3, d4, d5, d6⟩ := HKK.out w3 (hT3.mine _ ⟨Nat.le_refl _, hlt2⟩)
  have hz3 := hT3.size
  have HT3 := Lib.hid hT3
  clear hT3 c0 c1 c2 c3 c4 c5 c6
  go_wp2_with fail
  refine (HT3.out.call2 (fun v es hm hr _hmi _hge => by have h1 := rclear_any b2 v es w3 hr; rw [hm] at h1; exact h1.mono (fun _ _ h => h.weak))).mono ?_
  rintro e4 w4 ⟨rfl, hT4⟩
  obtain ⟨c0, c1, c2, c3, c4, c5, c6⟩ := HKK.out w4 (hT4.mine _ ⟨Nat.le_refl _, hlt2⟩)
  have hz4 := hT4.size
  have HT4 := Lib.hid hT4
  clear hT4 d0 d1 d2 d3 d4 d5 d6
  go_wp2_with fail
  refine (same_any _ _ _ _ w4 (HT4.out.ats HKA.out (fun q o n c he => by injection he with he1; exact (HKM.out q o he1).1)) (HACT.out.here.below (Nat.le_refl _) HT4.out.below)).mono ?_
  rintro e5 w5 ⟨rfl, hb5⟩
  rw [sameB_self]
  have HT5 := Lib.hid (HT4.out.go hb5)
  clear hb5 HT3 HT4 c0 c1 c2 c3 c4 c5 c6
  go_wp2_with fail
  go_loopw [22] (fun i wr => ∃ k : Nat, k ≤ ats.length ∧ i = .int .i64 k ∧ Keeps (Mine w2 W.heap.size) w5 wr ∧ ∀ q, ka = some ⟨q, 0, Option.none⟩ → 0 < ats.length → ∃ T : Array Value, wr.heap[q]? = some (.cells T 34) ∧ ats.length * 3 ≤ T.size) (fun i _ => ats.length - (intOf i).toNat)
  case atStart =>
    refine ⟨0, by omega, rfl, Keeps.refl _ _, fun q he hn => ?_⟩
    obtain ⟨q', e', T, hT⟩ := HBK.out hn
    rw [he] at e'
    cases e'
    have h1 := HKA.out
    rw [he] at h1
    exact ⟨T, (HT5.out.mine q (HKM.out q 0 he)).trans hT, ats_room h1 hn hT⟩
  case round =>
    obtain ⟨k, hk, rfl, hkp, hT⟩ := hrel
    by_cases hlt : k < ats.length
    · obtain ⟨q, rfl, _⟩ := HBK.out (by omega)
      obtain ⟨T, hTq, hTs⟩ := hT q rfl (by omega)
      have hqm := HKM.out q 0 rfl
      obtain ⟨u0, hu0⟩ : ∃ u0, wr.cell? ⟨q, k * 3 + 2, Option.none⟩ = some u0 := ⟨T[k * 3 + 2]'(by omega), by rw [cell_of_row wr q _ T _ _ hTq]; simp⟩
      have hfz : wr.frozen? ⟨q, k * 3 + 2, Option.none⟩ = false := by simp [World.frozen?, hTq]
      have hklt : ((k : Nat) : Int) < (ats.length : Int) := by omega
      have hk0 : (0 : Int) ≤ (k : Int) := by omega
      have hw1 : IntKind.i64.wrap ((k : Int) + 1) = (k : Int) + 1 := by rw [IntKind.wrap_i64]; omega
      have HTQ := Lib.hid hTq
      have HKP := Lib.hid hkp
      clear hTq hkp hT
      go_wp2_with fail
      go_roundw
      case rel => exact ⟨k + 1, by omega, by go_num, HKP.out.setCell (p := ⟨q, k * 3 + 2, Option.none⟩) (.inl hqm) _, fun q' he hn => by cases he; exact ⟨_, setCell_heap7 HTQ.out _, by simpa using hTs⟩⟩
      case measure => simp [intOf] <;> omega
    · obtain rfl : k = ats.length := by omega
      go_wp2_with fail
      go_ret
      exact ⟨ret_bool rfl, _, _, HT5.out.poke hz0 hkp⟩
set_option maxRecDepth 100000 in
set_option maxHeartbeats 8000000 in
theorem does_push {w0 wB W : World} {B b1 b2 : Nat} {l : List Ab} (h : Two w0 wB B b1 b2 l l W) (hlen : l.length < 900000) (e : El) (va : Value) (ats : List At) (n : Int) (vo : Value) (op : List Int) (ha : ActAt w0 va ats vo op) :
    Calls Try.prog 17 #[.pointer (some ⟨b1, 0, Option.none⟩), .pointer (some ⟨b2, 0, Option.none⟩), .agg #[.int .i64 1, .int .i64 e.id, .string e.sp, .string e.nm, va, .int .i64 n, vo]] W (DoesPost w0 b1 b2 (pushB l e ats)) := by
  have hv := ha.here.below (Nat.le_refl _) h.below
  have hz0 := h.below.size
  have hsm := ha.sm
  obtain ⟨oa, oc, rfl⟩ := ha.nums.form
  obtain ⟨xa, xc, rfl⟩ := ha.here.form
  have hal : Below W.heap.size W (W.alloc (.cells #[.int .i64 1, .int .i64 e.id, .string e.sp, .string e.nm, .slice xa ats.length xc, .int .i64 n, .slice oa op.length oc] 54)) := (Below.refl _ _).alloc (Nat.le_refl _) _
  have hA0 := heap_alloc_new W (.cells #[.int .i64 1, .int .i64 e.id, .string e.sp, .string e.nm, .slice xa ats.length xc, .int .i64 n, .slice oa op.length oc] 54)
  have hwz : W.heap.size < (W.alloc (.cells #[.int .i64 1, .int .i64 e.id, .string e.sp, .string e.nm, .slice xa ats.length xc, .int .i64 n, .slice oa op.length oc] 54)).heap.size := by simp
  obtain ⟨ka, kc, w2, hr, hka, hb2, hkq, hblk⟩ := run_ats (W.alloc (.cells #[.int .i64 1, .int .i64 e.id, .string e.sp, .string e.nm, .slice xa ats.length xc, .int .i64 n, .slice oa op.length oc] 54)) 35 xa xc ats (hv.below (Nat.le_refl _) hal) hsm
  have hb02 := hal.trans (hb2.mono hal.size)
  have hT2 := h.fresh hb02
  have hE2 := (hb2.block W.heap.size hwz).trans hA0
  have hz2 := hb02.size
  have hlt2 : W.heap.size < w2.heap.size := (Array.getElem?_eq_some_iff.1 hE2).1
  have kk0 : ∀ V : World, V.heap[W.heap.size]? = w2.heap[W.heap.size]? → V.cell? ⟨W.heap.size, 0, Option.none⟩ = some (.int .i64 1) ∧ V.cell? ⟨W.heap.size, 1, Option.none⟩ = some (.int .i64 e.id) ∧ V.cell? ⟨W.heap.size, 2, Option.none⟩ = some (.string e.sp) ∧ V.cell? ⟨W.heap.size, 3, Option.none⟩ = some (.string e.nm) ∧ V.cell? ⟨W.heap.size, 4, Option.none⟩ = some (.slice xa ats.length xc) ∧ V.cell? ⟨W.heap.size, 5, Option.none⟩ = some (.int .i64 n) ∧ V.cell? ⟨W.heap.size, 6, Option.none⟩ = some (.slice oa op.length oc) := fun V hV => by
    have h1 := hV.trans hE2
    refine ⟨?_, ?_, ?_, ?_, ?_, ?_, ?_⟩
    all_goals (rw [cell_of_row V _ _ _ _ _ h1]; rfl)
  obtain ⟨c0, c1, c2, c3, c4, c5, c6⟩ := kk0 w2 rfl
  have HT := Lib.hid hT2
  have hkq2 : ∀ q o, ka = some ⟨q, o, Option.none⟩ → Mine w2 W.heap.size q := fun q o h => ⟨Nat.le_trans (by simp) (hkq q o h).1, (hkq q o h).2⟩
  have HKM := Lib.hid hkq2
  have HBK := Lib.hid hblk
  have HR := Lib.hid hr
  clear hkq2 hblk
  have HKA := Lib.hid hka
  have HKK := Lib.hid kk0
  have HACT := Lib.hid ha
  clear h hv hal hA0 ha hr hka hkq hb2 hb02 hT2 hE2 kk0
  go_enter Try.func17, Try.ntmps17
  go_wp2_with (at_builtin; refine Lib.wpList_append_run _ rfl _ _ _ _ rfl _ _ rfl rfl _ _ HR.out ?_)
  refine (HT.out.call1 (fun v es hm hr _hmi _hge => by have h1 := push_any b1 v es e _ ats w2 hr HKA.out (fun _ q o n c he => _hmi q (HKM.out q o (by injection he))) hsm (by rw [← hm, List.length_map] at hlen; exact hlen); rw [hm] at h1; exact h1.mono (fun _ _ h => h.weak))).mono ?_
  rintro e3 w3 ⟨rfl, hT3⟩
  obtain ⟨d0, d1, d2, d3, d4, d5, d6⟩ := HKK.out w3 (hT3.mine _ ⟨Nat.le_refl _, hlt2⟩)
  have hz3 := hT3.size
  have HT3 := Lib.hid hT3
  clear hT3 c0 c1 c2 c3 c4 c5 c6
  go_wp2_with fail
  refine (HT3.out.call2 (fun v es hm hr _hmi _hge => by have h1 := rpush_any b2 v es e _ ats w3 hr (HACT.out.here.below (Nat.le_refl _) HT3.out.below) (fun hn q o n c he hf => Nat.lt_irrefl _ (Nat.lt_of_lt_of_le (HACT.out.here.blk hn q o n c he) (_hge q hf))) hsm (by rw [← hm, List.length_map] at hlen; exact hlen); rw [hm] at h1; exact h1.mono (fun _ _ h => h.weak))).mono ?_
  rintro e4 w4 ⟨rfl, hT4⟩
  obtain ⟨c0, c1, c2, c3, c4, c5, c6⟩ := HKK.out w4 (hT4.mine _ ⟨Nat.le_refl _, hlt2⟩)
  have hz4 := hT4.size
  have HT4 := Lib.hid hT4
  clear hT4 d0 d1 d2 d3 d4 d5 d6
  go_wp2_with fail
  refine (same_any _ _ _ _ w4 (HT4.out.ats HKA.out (fun q o n c he => by injection he with he1; exact (HKM.out q o he1).1)) (HACT.out.here.below (Nat.le_refl _) HT4.out.below)).mono ?_
  rintro e5 w5 ⟨rfl, hb5⟩
  rw [sameB_self]
  have HT5 := Lib.hid (HT4.out.go hb5)
  clear hb5 HT3 HT4 c0 c1 c2 c3 c4 c5 c6
  go_wp2_with fail
  go_loopw [22] (fun i wr => ∃ k : Nat, k ≤ ats.length ∧ i = .int .i64 k ∧ Keeps (Mine w2 W.heap.size) w5 wr ∧ ∀ q, ka = some ⟨q, 0, Option.none⟩ → 0 < ats.length → ∃ T : Array Value, wr.heap[q]? = some (.cells T 34) ∧ ats.length * 3 ≤ T.size) (fun i _ => ats.length - (intOf i).toNat)
  case atStart =>
    refine ⟨0, by omega, rfl, Keeps.refl _ _, fun q he hn => ?_⟩
    obtain ⟨q', e', T, hT⟩ := HBK.out hn
    rw [he] at e'
    cases e'
    have h1 := HKA.out
    rw [he] at h1
    exact ⟨T, (HT5.out.mine q (HKM.out q 0 he)).trans hT, ats_room h1 hn hT⟩
  case round =>
    obtain ⟨k, hk, rfl, hkp, hT⟩ := hrel
    by_cases hlt : k < ats.length
    · obtain ⟨q, rfl, _⟩ := HBK.out (by omega)
      obtain ⟨T, hTq, hTs⟩ := hT q rfl (by omega)
      have hqm := HKM.out q 0 rfl
      obtain ⟨u0, hu0⟩ : ∃ u0, wr.cell? ⟨q, k * 3 + 2, Option.none⟩ = some u0 := ⟨T[k * 3 + 2]'(by omega), by rw [cell_of_row wr q _ T _ _ hTq]; simp⟩
      have hfz : wr.frozen? ⟨q, k * 3 + 2, Option.none⟩ = false := by simp [World.frozen?, hTq]
      have hklt : ((k : Nat) : Int) < (ats.length : Int) := by omega
      have hk0 : (0 : Int) ≤ (k : Int) := by omega
      have hw1 : IntKind.i64.wrap ((k : Int) + 1) = (k : Int) + 1 := by rw [IntKind.wrap_i64]; omega
      have HTQ := Lib.hid hTq
      have HKP := Lib.hid hkp
      clear hTq hkp hT
      go_wp2_with fail
      go_roundw
      case rel => exact ⟨k + 1, by omega, by go_num, HKP.out.setCell (p := ⟨q, k * 3 + 2, Option.none⟩) (.inl hqm) _, fun q' he hn => by cases he; exact ⟨_, setCell_heap7 HTQ.out _, by simpa using hTs⟩⟩
      case measure => simp [intOf] <;> omega
    · obtain rfl : k = ats.length := by omega
      go_wp2_with fail
      go_ret
      exact ⟨ret_bool rfl, _, _, HT5.out.poke hz0 hkp⟩
end Go.Proofs.Ytmhofhblgcjihaa
