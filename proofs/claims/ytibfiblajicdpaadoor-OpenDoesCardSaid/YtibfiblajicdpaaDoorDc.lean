/- What one call of both stacks does: Pop, At, Has, Implied. -/
import Derived.Test.YtibfiblajicdpaaDoorDb
namespace Go.Proofs.YtibfiblajicdpaaDoor
open Go Go.RowKit

set_option maxRecDepth 100000 in
set_option maxHeartbeats 8000000 in
theorem does_pop (w0 : World) (S : Nat → Prop) (b1 b2 : Nat) (l : List El) (W : World) (hT0 : Two w0 S b1 b2 l l W) (hg0 : Glob w0) (hS0 : ∀ k, S k → 0 < k) (x : Ac) (na : Option Addr) (nn nc : Nat) (ns : List ByteArray) (hv : Aside2 w0 S (.slice na nn nc) ns) (hn : ns.length * 16 ≤ 140737488355328) (_hlen : l.length < 900000) (hkind : x.kind = 2) :
    Calls Tryd.prog 17 #[.pointer (some ⟨b1, 0, Option.none⟩), .pointer (some ⟨b2, 0, Option.none⟩), .agg #[.int .i64 x.kind, .int .i64 x.e.id, .string x.e.sp, .string x.e.nm, .int .i64 x.n, .int .u8 x.scope, .slice na nn nc, .bool x.on]] W (DoesPost w0 S b1 b2 (l.length + 1)) := by
  obtain ⟨xk, ⟨xi, xs, xm⟩, xn, xc, xo⟩ := x
  simp only at *
  subst hkind
  obtain ⟨own, W1, hr, ⟨oa, on, oc, rfl⟩, hstr, hbel, hge⟩ := run_names (W.alloc (.cells #[.int .i64 2, .int .i64 xi, .string xs, .string xm, .int .i64 xn, .int .u8 xc, .slice na nn nc, .bool xo] 51)) 23 (.slice na nn nc) ns ((hv.at_ hT0).below (Nat.le_refl _) ((Below.refl _ _).alloc (Nat.le_refl _) _)) hn
  obtain ⟨S1, hT, hS1, hSlt, hback, hw01⟩ := hT0.base1 hbel
  have hq : W1.heap[W.heap.size]? = some (.cells #[.int .i64 2, .int .i64 xi, .string xs, .string xm, .int .i64 xn, .int .u8 xc, .slice na nn nc, .bool xo] 51 (0, 0)) := (hbel.block _ (by simp)).trans (heap_alloc_new _ _)
  have hql : W.heap.size < W1.heap.size := (Array.getElem?_eq_some_iff.1 hq).1
  have hqS : ¬ S1 W.heap.size := fun h => by have := hSlt _ h; omega
  have HA : Hid (∀ W2, Keeps S1 W1 W2 → W2.cell? ⟨W.heap.size, 0, Option.none⟩ = some (.int .i64 2) ∧ W2.cell? ⟨W.heap.size, 1, Option.none⟩ = some (.int .i64 xi) ∧ W2.cell? ⟨W.heap.size, 2, Option.none⟩ = some (.string xs) ∧ W2.cell? ⟨W.heap.size, 3, Option.none⟩ = some (.string xm) ∧ W2.cell? ⟨W.heap.size, 4, Option.none⟩ = some (.int .i64 xn) ∧ W2.cell? ⟨W.heap.size, 5, Option.none⟩ = some (.int .u8 xc) ∧ W2.cell? ⟨W.heap.size, 6, Option.none⟩ = some (.slice na nn nc) ∧ W2.cell? ⟨W.heap.size, 7, Option.none⟩ = some (.bool xo)) := fun W2 hk => by
    have h2 := (hk.block _ hql hqS).trans hq
    refine ⟨?_, ?_, ?_, ?_, ?_, ?_, ?_, ?_⟩
    all_goals (rw [cell_of_row _ _ _ _ _ _ h2]; rfl)
  have hg1 := hT0.glob1 hg0 hS0 hbel
  have hS1' : ∀ k, S1 k → 0 < k := fun k hk => (hS1 k hk).elim (hS0 k) (fun h => Nat.lt_of_lt_of_le hg0.lt h)
  have hvn : Aside2 W1 S1 (.slice na nn nc) ns := hv.base hT0 hbel hS1
  have hown : Aside2 W1 S1 (.slice oa on oc) ns := ⟨hstr, fun _ nb o n c e hs => by have := hge nb o n c e; have := hSlt nb hs; simp at *; omega⟩
  have HBK := Lib.hid hback
  have HR := Lib.hid hr
  have HVN := Lib.hid hvn
  have HON := Lib.hid hown
  have HG := Lib.hid hg1
  have HS1 := Lib.hid hS1'
  have hz : W.heap.size + 1 ≤ W1.heap.size := by omega
  clear hr hstr hbel hge hS1 hSlt hback hq hqS hvn hown hg1 hS1' hT0 hg0 hS0 hv hn hw01
  obtain ⟨a0, a1, a2, a3, a4, a5, a6, a7⟩ := HA.out W1 (Keeps.refl _ _)
  go_enter Tryd.func17, Tryd.ntmps17
  go_wp2_with (at_builtin; refine Lib.wpList_append_run _ rfl _ _ _ _ rfl _ _ rfl rfl _ _ HR.out ?_)
  go_wp2_with fail
  refine (hT.call1 (fun v h f => pop_any b1 v l _ h)).mono ?_
  rintro e w2 ⟨rfl, hT2⟩
  rw [El.v]
  have HPR := Lib.hid (fun v W2 (h : Stk W2 b2 v l) => rpop_any b2 v l W2 h)
  generalize topE l = X at *
  rw [El.v] at HPR
  obtain ⟨S2, hTb, _, hSlt2, hback2⟩ := hT2.base ((Below.refl w2.heap.size w2).alloc (Nat.le_refl _) (.cells #[.int .i64 X.id, .string X.sp, .string X.nm] 30))
  have HB2 := Lib.hid hback2
  have HX : Hid (∀ W2, Keeps S2 (w2.alloc (.cells #[.int .i64 X.id, .string X.sp, .string X.nm] 30)) W2 → W2.cell? ⟨w2.heap.size, 0, Option.none⟩ = some (.int .i64 X.id) ∧ W2.cell? ⟨w2.heap.size, 1, Option.none⟩ = some (.string X.sp) ∧ W2.cell? ⟨w2.heap.size, 2, Option.none⟩ = some (.string X.nm)) := fun W2 hk => by
    have h2 := (hk.block w2.heap.size (by simp) (fun h => by have := hSlt2 _ h; omega)).trans (heap_alloc_new w2 _)
    refine ⟨?_, ?_, ?_⟩
    all_goals (rw [cell_of_row _ _ _ _ _ _ h2]; rfl)
  clear a0 a1 a2 a3 a4 a5 a6 a7 hSlt2 hback2
  go_wp2_with fail
  refine (hTb.call2 (fun v h f => HPR.out v _ h)).mono ?_
  rintro e w3 ⟨rfl, hT3⟩
  obtain ⟨q0, q1, q2⟩ := HX.out w3 hT3.keeps
  have hz3 : w2.heap.size < w3.heap.size := Nat.lt_of_lt_of_le (by simp) hT3.keeps.size
  go_wp2_with fail
  go_ret
  exact ⟨_, rfl, HBK.out _ _ _ (HB2.out _ _ _ (hT3.go ((Below.refl _ _).alloc (Nat.le_refl _) _))), by simp; omega⟩

set_option maxRecDepth 100000 in
set_option maxHeartbeats 8000000 in
theorem does_at (w0 : World) (S : Nat → Prop) (b1 b2 : Nat) (l : List El) (W : World) (hT0 : Two w0 S b1 b2 l l W) (hg0 : Glob w0) (hS0 : ∀ k, S k → 0 < k) (x : Ac) (na : Option Addr) (nn nc : Nat) (ns : List ByteArray) (hv : Aside2 w0 S (.slice na nn nc) ns) (hn : ns.length * 16 ≤ 140737488355328) (_hlen : l.length < 900000) (hkind : x.kind = 3) :
    Calls Tryd.prog 17 #[.pointer (some ⟨b1, 0, Option.none⟩), .pointer (some ⟨b2, 0, Option.none⟩), .agg #[.int .i64 x.kind, .int .i64 x.e.id, .string x.e.sp, .string x.e.nm, .int .i64 x.n, .int .u8 x.scope, .slice na nn nc, .bool x.on]] W (DoesPost w0 S b1 b2 (l.length + 1)) := by
  obtain ⟨xk, ⟨xi, xs, xm⟩, xn, xc, xo⟩ := x
  simp only at *
  subst hkind
  obtain ⟨own, W1, hr, ⟨oa, on, oc, rfl⟩, hstr, hbel, hge⟩ := run_names (W.alloc (.cells #[.int .i64 3, .int .i64 xi, .string xs, .string xm, .int .i64 xn, .int .u8 xc, .slice na nn nc, .bool xo] 51)) 23 (.slice na nn nc) ns ((hv.at_ hT0).below (Nat.le_refl _) ((Below.refl _ _).alloc (Nat.le_refl _) _)) hn
  obtain ⟨S1, hT, hS1, hSlt, hback, hw01⟩ := hT0.base1 hbel
  have hq : W1.heap[W.heap.size]? = some (.cells #[.int .i64 3, .int .i64 xi, .string xs, .string xm, .int .i64 xn, .int .u8 xc, .slice na nn nc, .bool xo] 51 (0, 0)) := (hbel.block _ (by simp)).trans (heap_alloc_new _ _)
  have hql : W.heap.size < W1.heap.size := (Array.getElem?_eq_some_iff.1 hq).1
  have hqS : ¬ S1 W.heap.size := fun h => by have := hSlt _ h; omega
  have HA : Hid (∀ W2, Keeps S1 W1 W2 → W2.cell? ⟨W.heap.size, 0, Option.none⟩ = some (.int .i64 3) ∧ W2.cell? ⟨W.heap.size, 1, Option.none⟩ = some (.int .i64 xi) ∧ W2.cell? ⟨W.heap.size, 2, Option.none⟩ = some (.string xs) ∧ W2.cell? ⟨W.heap.size, 3, Option.none⟩ = some (.string xm) ∧ W2.cell? ⟨W.heap.size, 4, Option.none⟩ = some (.int .i64 xn) ∧ W2.cell? ⟨W.heap.size, 5, Option.none⟩ = some (.int .u8 xc) ∧ W2.cell? ⟨W.heap.size, 6, Option.none⟩ = some (.slice na nn nc) ∧ W2.cell? ⟨W.heap.size, 7, Option.none⟩ = some (.bool xo)) := fun W2 hk => by
    have h2 := (hk.block _ hql hqS).trans hq
    refine ⟨?_, ?_, ?_, ?_, ?_, ?_, ?_, ?_⟩
    all_goals (rw [cell_of_row _ _ _ _ _ _ h2]; rfl)
  have hg1 := hT0.glob1 hg0 hS0 hbel
  have hS1' : ∀ k, S1 k → 0 < k := fun k hk => (hS1 k hk).elim (hS0 k) (fun h => Nat.lt_of_lt_of_le hg0.lt h)
  have hvn : Aside2 W1 S1 (.slice na nn nc) ns := hv.base hT0 hbel hS1
  have hown : Aside2 W1 S1 (.slice oa on oc) ns := ⟨hstr, fun _ nb o n c e hs => by have := hge nb o n c e; have := hSlt nb hs; simp at *; omega⟩
  have HBK := Lib.hid hback
  have HR := Lib.hid hr
  have HVN := Lib.hid hvn
  have HON := Lib.hid hown
  have HG := Lib.hid hg1
  have HS1 := Lib.hid hS1'
  have hz : W.heap.size + 1 ≤ W1.heap.size := by omega
  have HQ := Lib.hid hq
  have HQS := Lib.hid hqS
  have HW0 := Lib.hid hw01
  clear hr hstr hbel hge hS1 hSlt hback hq hqS hvn hown hg1 hS1' hT0 hg0 hS0 hv hn hw01
  obtain ⟨a0, a1, a2, a3, a4, a5, a6, a7⟩ := HA.out W1 (Keeps.refl _ _)
  go_enter Tryd.func17, Tryd.ntmps17
  go_wp2_with (at_builtin; refine Lib.wpList_append_run _ rfl _ _ _ _ rfl _ _ rfl rfl _ _ HR.out ?_)
  obtain ⟨v1, v2, hs1, hs2, _⟩ := hT.ex
  have HAT := Lib.hid (fun W2 (h : Below W1.heap.size W1 W2) => at_any b1 v1 l xn W2 (hs1.below h))
  have HRT := Lib.hid (fun W2 (h : Below W1.heap.size W1 W2) => rat_any b2 v2 l xn W2 (hs2.below h))
  generalize atE l xn = X at *
  generalize atC l xn = Y at *
  rw [El.v] at HAT HRT
  clear hs1 hs2
  go_wp2_with fail
  refine (HAT.out W1 (Below.refl _ _)).mono ?_
  rintro e w2 ⟨rfl, hb2⟩
  have hbu2 := hb2.alloc hb2.size (.cells #[.int .i64 X.id, .string X.sp, .string X.nm] 30)
  have a4' := (hbu2.cell (p := ⟨W.heap.size, 4, Option.none⟩) (by show W.heap.size < _; omega)).trans a4
  have hz2 : W.heap.size < w2.heap.size := Nat.lt_of_lt_of_le (by omega) hb2.size
  have a4'' := (hb2.cell (p := ⟨W.heap.size, 4, Option.none⟩) (by show W.heap.size < _; omega)).trans a4
  clear a0 a1 a2 a3 a4 a5 a6 a7
  go_wp2_with fail
  refine (HRT.out _ hbu2).mono ?_
  rintro e w3 ⟨rfl, hb3⟩
  have hbw3 := hbu2.trans (hb3.mono hbu2.size)
  have hbu3 := hbw3.alloc hbw3.size (.cells #[.int .i64 X.id, .string X.sp, .string X.nm] 30)
  have hz3 : W.heap.size < w3.heap.size := Nat.lt_of_lt_of_le (by omega) hbw3.size
  have hz4 : w2.heap.size < w3.heap.size := Nat.lt_of_lt_of_le (by simp) hb3.size
  have hz5 := hb2.size
  obtain ⟨S4, hT4, hS4, hSlt4, hback4⟩ := hT.base hbu3
  have HB4 := Lib.hid hback4
  have HA4 : Hid (∀ W2, Keeps S4 (w3.alloc (.cells #[.int .i64 X.id, .string X.sp, .string X.nm] 30)) W2 → W2.cell? ⟨W.heap.size, 0, Option.none⟩ = some (.int .i64 3) ∧ W2.cell? ⟨W.heap.size, 1, Option.none⟩ = some (.int .i64 xi) ∧ W2.cell? ⟨W.heap.size, 2, Option.none⟩ = some (.string xs) ∧ W2.cell? ⟨W.heap.size, 3, Option.none⟩ = some (.string xm) ∧ W2.cell? ⟨W.heap.size, 4, Option.none⟩ = some (.int .i64 xn) ∧ W2.cell? ⟨W.heap.size, 5, Option.none⟩ = some (.int .u8 xc) ∧ W2.cell? ⟨W.heap.size, 6, Option.none⟩ = some (.slice na nn nc) ∧ W2.cell? ⟨W.heap.size, 7, Option.none⟩ = some (.bool xo) ∧ W2.cell? ⟨w2.heap.size, 0, Option.none⟩ = some (.int .i64 X.id) ∧ W2.cell? ⟨w3.heap.size, 0, Option.none⟩ = some (.int .i64 X.id) ∧ W2.cell? ⟨w2.heap.size, 1, Option.none⟩ = some (.string X.sp) ∧ W2.cell? ⟨w3.heap.size, 1, Option.none⟩ = some (.string X.sp) ∧ W2.cell? ⟨w2.heap.size, 2, Option.none⟩ = some (.string X.nm) ∧ W2.cell? ⟨w3.heap.size, 2, Option.none⟩ = some (.string X.nm)) := fun W2 hk => by
    have h2 := ((hk.block W.heap.size (Nat.lt_of_lt_of_le (by omega) hbu3.size) (fun h => (hS4 _ h).elim HQS.out (fun h => by omega))).trans (hbu3.block _ (by omega))).trans HQ.out
    have h3 := ((hk.block w2.heap.size (by simp; omega) (fun h => by have := hSlt4 _ h; omega)).trans (heap_alloc_old w3 _ hz4)).trans ((hb3.block _ (by simp)).trans (heap_alloc_new w2 _))
    have h4 := (hk.block w3.heap.size (by simp) (fun h => by have := hSlt4 _ h; have := hbw3.size; omega)).trans (heap_alloc_new w3 _)
    refine ⟨?_, ?_, ?_, ?_, ?_, ?_, ?_, ?_, ?_, ?_, ?_, ?_, ?_, ?_⟩
    iterate 8 (rw [cell_of_row _ _ _ _ _ _ h2]; rfl)
    all_goals first
      | (rw [cell_of_row _ _ _ _ _ _ h3]; rfl)
      | (rw [cell_of_row _ _ _ _ _ _ h4]; rfl)
  obtain ⟨d0, d1, d2, d3, d4, d5, d6, d7, e0, e1, e2, e3, e4, e5⟩ := HA4.out _ (Keeps.refl _ _)
  clear a4' a4'' hS4 hSlt4 hback4
  go_wp2_with fail
  have hTd := hT4.go ((Below.refl _ _).drew)
  go_region_held3 (fun w' => w'.cell? ⟨W.heap.size, 0, Option.none⟩ = some (.int .i64 3) ∧ w'.cell? ⟨W.heap.size, 1, Option.none⟩ = some (.int .i64 xi) ∧ w'.cell? ⟨W.heap.size, 2, Option.none⟩ = some (.string xs) ∧ w'.cell? ⟨W.heap.size, 3, Option.none⟩ = some (.string xm) ∧ w'.cell? ⟨W.heap.size, 4, Option.none⟩ = some (.int .i64 xn) ∧ w'.cell? ⟨W.heap.size, 5, Option.none⟩ = some (.int .u8 xc) ∧ w'.cell? ⟨W.heap.size, 6, Option.none⟩ = some (.slice na nn nc) ∧ w'.cell? ⟨W.heap.size, 7, Option.none⟩ = some (.bool xo) ∧ w'.cell? ⟨w2.heap.size, 0, Option.none⟩ = some (.int .i64 X.id) ∧ w'.cell? ⟨w3.heap.size, 0, Option.none⟩ = some (.int .i64 X.id) ∧ w'.cell? ⟨w2.heap.size, 1, Option.none⟩ = some (.string X.sp) ∧ w'.cell? ⟨w3.heap.size, 1, Option.none⟩ = some (.string X.sp) ∧ w'.cell? ⟨w2.heap.size, 2, Option.none⟩ = some (.string X.nm) ∧ w'.cell? ⟨w3.heap.size, 2, Option.none⟩ = some (.string X.nm))
    (first | go_keep | exact HA4.out _ hT'.keeps)
    (first
      | (go_at_call 35; refine (Two.read1 (by assumption) (fun v h => index_any b1 v l xn _ h)).mono ?_; rintro e w' ⟨rfl, hT'⟩)
      | (go_at_call 36; refine (Two.read2 (by assumption) (fun v h => rindex_any b2 v l xn _ h)).mono ?_; rintro e w' ⟨rfl, hT'⟩))
  all_goals
    go_wp2
    go_ret
    exact ⟨_, rfl, HBK.out _ _ _ (HB4.out _ _ _ (by assumption)), by omega⟩

set_option maxRecDepth 100000 in
set_option maxHeartbeats 8000000 in
theorem does_has (w0 : World) (S : Nat → Prop) (b1 b2 : Nat) (l : List El) (W : World) (hT0 : Two w0 S b1 b2 l l W) (hg0 : Glob w0) (hS0 : ∀ k, S k → 0 < k) (x : Ac) (na : Option Addr) (nn nc : Nat) (ns : List ByteArray) (hv : Aside2 w0 S (.slice na nn nc) ns) (hn : ns.length * 16 ≤ 140737488355328) (_hlen : l.length < 900000) (hkind : x.kind = 7) :
    Calls Tryd.prog 17 #[.pointer (some ⟨b1, 0, Option.none⟩), .pointer (some ⟨b2, 0, Option.none⟩), .agg #[.int .i64 x.kind, .int .i64 x.e.id, .string x.e.sp, .string x.e.nm, .int .i64 x.n, .int .u8 x.scope, .slice na nn nc, .bool x.on]] W (DoesPost w0 S b1 b2 (l.length + 1)) := by
  obtain ⟨xk, ⟨xi, xs, xm⟩, xn, xc, xo⟩ := x
  simp only at *
  subst hkind
  obtain ⟨own, W1, hr, ⟨oa, on, oc, rfl⟩, hstr, hbel, hge⟩ := run_names (W.alloc (.cells #[.int .i64 7, .int .i64 xi, .string xs, .string xm, .int .i64 xn, .int .u8 xc, .slice na nn nc, .bool xo] 51)) 23 (.slice na nn nc) ns ((hv.at_ hT0).below (Nat.le_refl _) ((Below.refl _ _).alloc (Nat.le_refl _) _)) hn
  obtain ⟨S1, hT, hS1, hSlt, hback, hw01⟩ := hT0.base1 hbel
  have hq : W1.heap[W.heap.size]? = some (.cells #[.int .i64 7, .int .i64 xi, .string xs, .string xm, .int .i64 xn, .int .u8 xc, .slice na nn nc, .bool xo] 51 (0, 0)) := (hbel.block _ (by simp)).trans (heap_alloc_new _ _)
  have hql : W.heap.size < W1.heap.size := (Array.getElem?_eq_some_iff.1 hq).1
  have hqS : ¬ S1 W.heap.size := fun h => by have := hSlt _ h; omega
  have HA : Hid (∀ W2, Keeps S1 W1 W2 → W2.cell? ⟨W.heap.size, 0, Option.none⟩ = some (.int .i64 7) ∧ W2.cell? ⟨W.heap.size, 1, Option.none⟩ = some (.int .i64 xi) ∧ W2.cell? ⟨W.heap.size, 2, Option.none⟩ = some (.string xs) ∧ W2.cell? ⟨W.heap.size, 3, Option.none⟩ = some (.string xm) ∧ W2.cell? ⟨W.heap.size, 4, Option.none⟩ = some (.int .i64 xn) ∧ W2.cell? ⟨W.heap.size, 5, Option.none⟩ = some (.int .u8 xc) ∧ W2.cell? ⟨W.heap.size, 6, Option.none⟩ = some (.slice na nn nc) ∧ W2.cell? ⟨W.heap.size, 7, Option.none⟩ = some (.bool xo)) := fun W2 hk => by
    have h2 := (hk.block _ hql hqS).trans hq
    refine ⟨?_, ?_, ?_, ?_, ?_, ?_, ?_, ?_⟩
    all_goals (rw [cell_of_row _ _ _ _ _ _ h2]; rfl)
  have hg1 := hT0.glob1 hg0 hS0 hbel
  have hS1' : ∀ k, S1 k → 0 < k := fun k hk => (hS1 k hk).elim (hS0 k) (fun h => Nat.lt_of_lt_of_le hg0.lt h)
  have hvn : Aside2 W1 S1 (.slice na nn nc) ns := hv.base hT0 hbel hS1
  have hown : Aside2 W1 S1 (.slice oa on oc) ns := ⟨hstr, fun _ nb o n c e hs => by have := hge nb o n c e; have := hSlt nb hs; simp at *; omega⟩
  have HBK := Lib.hid hback
  have HR := Lib.hid hr
  have HVN := Lib.hid hvn
  have HON := Lib.hid hown
  have HG := Lib.hid hg1
  have HS1 := Lib.hid hS1'
  have hz : W.heap.size + 1 ≤ W1.heap.size := by omega
  clear hr hstr hbel hge hS1 hSlt hback hq hqS hvn hown hg1 hS1' hT0 hg0 hS0 hv hn hw01
  obtain ⟨a0, a1, a2, a3, a4, a5, a6, a7⟩ := HA.out W1 (Keeps.refl _ _)
  go_enter Tryd.func17, Tryd.ntmps17
  go_wp2_with (at_builtin; refine Lib.wpList_append_run _ rfl _ _ _ _ rfl _ _ rfl rfl _ _ HR.out ?_)
  go_wp2_with fail
  refine (hT.read1 (fun v h => has_any b1 v _ l xc ns _ (hT.glob HG.out HS1.out) h (HON.out.at_ hT))).mono ?_
  rintro e w2 ⟨rfl, hT2⟩
  clear a0 a1 a2 a3 a4 a5 a6 a7
  obtain ⟨a0, a1, a2, a3, a4, a5, a6, a7⟩ := HA.out w2 hT2.keeps
  have HH := Lib.hid (fun v W2 (h : Stk W2 b2 v l) (hv : StrsAt W2 (.slice na nn nc) ns) => rhas_any b2 v _ l xc ns W2 h hv)
  generalize foundB (oneE ns) (endE xc) l.reverse = r at *
  go_wp2_with fail
  refine (hT2.read2 (fun v h => HH.out v _ h (HVN.out.at_ hT2))).mono ?_
  rintro e w3 ⟨rfl, hT3⟩
  clear a0 a1 a2 a3 a4 a5 a6 a7
  obtain ⟨a0, a1, a2, a3, a4, a5, a6, a7⟩ := HA.out w3 hT3.keeps
  go_wp2_with fail
  refine (same_texts _ _ ns _ (HON.out.at_ hT3) (HVN.out.at_ hT3)).mono ?_
  rintro e w4 ⟨rfl, hb4⟩
  go_wp2_with fail
  go_ret
  exact ⟨_, rfl, HBK.out _ _ _ (hT3.go hb4), by omega⟩

set_option maxRecDepth 100000 in
set_option maxHeartbeats 8000000 in
theorem does_implied (w0 : World) (S : Nat → Prop) (b1 b2 : Nat) (l : List El) (W : World) (hT0 : Two w0 S b1 b2 l l W) (hg0 : Glob w0) (hS0 : ∀ k, S k → 0 < k) (x : Ac) (na : Option Addr) (nn nc : Nat) (ns : List ByteArray) (hv : Aside2 w0 S (.slice na nn nc) ns) (hn : ns.length * 16 ≤ 140737488355328) (_hlen : l.length < 900000) (hkind : x.kind = 9) :
    Calls Tryd.prog 17 #[.pointer (some ⟨b1, 0, Option.none⟩), .pointer (some ⟨b2, 0, Option.none⟩), .agg #[.int .i64 x.kind, .int .i64 x.e.id, .string x.e.sp, .string x.e.nm, .int .i64 x.n, .int .u8 x.scope, .slice na nn nc, .bool x.on]] W (DoesPost w0 S b1 b2 (l.length + 1)) := by
  obtain ⟨xk, ⟨xi, xs, xm⟩, xn, xc, xo⟩ := x
  simp only at *
  subst hkind
  obtain ⟨own, W1, hr, ⟨oa, on, oc, rfl⟩, hstr, hbel, hge⟩ := run_names (W.alloc (.cells #[.int .i64 9, .int .i64 xi, .string xs, .string xm, .int .i64 xn, .int .u8 xc, .slice na nn nc, .bool xo] 51)) 23 (.slice na nn nc) ns ((hv.at_ hT0).below (Nat.le_refl _) ((Below.refl _ _).alloc (Nat.le_refl _) _)) hn
  obtain ⟨S1, hT, hS1, hSlt, hback, hw01⟩ := hT0.base1 hbel
  have hq : W1.heap[W.heap.size]? = some (.cells #[.int .i64 9, .int .i64 xi, .string xs, .string xm, .int .i64 xn, .int .u8 xc, .slice na nn nc, .bool xo] 51 (0, 0)) := (hbel.block _ (by simp)).trans (heap_alloc_new _ _)
  have hql : W.heap.size < W1.heap.size := (Array.getElem?_eq_some_iff.1 hq).1
  have hqS : ¬ S1 W.heap.size := fun h => by have := hSlt _ h; omega
  have HA : Hid (∀ W2, Keeps S1 W1 W2 → W2.cell? ⟨W.heap.size, 0, Option.none⟩ = some (.int .i64 9) ∧ W2.cell? ⟨W.heap.size, 1, Option.none⟩ = some (.int .i64 xi) ∧ W2.cell? ⟨W.heap.size, 2, Option.none⟩ = some (.string xs) ∧ W2.cell? ⟨W.heap.size, 3, Option.none⟩ = some (.string xm) ∧ W2.cell? ⟨W.heap.size, 4, Option.none⟩ = some (.int .i64 xn) ∧ W2.cell? ⟨W.heap.size, 5, Option.none⟩ = some (.int .u8 xc) ∧ W2.cell? ⟨W.heap.size, 6, Option.none⟩ = some (.slice na nn nc) ∧ W2.cell? ⟨W.heap.size, 7, Option.none⟩ = some (.bool xo)) := fun W2 hk => by
    have h2 := (hk.block _ hql hqS).trans hq
    refine ⟨?_, ?_, ?_, ?_, ?_, ?_, ?_, ?_⟩
    all_goals (rw [cell_of_row _ _ _ _ _ _ h2]; rfl)
  have hg1 := hT0.glob1 hg0 hS0 hbel
  have hS1' : ∀ k, S1 k → 0 < k := fun k hk => (hS1 k hk).elim (hS0 k) (fun h => Nat.lt_of_lt_of_le hg0.lt h)
  have hvn : Aside2 W1 S1 (.slice na nn nc) ns := hv.base hT0 hbel hS1
  have hown : Aside2 W1 S1 (.slice oa on oc) ns := ⟨hstr, fun _ nb o n c e hs => by have := hge nb o n c e; have := hSlt nb hs; simp at *; omega⟩
  have HBK := Lib.hid hback
  have HR := Lib.hid hr
  have HVN := Lib.hid hvn
  have HON := Lib.hid hown
  have HG := Lib.hid hg1
  have HS1 := Lib.hid hS1'
  have hz : W.heap.size + 1 ≤ W1.heap.size := by omega
  clear hr hstr hbel hge hS1 hSlt hback hq hqS hvn hown hg1 hS1' hT0 hg0 hS0 hv hn hw01
  obtain ⟨a0, a1, a2, a3, a4, a5, a6, a7⟩ := HA.out W1 (Keeps.refl _ _)
  rcases HVN.out.strs with ⟨hns, a', c', he⟩ | ⟨nb, off, c', he, hnb, _, hpos, hcs⟩
  · cases he
    go_enter Tryd.func17, Tryd.ntmps17
    go_wp2_with (at_builtin; refine Lib.wpList_append_run _ rfl _ _ _ _ rfl _ _ rfl rfl _ _ HR.out ?_)
    go_wp2_with fail
    have hTd := hT.go ((Below.refl _ _).drew)
    go_region_held3 (fun w' => w'.cell? ⟨W.heap.size, 0, Option.none⟩ = some (.int .i64 9) ∧ w'.cell? ⟨W.heap.size, 1, Option.none⟩ = some (.int .i64 xi) ∧ w'.cell? ⟨W.heap.size, 2, Option.none⟩ = some (.string xs) ∧ w'.cell? ⟨W.heap.size, 3, Option.none⟩ = some (.string xm) ∧ w'.cell? ⟨W.heap.size, 4, Option.none⟩ = some (.int .i64 xn) ∧ w'.cell? ⟨W.heap.size, 5, Option.none⟩ = some (.int .u8 xc) ∧ w'.cell? ⟨W.heap.size, 6, Option.none⟩ = some (.slice na 0 nc) ∧ w'.cell? ⟨W.heap.size, 7, Option.none⟩ = some (.bool xo))
      (first | go_keep | exact HA.out _ hT'.keeps)
      (first
        | (go_at_call 11; refine (Two.call1 (by assumption) (fun v h f => implied_any b1 v l xo ⟨#[]⟩ _ (Two.glob (by assumption) HG.out HS1.out) h (Two.fpok HG.out HS1.out f))).mono ?_; rintro e w' ⟨rfl, hT'⟩)
        | (go_at_call 45; refine (Two.call2 (by assumption) (fun v h f => rimplied_any b2 v l xo ⟨#[]⟩ _ h)).mono ?_; rintro e w' ⟨rfl, hT'⟩))
    all_goals
      go_wp2
      go_ret
      exact ⟨_, rfl, HBK.out _ _ _ (by assumption), take_len _ _⟩
  · cases he
    have hs0 := hcs 0 hpos
    rw [Nat.add_zero] at hs0
    have hnp : (0 : Int) < (ns.length : Int) := by omega
    clear hcs
    generalize ns.getD 0 ByteArray.empty = but at *
    go_enter Tryd.func17, Tryd.ntmps17
    go_wp2_with (at_builtin; refine Lib.wpList_append_run _ rfl _ _ _ _ rfl _ _ rfl rfl _ _ HR.out ?_)
    go_wp2_with fail
    have hTd := hT.go ((Below.refl _ _).drew)
    go_region_held3 (fun w' => w'.cell? ⟨W.heap.size, 0, Option.none⟩ = some (.int .i64 9) ∧ w'.cell? ⟨W.heap.size, 1, Option.none⟩ = some (.int .i64 xi) ∧ w'.cell? ⟨W.heap.size, 2, Option.none⟩ = some (.string xs) ∧ w'.cell? ⟨W.heap.size, 3, Option.none⟩ = some (.string xm) ∧ w'.cell? ⟨W.heap.size, 4, Option.none⟩ = some (.int .i64 xn) ∧ w'.cell? ⟨W.heap.size, 5, Option.none⟩ = some (.int .u8 xc) ∧ w'.cell? ⟨W.heap.size, 6, Option.none⟩ = some (.slice (some ⟨nb, off, Option.none⟩) ns.length nc) ∧ w'.cell? ⟨W.heap.size, 7, Option.none⟩ = some (.bool xo))
      (first | go_keep | exact HA.out _ hT'.keeps)
      (first
        | (go_at_call 11; refine (Two.call1 (by assumption) (fun v h f => implied_any b1 v l xo but _ (Two.glob (by assumption) HG.out HS1.out) h (Two.fpok HG.out HS1.out f))).mono ?_; rintro e w' ⟨rfl, hT'⟩)
        | (go_at_call 45; refine (Two.call2 (by assumption) (fun v h f => rimplied_any b2 v l xo but _ h)).mono ?_; rintro e w' ⟨rfl, hT'⟩))
    all_goals
      go_wp2
      go_ret
      exact ⟨_, rfl, HBK.out _ _ _ (by assumption), take_len _ _⟩
end Go.Proofs.YtibfiblajicdpaaDoor
