/- Joined texts: Kh Hc Ka Kb Vb. Each begins with its own remark. -/
import Derived.Test.YtckaoeloofbklaaGreatDoorWd
import Derived.BigQuiet
import Derived.Test.YtckaoeloofbklaaGreatDoorWb
import Derived.Test.YtckaoeloofbklaaGreatDoorWc
import Derived.Lib.LaidTab
import Derived.Lib.ItoaNum
import Derived.Laws.Bits64b
import GoSem.PinnedTables
set_option maxRecDepth 100000
set_option maxHeartbeats 8000000
namespace Go.Proofs.YtckaoeloofbklaaGreatDoor
open Go Go.RowKit Go.Lib
theorem cell_agg4 {w : World} {b : Nat} {x0 x1 x2 x3 : Value} {T : TypeId} {f : Nat × Nat} (h : w.heap[b]? = some (.cells #[x0, x1, x2, x3] T f)) :
  w.cell? ⟨b, 0, none⟩ = some x0 ∧ w.cell? ⟨b, 1, none⟩ = some x1 ∧ w.cell? ⟨b, 2, none⟩ = some x2 ∧ w.cell? ⟨b, 3, none⟩ = some x3 := by
 refine ⟨?_, ?_, ?_, ?_⟩ <;> simp [World.cell?, h]
theorem rbool {a b : Bool} (h : a = b) : Ending.returned (.bool a) = Ending.returned (.bool b) := by rw [h]
theorem plain_no (b : Bool) (n u : Int) (s : ByteArray) (ks : List ByteArray) (vs : List JV) (ka : Option Addr) (kc : Nat) (a : Option Addr) (c : Nat) (w : World) (k : Int) (_hk0 : 0 ≤ k) (_hk9 : k < 256) (hk : k ≠ 1 ∧ k ≠ 2 ∧ k ≠ 3 ∧ k ≠ 4 ∧ k ≠ 5 ∧ k ≠ 6 ∧ k ≠ 7) :
  Calls Tryz.prog 56 #[.agg #[.int .u8 k, .bool b, .int .i64 n, .int .u64 u, .string s, .slice ka ks.length kc, .slice a vs.length c]] w fun e w' => e = .returned (.bool (JV.plain (.mk k b n u s ks vs))) ∧ Below w.heap.size w w' := by
 have hbx := heap_alloc_new w (.cells #[.int .u8 k, .bool b, .int .i64 n, .int .u64 u, .string s, .slice ka ks.length kc, .slice a vs.length c] 27)
 have hbA : Below w.heap.size w (w.alloc (.cells #[.int .u8 k, .bool b, .int .i64 n, .int .u64 u, .string s, .slice ka ks.length kc, .slice a vs.length c] 27)) := (Below.refl _ _).alloc (Nat.le_refl _) _
 have hsA : (w.alloc (.cells #[.int .u8 k, .bool b, .int .i64 n, .int .u64 u, .string s, .slice ka ks.length kc, .slice a vs.length c] 27)).heap.size = w.heap.size + 1 := by simp
 obtain ⟨c0, c1, c2, c3, c4, c5, c6⟩ := cell_agg7 hbx
 have HBX := Lib.hid hbx
 have HBA := Lib.hid hbA
 clear hbx hbA
 obtain ⟨hk1, hk2, hk3, hk4, hk5, hk6, hk7⟩ := hk
 go_enter Tryz.func56, Tryz.ntmps56
 go_upto_region 1 with fail
 generalize w.alloc (.cells #[.int .u8 k, .bool b, .int .i64 n, .int .u64 u, .string s, .slice ka ks.length kc, .slice a vs.length c] 27) = wA at *
 go_upto_region 2 with fail
 have hX := heap_alloc_new wA (.cells #[.bool b, .int .i64 n, .int .u64 u, .string s] 63)
 have hXb : Below w.heap.size w (wA.alloc (.cells #[.bool b, .int .i64 n, .int .u64 u, .string s] 63)) := HBA.out.alloc HBA.out.size _
 have hXo := (heapJ_old wA (.cells #[.bool b, .int .i64 n, .int .u64 u, .string s] 63) w.heap.size (by omega)).trans HBX.out
 generalize wA.alloc (.cells #[.bool b, .int .i64 n, .int .u64 u, .string s] 63) = W1 at *
 clear c0 c1 c2 c3 c4 c5 c6
 obtain ⟨c0, c1, c2, c3, c4, c5, c6⟩ := cell_agg7 hXo
 rw [hsA] at hX
 obtain ⟨e0, e1, e2, e3⟩ := cell_agg4 hX
 have q : ∀ j, W1.frozen? ⟨w.heap.size + 1, j, none⟩ = false := fun j => froz_agg hX j
 have HXB := Lib.hid hXb
 clear hX hXb hXo
 have HP := Lib.hid (show JV.plain (.mk k b n u s ks vs) = false by simp only [JV.plain]; rw [if_neg hk1, if_neg hk2, if_neg hk3, if_neg hk4, if_neg hk5, if_neg hk6, if_neg hk7])
 go_wp2_with fail
 go_quiet (fail)
 go_wp2_with fail
 go_ret
 exact ⟨rbool HP.out.symm, bDrewN HXB.out _⟩
theorem plainv_1 (b : Bool) (n u : Int) (s : ByteArray) (ks : List ByteArray) (vs : List JV) : JV.plain (.mk 1 b n u s ks vs) = (decide (b = false ∧ n = 0 ∧ u = 0 ∧ s = ⟨#[]⟩) && decide (vs.length = 0) && decide (ks.length = 0)) := by
 rw [Bool.eq_iff_iff]
 simp [JV.plain] <;> grind
theorem plain_1 (b : Bool) (n u : Int) (s : ByteArray) (ks : List ByteArray) (vs : List JV) (ka : Option Addr) (kc : Nat) (a : Option Addr) (c : Nat) (w : World) :
  Calls Tryz.prog 56 #[.agg #[.int .u8 1, .bool b, .int .i64 n, .int .u64 u, .string s, .slice ka ks.length kc, .slice a vs.length c]] w fun e w' => e = .returned (.bool (JV.plain (.mk 1 b n u s ks vs))) ∧ Below w.heap.size w w' := by
 have hbx := heap_alloc_new w (.cells #[.int .u8 1, .bool b, .int .i64 n, .int .u64 u, .string s, .slice ka ks.length kc, .slice a vs.length c] 27)
 have hbA : Below w.heap.size w (w.alloc (.cells #[.int .u8 1, .bool b, .int .i64 n, .int .u64 u, .string s, .slice ka ks.length kc, .slice a vs.length c] 27)) := (Below.refl _ _).alloc (Nat.le_refl _) _
 have hsA : (w.alloc (.cells #[.int .u8 1, .bool b, .int .i64 n, .int .u64 u, .string s, .slice ka ks.length kc, .slice a vs.length c] 27)).heap.size = w.heap.size + 1 := by simp
 obtain ⟨c0, c1, c2, c3, c4, c5, c6⟩ := cell_agg7 hbx
 have HBX := Lib.hid hbx
 have HBA := Lib.hid hbA
 clear hbx hbA
 go_enter Tryz.func56, Tryz.ntmps56
 go_upto_region 1 with fail
 generalize w.alloc (.cells #[.int .u8 1, .bool b, .int .i64 n, .int .u64 u, .string s, .slice ka ks.length kc, .slice a vs.length c] 27) = wA at *
 go_upto_region 2 with fail
 have hX := heap_alloc_new wA (.cells #[.bool b, .int .i64 n, .int .u64 u, .string s] 63)
 have hXb : Below w.heap.size w (wA.alloc (.cells #[.bool b, .int .i64 n, .int .u64 u, .string s] 63)) := HBA.out.alloc HBA.out.size _
 have hXo := (heapJ_old wA (.cells #[.bool b, .int .i64 n, .int .u64 u, .string s] 63) w.heap.size (by omega)).trans HBX.out
 generalize wA.alloc (.cells #[.bool b, .int .i64 n, .int .u64 u, .string s] 63) = W1 at *
 clear c0 c1 c2 c3 c4 c5 c6
 obtain ⟨c0, c1, c2, c3, c4, c5, c6⟩ := cell_agg7 hXo
 rw [hsA] at hX
 obtain ⟨e0, e1, e2, e3⟩ := cell_agg4 hX
 have q : ∀ j, W1.frozen? ⟨w.heap.size + 1, j, none⟩ = false := fun j => froz_agg hX j
 have HXB := Lib.hid hXb
 clear hX hXb hXo
 obtain ⟨E, hE⟩ : ∃ E, E = decide (b = false ∧ n = 0 ∧ u = 0 ∧ s = ⟨#[]⟩) := ⟨_, rfl⟩
 have hre : ∀ W, (binOp .eql 63 (.agg #[.bool b, .int .i64 n, .int .u64 u, .string s]) (.agg #[.bool false, .int .i64 0, .int .u64 0, .string ⟨#[]⟩])).run Tryz.prog W = .ok (.bool E) W := fun W => by rw [rest_eql, hE] <;> simp
 have heg : Tryz.prog.eqGuardType Tryz.prog.depth 63 = false := by kernel_rfl
 have HP := Lib.hid (plainv_1 b n u s ks vs)
 rw [← hE] at HP
 clear hE
 cases E with
 | false =>
  go_wp2_with fail
  go_quiet (fail)
  go_wp2_with fail
  go_ret
  exact ⟨rbool (by rw [HP.out]; rfl), bDrewN HXB.out _⟩
 | true =>
  rcases Nat.eq_zero_or_pos vs.length with hv | hv
  ·have hv1 : ((vs.length : Int) == 0) = true := by rw [beq_iff_eq]; omega
   have hv2 : (vs.length : Int) = 0 := by omega
   have HV := Lib.hid hv
   clear hv
   rcases Nat.eq_zero_or_pos ks.length with hq | hq
   ·have hq1 : ((ks.length : Int) == 0) = true := by rw [beq_iff_eq]; omega
    have hq2 : (ks.length : Int) = 0 := by omega
    have HQ := Lib.hid hq
    clear hq
    go_wp2_with fail
    go_quiet (fail)
    go_wp2_with fail
    go_ret
    exact ⟨rbool (by rw [HP.out]; rw [decide_eq_true HV.out]; rw [decide_eq_true HQ.out]; rfl), bDrewN HXB.out _⟩
   ·have hq1 : ((ks.length : Int) == 0) = false := by rw [beq_eq_false_iff_ne]; omega
    have hq2 : ¬ (ks.length : Int) = 0 := by omega
    have HQ := Lib.hid hq
    clear hq
    go_wp2_with fail
    go_quiet (fail)
    go_wp2_with fail
    go_ret
    exact ⟨rbool (by rw [HP.out]; rw [decide_eq_true HV.out]; rw [decide_eq_false (show ¬ ks.length = 0 by have := HQ.out; omega)]; rfl), bDrewN HXB.out _⟩
  ·have hv1 : ((vs.length : Int) == 0) = false := by rw [beq_eq_false_iff_ne]; omega
   have hv2 : ¬ (vs.length : Int) = 0 := by omega
   have HV := Lib.hid hv
   clear hv
   go_wp2_with fail
   go_quiet (fail)
   go_wp2_with fail
   go_ret
   exact ⟨rbool (by rw [HP.out]; rw [decide_eq_false (show ¬ vs.length = 0 by have := HV.out; omega)]; rfl), bDrewN HXB.out _⟩
theorem plainv_2 (b : Bool) (n u : Int) (s : ByteArray) (ks : List ByteArray) (vs : List JV) : JV.plain (.mk 2 b n u s ks vs) = (decide (n = 0 ∧ u = 0 ∧ s = ⟨#[]⟩) && decide (vs.length = 0) && decide (ks.length = 0)) := by
 rw [Bool.eq_iff_iff]
 simp [JV.plain] <;> grind
theorem plain_2 (b : Bool) (n u : Int) (s : ByteArray) (ks : List ByteArray) (vs : List JV) (ka : Option Addr) (kc : Nat) (a : Option Addr) (c : Nat) (w : World) :
  Calls Tryz.prog 56 #[.agg #[.int .u8 2, .bool b, .int .i64 n, .int .u64 u, .string s, .slice ka ks.length kc, .slice a vs.length c]] w fun e w' => e = .returned (.bool (JV.plain (.mk 2 b n u s ks vs))) ∧ Below w.heap.size w w' := by
 have hbx := heap_alloc_new w (.cells #[.int .u8 2, .bool b, .int .i64 n, .int .u64 u, .string s, .slice ka ks.length kc, .slice a vs.length c] 27)
 have hbA : Below w.heap.size w (w.alloc (.cells #[.int .u8 2, .bool b, .int .i64 n, .int .u64 u, .string s, .slice ka ks.length kc, .slice a vs.length c] 27)) := (Below.refl _ _).alloc (Nat.le_refl _) _
 have hsA : (w.alloc (.cells #[.int .u8 2, .bool b, .int .i64 n, .int .u64 u, .string s, .slice ka ks.length kc, .slice a vs.length c] 27)).heap.size = w.heap.size + 1 := by simp
 obtain ⟨c0, c1, c2, c3, c4, c5, c6⟩ := cell_agg7 hbx
 have HBX := Lib.hid hbx
 have HBA := Lib.hid hbA
 clear hbx hbA
 go_enter Tryz.func56, Tryz.ntmps56
 go_upto_region 1 with fail
 generalize w.alloc (.cells #[.int .u8 2, .bool b, .int .i64 n, .int .u64 u, .string s, .slice ka ks.length kc, .slice a vs.length c] 27) = wA at *
 go_upto_region 2 with fail
 have hX := heap_alloc_new wA (.cells #[.bool b, .int .i64 n, .int .u64 u, .string s] 63)
 have hXb : Below w.heap.size w (wA.alloc (.cells #[.bool b, .int .i64 n, .int .u64 u, .string s] 63)) := HBA.out.alloc HBA.out.size _
 have hXo := (heapJ_old wA (.cells #[.bool b, .int .i64 n, .int .u64 u, .string s] 63) w.heap.size (by omega)).trans HBX.out
 generalize wA.alloc (.cells #[.bool b, .int .i64 n, .int .u64 u, .string s] 63) = W1 at *
 clear c0 c1 c2 c3 c4 c5 c6
 obtain ⟨c0, c1, c2, c3, c4, c5, c6⟩ := cell_agg7 hXo
 rw [hsA] at hX
 obtain ⟨e0, e1, e2, e3⟩ := cell_agg4 hX
 have q : ∀ j, W1.frozen? ⟨w.heap.size + 1, j, none⟩ = false := fun j => froz_agg hX j
 have HXB := Lib.hid hXb
 clear hX hXb hXo
 obtain ⟨E, hE⟩ : ∃ E, E = decide (n = 0 ∧ u = 0 ∧ s = ⟨#[]⟩) := ⟨_, rfl⟩
 have hre : ∀ W, (binOp .eql 63 (.agg #[.bool false, .int .i64 n, .int .u64 u, .string s]) (.agg #[.bool false, .int .i64 0, .int .u64 0, .string ⟨#[]⟩])).run Tryz.prog W = .ok (.bool E) W := fun W => by rw [rest_eql, hE] <;> simp
 have heg : Tryz.prog.eqGuardType Tryz.prog.depth 63 = false := by kernel_rfl
 have HP := Lib.hid (plainv_2 b n u s ks vs)
 rw [← hE] at HP
 clear hE
 cases E with
 | false =>
  go_wp2_with fail
  go_quiet (fail)
  go_wp2_with fail
  go_ret
  exact ⟨rbool (by rw [HP.out]; rfl), (bDrewN HXB.out _).setCell (p := ⟨w.heap.size + 1, 0, none⟩) (Nat.le_succ _) _⟩
 | true =>
  rcases Nat.eq_zero_or_pos vs.length with hv | hv
  ·have hv1 : ((vs.length : Int) == 0) = true := by rw [beq_iff_eq]; omega
   have hv2 : (vs.length : Int) = 0 := by omega
   have HV := Lib.hid hv
   clear hv
   rcases Nat.eq_zero_or_pos ks.length with hq | hq
   ·have hq1 : ((ks.length : Int) == 0) = true := by rw [beq_iff_eq]; omega
    have hq2 : (ks.length : Int) = 0 := by omega
    have HQ := Lib.hid hq
    clear hq
    go_wp2_with fail
    go_quiet (fail)
    go_wp2_with fail
    go_ret
    exact ⟨rbool (by rw [HP.out]; rw [decide_eq_true HV.out]; rw [decide_eq_true HQ.out]; rfl), (bDrewN HXB.out _).setCell (p := ⟨w.heap.size + 1, 0, none⟩) (Nat.le_succ _) _⟩
   ·have hq1 : ((ks.length : Int) == 0) = false := by rw [beq_eq_false_iff_ne]; omega
    have hq2 : ¬ (ks.length : Int) = 0 := by omega
    have HQ := Lib.hid hq
    clear hq
    go_wp2_with fail
    go_quiet (fail)
    go_wp2_with fail
    go_ret
    exact ⟨rbool (by rw [HP.out]; rw [decide_eq_true HV.out]; rw [decide_eq_false (show ¬ ks.length = 0 by have := HQ.out; omega)]; rfl), (bDrewN HXB.out _).setCell (p := ⟨w.heap.size + 1, 0, none⟩) (Nat.le_succ _) _⟩
  ·have hv1 : ((vs.length : Int) == 0) = false := by rw [beq_eq_false_iff_ne]; omega
   have hv2 : ¬ (vs.length : Int) = 0 := by omega
   have HV := Lib.hid hv
   clear hv
   go_wp2_with fail
   go_quiet (fail)
   go_wp2_with fail
   go_ret
   exact ⟨rbool (by rw [HP.out]; rw [decide_eq_false (show ¬ vs.length = 0 by have := HV.out; omega)]; rfl), (bDrewN HXB.out _).setCell (p := ⟨w.heap.size + 1, 0, none⟩) (Nat.le_succ _) _⟩
theorem plainv_3 (b : Bool) (n u : Int) (s : ByteArray) (ks : List ByteArray) (vs : List JV) : JV.plain (.mk 3 b n u s ks vs) = (decide (b = false ∧ u = 0 ∧ s = ⟨#[]⟩) && decide (vs.length = 0) && decide (ks.length = 0)) := by
 rw [Bool.eq_iff_iff]
 simp [JV.plain] <;> grind
theorem plain_3 (b : Bool) (n u : Int) (s : ByteArray) (ks : List ByteArray) (vs : List JV) (ka : Option Addr) (kc : Nat) (a : Option Addr) (c : Nat) (w : World) :
  Calls Tryz.prog 56 #[.agg #[.int .u8 3, .bool b, .int .i64 n, .int .u64 u, .string s, .slice ka ks.length kc, .slice a vs.length c]] w fun e w' => e = .returned (.bool (JV.plain (.mk 3 b n u s ks vs))) ∧ Below w.heap.size w w' := by
 have hbx := heap_alloc_new w (.cells #[.int .u8 3, .bool b, .int .i64 n, .int .u64 u, .string s, .slice ka ks.length kc, .slice a vs.length c] 27)
 have hbA : Below w.heap.size w (w.alloc (.cells #[.int .u8 3, .bool b, .int .i64 n, .int .u64 u, .string s, .slice ka ks.length kc, .slice a vs.length c] 27)) := (Below.refl _ _).alloc (Nat.le_refl _) _
 have hsA : (w.alloc (.cells #[.int .u8 3, .bool b, .int .i64 n, .int .u64 u, .string s, .slice ka ks.length kc, .slice a vs.length c] 27)).heap.size = w.heap.size + 1 := by simp
 obtain ⟨c0, c1, c2, c3, c4, c5, c6⟩ := cell_agg7 hbx
 have HBX := Lib.hid hbx
 have HBA := Lib.hid hbA
 clear hbx hbA
 go_enter Tryz.func56, Tryz.ntmps56
 go_upto_region 1 with fail
 generalize w.alloc (.cells #[.int .u8 3, .bool b, .int .i64 n, .int .u64 u, .string s, .slice ka ks.length kc, .slice a vs.length c] 27) = wA at *
 go_upto_region 2 with fail
 have hX := heap_alloc_new wA (.cells #[.bool b, .int .i64 n, .int .u64 u, .string s] 63)
 have hXb : Below w.heap.size w (wA.alloc (.cells #[.bool b, .int .i64 n, .int .u64 u, .string s] 63)) := HBA.out.alloc HBA.out.size _
 have hXo := (heapJ_old wA (.cells #[.bool b, .int .i64 n, .int .u64 u, .string s] 63) w.heap.size (by omega)).trans HBX.out
 generalize wA.alloc (.cells #[.bool b, .int .i64 n, .int .u64 u, .string s] 63) = W1 at *
 clear c0 c1 c2 c3 c4 c5 c6
 obtain ⟨c0, c1, c2, c3, c4, c5, c6⟩ := cell_agg7 hXo
 rw [hsA] at hX
 obtain ⟨e0, e1, e2, e3⟩ := cell_agg4 hX
 have q : ∀ j, W1.frozen? ⟨w.heap.size + 1, j, none⟩ = false := fun j => froz_agg hX j
 have HXB := Lib.hid hXb
 clear hX hXb hXo
 obtain ⟨E, hE⟩ : ∃ E, E = decide (b = false ∧ u = 0 ∧ s = ⟨#[]⟩) := ⟨_, rfl⟩
 have hre : ∀ W, (binOp .eql 63 (.agg #[.bool b, .int .i64 0, .int .u64 u, .string s]) (.agg #[.bool false, .int .i64 0, .int .u64 0, .string ⟨#[]⟩])).run Tryz.prog W = .ok (.bool E) W := fun W => by rw [rest_eql, hE] <;> simp
 have heg : Tryz.prog.eqGuardType Tryz.prog.depth 63 = false := by kernel_rfl
 have HP := Lib.hid (plainv_3 b n u s ks vs)
 rw [← hE] at HP
 clear hE
 cases E with
 | false =>
  go_wp2_with fail
  go_quiet (fail)
  go_wp2_with fail
  go_ret
  exact ⟨rbool (by rw [HP.out]; rfl), (bDrewN HXB.out _).setCell (p := ⟨w.heap.size + 1, 1, none⟩) (Nat.le_succ _) _⟩
 | true =>
  rcases Nat.eq_zero_or_pos vs.length with hv | hv
  ·have hv1 : ((vs.length : Int) == 0) = true := by rw [beq_iff_eq]; omega
   have hv2 : (vs.length : Int) = 0 := by omega
   have HV := Lib.hid hv
   clear hv
   rcases Nat.eq_zero_or_pos ks.length with hq | hq
   ·have hq1 : ((ks.length : Int) == 0) = true := by rw [beq_iff_eq]; omega
    have hq2 : (ks.length : Int) = 0 := by omega
    have HQ := Lib.hid hq
    clear hq
    go_wp2_with fail
    go_quiet (fail)
    go_wp2_with fail
    go_ret
    exact ⟨rbool (by rw [HP.out]; rw [decide_eq_true HV.out]; rw [decide_eq_true HQ.out]; rfl), (bDrewN HXB.out _).setCell (p := ⟨w.heap.size + 1, 1, none⟩) (Nat.le_succ _) _⟩
   ·have hq1 : ((ks.length : Int) == 0) = false := by rw [beq_eq_false_iff_ne]; omega
    have hq2 : ¬ (ks.length : Int) = 0 := by omega
    have HQ := Lib.hid hq
    clear hq
    go_wp2_with fail
    go_quiet (fail)
    go_wp2_with fail
    go_ret
    exact ⟨rbool (by rw [HP.out]; rw [decide_eq_true HV.out]; rw [decide_eq_false (show ¬ ks.length = 0 by have := HQ.out; omega)]; rfl), (bDrewN HXB.out _).setCell (p := ⟨w.heap.size + 1, 1, none⟩) (Nat.le_succ _) _⟩
  ·have hv1 : ((vs.length : Int) == 0) = false := by rw [beq_eq_false_iff_ne]; omega
   have hv2 : ¬ (vs.length : Int) = 0 := by omega
   have HV := Lib.hid hv
   clear hv
   go_wp2_with fail
   go_quiet (fail)
   go_wp2_with fail
   go_ret
   exact ⟨rbool (by rw [HP.out]; rw [decide_eq_false (show ¬ vs.length = 0 by have := HV.out; omega)]; rfl), (bDrewN HXB.out _).setCell (p := ⟨w.heap.size + 1, 1, none⟩) (Nat.le_succ _) _⟩
theorem plainv_4 (b : Bool) (n u : Int) (s : ByteArray) (ks : List ByteArray) (vs : List JV) : JV.plain (.mk 4 b n u s ks vs) = (decide (b = false ∧ n = 0 ∧ s = ⟨#[]⟩) && decide (vs.length = 0) && decide (ks.length = 0)) := by
 rw [Bool.eq_iff_iff]
 simp [JV.plain] <;> grind
theorem plain_4 (b : Bool) (n u : Int) (s : ByteArray) (ks : List ByteArray) (vs : List JV) (ka : Option Addr) (kc : Nat) (a : Option Addr) (c : Nat) (w : World) :
  Calls Tryz.prog 56 #[.agg #[.int .u8 4, .bool b, .int .i64 n, .int .u64 u, .string s, .slice ka ks.length kc, .slice a vs.length c]] w fun e w' => e = .returned (.bool (JV.plain (.mk 4 b n u s ks vs))) ∧ Below w.heap.size w w' := by
 have hbx := heap_alloc_new w (.cells #[.int .u8 4, .bool b, .int .i64 n, .int .u64 u, .string s, .slice ka ks.length kc, .slice a vs.length c] 27)
 have hbA : Below w.heap.size w (w.alloc (.cells #[.int .u8 4, .bool b, .int .i64 n, .int .u64 u, .string s, .slice ka ks.length kc, .slice a vs.length c] 27)) := (Below.refl _ _).alloc (Nat.le_refl _) _
 have hsA : (w.alloc (.cells #[.int .u8 4, .bool b, .int .i64 n, .int .u64 u, .string s, .slice ka ks.length kc, .slice a vs.length c] 27)).heap.size = w.heap.size + 1 := by simp
 obtain ⟨c0, c1, c2, c3, c4, c5, c6⟩ := cell_agg7 hbx
 have HBX := Lib.hid hbx
 have HBA := Lib.hid hbA
 clear hbx hbA
 go_enter Tryz.func56, Tryz.ntmps56
 go_upto_region 1 with fail
 generalize w.alloc (.cells #[.int .u8 4, .bool b, .int .i64 n, .int .u64 u, .string s, .slice ka ks.length kc, .slice a vs.length c] 27) = wA at *
 go_upto_region 2 with fail
 have hX := heap_alloc_new wA (.cells #[.bool b, .int .i64 n, .int .u64 u, .string s] 63)
 have hXb : Below w.heap.size w (wA.alloc (.cells #[.bool b, .int .i64 n, .int .u64 u, .string s] 63)) := HBA.out.alloc HBA.out.size _
 have hXo := (heapJ_old wA (.cells #[.bool b, .int .i64 n, .int .u64 u, .string s] 63) w.heap.size (by omega)).trans HBX.out
 generalize wA.alloc (.cells #[.bool b, .int .i64 n, .int .u64 u, .string s] 63) = W1 at *
 clear c0 c1 c2 c3 c4 c5 c6
 obtain ⟨c0, c1, c2, c3, c4, c5, c6⟩ := cell_agg7 hXo
 rw [hsA] at hX
 obtain ⟨e0, e1, e2, e3⟩ := cell_agg4 hX
 have q : ∀ j, W1.frozen? ⟨w.heap.size + 1, j, none⟩ = false := fun j => froz_agg hX j
 have HXB := Lib.hid hXb
 clear hX hXb hXo
 obtain ⟨E, hE⟩ : ∃ E, E = decide (b = false ∧ n = 0 ∧ s = ⟨#[]⟩) := ⟨_, rfl⟩
 have hre : ∀ W, (binOp .eql 63 (.agg #[.bool b, .int .i64 n, .int .u64 0, .string s]) (.agg #[.bool false, .int .i64 0, .int .u64 0, .string ⟨#[]⟩])).run Tryz.prog W = .ok (.bool E) W := fun W => by rw [rest_eql, hE] <;> simp
 have heg : Tryz.prog.eqGuardType Tryz.prog.depth 63 = false := by kernel_rfl
 have HP := Lib.hid (plainv_4 b n u s ks vs)
 rw [← hE] at HP
 clear hE
 cases E with
 | false =>
  go_wp2_with fail
  go_quiet (fail)
  go_wp2_with fail
  go_ret
  exact ⟨rbool (by rw [HP.out]; rfl), (bDrewN HXB.out _).setCell (p := ⟨w.heap.size + 1, 2, none⟩) (Nat.le_succ _) _⟩
 | true =>
  rcases Nat.eq_zero_or_pos vs.length with hv | hv
  ·have hv1 : ((vs.length : Int) == 0) = true := by rw [beq_iff_eq]; omega
   have hv2 : (vs.length : Int) = 0 := by omega
   have HV := Lib.hid hv
   clear hv
   rcases Nat.eq_zero_or_pos ks.length with hq | hq
   ·have hq1 : ((ks.length : Int) == 0) = true := by rw [beq_iff_eq]; omega
    have hq2 : (ks.length : Int) = 0 := by omega
    have HQ := Lib.hid hq
    clear hq
    go_wp2_with fail
    go_quiet (fail)
    go_wp2_with fail
    go_ret
    exact ⟨rbool (by rw [HP.out]; rw [decide_eq_true HV.out]; rw [decide_eq_true HQ.out]; rfl), (bDrewN HXB.out _).setCell (p := ⟨w.heap.size + 1, 2, none⟩) (Nat.le_succ _) _⟩
   ·have hq1 : ((ks.length : Int) == 0) = false := by rw [beq_eq_false_iff_ne]; omega
    have hq2 : ¬ (ks.length : Int) = 0 := by omega
    have HQ := Lib.hid hq
    clear hq
    go_wp2_with fail
    go_quiet (fail)
    go_wp2_with fail
    go_ret
    exact ⟨rbool (by rw [HP.out]; rw [decide_eq_true HV.out]; rw [decide_eq_false (show ¬ ks.length = 0 by have := HQ.out; omega)]; rfl), (bDrewN HXB.out _).setCell (p := ⟨w.heap.size + 1, 2, none⟩) (Nat.le_succ _) _⟩
  ·have hv1 : ((vs.length : Int) == 0) = false := by rw [beq_eq_false_iff_ne]; omega
   have hv2 : ¬ (vs.length : Int) = 0 := by omega
   have HV := Lib.hid hv
   clear hv
   go_wp2_with fail
   go_quiet (fail)
   go_wp2_with fail
   go_ret
   exact ⟨rbool (by rw [HP.out]; rw [decide_eq_false (show ¬ vs.length = 0 by have := HV.out; omega)]; rfl), (bDrewN HXB.out _).setCell (p := ⟨w.heap.size + 1, 2, none⟩) (Nat.le_succ _) _⟩
theorem plainv_5 (b : Bool) (n u : Int) (s : ByteArray) (ks : List ByteArray) (vs : List JV) : JV.plain (.mk 5 b n u s ks vs) = (decide (b = false ∧ n = 0 ∧ u = 0) && decide (vs.length = 0) && decide (ks.length = 0)) := by
 rw [Bool.eq_iff_iff]
 simp [JV.plain] <;> grind
theorem plain_5 (b : Bool) (n u : Int) (s : ByteArray) (ks : List ByteArray) (vs : List JV) (ka : Option Addr) (kc : Nat) (a : Option Addr) (c : Nat) (w : World) :
  Calls Tryz.prog 56 #[.agg #[.int .u8 5, .bool b, .int .i64 n, .int .u64 u, .string s, .slice ka ks.length kc, .slice a vs.length c]] w fun e w' => e = .returned (.bool (JV.plain (.mk 5 b n u s ks vs))) ∧ Below w.heap.size w w' := by
 have hbx := heap_alloc_new w (.cells #[.int .u8 5, .bool b, .int .i64 n, .int .u64 u, .string s, .slice ka ks.length kc, .slice a vs.length c] 27)
 have hbA : Below w.heap.size w (w.alloc (.cells #[.int .u8 5, .bool b, .int .i64 n, .int .u64 u, .string s, .slice ka ks.length kc, .slice a vs.length c] 27)) := (Below.refl _ _).alloc (Nat.le_refl _) _
 have hsA : (w.alloc (.cells #[.int .u8 5, .bool b, .int .i64 n, .int .u64 u, .string s, .slice ka ks.length kc, .slice a vs.length c] 27)).heap.size = w.heap.size + 1 := by simp
 obtain ⟨c0, c1, c2, c3, c4, c5, c6⟩ := cell_agg7 hbx
 have HBX := Lib.hid hbx
 have HBA := Lib.hid hbA
 clear hbx hbA
 go_enter Tryz.func56, Tryz.ntmps56
 go_upto_region 1 with fail
 generalize w.alloc (.cells #[.int .u8 5, .bool b, .int .i64 n, .int .u64 u, .string s, .slice ka ks.length kc, .slice a vs.length c] 27) = wA at *
 go_upto_region 2 with fail
 have hX := heap_alloc_new wA (.cells #[.bool b, .int .i64 n, .int .u64 u, .string s] 63)
 have hXb : Below w.heap.size w (wA.alloc (.cells #[.bool b, .int .i64 n, .int .u64 u, .string s] 63)) := HBA.out.alloc HBA.out.size _
 have hXo := (heapJ_old wA (.cells #[.bool b, .int .i64 n, .int .u64 u, .string s] 63) w.heap.size (by omega)).trans HBX.out
 generalize wA.alloc (.cells #[.bool b, .int .i64 n, .int .u64 u, .string s] 63) = W1 at *
 clear c0 c1 c2 c3 c4 c5 c6
 obtain ⟨c0, c1, c2, c3, c4, c5, c6⟩ := cell_agg7 hXo
 rw [hsA] at hX
 obtain ⟨e0, e1, e2, e3⟩ := cell_agg4 hX
 have q : ∀ j, W1.frozen? ⟨w.heap.size + 1, j, none⟩ = false := fun j => froz_agg hX j
 have HXB := Lib.hid hXb
 clear hX hXb hXo
 obtain ⟨E, hE⟩ : ∃ E, E = decide (b = false ∧ n = 0 ∧ u = 0) := ⟨_, rfl⟩
 have hre : ∀ W, (binOp .eql 63 (.agg #[.bool b, .int .i64 n, .int .u64 u, .string ⟨#[]⟩]) (.agg #[.bool false, .int .i64 0, .int .u64 0, .string ⟨#[]⟩])).run Tryz.prog W = .ok (.bool E) W := fun W => by rw [rest_eql, hE] <;> simp
 have heg : Tryz.prog.eqGuardType Tryz.prog.depth 63 = false := by kernel_rfl
 have HP := Lib.hid (plainv_5 b n u s ks vs)
 rw [← hE] at HP
 clear hE
 cases E with
 | false =>
  go_wp2_with fail
  go_quiet (fail)
  go_wp2_with fail
  go_ret
  exact ⟨rbool (by rw [HP.out]; rfl), (bDrewN HXB.out _).setCell (p := ⟨w.heap.size + 1, 3, none⟩) (Nat.le_succ _) _⟩
 | true =>
  rcases Nat.eq_zero_or_pos vs.length with hv | hv
  ·have hv1 : ((vs.length : Int) == 0) = true := by rw [beq_iff_eq]; omega
   have hv2 : (vs.length : Int) = 0 := by omega
   have HV := Lib.hid hv
   clear hv
   rcases Nat.eq_zero_or_pos ks.length with hq | hq
   ·have hq1 : ((ks.length : Int) == 0) = true := by rw [beq_iff_eq]; omega
    have hq2 : (ks.length : Int) = 0 := by omega
    have HQ := Lib.hid hq
    clear hq
    go_wp2_with fail
    go_quiet (fail)
    go_wp2_with fail
    go_ret
    exact ⟨rbool (by rw [HP.out]; rw [decide_eq_true HV.out]; rw [decide_eq_true HQ.out]; rfl), (bDrewN HXB.out _).setCell (p := ⟨w.heap.size + 1, 3, none⟩) (Nat.le_succ _) _⟩
   ·have hq1 : ((ks.length : Int) == 0) = false := by rw [beq_eq_false_iff_ne]; omega
    have hq2 : ¬ (ks.length : Int) = 0 := by omega
    have HQ := Lib.hid hq
    clear hq
    go_wp2_with fail
    go_quiet (fail)
    go_wp2_with fail
    go_ret
    exact ⟨rbool (by rw [HP.out]; rw [decide_eq_true HV.out]; rw [decide_eq_false (show ¬ ks.length = 0 by have := HQ.out; omega)]; rfl), (bDrewN HXB.out _).setCell (p := ⟨w.heap.size + 1, 3, none⟩) (Nat.le_succ _) _⟩
  ·have hv1 : ((vs.length : Int) == 0) = false := by rw [beq_eq_false_iff_ne]; omega
   have hv2 : ¬ (vs.length : Int) = 0 := by omega
   have HV := Lib.hid hv
   clear hv
   go_wp2_with fail
   go_quiet (fail)
   go_wp2_with fail
   go_ret
   exact ⟨rbool (by rw [HP.out]; rw [decide_eq_false (show ¬ vs.length = 0 by have := HV.out; omega)]; rfl), (bDrewN HXB.out _).setCell (p := ⟨w.heap.size + 1, 3, none⟩) (Nat.le_succ _) _⟩
theorem plainv_6 (b : Bool) (n u : Int) (s : ByteArray) (ks : List ByteArray) (vs : List JV) : JV.plain (.mk 6 b n u s ks vs) = (decide (b = false ∧ n = 0 ∧ u = 0 ∧ s = ⟨#[]⟩) && decide (ks.length = 0)) := by
 rw [Bool.eq_iff_iff]
 simp [JV.plain] <;> grind
theorem plain_6 (b : Bool) (n u : Int) (s : ByteArray) (ks : List ByteArray) (vs : List JV) (ka : Option Addr) (kc : Nat) (a : Option Addr) (c : Nat) (w : World) :
  Calls Tryz.prog 56 #[.agg #[.int .u8 6, .bool b, .int .i64 n, .int .u64 u, .string s, .slice ka ks.length kc, .slice a vs.length c]] w fun e w' => e = .returned (.bool (JV.plain (.mk 6 b n u s ks vs))) ∧ Below w.heap.size w w' := by
 have hbx := heap_alloc_new w (.cells #[.int .u8 6, .bool b, .int .i64 n, .int .u64 u, .string s, .slice ka ks.length kc, .slice a vs.length c] 27)
 have hbA : Below w.heap.size w (w.alloc (.cells #[.int .u8 6, .bool b, .int .i64 n, .int .u64 u, .string s, .slice ka ks.length kc, .slice a vs.length c] 27)) := (Below.refl _ _).alloc (Nat.le_refl _) _
 have hsA : (w.alloc (.cells #[.int .u8 6, .bool b, .int .i64 n, .int .u64 u, .string s, .slice ka ks.length kc, .slice a vs.length c] 27)).heap.size = w.heap.size + 1 := by simp
 obtain ⟨c0, c1, c2, c3, c4, c5, c6⟩ := cell_agg7 hbx
 have HBX := Lib.hid hbx
 have HBA := Lib.hid hbA
 clear hbx hbA
 go_enter Tryz.func56, Tryz.ntmps56
 go_upto_region 1 with fail
 generalize w.alloc (.cells #[.int .u8 6, .bool b, .int .i64 n, .int .u64 u, .string s, .slice ka ks.length kc, .slice a vs.length c] 27) = wA at *
 go_upto_region 2 with fail
 have hX := heap_alloc_new wA (.cells #[.bool b, .int .i64 n, .int .u64 u, .string s] 63)
 have hXb : Below w.heap.size w (wA.alloc (.cells #[.bool b, .int .i64 n, .int .u64 u, .string s] 63)) := HBA.out.alloc HBA.out.size _
 have hXo := (heapJ_old wA (.cells #[.bool b, .int .i64 n, .int .u64 u, .string s] 63) w.heap.size (by omega)).trans HBX.out
 generalize wA.alloc (.cells #[.bool b, .int .i64 n, .int .u64 u, .string s] 63) = W1 at *
 clear c0 c1 c2 c3 c4 c5 c6
 obtain ⟨c0, c1, c2, c3, c4, c5, c6⟩ := cell_agg7 hXo
 rw [hsA] at hX
 obtain ⟨e0, e1, e2, e3⟩ := cell_agg4 hX
 have q : ∀ j, W1.frozen? ⟨w.heap.size + 1, j, none⟩ = false := fun j => froz_agg hX j
 have HXB := Lib.hid hXb
 clear hX hXb hXo
 obtain ⟨E, hE⟩ : ∃ E, E = decide (b = false ∧ n = 0 ∧ u = 0 ∧ s = ⟨#[]⟩) := ⟨_, rfl⟩
 have hre : ∀ W, (binOp .eql 63 (.agg #[.bool b, .int .i64 n, .int .u64 u, .string s]) (.agg #[.bool false, .int .i64 0, .int .u64 0, .string ⟨#[]⟩])).run Tryz.prog W = .ok (.bool E) W := fun W => by rw [rest_eql, hE] <;> simp
 have heg : Tryz.prog.eqGuardType Tryz.prog.depth 63 = false := by kernel_rfl
 have HP := Lib.hid (plainv_6 b n u s ks vs)
 rw [← hE] at HP
 clear hE
 cases E with
 | false =>
  go_wp2_with fail
  go_quiet (fail)
  go_wp2_with fail
  go_ret
  exact ⟨rbool (by rw [HP.out]; rfl), bDrewN HXB.out _⟩
 | true =>
  rcases Nat.eq_zero_or_pos ks.length with hq | hq
  ·have hq1 : ((ks.length : Int) == 0) = true := by rw [beq_iff_eq]; omega
   have hq2 : (ks.length : Int) = 0 := by omega
   have HQ := Lib.hid hq
   clear hq
   go_wp2_with fail
   go_quiet (fail)
   go_wp2_with fail
   go_ret
   exact ⟨rbool (by rw [HP.out]; rw [decide_eq_true HQ.out]; rfl), bDrewN HXB.out _⟩
  ·have hq1 : ((ks.length : Int) == 0) = false := by rw [beq_eq_false_iff_ne]; omega
   have hq2 : ¬ (ks.length : Int) = 0 := by omega
   have HQ := Lib.hid hq
   clear hq
   go_wp2_with fail
   go_quiet (fail)
   go_wp2_with fail
   go_ret
   exact ⟨rbool (by rw [HP.out]; rw [decide_eq_false (show ¬ ks.length = 0 by have := HQ.out; omega)]; rfl), bDrewN HXB.out _⟩
theorem plainv_7 (b : Bool) (n u : Int) (s : ByteArray) (ks : List ByteArray) (vs : List JV) : JV.plain (.mk 7 b n u s ks vs) = (decide (b = false ∧ n = 0 ∧ u = 0 ∧ s = ⟨#[]⟩) && decide (vs.length = ks.length) && decide ks.Nodup) := by
 rw [Bool.eq_iff_iff]
 simp [JV.plain] <;> grind
theorem plain_7 (b : Bool) (n u : Int) (s : ByteArray) (ks : List ByteArray) (vs : List JV) (ka : Option Addr) (kc : Nat) (a : Option Addr) (c : Nat) (w : World) (ok : Nat → Prop) (hks : StrsAt ok w ka ks) (hkn : ks.length ≤ 35184372080000) (hs : ∀ k ∈ ks, k.size ≤ maxLen) :
  Calls Tryz.prog 56 #[.agg #[.int .u8 7, .bool b, .int .i64 n, .int .u64 u, .string s, .slice ka ks.length kc, .slice a vs.length c]] w fun e w' => e = .returned (.bool (JV.plain (.mk 7 b n u s ks vs))) ∧ Below w.heap.size w w' := by
 have hbx := heap_alloc_new w (.cells #[.int .u8 7, .bool b, .int .i64 n, .int .u64 u, .string s, .slice ka ks.length kc, .slice a vs.length c] 27)
 have hbA : Below w.heap.size w (w.alloc (.cells #[.int .u8 7, .bool b, .int .i64 n, .int .u64 u, .string s, .slice ka ks.length kc, .slice a vs.length c] 27)) := (Below.refl _ _).alloc (Nat.le_refl _) _
 have hsA : (w.alloc (.cells #[.int .u8 7, .bool b, .int .i64 n, .int .u64 u, .string s, .slice ka ks.length kc, .slice a vs.length c] 27)).heap.size = w.heap.size + 1 := by simp
 obtain ⟨c0, c1, c2, c3, c4, c5, c6⟩ := cell_agg7 hbx
 have HBX := Lib.hid hbx
 have HBA := Lib.hid hbA
 clear hbx hbA
 have HKS := Lib.hid hks
 have HSS := Lib.hid hs
 clear hks hs
 go_enter Tryz.func56, Tryz.ntmps56
 go_upto_region 1 with fail
 generalize w.alloc (.cells #[.int .u8 7, .bool b, .int .i64 n, .int .u64 u, .string s, .slice ka ks.length kc, .slice a vs.length c] 27) = wA at *
 go_upto_region 2 with fail
 have hX := heap_alloc_new wA (.cells #[.bool b, .int .i64 n, .int .u64 u, .string s] 63)
 have hXb : Below w.heap.size w (wA.alloc (.cells #[.bool b, .int .i64 n, .int .u64 u, .string s] 63)) := HBA.out.alloc HBA.out.size _
 have hXo := (heapJ_old wA (.cells #[.bool b, .int .i64 n, .int .u64 u, .string s] 63) w.heap.size (by omega)).trans HBX.out
 generalize wA.alloc (.cells #[.bool b, .int .i64 n, .int .u64 u, .string s] 63) = W1 at *
 clear c0 c1 c2 c3 c4 c5 c6
 obtain ⟨c0, c1, c2, c3, c4, c5, c6⟩ := cell_agg7 hXo
 rw [hsA] at hX
 obtain ⟨e0, e1, e2, e3⟩ := cell_agg4 hX
 have q : ∀ j, W1.frozen? ⟨w.heap.size + 1, j, none⟩ = false := fun j => froz_agg hX j
 have HXB := Lib.hid hXb
 have HX := Lib.hid hX
 clear hX hXb hXo
 obtain ⟨E, hE⟩ : ∃ E, E = decide (b = false ∧ n = 0 ∧ u = 0 ∧ s = ⟨#[]⟩) := ⟨_, rfl⟩
 have hre : ∀ W, (binOp .eql 63 (.agg #[.bool b, .int .i64 n, .int .u64 u, .string s]) (.agg #[.bool false, .int .i64 0, .int .u64 0, .string ⟨#[]⟩])).run Tryz.prog W = .ok (.bool E) W := fun W => by rw [rest_eql, hE] <;> simp
 have heg : Tryz.prog.eqGuardType Tryz.prog.depth 63 = false := by kernel_rfl
 have HP := Lib.hid (plainv_7 b n u s ks vs)
 rw [← hE] at HP
 clear hE
 have hlt1 : w.heap.size + 1 < W1.heap.size := (Array.getElem?_eq_some_iff.1 HX.out).1
 have HTW := Lib.hid (fun nq => twice_any (fun _ => True) ka kc ks (W1.drewN nq) (HKS.out.kept (fun i _ hi => ⟨HXB.out.block i hi, trivial⟩)) hkn HSS.out)
 rcases Nat.lt_or_ge vs.length ks.length with hv | hv
 ·have HV := Lib.hid (show ¬ vs.length = ks.length by omega)
  have hv1 : ((vs.length : Int) == (ks.length : Int)) = false := by rw [beq_eq_false_iff_ne]; omega
  have hv2 : ((vs.length : Int) != (ks.length : Int)) = true := by rw [bne, hv1]; rfl
  have hv3 : ¬ (vs.length : Int) = (ks.length : Int) := by omega
  clear hv
  go_wp2_with fail
  go_quiet (fail)
  go_wp2_with fail
  go_ret
  exact ⟨rbool (by rw [HP.out, decide_eq_false HV.out, Bool.and_false, Bool.false_and]), bDrewN HXB.out _⟩
 ·rcases Nat.lt_or_ge ks.length vs.length with hq | hq
  ·have HV := Lib.hid (show ¬ vs.length = ks.length by omega)
   have hv1 : ((vs.length : Int) == (ks.length : Int)) = false := by rw [beq_eq_false_iff_ne]; omega
   have hv2 : ((vs.length : Int) != (ks.length : Int)) = true := by rw [bne, hv1]; rfl
   have hv3 : ¬ (vs.length : Int) = (ks.length : Int) := by omega
   clear hv hq
   go_wp2_with fail
   go_quiet (fail)
   go_wp2_with fail
   go_ret
   exact ⟨rbool (by rw [HP.out, decide_eq_false HV.out, Bool.and_false, Bool.false_and]), bDrewN HXB.out _⟩
  ·have HV := Lib.hid (show vs.length = ks.length by omega)
   have hv1 : ((vs.length : Int) == (ks.length : Int)) = true := by rw [beq_iff_eq]; omega
   have hv2 : ((vs.length : Int) != (ks.length : Int)) = false := by rw [bne, hv1]; rfl
   have hv3 : (vs.length : Int) = (ks.length : Int) := by omega
   clear hv hq
   go_wp2_with fail
   go_quiet (fail)
   go_wp2_with fail
   refine (HTW.out _).mono ?_
   rintro e w2 ⟨rfl, hb2⟩
   have hx2 := (hb2.block (w.heap.size + 1) hlt1).trans HX.out
   clear e0 e1 e2 e3 c0 c1 c2 c3 c4 c5 c6 q
   obtain ⟨e0, e1, e2, e3⟩ := cell_agg4 hx2
   have HB2 := Lib.hid ((bDrewN HXB.out _).trans (hb2.mono (Nat.le_trans (Nat.le_succ _) (Nat.le_of_lt hlt1))))
   clear hb2 hx2
   by_cases hnd : ks.Nodup
   ·have HND := Lib.hid hnd
    have hd1 : decide (¬ ks.Nodup) = false := decide_eq_false (fun h => h hnd)
    simp only [hd1]
    clear hd1 hnd
    cases E with
    | false =>
     go_wp2_with fail
     go_ret
     exact ⟨rbool (by rw [HP.out]; rfl), HB2.out⟩
    | true =>
     go_wp2_with fail
     go_ret
     exact ⟨rbool (by rw [HP.out, decide_eq_true HV.out, decide_eq_true HND.out]; rfl), HB2.out⟩
   ·have HND := Lib.hid hnd
    have hd1 : decide (¬ ks.Nodup) = true := decide_eq_true hnd
    simp only [hd1]
    clear hd1 hnd
    go_wp2_with fail
    go_ret
    exact ⟨rbool (by rw [HP.out, decide_eq_false HND.out, Bool.and_false]), HB2.out⟩
theorem plain_any (ok : Nat → Prop) (v : JV) (V : Value) (w : World) (h : JAt ok w v V) (h0 : 0 ≤ v.kind ∧ v.kind < 256) (hs : ∀ k ∈ v.keys, k.size ≤ maxLen) :
  Calls Tryz.prog 56 #[V] w fun e w' => e = .returned (.bool v.plain) ∧ Below w.heap.size w w' := by
 obtain ⟨k, b, n, u, s, ks, vs⟩ := v
 simp only [JV.kind, JV.keys] at h0 hs
 rw [JAt] at h
 obtain ⟨ka, kc, a, c, rfl, hks, -, hkn, -⟩ := h
 by_cases k1 : k = 1
 ·subst k1; exact plain_1 b n u s ks vs ka kc a c w
 by_cases k2 : k = 2
 ·subst k2; exact plain_2 b n u s ks vs ka kc a c w
 by_cases k3 : k = 3
 ·subst k3; exact plain_3 b n u s ks vs ka kc a c w
 by_cases k4 : k = 4
 ·subst k4; exact plain_4 b n u s ks vs ka kc a c w
 by_cases k5 : k = 5
 ·subst k5; exact plain_5 b n u s ks vs ka kc a c w
 by_cases k6 : k = 6
 ·subst k6; exact plain_6 b n u s ks vs ka kc a c w
 by_cases k7 : k = 7
 ·subst k7; exact plain_7 b n u s ks vs ka kc a c w ok hks hkn hs
 exact plain_no b n u s ks vs ka kc a c w k h0.1 h0.2 ⟨k1, k2, k3, k4, k5, k6, k7⟩
end Go.Proofs.YtckaoeloofbklaaGreatDoor
namespace Go.Proofs.YtckaoeloofbklaaGreatDoor
def asIsN (r : Nat) : Bool := decide (32 ≤ r ∧ r ≠ 127 ∧ r ≠ 34 ∧ r ≠ 92 ∧ r ≠ 60 ∧ r ≠ 62 ∧ r ≠ 38 ∧ r ≠ 39 ∧ r ≠ 8232 ∧ r ≠ 8233)
def hexD (n : Nat) : UInt8 := if n < 10 then UInt8.ofNat (48 + n) else UInt8.ofNat (87 + n)
def hex4L (r : Nat) : List UInt8 := [hexD (r / 4096 % 16), hexD (r / 256 % 16), hexD (r / 16 % 16), hexD (r % 16)]
def quoR (r : Nat) : List UInt8 := if asIsN r = true then enc r else 92 :: 117 :: hex4L r
def quoI (l : List UInt8) : List UInt8 := (pts l).flatMap quoR
def quoL (l : List UInt8) : List UInt8 := 34 :: quoI l ++ [34]
end Go.Proofs.YtckaoeloofbklaaGreatDoor
namespace Go.Proofs.YtckaoeloofbklaaGreatDoor
open Go Go.RowKit Go.Lib
theorem asIs_any (r : Nat) (w : World) : Calls Tryz.prog 35 #[.int .i32 (r : Int)] w fun e w' => e = .returned (.bool (asIsN r)) ∧ w' = w := by
 by_cases h0 : r = 127
 ·subst h0
  have hv : asIsN 127 = false := by decide
  rw [hv]
  go_enter Tryz.func35, Tryz.ntmps35
  go_wp2_with fail
  go_ret
  exact ⟨rfl, rfl⟩
 by_cases h1 : r = 34
 ·subst h1
  have hv : asIsN 34 = false := by decide
  rw [hv]
  go_enter Tryz.func35, Tryz.ntmps35
  go_wp2_with fail
  go_ret
  exact ⟨rfl, rfl⟩
 by_cases h2 : r = 92
 ·subst h2
  have hv : asIsN 92 = false := by decide
  rw [hv]
  go_enter Tryz.func35, Tryz.ntmps35
  go_wp2_with fail
  go_ret
  exact ⟨rfl, rfl⟩
 by_cases h3 : r = 60
 ·subst h3
  have hv : asIsN 60 = false := by decide
  rw [hv]
  go_enter Tryz.func35, Tryz.ntmps35
  go_wp2_with fail
  go_ret
  exact ⟨rfl, rfl⟩
 by_cases h4 : r = 62
 ·subst h4
  have hv : asIsN 62 = false := by decide
  rw [hv]
  go_enter Tryz.func35, Tryz.ntmps35
  go_wp2_with fail
  go_ret
  exact ⟨rfl, rfl⟩
 by_cases h5 : r = 38
 ·subst h5
  have hv : asIsN 38 = false := by decide
  rw [hv]
  go_enter Tryz.func35, Tryz.ntmps35
  go_wp2_with fail
  go_ret
  exact ⟨rfl, rfl⟩
 by_cases h6 : r = 39
 ·subst h6
  have hv : asIsN 39 = false := by decide
  rw [hv]
  go_enter Tryz.func35, Tryz.ntmps35
  go_wp2_with fail
  go_ret
  exact ⟨rfl, rfl⟩
 by_cases h7 : r = 8232
 ·subst h7
  have hv : asIsN 8232 = false := by decide
  rw [hv]
  go_enter Tryz.func35, Tryz.ntmps35
  go_wp2_with fail
  go_ret
  exact ⟨rfl, rfl⟩
 by_cases h8 : r = 8233
 ·subst h8
  have hv : asIsN 8233 = false := by decide
  rw [hv]
  go_enter Tryz.func35, Tryz.ntmps35
  go_wp2_with fail
  go_ret
  exact ⟨rfl, rfl⟩
 have e0 : ((r : Int) == 127) = false := by rw [beq_eq_false_iff_ne]; omega
 have e1 : ((r : Int) == 34) = false := by rw [beq_eq_false_iff_ne]; omega
 have e2 : ((r : Int) == 92) = false := by rw [beq_eq_false_iff_ne]; omega
 have e3 : ((r : Int) == 60) = false := by rw [beq_eq_false_iff_ne]; omega
 have e4 : ((r : Int) == 62) = false := by rw [beq_eq_false_iff_ne]; omega
 have e5 : ((r : Int) == 38) = false := by rw [beq_eq_false_iff_ne]; omega
 have e6 : ((r : Int) == 39) = false := by rw [beq_eq_false_iff_ne]; omega
 have e7 : ((r : Int) == 8232) = false := by rw [beq_eq_false_iff_ne]; omega
 have e8 : ((r : Int) == 8233) = false := by rw [beq_eq_false_iff_ne]; omega
 by_cases h : 32 ≤ r
 ·have hv : asIsN r = true := by unfold asIsN; simp [*]
  rw [hv]
  have hge : (32 : Int) ≤ (r : Int) := by omega
  go_enter Tryz.func35, Tryz.ntmps35
  go_wp2_with fail
  go_ret
  exact ⟨by simp, rfl⟩
 ·have hv : asIsN r = false := by unfold asIsN; simp [h]
  rw [hv]
  have hge : ¬ (32 : Int) ≤ (r : Int) := by omega
  go_enter Tryz.func35, Tryz.ntmps35
  go_wp2_with fail
  go_ret
  exact ⟨by simp, rfl⟩
end Go.Proofs.YtckaoeloofbklaaGreatDoor
namespace Go.Proofs.YtckaoeloofbklaaGreatDoor
open Go Go.RowKit Go.Lib
attribute [local go_sem] Oper.semAt_some
def outQ (pre : List (Nat × Nat)) : List UInt8 := (pre.map fun x => min x.2 1114111).flatMap quoR
theorem outQ_snoc (pre : List (Nat × Nat)) (x : Nat × Nat) : outQ (pre ++ [x]) = outQ pre ++ quoR (min x.2 1114111) := by simp [outQ]
theorem outQ_all (l : List UInt8) : outQ (ptsO 0 l) = quoI l := by unfold outQ quoI; rw [min_pts]
theorem quoR_len (r : Nat) : (quoR r).length ≤ 6 := by
 unfold quoR
 split
 ·have := (enc_len r).2; omega
 ·simp [hex4L]
theorem quoRs_len : ∀ rs : List Nat, (rs.flatMap quoR).length ≤ 6 * rs.length
 | [] => by simp
 | r :: rs => by
  have := quoRs_len rs
  have := quoR_len r
  rw [List.flatMap_cons, List.length_append, List.length_cons]; omega
theorem outQ_len (pre : List (Nat × Nat)) : (outQ pre).length ≤ 6 * pre.length := by
 have := quoRs_len (pre.map fun x => min x.2 1114111)
 rw [List.length_map] at this
 exact this
theorem BW.trans {B b : Nat} {l m : List UInt8} {A C D : World} (h : BW B b l A C) (k : BW B b m C D) : BW B b m A D := ⟨k.bl, h.below.trans k.below, h.oth.trans k.oth⟩
theorem hexD_tab : ∀ n : Fin 16, ((⟨#[48, 49, 50, 51, 52, 53, 54, 55, 56, 57, 97, 98, 99, 100, 101, 102]⟩ : ByteArray) : ByteArray).data.toList[n.val]? = some (hexD n.val) := by decide +kernel
theorem hexD_at (n : Nat) (h : n < 16) (h' : n < ((⟨#[48, 49, 50, 51, 52, 53, 54, 55, 56, 57, 97, 98, 99, 100, 101, 102]⟩ : ByteArray) : ByteArray).size) : ((⟨#[48, 49, 50, 51, 52, 53, 54, 55, 56, 57, 97, 98, 99, 100, 101, 102]⟩ : ByteArray) : ByteArray)[n]'h' = hexD n := by
 have := hexD_tab ⟨n, h⟩
 have h2 : n < ((⟨#[48, 49, 50, 51, 52, 53, 54, 55, 56, 57, 97, 98, 99, 100, 101, 102]⟩ : ByteArray) : ByteArray).data.toList.length := h'
 rw [List.getElem?_eq_getElem h2] at this
 exact Option.some.inj this
theorem and15 (r : Nat) (h : r ≤ 8233) : bits .and .i32 (r : Int) 15 = ((r % 16 : Nat) : Int) := by
 have hx : r &&& 15 < 2 ^ 31 := Nat.and_lt_two_pow _ (by decide)
 have h1 : (BitVec.ofInt 32 (r : Int)).toNat = r := by
  rw [BitVec.ofInt_natCast, BitVec.toNat_ofNat]; exact Nat.mod_eq_of_lt (by omega)
 have h2 : (BitVec.ofInt 32 ((15 : Nat) : Int)).toNat = 15 := by decide
 show IntKind.i32.wrap ((BitVec.ofInt 32 (r : Int) &&& BitVec.ofInt 32 ((15 : Nat) : Int)).toNat : Int) = _
 rw [BitVec.toNat_and, h1, h2, IntKind.wrap_i32]
 have := Nat.and_two_pow_sub_one_eq_mod r 4
 rw [show (2 ^ 4 - 1 : Nat) = 15 from rfl, show (2 ^ 4 : Nat) = 16 from rfl] at this
 omega
theorem not_asIs (r : Nat) (h : asIsN r = false) : r ≤ 8233 := by
 unfold asIsN at h
 have := of_decide_eq_false h
 omega
theorem hex4_get (r : Nat) : (hex4L r).take 0 = [] ∧ (hex4L r).take 1 = [hexD (r / 4096 % 16)] ∧ (hex4L r).take 2 = [hexD (r / 4096 % 16), hexD (r / 256 % 16)] ∧ (hex4L r).take 3 = [hexD (r / 4096 % 16), hexD (r / 256 % 16), hexD (r / 16 % 16)] ∧ (hex4L r).take 4 = hex4L r := ⟨rfl, rfl, rfl, rfl, rfl⟩
theorem quote_any (b : ByteArray) (w : World) (h17 : 17 ≤ w.heap.size) (hT : Lib.Utf8Tabs 0 1 w) (hsm : b.size ≤ 17592186040000) :
  Calls Tryz.prog 17 #[.string b] w fun e w' => e = .returned (.string ⟨(quoL b.data.toList).toArray⟩) ∧ Below w.heap.size w w' := by
 refine (callsIn_wide (n := 4)).1 ?_
 refine callsIn_of_wp_marks Tryz.func17 rfl trivial ?_ rfl
 simp only [Tryz.ntmps17, List.size_toArray, List.length_cons, List.length_nil, Nat.reduceAdd, Nat.reduceSub, Array.replicate_succ, Array.replicate_zero, List.push_toArray, List.append_toArray, List.nil_append, List.cons_append]
 have hlen : b.data.toList.length = b.size := by simp
 have hpl := pts_len b.data.toList
 rw [← ptsO_len 0, hlen] at hpl
 have HQ := Lib.hid ((callsIn_wide (n := 3)).2 (bw_byte w.heap.size w.heap.size [] 34 _ (bl_new w.heap.size w (Nat.le_refl _)) (by decide) (by simp)))
 gi_wp2_with fail
 refine ⟨trivial, HQ.out.mono ?_⟩
 rintro e wq ⟨rfl, hwq⟩
 have hbq : Below w.heap.size w wq := ((Below.refl _ _).alloc (Nat.le_refl _) _).trans hwq.below
 have hsq : w.heap.size < wq.heap.size := by have := hwq.below.size; simp at this; omega
 have HBQ := Lib.hid hbq
 have HLQ := Lib.hid hwq.bl
 clear hbq hwq HQ
 gi_wp2_with fail
 refine ⟨trivial, (points_in 3 b _).mono ?_⟩
 rintro e w1 ⟨rfl, rfl⟩
 have hbox := heap_alloc_new wq (.cells #[.string b] 9)
 have hws : (wq.alloc (.cells #[.string b] 9)).heap.size = wq.heap.size + 1 := by simp
 have hbl := HLQ.out.below ((Below.refl _ _).alloc (Nat.le_refl _) (.cells #[.string b] 9))
 have hb0 := HBQ.out.alloc (by omega) (.cells #[.string b] 9)
 generalize wq.alloc (.cells #[.string b] 9) = wL at *
 obtain ⟨sq, hsqq⟩ : ∃ n, n = wq.heap.size := ⟨_, rfl⟩
 rw [← hsqq] at hbox hws hsq ⊢
 have hcL : wL.cell? ⟨sq, 0, Option.none⟩ = some (.string b) := by rw [cell_of_row wL _ 0 _ _ _ hbox]; rfl
 have HBOX := Lib.hid hbox
 have HBL := Lib.hid hbl
 have HB0 := Lib.hid hb0
 have hTL := utabs_kept hT (hb0.mono h17)
 clear hbox hbl hb0 HLQ HBQ hsqq
 gi_wp2_with fail
 refine wpIn_rangeFunc_ownF (α := Nat × Nat) rfl (by omega) (gf := 40) (lb := #[.pointer (some ⟨sq, 0, Option.none⟩)]) rfl trivial (enters_of Tryz.func40 (by kernel_rfl) rfl)
  (points_stops _ (by omega) sq b wL (by omega) hTL (by omega) (by omega) hcL) KpP.t (KpP.b (by omega) (by omega)) (Below.refl _ _) (fun _ => rfl)
  (fun pre W => BL w.heap.size w.heap.size (34 :: outQ pre) W ∧ Below w.heap.size w W ∧ wL.heap.size ≤ W.heap.size ∧ W.heap[sq]? = some (.cells #[.string b] 9 (0, 0)))
  (fun _ _ _ => False)
  (fun s A B row hs hg hr => ⟨hs.1.kept hg (fun r e => (hr r e).2), hs.2.1.grown hg hs.2.1.size (fun k e => by have := (hr k e).1; omega), Nat.le_trans hs.2.2.1 hg.size, by
   rw [hg.block _ (Array.getElem?_eq_some_iff.1 hs.2.2.2).1 (fun e => by obtain ⟨_, o, ho, hcl⟩ := hr _ e.symm; rw [hs.2.2.2] at ho; cases ho; cases hcl)]; exact hs.2.2.2⟩)
  (fun c s A B row hs hg hr => hs)
  ⟨HBL.out, HB0.out, Nat.le_refl _, HBOX.out⟩
  (fun x => { tmps := #[.string b, undef, .string ⟨#[]⟩, .pointer (some ⟨w.heap.size, 0, none⟩), undef, .int .i32 ((min x.2 1114111 : Nat) : Int), undef, .nilIface, .string b, .func (.func 40) #[] #[.pointer (some ⟨sq, 0, Option.none⟩)], .int .i64 (x.1 : Int), .int .i32 ((min x.2 1114111 : Nat) : Int), undef, undef, undef, undef, undef, undef, undef, undef, undef, undef, undef, undef, undef, undef, undef, undef, undef], defers := [] })
  ?assign ?body ?done ?stop
 case assign =>
  rintro l' x W K hK
  dsimp only [encP]
  gi_wp2
  exact hK
 case body =>
  rintro l' pre x W ⟨hbl, hB, hsz, hbox⟩ hlt
  have HBX := Lib.hid hbox
  clear hbox
  have hl4 := outQ_len pre
  have hrl : min x.2 1114111 ≤ 1114111 := by omega
  have hsn := outQ_snoc pre x
  generalize min x.2 1114111 = r at *
  have hll : (34 :: outQ pre).length ≤ 6 * b.size + 1 := by rw [List.length_cons]; omega
  have HB0 := Lib.hid hbl
  have HBB := Lib.hid hB
  have HA := Lib.hid (asIs_any r W)
  clear hbl hB
  gi_wp2_with fail
  refine ⟨trivial, (CallsIn.inRound l' ((callsIn_wide (n := 1)).2 HA.out)).mono ?_⟩
  rintro e w2 ⟨⟨n, rfl⟩, hw⟩
  replace hw := hw.symm
  subst hw
  have hfin : ∀ w3, BW w.heap.size w.heap.size (34 :: outQ pre ++ quoR r) W w3 → KeepsOthers W w3 ∧ KpP sq W w3 ∧ BL w.heap.size w.heap.size (34 :: outQ (pre ++ [x])) w3 ∧ Below w.heap.size w w3 ∧ wL.heap.size ≤ w3.heap.size ∧ w3.heap[sq]? = some (.cells #[.string b] 9 (0, 0)) := by
   intro w3 h3
   have hbs : w3.heap[sq]? = W.heap[sq]? := by
    rw [HBX.out]
    exact h3.oth _ _ HBX.out (by simp; omega) (fun c fz h => by cases h)
   exact ⟨h3.keeps HB0.out, ⟨h3.below.mono h17, hbs⟩, by rw [hsn]; exact h3.bl, HBB.out.trans h3.below, Nat.le_trans hsz h3.below.size, by rw [hbs]; exact HBX.out⟩
  have HF := Lib.hid hfin
  clear hfin
  cases hq : asIsN r with
  | true =>
   have HW := Lib.hid (bw_rune w.heap.size w.heap.size (34 :: outQ pre) r W HB0.out (by omega) (by omega) HBB.out.size)
   have hqr : quoR r = enc r := by unfold quoR; rw [if_pos hq]
   rw [hqr] at HF
   gi_wp2_with fail
   refine ⟨trivial, (CallsIn.inRound l' ((callsIn_wide (n := 1)).2 HW.out)).mono ?_⟩
   rintro e w3 ⟨⟨n, rfl⟩, hw3⟩
   have HW3 := Lib.hid (HF.out w3 hw3)
   clear hw3
   gi_wp2_with fail
   exact HW3.out
  | false =>
   have hqr : quoR r = [92, 117] ++ hex4L r := by unfold quoR; rw [if_neg (by rw [hq]; decide)]; rfl
   rw [hqr] at HF
   have HW := Lib.hid (bw_string w.heap.size w.heap.size (34 :: outQ pre) (⟨#[92, 117]⟩ : ByteArray) W HB0.out (by show _ + 2 ≤ _; omega) HBB.out.size)
   gi_wp2_with fail
   refine ⟨trivial, (CallsIn.inRound l' ((callsIn_wide (n := 1)).2 HW.out)).mono ?_⟩
   rintro e w3 ⟨⟨n, rfl⟩, hw3⟩
   have HW3 := Lib.hid hw3
   clear hw3
   gi_wp2_with fail
   gi_loopw [6] (fun up wr => ∃ k : Nat, k ≤ 4 ∧ up = .int .i64 (12 - 4 * (k : Int)) ∧ BW w.heap.size w.heap.size (34 :: outQ pre ++ [92, 117] ++ (hex4L r).take k) W wr)
    (fun up _ => (RowKit.intOf up + 4).toNat)
   case atStart => exact ⟨0, by omega, rfl, by have := HW3.out; simpa using this⟩
   case round =>
    obtain ⟨k, hk, rfl, hbw⟩ := hrel
    have HBW := Lib.hid hbw
    clear hbw
    have hr8 := not_asIs r hq
    have hcase : k = 0 ∨ k = 1 ∨ k = 2 ∨ k = 3 ∨ k = 4 := by omega
    rcases hcase with rfl | rfl | rfl | rfl | rfl
    ·have hba : bits .and .i32 ((r : Int) / 4096) 15 = ((r / 4096 % 16 : Nat) : Int) := and15 (r / 4096) (by omega)
     have hW : ∀ n, n = r / 4096 % 16 → _ := fun n hn => bw_byte w.heap.size w.heap.size _ (hexD n) wr HBW.out.bl (by rw [List.length_append, List.length_append, List.length_take]; have : (hex4L r).length = 4 := rfl; simp at hll ⊢; omega) (Nat.le_trans HBB.out.size HBW.out.below.size)
     obtain ⟨n, hn⟩ : ∃ n, n = r / 4096 % 16 := ⟨_, rfl⟩
     have HWB := Lib.hid (hW n hn)
     have hn16 : n < 16 := by omega
     rw [← hn] at hba
     have hlt : (n : Int) < 16 := by omega
     clear hW
     gi_wp2_with fail
     simp only [hexD_at (r / 4096 % 16) (by omega)]
     rw [← hn]
     refine ⟨trivial, (CallsIn.inRound l' ((callsIn_wide (n := 1)).2 HWB.out)).mono ?_⟩
     rintro e w4 ⟨⟨n, rfl⟩, hw4⟩
     have HW4 := Lib.hid hw4
     clear hw4
     gi_wp2_with fail
     go_roundw
     case measure => simp [RowKit.intOf]
     case rel => exact ⟨1, by omega, by simp, by have := HBW.out.trans HW4.out; rw [hn] at this; simpa [hex4L] using this⟩
    ·have hba : bits .and .i32 ((r : Int) / 256) 15 = ((r / 256 % 16 : Nat) : Int) := and15 (r / 256) (by omega)
     have hW : ∀ n, n = r / 256 % 16 → _ := fun n hn => bw_byte w.heap.size w.heap.size _ (hexD n) wr HBW.out.bl (by rw [List.length_append, List.length_append, List.length_take]; have : (hex4L r).length = 4 := rfl; simp at hll ⊢; omega) (Nat.le_trans HBB.out.size HBW.out.below.size)
     obtain ⟨n, hn⟩ : ∃ n, n = r / 256 % 16 := ⟨_, rfl⟩
     have HWB := Lib.hid (hW n hn)
     have hn16 : n < 16 := by omega
     rw [← hn] at hba
     have hlt : (n : Int) < 16 := by omega
     clear hW
     gi_wp2_with fail
     simp only [hexD_at (r / 256 % 16) (by omega)]
     rw [← hn]
     refine ⟨trivial, (CallsIn.inRound l' ((callsIn_wide (n := 1)).2 HWB.out)).mono ?_⟩
     rintro e w4 ⟨⟨n, rfl⟩, hw4⟩
     have HW4 := Lib.hid hw4
     clear hw4
     gi_wp2_with fail
     go_roundw
     case measure => simp [RowKit.intOf]
     case rel => exact ⟨2, by omega, by simp, by have := HBW.out.trans HW4.out; rw [hn] at this; simpa [hex4L] using this⟩
    ·have hba : bits .and .i32 ((r : Int) / 16) 15 = ((r / 16 % 16 : Nat) : Int) := and15 (r / 16) (by omega)
     have hW : ∀ n, n = r / 16 % 16 → _ := fun n hn => bw_byte w.heap.size w.heap.size _ (hexD n) wr HBW.out.bl (by rw [List.length_append, List.length_append, List.length_take]; have : (hex4L r).length = 4 := rfl; simp at hll ⊢; omega) (Nat.le_trans HBB.out.size HBW.out.below.size)
     obtain ⟨n, hn⟩ : ∃ n, n = r / 16 % 16 := ⟨_, rfl⟩
     have HWB := Lib.hid (hW n hn)
     have hn16 : n < 16 := by omega
     rw [← hn] at hba
     have hlt : (n : Int) < 16 := by omega
     clear hW
     gi_wp2_with fail
     simp only [hexD_at (r / 16 % 16) (by omega)]
     rw [← hn]
     refine ⟨trivial, (CallsIn.inRound l' ((callsIn_wide (n := 1)).2 HWB.out)).mono ?_⟩
     rintro e w4 ⟨⟨n, rfl⟩, hw4⟩
     have HW4 := Lib.hid hw4
     clear hw4
     gi_wp2_with fail
     go_roundw
     case measure => simp [RowKit.intOf]
     case rel => exact ⟨3, by omega, by simp, by have := HBW.out.trans HW4.out; rw [hn] at this; simpa [hex4L] using this⟩
    ·have hba : bits .and .i32 ((r : Int)) 15 = ((r % 16 : Nat) : Int) := and15 (r) (by omega)
     have hW : ∀ n, n = r % 16 → _ := fun n hn => bw_byte w.heap.size w.heap.size _ (hexD n) wr HBW.out.bl (by rw [List.length_append, List.length_append, List.length_take]; have : (hex4L r).length = 4 := rfl; simp at hll ⊢; omega) (Nat.le_trans HBB.out.size HBW.out.below.size)
     obtain ⟨n, hn⟩ : ∃ n, n = r % 16 := ⟨_, rfl⟩
     have HWB := Lib.hid (hW n hn)
     have hn16 : n < 16 := by omega
     rw [← hn] at hba
     have hlt : (n : Int) < 16 := by omega
     clear hW
     gi_wp2_with fail
     simp only [hexD_at (r % 16) (by omega)]
     rw [← hn]
     refine ⟨trivial, (CallsIn.inRound l' ((callsIn_wide (n := 1)).2 HWB.out)).mono ?_⟩
     rintro e w4 ⟨⟨n, rfl⟩, hw4⟩
     have HW4 := Lib.hid hw4
     clear hw4
     gi_wp2_with fail
     go_roundw
     case measure => simp [RowKit.intOf]
     case rel => exact ⟨4, by omega, by simp, by have := HBW.out.trans HW4.out; rw [hn] at this; simpa [hex4L] using this⟩
    ·gi_wp2_with fail
     exact HF.out wr (by have := HBW.out; rw [(hex4_get r).2.2.2.2, List.append_assoc] at this; exact this)
 case done =>
  rintro D ys W hD rfl ⟨hbl, hB, hsz, -⟩ hK
  rw [outQ_all] at hbl
  have hql := outQ_len (ptsO 0 b.data.toList)
  rw [outQ_all] at hql
  have HQ2 := Lib.hid ((callsIn_wide (n := 3)).2 (bw_byte w.heap.size w.heap.size _ 34 W hbl (by rw [List.length_cons]; omega) hB.size))
  have HK := Lib.hid hK
  have HBB := Lib.hid hB
  clear hK hB hbl
  gi_wp2_with fail
  refine ⟨trivial, HQ2.out.mono ?_⟩
  rintro e w1 ⟨rfl, hw1⟩
  have HS := Lib.hid ((callsIn_wide (n := 3)).2 (Tryz.Builder_String_any_k w.heap.size w.heap.size _ w1 hw1.bl (by have := hw1.below.size; have := HBB.out.size; omega)))
  have hD1 := hw1.oth D _ HK.out (by simp; omega) (fun c fz h => by cases h)
  have HB1 := Lib.hid (HBB.out.trans hw1.below)
  have HD1 := Lib.hid hD1
  clear hw1 hD1
  gi_wp2_with fail
  refine ⟨trivial, HS.out.mono ?_⟩
  rintro e w2 ⟨rfl, hbl2, hb2, hk2⟩
  have HB2 := Lib.hid hb2
  have HK2 := Lib.hid hk2
  clear hb2 hbl2 hk2
  gi_wp2_with fail
  have hD2 : w2.heap[D]? = some (.deferred (some [])) := HK2.out D _ HD1.out (by simp; omega) (fun c fz h => by cases h)
  refine ⟨by simp, .inl ⟨_, _, rfl, run_takeDeferred hD2, ?_⟩⟩
  refine ⟨.string ⟨(quoL b.data.toList).toArray⟩, ?_, rfl, (HB1.out.trans HB2.out).trans (belowK_b (w := w) (Nat.le_refl _) _ D _ _ (by omega) hD2 rfl rfl)⟩
  simp [results, Tryz.f17, go_sem, quoL]
 case stop =>
  rintro D c pre W hD _ h
  exact h.elim
end Go.Proofs.YtckaoeloofbklaaGreatDoor
namespace Go.Proofs.YtckaoeloofbklaaGreatDoor
open Go Go.RowKit
def hiN (i : Nat) : Nat := (Go.Pinned.pow10Rows.getD i (0, 0)).1
def loN (i : Nat) : Nat := (Go.Pinned.pow10Rows.getD i (0, 0)).2
def rowsOK : Int → List (Nat × Nat) → Bool
 | _, [] => true
 | p, c :: l => decide (c.1 < 18446744073709551616) && decide (c.2 < 18446744073709551616) && decide (pmN p + c.2 = c.1 * 18446744073709551616) && rowsOK (p + 1) l
theorem rowsOK_get : ∀ (l : List (Nat × Nat)) (p : Int), rowsOK p l = true → ∀ k : Nat, k < l.length → (l.getD k (0, 0)).1 < 18446744073709551616 ∧ (l.getD k (0, 0)).2 < 18446744073709551616 ∧ pmN (p + k) + (l.getD k (0, 0)).2 = (l.getD k (0, 0)).1 * 18446744073709551616
 | [], _, _, _, h => by simp at h
 | c :: l, p, h, 0, _ => by
  simp only [rowsOK, Bool.and_eq_true, decide_eq_true_eq] at h
  simpa using ⟨h.1.1.1, h.1.1.2, h.1.2⟩
 | c :: l, p, h, k + 1, hk => by
  simp only [rowsOK, Bool.and_eq_true, decide_eq_true_eq] at h
  have := rowsOK_get l (p + 1) h.2 k (by simpa using hk)
  rw [show p + ((k + 1 : Nat) : Int) = p + 1 + (k : Int) from by push_cast; omega]
  simpa using this
theorem rows_ok : rowsOK (-348) Go.Pinned.pow10Rows = true := by decide +kernel
theorem rows_len : Go.Pinned.pow10Rows.length = 696 := by decide +kernel
theorem row_is (p : Int) (h1 : -348 ≤ p) (h2 : p ≤ 347) : hiN (p + 348).toNat < 18446744073709551616 ∧ loN (p + 348).toNat < 18446744073709551616 ∧ pmN p + loN (p + 348).toNat = hiN (p + 348).toNat * 18446744073709551616 := by
 have := rowsOK_get _ _ rows_ok (p + 348).toNat (by rw [rows_len]; omega)
 rwa [show -348 + ((p + 348).toNat : Int) = p from by omega] at this
structure Glob (w : World) : Prop where
 lt : 17 ≤ w.heap.size
 pow : ∀ i, i < 696 → w.cell? ⟨12, i * 2, Option.none⟩ = some (.int .u64 (hiN i)) ∧ w.cell? ⟨12, i * 2 + 1, Option.none⟩ = some (.int .u64 (loN i))
 u10 : Lib.TabIs Tryz.prog w "internal/strconv.uint64pow10" .u64 Lib.pow10Tab
 opt : w.cell? ⟨8, 0, Option.none⟩ = some (.bool true)
theorem u10_num : Tryz.prog.globalNamed "internal/strconv.uint64pow10" = some 2 := by kernel_rfl
theorem Glob.below {w w' : World} {B : Nat} (h : Glob w) (hB : 17 ≤ B) (hb : Below B w w') : Glob w' := by
 refine ⟨Nat.le_trans h.lt hb.size, fun i hi => ?_, ?_, ?_⟩
 ·obtain ⟨a, b⟩ := h.pow i hi
  exact ⟨(hb.cell (p := ⟨12, i * 2, Option.none⟩) (Nat.lt_of_lt_of_le (show 12 < 17 by decide) hB)).trans a, (hb.cell (p := ⟨12, i * 2 + 1, Option.none⟩) (Nat.lt_of_lt_of_le (show 12 < 17 by decide) hB)).trans b⟩
 ·have hu := h.u10
  unfold Lib.TabIs World.var? at *
  rw [u10_num] at *
  simp only [Option.bind_some] at *
  rw [hb.block _ (Nat.lt_of_lt_of_le (by decide) hB)]; exact hu
 ·exact (hb.cell (p := ⟨8, 0, Option.none⟩) (Nat.lt_of_lt_of_le (by decide) hB)).trans h.opt
theorem Glob.alloc {w : World} (h : Glob w) (o : Obj) : Glob (w.alloc o) := h.below (B := 17) (Nat.le_refl _) ((Below.refl _ _).alloc h.lt o)
theorem Glob.drewN {w : World} (h : Glob w) (n : Nat) : Glob (w.drewN n) := h.below h.lt (bDrewN (Below.refl _ _) n)
def preCells (hi lo : Nat) (s : Int) : Array Value := #[.int .u64 hi, .int .u64 lo, .int .i64 s]
theorem setCell_heap {w : World} {g j : Nat} {cur : Array Value} {t : TypeId} {fr : Nat × Nat} (h : w.heap[g]? = some (.cells cur t fr)) (u : Value) : (w.setCell ⟨g, j, Option.none⟩ u).heap[g]? = some (.cells (cur.setIfInBounds j u) t fr) := by
 simp only [World.setCell, Array.getElem?_modify, if_true, h, Option.map_some]
 rfl
theorem prescale_at (b i : Nat) (e lp : Int) (T : TypeId) (x0 x1 x2 : Value) (w : World) (hg : Glob w) (hb : w.heap[b]? = some (.cells #[x0, x1, x2] T (0, 0))) (hb17 : 17 ≤ b) (hi : i < 696) (he1 : -5000 ≤ e) (he2 : e ≤ 5000) (hl1 : -5000 ≤ lp) (hl2 : lp ≤ 5000) :
  Calls Tryz.prog 231 #[.pointer (some ⟨b, 0, Option.none⟩), .int .i64 e, .int .i64 ((i : Int) - 348), .int .i64 lp] w fun e' w' => e' = .returned (.tuple #[]) ∧
   w'.heap[b]? = some (.cells (preCells (hiN i) (loN i) (-(e + lp + 3))) T (0, 0)) ∧ Below b w w' ∧ w'.heap.size = w.heap.size := by
 obtain ⟨c0, c1⟩ := hg.pow i hi
 have hblt : b < w.heap.size := (Array.getElem?_eq_some_iff.1 hb).1
 have f0 : ∀ o, w.frozen? ⟨b, o, Option.none⟩ = false := fun o => by simp [World.frozen?, hb]
 have d0 : w.cell? ⟨b, 0, Option.none⟩ = some x0 := by rw [cell_of_row w b 0 _ _ _ hb]; rfl
 have d1 : w.cell? ⟨b, 1, Option.none⟩ = some x1 := by rw [cell_of_row w b 1 _ _ _ hb]; rfl
 have d2 : w.cell? ⟨b, 2, Option.none⟩ = some x2 := by rw [cell_of_row w b 2 _ _ _ hb]; rfl
 have hne : (b = 12) = False := by simp; omega
 have HB := Lib.hid hb
 clear hb hg
 go_enter Tryz.func231, Tryz.ntmps231
 go_wp2
 go_end0
 refine ⟨rfl, ?_, (((Below.refl _ _).setCell (p := ⟨b, 0, Option.none⟩) (Nat.le_refl _) _).setCell (p := ⟨b, 1, Option.none⟩) (Nat.le_refl _) _).setCell (p := ⟨b, 2, Option.none⟩) (Nat.le_refl _) _, by simp [World.setCell]⟩
 exact setCell_heap (setCell_heap (setCell_heap HB.out _) _) _
end Go.Proofs.YtckaoeloofbklaaGreatDoor
