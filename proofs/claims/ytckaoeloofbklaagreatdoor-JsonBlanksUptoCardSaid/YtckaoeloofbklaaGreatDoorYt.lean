/- Joined texts: Kh Ki Hf Hg. Each begins with its own remark. -/
import Derived.Test.YtckaoeloofbklaaGreatDoorYs
import Derived.Test.YtckaoeloofbklaaGreatDoorYl
import Derived.BigQuiet
import Derived.Test.YtckaoeloofbklaaGreatDoorYm
namespace Go.Proofs.YtckaoeloofbklaaGreatDoor
open Go Go.RowKit Go.Lib
theorem cell_agg4 {w : World} {b : Nat} {x0 x1 x2 x3 : Value} {T : TypeId} {f : Nat × Nat} (h : w.heap[b]? = some (.cells #[x0, x1, x2, x3] T f)) :
    w.cell? ⟨b, 0, none⟩ = some x0 ∧ w.cell? ⟨b, 1, none⟩ = some x1 ∧ w.cell? ⟨b, 2, none⟩ = some x2 ∧ w.cell? ⟨b, 3, none⟩ = some x3 := by
  refine ⟨?_, ?_, ?_, ?_⟩ <;> simp [World.cell?, h]
theorem rbool {a b : Bool} (h : a = b) : Ending.returned (.bool a) = Ending.returned (.bool b) := by rw [h]
set_option maxRecDepth 100000 in
set_option maxHeartbeats 4000000 in
theorem plain_no (b : Bool) (n u : Int) (s : ByteArray) (ks : List ByteArray) (vs : List JV) (ka : Option Addr) (kc : Nat) (a : Option Addr) (c : Nat) (w : World) (k : Int) (_hk0 : 0 ≤ k) (_hk9 : k < 256) (hk : k ≠ 1 ∧ k ≠ 2 ∧ k ≠ 3 ∧ k ≠ 4 ∧ k ≠ 5 ∧ k ≠ 6 ∧ k ≠ 7) :
    Calls Tryz.prog 56 #[.agg #[.int .u8 k, .bool b, .int .i64 n, .int .u64 u, .string s, .slice ka ks.length kc, .slice a vs.length c]] w fun e w' => e = .returned (.bool (JV.plain (.mk k b n u s ks vs))) ∧ Below w.heap.size w w' := by
  have hbx := heap_alloc_new w (.cells #[.int .u8 k, .bool b, .int .i64 n, .int .u64 u, .string s, .slice ka ks.length kc, .slice a vs.length c] 27)
  have hbA : Below w.heap.size w (w.alloc (.cells #[.int .u8 k, .bool b, .int .i64 n, .int .u64 u, .string s, .slice ka ks.length kc, .slice a vs.length c] 27)) := (Below.refl _ _).alloc (Nat.le_refl _) _
  have hsA : (w.alloc (.cells #[.int .u8 k, .bool b, .int .i64 n, .int .u64 u, .string s, .slice ka ks.length kc, .slice a vs.length c] 27)).heap.size = w.heap.size + 1 := by simp
  obtain ⟨c0, c1, c2, c3, c4, c5, c6⟩ := cell_agg7 hbx
  have HBX := Lib.hid hbx
  have HBA := Lib.hid hbA
  clear hbx hbA
  obtain ⟨hk1, hk2, hk3, hk4, hk5, hk6, hk7⟩ := hk
  go_enter Tryz.func56, Tryz.ntmps56
  go_upto_region 1 with fail
  generalize w.alloc (.cells #[.int .u8 k, .bool b, .int .i64 n, .int .u64 u, .string s, .slice ka ks.length kc, .slice a vs.length c] 27) = wA at *
  go_upto_region 2 with fail
  have hX := heap_alloc_new wA (.cells #[.bool b, .int .i64 n, .int .u64 u, .string s] 63)
  have hXb : Below w.heap.size w (wA.alloc (.cells #[.bool b, .int .i64 n, .int .u64 u, .string s] 63)) := HBA.out.alloc HBA.out.size _
  have hXo := (heapJ_old wA (.cells #[.bool b, .int .i64 n, .int .u64 u, .string s] 63) w.heap.size (by omega)).trans HBX.out
  generalize wA.alloc (.cells #[.bool b, .int .i64 n, .int .u64 u, .string s] 63) = W1 at *
  clear c0 c1 c2 c3 c4 c5 c6
  obtain ⟨c0, c1, c2, c3, c4, c5, c6⟩ := cell_agg7 hXo
  rw [hsA] at hX
  obtain ⟨e0, e1, e2, e3⟩ := cell_agg4 hX
  have q : ∀ j, W1.frozen? ⟨w.heap.size + 1, j, none⟩ = false := fun j => froz_agg hX j
  have HXB := Lib.hid hXb
  clear hX hXb hXo
  have HP := Lib.hid (show JV.plain (.mk k b n u s ks vs) = false by simp only [JV.plain]; rw [if_neg hk1, if_neg hk2, if_neg hk3, if_neg hk4, if_neg hk5, if_neg hk6, if_neg hk7])
  go_wp2_with fail
  go_quiet (fail)
  go_wp2_with fail
  go_ret
  exact ⟨rbool HP.out.symm, bDrewN HXB.out _⟩
theorem plainv_1 (b : Bool) (n u : Int) (s : ByteArray) (ks : List ByteArray) (vs : List JV) : JV.plain (.mk 1 b n u s ks vs) = (decide (b = false ∧ n = 0 ∧ u = 0 ∧ s = ⟨#[]⟩) && decide (vs.length = 0) && decide (ks.length = 0)) := by
  rw [Bool.eq_iff_iff]
  simp [JV.plain] <;> grind
set_option maxRecDepth 100000 in
set_option maxHeartbeats 4000000 in
theorem plain_1 (b : Bool) (n u : Int) (s : ByteArray) (ks : List ByteArray) (vs : List JV) (ka : Option Addr) (kc : Nat) (a : Option Addr) (c : Nat) (w : World) :
    Calls Tryz.prog 56 #[.agg #[.int .u8 1, .bool b, .int .i64 n, .int .u64 u, .string s, .slice ka ks.length kc, .slice a vs.length c]] w fun e w' => e = .returned (.bool (JV.plain (.mk 1 b n u s ks vs))) ∧ Below w.heap.size w w' := by
  have hbx := heap_alloc_new w (.cells #[.int .u8 1, .bool b, .int .i64 n, .int .u64 u, .string s, .slice ka ks.length kc, .slice a vs.length c] 27)
  have hbA : Below w.heap.size w (w.alloc (.cells #[.int .u8 1, .bool b, .int .i64 n, .int .u64 u, .string s, .slice ka ks.length kc, .slice a vs.length c] 27)) := (Below.refl _ _).alloc (Nat.le_refl _) _
  have hsA : (w.alloc (.cells #[.int .u8 1, .bool b, .int .i64 n, .int .u64 u, .string s, .slice ka ks.length kc, .slice a vs.length c] 27)).heap.size = w.heap.size + 1 := by simp
  obtain ⟨c0, c1, c2, c3, c4, c5, c6⟩ := cell_agg7 hbx
  have HBX := Lib.hid hbx
  have HBA := Lib.hid hbA
  clear hbx hbA
  go_enter Tryz.func56, Tryz.ntmps56
  go_upto_region 1 with fail
  generalize w.alloc (.cells #[.int .u8 1, .bool b, .int .i64 n, .int .u64 u, .string s, .slice ka ks.length kc, .slice a vs.length c] 27) = wA at *
  go_upto_region 2 with fail
  have hX := heap_alloc_new wA (.cells #[.bool b, .int .i64 n, .int .u64 u, .string s] 63)
  have hXb : Below w.heap.size w (wA.alloc (.cells #[.bool b, .int .i64 n, .int .u64 u, .string s] 63)) := HBA.out.alloc HBA.out.size _
  have hXo := (heapJ_old wA (.cells #[.bool b, .int .i64 n, .int .u64 u, .string s] 63) w.heap.size (by omega)).trans HBX.out
  generalize wA.alloc (.cells #[.bool b, .int .i64 n, .int .u64 u, .string s] 63) = W1 at *
  clear c0 c1 c2 c3 c4 c5 c6
  obtain ⟨c0, c1, c2, c3, c4, c5, c6⟩ := cell_agg7 hXo
  rw [hsA] at hX
  obtain ⟨e0, e1, e2, e3⟩ := cell_agg4 hX
  have q : ∀ j, W1.frozen? ⟨w.heap.size + 1, j, none⟩ = false := fun j => froz_agg hX j
  have HXB := Lib.hid hXb
  clear hX hXb hXo
  obtain ⟨E, hE⟩ : ∃ E, E = decide (b = false ∧ n = 0 ∧ u = 0 ∧ s = ⟨#[]⟩) := ⟨_, rfl⟩
  have hre : ∀ W, (binOp .eql 63 (.agg #[.bool b, .int .i64 n, .int .u64 u, .string s]) (.agg #[.bool false, .int .i64 0, .int .u64 0, .string ⟨#[]⟩])).run Tryz.prog W = .ok (.bool E) W := fun W => by rw [rest_eql, hE] <;> simp
  have heg : Tryz.prog.eqGuardType Tryz.prog.depth 63 = false := by kernel_rfl
  have HP := Lib.hid (plainv_1 b n u s ks vs)
  rw [← hE] at HP
  clear hE
  cases E with
  | false =>
    go_wp2_with fail
    go_quiet (fail)
    go_wp2_with fail
    go_ret
    exact ⟨rbool (by rw [HP.out]; rfl), bDrewN HXB.out _⟩
  | true =>
    rcases Nat.eq_zero_or_pos vs.length with hv | hv
    · have hv1 : ((vs.length : Int) == 0) = true := by rw [beq_iff_eq]; omega
      have hv2 : (vs.length : Int) = 0 := by omega
      have HV := Lib.hid hv
      clear hv
      rcases Nat.eq_zero_or_pos ks.length with hq | hq
      · have hq1 : ((ks.length : Int) == 0) = true := by rw [beq_iff_eq]; omega
        have hq2 : (ks.length : Int) = 0 := by omega
        have HQ := Lib.hid hq
        clear hq
        go_wp2_with fail
        go_quiet (fail)
        go_wp2_with fail
        go_ret
        exact ⟨rbool (by rw [HP.out]; rw [decide_eq_true HV.out]; rw [decide_eq_true HQ.out]; rfl), bDrewN HXB.out _⟩
      · have hq1 : ((ks.length : Int) == 0) = false := by rw [beq_eq_false_iff_ne]; omega
        have hq2 : ¬ (ks.length : Int) = 0 := by omega
        have HQ := Lib.hid hq
        clear hq
        go_wp2_with fail
        go_quiet (fail)
        go_wp2_with fail
        go_ret
        exact ⟨rbool (by rw [HP.out]; rw [decide_eq_true HV.out]; rw [decide_eq_false (show ¬ ks.length = 0 by have := HQ.out; omega)]; rfl), bDrewN HXB.out _⟩
    · have hv1 : ((vs.length : Int) == 0) = false := by rw [beq_eq_false_iff_ne]; omega
      have hv2 : ¬ (vs.length : Int) = 0 := by omega
      have HV := Lib.hid hv
      clear hv
      go_wp2_with fail
      go_quiet (fail)
      go_wp2_with fail
      go_ret
      exact ⟨rbool (by rw [HP.out]; rw [decide_eq_false (show ¬ vs.length = 0 by have := HV.out; omega)]; rfl), bDrewN HXB.out _⟩
theorem plainv_2 (b : Bool) (n u : Int) (s : ByteArray) (ks : List ByteArray) (vs : List JV) : JV.plain (.mk 2 b n u s ks vs) = (decide (n = 0 ∧ u = 0 ∧ s = ⟨#[]⟩) && decide (vs.length = 0) && decide (ks.length = 0)) := by
  rw [Bool.eq_iff_iff]
  simp [JV.plain] <;> grind
set_option maxRecDepth 100000 in
set_option maxHeartbeats 4000000 in
theorem plain_2 (b : Bool) (n u : Int) (s : ByteArray) (ks : List ByteArray) (vs : List JV) (ka : Option Addr) (kc : Nat) (a : Option Addr) (c : Nat) (w : World) :
    Calls Tryz.prog 56 #[.agg #[.int .u8 2, .bool b, .int .i64 n, .int .u64 u, .string s, .slice ka ks.length kc, .slice a vs.length c]] w fun e w' => e = .returned (.bool (JV.plain (.mk 2 b n u s ks vs))) ∧ Below w.heap.size w w' := by
  have hbx := heap_alloc_new w (.cells #[.int .u8 2, .bool b, .int .i64 n, .int .u64 u, .string s, .slice ka ks.length kc, .slice a vs.length c] 27)
  have hbA : Below w.heap.size w (w.alloc (.cells #[.int .u8 2, .bool b, .int .i64 n, .int .u64 u, .string s, .slice ka ks.length kc, .slice a vs.length c] 27)) := (Below.refl _ _).alloc (Nat.le_refl _) _
  have hsA : (w.alloc (.cells #[.int .u8 2, .bool b, .int .i64 n, .int .u64 u, .string s, .slice ka ks.length kc, .slice a vs.length c] 27)).heap.size = w.heap.size + 1 := by simp
  obtain ⟨c0, c1, c2, c3, c4, c5, c6⟩ := cell_agg7 hbx
  have HBX := Lib.hid hbx
  have HBA := Lib.hid hbA
  clear hbx hbA
  go_enter Tryz.func56, Tryz.ntmps56
  go_upto_region 1 with fail
  generalize w.alloc (.cells #[.int .u8 2, .bool b, .int .i64 n, .int .u64 u, .string s, .slice ka ks.length kc, .slice a vs.length c] 27) = wA at *
  go_upto_region 2 with fail
  have hX := heap_alloc_new wA (.cells #[.bool b, .int .i64 n, .int .u64 u, .string s] 63)
  have hXb : Below w.heap.size w (wA.alloc (.cells #[.bool b, .int .i64 n, .int .u64 u, .string s] 63)) := HBA.out.alloc HBA.out.size _
  have hXo := (heapJ_old wA (.cells #[.bool b, .int .i64 n, .int .u64 u, .string s] 63) w.heap.size (by omega)).trans HBX.out
  generalize wA.alloc (.cells #[.bool b, .int .i64 n, .int .u64 u, .string s] 63) = W1 at *
  clear c0 c1 c2 c3 c4 c5 c6
  obtain ⟨c0, c1, c2, c3, c4, c5, c6⟩ := cell_agg7 hXo
  rw [hsA] at hX
  obtain ⟨e0, e1, e2, e3⟩ := cell_agg4 hX
  have q : ∀ j, W1.frozen? ⟨w.heap.size + 1, j, none⟩ = false := fun j => froz_agg hX j
  have HXB := Lib.hid hXb
  clear hX hXb hXo
  obtain ⟨E, hE⟩ : ∃ E, E = decide (n = 0 ∧ u = 0 ∧ s = ⟨#[]⟩) := ⟨_, rfl⟩
  have hre : ∀ W, (binOp .eql 63 (.agg #[.bool false, .int .i64 n, .int .u64 u, .string s]) (.agg #[.bool false, .int .i64 0, .int .u64 0, .string ⟨#[]⟩])).run Tryz.prog W = .ok (.bool E) W := fun W => by rw [rest_eql, hE] <;> simp
  have heg : Tryz.prog.eqGuardType Tryz.prog.depth 63 = false := by kernel_rfl
  have HP := Lib.hid (plainv_2 b n u s ks vs)
  rw [← hE] at HP
  clear hE
  cases E with
  | false =>
    go_wp2_with fail
    go_quiet (fail)
    go_wp2_with fail
    go_ret
    exact ⟨rbool (by rw [HP.out]; rfl), (bDrewN HXB.out _).setCell (p := ⟨w.heap.size + 1, 0, none⟩) (Nat.le_succ _) _⟩
  | true =>
    rcases Nat.eq_zero_or_pos vs.length with hv | hv
    · have hv1 : ((vs.length : Int) == 0) = true := by rw [beq_iff_eq]; omega
      have hv2 : (vs.length : Int) = 0 := by omega
      have HV := Lib.hid hv
      clear hv
      rcases Nat.eq_zero_or_pos ks.length with hq | hq
      · have hq1 : ((ks.length : Int) == 0) = true := by rw [beq_iff_eq]; omega
        have hq2 : (ks.length : Int) = 0 := by omega
        have HQ := Lib.hid hq
        clear hq
        go_wp2_with fail
        go_quiet (fail)
        go_wp2_with fail
        go_ret
        exact ⟨rbool (by rw [HP.out]; rw [decide_eq_true HV.out]; rw [decide_eq_true HQ.out]; rfl), (bDrewN HXB.out _).setCell (p := ⟨w.heap.size + 1, 0, none⟩) (Nat.le_succ _) _⟩
      · have hq1 : ((ks.length : Int) == 0) = false := by rw [beq_eq_false_iff_ne]; omega
        have hq2 : ¬ (ks.length : Int) = 0 := by omega
        have HQ := Lib.hid hq
        clear hq
        go_wp2_with fail
        go_quiet (fail)
        go_wp2_with fail
        go_ret
        exact ⟨rbool (by rw [HP.out]; rw [decide_eq_true HV.out]; rw [decide_eq_false (show ¬ ks.length = 0 by have := HQ.out; omega)]; rfl), (bDrewN HXB.out _).setCell (p := ⟨w.heap.size + 1, 0, none⟩) (Nat.le_succ _) _⟩
    · have hv1 : ((vs.length : Int) == 0) = false := by rw [beq_eq_false_iff_ne]; omega
      have hv2 : ¬ (vs.length : Int) = 0 := by omega
      have HV := Lib.hid hv
      clear hv
      go_wp2_with fail
      go_quiet (fail)
      go_wp2_with fail
      go_ret
      exact ⟨rbool (by rw [HP.out]; rw [decide_eq_false (show ¬ vs.length = 0 by have := HV.out; omega)]; rfl), (bDrewN HXB.out _).setCell (p := ⟨w.heap.size + 1, 0, none⟩) (Nat.le_succ _) _⟩
theorem plainv_3 (b : Bool) (n u : Int) (s : ByteArray) (ks : List ByteArray) (vs : List JV) : JV.plain (.mk 3 b n u s ks vs) = (decide (b = false ∧ u = 0 ∧ s = ⟨#[]⟩) && decide (vs.length = 0) && decide (ks.length = 0)) := by
  rw [Bool.eq_iff_iff]
  simp [JV.plain] <;> grind
set_option maxRecDepth 100000 in
set_option maxHeartbeats 4000000 in
theorem plain_3 (b : Bool) (n u : Int) (s : ByteArray) (ks : List ByteArray) (vs : List JV) (ka : Option Addr) (kc : Nat) (a : Option Addr) (c : Nat) (w : World) :
    Calls Tryz.prog 56 #[.agg #[.int .u8 3, .bool b, .int .i64 n, .int .u64 u, .string s, .slice ka ks.length kc, .slice a vs.length c]] w fun e w' => e = .returned (.bool (JV.plain (.mk 3 b n u s ks vs))) ∧ Below w.heap.size w w' := by
  have hbx := heap_alloc_new w (.cells #[.int .u8 3, .bool b, .int .i64 n, .int .u64 u, .string s, .slice ka ks.length kc, .slice a vs.length c] 27)
  have hbA : Below w.heap.size w (w.alloc (.cells #[.int .u8 3, .bool b, .int .i64 n, .int .u64 u, .string s, .slice ka ks.length kc, .slice a vs.length c] 27)) := (Below.refl _ _).alloc (Nat.le_refl _) _
  have hsA : (w.alloc (.cells #[.int .u8 3, .bool b, .int .i64 n, .int .u64 u, .string s, .slice ka ks.length kc, .slice a vs.length c] 27)).heap.size = w.heap.size + 1 := by simp
  obtain ⟨c0, c1, c2, c3, c4, c5, c6⟩ := cell_agg7 hbx
  have HBX := Lib.hid hbx
  have HBA := Lib.hid hbA
  clear hbx hbA
  go_enter Tryz.func56, Tryz.ntmps56
  go_upto_region 1 with fail
  generalize w.alloc (.cells #[.int .u8 3, .bool b, .int .i64 n, .int .u64 u, .string s, .slice ka ks.length kc, .slice a vs.length c] 27) = wA at *
  go_upto_region 2 with fail
  have hX := heap_alloc_new wA (.cells #[.bool b, .int .i64 n, .int .u64 u, .string s] 63)
  have hXb : Below w.heap.size w (wA.alloc (.cells #[.bool b, .int .i64 n, .int .u64 u, .string s] 63)) := HBA.out.alloc HBA.out.size _
  have hXo := (heapJ_old wA (.cells #[.bool b, .int .i64 n, .int .u64 u, .string s] 63) w.heap.size (by omega)).trans HBX.out
  generalize wA.alloc (.cells #[.bool b, .int .i64 n, .int .u64 u, .string s] 63) = W1 at *
  clear c0 c1 c2 c3 c4 c5 c6
  obtain ⟨c0, c1, c2, c3, c4, c5, c6⟩ := cell_agg7 hXo
  rw [hsA] at hX
  obtain ⟨e0, e1, e2, e3⟩ := cell_agg4 hX
  have q : ∀ j, W1.frozen? ⟨w.heap.size + 1, j, none⟩ = false := fun j => froz_agg hX j
  have HXB := Lib.hid hXb
  clear hX hXb hXo
  obtain ⟨E, hE⟩ : ∃ E, E = decide (b = false ∧ u = 0 ∧ s = ⟨#[]⟩) := ⟨_, rfl⟩
  have hre : ∀ W, (binOp .eql 63 (.agg #[.bool b, .int .i64 0, .int .u64 u, .string s]) (.agg #[.bool false, .int .i64 0, .int .u64 0, .string ⟨#[]⟩])).run Tryz.prog W = .ok (.bool E) W := fun W => by rw [rest_eql, hE] <;> simp
  have heg : Tryz.prog.eqGuardType Tryz.prog.depth 63 = false := by kernel_rfl
  have HP := Lib.hid (plainv_3 b n u s ks vs)
  rw [← hE] at HP
  clear hE
  cases E with
  | false =>
    go_wp2_with fail
    go_quiet (fail)
    go_wp2_with fail
    go_ret
    exact ⟨rbool (by rw [HP.out]; rfl), (bDrewN HXB.out _).setCell (p := ⟨w.heap.size + 1, 1, none⟩) (Nat.le_succ _) _⟩
  | true =>
    rcases Nat.eq_zero_or_pos vs.length with hv | hv
    · have hv1 : ((vs.length : Int) == 0) = true := by rw [beq_iff_eq]; omega
      have hv2 : (vs.length : Int) = 0 := by omega
      have HV := Lib.hid hv
      clear hv
      rcases Nat.eq_zero_or_pos ks.length with hq | hq
      · have hq1 : ((ks.length : Int) == 0) = true := by rw [beq_iff_eq]; omega
        have hq2 : (ks.length : Int) = 0 := by omega
        have HQ := Lib.hid hq
        clear hq
        go_wp2_with fail
        go_quiet (fail)
        go_wp2_with fail
        go_ret
        exact ⟨rbool (by rw [HP.out]; rw [decide_eq_true HV.out]; rw [decide_eq_true HQ.out]; rfl), (bDrewN HXB.out _).setCell (p := ⟨w.heap.size + 1, 1, none⟩) (Nat.le_succ _) _⟩
      · have hq1 : ((ks.length : Int) == 0) = false := by rw [beq_eq_false_iff_ne]; omega
        have hq2 : ¬ (ks.length : Int) = 0 := by omega
        have HQ := Lib.hid hq
        clear hq
        go_wp2_with fail
        go_quiet (fail)
        go_wp2_with fail
        go_ret
        exact ⟨rbool (by rw [HP.out]; rw [decide_eq_true HV.out]; rw [decide_eq_false (show ¬ ks.length = 0 by have := HQ.out; omega)]; rfl), (bDrewN HXB.out _).setCell (p := ⟨w.heap.size + 1, 1, none⟩) (Nat.le_succ _) _⟩
    · have hv1 : ((vs.length : Int) == 0) = false := by rw [beq_eq_false_iff_ne]; omega
      have hv2 : ¬ (vs.length : Int) = 0 := by omega
      have HV := Lib.hid hv
      clear hv
      go_wp2_with fail
      go_quiet (fail)
      go_wp2_with fail
      go_ret
      exact ⟨rbool (by rw [HP.out]; rw [decide_eq_false (show ¬ vs.length = 0 by have := HV.out; omega)]; rfl), (bDrewN HXB.out _).setCell (p := ⟨w.heap.size + 1, 1, none⟩) (Nat.le_succ _) _⟩
theorem plainv_4 (b : Bool) (n u : Int) (s : ByteArray) (ks : List ByteArray) (vs : List JV) : JV.plain (.mk 4 b n u s ks vs) = (decide (b = false ∧ n = 0 ∧ s = ⟨#[]⟩) && decide (vs.length = 0) && decide (ks.length = 0)) := by
  rw [Bool.eq_iff_iff]
  simp [JV.plain] <;> grind
set_option maxRecDepth 100000 in
set_option maxHeartbeats 4000000 in
theorem plain_4 (b : Bool) (n u : Int) (s : ByteArray) (ks : List ByteArray) (vs : List JV) (ka : Option Addr) (kc : Nat) (a : Option Addr) (c : Nat) (w : World) :
    Calls Tryz.prog 56 #[.agg #[.int .u8 4, .bool b, .int .i64 n, .int .u64 u, .string s, .slice ka ks.length kc, .slice a vs.length c]] w fun e w' => e = .returned (.bool (JV.plain (.mk 4 b n u s ks vs))) ∧ Below w.heap.size w w' := by
  have hbx := heap_alloc_new w (.cells #[.int .u8 4, .bool b, .int .i64 n, .int .u64 u, .string s, .slice ka ks.length kc, .slice a vs.length c] 27)
  have hbA : Below w.heap.size w (w.alloc (.cells #[.int .u8 4, .bool b, .int .i64 n, .int .u64 u, .string s, .slice ka ks.length kc, .slice a vs.length c] 27)) := (Below.refl _ _).alloc (Nat.le_refl _) _
  have hsA : (w.alloc (.cells #[.int .u8 4, .bool b, .int .i64 n, .int .u64 u, .string s, .slice ka ks.length kc, .slice a vs.length c] 27)).heap.size = w.heap.size + 1 := by simp
  obtain ⟨c0, c1, c2, c3, c4, c5, c6⟩ := cell_agg7 hbx
  have HBX := Lib.hid hbx
  have HBA := Lib.hid hbA
  clear hbx hbA
  go_enter Tryz.func56, Tryz.ntmps56
  go_upto_region 1 with fail
  generalize w.alloc (.cells #[.int .u8 4, .bool b, .int .i64 n, .int .u64 u, .string s, .slice ka ks.length kc, .slice a vs.length c] 27) = wA at *
  go_upto_region 2 with fail
  have hX := heap_alloc_new wA (.cells #[.bool b, .int .i64 n, .int .u64 u, .string s] 63)
  have hXb : Below w.heap.size w (wA.alloc (.cells #[.bool b, .int .i64 n, .int .u64 u, .string s] 63)) := HBA.out.alloc HBA.out.size _
  have hXo := (heapJ_old wA (.cells #[.bool b, .int .i64 n, .int .u64 u, .string s] 63) w.heap.size (by omega)).trans HBX.out
  generalize wA.alloc (.cells #[.bool b, .int .i64 n, .int .u64 u, .string s] 63) = W1 at *
  clear c0 c1 c2 c3 c4 c5 c6
  obtain ⟨c0, c1, c2, c3, c4, c5, c6⟩ := cell_agg7 hXo
  rw [hsA] at hX
  obtain ⟨e0, e1, e2, e3⟩ := cell_agg4 hX
  have q : ∀ j, W1.frozen? ⟨w.heap.size + 1, j, none⟩ = false := fun j => froz_agg hX j
  have HXB := Lib.hid hXb
  clear hX hXb hXo
  obtain ⟨E, hE⟩ : ∃ E, E = decide (b = false ∧ n = 0 ∧ s = ⟨#[]⟩) := ⟨_, rfl⟩
  have hre : ∀ W, (binOp .eql 63 (.agg #[.bool b, .int .i64 n, .int .u64 0, .string s]) (.agg #[.bool false, .int .i64 0, .int .u64 0, .string ⟨#[]⟩])).run Tryz.prog W = .ok (.bool E) W := fun W => by rw [rest_eql, hE] <;> simp
  have heg : Tryz.prog.eqGuardType Tryz.prog.depth 63 = false := by kernel_rfl
  have HP := Lib.hid (plainv_4 b n u s ks vs)
  rw [← hE] at HP
  clear hE
  cases E with
  | false =>
    go_wp2_with fail
    go_quiet (fail)
    go_wp2_with fail
    go_ret
    exact ⟨rbool (by rw [HP.out]; rfl), (bDrewN HXB.out _).setCell (p := ⟨w.heap.size + 1, 2, none⟩) (Nat.le_succ _) _⟩
  | true =>
    rcases Nat.eq_zero_or_pos vs.length with hv | hv
    · have hv1 : ((vs.length : Int) == 0) = true := by rw [beq_iff_eq]; omega
      have hv2 : (vs.length : Int) = 0 := by omega
      have HV := Lib.hid hv
      clear hv
      rcases Nat.eq_zero_or_pos ks.length with hq | hq
      · have hq1 : ((ks.length : Int) == 0) = true := by rw [beq_iff_eq]; omega
        have hq2 : (ks.length : Int) = 0 := by omega
        have HQ := Lib.hid hq
        clear hq
        go_wp2_with fail
        go_quiet (fail)
        go_wp2_with fail
        go_ret
        exact ⟨rbool (by rw [HP.out]; rw [decide_eq_true HV.out]; rw [decide_eq_true HQ.out]; rfl), (bDrewN HXB.out _).setCell (p := ⟨w.heap.size + 1, 2, none⟩) (Nat.le_succ _) _⟩
      · have hq1 : ((ks.length : Int) == 0) = false := by rw [beq_eq_false_iff_ne]; omega
        have hq2 : ¬ (ks.length : Int) = 0 := by omega
        have HQ := Lib.hid hq
        clear hq
        go_wp2_with fail
        go_quiet (fail)
        go_wp2_with fail
        go_ret
        exact ⟨rbool (by rw [HP.out]; rw [decide_eq_true HV.out]; rw [decide_eq_false (show ¬ ks.length = 0 by have := HQ.out; omega)]; rfl), (bDrewN HXB.out _).setCell (p := ⟨w.heap.size + 1, 2, none⟩) (Nat.le_succ _) _⟩
    · have hv1 : ((vs.length : Int) == 0) = false := by rw [beq_eq_false_iff_ne]; omega
      have hv2 : ¬ (vs.length : Int) = 0 := by omega
      have HV := Lib.hid hv
      clear hv
      go_wp2_with fail
      go_quiet (fail)
      go_wp2_with fail
      go_ret
      exact ⟨rbool (by rw [HP.out]; rw [decide_eq_false (show ¬ vs.length = 0 by have := HV.out; omega)]; rfl), (bDrewN HXB.out _).setCell (p := ⟨w.heap.size + 1, 2, none⟩) (Nat.le_succ _) _⟩
theorem plainv_5 (b : Bool) (n u : Int) (s : ByteArray) (ks : List ByteArray) (vs : List JV) : JV.plain (.mk 5 b n u s ks vs) = (decide (b = false ∧ n = 0 ∧ u = 0) && decide (vs.length = 0) && decide (ks.length = 0)) := by
  rw [Bool.eq_iff_iff]
  simp [JV.plain] <;> grind
set_option maxRecDepth 100000 in
set_option maxHeartbeats 4000000 in
theorem plain_5 (b : Bool) (n u : Int) (s : ByteArray) (ks : List ByteArray) (vs : List JV) (ka : Option Addr) (kc : Nat) (a : Option Addr) (c : Nat) (w : World) :
    Calls Tryz.prog 56 #[.agg #[.int .u8 5, .bool b, .int .i64 n, .int .u64 u, .string s, .slice ka ks.length kc, .slice a vs.length c]] w fun e w' => e = .returned (.bool (JV.plain (.mk 5 b n u s ks vs))) ∧ Below w.heap.size w w' := by
  have hbx := heap_alloc_new w (.cells #[.int .u8 5, .bool b, .int .i64 n, .int .u64 u, .string s, .slice ka ks.length kc, .slice a vs.length c] 27)
  have hbA : Below w.heap.size w (w.alloc (.cells #[.int .u8 5, .bool b, .int .i64 n, .int .u64 u, .string s, .slice ka ks.length kc, .slice a vs.length c] 27)) := (Below.refl _ _).alloc (Nat.le_refl _) _
  have hsA : (w.alloc (.cells #[.int .u8 5, .bool b, .int .i64 n, .int .u64 u, .string s, .slice ka ks.length kc, .slice a vs.length c] 27)).heap.size = w.heap.size + 1 := by simp
  obtain ⟨c0, c1, c2, c3, c4, c5, c6⟩ := cell_agg7 hbx
  have HBX := Lib.hid hbx
  have HBA := Lib.hid hbA
  clear hbx hbA
  go_enter Tryz.func56, Tryz.ntmps56
  go_upto_region 1 with fail
  generalize w.alloc (.cells #[.int .u8 5, .bool b, .int .i64 n, .int .u64 u, .string s, .slice ka ks.length kc, .slice a vs.length c] 27) = wA at *
  go_upto_region 2 with fail
  have hX := heap_alloc_new wA (.cells #[.bool b, .int .i64 n, .int .u64 u, .string s] 63)
  have hXb : Below w.heap.size w (wA.alloc (.cells #[.bool b, .int .i64 n, .int .u64 u, .string s] 63)) := HBA.out.alloc HBA.out.size _
  have hXo := (heapJ_old wA (.cells #[.bool b, .int .i64 n, .int .u64 u, .string s] 63) w.heap.size (by omega)).trans HBX.out
  generalize wA.alloc (.cells #[.bool b, .int .i64 n, .int .u64 u, .string s] 63) = W1 at *
  clear c0 c1 c2 c3 c4 c5 c6
  obtain ⟨c0, c1, c2, c3, c4, c5, c6⟩ := cell_agg7 hXo
  rw [hsA] at hX
  obtain ⟨e0, e1, e2, e3⟩ := cell_agg4 hX
  have q : ∀ j, W1.frozen? ⟨w.heap.size + 1, j, none⟩ = false := fun j => froz_agg hX j
  have HXB := Lib.hid hXb
  clear hX hXb hXo
  obtain ⟨E, hE⟩ : ∃ E, E = decide (b = false ∧ n = 0 ∧ u = 0) := ⟨_, rfl⟩
  have hre : ∀ W, (binOp .eql 63 (.agg #[.bool b, .int .i64 n, .int .u64 u, .string ⟨#[]⟩]) (.agg #[.bool false, .int .i64 0, .int .u64 0, .string ⟨#[]⟩])).run Tryz.prog W = .ok (.bool E) W := fun W => by rw [rest_eql, hE] <;> simp
  have heg : Tryz.prog.eqGuardType Tryz.prog.depth 63 = false := by kernel_rfl
  have HP := Lib.hid (plainv_5 b n u s ks vs)
  rw [← hE] at HP
  clear hE
  cases E with
  | false =>
    go_wp2_with fail
    go_quiet (fail)
    go_wp2_with fail
    go_ret
    exact ⟨rbool (by rw [HP.out]; rfl), (bDrewN HXB.out _).setCell (p := ⟨w.heap.size + 1, 3, none⟩) (Nat.le_succ _) _⟩
  | true =>
    rcases Nat.eq_zero_or_pos vs.length with hv | hv
    · have hv1 : ((vs.length : Int) == 0) = true := by rw [beq_iff_eq]; omega
      have hv2 : (vs.length : Int) = 0 := by omega
      have HV := Lib.hid hv
      clear hv
      rcases Nat.eq_zero_or_pos ks.length with hq | hq
      · have hq1 : ((ks.length : Int) == 0) = true := by rw [beq_iff_eq]; omega
        have hq2 : (ks.length : Int) = 0 := by omega
        have HQ := Lib.hid hq
        clear hq
        go_wp2_with fail
        go_quiet (fail)
        go_wp2_with fail
        go_ret
        exact ⟨rbool (by rw [HP.out]; rw [decide_eq_true HV.out]; rw [decide_eq_true HQ.out]; rfl), (bDrewN HXB.out _).setCell (p := ⟨w.heap.size + 1, 3, none⟩) (Nat.le_succ _) _⟩
      · have hq1 : ((ks.length : Int) == 0) = false := by rw [beq_eq_false_iff_ne]; omega
        have hq2 : ¬ (ks.length : Int) = 0 := by omega
        have HQ := Lib.hid hq
        clear hq
        go_wp2_with fail
        go_quiet (fail)
        go_wp2_with fail
        go_ret
        exact ⟨rbool (by rw [HP.out]; rw [decide_eq_true HV.out]; rw [decide_eq_false (show ¬ ks.length = 0 by have := HQ.out; omega)]; rfl), (bDrewN HXB.out _).setCell (p := ⟨w.heap.size + 1, 3, none⟩) (Nat.le_succ _) _⟩
    · have hv1 : ((vs.length : Int) == 0) = false := by rw [beq_eq_false_iff_ne]; omega
      have hv2 : ¬ (vs.length : Int) = 0 := by omega
      have HV := Lib.hid hv
      clear hv
      go_wp2_with fail
      go_quiet (fail)
      go_wp2_with fail
      go_ret
      exact ⟨rbool (by rw [HP.out]; rw [decide_eq_false (show ¬ vs.length = 0 by have := HV.out; omega)]; rfl), (bDrewN HXB.out _).setCell (p := ⟨w.heap.size + 1, 3, none⟩) (Nat.le_succ _) _⟩
theorem plainv_6 (b : Bool) (n u : Int) (s : ByteArray) (ks : List ByteArray) (vs : List JV) : JV.plain (.mk 6 b n u s ks vs) = (decide (b = false ∧ n = 0 ∧ u = 0 ∧ s = ⟨#[]⟩) && decide (ks.length = 0)) := by
  rw [Bool.eq_iff_iff]
  simp [JV.plain] <;> grind
set_option maxRecDepth 100000 in
set_option maxHeartbeats 4000000 in
theorem plain_6 (b : Bool) (n u : Int) (s : ByteArray) (ks : List ByteArray) (vs : List JV) (ka : Option Addr) (kc : Nat) (a : Option Addr) (c : Nat) (w : World) :
    Calls Tryz.prog 56 #[.agg #[.int .u8 6, .bool b, .int .i64 n, .int .u64 u, .string s, .slice ka ks.length kc, .slice a vs.length c]] w fun e w' => e = .returned (.bool (JV.plain (.mk 6 b n u s ks vs))) ∧ Below w.heap.size w w' := by
  have hbx := heap_alloc_new w (.cells #[.int .u8 6, .bool b, .int .i64 n, .int .u64 u, .string s, .slice ka ks.length kc, .slice a vs.length c] 27)
  have hbA : Below w.heap.size w (w.alloc (.cells #[.int .u8 6, .bool b, .int .i64 n, .int .u64 u, .string s, .slice ka ks.length kc, .slice a vs.length c] 27)) := (Below.refl _ _).alloc (Nat.le_refl _) _
  have hsA : (w.alloc (.cells #[.int .u8 6, .bool b, .int .i64 n, .int .u64 u, .string s, .slice ka ks.length kc, .slice a vs.length c] 27)).heap.size = w.heap.size + 1 := by simp
  obtain ⟨c0, c1, c2, c3, c4, c5, c6⟩ := cell_agg7 hbx
  have HBX := Lib.hid hbx
  have HBA := Lib.hid hbA
  clear hbx hbA
  go_enter Tryz.func56, Tryz.ntmps56
  go_upto_region 1 with fail
  generalize w.alloc (.cells #[.int .u8 6, .bool b, .int .i64 n, .int .u64 u, .string s, .slice ka ks.length kc, .slice a vs.length c] 27) = wA at *
  go_upto_region 2 with fail
  have hX := heap_alloc_new wA (.cells #[.bool b, .int .i64 n, .int .u64 u, .string s] 63)
  have hXb : Below w.heap.size w (wA.alloc (.cells #[.bool b, .int .i64 n, .int .u64 u, .string s] 63)) := HBA.out.alloc HBA.out.size _
  have hXo := (heapJ_old wA (.cells #[.bool b, .int .i64 n, .int .u64 u, .string s] 63) w.heap.size (by omega)).trans HBX.out
  generalize wA.alloc (.cells #[.bool b, .int .i64 n, .int .u64 u, .string s] 63) = W1 at *
  clear c0 c1 c2 c3 c4 c5 c6
  obtain ⟨c0, c1, c2, c3, c4, c5, c6⟩ := cell_agg7 hXo
  rw [hsA] at hX
  obtain ⟨e0, e1, e2, e3⟩ := cell_agg4 hX
  have q : ∀ j, W1.frozen? ⟨w.heap.size + 1, j, none⟩ = false := fun j => froz_agg hX j
  have HXB := Lib.hid hXb
  clear hX hXb hXo
  obtain ⟨E, hE⟩ : ∃ E, E = decide (b = false ∧ n = 0 ∧ u = 0 ∧ s = ⟨#[]⟩) := ⟨_, rfl⟩
  have hre : ∀ W, (binOp .eql 63 (.agg #[.bool b, .int .i64 n, .int .u64 u, .string s]) (.agg #[.bool false, .int .i64 0, .int .u64 0, .string ⟨#[]⟩])).run Tryz.prog W = .ok (.bool E) W := fun W => by rw [rest_eql, hE] <;> simp
  have heg : Tryz.prog.eqGuardType Tryz.prog.depth 63 = false := by kernel_rfl
  have HP := Lib.hid (plainv_6 b n u s ks vs)
  rw [← hE] at HP
  clear hE
  cases E with
  | false =>
    go_wp2_with fail
    go_quiet (fail)
    go_wp2_with fail
    go_ret
    exact ⟨rbool (by rw [HP.out]; rfl), bDrewN HXB.out _⟩
  | true =>
    rcases Nat.eq_zero_or_pos ks.length with hq | hq
    · have hq1 : ((ks.length : Int) == 0) = true := by rw [beq_iff_eq]; omega
      have hq2 : (ks.length : Int) = 0 := by omega
      have HQ := Lib.hid hq
      clear hq
      go_wp2_with fail
      go_quiet (fail)
      go_wp2_with fail
      go_ret
      exact ⟨rbool (by rw [HP.out]; rw [decide_eq_true HQ.out]; rfl), bDrewN HXB.out _⟩
    · have hq1 : ((ks.length : Int) == 0) = false := by rw [beq_eq_false_iff_ne]; omega
      have hq2 : ¬ (ks.length : Int) = 0 := by omega
      have HQ := Lib.hid hq
      clear hq
      go_wp2_with fail
      go_quiet (fail)
      go_wp2_with fail
      go_ret
      exact ⟨rbool (by rw [HP.out]; rw [decide_eq_false (show ¬ ks.length = 0 by have := HQ.out; omega)]; rfl), bDrewN HXB.out _⟩
theorem plainv_7 (b : Bool) (n u : Int) (s : ByteArray) (ks : List ByteArray) (vs : List JV) : JV.plain (.mk 7 b n u s ks vs) = (decide (b = false ∧ n = 0 ∧ u = 0 ∧ s = ⟨#[]⟩) && decide (vs.length = ks.length) && decide ks.Nodup) := by
  rw [Bool.eq_iff_iff]
  simp [JV.plain] <;> grind
set_option maxRecDepth 100000 in
set_option maxHeartbeats 4000000 in
theorem plain_7 (b : Bool) (n u : Int) (s : ByteArray) (ks : List ByteArray) (vs : List JV) (ka : Option Addr) (kc : Nat) (a : Option Addr) (c : Nat) (w : World) (ok : Nat → Prop) (hks : StrsAt ok w ka ks) (hkn : ks.length ≤ 35184372080000) (hs : ∀ k ∈ ks, k.size ≤ maxLen) :
    Calls Tryz.prog 56 #[.agg #[.int .u8 7, .bool b, .int .i64 n, .int .u64 u, .string s, .slice ka ks.length kc, .slice a vs.length c]] w fun e w' => e = .returned (.bool (JV.plain (.mk 7 b n u s ks vs))) ∧ Below w.heap.size w w' := by
  have hbx := heap_alloc_new w (.cells #[.int .u8 7, .bool b, .int .i64 n, .int .u64 u, .string s, .slice ka ks.length kc, .slice a vs.length c] 27)
  have hbA : Below w.heap.size w (w.alloc (.cells #[.int .u8 7, .bool b, .int .i64 n, .int .u64 u, .string s, .slice ka ks.length kc, .slice a vs.length c] 27)) := (Below.refl _ _).alloc (Nat.le_refl _) _
  have hsA : (w.alloc (.cells #[.int .u8 7, .bool b, .int .i64 n, .int .u64 u, .string s, .slice ka ks.length kc, .slice a vs.length c] 27)).heap.size = w.heap.size + 1 := by simp
  obtain ⟨c0, c1, c2, c3, c4, c5, c6⟩ := cell_agg7 hbx
  have HBX := Lib.hid hbx
  have HBA := Lib.hid hbA
  clear hbx hbA
  have HKS := Lib.hid hks
  have HSS := Lib.hid hs
  clear hks hs
  go_enter Tryz.func56, Tryz.ntmps56
  go_upto_region 1 with fail
  generalize w.alloc (.cells #[.int .u8 7, .bool b, .int .i64 n, .int .u64 u, .string s, .slice ka ks.length kc, .slice a vs.length c] 27) = wA at *
  go_upto_region 2 with fail
  have hX := heap_alloc_new wA (.cells #[.bool b, .int .i64 n, .int .u64 u, .string s] 63)
  have hXb : Below w.heap.size w (wA.alloc (.cells #[.bool b, .int .i64 n, .int .u64 u, .string s] 63)) := HBA.out.alloc HBA.out.size _
  have hXo := (heapJ_old wA (.cells #[.bool b, .int .i64 n, .int .u64 u, .string s] 63) w.heap.size (by omega)).trans HBX.out
  generalize wA.alloc (.cells #[.bool b, .int .i64 n, .int .u64 u, .string s] 63) = W1 at *
  clear c0 c1 c2 c3 c4 c5 c6
  obtain ⟨c0, c1, c2, c3, c4, c5, c6⟩ := cell_agg7 hXo
  rw [hsA] at hX
  obtain ⟨e0, e1, e2, e3⟩ := cell_agg4 hX
  have q : ∀ j, W1.frozen? ⟨w.heap.size + 1, j, none⟩ = false := fun j => froz_agg hX j
  have HXB := Lib.hid hXb
  have HX := Lib.hid hX
  clear hX hXb hXo
  obtain ⟨E, hE⟩ : ∃ E, E = decide (b = false ∧ n = 0 ∧ u = 0 ∧ s = ⟨#[]⟩) := ⟨_, rfl⟩
  have hre : ∀ W, (binOp .eql 63 (.agg #[.bool b, .int .i64 n, .int .u64 u, .string s]) (.agg #[.bool false, .int .i64 0, .int .u64 0, .string ⟨#[]⟩])).run Tryz.prog W = .ok (.bool E) W := fun W => by rw [rest_eql, hE] <;> simp
  have heg : Tryz.prog.eqGuardType Tryz.prog.depth 63 = false := by kernel_rfl
  have HP := Lib.hid (plainv_7 b n u s ks vs)
  rw [← hE] at HP
  clear hE
  have hlt1 : w.heap.size + 1 < W1.heap.size := (Array.getElem?_eq_some_iff.1 HX.out).1
  have HTW := Lib.hid (fun nq => twice_any (fun _ => True) ka kc ks (W1.drewN nq) (HKS.out.kept (fun i _ hi => ⟨HXB.out.block i hi, trivial⟩)) hkn HSS.out)
  rcases Nat.lt_or_ge vs.length ks.length with hv | hv
  · have HV := Lib.hid (show ¬ vs.length = ks.length by omega)
    have hv1 : ((vs.length : Int) == (ks.length : Int)) = false := by rw [beq_eq_false_iff_ne]; omega
    have hv2 : ((vs.length : Int) != (ks.length : Int)) = true := by rw [bne, hv1]; rfl
    have hv3 : ¬ (vs.length : Int) = (ks.length : Int) := by omega
    clear hv
    go_wp2_with fail
    go_quiet (fail)
    go_wp2_with fail
    go_ret
    exact ⟨rbool (by rw [HP.out, decide_eq_false HV.out, Bool.and_false, Bool.false_and]), bDrewN HXB.out _⟩
  · rcases Nat.lt_or_ge ks.length vs.length with hq | hq
    · have HV := Lib.hid (show ¬ vs.length = ks.length by omega)
      have hv1 : ((vs.length : Int) == (ks.length : Int)) = false := by rw [beq_eq_false_iff_ne]; omega
      have hv2 : ((vs.length : Int) != (ks.length : Int)) = true := by rw [bne, hv1]; rfl
      have hv3 : ¬ (vs.length : Int) = (ks.length : Int) := by omega
      clear hv hq
      go_wp2_with fail
      go_quiet (fail)
      go_wp2_with fail
      go_ret
      exact ⟨rbool (by rw [HP.out, decide_eq_false HV.out, Bool.and_false, Bool.false_and]), bDrewN HXB.out _⟩
    · have HV := Lib.hid (show vs.length = ks.length by omega)
      have hv1 : ((vs.length : Int) == (ks.length : Int)) = true := by rw [beq_iff_eq]; omega
      have hv2 : ((vs.length : Int) != (ks.length : Int)) = false := by rw [bne, hv1]; rfl
      have hv3 : (vs.length : Int) = (ks.length : Int) := by omega
      clear hv hq
      go_wp2_with fail
      go_quiet (fail)
      go_wp2_with fail
      refine (HTW.out _).mono ?_
      rintro e w2 ⟨rfl, hb2⟩
      have hx2 := (hb2.block (w.heap.size + 1) hlt1).trans HX.out
      clear e0 e1 e2 e3 c0 c1 c2 c3 c4 c5 c6 q
      obtain ⟨e0, e1, e2, e3⟩ := cell_agg4 hx2
      have HB2 := Lib.hid ((bDrewN HXB.out _).trans (hb2.mono (Nat.le_trans (Nat.le_succ _) (Nat.le_of_lt hlt1))))
      clear hb2 hx2
      by_cases hnd : ks.Nodup
      · have HND := Lib.hid hnd
        have hd1 : decide (¬ ks.Nodup) = false := decide_eq_false (fun h => h hnd)
        simp only [hd1]
        clear hd1 hnd
        cases E with
        | false =>
          go_wp2_with fail
          go_ret
          exact ⟨rbool (by rw [HP.out]; rfl), HB2.out⟩
        | true =>
          go_wp2_with fail
          go_ret
          exact ⟨rbool (by rw [HP.out, decide_eq_true HV.out, decide_eq_true HND.out]; rfl), HB2.out⟩
      · have HND := Lib.hid hnd
        have hd1 : decide (¬ ks.Nodup) = true := decide_eq_true hnd
        simp only [hd1]
        clear hd1 hnd
        go_wp2_with fail
        go_ret
        exact ⟨rbool (by rw [HP.out, decide_eq_false HND.out, Bool.and_false]), HB2.out⟩
theorem plain_any (ok : Nat → Prop) (v : JV) (V : Value) (w : World) (h : JAt ok w v V) (h0 : 0 ≤ v.kind ∧ v.kind < 256) (hs : ∀ k ∈ v.keys, k.size ≤ maxLen) :
    Calls Tryz.prog 56 #[V] w fun e w' => e = .returned (.bool v.plain) ∧ Below w.heap.size w w' := by
  obtain ⟨k, b, n, u, s, ks, vs⟩ := v
  simp only [JV.kind, JV.keys] at h0 hs
  rw [JAt] at h
  obtain ⟨ka, kc, a, c, rfl, hks, -, hkn, -⟩ := h
  by_cases k1 : k = 1
  · subst k1; exact plain_1 b n u s ks vs ka kc a c w
  by_cases k2 : k = 2
  · subst k2; exact plain_2 b n u s ks vs ka kc a c w
  by_cases k3 : k = 3
  · subst k3; exact plain_3 b n u s ks vs ka kc a c w
  by_cases k4 : k = 4
  · subst k4; exact plain_4 b n u s ks vs ka kc a c w
  by_cases k5 : k = 5
  · subst k5; exact plain_5 b n u s ks vs ka kc a c w
  by_cases k6 : k = 6
  · subst k6; exact plain_6 b n u s ks vs ka kc a c w
  by_cases k7 : k = 7
  · subst k7; exact plain_7 b n u s ks vs ka kc a c w ok hks hkn hs
  exact plain_no b n u s ks vs ka kc a c w k h0.1 h0.2 ⟨k1, k2, k3, k4, k5, k6, k7⟩
end Go.Proofs.YtckaoeloofbklaaGreatDoor
namespace Go.Proofs.YtckaoeloofbklaaGreatDoor
open Go Go.RowKit Go.Lib
inductive KOk : JV → Prop
  | mk {k b n u s ks vs} (h1 : 0 ≤ k) (h2 : k < 256) (h : ∀ v ∈ vs, KOk v) : KOk (.mk k b n u s ks vs)
theorem deepL_snoc : ∀ (l : List JV) (x : JV), JV.deepL (l ++ [x]) = max (JV.deepL l) x.deep
  | [], x => by simp [JV.deepL]
  | v :: l, x => by rw [List.cons_append, JV.deepL, JV.deepL, deepL_snoc l x]; omega
theorem formedL_snoc : ∀ (l : List JV) (x : JV), JV.formedL (l ++ [x]) = (JV.formedL l && x.formed)
  | [], x => by simp [JV.formedL]
  | v :: l, x => by rw [List.cons_append, JV.formedL, JV.formedL, formedL_snoc l x, Bool.and_assoc]
mutual
theorem deep_le : ∀ v : JV, v.deep ≤ v.weigh
  | .mk k b n u s ks vs => by
    rw [JV.deep, JV.weigh]
    have := deepL_le vs
    split <;> omega
theorem deepL_le : ∀ l : List JV, JV.deepL l ≤ JV.weighL l
  | [] => by rw [JV.deepL, JV.weighL]; omega
  | v :: l => by
    rw [JV.deepL, JV.weighL]
    have := deep_le v
    have := deepL_le l
    omega
end
theorem formedL_no : ∀ {l : List JV} {x : JV} {i : Nat}, l[i]? = some x → x.formed = false → JV.formedL l = false
  | [], _, _, h, _ => by simp at h
  | v :: l, x, 0, h, hx => by simp at h; subst h; rw [JV.formedL, hx]; rfl
  | v :: l, x, i + 1, h, hx => by rw [JV.formedL, formedL_no (i := i) (by simpa using h) hx]; simp
def lookR (v : JV) : Value := if v.formed then .tuple #[.int .i64 (v.deep : Nat), .bool true] else .tuple #[.int .i64 0, .bool false]
def LookOk (v : JV) : Prop := ∀ (ok : Nat → Prop) (V : Value) (w : World), JAt ok w v V → KOk v → v.weigh ≤ 1000000000000 →
  Calls Tryz.prog 28 #[V] w fun e w' => e = .returned (lookR v) ∧ Below w.heap.size w w'
set_option maxRecDepth 100000 in
set_option maxHeartbeats 4000000 in
theorem look_one (k : Int) (b : Bool) (n u : Int) (s : ByteArray) (ks : List ByteArray) (vs : List JV) (ih : ∀ x ∈ vs, LookOk x) : LookOk (.mk k b n u s ks vs) := by
  intro ok V w hj hko hw
  have hkw : ∀ k ∈ ks, k.size ≤ maxLen := fun k hk => by
    have := key_le hk
    rw [JV.weigh] at hw
    unfold maxLen
    omega
  have hwL : JV.weighL vs ≤ 1000000000000 := by rw [JV.weigh] at hw; omega
  obtain ⟨hk1, hk2, hko⟩ := hko
  have hPA := fun (W : World) (hW : Below w.heap.size w W) => plain_any (fun _ => True) (.mk k b n u s ks vs) V W (hj.kept (fun i _ hi => ⟨hW.block i hi, trivial⟩)) ⟨hk1, hk2⟩ hkw
  have hpk := fun h => JV.plain_kind (v := .mk k b n u s ks vs) h
  simp only [JV.kind, JV.items] at hpk
  rw [JAt] at hj
  obtain ⟨ka, kc, a, c, rfl, -, hvs, -, hvn⟩ := hj
  have hbx := heap_alloc_new w (.cells #[.int .u8 k, .bool b, .int .i64 n, .int .u64 u, .string s, .slice ka ks.length kc, .slice a vs.length c] 27)
  have hbA : Below w.heap.size w (w.alloc (.cells #[.int .u8 k, .bool b, .int .i64 n, .int .u64 u, .string s, .slice ka ks.length kc, .slice a vs.length c] 27)) := (Below.refl _ _).alloc (Nat.le_refl _) _
  obtain ⟨c0, c1, c2, c3, c4, c5, c6⟩ := cell_agg7 hbx
  have hlA := (Array.getElem?_eq_some_iff.1 hbx).1
  have HPL := Lib.hid (hPA _ hbA)
  have HBX := Lib.hid hbx
  have HBA := Lib.hid hbA
  have HVS := Lib.hid hvs
  have HIH := Lib.hid ih
  have HKO := Lib.hid hko
  have HWL := Lib.hid hwL
  have HPK := Lib.hid hpk
  have hfm : ∀ z, JV.plain (.mk k b n u s ks vs) = z → JV.formed (.mk k b n u s ks vs) = (z && JV.formedL vs) := fun z hz => by rw [JV.formed, hz]
  have HFM := Lib.hid hfm
  have hdp : 6 ≤ k ∧ k ≤ 7 → JV.deep (.mk k b n u s ks vs) = JV.deepL vs + 1 := fun h => by rw [JV.deep, if_pos (by omega)]
  have hdp0 : ¬ 6 ≤ k → JV.deep (.mk k b n u s ks vs) = 0 := fun h => by rw [JV.deep, if_neg (by omega)]
  have HDP := Lib.hid (And.intro hdp hdp0)
  clear hbx hbA hvs ih hko hw hkw hwL hPA hfm hdp hdp0 hpk
  go_enter Tryz.func28, Tryz.ntmps28
  go_upto_region 1 with fail
  generalize w.alloc (.cells #[.int .u8 k, .bool b, .int .i64 n, .int .u64 u, .string s, .slice ka ks.length kc, .slice a vs.length c] 27) = wA at *
  go_wp2_with fail
  refine HPL.out.mono ?_
  rintro e w1 ⟨rfl, hb1⟩
  have hbx1 := (hb1.block w.heap.size hlA).trans HBX.out
  clear c0 c1 c2 c3 c4 c5 c6
  obtain ⟨c0, c1, c2, c3, c4, c5, c6⟩ := cell_agg7 hbx1
  have HB1 := Lib.hid (HBA.out.trans (hb1.mono HBA.out.size))
  clear hb1 hbx1
  cases hp : JV.plain (.mk k b n u s ks vs) with
  | false =>
    go_wp2_with fail
    go_ret2
    exact ⟨by unfold lookR; rw [HFM.out _ hp]; rfl, HB1.out⟩
  | true =>
    obtain ⟨p1, p2, p3⟩ := HPK.out hp
    have HFT := Lib.hid (HFM.out _ hp)
    have HP3 := Lib.hid p3
    clear HFM HPK hp p3
    by_cases h6 : 6 ≤ k
    · have HD := Lib.hid (HDP.out.1 ⟨h6, p2⟩)
      go_wp2_with fail
      clear c0 c1 c2 c3 c4 c5 c6
      go_loopg [2, 3, 4, 6, 7, 8, 20] vs.length (fun g s2 s3 s4 _ _ _ s20 wr => ∃ i : Nat, i + g = vs.length ∧ s2 = .int .i64 0 ∧ s3 = .bool false ∧ s4 = .int .i64 ((JV.deepL (vs.take i) + 1 : Nat) : Int) ∧ s20 = .int .i64 i ∧ JV.formedL (vs.take i) = true ∧ Below w.heap.size w wr)
      case atStart => exact ⟨0, by omega, rfl, rfl, by rw [List.take_zero, JV.deepL]; rfl, rfl, by rw [List.take_zero, JV.formedL], HB1.out⟩
      case round =>
        obtain ⟨i, hi, rfl, rfl, rfl, rfl, hfl, hbw⟩ := hrel
        have HBW := Lib.hid hbw
        have HFL := Lib.hid hfl
        clear hbw hfl
        by_cases hlt : i < vs.length
        · obtain ⟨x, hx⟩ : ∃ x, vs[i]? = some x := ⟨_, List.getElem?_eq_getElem hlt⟩
          have hxm := List.mem_of_getElem? hx
          obtain ⟨q, off, ha, hq, hqw, hit⟩ := HVS.out.resolve_left (by rintro rfl; simp at hlt)
          obtain ⟨V, h7, hja⟩ := hit.get hx
          obtain ⟨xk, xb, xn, xu, xs, xa, xm, xc, xa2, xm2, xc2, rfl, d0, d1, d2, d3, d4, d5, d6⟩ := it_cells h7 hja
          have hkq : ∀ i : Nat, wr.cell? ⟨q, i, none⟩ = w.cell? ⟨q, i, none⟩ := fun i => HBW.out.cell (p := ⟨q, i, none⟩) hqw
          rw [← hkq, Nat.mul_comm 7 i] at d0 d1 d2 d3 d4 d5 d6
          have htk : vs.take (i + 1) = vs.take i ++ [x] := by rw [List.take_add_one, hx]; rfl
          have hd1 := deepL_snoc (vs.take i) x
          have hf1 := formedL_snoc (vs.take i) x
          rw [← htk] at hd1 hf1
          have hwx := Nat.le_trans (weigh_le hx) HWL.out
          have hdx := Nat.le_trans (deep_le x) hwx
          have hdl := Nat.le_trans (deepL_le vs) HWL.out
          have hdt : JV.deepL (vs.take i) ≤ JV.deepL vs := by
            have key : ∀ (l : List JV) (j : Nat), JV.deepL (l.take j) ≤ JV.deepL l := by
              intro l
              induction l with
              | nil => intro j; simp
              | cons v l ih =>
                intro j
                cases j with
                | zero => rw [List.take_zero]; simp [JV.deepL]
                | succ j => rw [List.take_succ_cons, JV.deepL, JV.deepL]; have := ih j; omega
            exact key vs i
          have hdt2 := Nat.le_trans hdt hdl
          have HLO := Lib.hid (HIH.out x hxm)
          have HKX := Lib.hid (HKO.out x hxm)
          have HWX := Lib.hid hwx
          have HD1 := Lib.hid hd1
          have HF1 := Lib.hid hf1
          have HNO := Lib.hid (fun h => formedL_no hx h)
          subst ha
          have hal : Below w.heap.size w (wr.alloc (.cells #[.int .u8 xk, .bool xb, .int .i64 xn, .int .u64 xu, .string xs, .slice xa xm xc, .slice xa2 xm2 xc2] 27)) := HBW.out.alloc HBW.out.size _
          have hbx := heap_alloc_new wr (.cells #[.int .u8 xk, .bool xb, .int .i64 xn, .int .u64 xu, .string xs, .slice xa xm xc, .slice xa2 xm2 xc2] 27)
          have HJ := Lib.hid (hja.kept (ok' := fun _ => True) (fun i _ hi => ⟨hal.block i hi, trivial⟩))
          have HAL := Lib.hid hal
          have HBX2 := Lib.hid hbx
          generalize JV.deepL (vs.take i) = D at *
          clear hit h7 hja hkq HVS hxm hq hx hwx hd1 hf1 hdl hdt htk hal hbx
          go_upto_region 9 with fail
          generalize wr.alloc (.cells #[.int .u8 xk, .bool xb, .int .i64 xn, .int .u64 xu, .string xs, .slice xa xm xc, .slice xa2 xm2 xc2] 27) = W1 at *
          have hbx2 := HBX2.out
          obtain ⟨e0, e1, e2, e3, e4, e5, e6⟩ := cell_agg7 hbx2
          have HL := Lib.hid (HLO.out _ _ _ HJ.out HKX.out HWX.out)
          clear hbx2 d0 d1 d2 d3 d4 d5 d6
          go_wp2_with fail
          refine HL.out.mono ?_
          rintro e w3 ⟨rfl, hb3⟩
          have HB3 := Lib.hid (HAL.out.trans (hb3.mono HAL.out.size))
          clear hb3 e0 e1 e2 e3 e4 e5 e6
          unfold lookR
          cases hf : x.formed with
          | false =>
            have HF := Lib.hid hf
            clear hf
            simp only [Bool.false_eq_true, if_false]
            go_wp2_with fail
            go_ret2
            exact ⟨by unfold lookR; rw [HFT.out, HNO.out HF.out]; rfl, HB3.out⟩
          | true =>
            have HF := Lib.hid hf
            clear hf
            simp only [if_true]
            obtain ⟨d, hd⟩ : ∃ d, x.deep = d := ⟨_, rfl⟩
            rw [hd] at hdx HD1 ⊢
            clear hd
            obtain ⟨M, hM⟩ : ∃ M : Nat, M = max D d := ⟨_, rfl⟩
            have hmx : max ((D : Int) + 1) ((d : Int) + 1) = (M : Int) + 1 := by omega
            have hmx2 : max (((D + 1 : Nat) : Int)) ((d : Int) + 1) = (M : Int) + 1 := by omega
            rw [← hM] at HD1
            go_wp2_with fail
            go_roundg (gk - 1)
            case measure => omega
            case rel => exact ⟨i + 1, by omega, rfl, rfl, by rw [HD1.out]; first | rfl | go_num | (simp; omega), by go_num, by rw [HF1.out, HFL.out, HF.out]; rfl, HB3.out⟩
        · obtain rfl : i = vs.length := by omega
          rw [List.take_length] at HFL
          rw [List.take_length]
          have hdl := Nat.le_trans (deepL_le vs) HWL.out
          go_wp2_with fail
          go_ret2
          exact ⟨by unfold lookR; rw [HFT.out, HFL.out, HD.out]; rfl, HBW.out⟩
    · have HD := Lib.hid (HDP.out.2 (by omega))
      have hv := HP3.out (by omega)
      subst hv
      go_wp2_with fail
      clear c0 c1 c2 c3 c4 c5 c6
      go_loopg [2, 3, 4, 6, 7, 8, 20] 0 (fun g s2 s3 s4 _ _ _ s20 wr => s2 = .int .i64 0 ∧ s3 = .bool false ∧ s4 = .int .i64 0 ∧ s20 = .int .i64 0 ∧ Below w.heap.size w wr)
      case atStart => exact ⟨rfl, rfl, rfl, rfl, HB1.out⟩
      case round =>
        obtain ⟨rfl, rfl, rfl, rfl, hbw⟩ := hrel
        have HBW := Lib.hid hbw
        clear hbw
        go_wp2_with fail
        go_ret2
        exact ⟨by unfold lookR; rw [HFT.out, HD.out]; rfl, HBW.out⟩
theorem look_any : ∀ v, LookOk v := JV.ind fun k b n u s ks vs ih => look_one k b n u s ks vs ih
theorem check_is (v : JV) : v.check = if v.formed then (if 64 < v.deep then 161 else 0) else 160 := by
  unfold JV.check
  rw [JV.look_is]
  cases v.formed <;> rfl
set_option maxRecDepth 100000 in
set_option maxHeartbeats 4000000 in
theorem check_any (ok : Nat → Prop) (v : JV) (V : Value) (w : World) (h : JAt ok w v V) (hk : KOk v) (hw : v.weigh ≤ 1000000000000) :
    Calls Tryz.prog 13 #[V] w fun e w' => e = .returned (.int .i64 v.check) ∧ Below w.heap.size w w' := by
  have hd := Nat.le_trans (deep_le v) hw
  have hjk := fun (W : World) (hW : Below w.heap.size w W) => h.kept (ok' := fun _ => True) (fun i _ hi => ⟨hW.block i hi, trivial⟩)
  obtain ⟨k, b, n, u, s, ks, vs⟩ := v
  have h0 := h
  rw [JAt] at h0
  obtain ⟨ka, kc, a, c, rfl, -⟩ := h0
  have hbx := heap_alloc_new w (.cells #[.int .u8 k, .bool b, .int .i64 n, .int .u64 u, .string s, .slice ka ks.length kc, .slice a vs.length c] 27)
  have hbA : Below w.heap.size w (w.alloc (.cells #[.int .u8 k, .bool b, .int .i64 n, .int .u64 u, .string s, .slice ka ks.length kc, .slice a vs.length c] 27)) := (Below.refl _ _).alloc (Nat.le_refl _) _
  obtain ⟨c0, c1, c2, c3, c4, c5, c6⟩ := cell_agg7 hbx
  have HL := Lib.hid (look_any _ _ _ _ (hjk _ hbA) hk hw)
  have HBA := Lib.hid hbA
  have HCI := Lib.hid (check_is (.mk k b n u s ks vs))
  clear hbx hbA h hjk hk hw
  generalize JV.mk k b n u s ks vs = v at *
  go_enter Tryz.func13, Tryz.ntmps13
  go_wp2_with fail
  refine HL.out.mono ?_
  rintro e w1 ⟨rfl, hb1⟩
  have HB1 := Lib.hid (HBA.out.trans (hb1.mono HBA.out.size))
  clear hb1 c0 c1 c2 c3 c4 c5 c6
  unfold lookR
  cases hf : v.formed with
  | false =>
    have HF := Lib.hid hf
    clear hf
    simp only [Bool.false_eq_true, if_false]
    go_wp2_with fail
    go_ret
    exact ⟨by rw [HCI.out, HF.out]; rfl, HB1.out⟩
  | true =>
    have HF := Lib.hid hf
    clear hf
    simp only [if_true]
    obtain ⟨d, hd2⟩ : ∃ d, v.deep = d := ⟨_, rfl⟩
    have HD := Lib.hid hd2
    rw [hd2] at hd ⊢
    clear hd2
    by_cases h6 : 64 < d
    · go_wp2_with fail
      go_ret
      exact ⟨by rw [HCI.out, HF.out, HD.out, if_pos rfl, if_pos h6]; rfl, HB1.out⟩
    · go_wp2_with fail
      go_ret
      exact ⟨by rw [HCI.out, HF.out, HD.out, if_pos rfl, if_neg h6]; rfl, HB1.out⟩
def showR (v : JV) : Value := .tuple #[.string (if v.check = 0 then ⟨(shJ v).toArray⟩ else ⟨#[]⟩), .int .i64 v.check]
theorem check_form {v : JV} (h : v.check = 0) : v.formed = true ∧ v.deep ≤ 64 := by
  rw [check_is] at h
  cases hf : v.formed with
  | false => rw [hf, if_neg (by decide)] at h; omega
  | true =>
    rw [hf, if_pos rfl] at h
    by_cases h6 : 64 < v.deep
    · rw [if_pos h6] at h; omega
    · exact ⟨rfl, by omega⟩
set_option maxRecDepth 100000 in
set_option maxHeartbeats 4000000 in
theorem showM_any (ok : Nat → Prop) (v : JV) (V : Value) (w : World) (hg : Globs w) (hT : Lib.Utf8Tabs 0 1 w) (h17 : 17 ≤ w.heap.size) (h : JAt ok w v V) (hk : KOk v) (hr : Rng v) (hw : v.weigh ≤ 1000000000000) (hl : (shJ v).length ≤ 90000000000000) :
    Calls Tryz.prog 9 #[V] w fun e w' => e = .returned (showR v) ∧ Below w.heap.size w w' := by
  have hjk := fun (B : Nat) (hB : w.heap.size ≤ B) (W : World) (hW : Below w.heap.size w W) => h.kept (ok' := fun q => q < B) (fun i _ hi => ⟨hW.block i hi, by omega⟩)
  have hcf := fun h => check_form (v := v) h
  obtain ⟨k, b, n, u, s, ks, vs⟩ := v
  have h0 := h
  rw [JAt] at h0
  obtain ⟨ka, kc, a, c, rfl, -⟩ := h0
  have hbx := heap_alloc_new w (.cells #[.int .u8 k, .bool b, .int .i64 n, .int .u64 u, .string s, .slice ka ks.length kc, .slice a vs.length c] 27)
  have hbA : Below w.heap.size w (w.alloc (.cells #[.int .u8 k, .bool b, .int .i64 n, .int .u64 u, .string s, .slice ka ks.length kc, .slice a vs.length c] 27)) := (Below.refl _ _).alloc (Nat.le_refl _) _
  obtain ⟨c0, c1, c2, c3, c4, c5, c6⟩ := cell_agg7 hbx
  have hlA := (Array.getElem?_eq_some_iff.1 hbx).1
  have HL := Lib.hid (check_any _ _ _ _ (hjk _ (Nat.le_refl _) _ hbA) hk hw)
  have HJK := Lib.hid hjk
  have HBA := Lib.hid hbA
  have HBX := Lib.hid hbx
  have HCF := Lib.hid hcf
  have HG := Lib.hid hg
  have HT := Lib.hid hT
  have HR := Lib.hid hr
  have HW := Lib.hid hw
  have HLN := Lib.hid hl
  clear hbx hbA h hjk hk hw hcf hg hT hr hl
  generalize hvv : JV.mk k b n u s ks vs = v at *
  clear hvv
  go_enter Tryz.func9, Tryz.ntmps9
  go_upto_region 1 with fail
  generalize w.alloc (.cells #[.int .u8 k, .bool b, .int .i64 n, .int .u64 u, .string s, .slice ka ks.length kc, .slice a vs.length c] 27) = wA at *
  go_wp2_with fail
  refine HL.out.mono ?_
  rintro e w1 ⟨rfl, hb1⟩
  have hbx1 := (hb1.block w.heap.size hlA).trans HBX.out
  clear c0 c1 c2 c3 c4 c5 c6
  have hb1' := HBA.out.trans (hb1.mono HBA.out.size)
  have hsz1 := hb1'.size
  obtain ⟨c0, c1, c2, c3, c4, c5, c6⟩ := cell_agg7 hbx1
  have hl1 := (Array.getElem?_eq_some_iff.1 hbx1).1
  have HB1 := Lib.hid hb1'
  have HBX1 := Lib.hid hbx1
  clear hb1 hbx1 hb1'
  by_cases hc : v.check = 0
  · have HC := Lib.hid hc
    rw [hc]
    clear hc
    have hbl := bl_new w1.heap.size w1 (Nat.le_refl _)
    have hal : Below w1.heap.size w1 (w1.alloc (.cells #[.pointer none, .slice none 0 0] 49)) := (Below.refl _ _).alloc (Nat.le_refl _) _
    have hbx2 := (hal.block w.heap.size hl1).trans HBX1.out
    clear c0 c1 c2 c3 c4 c5 c6
    obtain ⟨c0, c1, c2, c3, c4, c5, c6⟩ := cell_agg7 hbx2
    have hal2 := HB1.out.trans (hal.mono HB1.out.size)
    have HS := Lib.hid (showV_any w1.heap.size w1.heap.size v _ [] _ hbl hal.size (by omega) (HG.out.on hal2) (utabs_kept HT.out (hal2.mono h17)) (HJK.out w1.heap.size HB1.out.size _ hal2) (HCF.out HC.out).1 HR.out (by have := HLN.out; rw [List.length_nil]; omega) HW.out)
    have HAL := Lib.hid hal
    clear hbl hal hbx2 hal2
    go_wp2_with fail
    refine HS.out.mono ?_
    rintro e w3 ⟨rfl, hw3⟩
    have HSS := Lib.hid (Tryz.Builder_String_any_k w1.heap.size w1.heap.size _ w3 hw3.bl (by have := hw3.below.size; have := HAL.out.size; omega))
    have HB3 := Lib.hid (HB1.out.trans ((HAL.out.trans hw3.below).mono HB1.out.size))
    clear hw3 c0 c1 c2 c3 c4 c5 c6
    go_wp2_with fail
    refine HSS.out.mono ?_
    rintro e w4 ⟨rfl, hbl4, hb4, hk4⟩
    have HB4 := Lib.hid (HB3.out.trans (hb4.mono HB1.out.size))
    clear hbl4 hb4 hk4
    go_wp2_with fail
    go_ret2
    exact ⟨by unfold showR; rw [HC.out, if_pos rfl]; rfl, HB4.out⟩
  · have HC := Lib.hid hc
    have hc2 : (v.check == 0) = false := beq_eq_false_iff_ne.2 hc
    have hc3 : (v.check != 0) = true := by rw [bne, hc2]; rfl
    obtain ⟨z, hz⟩ : ∃ z, v.check = z := ⟨_, rfl⟩
    have HZ := Lib.hid hz
    rw [hz] at hc hc2 hc3 ⊢
    clear hz
    go_wp2_with fail
    go_ret2
    exact ⟨by unfold showR; rw [HZ.out, if_neg (by rw [← HZ.out]; exact HC.out)]; rfl, HB1.out⟩
end Go.Proofs.YtckaoeloofbklaaGreatDoor
namespace Go.Proofs.YtckaoeloofbklaaGreatDoor
section
variable {N : List UInt8 → JV → Prop} {intL fltL : Int → List UInt8} {inf : Int → Bool}
def nmK (k : ByteArray) : ByteArray := ⟨(decB8 k.data.toList).toArray⟩
def Reads (N : List UInt8 → JV → Prop) (intL fltL : Int → List UInt8) (inf : Int → Bool) (v : JV) : Prop :=
  ∀ (n : Nat) (t u : List UInt8), v.formed = true → Rng v → v.deep ≤ n → Bl false (showJ intL fltL v) t → EndV u →
    ∃ o, Val decB8 enc N n (t ++ u) o ∧ ((dupJ v = false ∧ o = .ok (normJ inf v) (skipB u)) ∨ (dupJ v = true ∧ ∃ t', o = .err 162 t'))
theorem Bl.at_mark {c : UInt8} {s t : List UInt8} (hc : markC c = true) (h : Bl false (c :: s) t) : ∃ p q t', t = p ++ c :: (q ++ t') ∧ p.all isBl = true ∧ q.all isBl = true ∧ Bl false s t' := by
  cases h with
  | char h1 h2 =>
    exfalso
    have : (c == 34) = false := by rw [beq_eq_false_iff_ne]; rintro rfl; revert hc; decide
    rw [this, hc] at h1
    simp at h1
  | mark h1 hp hq h2 => exact ⟨_, _, _, rfl, hp, hq, h2⟩
theorem skip_mark (p q t u : List UInt8) (c : UInt8) (hp : p.all isBl = true) (hc : isBl c = false) : skipB (p ++ c :: (q ++ t) ++ u) = c :: (q ++ (t ++ u)) := by
  rw [List.append_assoc, skip_blanks p _ hp, List.cons_append, skip_at c _ hc, List.append_assoc]
theorem end_bl {c : UInt8} {s t : List UInt8} (hc : c = 44 ∨ c = 93 ∨ c = 125) (h : Bl false (c :: s) t) (u : List UInt8) : EndV (t ++ u) := by
  have hm : markC c = true := by rcases hc with rfl | rfl | rfl <;> decide
  obtain ⟨p, q, t', rfl, hp, -, -⟩ := h.at_mark hm
  cases p with
  | nil => exact .inr hc
  | cons b p =>
    rw [List.all_cons, Bool.and_eq_true] at hp
    exact .inl hp.1
theorem rest_head (r : Bool) (e : UInt8) (ks : List ByteArray) (vs : List JV) (he : e = 93 ∨ e = 125) : ∃ c s, showT intL fltL r ks vs ++ [e] = c :: s ∧ (c = 44 ∨ c = 93 ∨ c = 125) := by
  cases vs with
  | nil => exact ⟨e, [], by rw [showT]; rfl, .inr he⟩
  | cons v vs => exact ⟨44, _, by rw [showT]; rfl, .inl rfl⟩
theorem read_one (hN : NumOK N intL fltL inf) (r : Bool) (e : UInt8) (he : e = 93 ∨ e = 125) (n : Nat) (v : JV) (ks : List ByteArray) (vs : List JV) (P : Reads N intL fltL inf v) (hf : v.formed = true) (hr : Rng v) (hd : v.deep ≤ n) (t u : List UInt8)
    (h : Bl false (showJ intL fltL v ++ (showT intL fltL r ks vs ++ [e])) t) :
    ∃ T o, Bl false (showT intL fltL r ks vs ++ [e]) T ∧ Val decB8 enc N n (t ++ u) o ∧ ((dupJ v = false ∧ o = .ok (normJ inf v) (skipB (T ++ u))) ∨ (dupJ v = true ∧ ∃ t', o = .err 162 t')) := by
  obtain ⟨t1, T, rfl, g1, g2⟩ := h.split
  rw [(fst_show hN v hr).2] at g2
  have hE : EndV (T ++ u) := by
    obtain ⟨c, s, e1, hc⟩ := rest_head (intL := intL) (fltL := fltL) r e ks vs he
    rw [e1] at g2
    exact end_bl hc g2 u
  obtain ⟨o, h1, h2⟩ := P n t1 (T ++ u) hf hr hd g1 hE
  exact ⟨T, o, g2, by rw [List.append_assoc]; exact h1, h2⟩
def ResL (inf : Int → Bool) (acc vs : List JV) (u : List UInt8) (o : Out (List JV)) : Prop :=
  (dupL vs = false ∧ ∃ q, q.all isBl = true ∧ o = .ok (acc ++ normL inf vs) (q ++ u)) ∨ (dupL vs = true ∧ ∃ t', o = .err 162 t')
theorem read_t (hN : NumOK N intL fltL inf) (n : Nat) (u : List UInt8) : ∀ (vs acc : List JV) (ks : List ByteArray) (t : List UInt8), (∀ v ∈ vs, Reads N intL fltL inf v) → (∀ v ∈ vs, v.formed = true) → (∀ v ∈ vs, Rng v) → (∀ v ∈ vs, v.deep ≤ n) →
    Bl false (showT intL fltL false ks vs ++ [93]) t → ∃ o, Sev 93 (OneL (Val decB8 enc N n)) acc (skipB (t ++ u)) o ∧ ResL inf acc vs u o
  | [], acc, ks, t, _, _, _, _, h => by
    rw [showT, List.nil_append] at h
    obtain ⟨p, q, t', rfl, hp, hq, h'⟩ := h.at_mark (by decide)
    cases h'
    rw [skip_mark _ _ _ _ _ hp (by decide)]
    refine ⟨_, .stop, .inl ⟨rfl, q, hq, ?_⟩⟩
    rw [normL, List.append_nil, List.nil_append]
  | v :: vs, acc, ks, t, hP, hf, hr, hd, h => by
    rw [showT, if_neg (by decide), List.nil_append, List.cons_append, List.cons_append, List.append_assoc] at h
    obtain ⟨p, q, t', rfl, hp, hq, h'⟩ := h.at_mark (by decide)
    rw [skip_mark _ _ _ _ _ hp (by decide)]
    obtain ⟨T, o1, g2, h1, h2⟩ := read_one hN false 93 (.inl rfl) n v ks.tail vs (hP v (by simp)) (hf v (by simp)) (hr v (by simp)) (hd v (by simp)) t' u h'
    have h1 := val_skip (N := N) (t' ++ u) (q ++ (t' ++ u)) (skip_blanks q _ hq).symm n h1
    rcases h2 with ⟨hdu, rfl⟩ | ⟨hdu, t2, rfl⟩
    · obtain ⟨o, h3, h4⟩ := read_t hN n u vs (acc ++ [normJ inf v]) ks.tail T (fun x hx => hP x (by simp [hx])) (fun x hx => hf x (by simp [hx])) (fun x hx => hr x (by simp [hx])) (fun x hx => hd x (by simp [hx])) g2
      refine ⟨o, .more (.ok h1) h3, ?_⟩
      unfold ResL at h4 ⊢
      rw [dupL, hdu, Bool.false_or, normL]
      rw [List.append_assoc, List.singleton_append] at h4
      exact h4
    · refine ⟨_, .bad (.err h1), .inr ⟨?_, t2, rfl⟩⟩
      rw [dupL, hdu]; rfl
theorem fst_skip {s t : List UInt8} (hs : Fst s) (h : Bl false s t) (u : List UInt8) (e : UInt8) (he : e = 93 ∨ e = 125) : Ends (· == e) (skipB (t ++ u)) := by
  obtain ⟨⟨c, l, rfl, h1, h2, h3⟩, -⟩ := hs
  have hce : (c == e) = false := by rw [beq_eq_false_iff_ne]; rintro rfl; rcases he with h | h <;> contradiction
  cases h with
  | char g1 g2 => rw [List.cons_append, skip_at _ _ h1]; exact hce
  | mark g1 hp hq g2 => rw [skip_mark _ _ _ _ _ hp h1]; exact hce
theorem read_l0 (hN : NumOK N intL fltL inf) (n : Nat) (u : List UInt8) (vs : List JV) (ks : List ByteArray) (t : List UInt8) (hP : ∀ v ∈ vs, Reads N intL fltL inf v) (hf : ∀ v ∈ vs, v.formed = true) (hr : ∀ v ∈ vs, Rng v) (hd : ∀ v ∈ vs, v.deep ≤ n)
    (h : Bl false ((showT intL fltL false ks vs).drop 1 ++ [93]) t) : ∃ o, Sev0 93 (OneL (Val decB8 enc N n)) [] (skipB (t ++ u)) o ∧ ResL inf [] vs u o := by
  cases vs with
  | nil =>
    rw [showT] at h
    obtain ⟨p, q, t', rfl, hp, hq, h'⟩ := h.at_mark (by decide)
    cases h'
    rw [skip_mark _ _ _ _ _ hp (by decide)]
    refine ⟨_, .stop, .inl ⟨rfl, q, hq, ?_⟩⟩
    rw [normL, List.append_nil, List.nil_append]
  | cons v vs =>
    rw [showT, if_neg (by decide), List.nil_append, List.cons_append, List.drop_one, List.tail_cons, List.append_assoc] at h
    have hE : Ends (· == 93) (skipB (t ++ u)) := by
      obtain ⟨t1, T, rfl, g1, -⟩ := h.split
      rw [List.append_assoc]
      exact fst_skip (fst_show hN v (hr v (by simp))) g1 _ 93 (.inl rfl)
    obtain ⟨T, o1, g2, h1, h2⟩ := read_one hN false 93 (.inl rfl) n v ks.tail vs (hP v (by simp)) (hf v (by simp)) (hr v (by simp)) (hd v (by simp)) t u h
    have h1 := val_skip (N := N) (t ++ u) (skipB (t ++ u)) (skip_skip _).symm n h1
    rcases h2 with ⟨hdu, rfl⟩ | ⟨hdu, t2, rfl⟩
    · obtain ⟨o, h3, h4⟩ := read_t hN n u vs [normJ inf v] ks.tail T (fun x hx => hP x (by simp [hx])) (fun x hx => hf x (by simp [hx])) (fun x hx => hr x (by simp [hx])) (fun x hx => hd x (by simp [hx])) g2
      refine ⟨o, .more hE (.ok h1) h3, ?_⟩
      unfold ResL at h4 ⊢
      rw [dupL, hdu, Bool.false_or, normL]
      exact h4
    · refine ⟨_, .bad hE (.err h1), .inr ⟨?_, t2, rfl⟩⟩
      rw [dupL, hdu]; rfl
end
end Go.Proofs.YtckaoeloofbklaaGreatDoor
namespace Go.Proofs.YtckaoeloofbklaaGreatDoor
section
variable {N : List UInt8 → JV → Prop} {intL fltL : Int → List UInt8} {inf : Int → Bool}
theorem read_kv (hN : NumOK N intL fltL inf) (n : Nat) (v : JV) (k : ByteArray) (ks : List ByteArray) (vs : List JV) (P : Reads N intL fltL inf v) (hf : v.formed = true) (hr : Rng v) (hd : v.deep ≤ n) (t u X : List UInt8) (aK : List ByteArray) (aV : List JV)
    (h : Bl false (quoL k.data.toList ++ [58] ++ showJ intL fltL v ++ (showT intL fltL true ks vs ++ [125])) t) (hX : skipB X = skipB (t ++ u)) :
    (∃ t1, t = 34 :: t1) ∧ ∃ T o, Bl false (showT intL fltL true ks vs ++ [125]) T ∧ OneR decB8 enc (Val decB8 enc N n) (aK, aV) X o ∧
      ((nmK k ∉ aK ∧ dupJ v = false ∧ o = .ok (aK ++ [nmK k], aV ++ [normJ inf v]) (skipB (T ++ u))) ∨ ((nmK k ∈ aK ∨ dupJ v = true) ∧ ∃ t', o = .err 162 t')) := by
  rw [List.append_assoc, List.append_assoc] at h
  obtain ⟨T1, rfl, h1⟩ := h.quoted
  rw [List.singleton_append] at h1
  obtain ⟨p, q, T2, rfl, hp, hq, h2⟩ := h1.at_mark (by decide)
  obtain ⟨T, o1, g2, g1, g3⟩ := read_one hN true 125 (.inr rfl) n v ks vs P hf hr hd T2 u h2
  have g1 := val_skip (N := N) (T2 ++ u) (q ++ (T2 ++ u)) (skip_blanks q _ hq).symm n g1
  have e1 : skipB X = 34 :: (quoI k.data.toList ++ 34 :: (p ++ 58 :: (q ++ T2) ++ u)) := by
    rw [hX, List.cons_append, skip_at _ _ (by decide), List.append_assoc, List.cons_append]
  have hS := str_quoted k.data.toList (p ++ 58 :: (q ++ T2) ++ u)
  have e2 : skipB (p ++ 58 :: (q ++ T2) ++ u) = 58 :: (q ++ (T2 ++ u)) := skip_mark _ _ _ _ _ hp (by decide)
  refine ⟨⟨_, rfl⟩, T, ?_⟩
  by_cases hk : nmK k ∈ aK
  · exact ⟨_, g2, .twice e1 hS hk, .inr ⟨.inl hk, _, rfl⟩⟩
  · rcases g3 with ⟨hdu, rfl⟩ | ⟨hdu, t2, rfl⟩
    · exact ⟨_, g2, .ok e1 hS hk e2 g1, .inl ⟨hk, hdu, rfl⟩⟩
    · exact ⟨_, g2, .err e1 hS hk e2 g1, .inr ⟨.inr hdu, _, rfl⟩⟩
def ResR (inf : Int → Bool) (aK : List ByteArray) (aV : List JV) (ks : List ByteArray) (vs : List JV) (u : List UInt8) (o : Out (List ByteArray × List JV)) : Prop :=
  ((aK ++ ks.map nmK).Nodup ∧ dupL vs = false ∧ ∃ q, q.all isBl = true ∧ o = .ok (aK ++ ks.map nmK, aV ++ normL inf vs) (q ++ u)) ∨ ((¬ (aK ++ ks.map nmK).Nodup ∨ dupL vs = true) ∧ ∃ t', o = .err 162 t')
theorem nodup_in {aK : List ByteArray} {k : ByteArray} {l : List ByteArray} (h : k ∈ aK) : ¬ (aK ++ k :: l).Nodup := by
  rw [List.nodup_append]
  rintro ⟨-, -, h3⟩
  exact h3 k h k (by simp) rfl
theorem res_step {aK : List ByteArray} {aV : List JV} {k : ByteArray} {ks : List ByteArray} {v : JV} {vs : List JV} {u : List UInt8} {o : Out (List ByteArray × List JV)} (hdu : dupJ v = false)
    (h : ResR inf (aK ++ [nmK k]) (aV ++ [normJ inf v]) ks vs u o) : ResR inf aK aV (k :: ks) (v :: vs) u o := by
  unfold ResR at h ⊢
  rw [dupL, hdu, Bool.false_or, normL, List.map_cons]
  rw [List.append_assoc, List.singleton_append, List.append_assoc, List.singleton_append] at h
  exact h
theorem res_bad {aK : List ByteArray} {aV : List JV} {k : ByteArray} {ks : List ByteArray} {v : JV} {vs : List JV} {u t' : List UInt8} (h : nmK k ∈ aK ∨ dupJ v = true) :
    ResR inf aK aV (k :: ks) (v :: vs) u (.err 162 t') := by
  refine .inr ⟨?_, t', rfl⟩
  rcases h with h | h
  · exact .inl (nodup_in h)
  · right; rw [dupL, h]; rfl
theorem read_tr (hN : NumOK N intL fltL inf) (n : Nat) (u : List UInt8) : ∀ (vs : List JV) (ks aK : List ByteArray) (aV : List JV) (t : List UInt8), ks.length = vs.length → aK.Nodup → (∀ v ∈ vs, Reads N intL fltL inf v) → (∀ v ∈ vs, v.formed = true) → (∀ v ∈ vs, Rng v) → (∀ v ∈ vs, v.deep ≤ n) →
    Bl false (showT intL fltL true ks vs ++ [125]) t → ∃ o, Sev 125 (OneR decB8 enc (Val decB8 enc N n)) (aK, aV) (skipB (t ++ u)) o ∧ ResR inf aK aV ks vs u o
  | [], ks, aK, aV, t, hl, hK, _, _, _, _, h => by
    have : ks = [] := List.eq_nil_of_length_eq_zero hl
    subst this
    rw [showT, List.nil_append] at h
    obtain ⟨p, q, t', rfl, hp, hq, h'⟩ := h.at_mark (by decide)
    cases h'
    rw [skip_mark _ _ _ _ _ hp (by decide)]
    refine ⟨_, .stop, .inl ⟨?_, rfl, q, hq, ?_⟩⟩
    · rw [List.map_nil, List.append_nil]; exact hK
    · rw [normL, List.map_nil, List.append_nil, List.append_nil, List.nil_append]
  | v :: vs, [], aK, aV, t, hl, _, _, _, _, _, _ => by simp at hl
  | v :: vs, k :: ks, aK, aV, t, hl, hK, hP, hf, hr, hd, h => by
    rw [showT, if_pos rfl, List.headD_cons, List.tail_cons, List.cons_append, List.cons_append, List.append_assoc] at h
    obtain ⟨p, q, t', rfl, hp, hq, h'⟩ := h.at_mark (by decide)
    rw [skip_mark _ _ _ _ _ hp (by decide)]
    obtain ⟨-, T, o1, g2, h1, h2⟩ := read_kv hN n v k ks vs (hP v (by simp)) (hf v (by simp)) (hr v (by simp)) (hd v (by simp)) t' u (q ++ (t' ++ u)) aK aV h' (skip_blanks q _ hq)
    rcases h2 with ⟨hk, hdu, rfl⟩ | ⟨hdu, t2, rfl⟩
    · obtain ⟨o, h3, h4⟩ := read_tr hN n u vs ks (aK ++ [nmK k]) (aV ++ [normJ inf v]) T (by simpa using hl) (by
        rw [List.nodup_append]
        refine ⟨hK, by simp, fun a ha b hb => ?_⟩
        simp only [List.mem_singleton] at hb
        subst hb
        rintro rfl
        exact hk ha) (fun x hx => hP x (by simp [hx])) (fun x hx => hf x (by simp [hx])) (fun x hx => hr x (by simp [hx])) (fun x hx => hd x (by simp [hx])) g2
      exact ⟨o, .more h1 h3, res_step hdu h4⟩
    · exact ⟨_, .bad h1, res_bad hdu⟩
theorem read_r0 (hN : NumOK N intL fltL inf) (n : Nat) (u : List UInt8) (vs : List JV) (ks : List ByteArray) (t : List UInt8) (hl : ks.length = vs.length) (hP : ∀ v ∈ vs, Reads N intL fltL inf v) (hf : ∀ v ∈ vs, v.formed = true) (hr : ∀ v ∈ vs, Rng v) (hd : ∀ v ∈ vs, v.deep ≤ n)
    (h : Bl false ((showT intL fltL true ks vs).drop 1 ++ [125]) t) : ∃ o, Sev0 125 (OneR decB8 enc (Val decB8 enc N n)) ([], []) (skipB (t ++ u)) o ∧ ResR inf [] [] ks vs u o := by
  cases vs with
  | nil =>
    have : ks = [] := List.eq_nil_of_length_eq_zero hl
    subst this
    rw [showT] at h
    obtain ⟨p, q, t', rfl, hp, hq, h'⟩ := h.at_mark (by decide)
    cases h'
    rw [skip_mark _ _ _ _ _ hp (by decide)]
    refine ⟨_, .stop, .inl ⟨by simp, rfl, q, hq, ?_⟩⟩
    rw [normL, List.map_nil, List.append_nil, List.append_nil, List.nil_append]
  | cons v vs =>
    cases ks with
    | nil => simp at hl
    | cons k ks =>
      rw [showT, if_pos rfl, List.headD_cons, List.tail_cons, List.cons_append, List.drop_one, List.tail_cons, List.append_assoc] at h
      obtain ⟨⟨t1, rfl⟩, T, o1, g2, h1, h2⟩ := read_kv hN n v k ks vs (hP v (by simp)) (hf v (by simp)) (hr v (by simp)) (hd v (by simp)) t u (skipB (t ++ u)) [] [] h (skip_skip _)
      have hE : Ends (· == 125) (skipB (34 :: t1 ++ u)) := by
        rw [List.cons_append, skip_at _ _ (by decide)]
        show ((34 : UInt8) == 125) = false
        decide
      rcases h2 with ⟨hk, hdu, rfl⟩ | ⟨hdu, t2, rfl⟩
      · obtain ⟨o, h3, h4⟩ := read_tr hN n u vs ks ([] ++ [nmK k]) ([] ++ [normJ inf v]) T (by simpa using hl) (by simp) (fun x hx => hP x (by simp [hx])) (fun x hx => hf x (by simp [hx])) (fun x hx => hr x (by simp [hx])) (fun x hx => hd x (by simp [hx])) g2
        exact ⟨o, .more hE h1 h3, res_step hdu h4⟩
      · exact ⟨_, .bad hE h1, res_bad hdu⟩
end
end Go.Proofs.YtckaoeloofbklaaGreatDoor
