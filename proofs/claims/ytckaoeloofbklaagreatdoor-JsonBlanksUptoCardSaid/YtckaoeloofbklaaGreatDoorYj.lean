/- Joined texts: Pb Um Un Pe Pg. Each begins with its own remark. -/
import Derived.Test.YtckaoeloofbklaaGreatDoorYd
import Derived.Test.YtckaoeloofbklaaGreatDoorYi
import Derived.Deep.WholeRow
import Derived.OwnWalk
import Derived.Deep.RegionHeld
import Derived.Deep.QuietTactic
import Derived.BigQuiet
import Derived.Deep.DeepCutAuto
import Derived.Deep.LoopGhost
import Derived.WalkMore
import Derived.Deep.CutBlock
namespace Go.Proofs.YtckaoeloofbklaaGreatDoor
open Go Go.RowKit
def nextL : List Nat := [0, 0, 0, 0, 0, 0, 0, 0, 2, 3, 5, 0, 0, 0, 0, 0, 0, 12, 8, 0, 0, 0, 3, 3, 12, 8, 0, 4, 0, 3, 3, 0, 0, 0, 0, 0, 6, 6, 0, 0, 0, 0, 0, 6, 6, 0, 8, 0, 7, 0, 6, 6, 0, 0, 0, 0, 0, 10, 10, 0, 0, 9, 0, 0, 10, 10, 0, 0, 0, 0, 0, 10, 10, 0, 0, 0, 11, 0, 10, 10, 0, 0, 0, 0, 0, 6, 6, 0, 8, 0, 0]
def nextN (s c : Nat) : Nat := nextL.getD (s * 7 + c) 0
def nextV : Array Value := (nextL.map fun n => Value.int .i64 (n : Nat)).toArray
def zeroV : Array Value := #[.int .i64 0, .int .i64 0, .int .i64 0, .int .i64 0, .int .i64 0, .int .i64 0, .int .i64 0, .int .i64 0, .int .i64 0, .int .i64 0, .int .i64 0, .int .i64 0, .int .i64 0, .int .i64 0, .int .i64 0, .int .i64 0, .int .i64 0, .int .i64 0, .int .i64 0, .int .i64 0, .int .i64 0, .int .i64 0, .int .i64 0, .int .i64 0, .int .i64 0, .int .i64 0, .int .i64 0, .int .i64 0, .int .i64 0, .int .i64 0, .int .i64 0, .int .i64 0, .int .i64 0, .int .i64 0, .int .i64 0, .int .i64 0, .int .i64 0, .int .i64 0, .int .i64 0, .int .i64 0, .int .i64 0, .int .i64 0, .int .i64 0, .int .i64 0, .int .i64 0, .int .i64 0, .int .i64 0, .int .i64 0, .int .i64 0, .int .i64 0, .int .i64 0, .int .i64 0, .int .i64 0, .int .i64 0, .int .i64 0, .int .i64 0, .int .i64 0, .int .i64 0, .int .i64 0, .int .i64 0, .int .i64 0, .int .i64 0, .int .i64 0, .int .i64 0, .int .i64 0, .int .i64 0, .int .i64 0, .int .i64 0, .int .i64 0, .int .i64 0, .int .i64 0, .int .i64 0, .int .i64 0, .int .i64 0, .int .i64 0, .int .i64 0, .int .i64 0, .int .i64 0, .int .i64 0, .int .i64 0, .int .i64 0, .int .i64 0, .int .i64 0, .int .i64 0, .int .i64 0, .int .i64 0, .int .i64 0, .int .i64 0, .int .i64 0, .int .i64 0, .int .i64 0]
set_option maxRecDepth 100000 in
theorem next_build (W : World) : (Instr.build 208 #[(1, .agg #[.int .i64 0, .int .i64 2, .int .i64 3, .int .i64 5, .int .i64 0, .int .i64 0, .int .i64 0]), (2, .agg #[.int .i64 0, .int .i64 0, .int .i64 0, .int .i64 12, .int .i64 8, .int .i64 0, .int .i64 0]), (3, .agg #[.int .i64 0, .int .i64 3, .int .i64 3, .int .i64 12, .int .i64 8, .int .i64 0, .int .i64 4]), (4, .agg #[.int .i64 0, .int .i64 3, .int .i64 3, .int .i64 0, .int .i64 0, .int .i64 0, .int .i64 0]), (5, .agg #[.int .i64 0, .int .i64 6, .int .i64 6, .int .i64 0, .int .i64 0, .int .i64 0, .int .i64 0]), (6, .agg #[.int .i64 0, .int .i64 6, .int .i64 6, .int .i64 0, .int .i64 8, .int .i64 0, .int .i64 7]), (7, .agg #[.int .i64 0, .int .i64 6, .int .i64 6, .int .i64 0, .int .i64 0, .int .i64 0, .int .i64 0]), (8, .agg #[.int .i64 0, .int .i64 10, .int .i64 10, .int .i64 0, .int .i64 0, .int .i64 9, .int .i64 0]), (9, .agg #[.int .i64 0, .int .i64 10, .int .i64 10, .int .i64 0, .int .i64 0, .int .i64 0, .int .i64 0]), (10, .agg #[.int .i64 0, .int .i64 10, .int .i64 10, .int .i64 0, .int .i64 0, .int .i64 0, .int .i64 11]), (11, .agg #[.int .i64 0, .int .i64 10, .int .i64 10, .int .i64 0, .int .i64 0, .int .i64 0, .int .i64 0]), (12, .agg #[.int .i64 0, .int .i64 6, .int .i64 6, .int .i64 0, .int .i64 8, .int .i64 0, .int .i64 0])]).run Tryz.prog W = .ok (.agg nextV) W := by kernel_rfl
theorem next_size : nextV.size = 91 := by kernel_rfl
theorem next_cells (W : World) : (storeCells ⟨W.heap.size, 0, Option.none⟩ nextV.toList 0).run Tryz.prog (W.alloc (.cells zeroV 208)) = .ok () (W.alloc (.cells nextV 208)) :=
  run_storeCells_new W _ zeroV nextV (by kernel_rfl) (by rfl) (by kernel_rfl)
theorem addr_add (b o k : Nat) : Addr.add ⟨b, o, Option.none⟩ k = ⟨b, o + k, Option.none⟩ := by unfold Addr.add; split <;> simp_all
theorem at_row (W : World) (b o q : Nat) (h : q < 13) : (Instr.indexAt 208 (.pointer (some ⟨b, o, Option.none⟩)) (.int .i64 (q : Nat))).run Tryz.prog W = .ok (.pointer (some ⟨b, o + q * 7, Option.none⟩)) W := by
  have hl : Tryz.prog.arrayLen 208 = 13 := by kernel_rfl
  have hs : (sizeOf (Tryz.prog.elem 208)).run Tryz.prog W = .ok 7 W := by kernel_rfl
  rw [run_indexAt_array (h := by kernel_rfl), hl, if_pos (by omega), hs]
  show Result.ok (Value.pointer (some (Addr.add ⟨b, o, Option.none⟩ ((q : Int).toNat * 7)))) W = _
  rw [Int.toNat_natCast, addr_add]
theorem at_cell (W : World) (b o q : Nat) (h : q < 7) : (Instr.indexAt 207 (.pointer (some ⟨b, o, Option.none⟩)) (.int .i64 (q : Nat))).run Tryz.prog W = .ok (.pointer (some ⟨b, o + q, Option.none⟩)) W := by
  have hl : Tryz.prog.arrayLen 207 = 7 := by kernel_rfl
  have hs : (sizeOf (Tryz.prog.elem 207)).run Tryz.prog W = .ok 1 W := by kernel_rfl
  rw [run_indexAt_array (h := by kernel_rfl), hl, if_pos (by omega), hs]
  show Result.ok (Value.pointer (some (Addr.add ⟨b, o, Option.none⟩ ((q : Int).toNat * 1)))) W = _
  rw [Int.toNat_natCast, addr_add, Nat.mul_one]
theorem next_is (i : Nat) (h : i < 91) : nextV[i]? = some (.int .i64 ((nextL.getD i 0 : Nat) : Int)) := by
  have hl : i < nextL.length := h
  unfold nextV
  rw [List.getElem?_toArray, List.getElem?_map, List.getElem?_eq_getElem hl, List.getD_eq_getElem?_getD, List.getElem?_eq_getElem hl]
  rfl
theorem row_1 (W : World) : (Instr.build 207 #[(1, .int .i64 2), (2, .int .i64 3), (3, .int .i64 5)]).run Tryz.prog W = .ok (.agg #[.int .i64 0, .int .i64 2, .int .i64 3, .int .i64 5, .int .i64 0, .int .i64 0, .int .i64 0]) W := by kernel_rfl
theorem row_2 (W : World) : (Instr.build 207 #[(3, .int .i64 12), (4, .int .i64 8)]).run Tryz.prog W = .ok (.agg #[.int .i64 0, .int .i64 0, .int .i64 0, .int .i64 12, .int .i64 8, .int .i64 0, .int .i64 0]) W := by kernel_rfl
theorem row_3 (W : World) : (Instr.build 207 #[(1, .int .i64 3), (2, .int .i64 3), (3, .int .i64 12), (4, .int .i64 8), (6, .int .i64 4)]).run Tryz.prog W = .ok (.agg #[.int .i64 0, .int .i64 3, .int .i64 3, .int .i64 12, .int .i64 8, .int .i64 0, .int .i64 4]) W := by kernel_rfl
theorem row_4 (W : World) : (Instr.build 207 #[(1, .int .i64 3), (2, .int .i64 3)]).run Tryz.prog W = .ok (.agg #[.int .i64 0, .int .i64 3, .int .i64 3, .int .i64 0, .int .i64 0, .int .i64 0, .int .i64 0]) W := by kernel_rfl
theorem row_5 (W : World) : (Instr.build 207 #[(1, .int .i64 6), (2, .int .i64 6)]).run Tryz.prog W = .ok (.agg #[.int .i64 0, .int .i64 6, .int .i64 6, .int .i64 0, .int .i64 0, .int .i64 0, .int .i64 0]) W := by kernel_rfl
theorem row_6 (W : World) : (Instr.build 207 #[(1, .int .i64 6), (2, .int .i64 6), (4, .int .i64 8), (6, .int .i64 7)]).run Tryz.prog W = .ok (.agg #[.int .i64 0, .int .i64 6, .int .i64 6, .int .i64 0, .int .i64 8, .int .i64 0, .int .i64 7]) W := by kernel_rfl
theorem row_8 (W : World) : (Instr.build 207 #[(1, .int .i64 10), (2, .int .i64 10), (5, .int .i64 9)]).run Tryz.prog W = .ok (.agg #[.int .i64 0, .int .i64 10, .int .i64 10, .int .i64 0, .int .i64 0, .int .i64 9, .int .i64 0]) W := by kernel_rfl
theorem row_9 (W : World) : (Instr.build 207 #[(1, .int .i64 10), (2, .int .i64 10)]).run Tryz.prog W = .ok (.agg #[.int .i64 0, .int .i64 10, .int .i64 10, .int .i64 0, .int .i64 0, .int .i64 0, .int .i64 0]) W := by kernel_rfl
theorem row_10 (W : World) : (Instr.build 207 #[(1, .int .i64 10), (2, .int .i64 10), (6, .int .i64 11)]).run Tryz.prog W = .ok (.agg #[.int .i64 0, .int .i64 10, .int .i64 10, .int .i64 0, .int .i64 0, .int .i64 0, .int .i64 11]) W := by kernel_rfl
theorem row_12 (W : World) : (Instr.build 207 #[(1, .int .i64 6), (2, .int .i64 6), (4, .int .i64 8)]).run Tryz.prog W = .ok (.agg #[.int .i64 0, .int .i64 6, .int .i64 6, .int .i64 0, .int .i64 8, .int .i64 0, .int .i64 0]) W := by kernel_rfl
theorem cls_lt (c : Nat) : clsN c < 7 := by
  unfold clsN
  repeat (split; · omega)
  omega
def stN (l : List UInt8) : Nat := l.foldl (fun q c => nextN q (clsN c.toNat)) 1
def endB (q : Nat) : Bool := q == 2 || q == 3 || q == 6 || q == 10 || q == 12
def decB (l : List UInt8) : Bool := endB (stN l)
theorem next_lt : ∀ q c, nextN q c < 13 := by
  intro q c
  unfold nextN
  by_cases h : q * 7 + c < 91
  · have key : ∀ i : Fin 91, nextL.getD i.val 0 < 13 := by decide +kernel
    exact key ⟨_, h⟩
  · rw [List.getD_eq_getElem?_getD, List.getElem?_eq_none (by show nextL.length ≤ _; exact Nat.not_lt.1 h)]; decide
theorem next_zero (c : Nat) (h : c < 7) : nextN 0 c = 0 := by
  have key : ∀ i : Fin 7, nextN 0 i.val = 0 := by decide +kernel
  exact key ⟨c, h⟩
theorem fold_zero : ∀ l : List UInt8, l.foldl (fun q c => nextN q (clsN c.toNat)) 0 = 0
  | [] => rfl
  | x :: l => by rw [List.foldl_cons, next_zero _ (cls_lt _)]; exact fold_zero l
theorem st_step (s : ByteArray) (k : Nat) (h : k < s.size) : stN (s.data.toList.take (k + 1)) = nextN (stN (s.data.toList.take k)) (clsN (s[k].toNat)) := by
  have hl : k < s.data.toList.length := by simpa using h
  unfold stN
  rw [List.take_succ_eq_append_getElem hl, List.foldl_append]
  rfl
theorem st_stop (s : ByteArray) (k : Nat) (h : stN (s.data.toList.take k) = 0) : decB s.data.toList = false := by
  unfold decB
  have : stN s.data.toList = 0 := by
    conv => lhs; rw [← List.take_append_drop k s.data.toList]
    unfold stN at *
    rw [List.foldl_append, h]; exact fold_zero _
  rw [this]; rfl
attribute [-go_sem] Instr.build in
set_option maxRecDepth 100000 in
set_option maxHeartbeats 1000000 in
theorem decimal_any (s : ByteArray) (w : World) (hs : s.size ≤ 1000) :
    Calls Tryz.prog 161 #[.string s] w fun e w' => e = .returned (.bool (decB s.data.toList)) ∧ Below w.heap.size w w' := by
  have hb := next_build
  have hsz := next_size
  have hst := next_cells
  have hr1 := row_1
  have hr2 := row_2
  have hr3 := row_3
  have hr4 := row_4
  have hr5 := row_5
  have hr6 := row_6
  have hr8 := row_8
  have hr9 := row_9
  have hr10 := row_10
  have hr12 := row_12
  rw [show zeroV = Tryz.zeroCells208 from by kernel_rfl] at hst
  have hnx : ∀ i, i < 91 → nextV[i]? = some (.int .i64 ((nextL.getD i 0 : Nat) : Int)) := next_is
  generalize nextV = NV at *
  go_enter Tryz.func161, Tryz.ntmps161
  go_wp2_with fail
  go_loopw [4, 5, 21] (fun st _ i wr => ∃ k q : Nat, k ≤ s.size ∧ q < 13 ∧ q = stN (s.data.toList.take k) ∧ st = .int .i64 q ∧ i = .int .i64 k ∧ Below w.heap.size w wr ∧ wr.heap[w.heap.size]? = some (.cells NV 208 (0, 0))) (fun _ _ i _ => s.size - (intOf i).toNat)
  case atStart => exact ⟨0, 1, Nat.zero_le _, by decide, by simp [stN], rfl, rfl, (Below.refl _ _).alloc (Nat.le_refl _) _, heap_alloc_last w _⟩
  case round =>
    obtain ⟨k, q, hk, hq, hst2, rfl, rfl, hb, hcell⟩ := hrel
    have HST := Lib.hid hst2
    have HBW := Lib.hid hb
    clear hst2 hb
    by_cases hks : k < s.size
    · have hc7 : clsN (s[k].toNat) < 7 := cls_lt _
      have hc := class_any (s[k].toNat)
      have h256 : s[k].toNat < 256 := s[k].toNat_lt
      have HCL := Lib.hid (fun (W : World) => hc W h256)
      generalize hcc : clsN (s[k].toNat) = c at *
      have hcl : wr.cell? ⟨w.heap.size, q * 7 + c, Option.none⟩ = some (.int .i64 (nextN q c : Nat)) := by
        rw [cell_of_row wr w.heap.size _ _ _ _ hcell]
        exact hnx _ (by omega)
      have HS1 := Lib.hid (st_step s k hks)
      rw [hcc, ← HST.out] at HS1
      have hz13 := next_lt q c
      have HCE := Lib.hid hcell
      generalize nextN q c = z at *
      clear hc h256 hcell
      have hro := fun W => at_row W w.heap.size 0 q hq
      rw [Nat.zero_add] at hro
      have hce := fun W => at_cell W w.heap.size (q * 7) c hc7
      by_cases hz : z = 0
      · subst hz
        have HF : Hid (decB s.data.toList = false) := Lib.hid (st_stop s (k + 1) HS1.out)
        go_wp2_with fail
        go_quiet ((go_at_call 197; exact Calls.quiet_of_same (HCL.out _)))
        go_wp2
        go_ret
        exact ⟨ret_bool HF.out.symm, bDrewN HBW.out _⟩
      · have hz2 : ((z : Int) == 0) = false := by rw [beq_eq_false_iff_ne]; omega
        have hz3 : ((z : Int) = 0) = False := by simp; omega
        go_wp2_with fail
        go_quiet ((go_at_call 197; exact Calls.quiet_of_same (HCL.out _)))
        go_wp2
        go_roundw
        case rel => exact ⟨k + 1, z, by omega, hz13, HS1.out.symm, rfl, by go_num, bDrewN HBW.out _, HCE.out⟩
        case measure => simp [RowKit.intOf] <;> omega
    · have hke : k = s.size := by omega
      have HE : Hid (decB s.data.toList = endB q) := Lib.hid (by
        unfold decB
        rw [HST.out, hke, List.take_of_length_le (by simp)])
      clear hke HST
      have h13 : q = 0 ∨ q = 1 ∨ q = 2 ∨ q = 3 ∨ q = 4 ∨ q = 5 ∨ q = 6 ∨ q = 7 ∨ q = 8 ∨ q = 9 ∨ q = 10 ∨ q = 11 ∨ q = 12 := by omega
      rcases h13 with rfl | rfl | rfl | rfl | rfl | rfl | rfl | rfl | rfl | rfl | rfl | rfl | rfl
      all_goals
        go_wp2_with fail
        go_ret
        exact ⟨ret_bool HE.out.symm, HBW.out⟩
end Go.Proofs.YtckaoeloofbklaaGreatDoor
namespace Go.Proofs.YtckaoeloofbklaaGreatDoor
open Go Go.RowKit
def mantT (W F : List UInt8) (dot : Bool) : List UInt8 := W ++ (if dot then 46 :: F else [])
def powT (eb : UInt8) (sg X : List UInt8) : List UInt8 := eb :: (sg ++ X)
structure MantF (t W F : List UInt8) (dot : Bool) : Prop where
  eq : t = mantT W F dot
  w : ∀ x ∈ W, isDig x
  f : ∀ x ∈ F, isDig x
  nodot : dot = false → F = []
structure PowF (t : List UInt8) (eb : UInt8) (sg X : List UInt8) : Prop where
  eq : t = powT eb sg X
  eb : eb.toNat = 69 ∨ eb.toNat = 101
  sg : sg = [] ∨ sg = [43] ∨ sg = [45]
  x : ∀ x ∈ X, isDig x
def noBars (l : List UInt8) : List UInt8 := l.filter (· != 95)
theorem dig48 : isDig 48 := ⟨by decide, by decide⟩
theorem mant_w {W : List UInt8} (h : ∀ x ∈ W, isDig x) : MantF W W [] false := ⟨by simp [mantT], h, by simp, fun _ => rfl⟩
theorem stN_snoc (l : List UInt8) (c : UInt8) : stN (l ++ [c]) = nextN (stN l) (clsN c.toNat) := by
  unfold stN; rw [List.foldl_append]; rfl
theorem stN_lt (l : List UInt8) : stN l < 13 := by
  rcases List.eq_nil_or_concat l with rfl | ⟨l', c, rfl⟩
  · decide
  · rw [List.concat_eq_append, stN_snoc]; exact next_lt _ _
theorem snoc_ind {P : List UInt8 → Prop} (h0 : P []) (h1 : ∀ l c, P l → P (l ++ [c])) : ∀ l, P l := by
  have : ∀ n, ∀ l : List UInt8, l.length = n → P l := by
    intro n
    induction n with
    | zero => intro l hl; rw [List.length_eq_zero_iff.1 hl]; exact h0
    | succ n ih =>
      intro l hl
      rcases List.eq_nil_or_concat l with rfl | ⟨l', c, rfl⟩
      · simp at hl
      · rw [List.concat_eq_append] at hl ⊢
        exact h1 l' c (ih l' (by simpa using hl))
  exact fun l => this _ l rfl
end Go.Proofs.YtckaoeloofbklaaGreatDoor
namespace Go.Proofs.YtckaoeloofbklaaGreatDoor
open Go Go.RowKit
structure RF where
  nd : Nat
  nm : Nat
  mant : Nat
  dp : Int
  dot : Bool
  dig : Bool
  tr : Bool
def rf0 : RF := ⟨0, 0, 0, 0, false, false, false⟩
def dv (c : Nat) : Nat := if 48 ≤ c ∧ c ≤ 57 then c - 48 else c - 87
def rfStep (b mx : Nat) (s : RF) (c : UInt8) : RF :=
  if c = 46 then { s with dot := true, dp := s.nd }
  else if c = 48 ∧ s.nd = 0 then { s with dig := true, dp := s.dp - 1 }
  else if s.nm < mx then { s with dig := true, nd := s.nd + 1, nm := s.nm + 1, mant := s.mant * b + dv c.toNat }
  else { s with dig := true, nd := s.nd + 1, tr := s.tr || c != 48 }
def rfF (b mx : Nat) (l : List UInt8) : RF := l.foldl (rfStep b mx) rf0
theorem rf_snoc (b mx : Nat) (l : List UInt8) (c : UInt8) : rfF b mx (l ++ [c]) = rfStep b mx (rfF b mx l) c := by
  unfold rfF; rw [List.foldl_append]; rfl
def dvl (b : Nat) (l : List UInt8) : Nat := l.foldl (fun a c => a * b + dv c.toNat) 0
def dropZ (l : List UInt8) : List UInt8 := l.dropWhile (· == 48)
theorem dvl_snoc (b : Nat) (l : List UInt8) (c : UInt8) : dvl b (l ++ [c]) = dvl b l * b + dv c.toNat := by
  unfold dvl; rw [List.foldl_append]; rfl
theorem dvl_app (b : Nat) (l : List UInt8) : ∀ m : List UInt8, dvl b (l ++ m) = dvl b l * b ^ m.length + dvl b m := by
  refine snoc_ind (by simp [dvl]) fun m c ih => ?_
  rw [← List.append_assoc, dvl_snoc, ih, dvl_snoc, List.length_append, List.length_singleton, Nat.pow_succ, Nat.add_mul]
  rw [Nat.mul_assoc, Nat.add_assoc]
theorem dropZ_snoc (l : List UInt8) (c : UInt8) : dropZ (l ++ [c]) = if c = 48 ∧ dropZ l = [] then [] else dropZ l ++ [c] := by
  unfold dropZ
  rw [List.dropWhile_append]
  by_cases h : List.dropWhile (· == 48) l = []
  · rw [h]
    by_cases hc : c = 48
    · subst hc; simp
    · simp [hc]
  · have : (List.dropWhile (· == 48) l).isEmpty = false := by simpa using h
    rw [this, if_neg (show ¬ (c = 48 ∧ _) from fun h2 => h h2.2)]
    simp
theorem dvl_dropZ (b : Nat) : ∀ l : List UInt8, dvl b (dropZ l) = dvl b l := by
  refine snoc_ind rfl fun l c ih => ?_
  rw [dropZ_snoc, dvl_snoc]
  split
  · rename_i h
    rw [h.2] at ih
    rw [← ih, h.1]
    simp [dvl, dv]
  · rw [dvl_snoc, ih]
structure RFinv (b mx : Nat) (D : List UInt8) (s : RF) : Prop where
  nd : s.nd = (dropZ D).length
  nm : s.nm = min mx (dropZ D).length
  mant : s.mant = dvl b ((dropZ D).take mx)
  tr : s.tr = ((dropZ D).drop mx).any (· != 48)
  dig : s.dig = !D.isEmpty
theorem rf_inv0 (b mx : Nat) : RFinv b mx [] rf0 := ⟨rfl, by simp [rf0, dropZ], by simp [rf0, dropZ, dvl], by simp [rf0, dropZ], rfl⟩
theorem rf_inv_dot (b mx : Nat) (D : List UInt8) (s : RF) (h : RFinv b mx D s) : RFinv b mx D (rfStep b mx s 46) ∧ (rfStep b mx s 46).dot = true ∧ (rfStep b mx s 46).dp = (rfStep b mx s 46).nd := by
  unfold rfStep
  rw [if_pos rfl]
  exact ⟨⟨h.nd, h.nm, h.mant, h.tr, h.dig⟩, rfl, rfl⟩
theorem rf_inv_step (b mx : Nat) (D : List UInt8) (s : RF) (c : UInt8) (h : RFinv b mx D s) (hc : c ≠ 46) :
    RFinv b mx (D ++ [c]) (rfStep b mx s c) ∧ (rfStep b mx s c).dot = s.dot ∧ (rfStep b mx s c).dp - (rfStep b mx s c).nd = s.dp - s.nd - 1 := by
  unfold rfStep
  rw [if_neg hc]
  have hemp : (!(D ++ [c]).isEmpty) = true := by simp
  by_cases h0 : c = 48 ∧ s.nd = 0
  · rw [if_pos h0]
    have hz : dropZ D = [] := List.length_eq_zero_iff.1 (by rw [← h.nd]; exact h0.2)
    have hd : dropZ (D ++ [c]) = [] := by rw [dropZ_snoc, if_pos ⟨h0.1, hz⟩]
    refine ⟨⟨?_, ?_, ?_, ?_, hemp.symm⟩, rfl, by show s.dp - 1 - s.nd = _; omega⟩
    · rw [hd]; exact h0.2
    · rw [hd]; show s.nm = _; rw [h.nm, hz]
    · rw [hd]; show s.mant = _; rw [h.mant, hz]
    · rw [hd]; show s.tr = _; rw [h.tr, hz]
  · rw [if_neg h0]
    have hd : dropZ (D ++ [c]) = dropZ D ++ [c] := by
      rw [dropZ_snoc, if_neg]
      rintro ⟨h1, h2⟩
      exact h0 ⟨h1, by rw [h.nd, h2]; rfl⟩
    by_cases hm : s.nm < mx
    · rw [if_pos hm]
      have hlt : (dropZ D).length < mx := by have := h.nm; omega
      refine ⟨⟨?_, ?_, ?_, ?_, hemp.symm⟩, rfl, by show s.dp - ((s.nd + 1 : Nat) : Int) = _; omega⟩
      · show s.nd + 1 = _; rw [hd, List.length_append, h.nd]; rfl
      · show s.nm + 1 = _; rw [hd, List.length_append, h.nm, List.length_singleton]; omega
      · show s.mant * b + dv c.toNat = _
        rw [hd, h.mant, List.take_of_length_le (by omega), List.take_of_length_le (by rw [List.length_append, List.length_singleton]; omega), dvl_snoc]
      · show s.tr = _
        rw [hd, h.tr, List.drop_eq_nil_of_le (by omega), List.drop_eq_nil_of_le (by rw [List.length_append, List.length_singleton]; omega)]
    · rw [if_neg hm]
      have hlt : mx ≤ (dropZ D).length := by have := h.nm; omega
      refine ⟨⟨?_, ?_, ?_, ?_, hemp.symm⟩, rfl, by show s.dp - ((s.nd + 1 : Nat) : Int) = _; omega⟩
      · show s.nd + 1 = _; rw [hd, List.length_append, h.nd]; rfl
      · show s.nm = _; rw [hd, List.length_append, h.nm]; omega
      · show s.mant = _
        rw [hd, h.mant, List.take_append_of_le_length hlt]
      · show (s.tr || c != 48) = _
        rw [hd, h.tr, List.drop_append_of_le_length hlt, List.any_append]
        simp
theorem rf_digits (b mx : Nat) (D : List UInt8) (s : RF) (h : RFinv b mx D s) : ∀ F : List UInt8, (∀ x ∈ F, x ≠ 46) →
    RFinv b mx (D ++ F) (F.foldl (rfStep b mx) s) ∧ (F.foldl (rfStep b mx) s).dot = s.dot ∧ (F.foldl (rfStep b mx) s).dp - (F.foldl (rfStep b mx) s).nd = s.dp - s.nd - F.length := by
  refine snoc_ind (fun _ => ⟨by simpa using h, rfl, by simp⟩) fun F c ih hF => ?_
  obtain ⟨i1, i2, i3⟩ := ih fun x hx => hF x (List.mem_append_left _ hx)
  rw [List.foldl_append, ← List.append_assoc]
  obtain ⟨k1, k2, k3⟩ := rf_inv_step b mx (D ++ F) _ c i1 (hF c (by simp))
  refine ⟨k1, k2.trans i2, ?_⟩
  show (rfStep b mx _ c).dp - ((rfStep b mx _ c).nd : Int) = _
  rw [k3, i3, List.length_append, List.length_singleton]
  push_cast
  omega
theorem dig_ne46 {x : UInt8} (h : isDig x) : x ≠ 46 := by rintro rfl; exact absurd h.1 (by decide)
theorem rf_mant (b mx : Nat) (M W F : List UInt8) (dot : Bool) (hM : M = mantT W F dot) (hW : ∀ x ∈ W, x ≠ 46) (hF : ∀ x ∈ F, x ≠ 46) (hd : dot = false → F = []) :
    RFinv b mx (W ++ F) (rfF b mx M) ∧ (rfF b mx M).dot = dot ∧ ((if (rfF b mx M).dot then (rfF b mx M).dp else ((rfF b mx M).nd : Int)) - (rfF b mx M).nd = -(F.length : Int)) ∧ -(M.length : Int) ≤ (rfF b mx M).dp ∧ (rfF b mx M).dp ≤ M.length := by
  obtain ⟨i1, i2, i3⟩ := rf_digits b mx [] rf0 (rf_inv0 b mx) W hW
  rw [List.nil_append] at i1
  subst hM
  unfold rfF mantT
  rw [List.foldl_append]
  generalize W.foldl (rfStep b mx) rf0 = s1 at *
  have l1 : (dropZ W).length ≤ W.length := (List.dropWhile_sublist _).length_le
  have hz : (rf0.dp - (rf0.nd : Int)) = 0 := rfl
  have hn1 := i1.nd
  cases dot with
  | false =>
    rw [hd rfl]
    refine ⟨by simpa using i1, i2, ?_, ?_, ?_⟩
    · show (if s1.dot then s1.dp else (s1.nd : Int)) - (s1.nd : Int) = -((0 : Nat) : Int)
      rw [i2]; show (s1.nd : Int) - s1.nd = _; omega
    · show -((W ++ []).length : Int) ≤ s1.dp
      rw [List.append_nil]; omega
    · show s1.dp ≤ ((W ++ []).length : Int)
      rw [List.append_nil]; omega
  | true =>
    obtain ⟨j1, j2, j3⟩ := rf_inv_dot b mx W s1 i1
    show RFinv b mx (W ++ F) (F.foldl (rfStep b mx) (rfStep b mx s1 46)) ∧ _
    obtain ⟨k1, k2, k3⟩ := rf_digits b mx W _ j1 F hF
    have hn2 := j1.nd
    have hn3 := k1.nd
    have l2 : (dropZ (W ++ F)).length ≤ (W ++ F).length := (List.dropWhile_sublist _).length_le
    rw [List.length_append] at l2
    have hdt : (F.foldl (rfStep b mx) (rfStep b mx s1 46)).dot = true := k2.trans j2
    refine ⟨k1, hdt, ?_, ?_, ?_⟩
    · show (if (F.foldl (rfStep b mx) (rfStep b mx s1 46)).dot then (F.foldl (rfStep b mx) (rfStep b mx s1 46)).dp else _) - ((F.foldl (rfStep b mx) (rfStep b mx s1 46)).nd : Int) = _
      rw [hdt, if_pos rfl, k3, j3]; omega
    · show -((W ++ 46 :: F).length : Int) ≤ (F.foldl (rfStep b mx) (rfStep b mx s1 46)).dp
      rw [List.length_append, List.length_cons]; omega
    · show (F.foldl (rfStep b mx) (rfStep b mx s1 46)).dp ≤ ((W ++ 46 :: F).length : Int)
      rw [List.length_append, List.length_cons]; omega
def exF (l : List UInt8) : Nat := l.foldl (fun e c => if e < 10000 then e * 10 + (c.toNat - 48) else e) 0
theorem ex_snoc (l : List UInt8) (c : UInt8) : exF (l ++ [c]) = if exF l < 10000 then exF l * 10 + (c.toNat - 48) else exF l := by
  unfold exF; rw [List.foldl_append]; rfl
theorem ex_lt (l : List UInt8) (h : ∀ x ∈ l, isDig x) : exF l < 100000 := by
  revert h
  refine snoc_ind (P := fun l => (∀ x ∈ l, isDig x) → exF l < 100000) (fun _ => by decide) (fun l c ih h => ?_) l
  rw [ex_snoc]
  have h1 := ih fun x hx => h x (List.mem_append_left _ hx)
  have h2 := h c (by simp)
  unfold isDig at h2
  split <;> omega
theorem dvl_lt (b : Nat) (_hb : 0 < b) (l : List UInt8) (h : ∀ x ∈ l, dv x.toNat < b) : dvl b l < b ^ l.length := by
  revert h
  refine snoc_ind (P := fun l => (∀ x ∈ l, dv x.toNat < b) → dvl b l < b ^ l.length) (fun _ => by simp [dvl]) (fun l c ih h => ?_) l
  rw [dvl_snoc, List.length_append, List.length_singleton, Nat.pow_succ]
  have h1 := ih fun x hx => h x (List.mem_append_left _ hx)
  have h2 := h c (by simp)
  have h3 : (dvl b l + 1) * b ≤ b ^ l.length * b := Nat.mul_le_mul_right b h1
  rw [Nat.add_mul] at h3
  omega
def okD (b : Nat) (x : UInt8) : Prop := isDig x ∨ (b = 16 ∧ 97 ≤ x.toNat ∧ x.toNat ≤ 102)
theorem okD_46 {b : Nat} {x : UInt8} (h : okD b x) : x ≠ 46 := by
  rintro rfl
  rcases h with h | h
  · exact absurd h.1 (by decide)
  · exact absurd h.2.1 (by decide)
theorem okD_dv {b : Nat} {x : UInt8} (hb : 10 ≤ b) (h : okD b x) : dv x.toNat < b := by
  unfold dv
  rcases h with h | ⟨h, h2, h3⟩
  · unfold isDig at h; rw [if_pos h]; omega
  · rw [if_neg (by omega)]; omega
theorem rf_bd (b mx : Nat) (_hb : 10 ≤ b) : ∀ l : List UInt8, (∀ x ∈ l, x = 46 ∨ okD b x) →
    (rfF b mx l).nd ≤ l.length ∧ (rfF b mx l).nm ≤ (rfF b mx l).nd ∧ (rfF b mx l).nm ≤ mx ∧ (rfF b mx l).mant < b ^ (rfF b mx l).nm ∧ -(l.length : Int) ≤ (rfF b mx l).dp ∧ (rfF b mx l).dp ≤ l.length := by
  refine snoc_ind (fun _ => by simp [rfF, rf0]) fun l c ih h => ?_
  obtain ⟨i1, i2, i3, i4, i5, i6⟩ := ih fun x hx => h x (List.mem_append_left _ hx)
  rw [rf_snoc, List.length_append, List.length_singleton]
  generalize rfF b mx l = s at *
  obtain ⟨nd, nm, mant, dp, dot, dig, tr⟩ := s
  simp only at i1 i2 i3 i4 i5 i6
  unfold rfStep
  simp only
  by_cases h46 : c = 46
  · rw [if_pos h46]
    exact ⟨by show nd ≤ _; omega, i2, i3, i4, by show -_ ≤ (nd : Int); omega, by show (nd : Int) ≤ _; omega⟩
  · rw [if_neg h46]
    have hd := okD_dv _hb ((h c (by simp)).resolve_left h46)
    by_cases h0 : c = 48 ∧ nd = 0
    · rw [if_pos h0]
      exact ⟨by show nd ≤ _; omega, i2, i3, i4, by show -_ ≤ dp - 1; push_cast; omega, by show dp - 1 ≤ _; push_cast; omega⟩
    · rw [if_neg h0]
      by_cases hm : nm < mx
      · rw [if_pos hm]
        refine ⟨by show nd + 1 ≤ _; omega, by show nm + 1 ≤ nd + 1; omega, hm, ?_, by show -_ ≤ dp; push_cast; omega, by show dp ≤ _; push_cast; omega⟩
        show mant * b + dv c.toNat < b ^ (nm + 1)
        rw [Nat.pow_succ]
        have h3 : (mant + 1) * b ≤ b ^ nm * b := Nat.mul_le_mul_right b i4
        rw [Nat.add_mul] at h3
        omega
      · rw [if_neg hm]
        exact ⟨by show nd + 1 ≤ _; omega, by show nm ≤ nd + 1; omega, i3, i4, by show -_ ≤ dp; push_cast; omega, by show dp ≤ _; push_cast; omega⟩
theorem mant_mem (b : Nat) (M W F : List UInt8) (dot : Bool) (hM : M = mantT W F dot) (hW : ∀ x ∈ W, okD b x) (hF : ∀ x ∈ F, okD b x) : ∀ x ∈ M, x = 46 ∨ okD b x := by
  subst hM
  intro x hx
  unfold mantT at hx
  rcases List.mem_append.1 hx with h | h
  · exact .inr (hW x h)
  · cases dot with
    | false => simp at h
    | true =>
      rcases List.mem_cons.1 h with h | h
      · exact .inl h
      · exact .inr (hF x h)
theorem mant_point (b mx : Nat) (M W F : List UInt8) (dot : Bool) (hM : M = mantT W F dot) (hW : ∀ x ∈ W, okD b x) (hF : ∀ x ∈ F, okD b x) (k : Nat) (hk : k < M.length) (h : M[k] = 46) : (rfF b mx (M.take k)).dot = false := by
  subst hM
  unfold mantT at h hk ⊢
  by_cases h1 : k < W.length
  · rw [List.getElem_append_left h1] at h
    exact absurd h (okD_46 (hW _ (List.getElem_mem h1)))
  · by_cases h2 : k = W.length
    · rw [h2, List.take_left]
      exact (rf_digits b mx [] rf0 (rf_inv0 b mx) W fun x hx => okD_46 (hW x hx)).2.1
    · cases dot with
      | false => simp at hk; omega
      | true =>
        simp only [if_true] at h hk
        obtain ⟨j, hj⟩ : ∃ j, k = W.length + (j + 1) := ⟨k - W.length - 1, by omega⟩
        subst hj
        rw [List.getElem_append_right (by omega)] at h
        simp only [show W.length + (j + 1) - W.length = j + 1 by omega, List.getElem_cons_succ] at h
        exact absurd h (okD_46 (hF _ (List.getElem_mem _)))
end Go.Proofs.YtckaoeloofbklaaGreatDoor
namespace Go.Proofs.YtckaoeloofbklaaGreatDoor
open Go Go.RowKit
theorem lower_any (c : Int) (w : World) :
    Calls Tryz.prog 191 #[.int .u8 c] w fun e w' => e = .returned (.int .u8 (bits .or .u8 c 32)) ∧ w' = w := by
  go_enter Tryz.func191, Tryz.ntmps191
  go_wp2
  go_ret
  exact ⟨rfl, rfl⟩
theorem low_x (c : Nat) (h : c < 256) (h1 : c ≠ 88) (h2 : c ≠ 120) : (bits .or .u8 (c : Int) 32 == 120) = false := by
  have key : ∀ c : Fin 256, c.val ≠ 88 → c.val ≠ 120 → (bits .or .u8 ((c.val : Nat) : Int) 32 == 120) = false := by decide +kernel
  exact key ⟨c, h⟩ h1 h2
theorem rf_next (b mx : Nat) (M : List UInt8) (k : Nat) (h : k < M.length) (st : RF) (hst : rfF b mx (M.take k) = st) : rfF b mx (M.take (k + 1)) = rfStep b mx st M[k] := by
  rw [List.take_succ_eq_append_getElem h, rf_snoc, hst]
theorem ba_get (s : ByteArray) (k : Nat) (_h : k < s.size) (h2 : k < s.data.toList.length) : s.data.toList[k] = s[k] := by
  rfl
def rfExp (st : RF) (x : Int) : Int := if st.mant = 0 then 0 else (if st.dot then st.dp else (st.nd : Int)) + x - (st.nm : Int)
theorem rfExp_zero (nd nm mant : Nat) (dp : Int) (dt dg tr : Bool) (x : Int) (h : mant = 0) : rfExp ⟨nd, nm, mant, dp, dt, dg, tr⟩ x = 0 := if_pos h
theorem rfExp_dot (nd nm mant : Nat) (dp : Int) (dg tr : Bool) (x : Int) (h : mant ≠ 0) : rfExp ⟨nd, nm, mant, dp, true, dg, tr⟩ x = dp + x - (nm : Int) := if_neg h
theorem rfExp_nodot (nd nm mant : Nat) (dp : Int) (dg tr : Bool) (x : Int) (h : mant ≠ 0) : rfExp ⟨nd, nm, mant, dp, false, dg, tr⟩ x = (nd : Int) + x - (nm : Int) := if_neg h
set_option maxRecDepth 100000 in
set_option maxHeartbeats 4000000 in
theorem rf_plain (s : ByteArray) (w : World) (hs : s.size ≤ 1000) (W F : List UInt8) (dot : Bool) (hM : MantF s.data.toList W F dot) (hne : W ++ F ≠ []) :
    Calls Tryz.prog 248 #[.string s] w fun e w' => e = .returned (.tuple #[.int .u64 (rfF 10 19 s.data.toList).mant, .int .i64 (rfExp (rfF 10 19 s.data.toList) 0), .bool false, .bool (rfF 10 19 s.data.toList).tr, .bool false, .int .i64 s.size, .bool true]) ∧ w' = w := by
  have hlen : s.data.toList.length = s.size := by simp
  have hW : ∀ x ∈ W, okD 10 x := fun x hx => .inl (hM.w x hx)
  have hF : ∀ x ∈ F, okD 10 x := fun x hx => .inl (hM.f x hx)
  have hmem := mant_mem 10 _ W F dot hM.eq hW hF
  have hn0 : 0 < s.size := by
    rw [← hlen, hM.eq]
    unfold mantT
    rcases List.eq_nil_or_concat W with h | ⟨l, c, h⟩
    · subst h
      cases dot with
      | false => rw [hM.nodot rfl] at hne; simp at hne
      | true => simp
    · subst h; rw [List.concat_eq_append]; simp; omega
  have hbyte : ∀ j (h : j < s.size), s[j].toNat = 46 ∨ (48 ≤ s[j].toNat ∧ s[j].toNat ≤ 57) := fun j h => by
    rcases hmem _ (List.getElem_mem (by rw [hlen]; exact h) : s.data.toList[j] ∈ s.data.toList) with h1 | h1 | h1
    · left; rw [ba_get s j h] at h1; rw [h1]; rfl
    · right; rw [ba_get s j h] at h1; exact h1
    · exact absurd h1.1 (by decide)
  have hb0 := hbyte 0 hn0
  have hn1 : decide ((s.size : Int) ≤ 0) = false := by rw [decide_eq_false_iff_not]; omega
  have hn2 : decide (s.size = 0) = false := by rw [decide_eq_false_iff_not]; omega
  have hn3 : ¬ s.size = 0 := by omega
  have hc1 : ((s[0].toNat : Int) == 43) = false := by rw [beq_eq_false_iff_ne]; omega
  have hc2 : ((s[0].toNat : Int) == 45) = false := by rw [beq_eq_false_iff_ne]; omega
  have hx1 : ∀ h : 1 < s.size, (bits .or .u8 ((s[1].toNat : Nat) : Int) 32 == 120) = false := fun h => by
    have := hbyte 1 h
    exact low_x _ s[1].toNat_lt (by omega) (by omega)
  have HX1 := Lib.hid hx1
  have HBY := Lib.hid hbyte
  have HPT := Lib.hid (mant_point 10 19 s.data.toList W F dot hM.eq hW hF)
  have HMT := Lib.hid (rf_mant 10 19 s.data.toList W F dot hM.eq (fun x hx => dig_ne46 (hM.w x hx)) (fun x hx => dig_ne46 (hM.f x hx)) hM.nodot)
  have HMEM := Lib.hid hmem
  have HLEN := Lib.hid hlen
  have HNE := Lib.hid hne
  clear hM hne hlen hW hF hmem hx1 hbyte hb0
  go_enter Tryz.func248, Tryz.ntmps248
  go_wp2_with fail
  go_step3
  go_upto_region 12 with fail
  go_cut [54] from 36 to 54 (fun s54 wx => s54 = .bool false ∧ wx = w)
  case first =>
    by_cases h3 : 2 < s.size
    · have hx := HX1.out (by omega)
      cases h48 : ((s[0].toNat : Int) == 48)
      all_goals
        go_wp2_with (go_at_call 191; refine (lower_any _ _).mono ?_; rintro e w' ⟨rfl, rfl⟩)
        go_meet
        exact ⟨rfl, rfl⟩
    · go_wp2_with fail
      go_meet
      exact ⟨rfl, rfl⟩
  case rest =>
    obtain ⟨rfl, rfl⟩ := hcut
    clear hc1 hc2 HX1
    go_wp2_with fail
    go_step3
    go_wp2_with fail
    go_loopg [2, 5, 7, 9, 13, 14, 15, 16, 17] s.size (fun g s2 s5 s7 s9 s13 s14 s15 s16 s17 wr => ∃ (k nd nm mant : Nat) (dp : Int) (dt dg tr : Bool), k + g = s.size ∧ rfF 10 19 (s.data.toList.take k) = ⟨nd, nm, mant, dp, dt, dg, tr⟩ ∧ s2 = .int .u64 mant ∧ s5 = .bool tr ∧ s7 = .int .i64 k ∧ s9 = .bool false ∧ s13 = .bool dt ∧ s14 = .bool dg ∧ s15 = .int .i64 nd ∧ s16 = .int .i64 nm ∧ s17 = .int .i64 dp ∧ wr = wc)
    case atStart => exact ⟨0, 0, 0, 0, 0, false, false, false, by omega, rfl, rfl, rfl, rfl, rfl, rfl, rfl, rfl, rfl, rfl, rfl⟩
    case round =>
      obtain ⟨k, nd, nm, mant, dp, dt, dg, tr, hkg, hst, rfl, rfl, rfl, rfl, rfl, rfl, rfl, rfl, rfl, rfl⟩ := hrel
      have hbd := rf_bd 10 19 (by decide) (s.data.toList.take k) (fun x hx => HMEM.out x (List.mem_of_mem_take hx))
      rw [hst] at hbd
      simp only at hbd
      have hlk : (s.data.toList.take k).length ≤ k := List.length_take_le _ _
      obtain ⟨b1, b2, b3, b4, b5, b6⟩ := hbd
      have hnd : nd ≤ 1000 := by omega
      have hdp1 : -1000 ≤ dp := by omega
      have hdp2 : dp ≤ 1000 := by omega
      have HST := Lib.hid hst
      by_cases hlt : k < s.size
      · have hpt := HPT.out k (by rw [HLEN.out]; exact hlt)
        have hnx := rf_next 10 19 s.data.toList k (by rw [HLEN.out]; exact hlt) _ hst
        rw [ba_get s k hlt] at hpt hnx
        rw [hst] at hpt
        simp only at hpt
        have hby := HBY.out k hlt
        have HNX := Lib.hid hnx
        have HB4 := Lib.hid b4
        have HPK := Lib.hid hpt
        clear hst hnx b4 hpt b1 b2 b5 b6 hlk
        by_cases h46 : s[k].toNat = 46
        · have hd : dt = false := HPK.out (by rw [← UInt8.ofNat_toNat (x := s[k]), h46]; rfl)
          subst hd
          go_wp2_with fail
          go_roundg (gk - 1)
          case measure => omega
          case rel => exact ⟨k + 1, nd, nm, mant, (nd : Int), true, dg, tr, by omega, by rw [HNX.out, show s[k] = 46 from by rw [← UInt8.ofNat_toNat (x := s[k]), h46]; rfl]; rfl, rfl, rfl, by go_num, rfl, rfl, rfl, rfl, rfl, rfl, rfl⟩
        · have hdg : 48 ≤ s[k].toNat ∧ s[k].toNat ≤ 57 := hby.resolve_left h46
          have hd1 : (48 : Int) ≤ (s[k].toNat : Int) := by omega
          have hd2 : (s[k].toNat : Int) ≤ 57 := by omega
          have t95 : ((s[k].toNat : Int) == 95) = false := by rw [beq_eq_false_iff_ne]; omega
          have t46 : ((s[k].toNat : Int) == 46) = false := by rw [beq_eq_false_iff_ne]; omega
          have HC46 : Hid (s[k] ≠ 46) := Lib.hid fun h => h46 (by rw [h]; rfl)
          have HDV : Hid (dv s[k].toNat = s[k].toNat - 48) := Lib.hid (by unfold dv; rw [if_pos hdg])
          clear h46 hby hdg
          by_cases hz : s[k].toNat = 48 ∧ nd = 0
          · obtain ⟨hz1, rfl⟩ := hz
            have t48 : ((s[k].toNat : Int) == 48) = true := by rw [beq_iff_eq]; omega
            have HZ : Hid (s[k] = 48) := Lib.hid (by rw [← UInt8.ofNat_toNat (x := s[k]), hz1]; rfl)
            clear hz1
            go_wp2_with fail
            go_roundg (gk - 1)
            case measure => omega
            case rel => exact ⟨k + 1, 0, nm, mant, dp - 1, dt, true, tr, by omega, by rw [HNX.out]; unfold rfStep; rw [if_neg HC46.out, if_pos ⟨HZ.out, rfl⟩], rfl, rfl, by go_num, rfl, rfl, rfl, rfl, rfl, rfl, rfl⟩
          · have HZ : Hid (¬ (s[k] = 48 ∧ nd = 0)) := Lib.hid fun h => hz ⟨by rw [h.1]; rfl, h.2⟩
            have hzz : ((s[k].toNat : Int) == 48) = false ∨ ((s[k].toNat : Int) == 48) = true ∧ ((nd : Int) == 0) = false ∧ (nd == 0) = false ∧ ¬ nd = 0 := by
              by_cases h48 : s[k].toNat = 48
              · right; exact ⟨by rw [beq_iff_eq]; omega, by rw [beq_eq_false_iff_ne]; omega, by rw [beq_eq_false_iff_ne]; omega, by omega⟩
              · left; rw [beq_eq_false_iff_ne]; omega
            clear hz
            by_cases hm : nm < 19
            · have hm2 : mant < 1000000000000000000 := Nat.lt_of_lt_of_le HB4.out (Nat.pow_le_pow_right (by decide) (show nm ≤ 18 by omega))
              have tm : decide ((nm : Int) < 19) = true := by rw [decide_eq_true_eq]; omega
              rcases hzz with t48 | ⟨t48, tn, tn2, tn3⟩
              all_goals
                go_wp2_with fail
                go_roundg (gk - 1)
                case measure => omega
                case rel => exact ⟨k + 1, nd + 1, nm + 1, mant * 10 + dv s[k].toNat, dp, dt, true, tr, by omega, by rw [HNX.out]; unfold rfStep; rw [if_neg HC46.out, if_neg HZ.out, if_pos hm], by rw [HDV.out]; go_num, rfl, by go_num, rfl, rfl, rfl, by go_num, by go_num, rfl, rfl⟩
            · have tm : decide ((nm : Int) < 19) = false := by rw [decide_eq_false_iff_not]; omega
              rcases hzz with t48 | ⟨t48, tn, tn2, tn3⟩
              · have t48n : ((s[k].toNat : Int) != 48) = true := by rw [bne, t48]; rfl
                have HN : Hid ((s[k] != 48) = true) := Lib.hid (bne_iff_ne.2 fun h => by rw [h] at t48; exact absurd t48 (by decide))
                go_wp2_with fail
                go_roundg (gk - 1)
                case measure => omega
                case rel => exact ⟨k + 1, nd + 1, nm, mant, dp, dt, true, true, by omega, by rw [HNX.out]; unfold rfStep; rw [if_neg HC46.out, if_neg HZ.out, if_neg hm]; simp only [HN.out, Bool.or_true], rfl, rfl, by go_num, rfl, rfl, rfl, by go_num, rfl, rfl, rfl⟩
              · have t48n : ((s[k].toNat : Int) != 48) = false := by rw [bne, t48]; rfl
                have HN : Hid ((s[k] != 48) = false) := Lib.hid (by
                  rw [bne_eq_false_iff_eq]
                  have h := beq_iff_eq.1 t48
                  rw [← UInt8.ofNat_toNat (x := s[k]), show s[k].toNat = 48 by omega]; rfl)
                go_wp2_with fail
                go_roundg (gk - 1)
                case measure => omega
                case rel => exact ⟨k + 1, nd + 1, nm, mant, dp, dt, true, tr, by omega, by rw [HNX.out]; unfold rfStep; rw [if_neg HC46.out, if_neg HZ.out, if_neg hm]; simp only [HN.out, Bool.or_false], rfl, rfl, by go_num, rfl, rfl, rfl, by go_num, rfl, rfl, rfl⟩
      · have hke : k = s.size := by omega
        have hfull : s.data.toList.take k = s.data.toList := List.take_of_length_le (by rw [HLEN.out]; omega)
        rw [hfull] at hst
        have hmt := HMT.out
        rw [hst] at hmt
        obtain ⟨m1, m2, m3, m4, m5⟩ := hmt
        have hdg : dg = true := by
          have := m1.dig
          simp only at this
          rw [this]
          have := HNE.out
          simpa using this
        subst hdg hke
        have HS := Lib.hid hst
        have HEZ := Lib.hid (fun dt => rfExp_zero nd nm mant dp dt true tr 0)
        have HED := Lib.hid (rfExp_dot nd nm mant dp true tr 0)
        have HEN := Lib.hid (rfExp_nodot nd nm mant dp true tr 0)
        clear b4 b5 b6 hlk b1 m1 m2 m3 m4 m5 hst hfull HST
        by_cases hmz : mant = 0
        · have tz : ((mant : Int) != 0) = false := by rw [bne_eq_false_iff_eq]; omega
          have HMZ := Lib.hid hmz
          clear hmz
          cases dt
          all_goals
            go_wp2_with fail
            try rw [Exit.noGoto_ret]
            refine bodyPost_ret (v := .tuple #[.int .u64 mant, .int .i64 0, .bool false, .bool tr, .bool false, .int .i64 s.size, .bool true]) (by simp [results, Tryz.results248, go_sem]) rfl ⟨by rw [HS.out, HEZ.out _ HMZ.out], rfl⟩
        · have tz : ((mant : Int) != 0) = true := by rw [bne_iff_ne]; omega
          have HMZ := Lib.hid hmz
          clear hmz
          cases dt
          · go_wp2_with fail
            try rw [Exit.noGoto_ret]
            refine bodyPost_ret (v := .tuple #[.int .u64 mant, .int .i64 ((nd : Int) - (nm : Int)), .bool false, .bool tr, .bool false, .int .i64 s.size, .bool true]) (by simp [results, Tryz.results248, go_sem]) rfl ⟨by rw [HS.out, HEN.out HMZ.out, Int.add_zero], rfl⟩
          · go_wp2_with fail
            try rw [Exit.noGoto_ret]
            refine bodyPost_ret (v := .tuple #[.int .u64 mant, .int .i64 (dp - (nm : Int)), .bool false, .bool tr, .bool false, .int .i64 s.size, .bool true]) (by simp [results, Tryz.results248, go_sem]) rfl ⟨by rw [HS.out, HED.out HMZ.out, Int.add_zero], rfl⟩
end Go.Proofs.YtckaoeloofbklaaGreatDoor
namespace Go.Proofs.YtckaoeloofbklaaGreatDoor
open Go Go.RowKit
theorem low_e (c : Nat) (h : c = 69 ∨ c = 101) : bits .or .u8 (c : Int) 32 = 101 := by
  rcases h with rfl | rfl <;> decide +kernel
theorem lower_at (c : Nat) (r : Nat) (h : bits .or .u8 (c : Int) 32 = (r : Int)) (w : World) :
    Calls Tryz.prog 191 #[.int .u8 c] w fun e w' => e = .returned (.int .u8 r) ∧ w' = w := by
  have := lower_any c w
  rwa [h] at this
theorem pow_get (s : ByteArray) (M : List UInt8) (eb : UInt8) (sg X : List UInt8) (h : s.data.toList = M ++ powT eb sg X) : s.size = M.length + 1 + sg.length + X.length ∧
    (∀ k (hk : k < M.length) (h2 : k < s.size), M[k] = s[k]) ∧ (∀ h2 : M.length < s.size, s[M.length] = eb) ∧
    (∀ j (hj : j < sg.length) (h2 : M.length + 1 + j < s.size), s[M.length + 1 + j] = sg[j]) ∧
    (∀ j (hj : j < X.length) (h2 : M.length + 1 + sg.length + j < s.size), s[M.length + 1 + sg.length + j] = X[j]) := by
  have hz : s.size = s.data.toList.length := by simp
  have get : ∀ k (h2 : k < s.size), s[k] = (M ++ powT eb sg X)[k]'(by rw [← h, ← hz]; exact h2) := fun k h2 => by
    simp only [← h]; rfl
  refine ⟨?_, ?_, ?_, ?_, ?_⟩
  · rw [hz, h]; simp [powT]; omega
  · intro k hk h2
    rw [get k h2, List.getElem_append_left hk]
  · intro h2
    rw [get _ h2, List.getElem_append_right (Nat.le_refl _)]
    simp [powT]
  · intro j hj h2
    rw [get _ h2, List.getElem_append_right (by omega)]
    simp only [show M.length + 1 + j - M.length = j + 1 by omega, powT, List.getElem_cons_succ]
    rw [List.getElem_append_left hj]
  · intro j hj h2
    rw [get _ h2, List.getElem_append_right (by omega)]
    simp only [show M.length + 1 + sg.length + j - M.length = sg.length + j + 1 by omega, powT, List.getElem_cons_succ]
    rw [List.getElem_append_right (by omega)]
    simp
def sgZ (sg : List UInt8) : Int := if sg = [45] then -1 else 1
set_option maxRecDepth 100000 in
set_option maxHeartbeats 4000000 in
theorem rf_pow (s : ByteArray) (w : World) (hs : s.size ≤ 1000) (M W F : List UInt8) (dot : Bool) (eb : UInt8) (sg X : List UInt8) (hM : MantF M W F dot) (hne : W ++ F ≠ []) (hp : PowF (powT eb sg X) eb sg X) (hX : X ≠ []) (hl : s.data.toList = M ++ powT eb sg X) :
    Calls Tryz.prog 248 #[.string s] w fun e w' => e = .returned (.tuple #[.int .u64 (rfF 10 19 M).mant, .int .i64 (rfExp (rfF 10 19 M) ((exF X : Int) * sgZ sg)), .bool false, .bool (rfF 10 19 M).tr, .bool false, .int .i64 s.size, .bool true]) ∧ w' = w := by
  obtain ⟨gsz, gM, gE, gS, gX⟩ := pow_get s M eb sg X hl
  have hX0 : 0 < X.length := List.length_pos_iff.2 hX
  have hW : ∀ x ∈ W, okD 10 x := fun x hx => .inl (hM.w x hx)
  have hF : ∀ x ∈ F, okD 10 x := fun x hx => .inl (hM.f x hx)
  have hmem := mant_mem 10 _ W F dot hM.eq hW hF
  have hm0 : 0 < M.length := by
    rw [hM.eq]
    unfold mantT
    rcases List.eq_nil_or_concat W with h | ⟨l, c, h⟩
    · subst h
      cases dot with
      | false => rw [hM.nodot rfl] at hne; simp at hne
      | true => simp
    · subst h; rw [List.concat_eq_append]; simp; omega
  have hbyte : ∀ j (h : j < M.length) (h2 : j < s.size), s[j].toNat = 46 ∨ (48 ≤ s[j].toNat ∧ s[j].toNat ≤ 57) := fun j h h2 => by
    rw [← gM j h h2]
    rcases hmem _ (List.getElem_mem h) with h1 | h1 | h1
    · left; rw [h1]; rfl
    · right; exact h1
    · exact absurd h1.1 (by decide)
  have hn0 : 0 < s.size := by omega
  have hb0 := hbyte 0 hm0 hn0
  have hn1 : decide ((s.size : Int) ≤ 0) = false := by rw [decide_eq_false_iff_not]; omega
  have hn2 : decide (s.size = 0) = false := by rw [decide_eq_false_iff_not]; omega
  have hn3 : ¬ s.size = 0 := by omega
  have hc1 : (((s[0]'hn0).toNat : Int) == 43) = false := by rw [beq_eq_false_iff_ne]; omega
  have hc2 : (((s[0]'hn0).toNat : Int) == 45) = false := by rw [beq_eq_false_iff_ne]; omega
  have hx1 : ∀ h : 1 < s.size, (bits .or .u8 ((s[1].toNat : Nat) : Int) 32 == 120) = false := fun h => by
    by_cases h1 : 1 < M.length
    · have := hbyte 1 h1 h
      exact low_x _ s[1].toNat_lt (by omega) (by omega)
    · have hm1 : M.length = 1 := by omega
      have he := gE (by omega)
      simp only [hm1] at he
      rw [he]
      have := hp.eb
      exact low_x _ eb.toNat_lt (by omega) (by omega)
  have hms : M.length < s.size := by omega
  have hE := gE hms
  have hEb := hp.eb
  have e95 : (((s[M.length]'hms).toNat : Int) == 95) = false := by rw [hE, beq_eq_false_iff_ne]; omega
  have e46 : (((s[M.length]'hms).toNat : Int) == 46) = false := by rw [hE, beq_eq_false_iff_ne]; omega
  have e48 : (48 : Int) ≤ ((s[M.length]'hms).toNat : Int) := by rw [hE]; omega
  have e57 : decide (((s[M.length]'hms).toNat : Int) ≤ 57) = false := by rw [hE, decide_eq_false_iff_not]; omega
  have HEL := Lib.hid (fun (W : World) => lower_at (s[M.length]'hms).toNat 101 (by rw [hE]; exact low_e _ hEb) W)
  obtain ⟨o, ho⟩ : ∃ o, M.length + 1 + sg.length = o := ⟨_, rfl⟩
  have hdX : ∀ i (h1 : o ≤ i) (h2 : i < s.size), 48 ≤ s[i].toNat ∧ s[i].toNat ≤ 57 ∧ exF (X.take (i + 1 - o)) = (if exF (X.take (i - o)) < 10000 then exF (X.take (i - o)) * 10 + (s[i].toNat - 48) else exF (X.take (i - o))) := fun i h1 h2 => by
    have hj : i - o < X.length := by omega
    have hg := gX (i - o) hj (by omega)
    simp only [show M.length + 1 + sg.length + (i - o) = i by omega] at hg
    have hd := hp.x _ (List.getElem_mem hj)
    rw [← hg] at hd
    refine ⟨hd.1, hd.2, ?_⟩
    rw [show i + 1 - o = i - o + 1 by omega, List.take_succ_eq_append_getElem hj, ex_snoc, ← hg]
  have hexb : ∀ i, exF (X.take i) < 100000 := fun i => ex_lt _ fun x hx => hp.x x (List.mem_of_mem_take hx)
  have hosz : s.size = o + X.length := by omega
  have HDX := Lib.hid hdX
  have HEXB := Lib.hid hexb
  have HX1 := Lib.hid hx1
  have HGET := Lib.hid gM
  have HGS := Lib.hid gS
  have HSG := Lib.hid hp.sg
  have HPT := Lib.hid (mant_point 10 19 M W F dot hM.eq hW hF)
  have HMT := Lib.hid (rf_mant 10 19 M W F dot hM.eq (fun x hx => dig_ne46 (hM.w x hx)) (fun x hx => dig_ne46 (hM.f x hx)) hM.nodot)
  have HMEM := Lib.hid hmem
  have HNE := Lib.hid hne
  have HO := Lib.hid ho
  have HOSZ := Lib.hid hosz
  clear hM hne hW hF hmem hx1 hbyte hb0 gM gE gS gX gsz hp hX hl hE hEb hdX hexb ho hosz
  go_enter Tryz.func248, Tryz.ntmps248
  go_wp2_with fail
  go_step3
  go_upto_region 12 with fail
  go_cut [54] from 36 to 54 (fun s54 wx => s54 = .bool false ∧ wx = w)
  case first =>
    by_cases h3 : 2 < s.size
    · have hx := HX1.out (by omega)
      cases h48 : ((s[0].toNat : Int) == 48)
      all_goals
        go_wp2_with (go_at_call 191; refine (lower_any _ _).mono ?_; rintro e w' ⟨rfl, rfl⟩)
        go_meet
        exact ⟨rfl, rfl⟩
    · go_wp2_with fail
      go_meet
      exact ⟨rfl, rfl⟩
  case rest =>
    obtain ⟨rfl, rfl⟩ := hcut
    clear hc1 hc2 HX1
    go_wp2_with fail
    go_step3
    go_wp2_with fail
    go_loopg [2, 5, 7, 9, 13, 14, 15, 16, 17] M.length (fun g s2 s5 s7 s9 s13 s14 s15 s16 s17 wr => ∃ (k nd nm mant : Nat) (dp : Int) (dt dg tr : Bool), k + g = M.length ∧ rfF 10 19 (M.take k) = ⟨nd, nm, mant, dp, dt, dg, tr⟩ ∧ s2 = .int .u64 mant ∧ s5 = .bool tr ∧ s7 = .int .i64 k ∧ s9 = .bool false ∧ s13 = .bool dt ∧ s14 = .bool dg ∧ s15 = .int .i64 nd ∧ s16 = .int .i64 nm ∧ s17 = .int .i64 dp ∧ wr = wc)
    case atStart => exact ⟨0, 0, 0, 0, 0, false, false, false, by omega, rfl, rfl, rfl, rfl, rfl, rfl, rfl, rfl, rfl, rfl, rfl⟩
    case round =>
      obtain ⟨k, nd, nm, mant, dp, dt, dg, tr, hkg, hst, rfl, rfl, rfl, rfl, rfl, rfl, rfl, rfl, rfl, rfl⟩ := hrel
      have hbd := rf_bd 10 19 (by decide) (M.take k) (fun x hx => HMEM.out x (List.mem_of_mem_take hx))
      rw [hst] at hbd
      simp only at hbd
      have hlk : (M.take k).length ≤ k := List.length_take_le _ _
      obtain ⟨b1, b2, b3, b4, b5, b6⟩ := hbd
      have hnd : nd ≤ 1000 := by omega
      have hdp1 : -1000 ≤ dp := by omega
      have hdp2 : dp ≤ 1000 := by omega
      have HST := Lib.hid hst
      by_cases hlt : k < M.length
      · have hnx := rf_next 10 19 M k hlt _ hst
        have hgk := HGET.out k hlt (by omega)
        rw [hgk] at hnx
        have hby := HMEM.out _ (List.getElem_mem hlt)
        rw [hgk] at hby
        have hpt := HPT.out k hlt
        rw [hst, hgk] at hpt
        simp only at hpt
        have HNX := Lib.hid hnx
        have HB4 := Lib.hid b4
        have HPK := Lib.hid hpt
        clear hst hnx b4 hpt b1 b2 b5 b6 hlk hgk
        by_cases h46 : s[k].toNat = 46
        · have hd : dt = false := HPK.out (by rw [← UInt8.ofNat_toNat (x := s[k]), h46]; rfl)
          subst hd
          clear hby
          go_wp2_with fail
          go_roundg (gk - 1)
          case measure => omega
          case rel => exact ⟨k + 1, nd, nm, mant, (nd : Int), true, dg, tr, by omega, by rw [HNX.out, show s[k] = 46 from by rw [← UInt8.ofNat_toNat (x := s[k]), h46]; rfl]; rfl, rfl, rfl, by go_num, rfl, rfl, rfl, rfl, rfl, rfl, rfl⟩
        · have HC46 : Hid (s[k] ≠ 46) := Lib.hid fun h => h46 (by rw [h]; rfl)
          have t46 : ((s[k].toNat : Int) == 46) = false := by rw [beq_eq_false_iff_ne]; omega
          replace hby := hby.resolve_left HC46.out
          clear h46
          rcases hby with hdg | hlet
          · have hd1 : (48 : Int) ≤ (s[k].toNat : Int) := by have := hdg.1; omega
            have hd2 : (s[k].toNat : Int) ≤ 57 := by have := hdg.2; omega
            have t95 : ((s[k].toNat : Int) == 95) = false := by rw [beq_eq_false_iff_ne]; omega
            have HDV : Hid (dv s[k].toNat = s[k].toNat - 48) := Lib.hid (by unfold dv; rw [if_pos (show 48 ≤ s[k].toNat ∧ s[k].toNat ≤ 57 from hdg)])
            clear hdg
            by_cases hz : s[k].toNat = 48 ∧ nd = 0
            · obtain ⟨hz1, rfl⟩ := hz
              have t48 : ((s[k].toNat : Int) == 48) = true := by rw [beq_iff_eq]; omega
              have HZ : Hid (s[k] = 48) := Lib.hid (by rw [← UInt8.ofNat_toNat (x := s[k]), hz1]; rfl)
              clear hz1
              go_wp2_with fail
              go_roundg (gk - 1)
              case measure => omega
              case rel => exact ⟨k + 1, 0, nm, mant, dp - 1, dt, true, tr, by omega, by rw [HNX.out]; unfold rfStep; rw [if_neg HC46.out, if_pos ⟨HZ.out, rfl⟩], rfl, rfl, by go_num, rfl, rfl, rfl, rfl, rfl, rfl, rfl⟩
            · have HZ : Hid (¬ (s[k] = 48 ∧ nd = 0)) := Lib.hid fun h => hz ⟨by rw [h.1]; rfl, h.2⟩
              have hzz : ((s[k].toNat : Int) == 48) = false ∨ ((s[k].toNat : Int) == 48) = true ∧ ((nd : Int) == 0) = false ∧ (nd == 0) = false ∧ ¬ nd = 0 := by
                by_cases h48 : s[k].toNat = 48
                · right; exact ⟨by rw [beq_iff_eq]; omega, by rw [beq_eq_false_iff_ne]; omega, by rw [beq_eq_false_iff_ne]; omega, by omega⟩
                · left; rw [beq_eq_false_iff_ne]; omega
              clear hz
              by_cases hm : nm < 19
              · have hm2 : mant < 1000000000000000000 := Nat.lt_of_lt_of_le HB4.out (Nat.pow_le_pow_right (by decide) (show nm ≤ 18 by omega))
                have tm : decide ((nm : Int) < 19) = true := by rw [decide_eq_true_eq]; omega
                rcases hzz with t48 | ⟨t48, tn, tn2, tn3⟩
                all_goals
                  go_wp2_with fail
                  go_roundg (gk - 1)
                  case measure => omega
                  case rel => exact ⟨k + 1, nd + 1, nm + 1, mant * 10 + dv s[k].toNat, dp, dt, true, tr, by omega, by rw [HNX.out]; unfold rfStep; rw [if_neg HC46.out, if_neg HZ.out, if_pos hm], by rw [HDV.out]; go_num, rfl, by go_num, rfl, rfl, rfl, by go_num, by go_num, rfl, rfl⟩
              · have tm : decide ((nm : Int) < 19) = false := by rw [decide_eq_false_iff_not]; omega
                rcases hzz with t48 | ⟨t48, tn, tn2, tn3⟩
                · have t48n : ((s[k].toNat : Int) != 48) = true := by rw [bne, t48]; rfl
                  have HN : Hid ((s[k] != 48) = true) := Lib.hid (bne_iff_ne.2 fun h => by rw [h] at t48; exact absurd t48 (by decide))
                  go_wp2_with fail
                  go_roundg (gk - 1)
                  case measure => omega
                  case rel => exact ⟨k + 1, nd + 1, nm, mant, dp, dt, true, true, by omega, by rw [HNX.out]; unfold rfStep; rw [if_neg HC46.out, if_neg HZ.out, if_neg hm]; simp only [HN.out, Bool.or_true], rfl, rfl, by go_num, rfl, rfl, rfl, by go_num, rfl, rfl, rfl⟩
                · have t48n : ((s[k].toNat : Int) != 48) = false := by rw [bne, t48]; rfl
                  have HN : Hid ((s[k] != 48) = false) := Lib.hid (by
                    rw [bne_eq_false_iff_eq]
                    have h := beq_iff_eq.1 t48
                    rw [← UInt8.ofNat_toNat (x := s[k]), show s[k].toNat = 48 by omega]; rfl)
                  go_wp2_with fail
                  go_roundg (gk - 1)
                  case measure => omega
                  case rel => exact ⟨k + 1, nd + 1, nm, mant, dp, dt, true, tr, by omega, by rw [HNX.out]; unfold rfStep; rw [if_neg HC46.out, if_neg HZ.out, if_neg hm]; simp only [HN.out, Bool.or_false], rfl, rfl, by go_num, rfl, rfl, rfl, by go_num, rfl, rfl, rfl⟩
          · exact absurd hlet.1 (by decide)
      · have hke : k = M.length := by omega
        have hfull : M.take k = M := List.take_of_length_le (by omega)
        rw [hfull] at hst
        have hmt := HMT.out
        rw [hst] at hmt
        obtain ⟨m1, m2, m3, m4, m5⟩ := hmt
        have hdg : dg = true := by
          have := m1.dig
          simp only at this
          rw [this]
          have := HNE.out
          simpa using this
        subst hdg hke
        have HS := Lib.hid hst
        have hm20 : mant < 10000000000000000000 := Nat.lt_of_lt_of_le b4 (Nat.pow_le_pow_right (by decide) b3)
        obtain ⟨DP, hDP⟩ : ∃ DP : Int, DP = (if dt then dp else (nd : Int)) := ⟨_, rfl⟩
        have hDP1 : -1000 ≤ DP := by rw [hDP]; split <;> omega
        have hDP2 : DP ≤ 1000 := by rw [hDP]; split <;> omega
        have HDP := Lib.hid hDP
        have HEZ := Lib.hid (fun x => rfExp_zero nd nm mant dp dt true tr x)
        have HEN : Hid (∀ x : Int, mant ≠ 0 → rfExp ⟨nd, nm, mant, dp, dt, true, tr⟩ x = DP + x - (nm : Int)) := Lib.hid fun x h => by rw [hDP]; exact if_neg h
        clear b4 b5 b6 hlk b1 m1 m2 m3 m4 m5 hst hfull HST hDP
        have hone : (sg = [] ∧ o = M.length + 1) ∨ (sg = [43] ∧ o = M.length + 1 + 1) ∨ (sg = [45] ∧ o = M.length + 1 + 1) := by
          rcases HSG.out with h | h | h <;> subst h <;> have := HO.out <;> simp at this
          · left; exact ⟨rfl, by omega⟩
          · right; left; exact ⟨rfl, by omega⟩
          · right; right; exact ⟨rfl, by omega⟩
        have hosz := HOSZ.out
        have hos : o < s.size := by omega
        have hd0 := HDX.out o (Nat.le_refl _) hos
        have hs0 : M.length + 1 < s.size := by rcases hone with h | h | h <;> omega
        have c1 : (48 : Int) ≤ ((s[o]'hos).toNat : Int) := by omega
        have c2 : ((s[o]'hos).toNat : Int) ≤ 57 := by omega
        obtain ⟨Z, hZ⟩ : ∃ Z : Int, Z = sgZ sg := ⟨_, rfl⟩
        have hZ1 : Z = 1 ∨ Z = -1 := by rw [hZ]; unfold sgZ; split <;> simp
        have HZ := Lib.hid hZ
        have HZ1 := Lib.hid hZ1
        have HONE := Lib.hid hone
        have HSB : Hid (sg = [] → ((s[M.length + 1]'hs0).toNat : Int) = (s[o]'hos).toNat) := Lib.hid fun h => by
          have ho2 : o = M.length + 1 := by
            rcases hone with ⟨_, h1⟩ | ⟨h1, _⟩ | ⟨h1, _⟩
            · exact h1
            · rw [h] at h1; exact absurd h1 (by decide)
            · rw [h] at h1; exact absurd h1 (by decide)
          subst ho2; rfl
        have HSS : Hid (∀ x, sg = [x] → s[M.length + 1]'hs0 = x) := Lib.hid fun x h => by
          have := HGS.out 0 (by rw [h]; simp) hs0
          rw [show sg[0]'(by rw [h]; simp) = x from by simp [h]] at this
          exact this
        clear hZ hZ1 hone hd0 HSG HGS HO HPT HMT HMEM HGET hosz
        go_upto_if 142 with fail
        go_cut [17] from 139 to 142 (fun s17 wx => s17 = .int .i64 DP ∧ wx = wr)
        case first =>
          cases dt
          all_goals
            go_wp2_with fail
            go_meet
            exact ⟨by rw [HDP.out]; rfl, rfl⟩
        case rest =>
          obtain ⟨rfl, rfl⟩ := hcut
          go_upto_block 4 with (go_at_call 191; refine (HEL.out _).mono ?_; rintro e wr ⟨rfl, rfl⟩)
          go_cut [7, 19] from 170 to 178 (fun s7 s19 wx => s7 = .int .i64 o ∧ s19 = .int .i64 Z ∧ wx = wr)
          case first =>
            rcases HONE.out with ⟨hsg, hoo⟩ | ⟨hsg, hoo⟩ | ⟨hsg, hoo⟩
            · have hb := HSB.out hsg
              have c3 : (((s[M.length + 1]'hs0).toNat : Int) == 43) = false := by rw [beq_eq_false_iff_ne]; omega
              have c4 : (((s[M.length + 1]'hs0).toNat : Int) == 45) = false := by rw [beq_eq_false_iff_ne]; omega
              have hz : Z = 1 := by rw [HZ.out, hsg]; decide
              clear hb hsg
              subst hoo hz
              go_wp2_with fail
              go_meet
              exact ⟨by go_num, rfl, rfl⟩
            · have hb := HSS.out _ hsg
              have c3 : (((s[M.length + 1]'hs0).toNat : Int) == 43) = true := by rw [hb]; rfl
              have hz : Z = 1 := by rw [HZ.out, hsg]; decide
              clear hb hsg
              subst hoo hz
              go_wp2_with fail
              go_meet
              exact ⟨by go_num, rfl, rfl⟩
            · have hb := HSS.out _ hsg
              have c3 : (((s[M.length + 1]'hs0).toNat : Int) == 43) = false := by rw [hb]; rfl
              have c4 : (((s[M.length + 1]'hs0).toNat : Int) == 45) = true := by rw [hb]; rfl
              have hz : Z = -1 := by rw [HZ.out, hsg]; decide
              clear hb hsg
              subst hoo hz
              go_wp2_with fail
              go_meet
              exact ⟨by go_num, rfl, rfl⟩
          case rest =>
            obtain ⟨rfl, rfl, hwc⟩ := hcut
            obtain rfl : wr = wc := hwc.symm
            go_wp2_with fail
            go_loopg [7, 9, 20] X.length (fun g s7 s9 s20 wr' => ∃ i e : Nat, o ≤ i ∧ i + g = o + X.length ∧ exF (X.take (i - o)) = e ∧ s7 = .int .i64 i ∧ s9 = .bool false ∧ s20 = .int .i64 e ∧ wr' = wr)
            case atStart => exact ⟨o, 0, Nat.le_refl _, rfl, by rw [Nat.sub_self]; rfl, rfl, rfl, rfl, rfl⟩
            case round =>
              obtain ⟨i, e, hoi, hig, hex, rfl, rfl, rfl, rfl⟩ := hrel
              have hosz := HOSZ.out
              have heb := HEXB.out (i - o)
              rw [hex] at heb
              by_cases hlt : i < s.size
              · obtain ⟨d1, d2, d3⟩ := HDX.out i hoi hlt
                rw [hex] at d3
                have HD3 := Lib.hid d3
                have hd1 : (48 : Int) ≤ ((s[i]'hlt).toNat : Int) := by omega
                have hd2 : ((s[i]'hlt).toNat : Int) ≤ 57 := by omega
                have t95 : (((s[i]'hlt).toNat : Int) == 95) = false := by rw [beq_eq_false_iff_ne]; omega
                clear d3 d1 d2 hex hosz
                by_cases he : e < 10000
                · have te : decide ((e : Int) < 10000) = true := by rw [decide_eq_true_eq]; omega
                  go_wp2_with fail
                  go_roundg (gk - 1)
                  case measure => have := HOSZ.out; omega
                  case rel => exact ⟨i + 1, e * 10 + (s[i].toNat - 48), by omega, by have := HOSZ.out; omega, by rw [HD3.out, if_pos he], by go_num, rfl, by go_num, rfl⟩
                · have te : decide ((e : Int) < 10000) = false := by rw [decide_eq_false_iff_not]; omega
                  go_wp2_with fail
                  go_roundg (gk - 1)
                  case measure => have := HOSZ.out; omega
                  case rel => exact ⟨i + 1, e, by omega, by have := HOSZ.out; omega, by rw [HD3.out, if_neg he], by go_num, rfl, by go_num, rfl⟩
              · have hie : i = s.size := by omega
                have hexx : exF X = e := by rw [← hex, List.take_of_length_le (by omega)]
                have HE := Lib.hid hexx
                subst hie
                clear hex hexx hosz
                rcases HZ1.out with rfl | rfl
                · by_cases hmz : mant = 0
                  · have tz : ((mant : Int) != 0) = false := by rw [bne_eq_false_iff_eq]; omega
                    have HMZ := Lib.hid hmz
                    clear hmz
                    go_wp2_with fail
                    try rw [Exit.noGoto_ret]
                    refine bodyPost_ret (v := .tuple #[.int .u64 mant, .int .i64 0, .bool false, .bool tr, .bool false, .int .i64 s.size, .bool true]) (by simp [results, Tryz.results248, go_sem]) rfl ⟨by rw [HS.out, HEZ.out _ HMZ.out], rfl⟩
                  · have tz : ((mant : Int) != 0) = true := by rw [bne_iff_ne]; omega
                    have HMZ := Lib.hid hmz
                    clear hmz
                    go_wp2_with fail
                    try rw [Exit.noGoto_ret]
                    refine bodyPost_ret (v := .tuple #[.int .u64 mant, .int .i64 (DP + (e : Int) - (nm : Int)), .bool false, .bool tr, .bool false, .int .i64 s.size, .bool true]) (by simp [results, Tryz.results248, go_sem]) rfl ⟨by rw [HS.out, HEN.out _ HMZ.out, ← HZ.out, HE.out, Int.mul_one], rfl⟩
                · by_cases hmz : mant = 0
                  · have tz : ((mant : Int) != 0) = false := by rw [bne_eq_false_iff_eq]; omega
                    have HMZ := Lib.hid hmz
                    clear hmz
                    go_wp2_with fail
                    try rw [Exit.noGoto_ret]
                    refine bodyPost_ret (v := .tuple #[.int .u64 mant, .int .i64 0, .bool false, .bool tr, .bool false, .int .i64 s.size, .bool true]) (by simp [results, Tryz.results248, go_sem]) rfl ⟨by rw [HS.out, HEZ.out _ HMZ.out], rfl⟩
                  · have tz : ((mant : Int) != 0) = true := by rw [bne_iff_ne]; omega
                    have HMZ := Lib.hid hmz
                    clear hmz
                    go_wp2_with fail
                    try rw [Exit.noGoto_ret]
                    refine bodyPost_ret (v := .tuple #[.int .u64 mant, .int .i64 (DP + -(e : Int) - (nm : Int)), .bool false, .bool tr, .bool false, .int .i64 s.size, .bool true]) (by simp [results, Tryz.results248, go_sem]) rfl ⟨by rw [HS.out, HEN.out _ HMZ.out, ← HZ.out, HE.out, Int.mul_neg, Int.mul_one], rfl⟩
end Go.Proofs.YtckaoeloofbklaaGreatDoor
