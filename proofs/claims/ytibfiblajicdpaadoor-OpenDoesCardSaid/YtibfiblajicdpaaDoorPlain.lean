/- Plain lists of bytes: what the reference's Among computes, word by word. No program in sight. -/
import Derived.WalkKit
import Derived.Lib.Fields
import Derived.Deep.QuietTactic
namespace Go.Proofs.YtibfiblajicdpaaDoor
open Go Go.RowKit

theorem ret_bool {a b : Bool} (h : a = b) : Ending.returned (.bool a) = .returned (.bool b) := by rw [h]
theorem ret_int {k : IntKind} {a b : Int} (h : a = b) : Ending.returned (.int k a) = .returned (.int k b) := by rw [h]

theorem bDrewN {B : Nat} {a w : World} (h : Below B a w) (n : Nat) : Below B a (w.drewN n) := h.trans ⟨rfl, rfl, rfl, Nat.le_refl _, fun _ _ => rfl⟩

theorem heap_two (w : World) (A B : Obj) : ((w.alloc A).alloc B).drew.heap[w.heap.size + 1]? = some B := by
  have := heap_alloc_new (w.alloc A) B
  rwa [World.size_alloc] at this

/-- the bytes of a word among words that single blanks part: 'cur' is the word so far -/
def amongL (s : List UInt8) : List UInt8 → List UInt8 → Bool
  | cur, [] => cur == s && !s.isEmpty
  | cur, c :: r => if c = 32 then (cur == s && !s.isEmpty) || amongL s [] r else amongL s (cur ++ [c]) r

/-- words that blanks part -/
def split32 : List UInt8 → List UInt8 → List (List UInt8)
  | cur, [] => [cur]
  | cur, c :: r => if c = 32 then cur :: split32 [] r else split32 (cur ++ [c]) r

theorem amongL_split (s : List UInt8) : ∀ (l cur : List UInt8), amongL s cur l = ((split32 cur l).any (fun f => f == s) && !s.isEmpty)
  | [], cur => by simp [amongL, split32]
  | c :: r, cur => by
    unfold amongL split32
    by_cases h : c = 32
    · simp only [h, if_true, amongL_split s r [], List.any_cons]
      cases s.isEmpty <;> simp
    · simp only [h, if_false, amongL_split s r]

/-- the word so far, and what is still to come -/
structure AmongInv (s ws : ByteArray) (j k : Nat) : Prop where
  le : j ≤ k
  hi : k ≤ ws.size + 1
  eq : k ≤ ws.size → amongL s.data.toList (ws.data.toList.extract j k) (ws.data.toList.drop k) = amongL s.data.toList [] ws.data.toList
  no : k = ws.size + 1 → amongL s.data.toList [] ws.data.toList = false

theorem AmongInv.start (s ws : ByteArray) : AmongInv s ws 0 0 := ⟨Nat.le_refl _, by omega, fun _ => by simp, fun h => by omega⟩

theorem ext_toList (ws : ByteArray) (j k : Nat) : (ws.extract j k).toList = ws.data.toList.extract j k := by
  rw [ByteArray.toList_eq]; simp [ByteArray.data_extract]

theorem drop_one (ws : ByteArray) (k : Nat) (h : k < ws.size) : ws.data.toList.drop k = ws[k] :: ws.data.toList.drop (k + 1) := by
  rw [List.drop_eq_getElem_cons (by simpa using h)]; rfl

theorem extract_snoc {α : Type} (l : List α) (j k : Nat) (h : k < l.length) (hj : j ≤ k) : l.extract j (k + 1) = l.extract j k ++ [l[k]] := by
  simp only [List.extract_eq_take_drop]
  rw [show k + 1 - j = (k - j) + 1 from by omega, List.take_succ_eq_append_getElem (by simp; omega)]
  congr 1
  simp [show j + (k - j) = k from by omega]

/-- no blank: on -/
theorem AmongInv.on {s ws : ByteArray} {j k : Nat} (h : AmongInv s ws j k) (hk : k < ws.size) (hc : ((ws[k].toNat : Int) == 32) = false) : AmongInv s ws j (k + 1) := by
  have hc' : ¬ ws[k] = 32 := by
    intro e; rw [e] at hc; simp at hc
  refine ⟨by have := h.le; omega, by omega, fun _ => ?_, fun h => by omega⟩
  rw [← h.eq (by omega), drop_one ws k hk, amongL, if_neg hc', extract_snoc _ _ _ (by simpa using hk) h.le]
  rfl

/-- a blank, and the word is not s: on -/
theorem AmongInv.next {s ws : ByteArray} {j k : Nat} (h : AmongInv s ws j k) (hk : k < ws.size) (hc : ((ws[k].toNat : Int) == 32) = true)
    (hne : ¬ (ws.extract j k).toList = s.toList ∨ (!s.toList.isEmpty) = false) : AmongInv s ws (k + 1) (k + 1) := by
  have hc' : ws[k] = 32 := by
    apply UInt8.toNat_inj.1; have h0 := eq_of_beq hc; simp only [UInt8.reduceToNat]; omega
  refine ⟨Nat.le_refl _, by omega, fun _ => ?_, fun h => by omega⟩
  rw [← h.eq (by omega), drop_one ws k hk, amongL, if_pos hc']
  rw [ext_toList, ByteArray.toList_eq] at hne
  have : (ws.data.toList.extract j k == s.data.toList && !s.data.toList.isEmpty) = false := by
    rcases hne with h1 | h1
    · rw [Bool.and_eq_false_iff]; left; simpa using h1
    · rw [Bool.and_eq_false_iff]; right; exact h1
  rw [this]; simp

/-- the end, and the last word is not s -/
theorem AmongInv.last {s ws : ByteArray} {j k : Nat} (h : AmongInv s ws j k) (hk : k = ws.size)
    (hne : ¬ (ws.extract j k).toList = s.toList ∨ (!s.toList.isEmpty) = false) : AmongInv s ws (k + 1) (k + 1) := by
  subst hk
  refine ⟨Nat.le_refl _, by omega, fun h => by omega, fun _ => ?_⟩
  have hd : ws.data.toList.drop ws.size = [] := by simp [List.drop_eq_nil_iff]
  rw [← h.eq (by omega), hd, amongL]
  rw [ext_toList, ByteArray.toList_eq] at hne
  rcases hne with h1 | h1
  · rw [Bool.and_eq_false_iff]; left; simpa using h1
  · rw [Bool.and_eq_false_iff]; right; exact h1

theorem AmongInv.found {s ws : ByteArray} {j k : Nat} (h : AmongInv s ws j k) (hk : k ≤ ws.size) (hc : k = ws.size ∨ ∃ hk : k < ws.size, ((ws[k].toNat : Int) == 32) = true)
    (he : (ws.extract j k).toList = s.toList) (hn : (!s.toList.isEmpty) = true) : amongL s.data.toList [] ws.data.toList = true := by
  rw [ext_toList, ByteArray.toList_eq] at he
  rw [ByteArray.toList_eq] at hn
  rw [← h.eq hk]
  rcases hc with hc | ⟨hlt, hc⟩
  · have hd : ws.data.toList.drop k = [] := by simp [List.drop_eq_nil_iff, hc]
    rw [hd, amongL, he, hn]; simp
  · have hc' : ws[k] = 32 := by
      apply UInt8.toNat_inj.1; have h0 := eq_of_beq hc; simp only [UInt8.reduceToNat]; omega
    rw [drop_one ws k hlt, amongL, if_pos hc', he, hn]; simp

theorem AmongInv.ended {s ws : ByteArray} {j k : Nat} (h : AmongInv s ws j k) (hk : ¬ k ≤ ws.size) : amongL s.data.toList [] ws.data.toList = false :=
  h.no (by have := h.hi; omega)
end Go.Proofs.YtibfiblajicdpaaDoor
