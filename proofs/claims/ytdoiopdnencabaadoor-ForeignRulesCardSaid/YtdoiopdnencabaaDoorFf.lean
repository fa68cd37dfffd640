/- The reference's great: the word of some, by its small letters. -/
import Derived.Test.YtdoiopdnencabaaDoorFe
namespace Go.Proofs.YtdoiopdnencabaaDoor
open Go Go.RowKit

/-- is the word so far the one? -/
def isW (nm cur : List UInt8) : Bool := (cur.map lowU == nm) && !nm.isEmpty
def greatL (nm : List UInt8) : List UInt8 → List UInt8 → List UInt8
  | cur, [] => if isW nm cur then cur else nm
  | cur, c :: r => if c = 32 then (if isW nm cur then cur else greatL nm [] r) else greatL nm (cur ++ [c]) r
def greatB (s ws : ByteArray) : ByteArray := ⟨(greatL s.data.toList [] ws.data.toList).toArray⟩

structure GreatInv (s ws : ByteArray) (j k : Nat) : Prop where
  le : j ≤ k
  hi : k ≤ ws.size + 1
  eq : k ≤ ws.size → greatL s.data.toList (ws.data.toList.extract j k) (ws.data.toList.drop k) = greatL s.data.toList [] ws.data.toList
  no : k = ws.size + 1 → greatL s.data.toList [] ws.data.toList = s.data.toList

theorem GreatInv.start (s ws : ByteArray) : GreatInv s ws 0 0 := ⟨Nat.le_refl _, by omega, fun _ => by simp, fun h => by omega⟩
theorem GreatInv.on {s ws : ByteArray} {j k : Nat} (h : GreatInv s ws j k) (hk : k < ws.size) (hc : ((ws[k].toNat : Int) == 32) = false) : GreatInv s ws j (k + 1) := by
  have hc' : ¬ ws[k] = 32 := by
    intro e; rw [e] at hc; simp at hc
  refine ⟨by have := h.le; omega, by omega, fun _ => ?_, fun h => by omega⟩
  rw [← h.eq (by omega), drop_one ws k hk, greatL, if_neg hc', extract_snoc _ _ _ (by simpa using hk) h.le]
  rfl

/-- the program's own test -/
def testW (s ws : ByteArray) (j k : Nat) : Bool := ((lowB (ws.extract j k)).toList == s.toList) && !s.toList.isEmpty
theorem testW_is (s ws : ByteArray) (j k : Nat) : testW s ws j k = isW s.data.toList (ws.data.toList.extract j k) := by
  unfold testW isW lowB
  rw [ByteArray.toList_eq, ByteArray.toList_eq, ← ext_toList, ByteArray.toList_eq]

def atEnd (ws : ByteArray) (k : Nat) : Prop := k = ws.size ∨ ∃ hk : k < ws.size, ((ws[k].toNat : Int) == 32) = true

theorem GreatInv.next {s ws : ByteArray} {j k : Nat} (h : GreatInv s ws j k) (hc : atEnd ws k) (hne : testW s ws j k = false) : GreatInv s ws (k + 1) (k + 1) := by
  rw [testW_is] at hne
  rcases hc with hk | ⟨hk, hc⟩
  · subst hk
    refine ⟨Nat.le_refl _, by omega, fun h => by omega, fun _ => ?_⟩
    have hd : ws.data.toList.drop ws.size = [] := by simp [List.drop_eq_nil_iff]
    rw [← h.eq (by omega), hd, greatL, hne]; rfl
  · have hc' : ws[k] = 32 := by
      apply UInt8.toNat_inj.1; have h0 := eq_of_beq hc; simp only [UInt8.reduceToNat]; omega
    refine ⟨Nat.le_refl _, by omega, fun _ => ?_, fun h => by omega⟩
    rw [← h.eq (by omega), drop_one ws k hk, greatL, if_pos hc', hne]; simp

theorem GreatInv.found {s ws : ByteArray} {j k : Nat} (h : GreatInv s ws j k) (hc : atEnd ws k) (hy : testW s ws j k = true) : greatB s ws = ws.extract j k := by
  rw [testW_is] at hy
  have hk : k ≤ ws.size := by rcases hc with h | ⟨h, _⟩ <;> omega
  have : greatL s.data.toList [] ws.data.toList = ws.data.toList.extract j k := by
    rw [← h.eq hk]
    rcases hc with hk | ⟨hk, hc⟩
    · have hd : ws.data.toList.drop k = [] := by simp [List.drop_eq_nil_iff, hk]
      rw [hd, greatL, hy]; rfl
    · have hc' : ws[k] = 32 := by
        apply UInt8.toNat_inj.1; have h0 := eq_of_beq hc; simp only [UInt8.reduceToNat]; omega
      rw [drop_one ws k hk, greatL, if_pos hc', hy]; rfl
  unfold greatB
  rw [this, ← ext_toList, ByteArray.toList_eq]

theorem GreatInv.ended {s ws : ByteArray} {j k : Nat} (h : GreatInv s ws j k) (hk : ¬ k ≤ ws.size) : greatB s ws = s := by
  unfold greatB
  rw [h.no (by have := h.hi; omega)]

theorem ret_str {a b : ByteArray} (h : a = b) : Ending.returned (.string a) = .returned (.string b) := by rw [h]

set_option maxHeartbeats 2000000 in
theorem great_ref (s ws : ByteArray) (w : World) (hws : ws.size ≤ 100000) :
    Calls Tryd.prog 25 #[.string s, .string ws] w fun e w' => e = .returned (.string (greatB s ws)) ∧ Below w.heap.size w w' := by
  go_enter Tryd.func25, Tryd.ntmps25
  go_wp2
  go_loopw [5, 6, 4] (fun f i r wr => ∃ j k : Nat, GreatInv s ws j k ∧ f = .int .i64 j ∧ i = .int .i64 k ∧ r = .string ⟨#[]⟩ ∧ Below w.heap.size w wr) (fun _ i _ _ => ws.size + 1 - (intOf i).toNat)
  case atStart => exact ⟨0, 0, .start s ws, rfl, rfl, rfl, Below.refl _ _⟩
  case round =>
    obtain ⟨j, k, hI, rfl, rfl, rfl, hb⟩ := hrel
    have hjk := hI.le
    have hk := hI.hi
    by_cases h1 : k < ws.size ∧ ∃ h : k < ws.size, ((ws[k].toNat : Int) == 32) = false
    · obtain ⟨h1, _, hc⟩ := h1
      have hne : ((k : Int) == (ws.size : Int)) = false := by rw [beq_eq_false_iff_ne]; omega
      go_wp2
      go_roundw
      case rel => exact ⟨j, k + 1, hI.on h1 hc, rfl, by go_num, rfl, hb⟩
      case measure => simp [intOf] <;> omega
    · by_cases h2 : k ≤ ws.size
      · have hend : atEnd ws k := by
          by_cases h3 : k = ws.size
          · exact .inl h3
          · have h4 : k < ws.size := by omega
            refine .inr ⟨h4, ?_⟩
            cases h5 : ((ws[k].toNat : Int) == 32)
            · exact absurd ⟨h4, h4, h5⟩ h1
            · rfl
        clear h1
        have hF := hI.found hend
        have hN := hI.next hend
        unfold testW at hF hN
        have HF := Lib.hid hF
        have HN := Lib.hid hN
        clear hF hN
        have hsz : (ws.extract j k).size ≤ maxLen := by
          have : (ws.extract j k).size ≤ ws.size := by simp; omega
          unfold maxLen; omega
        have HSZ := Lib.hid hsz
        clear hsz
        have hends : (k = ws.size) ∨ (∃ hk : k < ws.size, ((k : Int) == (ws.size : Int)) = false ∧ ((ws[k].toNat : Int) == 32) = true) := by
          rcases hend with h | ⟨h, hc⟩
          · exact .inl h
          · exact .inr ⟨h, by rw [beq_eq_false_iff_ne]; omega, hc⟩
        clear hend
        rcases hends with rfl | ⟨hlt, hne, hc⟩
        · go_wp2_with fail
          refine (lower_ref (ws.extract j ws.size) _ HSZ.out).mono ?_
          rintro e w2 ⟨rfl, hb2⟩
          cases hq : ((lowB (ws.extract j ws.size)).toList == s.toList)
          · have HQ := Lib.hid hq
            go_wp2
            go_roundw
            case rel => exact ⟨ws.size + 1, ws.size + 1, HN.out (by rw [HQ.out]; rfl), by go_num, by go_num, rfl, hb.trans (hb2.mono hb.size)⟩
            case measure => simp [intOf] <;> omega
          · have HQ := Lib.hid hq
            cases he : s.toList.isEmpty
            · have HE := Lib.hid he
              go_wp2
              go_ret
              exact ⟨ret_str (HF.out (by rw [HQ.out, HE.out]; rfl)).symm, hb.trans (hb2.mono hb.size)⟩
            · have HE := Lib.hid he
              go_wp2
              go_roundw
              case rel => exact ⟨ws.size + 1, ws.size + 1, HN.out (by rw [HE.out]; simp), by go_num, by go_num, rfl, hb.trans (hb2.mono hb.size)⟩
              case measure => simp [intOf] <;> omega
        · go_wp2_with fail
          refine (lower_ref (ws.extract j k) _ HSZ.out).mono ?_
          rintro e w2 ⟨rfl, hb2⟩
          cases hq : ((lowB (ws.extract j k)).toList == s.toList)
          · have HQ := Lib.hid hq
            go_wp2
            go_roundw
            case rel => exact ⟨k + 1, k + 1, HN.out (by rw [HQ.out]; rfl), by go_num, by go_num, rfl, hb.trans (hb2.mono hb.size)⟩
            case measure => simp [intOf] <;> omega
          · have HQ := Lib.hid hq
            cases he : s.toList.isEmpty
            · have HE := Lib.hid he
              go_wp2
              go_ret
              exact ⟨ret_str (HF.out (by rw [HQ.out, HE.out]; rfl)).symm, hb.trans (hb2.mono hb.size)⟩
            · have HE := Lib.hid he
              go_wp2
              go_roundw
              case rel => exact ⟨k + 1, k + 1, HN.out (by rw [HE.out]; simp), by go_num, by go_num, rfl, hb.trans (hb2.mono hb.size)⟩
              case measure => simp [intOf] <;> omega
      · clear h1
        go_wp2
        go_ret
        exact ⟨ret_str (hI.ended (by omega)).symm, hb⟩
end Go.Proofs.YtdoiopdnencabaaDoor
