/- Contracts: small letters, in the program's way and in the reference's. -/
import Derived.Test.YtdoiopdnencabaaDoorPlain
import Derived.Test.YtdoiopdnencabaaDoorProg
import Derived.BigFrame
import Derived.BigQuiet
import Derived.Lib.Hide
import Derived.Laws.IdiomStrings
namespace Go.Proofs.YtdoiopdnencabaaDoor
open Go Go.RowKit

/-- a byte's small letter -/
def lowU (c : UInt8) : UInt8 := if 65 ≤ c.toNat ∧ c.toNat ≤ 90 then c + 32 else c
def lowB (s : ByteArray) : ByteArray := ⟨(s.data.toList.map lowU).toArray⟩

theorem map_len (s : ByteArray) : (s.data.toList.map lowU).length = s.size := by rw [List.length_map, Array.length_toList]; rfl
theorem lowB_size (s : ByteArray) : (lowB s).size = s.size := map_len s

theorem lowU_or (c : UInt8) (h1 : (65 : Int) ≤ c.toNat) (h2 : (c.toNat : Int) ≤ 90) : bits .or .u8 (c.toNat : Int) 32 = ((lowU c).toNat : Int) := by
  have hc : 65 ≤ c.toNat ∧ c.toNat ≤ 90 := by omega
  have e : lowU c = c + 32 := by rw [lowU, if_pos hc]
  rw [e, UInt8.toNat_add]
  have h3 : ∀ n : Fin 26, bits .or .u8 ((65 + n.val : Nat) : Int) 32 = (((65 + n.val) + 32) % 256 : Nat) := by decide +kernel
  have := h3 ⟨c.toNat - 65, by omega⟩
  rw [show (65 + (c.toNat - 65) : Nat) = c.toNat from by omega] at this
  rw [this]; rfl
theorem lowU_no (c : UInt8) (h : ¬ (65 ≤ (c.toNat : Int) ∧ (c.toNat : Int) ≤ 90)) : lowU c = c := by
  rw [lowU, if_neg (by omega)]

/-- the bytes so far: k of them are small letters already -/
def lowK (s : ByteArray) (k j : Nat) : Int := ((if j < k then lowU (s.data.toList.getD j 0) else s.data.toList.getD j 0).toNat : Int)

structure LowInv (w : World) (s : ByteArray) (B k : Nat) (wr : World) : Prop where
  cells : ∀ j, j < s.size → wr.cell? ⟨B, j, none⟩ = some (.int .u8 (lowK s k j))
  frozen : ∀ j, j < s.size → wr.frozen? ⟨B, j, none⟩ = false
  below : Below w.heap.size w wr

theorem LowInv.start (w : World) (s : ByteArray) (e : TypeId) : LowInv w s w.heap.size 0 (w.drew.alloc (.cells (bytesRow s (grownCap w s.size 0 e)) e ((bytesRow s (grownCap w s.size 0 e)).size, (bytesRow s (grownCap w s.size 0 e)).size + 1))) := by
  have hsz : s.size ≤ (bytesRow s (grownCap w s.size 0 e)).size := by simp [bytesRow]
  have hb := heap_alloc_new w.drew (.cells (bytesRow s (grownCap w s.size 0 e)) e ((bytesRow s (grownCap w s.size 0 e)).size, (bytesRow s (grownCap w s.size 0 e)).size + 1))
  refine ⟨fun j hj => ?_, fun j hj => ?_, (Below.refl _ _).drew.alloc (Nat.le_refl _) _⟩
  · rw [cell_of_row _ w.heap.size j _ _ _ hb]
    have hj' : j < s.data.size := hj
    simp only [bytesRow, lowK, Nat.not_lt_zero, if_false]
    rw [Array.getElem?_append_left (by simpa using hj')]
    have hd : s.data[j]? = some s.data[j] := Array.getElem?_eq_getElem hj'
    simp [hd]
  · have hb' : (w.drew.alloc (.cells (bytesRow s (grownCap w s.size 0 e)) e ((bytesRow s (grownCap w s.size 0 e)).size, (bytesRow s (grownCap w s.size 0 e)).size + 1))).heap[w.heap.size]? = _ := hb
    simp only [World.frozen?, hb']
    simp; omega

theorem lowK_done (s : ByteArray) (k j : Nat) (h : j ≠ k) : lowK s (k + 1) j = lowK s k j := by
  unfold lowK
  by_cases hj : j < k
  · rw [if_pos hj, if_pos (by omega)]
  · rw [if_neg hj, if_neg (by omega)]

theorem lowK_at (s : ByteArray) (k : Nat) : lowK s (k + 1) k = ((lowU (s.data.toList.getD k 0)).toNat : Int) := by
  rw [lowK, if_pos (by omega)]
theorem lowK_old (s : ByteArray) (k : Nat) : lowK s k k = ((s.data.toList.getD k 0).toNat : Int) := by
  rw [lowK, if_neg (by omega)]

/-- the byte has been stored -/
theorem LowInv.put {w : World} {s : ByteArray} {B k : Nat} {wr : World} (h : LowInv w s B k wr) (hB : w.heap.size ≤ B) (hk : k < s.size) (v : Int) (hv : v = ((lowU (s.data.toList.getD k 0)).toNat : Int)) : LowInv w s B (k + 1) (wr.setCell ⟨B, k, none⟩ (.int .u8 v)) := by
  refine ⟨fun j hj => ?_, fun j hj => ?_, h.below.setCell (p := ⟨B, k, none⟩) hB _⟩
  · by_cases hjk : j = k
    · subst hjk
      rw [lowK_at, ← hv]
      exact World.cell?_setCell_same' _ _ _ (by rw [h.cells j hj]; rfl)
    · rw [lowK_done s k j hjk, ← h.cells j hj]
      simp only [World.cell?, World.setCell, Array.getElem?_modify, if_true]
      cases hx : wr.heap[B]? with
      | none => rfl
      | some o => cases o <;> simp [show ¬ k = j from fun e => hjk e.symm]
  · rw [World.frozen?_setCell]; exact h.frozen j hj

/-- the byte stays as it is -/
theorem LowInv.stay {w : World} {s : ByteArray} {B k : Nat} {wr : World} (h : LowInv w s B k wr) (hv : lowU (s.data.toList.getD k 0) = s.data.toList.getD k 0) : LowInv w s B (k + 1) wr := by
  refine ⟨fun j hj => ?_, h.frozen, h.below⟩
  by_cases hjk : j = k
  · subst hjk
    rw [lowK_at, hv, h.cells j hj, lowK_old]
  · rw [lowK_done s k j hjk]; exact h.cells j hj

theorem LowInv.back {w : World} {s : ByteArray} {B : Nat} {wr : World} (h : LowInv w s B s.size wr) (P : Program) (src dst e : TypeId) (cap : Nat) (hs : P.underlying src = some (.slice e)) (he : P.underlying e = some (.int .u8)) (hd : P.underlying dst = some .string) :
    (convert src dst (.slice (some ⟨B, 0, none⟩) s.size cap)).run P wr = .ok (.string (lowB s)) wr := by
  have hl := map_len s
  have := run_convert_bytes_back (P := P) wr src dst e ⟨B, 0, none⟩ cap (s.data.toList.map lowU) hs he hd (fun j hj => by
    rw [show (⟨B, 0, none⟩ : Addr).add j = ⟨B, j, none⟩ from by unfold Addr.add; split <;> simp_all]
    rw [hl] at hj
    rw [h.cells j hj, lowK, if_pos hj]
    have hd : s.data[j]? = some s.data[j] := Array.getElem?_eq_getElem hj
    simp [List.getD, hd])
  rw [hl] at this
  exact this

set_option maxHeartbeats 1000000 in
theorem lower_any (s : ByteArray) (w : World) (hs : s.size ≤ maxLen) :
    Calls Tryd.prog 32 #[.string s] w fun e w' => e = .returned (.string (lowB s)) ∧ Below w.heap.size w w' := by
  unfold maxLen at hs
  have hconv := run_bytes_of_string (P := Tryd.prog) w 9 58 5 s Tryd.underlying9 Tryd.underlying58 Tryd.underlying5
  have hI := LowInv.start w s 5
  have hcap : s.size ≤ grownCap w s.size 0 5 := grownCap_ge _ _ _ _
  generalize grownCap w s.size 0 5 = cap at *
  generalize hw1 : (w.drew.alloc (.cells (bytesRow s cap) 5 ((bytesRow s cap).size, (bytesRow s cap).size + 1))) = w1 at *
  clear hw1
  have hu1 := Tryd.underlying58
  have hu2 := Tryd.underlying5
  have hu3 := Tryd.underlying9
  have HB := fun (wr : World) (h : LowInv w s w.heap.size s.size wr) => h.back Tryd.prog 58 9 5 cap hu1 hu2 hu3
  have HH := Lib.hid HB
  clear HB hu1 hu2 hu3
  go_enter Tryd.func32, Tryd.ntmps32
  go_wp2
  clear hconv
  go_loopw [10] (fun i wr => ∃ k : Nat, k ≤ s.size ∧ i = .int .i64 k ∧ LowInv w s w.heap.size k wr) (fun i _ => s.size - (intOf i).toNat)
  case atStart => exact ⟨0, by omega, rfl, hI⟩
  case round =>
    obtain ⟨k, hk, rfl, hI⟩ := hrel
    by_cases hlt : k < s.size
    · have c0 := hI.cells k hlt
      have f0 := hI.frozen k hlt
      rw [lowK_old] at c0
      have P1 := fun v => hI.put (Nat.le_refl _) hlt v
      have P2 := hI.stay (k := k)
      have O1 := lowU_or (s.data.toList.getD k 0)
      have O2 := lowU_no (s.data.toList.getD k 0)
      have hu : ((s.data.toList.getD k 0).toNat : Int) ≤ 255 := by have := (s.data.toList.getD k 0).toNat_lt; omega
      generalize s.data.toList.getD k 0 = c at *
      have HP1 := Lib.hid P1
      have HP2 := Lib.hid P2
      have HO1 := Lib.hid O1
      have HO2 := Lib.hid O2
      clear P1 P2 O1 O2 hI
      by_cases h1 : (65 : Int) ≤ (c.toNat : Int)
      · by_cases h2 : (c.toNat : Int) ≤ 90
        · go_wp2
          go_roundw
          case rel => exact ⟨k + 1, by omega, by go_num, HP1.out _ (HO1.out h1 h2)⟩
          case measure => simp [intOf] <;> omega
        · go_wp2
          go_roundw
          case rel => exact ⟨k + 1, by omega, by go_num, HP2.out (HO2.out (by omega))⟩
          case measure => simp [intOf] <;> omega
      · go_wp2
        go_roundw
        case rel => exact ⟨k + 1, by omega, by go_num, HP2.out (HO2.out (by omega))⟩
        case measure => simp [intOf] <;> omega
    · obtain rfl : k = s.size := by omega
      have hb := HH.out wr hI
      go_wp2
      go_ret
      exact ⟨rfl, hI.below⟩

theorem lowU_add (c : UInt8) (h1 : (65 : Int) ≤ c.toNat) (h2 : (c.toNat : Int) ≤ 90) : (c.toNat : Int) + 32 = ((lowU c).toNat : Int) := by
  have e : lowU c = c + 32 := by rw [lowU, if_pos (by omega)]
  rw [e, UInt8.toNat_add]
  simp only [UInt8.reduceToNat]
  omega

set_option maxHeartbeats 1000000 in
theorem lower_ref (s : ByteArray) (w : World) (hs : s.size ≤ maxLen) :
    Calls Tryd.prog 33 #[.string s] w fun e w' => e = .returned (.string (lowB s)) ∧ Below w.heap.size w w' := by
  unfold maxLen at hs
  have hconv := run_bytes_of_string (P := Tryd.prog) w 9 58 5 s Tryd.underlying9 Tryd.underlying58 Tryd.underlying5
  have hI := LowInv.start w s 5
  have hcap : s.size ≤ grownCap w s.size 0 5 := grownCap_ge _ _ _ _
  generalize grownCap w s.size 0 5 = cap at *
  generalize hw1 : (w.drew.alloc (.cells (bytesRow s cap) 5 ((bytesRow s cap).size, (bytesRow s cap).size + 1))) = w1 at *
  clear hw1
  have hu1 := Tryd.underlying58
  have hu2 := Tryd.underlying5
  have hu3 := Tryd.underlying9
  have HB := fun (wr : World) (h : LowInv w s w.heap.size s.size wr) => h.back Tryd.prog 58 9 5 cap hu1 hu2 hu3
  have HH := Lib.hid HB
  clear HB hu1 hu2 hu3
  go_enter Tryd.func33, Tryd.ntmps33
  go_wp2
  clear hconv
  go_loopw [4] (fun i wr => ∃ k : Nat, k ≤ s.size ∧ i = .int .i64 k ∧ LowInv w s w.heap.size k wr) (fun i _ => s.size - (intOf i).toNat)
  case atStart => exact ⟨0, by omega, rfl, hI⟩
  case round =>
    obtain ⟨k, hk, rfl, hI⟩ := hrel
    by_cases hlt : k < s.size
    · have c0 := hI.cells k hlt
      have f0 := hI.frozen k hlt
      rw [lowK_old] at c0
      have P1 := fun v => hI.put (Nat.le_refl _) hlt v
      have P2 := hI.stay (k := k)
      have O1 := lowU_add (s.data.toList.getD k 0)
      have O2 := lowU_no (s.data.toList.getD k 0)
      have hu : ((s.data.toList.getD k 0).toNat : Int) ≤ 255 := by have := (s.data.toList.getD k 0).toNat_lt; omega
      generalize s.data.toList.getD k 0 = c at *
      have HP1 := Lib.hid P1
      have HP2 := Lib.hid P2
      have HO1 := Lib.hid O1
      have HO2 := Lib.hid O2
      clear P1 P2 O1 O2 hI
      by_cases h1 : (65 : Int) ≤ (c.toNat : Int)
      · by_cases h2 : (c.toNat : Int) ≤ 90
        · go_wp2
          go_roundw
          case rel => exact ⟨k + 1, by omega, by go_num, HP1.out _ (HO1.out h1 h2)⟩
          case measure => simp [intOf] <;> omega
        · go_wp2
          go_roundw
          case rel => exact ⟨k + 1, by omega, by go_num, HP2.out (HO2.out (by omega))⟩
          case measure => simp [intOf] <;> omega
      · go_wp2
        go_roundw
        case rel => exact ⟨k + 1, by omega, by go_num, HP2.out (HO2.out (by omega))⟩
        case measure => simp [intOf] <;> omega
    · obtain rfl : k = s.size := by omega
      have hb := HH.out wr hI
      go_wp2
      go_ret
      exact ⟨rfl, hI.below⟩
end Go.Proofs.YtdoiopdnencabaaDoor
