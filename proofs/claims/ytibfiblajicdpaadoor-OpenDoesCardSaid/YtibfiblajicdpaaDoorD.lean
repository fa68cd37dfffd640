/- Contracts: one of some names; the closures; where a scope ends. -/
import Derived.Test.YtibfiblajicdpaaDoorC
namespace Go.Proofs.YtibfiblajicdpaaDoor
open Go Go.RowKit

/-- the slice value v holds the strings ns -/
def StrsAt (w : World) (v : Value) (ns : List ByteArray) : Prop :=
  (ns = [] ∧ ∃ a c, v = .slice a 0 c) ∨
  (∃ b off c, v = .slice (some ⟨b, off, none⟩) ns.length c ∧ b < w.heap.size ∧ ns.length ≤ 9223372036854775807 ∧ 0 < ns.length ∧ ∀ j, j < ns.length → w.cell? ⟨b, off + j, none⟩ = some (.string (ns.getD j ByteArray.empty)))

theorem StrsAt.below {w w' : World} {v : Value} {ns : List ByteArray} {B : Nat} (h : StrsAt w v ns) (hB : w.heap.size ≤ B) (hb : Below B w w') : StrsAt w' v ns := by
  rcases h with h | ⟨b, off, c, rfl, hlt, h1, h2, h3⟩
  · exact .inl h
  · exact .inr ⟨b, off, c, rfl, Nat.lt_of_lt_of_le hlt hb.size, h1, h2, fun j hj => (hb.cell (p := ⟨b, off + j, none⟩) (by show b < B; omega)).trans (h3 j hj)⟩

/-- of SpaceHtml, and one of the names -/
def oneB (sp nm : ByteArray) (ns : List ByteArray) : Bool := (sp.toList == [104, 116, 109, 108]) && Lib.containsS ns nm

set_option maxHeartbeats 400000 in
theorem one_any (i : Int) (sp nm : ByteArray) (v : Value) (ns : List ByteArray) (w : World) (hv : StrsAt w v ns) :
    Calls Tryd.prog 24 #[.agg #[.int .i64 i, .string sp, .string nm], v] w fun e w' => e = .returned (.bool (oneB sp nm ns)) ∧ Below w.heap.size w w' := by
  by_cases h : sp.toList = [104, 116, 109, 108]
  · have e1 : oneB sp nm ns = Lib.containsS ns nm := by simp [oneB, h]
    have H1 := Lib.hid e1; clear e1
    rcases hv with ⟨rfl, a, c, rfl⟩ | ⟨b, off, c, rfl, hlt, h1, h2, h3⟩
    · go_enter Tryd.func24, Tryd.ntmps24
      go_wp2_with (go_at_call 54; refine (Tryd.slices_Contains_string_empty a c nm _).mono ?_; rintro e w' ⟨rfl, rfl⟩)
      go_ret
      exact ⟨ret_bool H1.out.symm, (Below.refl _ _).alloc (Nat.le_refl _) _⟩
    · go_enter Tryd.func24, Tryd.ntmps24
      go_wp2_with fail
      refine (Tryd.slices_Contains_string b off ns.length c ns nm _ (Nat.le_refl _) h1 (fun j hj => (((Below.refl _ _).alloc (Nat.le_refl _) _).cell (p := ⟨b, off + j, none⟩) hlt).trans (h3 j hj))).mono ?_
      rintro e w' ⟨rfl, rfl⟩
      go_wp2
      go_ret
      exact ⟨ret_bool H1.out.symm, (Below.refl _ _).alloc (Nat.le_refl _) _⟩
  · have e1 : oneB sp nm ns = false := by simp [oneB, h]
    have H1 := Lib.hid e1; clear e1
    go_enter Tryd.func24, Tryd.ntmps24
    go_wp2_with fail
    go_ret
    exact ⟨ret_bool H1.out.symm, (Below.refl _ _).alloc (Nat.le_refl _) _⟩

/-- the element at the block b -/
structure ElAt (w : World) (b : Nat) (i : Int) (sp nm : ByteArray) : Prop where
  c0 : w.cell? ⟨b, 0, none⟩ = some (.int .i64 i)
  c1 : w.cell? ⟨b, 1, none⟩ = some (.string sp)
  c2 : w.cell? ⟨b, 2, none⟩ = some (.string nm)

/-! ### the reference's 'one' -/
theorem oneB_step {sp nm : ByteArray} {ns : List ByteArray} (h : sp.toList = [104, 116, 109, 108]) (hm : nm ∈ ns) : oneB sp nm ns = true := by
  have := (Lib.containsS_iff ns nm).2 hm
  simp [oneB, h, this]
theorem oneB_no {sp nm : ByteArray} {ns : List ByteArray} (hm : nm ∉ ns) : oneB sp nm ns = false := by
  have : Lib.containsS ns nm = false := by
    rw [← Bool.not_eq_true, Lib.containsS_iff]; exact hm
  simp [oneB, this]
theorem not_mem_snoc {nm : ByteArray} {ns : List ByteArray} {k : Nat} (hk : k < ns.length) (h : nm ∉ ns.take k) (hne : (nm.toList == ns[k].toList) = false) : nm ∉ ns.take (k + 1) := by
  rw [List.take_succ_eq_append_getElem hk, List.mem_append]
  rintro (h1 | h1)
  · exact h h1
  · simp only [List.mem_singleton] at h1; rw [← h1] at hne; simp at hne
theorem mem_of_same {nm : ByteArray} {ns : List ByteArray} {k : Nat} (hk : k < ns.length) (h : (nm.toList == ns[k].toList) = true) : nm ∈ ns := by
  have : nm = ns[k] := by
    have h' := eq_of_beq h
    rw [ByteArray.toList_eq, ByteArray.toList_eq] at h'
    exact ByteArray.ext (Array.toList_inj.1 h')
  rw [this]; exact List.getElem_mem hk

set_option maxHeartbeats 400000 in
theorem one_ref (i : Int) (sp nm : ByteArray) (v : Value) (ns : List ByteArray) (w : World) (hv : StrsAt w v ns) :
    Calls Tryd.prog 59 #[.agg #[.int .i64 i, .string sp, .string nm], v] w fun e w' => e = .returned (.bool (oneB sp nm ns)) ∧ Below w.heap.size w w' := by
  rcases hv with ⟨rfl, a, c, rfl⟩ | ⟨b, off, c, rfl, hlt, h1, h2, h3⟩
  · go_enter Tryd.func59, Tryd.ntmps59
    go_wp2_with fail
    go_loop [5, 4] (fun k r => k = .int .i64 0 ∧ r = .bool false) (fun _ _ => 0)
    case atStart => exact ⟨rfl, rfl⟩
    case round =>
      obtain ⟨rfl, rfl⟩ := hrel
      go_wp2
      go_ret
      exact ⟨ret_bool (oneB_no (by simp)).symm, (Below.refl _ _).alloc (Nat.le_refl _) _⟩
  · by_cases h : sp.toList = [104, 116, 109, 108]
    · have hd : (sp.toList == [104, 116, 109, 108]) = true := by simpa using h
      go_enter Tryd.func59, Tryd.ntmps59
      go_wp2_with fail
      go_loopw [5, 4] (fun kk r wr => ∃ k : Nat, k ≤ ns.length ∧ kk = .int .i64 k ∧ r = .bool false ∧ nm ∉ ns.take k ∧ Below (w.heap.size + 1) (w.alloc (.cells #[.int .i64 i, .string sp, .string nm] 30)) wr) (fun kk _ _ => ns.length - (intOf kk).toNat)
      case atStart => exact ⟨0, by omega, rfl, rfl, by simp, Below.refl _ _⟩
      case round =>
        obtain ⟨k, hk, rfl, rfl, hn, hb⟩ := hrel
        have c1 : wr.cell? ⟨w.heap.size, 1, none⟩ = some (.string sp) := (hb.cell (p := ⟨w.heap.size, 1, none⟩) (by simp)).trans (by simp [go_sem])
        have c2 : wr.cell? ⟨w.heap.size, 2, none⟩ = some (.string nm) := (hb.cell (p := ⟨w.heap.size, 2, none⟩) (by simp)).trans (by simp [go_sem])
        by_cases hlt2 : k < ns.length
        · have c3 : wr.cell? ⟨b, off + k, none⟩ = some (.string (ns[k]?.getD ByteArray.empty)) := by
            rw [hb.cell (p := ⟨b, off + k, none⟩) (by show b < w.heap.size + 1; omega), ((Below.refl w.heap.size w).alloc (Nat.le_refl _) _).cell (p := ⟨b, off + k, none⟩) hlt, h3 k hlt2]; simp
          go_wp2_with fail
          go_quiet (fail)
          go_wp2
          · go_ret
            exact ⟨ret_bool (oneB_step h (mem_of_same hlt2 ‹_›)).symm, bDrewN (((Below.refl _ _).alloc (Nat.le_refl _) _).trans (hb.mono (by omega))) _⟩
          · go_roundw
            case rel => exact ⟨k + 1, by omega, by go_num, rfl, not_mem_snoc hlt2 hn ‹_›, bDrewN hb _⟩
            case measure => simp [intOf] <;> omega
        · obtain rfl : k = ns.length := by omega
          go_wp2
          go_ret
          exact ⟨ret_bool (oneB_no (by simpa using hn)).symm, ((Below.refl _ _).alloc (Nat.le_refl _) _).trans (hb.mono (by omega))⟩
    · have hd : (sp.toList == [104, 116, 109, 108]) = false := by simpa using h
      have e1 : oneB sp nm ns = false := by simp [oneB, h]
      have H1 := Lib.hid e1; clear e1
      go_enter Tryd.func59, Tryd.ntmps59
      go_wp2_with fail
      go_loopw [5, 4] (fun kk r wr => ∃ k : Nat, k ≤ ns.length ∧ kk = .int .i64 k ∧ r = .bool false ∧ Below (w.heap.size + 1) (w.alloc (.cells #[.int .i64 i, .string sp, .string nm] 30)) wr) (fun kk _ _ => ns.length - (intOf kk).toNat)
      case atStart => exact ⟨0, by omega, rfl, rfl, Below.refl _ _⟩
      case round =>
        obtain ⟨k, hk, rfl, rfl, hb⟩ := hrel
        have c1 : wr.cell? ⟨w.heap.size, 1, none⟩ = some (.string sp) := (hb.cell (p := ⟨w.heap.size, 1, none⟩) (by simp)).trans (by simp [go_sem])
        by_cases hlt2 : k < ns.length
        · go_wp2_with fail
          go_quiet (fail)
          go_wp2
          go_roundw
          case rel => exact ⟨k + 1, by omega, by go_num, rfl, bDrewN hb _⟩
          case measure => simp [intOf] <;> omega
        · obtain rfl : k = ns.length := by omega
          go_wp2
          go_ret
          exact ⟨ret_bool H1.out.symm, ((Below.refl _ _).alloc (Nat.le_refl _) _).trans (hb.mono (by omega))⟩
end Go.Proofs.YtibfiblajicdpaaDoor
