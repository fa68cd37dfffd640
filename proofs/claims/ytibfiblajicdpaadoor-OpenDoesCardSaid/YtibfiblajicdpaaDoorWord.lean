/- Words in the program's way (strings.Fields, slices.Contains), and in the reference's: the same for the words that the code names. -/
import Derived.WalkKit
import Derived.BigFrame
import Derived.Deep.QuietTactic
import Derived.BigQuiet
import Derived.Lib.Hide
import Derived.Test.YtibfiblajicdpaaDoorPlain
import Derived.Test.YtibfiblajicdpaaDoorProg
import Derived.Test.YtibfiblajicdpaaDoorShelf
import Derived.Deep.RegionWith
import Derived.Deep.RegionHeld3
namespace Go.Proofs.YtibfiblajicdpaaDoor
open Go Go.RowKit

/-- the library's table of ASCII blanks holds what it holds -/
def Glob (w : World) : Prop := Lib.TabIs Tryd.prog w "strings.asciiSpace" .u8 Lib.asciiSpaceTab

theorem glob_num : Tryd.prog.globalNamed "strings.asciiSpace" = some 0 := by kernel_rfl

theorem Glob.lt {w : World} (h : Glob w) : 0 < w.heap.size := by
  unfold Glob Lib.TabIs World.var? at h
  rw [glob_num] at h
  simp only [Option.bind_some] at h
  rcases Nat.lt_or_ge 0 w.heap.size with hl | hg
  · exact hl
  · rw [Array.getElem?_eq_none hg] at h; cases h

theorem Glob.below {w w' : World} {B : Nat} (h : Glob w) (hB : 0 < B) (hb : Below B w w') : Glob w' := by
  unfold Glob Lib.TabIs World.var? at *
  rw [glob_num] at *
  simp only [Option.bind_some] at *
  rw [hb.block _ hB]; exact h

theorem Glob.alloc {w : World} (h : Glob w) (o : Obj) : Glob (w.alloc o) := h.below h.lt ((Below.refl _ _).alloc (Nat.le_refl _) o)
theorem Glob.drew {w : World} (h : Glob w) : Glob w.drew := h.below h.lt (Below.refl _ _).drew

structure WordsOk (ws : ByteArray) : Prop where
  size : ws.size ≤ 100000
  ascii : ws.data.toList.all (fun b => b.toNat < 128) = true
  same : Lib.fields ws.data.toList = (split32 [] ws.data.toList).filter (fun f => !f.isEmpty)

theorem WordsOk.asc {ws : ByteArray} (h : WordsOk ws) : ∀ (j : Nat) b, ws.data.toList[j]? = some b → b.toNat < 128 := fun j b hj => by
  have := List.all_eq_true.1 h.ascii b (List.mem_of_getElem? hj)
  simpa using this

def fieldsV (ws : ByteArray) : List ByteArray := (Lib.fields ws.data.toList).map fun l => ⟨l.toArray⟩

theorem WordsOk.contains {ws : ByteArray} (h : WordsOk ws) (s : ByteArray) : Lib.containsS (fieldsV ws) s = amongL s.data.toList [] ws.data.toList := by
  rw [Bool.eq_iff_iff, Lib.containsS_iff, amongL_split, fieldsV, h.same]
  simp only [List.mem_map, List.mem_filter, List.any_eq_true, Bool.and_eq_true, beq_iff_eq]
  constructor
  · rintro ⟨f, ⟨hf, hn⟩, rfl⟩
    exact ⟨⟨f, hf, by simp⟩, by simpa using hn⟩
  · rintro ⟨⟨f, hf, rfl⟩, hn⟩
    exact ⟨_, ⟨hf, hn⟩, by cases s; simp⟩

theorem fieldsV_len (ws : ByteArray) : (fieldsV ws).length = (Lib.fields ws.data.toList).length := by simp [fieldsV]

theorem split32_len : ∀ (l cur : List UInt8), (split32 cur l).length ≤ l.length + 1
  | [], cur => by simp [split32]
  | c :: r, cur => by
    unfold split32
    split
    · have := split32_len r []; simp; omega
    · have := split32_len r (cur ++ [c]); simp; omega

theorem fieldsV_small {ws : ByteArray} (h : WordsOk ws) : (fieldsV ws).length ≤ 9223372036854775807 := by
  rw [fieldsV_len, h.same]
  have h1 := List.length_filter_le (fun f : List UInt8 => !f.isEmpty) (split32 [] ws.data.toList)
  have h2 := split32_len ws.data.toList []
  have h3 := h.size
  have h4 : ws.data.toList.length = ws.size := by simp
  omega

theorem fields_any (ws : ByteArray) (w : World) (hg : Glob w) (h : WordsOk ws) :
    Calls Tryd.prog 55 #[.string ws] w fun e w' => e = .returned (.slice (some ⟨w.heap.size, 0, none⟩) (fieldsV ws).length (fieldsV ws).length) ∧ w' = w.alloc (.cells ((fieldsV ws).map Value.string).toArray 9) := by
  refine (Tryd.strings_Fields_laid ws w (by have := h.size; omega) h.asc hg).mono ?_
  rintro e w' ⟨rfl, rfl⟩
  refine ⟨by rw [fieldsV_len], ?_⟩
  simp [fieldsV, Function.comp_def]

theorem cell_row (W : World) (b : Nat) (zs : List ByteArray) (t : TypeId) (h : W.heap[b]? = some (.cells ((zs.map Value.string).toArray) t (0, 0))) : ∀ j, j < zs.length → W.cell? ⟨b, 0 + j, none⟩ = some (.string (zs.getD j ByteArray.empty)) := by
  intro j hj
  rw [cell_of_row W b (0 + j) _ _ _ h]
  simp [hj]

theorem contains_any (W : World) (b : Nat) (zs : List ByteArray) (x : ByteArray) (t : TypeId) (hn : zs.length ≤ 9223372036854775807) (h : W.heap[b]? = some (.cells ((zs.map Value.string).toArray) t (0, 0))) :
    Calls Tryd.prog 54 #[.slice (some ⟨b, 0, none⟩) zs.length zs.length, .string x] W fun e w' => e = .returned (.bool (Lib.containsS zs x)) ∧ W = w' := by
  refine (Tryd.slices_Contains_string b 0 zs.length zs.length zs x W (Nat.le_refl _) hn (cell_row W b zs t h)).mono ?_
  rintro e w' ⟨rfl, rfl⟩
  exact ⟨by simp, rfl⟩

end Go.Proofs.YtibfiblajicdpaaDoor
