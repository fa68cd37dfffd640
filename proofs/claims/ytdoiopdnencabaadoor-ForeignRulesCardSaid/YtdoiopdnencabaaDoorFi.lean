/- The plain law of names that say their space; SameAttrs; the reference's one. -/
import Derived.Test.YtdoiopdnencabaaDoorFh
namespace Go.Proofs.YtdoiopdnencabaaDoor
open Go Go.RowKit

def bigW : ByteArray := ⟨(([120, 108, 105, 110, 107, 58, 97, 99, 116, 117, 97, 116, 101, 32, 120, 108, 105, 110, 107, 58, 97, 114, 99, 114, 111, 108, 101, 32, 120, 108, 105, 110, 107, 58, 104, 114, 101, 102, 32, 120, 108, 105, 110, 107, 58, 114, 111, 108, 101, 32, 120, 108, 105, 110, 107, 58, 115, 104, 111, 119, 32, 120, 108, 105, 110, 107, 58, 116, 105, 116, 108, 101, 32, 120, 108, 105, 110, 107, 58, 116, 121, 112, 101] : List UInt8)).toArray⟩
def xmlW : ByteArray := (⟨#[120, 109, 108, 58, 108, 97, 110, 103, 32, 120, 109, 108, 58, 115, 112, 97, 99, 101]⟩ : ByteArray)
theorem bigOk : WordsOk bigW := ⟨by decide +kernel, by decide +kernel, by decide +kernel⟩
theorem xmlOk : WordsOk xmlW := ⟨by decide +kernel, by decide +kernel, by decide +kernel⟩

def links : List (List UInt8) := [([97, 99, 116, 117, 97, 116, 101] : List UInt8), ([97, 114, 99, 114, 111, 108, 101] : List UInt8), ([104, 114, 101, 102] : List UInt8), ([114, 111, 108, 101] : List UInt8), ([115, 104, 111, 119] : List UInt8), ([116, 105, 116, 108, 101] : List UInt8), ([116, 121, 112, 101] : List UInt8)]
def langs : List (List UInt8) := [([108, 97, 110, 103] : List UInt8), ([115, 112, 97, 99, 101] : List UInt8)]

theorem among_list {ws : ByteArray} {fs : List (List UInt8)} (h : split32 [] ws.data.toList = fs) (n : ByteArray) : amongB n ws = (fs.any (fun f => f == n.data.toList) && !n.data.toList.isEmpty) := by
  rw [amongB, amongL_split, h]
theorem among_mem {ws : ByteArray} {fs : List (List UInt8)} (h : split32 [] ws.data.toList = fs) {n : ByteArray} (ha : amongB n ws = true) : n.data.toList ∈ fs := by
  rw [among_list h] at ha
  simp only [Bool.and_eq_true, List.any_eq_true, beq_iff_eq] at ha
  obtain ⟨⟨f, hf, rfl⟩, _⟩ := ha
  exact hf
theorem of_list {n : ByteArray} {l : List UInt8} (h : n.data.toList = l) : n = ⟨l.toArray⟩ := by
  rw [← h]

theorem link_split : split32 [] linkW.data.toList = links := by decide +kernel
theorem lang_split : split32 [] langW.data.toList = langs := by decide +kernel
theorem big_split : split32 [] bigW.data.toList = links.map (fun l => ([120, 108, 105, 110, 107, 58] : List UInt8) ++ l) := by decide +kernel
theorem xml_split : split32 [] xmlW.data.toList = langs.map (fun l => ([120, 109, 108, 58] : List UInt8) ++ l) := by decide +kernel

/-- what a name of xlink's is -/
def linkF (n : ByteArray) : Bool := spaceT n && ((cutA n).data.toList == ([120, 108, 105, 110, 107] : List UInt8)) && ((cutB n).data.toList == (n.extract 6 n.size).data.toList) && decide (6 ≤ n.size)
def langF (n : ByteArray) : Bool := spaceT n && ((cutA n).data.toList == ([120, 109, 108] : List UInt8)) && ((cutB n).data.toList == (n.extract 4 n.size).data.toList) && decide (4 ≤ n.size) && !amongB n bigW
theorem linkF_all : (links.all fun l => linkF ⟨(([120, 108, 105, 110, 107, 58] : List UInt8) ++ l).toArray⟩) = true := by decide +kernel
theorem langF_all : (langs.all fun l => langF ⟨(([120, 109, 108, 58] : List UInt8) ++ l).toArray⟩) = true := by decide +kernel

theorem big_is {n : ByteArray} (h : amongB n bigW = true) : spaceT n = true ∧ cutA n = (⟨#[120, 108, 105, 110, 107]⟩ : ByteArray) ∧ cutB n = n.extract 6 n.size ∧ 6 ≤ n.size := by
  have hm := among_mem big_split h
  obtain ⟨l, hl, he⟩ := List.mem_map.1 hm
  have := List.all_eq_true.1 linkF_all l hl
  rw [of_list he.symm]
  simp only [linkF, Bool.and_eq_true, beq_iff_eq, decide_eq_true_eq] at this
  obtain ⟨⟨⟨h1, h2⟩, h3⟩, h4⟩ := this
  exact ⟨h1, of_list h2, ByteArray.ext (Array.toList_inj.1 h3), h4⟩
theorem xml_is {n : ByteArray} (h : amongB n xmlW = true) : spaceT n = true ∧ cutA n = (⟨#[120, 109, 108]⟩ : ByteArray) ∧ cutB n = n.extract 4 n.size ∧ 4 ≤ n.size := by
  have hm := among_mem xml_split h
  obtain ⟨l, hl, he⟩ := List.mem_map.1 hm
  have := List.all_eq_true.1 langF_all l hl
  rw [of_list he.symm]
  simp only [langF, Bool.and_eq_true, beq_iff_eq, decide_eq_true_eq] at this
  obtain ⟨⟨⟨⟨h1, h2⟩, h3⟩, h4⟩, _⟩ := this
  exact ⟨h1, of_list h2, ByteArray.ext (Array.toList_inj.1 h3), h4⟩
theorem ns_is {n : ByteArray} (h : (n.toList == ([120, 109, 108, 110, 115, 58, 120, 108, 105, 110, 107] : List UInt8)) = true) : spaceT n = true ∧ cutA n = (⟨#[120, 109, 108, 110, 115]⟩ : ByteArray) ∧ cutB n = (⟨#[120, 108, 105, 110, 107]⟩ : ByteArray) := by
  have h1 : n.data.toList = ([120, 109, 108, 110, 115, 58, 120, 108, 105, 110, 107] : List UInt8) := by rw [← ByteArray.toList_eq]; exact eq_of_beq h
  rw [of_list h1]
  exact ⟨by decide +kernel, by decide +kernel, by decide +kernel⟩

/-- a name is what lies before its colon, the colon, and what lies behind -/
theorem cut_join {n : ByteArray} (h : 0 ≤ cutI n) : n.data.toList = (cutA n).data.toList ++ 58 :: (cutB n).data.toList := by
  obtain ⟨k, hk⟩ : ∃ k : Nat, cutI n = k := ⟨(cutI n).toNat, by omega⟩
  have h1 := (Lib.indexByte_some (l := n.data.toList) (c := 58) hk).1
  obtain ⟨hlt, he⟩ := List.getElem?_eq_some_iff.1 h1
  have hsz : n.data.toList.length = n.size := by simp
  have ea : cutA n = n.extract 0 k := by rw [cutA, if_pos h, hk]; rfl
  have eb : cutB n = n.extract (k + 1) n.size := by rw [cutB, if_pos h, hk]; rfl
  rw [ea, eb, ← ByteArray.toList_eq, ← ByteArray.toList_eq, ← ByteArray.toList_eq, ext_toList, ext_toList, ByteArray.toList_eq]
  simp only [List.extract_eq_take_drop, Nat.sub_zero, List.drop_zero]
  rw [List.take_of_length_le (l := n.data.toList.drop (k + 1)) (by simp), ← he, ← List.drop_eq_getElem_cons hlt, List.take_append_drop]

theorem among_ne {n ws : ByteArray} (h : amongB n ws = true) : n.data.toList ≠ [] := by
  intro e
  rw [amongB, amongL_split, e] at h
  simp at h
theorem cutB_none {n : ByteArray} (h : ¬ 0 ≤ cutI n) : (cutB n).data.toList = [] := by
  rw [cutB, if_neg h]

theorem space_is {n : ByteArray} (h : spaceT n = true) : amongB n bigW = true ∨ amongB n xmlW = true ∨ (n.toList == ([120, 109, 108, 110, 115, 58, 120, 108, 105, 110, 107] : List UInt8)) = true := by
  unfold spaceT at h
  simp only [Bool.or_eq_true, Bool.and_eq_true] at h
  rcases h with (⟨h1, h2⟩ | ⟨h1, h2⟩) | h
  · left
    have hc : 0 ≤ cutI n := Decidable.byContradiction fun hc => among_ne h2 (cutB_none hc)
    have hj := cut_join hc
    have hm := among_mem link_split h2
    have h1' : (cutA n).data.toList = ([120, 108, 105, 110, 107] : List UInt8) := by rw [← ByteArray.toList_eq]; exact eq_of_beq h1
    rw [among_list big_split, Bool.and_eq_true, List.any_eq_true]
    refine ⟨⟨([120, 108, 105, 110, 107, 58] : List UInt8) ++ (cutB n).data.toList, List.mem_map_of_mem hm, ?_⟩, ?_⟩
    · rw [hj, h1']; simp
    · rw [hj, h1']; rfl
  · right; left
    have hc : 0 ≤ cutI n := Decidable.byContradiction fun hc => among_ne h2 (cutB_none hc)
    have hj := cut_join hc
    have hm := among_mem lang_split h2
    have h1' : (cutA n).data.toList = ([120, 109, 108] : List UInt8) := by rw [← ByteArray.toList_eq]; exact eq_of_beq h1
    rw [among_list xml_split, Bool.and_eq_true, List.any_eq_true]
    refine ⟨⟨([120, 109, 108, 58] : List UInt8) ++ (cutB n).data.toList, List.mem_map_of_mem hm, ?_⟩, ?_⟩
    · rw [hj, h1']; simp
    · rw [hj, h1']; rfl
  · exact .inr (.inr h)

/-! ### one attribute -/
def lowName (sp nm : ByteArray) : ByteArray := if (sp.toList == [115, 118, 103]) = true then greatB nm attrsW else if (sp.toList == [109, 97, 116, 104]) = true ∧ (nm.toList == ([100, 101, 102, 105, 110, 105, 116, 105, 111, 110, 117, 114, 108] : List UInt8)) = true then urlW else nm
def attrA (sp : ByteArray) (x : At) : At := if x.sp.toList.isEmpty = true then spacedA ⟨x.sp, lowName sp x.nm, x.va⟩ else x

/-- the reference's own steps behind the name -/
theorem spaced_big {sp n va : ByteArray} (h : amongB n bigW = true) : spacedA ⟨sp, n, va⟩ = ⟨(⟨#[120, 108, 105, 110, 107]⟩ : ByteArray), n.extract 6 n.size, va⟩ := by
  obtain ⟨h1, h2, h3, _⟩ := big_is h
  simp only [spacedA, h1, if_true, h2, h3]
theorem spaced_xml {sp n va : ByteArray} (h : amongB n xmlW = true) : spacedA ⟨sp, n, va⟩ = ⟨(⟨#[120, 109, 108]⟩ : ByteArray), n.extract 4 n.size, va⟩ := by
  obtain ⟨h1, h2, h3, _⟩ := xml_is h
  simp only [spacedA, h1, if_true, h2, h3]
theorem spaced_ns {sp n va : ByteArray} (h : (n.toList == ([120, 109, 108, 110, 115, 58, 120, 108, 105, 110, 107] : List UInt8)) = true) : spacedA ⟨sp, n, va⟩ = ⟨(⟨#[120, 109, 108, 110, 115]⟩ : ByteArray), (⟨#[120, 108, 105, 110, 107]⟩ : ByteArray), va⟩ := by
  obtain ⟨h1, h2, h3⟩ := ns_is h
  simp only [spacedA, h1, if_true, h2, h3]
theorem spaced_no {n : ByteArray} (h1 : amongB n bigW = false) (h2 : amongB n xmlW = false) (h3 : (n.toList == ([120, 109, 108, 110, 115, 58, 120, 108, 105, 110, 107] : List UInt8)) = false) : spaceT n = false := by
  cases h : spaceT n
  · rfl
  · rcases space_is h with h | h | h
    · rw [h1] at h; cases h
    · rw [h2] at h; cases h
    · rw [h3] at h; cases h
theorem spaced_xmlns {sp n va : ByteArray} (h1 : amongB n bigW = false) (h2 : amongB n xmlW = false) (h3 : (n.toList == ([120, 109, 108, 110, 115, 58, 120, 108, 105, 110, 107] : List UInt8)) = false) (h4 : (n.toList == ([120, 109, 108, 110, 115] : List UInt8)) = true) : spacedA ⟨sp, n, va⟩ = ⟨(⟨#[120, 109, 108, 110, 115]⟩ : ByteArray), n, va⟩ := by
  have : n = (⟨#[120, 109, 108, 110, 115]⟩ : ByteArray) := of_list (by rw [← ByteArray.toList_eq]; exact eq_of_beq h4)
  simp only [spacedA, spaced_no h1 h2 h3, h4, if_true]
  rw [← this]
  rfl
theorem spaced_same {sp n va : ByteArray} (h1 : amongB n bigW = false) (h2 : amongB n xmlW = false) (h3 : (n.toList == ([120, 109, 108, 110, 115, 58, 120, 108, 105, 110, 107] : List UInt8)) = false) (h4 : (n.toList == ([120, 109, 108, 110, 115] : List UInt8)) = false) : spacedA ⟨sp, n, va⟩ = ⟨sp, n, va⟩ := by
  simp only [spacedA, spaced_no h1 h2 h3, h4]
  rfl

theorem url_great (nm : ByteArray) : greatB nm urlW = if (nm.toList == ([100, 101, 102, 105, 110, 105, 116, 105, 111, 110, 117, 114, 108] : List UInt8)) = true then urlW else nm := by
  unfold greatB
  rw [greatL_split, show split32 [] urlW.data.toList = [([100, 101, 102, 105, 110, 105, 116, 105, 111, 110, 85, 82, 76] : List UInt8)] from by decide +kernel]
  unfold firstW
  simp only [List.find?_cons, List.find?_nil]
  have e : isW nm.data.toList ([100, 101, 102, 105, 110, 105, 116, 105, 111, 110, 85, 82, 76] : List UInt8) = (nm.toList == ([100, 101, 102, 105, 110, 105, 116, 105, 111, 110, 117, 114, 108] : List UInt8)) := by
    unfold isW
    rw [show (([100, 101, 102, 105, 110, 105, 116, 105, 111, 110, 85, 82, 76] : List UInt8)).map lowU = ([100, 101, 102, 105, 110, 105, 116, 105, 111, 110, 117, 114, 108] : List UInt8) from by decide +kernel, ByteArray.toList_eq, Bool.eq_iff_iff]
    simp only [Bool.and_eq_true, beq_iff_eq]
    constructor
    · rintro ⟨h, _⟩; exact h.symm
    · intro h; rw [h]; exact ⟨rfl, rfl⟩
  rw [e]
  cases (nm.toList == ([100, 101, 102, 105, 110, 105, 116, 105, 111, 110, 117, 114, 108] : List UInt8)) <;> rfl
end Go.Proofs.YtdoiopdnencabaaDoor
