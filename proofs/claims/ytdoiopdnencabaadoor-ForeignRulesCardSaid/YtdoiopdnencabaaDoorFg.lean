/- Tag, both ways. -/
import Derived.Test.YtdoiopdnencabaaDoorFf
import Derived.Maps.OwnOps
namespace Go.Proofs.YtdoiopdnencabaaDoor
open Go Go.RowKit Go.Maps

def tagsL : List UInt8 := ([97, 108, 116, 71, 108, 121, 112, 104, 32, 97, 108, 116, 71, 108, 121, 112, 104, 68, 101, 102, 32, 97, 108, 116, 71, 108, 121, 112, 104, 73, 116, 101, 109, 32, 97, 110, 105, 109, 97, 116, 101, 67, 111, 108, 111, 114, 32, 97, 110, 105, 109, 97, 116, 101, 77, 111, 116, 105, 111, 110, 32, 97, 110, 105, 109, 97, 116, 101, 84, 114, 97, 110, 115, 102, 111, 114, 109, 32, 99, 108, 105, 112, 80, 97, 116, 104, 32, 102, 101, 66, 108, 101, 110, 100, 32, 102, 101, 67, 111, 108, 111, 114, 77, 97, 116, 114, 105, 120, 32, 102, 101, 67, 111, 109, 112, 111, 110, 101, 110, 116, 84, 114, 97, 110, 115, 102, 101, 114, 32, 102, 101, 67, 111, 109, 112, 111, 115, 105, 116, 101, 32, 102, 101, 67, 111, 110, 118, 111, 108, 118, 101, 77, 97, 116, 114, 105, 120, 32, 102, 101, 68, 105, 102, 102, 117, 115, 101, 76, 105, 103, 104, 116, 105, 110, 103, 32, 102, 101, 68, 105, 115, 112, 108, 97, 99, 101, 109, 101, 110, 116, 77, 97, 112, 32, 102, 101, 68, 105, 115, 116, 97, 110, 116, 76, 105, 103, 104, 116, 32, 102, 101, 68, 114, 111, 112, 83, 104, 97, 100, 111, 119, 32, 102, 101, 70, 108, 111, 111, 100, 32, 102, 101, 70, 117, 110, 99, 65, 32, 102, 101, 70, 117, 110, 99, 66, 32, 102, 101, 70, 117, 110, 99, 71, 32, 102, 101, 70, 117, 110, 99, 82, 32, 102, 101, 71, 97, 117, 115, 115, 105, 97, 110, 66, 108, 117, 114, 32, 102, 101, 73, 109, 97, 103, 101, 32, 102, 101, 77, 101, 114, 103, 101, 32, 102, 101, 77, 101, 114, 103, 101, 78, 111, 100, 101, 32, 102, 101, 77, 111, 114, 112, 104, 111, 108, 111, 103, 121, 32, 102, 101, 79, 102, 102, 115, 101, 116, 32, 102, 101, 80, 111, 105, 110, 116, 76, 105, 103, 104, 116, 32, 102, 101, 83, 112, 101, 99, 117, 108, 97, 114, 76, 105, 103, 104, 116, 105, 110, 103, 32, 102, 101, 83, 112, 111, 116, 76, 105, 103, 104, 116, 32, 102, 101, 84, 105, 108, 101, 32, 102, 101, 84, 117, 114, 98, 117, 108, 101, 110, 99, 101, 32, 102, 111, 114, 101, 105, 103, 110, 79, 98, 106, 101, 99, 116, 32, 103, 108, 121, 112, 104, 82, 101, 102, 32, 108, 105, 110, 101, 97, 114, 71, 114, 97, 100, 105, 101, 110, 116, 32, 114, 97, 100, 105, 97, 108, 71, 114, 97, 100, 105, 101, 110, 116, 32, 116, 101, 120, 116, 80, 97, 116, 104] : List UInt8)
def tagsW : ByteArray := ⟨tagsL.toArray⟩
def attrsL : List UInt8 := ([97, 116, 116, 114, 105, 98, 117, 116, 101, 78, 97, 109, 101, 32, 97, 116, 116, 114, 105, 98, 117, 116, 101, 84, 121, 112, 101, 32, 98, 97, 115, 101, 70, 114, 101, 113, 117, 101, 110, 99, 121, 32, 98, 97, 115, 101, 80, 114, 111, 102, 105, 108, 101, 32, 99, 97, 108, 99, 77, 111, 100, 101, 32, 99, 108, 105, 112, 80, 97, 116, 104, 85, 110, 105, 116, 115, 32, 100, 105, 102, 102, 117, 115, 101, 67, 111, 110, 115, 116, 97, 110, 116, 32, 101, 100, 103, 101, 77, 111, 100, 101, 32, 102, 105, 108, 116, 101, 114, 85, 110, 105, 116, 115, 32, 103, 108, 121, 112, 104, 82, 101, 102, 32, 103, 114, 97, 100, 105, 101, 110, 116, 84, 114, 97, 110, 115, 102, 111, 114, 109, 32, 103, 114, 97, 100, 105, 101, 110, 116, 85, 110, 105, 116, 115, 32, 107, 101, 114, 110, 101, 108, 77, 97, 116, 114, 105, 120, 32, 107, 101, 114, 110, 101, 108, 85, 110, 105, 116, 76, 101, 110, 103, 116, 104, 32, 107, 101, 121, 80, 111, 105, 110, 116, 115, 32, 107, 101, 121, 83, 112, 108, 105, 110, 101, 115, 32, 107, 101, 121, 84, 105, 109, 101, 115, 32, 108, 101, 110, 103, 116, 104, 65, 100, 106, 117, 115, 116, 32, 108, 105, 109, 105, 116, 105, 110, 103, 67, 111, 110, 101, 65, 110, 103, 108, 101, 32, 109, 97, 114, 107, 101, 114, 72, 101, 105, 103, 104, 116, 32, 109, 97, 114, 107, 101, 114, 85, 110, 105, 116, 115, 32, 109, 97, 114, 107, 101, 114, 87, 105, 100, 116, 104, 32, 109, 97, 115, 107, 67, 111, 110, 116, 101, 110, 116, 85, 110, 105, 116, 115, 32, 109, 97, 115, 107, 85, 110, 105, 116, 115, 32, 110, 117, 109, 79, 99, 116, 97, 118, 101, 115, 32, 112, 97, 116, 104, 76, 101, 110, 103, 116, 104, 32, 112, 97, 116, 116, 101, 114, 110, 67, 111, 110, 116, 101, 110, 116, 85, 110, 105, 116, 115, 32, 112, 97, 116, 116, 101, 114, 110, 84, 114, 97, 110, 115, 102, 111, 114, 109, 32, 112, 97, 116, 116, 101, 114, 110, 85, 110, 105, 116, 115, 32, 112, 111, 105, 110, 116, 115, 65, 116, 88, 32, 112, 111, 105, 110, 116, 115, 65, 116, 89, 32, 112, 111, 105, 110, 116, 115, 65, 116, 90, 32, 112, 114, 101, 115, 101, 114, 118, 101, 65, 108, 112, 104, 97, 32, 112, 114, 101, 115, 101, 114, 118, 101, 65, 115, 112, 101, 99, 116, 82, 97, 116, 105, 111, 32, 112, 114, 105, 109, 105, 116, 105, 118, 101, 85, 110, 105, 116, 115, 32, 114, 101, 102, 88, 32, 114, 101, 102, 89, 32, 114, 101, 112, 101, 97, 116, 67, 111, 117, 110, 116, 32, 114, 101, 112, 101, 97, 116, 68, 117, 114, 32, 114, 101, 113, 117, 105, 114, 101, 100, 69, 120, 116, 101, 110, 115, 105, 111, 110, 115, 32, 114, 101, 113, 117, 105, 114, 101, 100, 70, 101, 97, 116, 117, 114, 101, 115, 32, 115, 112, 101, 99, 117, 108, 97, 114, 67, 111, 110, 115, 116, 97, 110, 116, 32, 115, 112, 101, 99, 117, 108, 97, 114, 69, 120, 112, 111, 110, 101, 110, 116, 32, 115, 112, 114, 101, 97, 100, 77, 101, 116, 104, 111, 100, 32, 115, 116, 97, 114, 116, 79, 102, 102, 115, 101, 116, 32, 115, 116, 100, 68, 101, 118, 105, 97, 116, 105, 111, 110, 32, 115, 116, 105, 116, 99, 104, 84, 105, 108, 101, 115, 32, 115, 117, 114, 102, 97, 99, 101, 83, 99, 97, 108, 101, 32, 115, 121, 115, 116, 101, 109, 76, 97, 110, 103, 117, 97, 103, 101, 32, 116, 97, 98, 108, 101, 86, 97, 108, 117, 101, 115, 32, 116, 97, 114, 103, 101, 116, 88, 32, 116, 97, 114, 103, 101, 116, 89, 32, 116, 101, 120, 116, 76, 101, 110, 103, 116, 104, 32, 118, 105, 101, 119, 66, 111, 120, 32, 118, 105, 101, 119, 84, 97, 114, 103, 101, 116, 32, 120, 67, 104, 97, 110, 110, 101, 108, 83, 101, 108, 101, 99, 116, 111, 114, 32, 121, 67, 104, 97, 110, 110, 101, 108, 83, 101, 108, 101, 99, 116, 111, 114, 32, 122, 111, 111, 109, 65, 110, 100, 80, 97, 110] : List UInt8)
def attrsW : ByteArray := ⟨attrsL.toArray⟩
def urlW : ByteArray := (⟨#[100, 101, 102, 105, 110, 105, 116, 105, 111, 110, 85, 82, 76]⟩ : ByteArray)
set_option maxRecDepth 100000 in
theorem tagsOk : WordsOk tagsW := ⟨by decide +kernel, by decide +kernel, by decide +kernel⟩
set_option maxRecDepth 100000 in
theorem attrsOk : WordsOk attrsW := ⟨by decide +kernel, by decide +kernel, by decide +kernel⟩
theorem urlOk : WordsOk urlW := ⟨by decide +kernel, by decide +kernel, by decide +kernel⟩

/-! ### the last of some words with such small letters is the first, where no two are alike -/
def tidyW (fs : List (List UInt8)) : Bool := decide ((fs.map (List.map lowU)).Nodup)

theorem gFind_none : ∀ (fs : List (List UInt8)) (k : List UInt8) (o : Option ByteArray), (∀ f ∈ fs, f.map lowU ≠ k) → (fs.map fun l => (⟨l.toArray⟩ : ByteArray)).foldl (findStep k) o = o
  | [], _, _, _ => rfl
  | f :: r, k, o, h => by
    simp only [List.map_cons, List.foldl_cons]
    rw [show findStep k o ⟨f.toArray⟩ = o from by
      unfold findStep lowB
      rw [if_neg]
      simpa using h f (by simp)]
    exact gFind_none r k o (fun f hf => h f (by simp [hf]))

/-- the first word with such small letters, or the name -/
def firstW (nm : List UInt8) (fs : List (List UInt8)) : List UInt8 := match fs.find? (isW nm) with | some f => f | none => nm

theorem greatL_split (nm : List UInt8) : ∀ (l cur : List UInt8), greatL nm cur l = firstW nm (split32 cur l)
  | [], cur => by
    unfold greatL split32 firstW
    simp only [List.find?_cons, List.find?_nil]
    cases isW nm cur <;> rfl
  | c :: r, cur => by
    unfold greatL split32
    by_cases h : c = 32
    · simp only [h, if_true, greatL_split nm r []]
      unfold firstW
      simp only [List.find?_cons]
      cases isW nm cur <;> rfl
    · simp only [h, if_false, greatL_split nm r]

theorem gFind_first : ∀ (fs : List (List UInt8)) (nm : List UInt8), ((fs.map (List.map lowU)).Nodup) → (∀ f ∈ fs, f ≠ []) →
    gFind (fs.map fun l => (⟨l.toArray⟩ : ByteArray)) nm = (fs.find? (isW nm)).map fun l => (⟨l.toArray⟩ : ByteArray)
  | [], _, _, _ => rfl
  | f :: r, nm, h, hn => by
    simp only [List.map_cons, List.nodup_cons] at h
    obtain ⟨h1, h2⟩ := h
    have ih := gFind_first r nm h2 (fun f hf => hn f (by simp [hf]))
    unfold gFind at ih ⊢
    simp only [List.map_cons, List.foldl_cons, List.find?_cons]
    by_cases hf : f.map lowU = nm
    · have hw : isW nm f = true := by
        unfold isW
        have : nm ≠ [] := by
          rw [← hf]; simpa using hn f (by simp)
        rw [hf]; simpa using this
      rw [hw]
      rw [show findStep nm none ⟨f.toArray⟩ = some ⟨f.toArray⟩ from by unfold findStep lowB; rw [if_pos (by simpa using hf)]]
      rw [gFind_none r nm _ (fun g hg e => h1 (by rw [hf, ← e]; exact List.mem_map_of_mem hg))]
      rfl
    · have hw : isW nm f = false := by
        unfold isW
        rw [show (f.map lowU == nm) = false from by simpa using hf]; rfl
      rw [hw]
      rw [show findStep nm none ⟨f.toArray⟩ = none from by unfold findStep lowB; rw [if_neg (by simpa using hf)]]
      exact ih

theorem find_filter {α : Type} (p q : α → Bool) (h : ∀ x, p x = true → q x = true) : ∀ l : List α, (l.filter q).find? p = l.find? p
  | [] => rfl
  | x :: r => by
    simp only [List.filter_cons]
    cases hq : q x
    · have : p x = false := by
        cases hp : p x
        · rfl
        · rw [h x hp] at hq; cases hq
      simp [this, find_filter p q h r]
    · simp only [if_true, List.find?_cons, find_filter p q h r]

/-- what the map answers is what the reference answers -/
theorem great_same {ws : ByteArray} (hok : WordsOk ws) (ht : tidyW (Lib.fields ws.data.toList) = true) (nm : ByteArray) :
    (gFind (fieldsV ws) nm.data.toList).getD nm = greatB nm ws := by
  unfold greatB
  rw [greatL_split]
  have h1 : gFind (fieldsV ws) nm.data.toList = ((Lib.fields ws.data.toList).find? (isW nm.data.toList)).map fun l => (⟨l.toArray⟩ : ByteArray) := by
    rw [fieldsV]
    refine gFind_first _ _ (of_decide_eq_true ht) (fun f hf => ?_)
    rw [hok.same] at hf
    have := (List.mem_filter.1 hf).2
    simpa using this
  rw [h1, hok.same, find_filter]
  · unfold firstW
    cases (split32 [] ws.data.toList).find? (isW nm.data.toList) with
    | none => simp
    | some f => simp
  · intro x hx
    unfold isW at hx
    simp only [Bool.and_eq_true, beq_iff_eq] at hx
    obtain ⟨h1, h2⟩ := hx
    cases x with
    | nil => rw [← h1] at h2; simp at h2
    | cons a b => rfl
set_option maxRecDepth 100000 in
theorem tagsTidy : tidyW (Lib.fields tagsW.data.toList) = true := by decide +kernel
set_option maxRecDepth 100000 in
theorem attrsTidy : tidyW (Lib.fields attrsW.data.toList) = true := by decide +kernel
theorem urlTidy : tidyW (Lib.fields urlW.data.toList) = true := by decide +kernel

def tagB (sp nm : ByteArray) : ByteArray := if (sp.toList == [115, 118, 103]) = true then greatB nm tagsW else nm

set_option maxRecDepth 100000 in
set_option maxHeartbeats 2000000 in
theorem tag_ref (sp nm : ByteArray) (w : World) :
    Calls Tryd.prog 12 #[.string sp, .string nm] w fun e w' => e = .returned (.string (tagB sp nm)) ∧ Below w.heap.size w w' := by
  by_cases hs : (sp.toList == [115, 118, 103]) = true
  · have e1 : tagB sp nm = greatB nm tagsW := by rw [tagB, if_pos hs]
    have H1 := Lib.hid e1
    clear e1
    go_enter Tryd.func12, Tryd.ntmps12
    go_wp2_with fail
    refine (great_ref nm tagsW _ tagsOk.size).mono ?_
    rintro e w' ⟨rfl, hb⟩
    go_wp2
    go_ret
    exact ⟨ret_str H1.out.symm, hb⟩
  · have e1 : tagB sp nm = nm := by rw [tagB, if_neg hs]
    have H1 := Lib.hid e1
    replace hs : (sp.toList == [115, 118, 103]) = false := by simpa using hs
    clear e1
    go_enter Tryd.func12, Tryd.ntmps12
    go_wp2_with fail
    go_ret
    exact ⟨ret_str H1.out.symm, Below.refl _ _⟩

set_option maxRecDepth 100000 in
set_option maxHeartbeats 2000000 in
theorem tag_any (sp nm : ByteArray) (w : World) (hg : Glob w) (hn : nm.size ≤ maxLen) :
    Calls Tryd.prog 11 #[.string sp, .string nm] w fun e w' => e = .returned (.string (tagB sp nm)) ∧ Below w.heap.size w w' := by
  have hsame := great_same tagsOk tagsTidy nm
  have hT : tagB sp nm = if (sp.toList == [115, 118, 103]) = true then (gFind (fieldsV tagsW) nm.data.toList).getD nm else nm := by rw [tagB, hsame]
  have HT := Lib.hid hT
  clear hsame hT
  cases hs : (sp.toList == [115, 118, 103])
  · rw [hs] at HT
    have e1 : tagB sp nm = nm := by rw [HT.out]; rfl
    have H1 := Lib.hid e1
    clear HT e1
    cases ho : gFind (fieldsV tagsW) nm.data.toList
    · have HO := Lib.hid ho
      clear ho
      go_enter Tryd.func11, Tryd.ntmps11
      go_wp2_with fail
      refine (great_any tagsW _ hg tagsOk).mono ?_
      rintro e w1 ⟨rfl, hm, hb⟩
      go_wp2_with (first | (at_lookup; refine wpList_look_none rfl _ rfl _ _ rfl w.heap.size _ rfl hm nm hn rfl HO.out ?_) | fail)
      go_ret
      exact ⟨ret_str H1.out.symm, hb.alloc hb.size _⟩
    · rename_i y
      have HO := Lib.hid ho
      clear ho
      go_enter Tryd.func11, Tryd.ntmps11
      go_wp2_with fail
      refine (great_any tagsW _ hg tagsOk).mono ?_
      rintro e w1 ⟨rfl, hm, hb⟩
      go_wp2_with (first | (at_lookup; refine wpList_look_some rfl _ rfl _ _ rfl w.heap.size _ rfl hm nm hn rfl y HO.out ?_) | fail)
      go_ret
      exact ⟨ret_str H1.out.symm, hb.alloc hb.size _⟩
  · rw [hs] at HT
    cases ho : gFind (fieldsV tagsW) nm.data.toList
    · have e1 : tagB sp nm = nm := by rw [HT.out, ho]; rfl
      have H1 := Lib.hid e1
      have HO := Lib.hid ho
      clear HT e1 ho
      go_enter Tryd.func11, Tryd.ntmps11
      go_wp2_with fail
      refine (great_any tagsW _ hg tagsOk).mono ?_
      rintro e w1 ⟨rfl, hm, hb⟩
      go_wp2_with (first | (at_lookup; refine wpList_look_none rfl _ rfl _ _ rfl w.heap.size _ rfl hm nm hn rfl HO.out ?_) | fail)
      go_ret
      exact ⟨ret_str H1.out.symm, hb.alloc hb.size _⟩
    · rename_i y
      have e1 : tagB sp nm = y := by rw [HT.out, ho]; rfl
      have H1 := Lib.hid e1
      have HO := Lib.hid ho
      clear HT e1 ho
      go_enter Tryd.func11, Tryd.ntmps11
      go_wp2_with fail
      refine (great_any tagsW _ hg tagsOk).mono ?_
      rintro e w1 ⟨rfl, hm, hb⟩
      go_wp2_with (first | (at_lookup; refine wpList_look_some rfl _ rfl _ _ rfl w.heap.size _ rfl hm nm hn rfl y HO.out ?_) | fail)
      go_ret
      exact ⟨ret_str H1.out.symm, hb.alloc hb.size _⟩
end Go.Proofs.YtdoiopdnencabaaDoor
