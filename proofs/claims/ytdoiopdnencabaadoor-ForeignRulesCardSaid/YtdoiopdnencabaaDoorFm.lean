/- Attrs, both ways. -/
import Derived.Test.YtdoiopdnencabaaDoorFl
namespace Go.Proofs.YtdoiopdnencabaaDoor
open Go Go.RowKit Go.Maps

/-- the words by whose small letters a space's attributes are told -/
def spWords (sp : ByteArray) : List ByteArray := if (sp.toList == [115, 118, 103]) = true then fieldsV attrsW else if (sp.toList == [109, 97, 116, 104]) = true then fieldsV urlW else []
theorem low_is (sp nm : ByteArray) : lowName sp nm = (gFind (spWords sp) nm.data.toList).getD nm := by
  unfold lowName spWords
  cases (sp.toList == [115, 118, 103])
  · cases (sp.toList == [109, 97, 116, 104])
    · rfl
    · simp only [Bool.false_eq_true, if_false, if_true, true_and]
      rw [great_same urlOk urlTidy, url_great]
  · simp only [if_true]
    rw [great_same attrsOk attrsTidy]

/-- three cells of an own slice, written -/
theorem OwnP.set {w : World} {base g cap : Nat} {l : List At} (h : OwnP w base (.slice (some ⟨g, 0, none⟩) l.length cap) l) (k : Nat) (hk : k < l.length) (x : At) :
    OwnP (((w.setCell ⟨g, k * 3, none⟩ (.string x.sp)).setCell ⟨g, k * 3 + 1, none⟩ (.string x.nm)).setCell ⟨g, k * 3 + 2, none⟩ (.string x.va)) base (.slice (some ⟨g, 0, none⟩) l.length cap) (l.set k x) := by
  rcases h with ⟨h, _⟩ | ⟨g', cap', cur, he, h1, h2, h3⟩
  · cases h
  · cases he
    refine .inr ⟨g, cap, _, by simp, h1, setCell_heap (setCell_heap (setCell_heap h2 _) _) _, fun j y hy => ?_⟩
    have hin : k * 3 + 2 < cur.size := by
      obtain ⟨_, _, e2⟩ := h3 k l[k] (by simp [hk])
      exact (Array.getElem?_eq_some_iff.1 e2).1
    by_cases hj : k = j
    · subst hj
      simp only [List.getElem?_set_self hk, Option.some.injEq] at hy
      subst hy
      refine ⟨?_, ?_, ?_⟩
      · simp [Array.getElem?_setIfInBounds]; omega
      · simp [Array.getElem?_setIfInBounds]; omega
      · simp [Array.getElem?_setIfInBounds]; omega
    · rw [List.getElem?_set_ne hj] at hy
      obtain ⟨e0, e1, e2⟩ := h3 j y hy
      refine ⟨?_, ?_, ?_⟩
      · rw [← e0]; simp only [Array.getElem?_setIfInBounds]; repeat rw [if_neg (by omega)]
      · rw [← e1]; simp only [Array.getElem?_setIfInBounds]; repeat rw [if_neg (by omega)]
      · rw [← e2]; simp only [Array.getElem?_setIfInBounds]; repeat rw [if_neg (by omega)]

theorem OwnP.cells {w : World} {base g cap : Nat} {l : List At} {n : Nat} (h : OwnP w base (.slice (some ⟨g, 0, none⟩) n cap) l) (k : Nat) (hk : k < l.length) :
    w.cell? ⟨g, k * 3, none⟩ = some (.string l[k].sp) ∧ w.cell? ⟨g, k * 3 + 1, none⟩ = some (.string l[k].nm) ∧ w.cell? ⟨g, k * 3 + 2, none⟩ = some (.string l[k].va) ∧ (∀ j, w.frozen? ⟨g, j, none⟩ = false) ∧ g < w.heap.size ∧ base ≤ g := by
  rcases h with ⟨h, _⟩ | ⟨g', cap', cur, he, h1, h2, h3⟩
  · cases h
  · cases he
    obtain ⟨e0, e1, e2⟩ := h3 k l[k] (by simp [hk])
    refine ⟨?_, ?_, ?_, fun j => by simp [World.frozen?, h2], (Array.getElem?_eq_some_iff.1 h2).1, h1⟩
    · rw [cell_of_row _ _ _ _ _ _ h2]; exact e0
    · rw [cell_of_row _ _ _ _ _ _ h2]; exact e1
    · rw [cell_of_row _ _ _ _ _ _ h2]; exact e2

theorem OwnP.some {w : World} {base n c : Nat} {a : Option Addr} {l : List At} (h : OwnP w base (.slice a n c) l) (hl : 0 < l.length) : ∃ g, a = some ⟨g, 0, none⟩ := by
  rcases h with ⟨_, rfl⟩ | ⟨g, cap, cur, he, _⟩
  · simp at hl
  · cases he; exact ⟨g, rfl⟩

/-- behind k rounds -/
def mixA (f : At → At) (l : List At) (k : Nat) : List At := (l.take k).map f ++ l.drop k
theorem mixA_len (f : At → At) (l : List At) (k : Nat) : (mixA f l k).length = l.length := by
  unfold mixA; simp; omega
theorem mixA_zero (f : At → At) (l : List At) : mixA f l 0 = l := by simp [mixA]
theorem mixA_all (f : At → At) (l : List At) : mixA f l l.length = l.map f := by simp [mixA]
theorem mixA_at (f : At → At) (l : List At) (k : Nat) (hk : k < l.length) : (mixA f l k)[k]'(by rw [mixA_len]; exact hk) = l[k] := by
  unfold mixA
  rw [List.getElem_append_right (by simp; exact Nat.min_le_left _ _)]
  simp [Nat.min_eq_left (Nat.le_of_lt hk)]
theorem mixA_set (f : At → At) (l : List At) (k : Nat) (hk : k < l.length) : (mixA f l k).set k (f l[k]) = mixA f l (k + 1) := by
  unfold mixA
  rw [List.set_append, if_neg (by simp; exact Nat.min_le_left _ _), List.take_succ_eq_append_getElem hk, List.map_append]
  rw [List.length_map, List.length_take, Nat.min_eq_left (Nat.le_of_lt hk), Nat.sub_self, List.drop_eq_getElem_cons hk, List.set_cons_zero]
  simp
theorem mixA_same (f : At → At) (l : List At) (k : Nat) (hk : k < l.length) (hf : f l[k] = l[k]) : mixA f l k = mixA f l (k + 1) := by
  rw [← mixA_set f l k hk, hf]
  conv => rhs; rw [← mixA_at f l k hk]
  simp

set_option maxRecDepth 100000 in
set_option maxHeartbeats 8000000 in
/-- from where the map is known on -/
theorem attrs_any (sp : ByteArray) (v : Value) (l : List At) (w : World) (hg : Glob w) (hv : AtsAt w v l) (hsm : l.length ≤ 1000000) (hn : ∀ x ∈ l, x.nm.size ≤ maxLen) :
    Calls Tryd.prog 8 #[.string sp, v] w fun e w' => ∃ v', e = .returned v' ∧ OwnP w' w.heap.size v' (l.map (attrA sp)) ∧ Below w.heap.size w w' := by
  have hmm := @run_makeMap Tryd.prog
  have hf : ∀ x, attrA sp x = if x.sp.toList.isEmpty = true then spacedA ⟨x.sp, (gFind (spWords sp) x.nm.data.toList).getD x.nm, x.va⟩ else x := fun x => by rw [attrA, low_is]
  have hsz : ∀ x ∈ l, ((gFind (spWords sp) x.nm.data.toList).getD x.nm).size ≤ maxLen := fun x hx => by
    rw [← low_is]
    unfold lowName
    have h1 := hn x hx
    split
    · have := great_size attrsOk (nm := x.nm) (by unfold maxLen at h1; omega)
      unfold maxLen; omega
    · split
      · decide
      · exact h1
  have HF := Lib.hid hf
  have HSZ := Lib.hid hsz
  have HN := Lib.hid hn
  clear hf hsz hn
  generalize attrA sp = f at *
  have hclone := fun (W : World) (hb : Below w.heap.size w W) => clone_any v l W (hv.below (Nat.le_refl _) hb) hsm
  have HC := Lib.hid hclone
  clear hclone
  obtain ⟨va, vc, rfl⟩ := hv.form
  clear hv
  cases h1 : (sp.toList == [115, 118, 103])
  · cases h2 : (sp.toList == [109, 97, 116, 104])
    · have hw : spWords sp = [] := by rw [spWords, if_neg (by rw [h1]; simp), if_neg (by rw [h2]; simp)]
      rw [hw] at HF HSZ
      clear hw
      have hm0 := MapOf.none w
      have hb0 := (Below.refl w.heap.size w).alloc (Nat.le_refl _) (.map #[] 0)
      go_enter Tryd.func8, Tryd.ntmps8
      go_wp2_with fail
      refine (HC.out _ hb0).mono ?_
      obtain ⟨w1, hw1⟩ : ∃ W : World, W = w.alloc (.map #[] 0) := ⟨_, rfl⟩
      have hb1' : Below w.heap.size w w1 := by rw [hw1]; exact hb0
      have hgl := hg.below hg.lt hb1'
      have hm1 : MapOf w1 w.heap.size [] := by rw [hw1]; exact hm0
      rintro e w2 ⟨v', rfl, hown, hb2⟩
      rw [← hw1] at hown hb2
      clear hw1 hm0 hb0
      obtain ⟨oa, oc, rfl⟩ := hown.form
      go_wp2_with fail
      go_loopw [23] (fun i wr => ∃ k : Nat, k ≤ l.length ∧ i = .int .i64 k ∧ OwnP wr w1.heap.size (.slice oa l.length oc) (mixA f l k) ∧ Below w1.heap.size w1 wr) (fun i _ => l.length - (intOf i).toNat)
      case atStart => exact ⟨0, by omega, rfl, by rw [mixA_zero]; exact hown, hb2⟩
      case round =>
        obtain ⟨k, hk, rfl, ho, hbw⟩ := hrel
        by_cases hlt : k < l.length
        · obtain ⟨g, rfl⟩ := ho.some (by rw [mixA_len]; omega)
          have hmm2 := hm1.below hm1.lt hbw
          have hgw := hgl.below hgl.lt hbw
          have hcell := OwnP.cells ho k (by rw [mixA_len]; exact hlt)
          rw [mixA_at f l k hlt] at hcell
          have hset : ∀ W : World, OwnP W w1.heap.size (.slice (some ⟨g, 0, Option.none⟩) l.length oc) (mixA f l k) → OwnP (((W.setCell ⟨g, k * 3, Option.none⟩ (.string (f l[k]).sp)).setCell ⟨g, k * 3 + 1, Option.none⟩ (.string (f l[k]).nm)).setCell ⟨g, k * 3 + 2, Option.none⟩ (.string (f l[k]).va)) w1.heap.size (.slice (some ⟨g, 0, Option.none⟩) l.length oc) (mixA f l (k + 1)) := by
            intro W h
            rw [← mixA_set f l k hlt]
            have h' := h
            rw [← mixA_len f l k] at h'
            have := OwnP.set h' k (by rw [mixA_len]; exact hlt) (f l[k])
            rwa [mixA_len] at this
          have hsame := mixA_same f l k hlt
          have hfx := HF.out l[k]
          have hs1 := HSZ.out l[k] (List.getElem_mem hlt)
          have hs2 := HN.out l[k] (List.getElem_mem hlt)
          have HS := Lib.hid hset
          have HM := Lib.hid hsame
          have HX := Lib.hid hfx
          have HO := Lib.hid ho
          clear hset hsame hfx ho
          generalize l[k] = x at *
          obtain ⟨c0, c1, c2, hfr, hgl2, hge⟩ := hcell
          cases q0 : x.sp.toList.isEmpty
          · rw [q0, if_neg (by simp)] at HX
            clear hfr
            go_wp2_with fail
            go_roundw
            case rel => exact ⟨k + 1, by omega, by go_num, by rw [← HM.out HX.out]; exact HO.out.below ((Below.refl wr.heap.size wr).alloc (Nat.le_refl _) _) (Nat.le_refl _), hbw.trans (((Below.refl wr.heap.size wr).alloc (Nat.le_refl _) _).mono hbw.size)⟩
            case measure => simp [intOf] <;> omega
          · rw [q0, if_pos rfl] at HX
            cases hq : gFind [] x.nm.data.toList
            · rw [hq, Option.getD_none] at HX
              have HQ := Lib.hid hq
              clear hq hs1
              have hA := (Below.refl wr.heap.size wr).alloc (Nat.le_refl _) (.cells #[.string x.sp, .string x.nm, .string x.va] 27)
              have hm3 := hmm2.below hmm2.lt hA
              go_wp2_with (first | (at_lookup; refine wpList_look_none rfl _ rfl _ _ rfl w.heap.size _ rfl hm3 x.nm hs2 rfl HQ.out ?_) | fail)
              have hbx := hA.alloc (by simp) (.cells #[.string ⟨#[]⟩] 44)
              refine (spaced_any ⟨x.sp, x.nm, x.va⟩ _ (hgw.below hgw.lt hbx) hs2).mono ?_
              rintro e w4 ⟨rfl, hb4⟩
              have hb5 : Below wr.heap.size wr w4 := hbx.trans (hb4.mono (by simp; omega))
              have o4 := HO.out.below hb5 (Nat.le_refl _)
              have O4 := Lib.hid o4
              have d0 := (hb5.cell (p := ⟨g, k * 3, Option.none⟩) hgl2).trans c0
              have d1 := (hb5.cell (p := ⟨g, k * 3 + 1, Option.none⟩) hgl2).trans c1
              have d2 := (hb5.cell (p := ⟨g, k * 3 + 2, Option.none⟩) hgl2).trans c2
              have f0 := (hb5.frozen (p := ⟨g, k * 3, Option.none⟩) hgl2).trans (hfr _)
              have f1 := (hb5.frozen (p := ⟨g, k * 3 + 1, Option.none⟩) hgl2).trans (hfr _)
              have f2 := (hb5.frozen (p := ⟨g, k * 3 + 2, Option.none⟩) hgl2).trans (hfr _)
              have hgl4 := Nat.lt_of_lt_of_le hgl2 hb5.size
              clear o4 hfr
              rw [At.v, ← HX.out]
              go_wp2_with fail
              go_roundw
              case rel => exact ⟨k + 1, by omega, by go_num, HS.out _ O4.out, (((hbw.trans (hb5.mono hbw.size)).setCell hge _).setCell hge _).setCell hge _⟩
              case measure => simp [intOf] <;> omega
            · rename_i y
              rw [hq, Option.getD_some] at HX hs1
              have HQ := Lib.hid hq
              clear hq
              have hA := (Below.refl wr.heap.size wr).alloc (Nat.le_refl _) (.cells #[.string x.sp, .string x.nm, .string x.va] 27)
              have hm3 := hmm2.below hmm2.lt hA
              go_wp2_with (first | (at_lookup; refine wpList_look_some rfl _ rfl _ _ rfl w.heap.size _ rfl hm3 x.nm hs2 rfl y HQ.out ?_) | fail)
              have hbx := ((Below.refl wr.heap.size wr).alloc (Nat.le_refl _) (.cells #[.string x.sp, .string y, .string x.va] 27)).alloc (by simp) (.cells #[.string y] 44)
              refine (spaced_any ⟨x.sp, y, x.va⟩ _ (hgw.below hgw.lt hbx) hs1).mono ?_
              rintro e w4 ⟨rfl, hb4⟩
              have hb5 : Below wr.heap.size wr w4 := hbx.trans (hb4.mono (by simp; omega))
              have o4 := HO.out.below hb5 (Nat.le_refl _)
              have O4 := Lib.hid o4
              have d0 := (hb5.cell (p := ⟨g, k * 3, Option.none⟩) hgl2).trans c0
              have d1 := (hb5.cell (p := ⟨g, k * 3 + 1, Option.none⟩) hgl2).trans c1
              have d2 := (hb5.cell (p := ⟨g, k * 3 + 2, Option.none⟩) hgl2).trans c2
              have f0 := (hb5.frozen (p := ⟨g, k * 3, Option.none⟩) hgl2).trans (hfr _)
              have f1 := (hb5.frozen (p := ⟨g, k * 3 + 1, Option.none⟩) hgl2).trans (hfr _)
              have f2 := (hb5.frozen (p := ⟨g, k * 3 + 2, Option.none⟩) hgl2).trans (hfr _)
              have hgl4 := Nat.lt_of_lt_of_le hgl2 hb5.size
              clear o4 hfr
              rw [At.v, ← HX.out]
              go_wp2_with fail
              go_roundw
              case rel => exact ⟨k + 1, by omega, by go_num, HS.out _ O4.out, (((hbw.trans (hb5.mono hbw.size)).setCell hge _).setCell hge _).setCell hge _⟩
              case measure => simp [intOf] <;> omega
        · obtain rfl : k = l.length := by omega
          rw [mixA_all] at ho
          go_wp2_with fail
          go_ret
          exact ⟨_, rfl, by have := ho.mono (b' := w.heap.size) hb1'.size; exact this, hb1'.trans (hbw.mono hb1'.size)⟩
    · have hw : spWords sp = fieldsV urlW := by rw [spWords, if_neg (by rw [h1]; simp), if_pos h2]
      rw [hw] at HF HSZ
      clear hw
      go_enter Tryd.func8, Tryd.ntmps8
      go_wp2_with fail
      refine (great_any urlW _ (hg.alloc _) urlOk).mono ?_
      rintro e w1 ⟨rfl, hm1, hb1⟩
      rw [World.size_alloc] at hm1
      have hb1' : Below w.heap.size w w1 := ((Below.refl _ _).alloc (Nat.le_refl _) _).trans (hb1.mono (by simp))
      have hgl := hg.below hg.lt hb1'
      go_wp2_with fail
      refine (HC.out _ hb1').mono ?_
      rintro e w2 ⟨v', rfl, hown, hb2⟩
      obtain ⟨oa, oc, rfl⟩ := hown.form
      go_wp2_with fail
      go_loopw [23] (fun i wr => ∃ k : Nat, k ≤ l.length ∧ i = .int .i64 k ∧ OwnP wr w1.heap.size (.slice oa l.length oc) (mixA f l k) ∧ Below w1.heap.size w1 wr) (fun i _ => l.length - (intOf i).toNat)
      case atStart => exact ⟨0, by omega, rfl, by rw [mixA_zero]; exact hown, hb2⟩
      case round =>
        obtain ⟨k, hk, rfl, ho, hbw⟩ := hrel
        by_cases hlt : k < l.length
        · obtain ⟨g, rfl⟩ := ho.some (by rw [mixA_len]; omega)
          have hmm2 := hm1.below hm1.lt hbw
          have hgw := hgl.below hgl.lt hbw
          have hcell := OwnP.cells ho k (by rw [mixA_len]; exact hlt)
          rw [mixA_at f l k hlt] at hcell
          have hset : ∀ W : World, OwnP W w1.heap.size (.slice (some ⟨g, 0, Option.none⟩) l.length oc) (mixA f l k) → OwnP (((W.setCell ⟨g, k * 3, Option.none⟩ (.string (f l[k]).sp)).setCell ⟨g, k * 3 + 1, Option.none⟩ (.string (f l[k]).nm)).setCell ⟨g, k * 3 + 2, Option.none⟩ (.string (f l[k]).va)) w1.heap.size (.slice (some ⟨g, 0, Option.none⟩) l.length oc) (mixA f l (k + 1)) := by
            intro W h
            rw [← mixA_set f l k hlt]
            have h' := h
            rw [← mixA_len f l k] at h'
            have := OwnP.set h' k (by rw [mixA_len]; exact hlt) (f l[k])
            rwa [mixA_len] at this
          have hsame := mixA_same f l k hlt
          have hfx := HF.out l[k]
          have hs1 := HSZ.out l[k] (List.getElem_mem hlt)
          have hs2 := HN.out l[k] (List.getElem_mem hlt)
          have HS := Lib.hid hset
          have HM := Lib.hid hsame
          have HX := Lib.hid hfx
          have HO := Lib.hid ho
          clear hset hsame hfx ho
          generalize l[k] = x at *
          obtain ⟨c0, c1, c2, hfr, hgl2, hge⟩ := hcell
          cases q0 : x.sp.toList.isEmpty
          · rw [q0, if_neg (by simp)] at HX
            clear hfr
            go_wp2_with fail
            go_roundw
            case rel => exact ⟨k + 1, by omega, by go_num, by rw [← HM.out HX.out]; exact HO.out.below ((Below.refl wr.heap.size wr).alloc (Nat.le_refl _) _) (Nat.le_refl _), hbw.trans (((Below.refl wr.heap.size wr).alloc (Nat.le_refl _) _).mono hbw.size)⟩
            case measure => simp [intOf] <;> omega
          · rw [q0, if_pos rfl] at HX
            cases hq : gFind (fieldsV urlW) x.nm.data.toList
            · rw [hq, Option.getD_none] at HX
              have HQ := Lib.hid hq
              clear hq hs1
              have hA := (Below.refl wr.heap.size wr).alloc (Nat.le_refl _) (.cells #[.string x.sp, .string x.nm, .string x.va] 27)
              have hm3 := hmm2.below hmm2.lt hA
              go_wp2_with (first | (at_lookup; refine wpList_look_none rfl _ rfl _ _ rfl (w.heap.size + 1) _ rfl hm3 x.nm hs2 rfl HQ.out ?_) | fail)
              have hbx := hA.alloc (by simp) (.cells #[.string ⟨#[]⟩] 44)
              refine (spaced_any ⟨x.sp, x.nm, x.va⟩ _ (hgw.below hgw.lt hbx) hs2).mono ?_
              rintro e w4 ⟨rfl, hb4⟩
              have hb5 : Below wr.heap.size wr w4 := hbx.trans (hb4.mono (by simp; omega))
              have o4 := HO.out.below hb5 (Nat.le_refl _)
              have O4 := Lib.hid o4
              have d0 := (hb5.cell (p := ⟨g, k * 3, Option.none⟩) hgl2).trans c0
              have d1 := (hb5.cell (p := ⟨g, k * 3 + 1, Option.none⟩) hgl2).trans c1
              have d2 := (hb5.cell (p := ⟨g, k * 3 + 2, Option.none⟩) hgl2).trans c2
              have f0 := (hb5.frozen (p := ⟨g, k * 3, Option.none⟩) hgl2).trans (hfr _)
              have f1 := (hb5.frozen (p := ⟨g, k * 3 + 1, Option.none⟩) hgl2).trans (hfr _)
              have f2 := (hb5.frozen (p := ⟨g, k * 3 + 2, Option.none⟩) hgl2).trans (hfr _)
              have hgl4 := Nat.lt_of_lt_of_le hgl2 hb5.size
              clear o4 hfr
              rw [At.v, ← HX.out]
              go_wp2_with fail
              go_roundw
              case rel => exact ⟨k + 1, by omega, by go_num, HS.out _ O4.out, (((hbw.trans (hb5.mono hbw.size)).setCell hge _).setCell hge _).setCell hge _⟩
              case measure => simp [intOf] <;> omega
            · rename_i y
              rw [hq, Option.getD_some] at HX hs1
              have HQ := Lib.hid hq
              clear hq
              have hA := (Below.refl wr.heap.size wr).alloc (Nat.le_refl _) (.cells #[.string x.sp, .string x.nm, .string x.va] 27)
              have hm3 := hmm2.below hmm2.lt hA
              go_wp2_with (first | (at_lookup; refine wpList_look_some rfl _ rfl _ _ rfl (w.heap.size + 1) _ rfl hm3 x.nm hs2 rfl y HQ.out ?_) | fail)
              have hbx := ((Below.refl wr.heap.size wr).alloc (Nat.le_refl _) (.cells #[.string x.sp, .string y, .string x.va] 27)).alloc (by simp) (.cells #[.string y] 44)
              refine (spaced_any ⟨x.sp, y, x.va⟩ _ (hgw.below hgw.lt hbx) hs1).mono ?_
              rintro e w4 ⟨rfl, hb4⟩
              have hb5 : Below wr.heap.size wr w4 := hbx.trans (hb4.mono (by simp; omega))
              have o4 := HO.out.below hb5 (Nat.le_refl _)
              have O4 := Lib.hid o4
              have d0 := (hb5.cell (p := ⟨g, k * 3, Option.none⟩) hgl2).trans c0
              have d1 := (hb5.cell (p := ⟨g, k * 3 + 1, Option.none⟩) hgl2).trans c1
              have d2 := (hb5.cell (p := ⟨g, k * 3 + 2, Option.none⟩) hgl2).trans c2
              have f0 := (hb5.frozen (p := ⟨g, k * 3, Option.none⟩) hgl2).trans (hfr _)
              have f1 := (hb5.frozen (p := ⟨g, k * 3 + 1, Option.none⟩) hgl2).trans (hfr _)
              have f2 := (hb5.frozen (p := ⟨g, k * 3 + 2, Option.none⟩) hgl2).trans (hfr _)
              have hgl4 := Nat.lt_of_lt_of_le hgl2 hb5.size
              clear o4 hfr
              rw [At.v, ← HX.out]
              go_wp2_with fail
              go_roundw
              case rel => exact ⟨k + 1, by omega, by go_num, HS.out _ O4.out, (((hbw.trans (hb5.mono hbw.size)).setCell hge _).setCell hge _).setCell hge _⟩
              case measure => simp [intOf] <;> omega
        · obtain rfl : k = l.length := by omega
          rw [mixA_all] at ho
          go_wp2_with fail
          go_ret
          exact ⟨_, rfl, by have := ho.mono (b' := w.heap.size) hb1'.size; exact this, hb1'.trans (hbw.mono hb1'.size)⟩
  · have hw : spWords sp = fieldsV attrsW := by rw [spWords, if_pos h1]
    rw [hw] at HF HSZ
    clear hw
    go_enter Tryd.func8, Tryd.ntmps8
    go_wp2_with fail
    refine (great_any attrsW _ (hg.alloc _) attrsOk).mono ?_
    rintro e w1 ⟨rfl, hm1, hb1⟩
    rw [World.size_alloc] at hm1
    have hb1' : Below w.heap.size w w1 := ((Below.refl _ _).alloc (Nat.le_refl _) _).trans (hb1.mono (by simp))
    have hgl := hg.below hg.lt hb1'
    go_wp2_with fail
    refine (HC.out _ hb1').mono ?_
    rintro e w2 ⟨v', rfl, hown, hb2⟩
    obtain ⟨oa, oc, rfl⟩ := hown.form
    go_wp2_with fail
    go_loopw [23] (fun i wr => ∃ k : Nat, k ≤ l.length ∧ i = .int .i64 k ∧ OwnP wr w1.heap.size (.slice oa l.length oc) (mixA f l k) ∧ Below w1.heap.size w1 wr) (fun i _ => l.length - (intOf i).toNat)
    case atStart => exact ⟨0, by omega, rfl, by rw [mixA_zero]; exact hown, hb2⟩
    case round =>
      obtain ⟨k, hk, rfl, ho, hbw⟩ := hrel
      by_cases hlt : k < l.length
      · obtain ⟨g, rfl⟩ := ho.some (by rw [mixA_len]; omega)
        have hmm2 := hm1.below hm1.lt hbw
        have hgw := hgl.below hgl.lt hbw
        have hcell := OwnP.cells ho k (by rw [mixA_len]; exact hlt)
        rw [mixA_at f l k hlt] at hcell
        have hset : ∀ W : World, OwnP W w1.heap.size (.slice (some ⟨g, 0, Option.none⟩) l.length oc) (mixA f l k) → OwnP (((W.setCell ⟨g, k * 3, Option.none⟩ (.string (f l[k]).sp)).setCell ⟨g, k * 3 + 1, Option.none⟩ (.string (f l[k]).nm)).setCell ⟨g, k * 3 + 2, Option.none⟩ (.string (f l[k]).va)) w1.heap.size (.slice (some ⟨g, 0, Option.none⟩) l.length oc) (mixA f l (k + 1)) := by
          intro W h
          rw [← mixA_set f l k hlt]
          have h' := h
          rw [← mixA_len f l k] at h'
          have := OwnP.set h' k (by rw [mixA_len]; exact hlt) (f l[k])
          rwa [mixA_len] at this
        have hsame := mixA_same f l k hlt
        have hfx := HF.out l[k]
        have hs1 := HSZ.out l[k] (List.getElem_mem hlt)
        have hs2 := HN.out l[k] (List.getElem_mem hlt)
        have HS := Lib.hid hset
        have HM := Lib.hid hsame
        have HX := Lib.hid hfx
        have HO := Lib.hid ho
        clear hset hsame hfx ho
        generalize l[k] = x at *
        obtain ⟨c0, c1, c2, hfr, hgl2, hge⟩ := hcell
        cases q0 : x.sp.toList.isEmpty
        · rw [q0, if_neg (by simp)] at HX
          clear hfr
          go_wp2_with fail
          go_roundw
          case rel => exact ⟨k + 1, by omega, by go_num, by rw [← HM.out HX.out]; exact HO.out.below ((Below.refl wr.heap.size wr).alloc (Nat.le_refl _) _) (Nat.le_refl _), hbw.trans (((Below.refl wr.heap.size wr).alloc (Nat.le_refl _) _).mono hbw.size)⟩
          case measure => simp [intOf] <;> omega
        · rw [q0, if_pos rfl] at HX
          cases hq : gFind (fieldsV attrsW) x.nm.data.toList
          · rw [hq, Option.getD_none] at HX
            have HQ := Lib.hid hq
            clear hq hs1
            have hA := (Below.refl wr.heap.size wr).alloc (Nat.le_refl _) (.cells #[.string x.sp, .string x.nm, .string x.va] 27)
            have hm3 := hmm2.below hmm2.lt hA
            go_wp2_with (first | (at_lookup; refine wpList_look_none rfl _ rfl _ _ rfl (w.heap.size + 1) _ rfl hm3 x.nm hs2 rfl HQ.out ?_) | fail)
            have hbx := hA.alloc (by simp) (.cells #[.string ⟨#[]⟩] 44)
            refine (spaced_any ⟨x.sp, x.nm, x.va⟩ _ (hgw.below hgw.lt hbx) hs2).mono ?_
            rintro e w4 ⟨rfl, hb4⟩
            have hb5 : Below wr.heap.size wr w4 := hbx.trans (hb4.mono (by simp; omega))
            have o4 := HO.out.below hb5 (Nat.le_refl _)
            have O4 := Lib.hid o4
            have d0 := (hb5.cell (p := ⟨g, k * 3, Option.none⟩) hgl2).trans c0
            have d1 := (hb5.cell (p := ⟨g, k * 3 + 1, Option.none⟩) hgl2).trans c1
            have d2 := (hb5.cell (p := ⟨g, k * 3 + 2, Option.none⟩) hgl2).trans c2
            have f0 := (hb5.frozen (p := ⟨g, k * 3, Option.none⟩) hgl2).trans (hfr _)
            have f1 := (hb5.frozen (p := ⟨g, k * 3 + 1, Option.none⟩) hgl2).trans (hfr _)
            have f2 := (hb5.frozen (p := ⟨g, k * 3 + 2, Option.none⟩) hgl2).trans (hfr _)
            have hgl4 := Nat.lt_of_lt_of_le hgl2 hb5.size
            clear o4 hfr
            rw [At.v, ← HX.out]
            go_wp2_with fail
            go_roundw
            case rel => exact ⟨k + 1, by omega, by go_num, HS.out _ O4.out, (((hbw.trans (hb5.mono hbw.size)).setCell hge _).setCell hge _).setCell hge _⟩
            case measure => simp [intOf] <;> omega
          · rename_i y
            rw [hq, Option.getD_some] at HX hs1
            have HQ := Lib.hid hq
            clear hq
            have hA := (Below.refl wr.heap.size wr).alloc (Nat.le_refl _) (.cells #[.string x.sp, .string x.nm, .string x.va] 27)
            have hm3 := hmm2.below hmm2.lt hA
            go_wp2_with (first | (at_lookup; refine wpList_look_some rfl _ rfl _ _ rfl (w.heap.size + 1) _ rfl hm3 x.nm hs2 rfl y HQ.out ?_) | fail)
            have hbx := ((Below.refl wr.heap.size wr).alloc (Nat.le_refl _) (.cells #[.string x.sp, .string y, .string x.va] 27)).alloc (by simp) (.cells #[.string y] 44)
            refine (spaced_any ⟨x.sp, y, x.va⟩ _ (hgw.below hgw.lt hbx) hs1).mono ?_
            rintro e w4 ⟨rfl, hb4⟩
            have hb5 : Below wr.heap.size wr w4 := hbx.trans (hb4.mono (by simp; omega))
            have o4 := HO.out.below hb5 (Nat.le_refl _)
            have O4 := Lib.hid o4
            have d0 := (hb5.cell (p := ⟨g, k * 3, Option.none⟩) hgl2).trans c0
            have d1 := (hb5.cell (p := ⟨g, k * 3 + 1, Option.none⟩) hgl2).trans c1
            have d2 := (hb5.cell (p := ⟨g, k * 3 + 2, Option.none⟩) hgl2).trans c2
            have f0 := (hb5.frozen (p := ⟨g, k * 3, Option.none⟩) hgl2).trans (hfr _)
            have f1 := (hb5.frozen (p := ⟨g, k * 3 + 1, Option.none⟩) hgl2).trans (hfr _)
            have f2 := (hb5.frozen (p := ⟨g, k * 3 + 2, Option.none⟩) hgl2).trans (hfr _)
            have hgl4 := Nat.lt_of_lt_of_le hgl2 hb5.size
            clear o4 hfr
            rw [At.v, ← HX.out]
            go_wp2_with fail
            go_roundw
            case rel => exact ⟨k + 1, by omega, by go_num, HS.out _ O4.out, (((hbw.trans (hb5.mono hbw.size)).setCell hge _).setCell hge _).setCell hge _⟩
            case measure => simp [intOf] <;> omega
      · obtain rfl : k = l.length := by omega
        rw [mixA_all] at ho
        go_wp2_with fail
        go_ret
        exact ⟨_, rfl, by have := ho.mono (b' := w.heap.size) hb1'.size; exact this, hb1'.trans (hbw.mono hb1'.size)⟩
end Go.Proofs.YtdoiopdnencabaaDoor
