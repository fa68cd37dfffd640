/- Contracts of chapter 8: the reference's HtmlPoint; Rules, both ways. -/
import Derived.Test.YtdoiopdnencabaaDoorFc
namespace Go.Proofs.YtdoiopdnencabaaDoor
open Go Go.RowKit

theorem text_eq (n : ByteArray) : amongB n textW = ((n.toList == ([116, 101, 120, 116, 47, 104, 116, 109, 108] : List UInt8)) || (n.toList == ([97, 112, 112, 108, 105, 99, 97, 116, 105, 111, 110, 47, 120, 104, 116, 109, 108, 43, 120, 109, 108] : List UInt8))) := by
  rw [amongB, amongL_split, show split32 [] textW.data.toList = [([116, 101, 120, 116, 47, 104, 116, 109, 108] : List UInt8), ([97, 112, 112, 108, 105, 99, 97, 116, 105, 111, 110, 47, 120, 104, 116, 109, 108, 43, 120, 109, 108] : List UInt8)] from by decide +kernel, ByteArray.toList_eq]
  generalize n.data.toList = l
  rw [Bool.eq_iff_iff]
  simp only [List.any_cons, List.any_nil, Bool.or_false, Bool.and_eq_true, Bool.or_eq_true, beq_iff_eq]
  constructor
  · rintro ⟨h | h, _⟩
    · exact .inl h.symm
    · exact .inr h.symm
  · rintro (rfl | rfl)
    · exact ⟨.inl rfl, rfl⟩
    · exact ⟨.inr rfl, rfl⟩
theorem mal_eq (n : ByteArray) : amongB n malW = ((n.toList == ([109, 103, 108, 121, 112, 104] : List UInt8)) || (n.toList == ([109, 97, 108, 105, 103, 110, 109, 97, 114, 107] : List UInt8))) := by
  rw [amongB, amongL_split, show split32 [] malW.data.toList = [([109, 103, 108, 121, 112, 104] : List UInt8), ([109, 97, 108, 105, 103, 110, 109, 97, 114, 107] : List UInt8)] from by decide +kernel, ByteArray.toList_eq]
  generalize n.data.toList = l
  rw [Bool.eq_iff_iff]
  simp only [List.any_cons, List.any_nil, Bool.or_false, Bool.and_eq_true, Bool.or_eq_true, beq_iff_eq]
  constructor
  · rintro ⟨h | h, _⟩
    · exact .inl h.symm
    · exact .inr h.symm
  · rintro (rfl | rfl)
    · exact ⟨.inl rfl, rfl⟩
    · exact ⟨.inr rfl, rfl⟩

set_option maxRecDepth 100000 in
set_option maxHeartbeats 2000000 in
theorem hp_ref (i : Int) (sp nm : ByteArray) (tv : Value) (l : List At) (w : World) (hv : AtsAt w tv l) (hl : ∀ x ∈ l, x.va.size ≤ maxLen) :
    Calls Tryd.prog 18 #[.agg #[.int .i64 i, .string sp, .string nm], tv] w fun e w' => e = .returned (.bool (hpB sp nm l)) ∧ Below w.heap.size w w' := by
  obtain ⟨va, vc, rfl⟩ := hv.form
  have hlen := hv.len
  have hb0 := (Below.refl w.heap.size w).alloc (Nat.le_refl _) (.cells #[.int .i64 i, .string sp, .string nm] 31)
  have hv1 := hv.below (Nat.le_refl _) hb0
  have HV := Lib.hid hv1
  clear hv hv1
  by_cases hs : (sp.toList == [115, 118, 103]) = true
  · have e1 : hpB sp nm l = amongB nm svgW := by rw [hpB, if_pos hs]
    have H1 := Lib.hid e1
    clear e1
    go_enter Tryd.func18, Tryd.ntmps18
    go_wp2_with fail
    refine (among_ref nm svgW _ svgOk.size).mono ?_
    rintro e w' ⟨rfl, rfl⟩
    go_wp2
    go_ret
    exact ⟨ret_bool H1.out.symm, hb0⟩
  · have hpx : hpB sp nm l = if xmlB sp nm = true then l.any encP else false := by rw [hpB, if_neg hs]
    replace hs : (sp.toList == [115, 118, 103]) = false := by simpa using hs
    by_cases hx : sp.toList = [109, 97, 116, 104] ∧ nm.toList = ([97, 110, 110, 111, 116, 97, 116, 105, 111, 110, 45, 120, 109, 108] : List UInt8)
    · obtain ⟨hx1, hx2⟩ := hx
      have e2 : xmlB sp nm = true := by rw [xmlB, hx1, hx2]; rfl
      rw [e2] at hpx
      have H1 := Lib.hid hpx
      clear e2 hpx
      go_enter Tryd.func18, Tryd.ntmps18
      go_wp2_with fail
      go_loopw [5, 6] (fun i _ wr => ∃ k : Nat, k ≤ l.length ∧ i = .int .i64 k ∧ (∀ j, (hj : j < k) → (hl : j < l.length) → encP l[j] = false) ∧ Below w.heap.size w wr ∧ AtsAt wr (.slice va l.length vc) l) (fun i _ _ => l.length - (intOf i).toNat)
      case atStart => exact ⟨0, by omega, rfl, fun j hj => by omega, hb0, HV.out⟩
      case round =>
        obtain ⟨k, hk, rfl, hP, hb, hvr⟩ := hrel
        have HP := Lib.hid hP
        have HVR := Lib.hid hvr
        clear hP hvr
        by_cases hlt : k < l.length
        · obtain ⟨b', off, rfl, hblt, c0, c1, c2⟩ := ats_at HVR.out hlt
          have hyes := fun (h : encP l[k] = true) => (List.any_eq_true.2 ⟨l[k], List.getElem_mem hlt, h⟩ : l.any encP = true)
          have hno := fun (h : encP l[k] = false) => (fun j (hj : j < k + 1) (hl : j < l.length) => by
            by_cases hjk : j < k
            · exact HP.out j hjk hl
            · obtain rfl : j = k := by omega
              exact h : ∀ j, (hj : j < k + 1) → (hl : j < l.length) → encP l[j] = false)
          have hsz := hl l[k] (List.getElem_mem hlt)
          have hE : encP l[k] = ((l[k].sp.toList == []) && (l[k].nm.toList == ([101, 110, 99, 111, 100, 105, 110, 103] : List UInt8)) && (((lowB l[k].va).toList == ([116, 101, 120, 116, 47, 104, 116, 109, 108] : List UInt8)) || ((lowB l[k].va).toList == ([97, 112, 112, 108, 105, 99, 97, 116, 105, 111, 110, 47, 120, 104, 116, 109, 108, 43, 120, 109, 108] : List UInt8)))) := by rw [encP, text_eq]
          have HE := Lib.hid hE
          clear hE
          have HY := Lib.hid hyes
          have HN := Lib.hid hno
          clear hyes hno
          generalize l[k] = x at *
          go_wp2_with fail
          refine (lower_ref x.va _ hsz).mono ?_
          rintro e w2 ⟨rfl, hb2⟩
          have c0' := (hb2.cell (p := ⟨b', off + k * 3, none⟩) hblt).trans c0
          have c1' := (hb2.cell (p := ⟨b', off + k * 3 + 1, none⟩) hblt).trans c1
          have hv2 := HVR.out.below (Nat.le_refl _) hb2
          have HV2 := Lib.hid hv2
          clear hv2
          generalize lowB x.va = y at *
          cases q1 : x.sp.toList.isEmpty
          · have e1 : (x.sp.toList == []) = false := by
              cases hq : x.sp.toList with
              | nil => rw [hq] at q1; simp at q1
              | cons a r => rfl
            rw [e1] at HE
            have hno := HN.out (by rw [HE.out]; rfl)
            clear e1
            have HNN := Lib.hid hno
            clear hno
            go_wp2
            go_roundw
            case rel => exact ⟨k + 1, by omega, by go_num, HNN.out, hb.trans (hb2.mono hb.size), HV2.out⟩
            case measure => simp [intOf] <;> omega
          · have e1 : (x.sp.toList == []) = true := by
              cases hq : x.sp.toList with
              | nil => rfl
              | cons a r => rw [hq] at q1; simp at q1
            rw [e1] at HE
            clear e1
            cases q2 : (x.nm.toList == ([101, 110, 99, 111, 100, 105, 110, 103] : List UInt8))
            · rw [q2] at HE
              have hno := HN.out (by rw [HE.out]; simp)
              have HNN := Lib.hid hno
              clear hno
              go_wp2
              go_roundw
              case rel => exact ⟨k + 1, by omega, by go_num, HNN.out, hb.trans (hb2.mono hb.size), HV2.out⟩
              case measure => simp [intOf] <;> omega
            · rw [q2] at HE
              cases q3 : (y.toList == ([116, 101, 120, 116, 47, 104, 116, 109, 108] : List UInt8))
              · rw [q3] at HE
                cases q4 : (y.toList == ([97, 112, 112, 108, 105, 99, 97, 116, 105, 111, 110, 47, 120, 104, 116, 109, 108, 43, 120, 109, 108] : List UInt8))
                · rw [q4] at HE
                  have hno := HN.out (by rw [HE.out]; simp)
                  have HNN := Lib.hid hno
                  clear hno
                  go_wp2
                  go_roundw
                  case rel => exact ⟨k + 1, by omega, by go_num, HNN.out, hb.trans (hb2.mono hb.size), HV2.out⟩
                  case measure => simp [intOf] <;> omega
                · rw [q4] at HE
                  have hyy := HY.out (by rw [HE.out]; simp)
                  have HYY := Lib.hid hyy
                  clear hyy
                  go_wp2
                  go_ret
                  exact ⟨ret_bool (by rw [H1.out, HYY.out]; rfl), hb.trans (hb2.mono hb.size)⟩
              · rw [q3] at HE
                have hyy := HY.out (by rw [HE.out]; simp)
                have HYY := Lib.hid hyy
                clear hyy
                go_wp2
                go_ret
                exact ⟨ret_bool (by rw [H1.out, HYY.out]; rfl), hb.trans (hb2.mono hb.size)⟩
        · obtain rfl : k = l.length := by omega
          go_wp2_with fail
          go_ret
          refine ⟨ret_bool ?_, hb⟩
          rw [H1.out]
          symm
          simp only [if_true]
          rw [Bool.eq_false_iff]
          intro h
          obtain ⟨x, hx, hP⟩ := List.any_eq_true.1 h
          obtain ⟨j, hj, rfl⟩ := List.getElem_of_mem hx
          rw [HP.out j hj hj] at hP
          cases hP
    · have e2 : xmlB sp nm = false := by
        rw [xmlB, Bool.and_eq_false_iff, beq_eq_false_iff_ne, beq_eq_false_iff_ne]
        by_cases h1 : sp.toList = [109, 97, 116, 104]
        · exact .inr (fun h2 => hx ⟨h1, h2⟩)
        · exact .inl h1
      rw [e2] at hpx
      have H1 := Lib.hid hpx
      clear hpx e2
      by_cases h1 : sp.toList = [109, 97, 116, 104]
      · have h2 : (nm.toList == ([97, 110, 110, 111, 116, 97, 116, 105, 111, 110, 45, 120, 109, 108] : List UInt8)) = false := by rw [beq_eq_false_iff_ne]; exact fun h2 => hx ⟨h1, h2⟩
        clear hx
        go_enter Tryd.func18, Tryd.ntmps18
        go_wp2_with fail
        go_ret
        exact ⟨ret_bool (by rw [H1.out]; rfl), hb0⟩
      · have h2 : (sp.toList == [109, 97, 116, 104]) = false := by rw [beq_eq_false_iff_ne]; exact h1
        clear hx h1
        go_enter Tryd.func18, Tryd.ntmps18
        go_wp2_with fail
        go_ret
        exact ⟨ret_bool (by rw [H1.out]; rfl), hb0⟩

/-- HTML's rules -/
def rulesB (k : Int) (n sp nm : ByteArray) (l : List At) : Bool :=
  (sp.toList == [104, 116, 109, 108]) || sp.toList.isEmpty ||
    (if k = 2 then (mpB sp nm && !((n.toList == ([109, 103, 108, 121, 112, 104] : List UInt8)) || (n.toList == ([109, 97, 108, 105, 103, 110, 109, 97, 114, 107] : List UInt8)))) || (xmlB sp nm && (n.toList == [115, 118, 103])) || hpB sp nm l
     else if k = 1 then mpB sp nm || hpB sp nm l else false)

set_option maxRecDepth 100000 in
set_option maxHeartbeats 4000000 in
theorem rules_any (k : Tk) (i : Int) (sp nm : ByteArray) (av tv : Value) (l : List At) (w : World) (hg : Glob w) (hv : AtsAt w av l) (hl : ∀ x ∈ l, x.va.size ≤ maxLen) (ht : ∃ a n c, tv = .slice a n c) :
    Calls Tryd.prog 19 #[.agg #[.int .i64 i, .string sp, .string nm], av, .agg #[.int .u8 k.k, .string k.n, tv, .bool k.s, .string k.t, .string k.p, .string k.y, .bool k.a, .bool k.b, .bool k.c]] w fun e w' => e = .returned (.bool (rulesB k.k k.n sp nm l)) ∧ Below w.heap.size w w' := by
  obtain ⟨va, vc, rfl⟩ := hv.form
  obtain ⟨ta, tn, tc, rfl⟩ := ht
  have hg1 := (hg.alloc (.cells #[.int .i64 i, .string sp, .string nm] 31)).alloc (.cells #[.int .u8 k.k, .string k.n, .slice ta tn tc, .bool k.s, .string k.t, .string k.p, .string k.y, .bool k.a, .bool k.b, .bool k.c] 34)
  have hb0 := ((Below.refl w.heap.size w).alloc (Nat.le_refl _) (.cells #[.int .i64 i, .string sp, .string nm] 31)).alloc (by simp) (.cells #[.int .u8 k.k, .string k.n, .slice ta tn tc, .bool k.s, .string k.t, .string k.p, .string k.y, .bool k.a, .bool k.b, .bool k.c] 34)
  obtain ⟨kk, n, s, t, p, y, a, b, c⟩ := k
  simp only at *
  obtain ⟨W, hW⟩ : ∃ W : World, W = ((w.alloc (.cells #[.int .i64 i, .string sp, .string nm] 31)).alloc (.cells #[.int .u8 kk, .string n, .slice ta tn tc, .bool s, .string t, .string p, .string y, .bool a, .bool b, .bool c] 34)) := ⟨_, rfl⟩
  have hv1 := hv.below (Nat.le_refl _) hb0
  rw [← hW] at hv1 hg1 hb0
  have HV := Lib.hid hv1
  clear hv hv1
  have e0 : w.heap.size + 1 < W.heap.size := by rw [hW]; simp
  have ce : ∀ j v, [Value.int .i64 i, .string sp, .string nm][j]? = some v → W.cell? ⟨w.heap.size, j, none⟩ = some v := by
    intro j v hj
    rw [hW, World.cell?_of_block (heap_alloc_old _ _ (by simp)), cell_of_row _ _ j _ _ _ (heap_alloc_new w _)]
    simpa using hj
  have ct : ∀ j v, [Value.int .u8 kk, .string n, .slice ta tn tc, .bool s, .string t, .string p, .string y, .bool a, .bool b, .bool c][j]? = some v → W.cell? ⟨w.heap.size + 1, j, none⟩ = some v := by
    intro j v hj
    have h1 := heap_alloc_new (w.alloc (.cells #[.int .i64 i, .string sp, .string nm] 31)) (.cells #[.int .u8 kk, .string n, .slice ta tn tc, .bool s, .string t, .string p, .string y, .bool a, .bool b, .bool c] 34)
    rw [World.size_alloc] at h1
    rw [hW, cell_of_row _ _ j _ _ _ h1]
    simpa using hj
  have HCE := Lib.hid ce
  have HCT := Lib.hid ct
  clear ce ct
  have hR : rulesB kk n sp nm l = ((sp.toList == [104, 116, 109, 108]) || sp.toList.isEmpty ||
      (if kk = 2 then (mpB sp nm && !((n.toList == ([109, 103, 108, 121, 112, 104] : List UInt8)) || (n.toList == ([109, 97, 108, 105, 103, 110, 109, 97, 114, 107] : List UInt8)))) || (xmlB sp nm && (n.toList == [115, 118, 103])) || hpB sp nm l
       else if kk = 1 then mpB sp nm || hpB sp nm l else false)) := rfl
  have HR := Lib.hid hR
  clear hR
  cases h1 : (sp.toList == [104, 116, 109, 108])
  · rw [h1] at HR
    cases h2 : sp.toList.isEmpty
    · rw [h2] at HR
      by_cases k2 : kk = 2
      · subst k2
        rw [if_pos rfl, ← mal_eq] at HR
        cases hm : mpB sp nm
        · rw [hm] at HR
          have HM := Lib.hid hm
          clear hm
          go_enter Tryd.func19, Tryd.ntmps19
          go_wp2_with fail

          refine (mp_any i sp nm _ (by rw [hW] at hg1; exact hg1)).mono ?_
          rintro e w1 ⟨rfl, hb1'⟩
          have hb1 : Below W.heap.size W w1 := by rw [hW]; exact hb1'
          clear hb1'
          rw [HM.out]
          have _e0 := (Below.cell hb1 (p := ⟨w.heap.size, 0, none⟩) (by show w.heap.size < W.heap.size; omega)).trans (HCE.out 0 _ rfl)
          have _e1 := (Below.cell hb1 (p := ⟨w.heap.size, 1, none⟩) (by show w.heap.size < W.heap.size; omega)).trans (HCE.out 1 _ rfl)
          have _e2 := (Below.cell hb1 (p := ⟨w.heap.size, 2, none⟩) (by show w.heap.size < W.heap.size; omega)).trans (HCE.out 2 _ rfl)
          have _t0 := (Below.cell hb1 (p := ⟨w.heap.size + 1, 0, none⟩) (by show w.heap.size + 1 < W.heap.size; omega)).trans (HCT.out 0 _ rfl)
          have _t1 := (Below.cell hb1 (p := ⟨w.heap.size + 1, 1, none⟩) (by show w.heap.size + 1 < W.heap.size; omega)).trans (HCT.out 1 _ rfl)
          have _l0 : w.heap.size < w1.heap.size := Nat.lt_of_lt_of_le (by omega) hb1.size
          have _l1 : w.heap.size + 1 < w1.heap.size := Nat.lt_of_lt_of_le e0 hb1.size
          cases hx : xmlB sp nm
          · rw [hx] at HR
            have HX := Lib.hid hx
            clear hx
            go_wp2_with fail
            refine (xml_any i sp nm w1).mono ?_
            rintro e wx ⟨rfl, hbx0⟩
            rw [HX.out]
            have hbx := hb1.trans (hbx0.mono hb1.size)
            clear hbx0
            have _e0 := (Below.cell hbx (p := ⟨w.heap.size, 0, none⟩) (by show w.heap.size < W.heap.size; omega)).trans (HCE.out 0 _ rfl)
            have _e1 := (Below.cell hbx (p := ⟨w.heap.size, 1, none⟩) (by show w.heap.size < W.heap.size; omega)).trans (HCE.out 1 _ rfl)
            have _e2 := (Below.cell hbx (p := ⟨w.heap.size, 2, none⟩) (by show w.heap.size < W.heap.size; omega)).trans (HCE.out 2 _ rfl)
            have _t0 := (Below.cell hbx (p := ⟨w.heap.size + 1, 0, none⟩) (by show w.heap.size + 1 < W.heap.size; omega)).trans (HCT.out 0 _ rfl)
            have _t1 := (Below.cell hbx (p := ⟨w.heap.size + 1, 1, none⟩) (by show w.heap.size + 1 < W.heap.size; omega)).trans (HCT.out 1 _ rfl)
            have _l0 : w.heap.size < wx.heap.size := Nat.lt_of_lt_of_le (by omega) hbx.size
            have _l1 : w.heap.size + 1 < wx.heap.size := Nat.lt_of_lt_of_le e0 hbx.size
            go_wp2_with fail
            refine (hp_any i sp nm _ l wx (hg1.below (by have := hg1.lt; omega) hbx) (HV.out.below (Nat.le_refl _) hbx) hl).mono ?_
            rintro e wh ⟨rfl, hbh⟩
            go_wp2_with fail
            go_ret
            exact ⟨ret_bool (by rw [HR.out]; simp), hb0.trans ((hbx.trans (hbh.mono hbx.size)).mono (by have := hb0.size; omega))⟩
          · rw [hx] at HR
            have HX := Lib.hid hx
            clear hx
            cases hn : (n.toList == [115, 118, 103])
            · rw [hn] at HR
              go_wp2_with fail
              refine (xml_any i sp nm w1).mono ?_
              rintro e wx ⟨rfl, hbx0⟩
              rw [HX.out]
              have hbx := hb1.trans (hbx0.mono hb1.size)
              clear hbx0
              have _e0 := (Below.cell hbx (p := ⟨w.heap.size, 0, none⟩) (by show w.heap.size < W.heap.size; omega)).trans (HCE.out 0 _ rfl)
              have _e1 := (Below.cell hbx (p := ⟨w.heap.size, 1, none⟩) (by show w.heap.size < W.heap.size; omega)).trans (HCE.out 1 _ rfl)
              have _e2 := (Below.cell hbx (p := ⟨w.heap.size, 2, none⟩) (by show w.heap.size < W.heap.size; omega)).trans (HCE.out 2 _ rfl)
              have _t0 := (Below.cell hbx (p := ⟨w.heap.size + 1, 0, none⟩) (by show w.heap.size + 1 < W.heap.size; omega)).trans (HCT.out 0 _ rfl)
              have _t1 := (Below.cell hbx (p := ⟨w.heap.size + 1, 1, none⟩) (by show w.heap.size + 1 < W.heap.size; omega)).trans (HCT.out 1 _ rfl)
              have _l0 : w.heap.size < wx.heap.size := Nat.lt_of_lt_of_le (by omega) hbx.size
              have _l1 : w.heap.size + 1 < wx.heap.size := Nat.lt_of_lt_of_le e0 hbx.size
              go_wp2_with fail
              refine (hp_any i sp nm _ l wx (hg1.below (by have := hg1.lt; omega) hbx) (HV.out.below (Nat.le_refl _) hbx) hl).mono ?_
              rintro e wh ⟨rfl, hbh⟩
              go_wp2_with fail
              go_ret
              exact ⟨ret_bool (by rw [HR.out]; simp), hb0.trans ((hbx.trans (hbh.mono hbx.size)).mono (by have := hb0.size; omega))⟩
            · rw [hn] at HR
              go_wp2_with fail
              refine (xml_any i sp nm w1).mono ?_
              rintro e wx ⟨rfl, hbx0⟩
              rw [HX.out]
              have hbx := hb1.trans (hbx0.mono hb1.size)
              clear hbx0
              have _e0 := (Below.cell hbx (p := ⟨w.heap.size, 0, none⟩) (by show w.heap.size < W.heap.size; omega)).trans (HCE.out 0 _ rfl)
              have _e1 := (Below.cell hbx (p := ⟨w.heap.size, 1, none⟩) (by show w.heap.size < W.heap.size; omega)).trans (HCE.out 1 _ rfl)
              have _e2 := (Below.cell hbx (p := ⟨w.heap.size, 2, none⟩) (by show w.heap.size < W.heap.size; omega)).trans (HCE.out 2 _ rfl)
              have _t0 := (Below.cell hbx (p := ⟨w.heap.size + 1, 0, none⟩) (by show w.heap.size + 1 < W.heap.size; omega)).trans (HCT.out 0 _ rfl)
              have _t1 := (Below.cell hbx (p := ⟨w.heap.size + 1, 1, none⟩) (by show w.heap.size + 1 < W.heap.size; omega)).trans (HCT.out 1 _ rfl)
              have _l0 : w.heap.size < wx.heap.size := Nat.lt_of_lt_of_le (by omega) hbx.size
              have _l1 : w.heap.size + 1 < wx.heap.size := Nat.lt_of_lt_of_le e0 hbx.size
              go_wp2_with fail
              go_ret
              exact ⟨ret_bool (by rw [HR.out]; simp), hb0.trans (hbx.mono (by have := hb0.size; omega))⟩
        · rw [hm] at HR
          have HM := Lib.hid hm
          clear hm
          cases ha : amongB n malW
          · rw [ha] at HR
            have HA := Lib.hid ha
            clear ha
            go_enter Tryd.func19, Tryd.ntmps19
            go_wp2_with fail

            refine (mp_any i sp nm _ (by rw [hW] at hg1; exact hg1)).mono ?_
            rintro e w1 ⟨rfl, hb1'⟩
            have hb1 : Below W.heap.size W w1 := by rw [hW]; exact hb1'
            clear hb1'
            rw [HM.out]
            have _e0 := (Below.cell hb1 (p := ⟨w.heap.size, 0, none⟩) (by show w.heap.size < W.heap.size; omega)).trans (HCE.out 0 _ rfl)
            have _e1 := (Below.cell hb1 (p := ⟨w.heap.size, 1, none⟩) (by show w.heap.size < W.heap.size; omega)).trans (HCE.out 1 _ rfl)
            have _e2 := (Below.cell hb1 (p := ⟨w.heap.size, 2, none⟩) (by show w.heap.size < W.heap.size; omega)).trans (HCE.out 2 _ rfl)
            have _t0 := (Below.cell hb1 (p := ⟨w.heap.size + 1, 0, none⟩) (by show w.heap.size + 1 < W.heap.size; omega)).trans (HCT.out 0 _ rfl)
            have _t1 := (Below.cell hb1 (p := ⟨w.heap.size + 1, 1, none⟩) (by show w.heap.size + 1 < W.heap.size; omega)).trans (HCT.out 1 _ rfl)
            have _l0 : w.heap.size < w1.heap.size := Nat.lt_of_lt_of_le (by omega) hb1.size
            have _l1 : w.heap.size + 1 < w1.heap.size := Nat.lt_of_lt_of_le e0 hb1.size
            go_wp2_with fail
            refine (among_any n malW _ (hg1.below (by have := hg1.lt; omega) hb1) malOk).mono ?_
            rintro e w2 ⟨rfl, hb2⟩
            rw [HA.out]
            have hb3 := hb1.trans (hb2.mono hb1.size)
            clear hb2
            have _e0 := (Below.cell hb3 (p := ⟨w.heap.size, 0, none⟩) (by show w.heap.size < W.heap.size; omega)).trans (HCE.out 0 _ rfl)
            have _e1 := (Below.cell hb3 (p := ⟨w.heap.size, 1, none⟩) (by show w.heap.size < W.heap.size; omega)).trans (HCE.out 1 _ rfl)
            have _e2 := (Below.cell hb3 (p := ⟨w.heap.size, 2, none⟩) (by show w.heap.size < W.heap.size; omega)).trans (HCE.out 2 _ rfl)
            have _t0 := (Below.cell hb3 (p := ⟨w.heap.size + 1, 0, none⟩) (by show w.heap.size + 1 < W.heap.size; omega)).trans (HCT.out 0 _ rfl)
            have _t1 := (Below.cell hb3 (p := ⟨w.heap.size + 1, 1, none⟩) (by show w.heap.size + 1 < W.heap.size; omega)).trans (HCT.out 1 _ rfl)
            have _l0 : w.heap.size < w2.heap.size := Nat.lt_of_lt_of_le (by omega) hb3.size
            have _l1 : w.heap.size + 1 < w2.heap.size := Nat.lt_of_lt_of_le e0 hb3.size
            go_wp2_with fail
            go_ret
            exact ⟨ret_bool (by rw [HR.out]; simp), hb0.trans (hb3.mono (by have := hb0.size; omega))⟩
          · rw [ha] at HR
            have HA := Lib.hid ha
            clear ha
            go_enter Tryd.func19, Tryd.ntmps19
            go_wp2_with fail

            refine (mp_any i sp nm _ (by rw [hW] at hg1; exact hg1)).mono ?_
            rintro e w1 ⟨rfl, hb1'⟩
            have hb1 : Below W.heap.size W w1 := by rw [hW]; exact hb1'
            clear hb1'
            rw [HM.out]
            have _e0 := (Below.cell hb1 (p := ⟨w.heap.size, 0, none⟩) (by show w.heap.size < W.heap.size; omega)).trans (HCE.out 0 _ rfl)
            have _e1 := (Below.cell hb1 (p := ⟨w.heap.size, 1, none⟩) (by show w.heap.size < W.heap.size; omega)).trans (HCE.out 1 _ rfl)
            have _e2 := (Below.cell hb1 (p := ⟨w.heap.size, 2, none⟩) (by show w.heap.size < W.heap.size; omega)).trans (HCE.out 2 _ rfl)
            have _t0 := (Below.cell hb1 (p := ⟨w.heap.size + 1, 0, none⟩) (by show w.heap.size + 1 < W.heap.size; omega)).trans (HCT.out 0 _ rfl)
            have _t1 := (Below.cell hb1 (p := ⟨w.heap.size + 1, 1, none⟩) (by show w.heap.size + 1 < W.heap.size; omega)).trans (HCT.out 1 _ rfl)
            have _l0 : w.heap.size < w1.heap.size := Nat.lt_of_lt_of_le (by omega) hb1.size
            have _l1 : w.heap.size + 1 < w1.heap.size := Nat.lt_of_lt_of_le e0 hb1.size
            go_wp2_with fail
            refine (among_any n malW _ (hg1.below (by have := hg1.lt; omega) hb1) malOk).mono ?_
            rintro e w2 ⟨rfl, hb2⟩
            rw [HA.out]
            have hb3 := hb1.trans (hb2.mono hb1.size)
            clear hb2
            have _e0 := (Below.cell hb3 (p := ⟨w.heap.size, 0, none⟩) (by show w.heap.size < W.heap.size; omega)).trans (HCE.out 0 _ rfl)
            have _e1 := (Below.cell hb3 (p := ⟨w.heap.size, 1, none⟩) (by show w.heap.size < W.heap.size; omega)).trans (HCE.out 1 _ rfl)
            have _e2 := (Below.cell hb3 (p := ⟨w.heap.size, 2, none⟩) (by show w.heap.size < W.heap.size; omega)).trans (HCE.out 2 _ rfl)
            have _t0 := (Below.cell hb3 (p := ⟨w.heap.size + 1, 0, none⟩) (by show w.heap.size + 1 < W.heap.size; omega)).trans (HCT.out 0 _ rfl)
            have _t1 := (Below.cell hb3 (p := ⟨w.heap.size + 1, 1, none⟩) (by show w.heap.size + 1 < W.heap.size; omega)).trans (HCT.out 1 _ rfl)
            have _l0 : w.heap.size < w2.heap.size := Nat.lt_of_lt_of_le (by omega) hb3.size
            have _l1 : w.heap.size + 1 < w2.heap.size := Nat.lt_of_lt_of_le e0 hb3.size
            cases hx : xmlB sp nm
            · rw [hx] at HR
              have HX := Lib.hid hx
              clear hx
              go_wp2_with fail
              refine (xml_any i sp nm w2).mono ?_
              rintro e wx ⟨rfl, hbx0⟩
              rw [HX.out]
              have hbx := hb3.trans (hbx0.mono hb3.size)
              clear hbx0
              have _e0 := (Below.cell hbx (p := ⟨w.heap.size, 0, none⟩) (by show w.heap.size < W.heap.size; omega)).trans (HCE.out 0 _ rfl)
              have _e1 := (Below.cell hbx (p := ⟨w.heap.size, 1, none⟩) (by show w.heap.size < W.heap.size; omega)).trans (HCE.out 1 _ rfl)
              have _e2 := (Below.cell hbx (p := ⟨w.heap.size, 2, none⟩) (by show w.heap.size < W.heap.size; omega)).trans (HCE.out 2 _ rfl)
              have _t0 := (Below.cell hbx (p := ⟨w.heap.size + 1, 0, none⟩) (by show w.heap.size + 1 < W.heap.size; omega)).trans (HCT.out 0 _ rfl)
              have _t1 := (Below.cell hbx (p := ⟨w.heap.size + 1, 1, none⟩) (by show w.heap.size + 1 < W.heap.size; omega)).trans (HCT.out 1 _ rfl)
              have _l0 : w.heap.size < wx.heap.size := Nat.lt_of_lt_of_le (by omega) hbx.size
              have _l1 : w.heap.size + 1 < wx.heap.size := Nat.lt_of_lt_of_le e0 hbx.size
              go_wp2_with fail
              refine (hp_any i sp nm _ l wx (hg1.below (by have := hg1.lt; omega) hbx) (HV.out.below (Nat.le_refl _) hbx) hl).mono ?_
              rintro e wh ⟨rfl, hbh⟩
              go_wp2_with fail
              go_ret
              exact ⟨ret_bool (by rw [HR.out]; simp), hb0.trans ((hbx.trans (hbh.mono hbx.size)).mono (by have := hb0.size; omega))⟩
            · rw [hx] at HR
              have HX := Lib.hid hx
              clear hx
              cases hn : (n.toList == [115, 118, 103])
              · rw [hn] at HR
                go_wp2_with fail
                refine (xml_any i sp nm w2).mono ?_
                rintro e wx ⟨rfl, hbx0⟩
                rw [HX.out]
                have hbx := hb3.trans (hbx0.mono hb3.size)
                clear hbx0
                have _e0 := (Below.cell hbx (p := ⟨w.heap.size, 0, none⟩) (by show w.heap.size < W.heap.size; omega)).trans (HCE.out 0 _ rfl)
                have _e1 := (Below.cell hbx (p := ⟨w.heap.size, 1, none⟩) (by show w.heap.size < W.heap.size; omega)).trans (HCE.out 1 _ rfl)
                have _e2 := (Below.cell hbx (p := ⟨w.heap.size, 2, none⟩) (by show w.heap.size < W.heap.size; omega)).trans (HCE.out 2 _ rfl)
                have _t0 := (Below.cell hbx (p := ⟨w.heap.size + 1, 0, none⟩) (by show w.heap.size + 1 < W.heap.size; omega)).trans (HCT.out 0 _ rfl)
                have _t1 := (Below.cell hbx (p := ⟨w.heap.size + 1, 1, none⟩) (by show w.heap.size + 1 < W.heap.size; omega)).trans (HCT.out 1 _ rfl)
                have _l0 : w.heap.size < wx.heap.size := Nat.lt_of_lt_of_le (by omega) hbx.size
                have _l1 : w.heap.size + 1 < wx.heap.size := Nat.lt_of_lt_of_le e0 hbx.size
                go_wp2_with fail
                refine (hp_any i sp nm _ l wx (hg1.below (by have := hg1.lt; omega) hbx) (HV.out.below (Nat.le_refl _) hbx) hl).mono ?_
                rintro e wh ⟨rfl, hbh⟩
                go_wp2_with fail
                go_ret
                exact ⟨ret_bool (by rw [HR.out]; simp), hb0.trans ((hbx.trans (hbh.mono hbx.size)).mono (by have := hb0.size; omega))⟩
              · rw [hn] at HR
                go_wp2_with fail
                refine (xml_any i sp nm w2).mono ?_
                rintro e wx ⟨rfl, hbx0⟩
                rw [HX.out]
                have hbx := hb3.trans (hbx0.mono hb3.size)
                clear hbx0
                have _e0 := (Below.cell hbx (p := ⟨w.heap.size, 0, none⟩) (by show w.heap.size < W.heap.size; omega)).trans (HCE.out 0 _ rfl)
                have _e1 := (Below.cell hbx (p := ⟨w.heap.size, 1, none⟩) (by show w.heap.size < W.heap.size; omega)).trans (HCE.out 1 _ rfl)
                have _e2 := (Below.cell hbx (p := ⟨w.heap.size, 2, none⟩) (by show w.heap.size < W.heap.size; omega)).trans (HCE.out 2 _ rfl)
                have _t0 := (Below.cell hbx (p := ⟨w.heap.size + 1, 0, none⟩) (by show w.heap.size + 1 < W.heap.size; omega)).trans (HCT.out 0 _ rfl)
                have _t1 := (Below.cell hbx (p := ⟨w.heap.size + 1, 1, none⟩) (by show w.heap.size + 1 < W.heap.size; omega)).trans (HCT.out 1 _ rfl)
                have _l0 : w.heap.size < wx.heap.size := Nat.lt_of_lt_of_le (by omega) hbx.size
                have _l1 : w.heap.size + 1 < wx.heap.size := Nat.lt_of_lt_of_le e0 hbx.size
                go_wp2_with fail
                go_ret
                exact ⟨ret_bool (by rw [HR.out]; simp), hb0.trans (hbx.mono (by have := hb0.size; omega))⟩
      · rw [if_neg k2] at HR
        by_cases k1 : kk = 1
        · subst k1
          rw [if_pos rfl] at HR
          go_enter Tryd.func19, Tryd.ntmps19
          go_wp2_with fail
          refine (mp_any i sp nm _ (by rw [hW] at hg1; exact hg1)).mono ?_
          rintro e w1 ⟨rfl, hb1'⟩
          have hb1 : Below W.heap.size W w1 := by rw [hW]; exact hb1'
          clear hb1'
          have _e0 := (Below.cell hb1 (p := ⟨w.heap.size, 0, none⟩) (by show w.heap.size < W.heap.size; omega)).trans (HCE.out 0 _ rfl)
          have _e1 := (Below.cell hb1 (p := ⟨w.heap.size, 1, none⟩) (by show w.heap.size < W.heap.size; omega)).trans (HCE.out 1 _ rfl)
          have _e2 := (Below.cell hb1 (p := ⟨w.heap.size, 2, none⟩) (by show w.heap.size < W.heap.size; omega)).trans (HCE.out 2 _ rfl)
          have _t0 := (Below.cell hb1 (p := ⟨w.heap.size + 1, 0, none⟩) (by show w.heap.size + 1 < W.heap.size; omega)).trans (HCT.out 0 _ rfl)
          have _t1 := (Below.cell hb1 (p := ⟨w.heap.size + 1, 1, none⟩) (by show w.heap.size + 1 < W.heap.size; omega)).trans (HCT.out 1 _ rfl)
          have _l0 : w.heap.size < w1.heap.size := Nat.lt_of_lt_of_le (by omega) hb1.size
          have _l1 : w.heap.size + 1 < w1.heap.size := Nat.lt_of_lt_of_le e0 hb1.size
          cases hm : mpB sp nm
          · rw [hm] at HR
            go_wp2_with fail
            refine (hp_any i sp nm _ l w1 (hg1.below (by have := hg1.lt; omega) hb1) (HV.out.below (Nat.le_refl _) hb1) hl).mono ?_
            rintro e wh ⟨rfl, hbh⟩
            go_wp2_with fail
            go_ret
            exact ⟨ret_bool (by rw [HR.out]; simp), hb0.trans ((hb1.trans (hbh.mono hb1.size)).mono (by have := hb0.size; omega))⟩
          · rw [hm] at HR
            go_wp2_with fail
            go_ret
            exact ⟨ret_bool (by rw [HR.out]; simp), hb0.trans (hb1.mono (by have := hb0.size; omega))⟩
        · rw [if_neg k1] at HR
          go_enter Tryd.func19, Tryd.ntmps19
          go_wp2_with fail
          go_ret
          exact ⟨ret_bool (by rw [HR.out]; rfl), by rw [← hW]; exact hb0⟩
    · rw [h2] at HR
      go_enter Tryd.func19, Tryd.ntmps19
      go_wp2_with fail
      go_ret
      exact ⟨ret_bool (by rw [HR.out]; rfl), by rw [← hW]; exact hb0⟩
  · rw [h1] at HR
    go_enter Tryd.func19, Tryd.ntmps19
    go_wp2_with fail
    go_ret
    exact ⟨ret_bool (by rw [HR.out]; rfl), by rw [← hW]; exact hb0⟩

set_option maxRecDepth 100000 in
set_option maxHeartbeats 4000000 in
theorem rules_ref (k : Tk) (i : Int) (sp nm : ByteArray) (av tv : Value) (l : List At) (w : World) (hv : AtsAt w av l) (hl : ∀ x ∈ l, x.va.size ≤ maxLen) (ht : ∃ a n c, tv = .slice a n c) :
    Calls Tryd.prog 20 #[.agg #[.int .i64 i, .string sp, .string nm], av, .agg #[.int .u8 k.k, .string k.n, tv, .bool k.s, .string k.t, .string k.p, .string k.y, .bool k.a, .bool k.b, .bool k.c]] w fun e w' => e = .returned (.bool (rulesB k.k k.n sp nm l)) ∧ Below w.heap.size w w' := by
  obtain ⟨va, vc, rfl⟩ := hv.form
  obtain ⟨ta, tn, tc, rfl⟩ := ht
  have hb0 := ((Below.refl w.heap.size w).alloc (Nat.le_refl _) (.cells #[.int .i64 i, .string sp, .string nm] 31)).alloc (by simp) (.cells #[.int .u8 k.k, .string k.n, .slice ta tn tc, .bool k.s, .string k.t, .string k.p, .string k.y, .bool k.a, .bool k.b, .bool k.c] 34)
  obtain ⟨kk, n, s, t, p, y, a, b, c⟩ := k
  simp only at *
  obtain ⟨W, hW⟩ : ∃ W : World, W = ((w.alloc (.cells #[.int .i64 i, .string sp, .string nm] 31)).alloc (.cells #[.int .u8 kk, .string n, .slice ta tn tc, .bool s, .string t, .string p, .string y, .bool a, .bool b, .bool c] 34)) := ⟨_, rfl⟩
  have hv1 := hv.below (Nat.le_refl _) hb0
  rw [← hW] at hv1 hb0
  have HV := Lib.hid hv1
  clear hv hv1
  have e0 : w.heap.size + 1 < W.heap.size := by rw [hW]; simp
  have ce : ∀ j v, [Value.int .i64 i, .string sp, .string nm][j]? = some v → W.cell? ⟨w.heap.size, j, none⟩ = some v := by
    intro j v hj
    rw [hW, World.cell?_of_block (heap_alloc_old _ _ (by simp)), cell_of_row _ _ j _ _ _ (heap_alloc_new w _)]
    simpa using hj
  have ct : ∀ j v, [Value.int .u8 kk, .string n, .slice ta tn tc, .bool s, .string t, .string p, .string y, .bool a, .bool b, .bool c][j]? = some v → W.cell? ⟨w.heap.size + 1, j, none⟩ = some v := by
    intro j v hj
    have h1 := heap_alloc_new (w.alloc (.cells #[.int .i64 i, .string sp, .string nm] 31)) (.cells #[.int .u8 kk, .string n, .slice ta tn tc, .bool s, .string t, .string p, .string y, .bool a, .bool b, .bool c] 34)
    rw [World.size_alloc] at h1
    rw [hW, cell_of_row _ _ j _ _ _ h1]
    simpa using hj
  have HCE := Lib.hid ce
  have HCT := Lib.hid ct
  clear ce ct
  have hR : rulesB kk n sp nm l = ((sp.toList == [104, 116, 109, 108]) || sp.toList.isEmpty ||
      (if kk = 2 then (mpB sp nm && !((n.toList == ([109, 103, 108, 121, 112, 104] : List UInt8)) || (n.toList == ([109, 97, 108, 105, 103, 110, 109, 97, 114, 107] : List UInt8)))) || (xmlB sp nm && (n.toList == [115, 118, 103])) || hpB sp nm l
       else if kk = 1 then mpB sp nm || hpB sp nm l else false)) := rfl
  rw [xmlB] at hR
  have HR := Lib.hid hR
  clear hR
  go_enter Tryd.func20, Tryd.ntmps20
  go_wp2_with fail
  refine (mp_ref i sp nm _).mono ?_
  rintro e w1 ⟨rfl, hb1'⟩
  have hb1 : Below W.heap.size W w1 := by rw [hW]; exact hb1'
  clear hb1'
  have _e0 := (Below.cell hb1 (p := ⟨w.heap.size, 0, none⟩) (by show w.heap.size < W.heap.size; omega)).trans (HCE.out 0 _ rfl)
  have _e1 := (Below.cell hb1 (p := ⟨w.heap.size, 1, none⟩) (by show w.heap.size < W.heap.size; omega)).trans (HCE.out 1 _ rfl)
  have _e2 := (Below.cell hb1 (p := ⟨w.heap.size, 2, none⟩) (by show w.heap.size < W.heap.size; omega)).trans (HCE.out 2 _ rfl)
  have _t0 := (Below.cell hb1 (p := ⟨w.heap.size + 1, 0, none⟩) (by show w.heap.size + 1 < W.heap.size; omega)).trans (HCT.out 0 _ rfl)
  have _t1 := (Below.cell hb1 (p := ⟨w.heap.size + 1, 1, none⟩) (by show w.heap.size + 1 < W.heap.size; omega)).trans (HCT.out 1 _ rfl)
  have _l0 : w.heap.size < w1.heap.size := Nat.lt_of_lt_of_le (by omega) hb1.size
  have _l1 : w.heap.size + 1 < w1.heap.size := Nat.lt_of_lt_of_le e0 hb1.size
  go_wp2_with fail
  refine (hp_ref i sp nm _ l w1 (HV.out.below (Nat.le_refl _) hb1) hl).mono ?_
  rintro e w2 ⟨rfl, hb2⟩
  have hb3 := hb1.trans (hb2.mono hb1.size)
  clear hb2
  have _e0 := (Below.cell hb3 (p := ⟨w.heap.size, 0, none⟩) (by show w.heap.size < W.heap.size; omega)).trans (HCE.out 0 _ rfl)
  have _e1 := (Below.cell hb3 (p := ⟨w.heap.size, 1, none⟩) (by show w.heap.size < W.heap.size; omega)).trans (HCE.out 1 _ rfl)
  have _e2 := (Below.cell hb3 (p := ⟨w.heap.size, 2, none⟩) (by show w.heap.size < W.heap.size; omega)).trans (HCE.out 2 _ rfl)
  have _t0 := (Below.cell hb3 (p := ⟨w.heap.size + 1, 0, none⟩) (by show w.heap.size + 1 < W.heap.size; omega)).trans (HCT.out 0 _ rfl)
  have _t1 := (Below.cell hb3 (p := ⟨w.heap.size + 1, 1, none⟩) (by show w.heap.size + 1 < W.heap.size; omega)).trans (HCT.out 1 _ rfl)
  have _l0 : w.heap.size < w2.heap.size := Nat.lt_of_lt_of_le (by omega) hb3.size
  have _l1 : w.heap.size + 1 < w2.heap.size := Nat.lt_of_lt_of_le e0 hb3.size
  have hbf := hb0.trans (hb3.mono (by have := hb0.size; omega))
  generalize mpB sp nm = bm at *
  generalize hpB sp nm l = bh at *
  cases h1 : (sp.toList == [104, 116, 109, 108])
  · rw [h1] at HR
    cases h2 : sp.toList.isEmpty
    · rw [h2] at HR
      by_cases k2 : kk = 2
      · subst k2
        rw [if_pos rfl] at HR
        cases q1 : (n.toList == ([109, 103, 108, 121, 112, 104] : List UInt8))
        all_goals rw [q1] at HR
        all_goals cases q2 : (n.toList == ([109, 97, 108, 105, 103, 110, 109, 97, 114, 107] : List UInt8))
        all_goals rw [q2] at HR
        all_goals cases bm
        all_goals cases bh
        all_goals (go_wp2)
        all_goals (go_ret; refine ⟨ret_bool ?_, hbf⟩; rw [HR.out]; simp [*])
      · rw [if_neg k2] at HR
        by_cases k1 : kk = 1
        · subst k1
          rw [if_pos rfl] at HR
          cases bm
          all_goals cases bh
          all_goals (go_wp2)
          all_goals (go_ret; refine ⟨ret_bool ?_, hbf⟩; rw [HR.out]; simp [*])
        · rw [if_neg k1] at HR
          go_wp2
          all_goals (go_ret; refine ⟨ret_bool ?_, hbf⟩; rw [HR.out]; simp [*])
    · rw [h2] at HR
      go_wp2
      all_goals (go_ret; refine ⟨ret_bool ?_, hbf⟩; rw [HR.out]; simp [*])
  · rw [h1] at HR
    go_wp2
    all_goals (go_ret; refine ⟨ret_bool ?_, hbf⟩; rw [HR.out]; simp [*])
end Go.Proofs.YtdoiopdnencabaaDoor
