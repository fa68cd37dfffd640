/- Contracts of chapter 8: Breaks, HtmlPoint, Rules, both ways. -/
import Derived.Test.YtdoiopdnencabaaDoorFb
namespace Go.Proofs.YtdoiopdnencabaaDoor
open Go Go.RowKit

/-- a token, but for its attributes -/
structure Tk where
  k : Int
  n : ByteArray
  s : Bool
  t : ByteArray
  p : ByteArray
  y : ByteArray
  a : Bool
  b : Bool
  c : Bool

def breaksB (k : Int) (n : ByteArray) (l : List At) : Bool :=
  if k = 3 then amongB n brW else if k = 2 then (if (n.toList == ([102, 111, 110, 116] : List UInt8)) = true then l.any fontP else amongB n breakW) else false

theorem br_eq (n : ByteArray) : amongB n brW = ((n.toList == ([98, 114] : List UInt8)) || (n.toList == ([112] : List UInt8))) := by
  rw [amongB, amongL_split, show split32 [] brW.data.toList = [([98, 114] : List UInt8), ([112] : List UInt8)] from by decide +kernel, ByteArray.toList_eq]
  generalize n.data.toList = l
  rw [Bool.eq_iff_iff]
  simp only [List.any_cons, List.any_nil, Bool.or_false, Bool.and_eq_true, Bool.or_eq_true, beq_iff_eq]
  constructor
  · rintro ⟨h | h, _⟩
    · exact .inl h.symm
    · exact .inr h.symm
  · rintro (rfl | rfl)
    · exact ⟨.inl rfl, rfl⟩
    · exact ⟨.inr rfl, rfl⟩
theorem font_no {n : ByteArray} (h : (n.toList == ([102, 111, 110, 116] : List UInt8)) = true) : amongB n breakW = false := by
  rw [amongB, ← ByteArray.toList_eq, eq_of_beq h]; decide +kernel

theorem fontC {w : World} (hg : Glob w) (l : List At) : AtC 28 #[] fontP l w :=
  ⟨enters_of Tryd.func28 (by kernel_rfl) rfl, fun x W _ hb => font1 x W (hg.below hg.lt hb)⟩
theorem encC {w : World} (hg : Glob w) (l : List At) (hl : ∀ x ∈ l, x.va.size ≤ maxLen) : AtC 31 #[] encP l w :=
  ⟨enters_of Tryd.func31 (by kernel_rfl) rfl, fun x W hx hb => enc1 x W (hg.below hg.lt hb) (hl x hx)⟩

set_option maxRecDepth 100000 in
set_option maxHeartbeats 1000000 in
theorem breaks_any (k : Tk) (tv : Value) (l : List At) (w : World) (hg : Glob w) (hv : AtsAt w tv l) :
    Calls Tryd.prog 13 #[.agg #[.int .u8 k.k, .string k.n, tv, .bool k.s, .string k.t, .string k.p, .string k.y, .bool k.a, .bool k.b, .bool k.c]] w fun e w' => e = .returned (.bool (breaksB k.k k.n l)) ∧ Below w.heap.size w w' := by
  obtain ⟨va, vc, rfl⟩ := hv.form
  have hg1 := hg.alloc (.cells #[.int .u8 k.k, .string k.n, .slice va l.length vc, .bool k.s, .string k.t, .string k.p, .string k.y, .bool k.a, .bool k.b, .bool k.c] 34)
  have hv1 := hv.below (Nat.le_refl _) ((Below.refl w.heap.size w).alloc (Nat.le_refl _) (.cells #[.int .u8 k.k, .string k.n, .slice va l.length vc, .bool k.s, .string k.t, .string k.p, .string k.y, .bool k.a, .bool k.b, .bool k.c] 34))
  obtain ⟨kk, n, s, t, p, y, a, b, c⟩ := k
  simp only at *
  have HV := Lib.hid hv1
  clear hv hv1
  by_cases h3 : kk = 3
  · subst h3
    go_enter Tryd.func13, Tryd.ntmps13
    go_wp2_with fail
    refine (among_any n brW _ hg1 brOk).mono ?_
    rintro e w' ⟨rfl, hb⟩
    go_wp2
    go_ret
    exact ⟨ret_bool (by simp [breaksB]), ((Below.refl _ _).alloc (Nat.le_refl _) _).trans (hb.mono (by simp))⟩
  · by_cases h2 : kk = 2
    · subst h2
      by_cases hf : (n.toList == ([102, 111, 110, 116] : List UInt8)) = true
      · have e1 : breaksB 2 n l = l.any fontP := by rw [breaksB, if_neg (by decide), if_pos rfl, if_pos hf]
        have H1 := Lib.hid e1
        clear e1
        go_enter Tryd.func13, Tryd.ntmps13
        go_wp2_with fail
        refine (containsFunc_any _ _ fontP _ l _ HV.out (fontC hg1 l)).mono ?_
        rintro e w' ⟨rfl, hb⟩
        go_wp2
        go_ret
        exact ⟨ret_bool H1.out.symm, ((Below.refl _ _).alloc (Nat.le_refl _) _).trans (hb.mono (by simp))⟩
      · have e1 : breaksB 2 n l = amongB n breakW := by rw [breaksB, if_neg (by decide), if_pos rfl, if_neg hf]
        have H1 := Lib.hid e1
        replace hf : (n.toList == ([102, 111, 110, 116] : List UInt8)) = false := by simpa using hf
        clear e1
        go_enter Tryd.func13, Tryd.ntmps13
        go_wp2_with fail
        refine (among_any n breakW _ hg1 breakOk).mono ?_
        rintro e w' ⟨rfl, hb⟩
        go_wp2
        go_ret
        exact ⟨ret_bool H1.out.symm, ((Below.refl _ _).alloc (Nat.le_refl _) _).trans (hb.mono (by simp))⟩
    · have e1 : breaksB kk n l = false := by rw [breaksB, if_neg h3, if_neg h2]
      have H1 := Lib.hid e1
      clear e1
      go_enter Tryd.func13, Tryd.ntmps13
      go_wp2_with fail
      go_ret
      exact ⟨ret_bool H1.out.symm, (Below.refl _ _).alloc (Nat.le_refl _) _⟩

set_option maxRecDepth 100000 in
set_option maxHeartbeats 2000000 in
theorem breaks_ref (k : Tk) (tv : Value) (l : List At) (w : World) (hv : AtsAt w tv l) :
    Calls Tryd.prog 14 #[.agg #[.int .u8 k.k, .string k.n, tv, .bool k.s, .string k.t, .string k.p, .string k.y, .bool k.a, .bool k.b, .bool k.c]] w fun e w' => e = .returned (.bool (breaksB k.k k.n l)) ∧ Below w.heap.size w w' := by
  obtain ⟨va, vc, rfl⟩ := hv.form
  have hlen := hv.len
  have hv1 := hv.below (Nat.le_refl _) ((Below.refl w.heap.size w).alloc (Nat.le_refl _) (.cells #[.int .u8 k.k, .string k.n, .slice va l.length vc, .bool k.s, .string k.t, .string k.p, .string k.y, .bool k.a, .bool k.b, .bool k.c] 34))
  obtain ⟨kk, n, s, t, p, y, a, b, c⟩ := k
  simp only at *
  have HV := Lib.hid hv1
  clear hv hv1
  by_cases h3 : kk = 3
  · subst h3
    have e1 : breaksB 3 n l = ((n.toList == ([98, 114] : List UInt8)) || (n.toList == ([112] : List UInt8))) := by simp only [breaksB, if_true]; exact br_eq n
    by_cases hn : (n.toList == ([98, 114] : List UInt8)) = true
    · rw [hn] at e1
      have H1 := Lib.hid e1
      clear e1
      go_enter Tryd.func14, Tryd.ntmps14
      go_wp2_with fail
      go_ret
      exact ⟨ret_bool H1.out.symm, (Below.refl _ _).alloc (Nat.le_refl _) _⟩
    · replace hn : (n.toList == ([98, 114] : List UInt8)) = false := by simpa using hn
      rw [hn, Bool.false_or] at e1
      have H1 := Lib.hid e1
      clear e1
      go_enter Tryd.func14, Tryd.ntmps14
      go_wp2_with fail
      go_ret
      exact ⟨ret_bool H1.out.symm, (Below.refl _ _).alloc (Nat.le_refl _) _⟩
  · by_cases h2 : kk = 2
    · subst h2
      by_cases hf : (n.toList == ([102, 111, 110, 116] : List UInt8)) = true
      · have e1 : breaksB 2 n l = l.any fontP := by rw [breaksB, if_neg (by decide), if_pos rfl, if_pos hf]
        have H1 := Lib.hid e1
        have e2 := font_no hf
        have H2 := Lib.hid e2
        clear e1 e2
        go_enter Tryd.func14, Tryd.ntmps14
        go_wp2_with fail
        go_loop [3] (fun i => ∃ k : Nat, k ≤ l.length ∧ i = .int .i64 k ∧ (∀ j, (hj : j < k) → (hl : j < l.length) → fontP l[j] = false)) (fun i => l.length - (intOf i).toNat)
        case atStart => exact ⟨0, by omega, rfl, fun j hj => by omega⟩
        case round =>
          obtain ⟨k, hk, rfl, hP⟩ := hrel
          have HP := Lib.hid hP
          clear hP
          by_cases hlt : k < l.length
          · obtain ⟨b', off, rfl, hblt, c0, c1, c2⟩ := ats_at HV.out hlt
            have hyes := fun (h : fontP l[k] = true) => (List.any_eq_true.2 ⟨l[k], List.getElem_mem hlt, h⟩ : l.any fontP = true)
            have hno := fun (h : fontP l[k] = false) => (fun j (hj : j < k + 1) (hl : j < l.length) => by
              by_cases hjk : j < k
              · exact HP.out j hjk hl
              · obtain rfl : j = k := by omega
                exact h : ∀ j, (hj : j < k + 1) → (hl : j < l.length) → fontP l[j] = false)
            have HY := Lib.hid hyes
            have HN := Lib.hid hno
            clear hyes hno
            generalize l[k] = x at *
            go_wp2_with fail
            refine (among_ref x.nm fontW _ fontOk.size).mono ?_
            rintro e w2 ⟨rfl, rfl⟩
            cases hPx : amongB x.nm fontW
            · have HPx := Lib.hid hPx
              clear hPx
              go_wp2_with fail
              go_round
              case rel => exact ⟨k + 1, by omega, by go_num, HN.out HPx.out⟩
              case measure => simp [intOf] <;> omega
            · have HPx := Lib.hid hPx
              clear hPx
              go_wp2_with fail
              go_ret
              exact ⟨ret_bool (by rw [H1.out, HY.out HPx.out]), (Below.refl _ _).alloc (Nat.le_refl _) _⟩
          · obtain rfl : k = l.length := by omega
            go_wp2_with fail
            refine (among_ref n breakW _ breakOk.size).mono ?_
            rintro e w2 ⟨rfl, rfl⟩
            go_wp2_with fail
            go_ret
            refine ⟨ret_bool ?_, (Below.refl _ _).alloc (Nat.le_refl _) _⟩
            rw [H2.out, H1.out]
            symm
            rw [Bool.eq_false_iff]
            intro h
            obtain ⟨x, hx, hP⟩ := List.any_eq_true.1 h
            obtain ⟨j, hj, rfl⟩ := List.getElem_of_mem hx
            rw [HP.out j hj hj] at hP
            cases hP
      · have e1 : breaksB 2 n l = amongB n breakW := by rw [breaksB, if_neg (by decide), if_pos rfl, if_neg hf]
        have H1 := Lib.hid e1
        replace hf : (n.toList == ([102, 111, 110, 116] : List UInt8)) = false := by simpa using hf
        clear e1
        go_enter Tryd.func14, Tryd.ntmps14
        go_wp2_with fail
        refine (among_ref n breakW _ breakOk.size).mono ?_
        rintro e w' ⟨rfl, rfl⟩
        go_wp2
        go_ret
        exact ⟨ret_bool H1.out.symm, (Below.refl _ _).alloc (Nat.le_refl _) _⟩
    · have e1 : breaksB kk n l = false := by rw [breaksB, if_neg h3, if_neg h2]
      have H1 := Lib.hid e1
      clear e1
      go_enter Tryd.func14, Tryd.ntmps14
      go_wp2_with fail
      go_ret
      exact ⟨ret_bool H1.out.symm, (Below.refl _ _).alloc (Nat.le_refl _) _⟩

/-- where HTML begins again -/
def hpB (sp nm : ByteArray) (l : List At) : Bool :=
  if (sp.toList == [115, 118, 103]) = true then amongB nm svgW else if xmlB sp nm = true then l.any encP else false

set_option maxRecDepth 100000 in
set_option maxHeartbeats 1000000 in
theorem hp_any (i : Int) (sp nm : ByteArray) (tv : Value) (l : List At) (w : World) (hg : Glob w) (hv : AtsAt w tv l) (hl : ∀ x ∈ l, x.va.size ≤ maxLen) :
    Calls Tryd.prog 17 #[.agg #[.int .i64 i, .string sp, .string nm], tv] w fun e w' => e = .returned (.bool (hpB sp nm l)) ∧ Below w.heap.size w w' := by
  obtain ⟨va, vc, rfl⟩ := hv.form
  have hg1 := hg.alloc (.cells #[.int .i64 i, .string sp, .string nm] 31)
  have hb0 := (Below.refl w.heap.size w).alloc (Nat.le_refl _) (.cells #[.int .i64 i, .string sp, .string nm] 31)
  have hv1 := hv.below (Nat.le_refl _) hb0
  have HV := Lib.hid hv1
  clear hv hv1
  by_cases hs : (sp.toList == [115, 118, 103]) = true
  · have e1 : hpB sp nm l = amongB nm svgW := by rw [hpB, if_pos hs]
    have H1 := Lib.hid e1
    clear e1
    go_enter Tryd.func17, Tryd.ntmps17
    go_wp2_with fail
    refine (among_any nm svgW _ hg1 svgOk).mono ?_
    rintro e w' ⟨rfl, hb⟩
    go_wp2
    go_ret
    exact ⟨ret_bool H1.out.symm, hb0.trans (hb.mono (by simp))⟩
  · have hpx : hpB sp nm l = if xmlB sp nm = true then l.any encP else false := by rw [hpB, if_neg hs]
    replace hs : (sp.toList == [115, 118, 103]) = false := by simpa using hs
    cases hx : xmlB sp nm
    · rw [hx] at hpx
      have H1 := Lib.hid hpx
      have H2 := Lib.hid hx
      clear hpx hx
      go_enter Tryd.func17, Tryd.ntmps17
      go_wp2_with fail
      refine (xml_any i sp nm _).mono ?_
      rintro e w' ⟨rfl, hb⟩
      rw [H2.out]
      go_wp2
      go_ret
      exact ⟨ret_bool H1.out.symm, hb0.trans (hb.mono (by simp))⟩
    · rw [hx] at hpx
      have H1 := Lib.hid hpx
      have H2 := Lib.hid hx
      clear hpx hx
      go_enter Tryd.func17, Tryd.ntmps17
      go_wp2_with fail
      refine (xml_any i sp nm _).mono ?_
      rintro e w' ⟨rfl, hb⟩
      rw [H2.out]
      go_wp2_with fail
      refine (containsFunc_any _ _ encP _ l _ (HV.out.below (Nat.le_refl _) hb) (encC (hg1.below hg1.lt hb) l hl)).mono ?_
      rintro e w2 ⟨rfl, hb2⟩
      go_wp2
      go_ret
      exact ⟨ret_bool H1.out.symm, (hb0.trans (hb.mono (by simp))).trans (hb2.mono (by have := hb.size; simp at this; omega))⟩
end Go.Proofs.YtdoiopdnencabaaDoor
