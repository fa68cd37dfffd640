/- The reference's Find: the last one of a name behind the last marker. -/
import Derived.Test.YtmhofhblgcjihaaWd
import Derived.Test.YtmhofhblgcjihaaWi
namespace Go.Proofs.Ytmhofhblgcjihaa
open Go Go.RowKit Go.Shelf

theorem find_rev {α : Type} {p : α → Bool} {l : List α} {k B : Nat} (hk : k < l.length) (hB : B ≤ k) (hp : p l[k] = true) (hn : ∀ j, k < j → ∀ x, l[j]? = some x → p x = false) : (l.drop B).reverse.find? p = some l[k] := by
  have h1 : l.drop B = (l.drop B).take (k - B) ++ l[k] :: l.drop (k + 1) := by
    have h2 := (List.take_append_drop (k - B) (l.drop B)).symm
    rw [List.drop_drop, show B + (k - B) = k from by omega, List.drop_eq_getElem_cons hk] at h2
    exact h2
  have h3 : (l.drop (k + 1)).reverse.find? p = Option.none := by
    rw [List.find?_eq_none]
    intro x hx
    rw [List.mem_reverse] at hx
    obtain ⟨j, hj, rfl⟩ := List.mem_iff_getElem.1 hx
    rw [List.getElem_drop]
    have := hn (k + 1 + j) (by omega) _ (List.getElem?_eq_getElem (by rw [List.length_drop] at hj; omega))
    rw [this]; simp
  rw [h1, List.reverse_append, List.reverse_cons, List.find?_append, List.find?_append, h3]
  simp [hp]

theorem find_rev_none {α : Type} {p : α → Bool} {l : List α} {B : Nat} (hn : ∀ j, B ≤ j → ∀ x, l[j]? = some x → p x = false) : (l.drop B).reverse.find? p = Option.none := by
  rw [List.find?_eq_none]
  intro x hx
  rw [List.mem_reverse] at hx
  obtain ⟨j, hj, rfl⟩ := List.mem_iff_getElem.1 hx
  rw [List.getElem_drop]
  have := hn (B + j) (by omega) _ (List.getElem?_eq_getElem (by rw [List.length_drop] at hj; omega))
  rw [this]; simp

def RFindPost (r : Option Ab) (w : World) (e : Ending) (w' : World) : Prop := match r with
  | some x => ROut x #[.bool true] w e w'
  | Option.none => ROut Ab.none #[.bool false] w e w'

set_option maxRecDepth 100000 in
set_option maxHeartbeats 4000000 in
theorem rfind_any (b : Nat) (v : Value) (es : List En) (nm : ByteArray) (w : World) (hs : Raw w b v es) :
    Calls Try.prog 34 #[.pointer (some ⟨b, 0, Option.none⟩), .string nm] w (RFindPost (findB nm (es.map En.ab)) w) := by
  rw [findB_map]
  obtain ⟨R, hR⟩ : ∃ R, R = RFindPost (((es.drop (baseN (es.map En.ab))).reverse.find? fun x => x.el.nm.toList == nm.toList).map En.ab) w := ⟨_, rfl⟩
  rw [← hR]
  have hc := hs.cell
  have hblt := hs.lt b (.inl rfl)
  have hlen := hs.len
  obtain ⟨va, vc, rfl⟩ : ∃ a c, v = .slice a es.length c := by
    rcases hs.form with ⟨h, h2⟩ | ⟨g, cap, h1, _⟩
    · exact ⟨_, _, by rw [h2]; exact h⟩
    · exact ⟨_, _, h1⟩
  have hbl := baseN_le (es.map En.ab)
  rw [List.length_map] at hbl
  have hal : Below w.heap.size w (w.alloc (.cells #[.int .i64 0, .string ⟨#[]⟩, .string ⟨#[]⟩, .slice Option.none 0 0] 37)) := (Below.refl _ _).alloc (Nat.le_refl _) _
  have hA0 := heap_alloc_new w (.cells #[.int .i64 0, .string ⟨#[]⟩, .string ⟨#[]⟩, .slice Option.none 0 0] 37)
  have hcA := (hal.cell (p := ⟨b, 0, Option.none⟩) hblt).trans hc
  have hwz : w.heap.size < (w.alloc (.cells #[.int .i64 0, .string ⟨#[]⟩, .string ⟨#[]⟩, .slice Option.none 0 0] 37)).heap.size := by simp
  have hba : ∀ W, Below w.heap.size w W → Calls Try.prog 52 #[.pointer (some ⟨b, 0, Option.none⟩)] W fun e w' => e = .returned (.int .i64 (baseN (es.map En.ab))) ∧ Below W.heap.size W w' := fun W hW => rbase_any b _ es W (hs.below hW)
  generalize hB : baseN (es.map En.ab) = B at *
  have hw0 : IntKind.i64.wrap ((es.length : Int) - 1) = (es.length : Int) - 1 := by rw [IntKind.wrap_i64]; omega
  have HS := Lib.hid hs
  have HBA := Lib.hid hba
  have HAL := Lib.hid hal
  have HE := Lib.hid hA0
  have HRR := Lib.hid hR
  clear hs hba hal hA0 hB hR
  go_enter Try.func34, Try.ntmps34
  go_wp2_with fail
  generalize w.alloc (.cells #[.int .i64 0, .string ⟨#[]⟩, .string ⟨#[]⟩, .slice Option.none 0 0] 37) = w0 at *
  go_loopw [6] (fun i wr => ∃ (m : Nat) (z : Int), m ≤ es.length ∧ i = .int .i64 z ∧ z = (m : Int) - 1 ∧ Below w0.heap.size w0 wr ∧ ∀ j, m ≤ j → B ≤ j → ∀ x, es[j]? = some x → (x.el.nm.toList == nm.toList) = false) (fun i _ => (intOf i + 1).toNat)
  case atStart => exact ⟨es.length, _, Nat.le_refl _, rfl, rfl, Below.refl _ _, fun j hj _ x hx => by rw [List.getElem?_eq_none hj] at hx; cases hx⟩
  case round =>
    obtain ⟨m, z, hm, rfl, hz, hb0, hP⟩ := hrel
    have HP := Lib.hid hP
    have hb := HAL.out.trans (hb0.mono (Nat.le_of_lt hwz))
    have HO := Lib.hid (HBA.out wr.drew ((hb).drew))
    have HO2 := Lib.hid (HBA.out wr hb)
    have HB0 := Lib.hid hb0
    clear hP hb hb0
    by_cases hmB : B < m
    · obtain ⟨k, rfl⟩ : ∃ k, m = k + 1 := ⟨m - 1, by omega⟩
      obtain rfl : z = (k : Int) := by omega
      clear hz
      have hkl : k < es.length := by omega
      have hge : ((B : Int) ≤ (k : Int)) = True := eq_true (by omega)
      obtain ⟨g, rfl⟩ : ∃ g, va = some ⟨g, 0, Option.none⟩ := by
        rcases HS.out.form with ⟨h, h2⟩ | ⟨g, cap, h1, _⟩
        · rw [h2] at hkl; simp at hkl
        · injection h1 with e1; exact ⟨g, e1⟩
      have hcl : es.length ≤ vc := by
        rcases HS.out.form with ⟨h, h2⟩ | ⟨g, cap, h1, _, _, h3, _⟩
        · cases h
        · injection h1 with e1 e2 e3; omega
      have hklt : ((k : Nat) : Int) < (es.length : Int) := by omega
      have hk0 : (0 : Int) ≤ (k : Int) := by omega
      have hw1 : IntKind.i64.wrap ((k : Int) - 1) = (k : Int) - 1 := by rw [IntKind.wrap_i64]; omega
      have h4 : ∀ W, Below w.heap.size w W → W.cell? ⟨g, k * 4, Option.none⟩ = some (.int .i64 es[k].el.id) ∧ W.cell? ⟨g, k * 4 + 1, Option.none⟩ = some (.string es[k].el.sp) ∧ W.cell? ⟨g, k * 4 + 2, Option.none⟩ = some (.string es[k].el.nm) ∧ W.cell? ⟨g, k * 4 + 3, Option.none⟩ = some (.slice es[k].a es[k].ats.length es[k].c) := fun W hW => HS.out.at4 k hkl hW
      have hxm := HS.out.ats es[k] (List.getElem_mem hkl)
      have hget : es[k]? = some es[k] := by simp [hkl]
      have hfnd : (es[k].el.nm.toList == nm.toList) = true → (es.drop B).reverse.find? (fun x => x.el.nm.toList == nm.toList) = some es[k] := fun hp => find_rev hkl (by omega) hp (fun j hj x hx => HP.out j hj (by omega) x hx)
      have HG := Lib.hid hget
      have HF := Lib.hid hfnd
      have HX := Lib.hid hxm
      have H4 := Lib.hid h4
      clear hget hfnd hxm h4
      generalize es[k] = x at *
      go_wp2_with fail
      refine (by first | exact HO.out | exact HO2.out : Calls _ _ _ _ _).mono ?_
      rintro e w2 ⟨rfl, hb2⟩
      have hb02 : Below w0.heap.size w0 w2 := HB0.out.trans (hb2.mono HB0.out.size)
      have hbw2 := HAL.out.trans (hb02.mono (Nat.le_of_lt hwz))
      have hcr := (hbw2.cell (p := ⟨b, 0, Option.none⟩) hblt).trans hc
      obtain ⟨c0, c1, c2, c3⟩ := H4.out _ hbw2
      have hE2 := (hb02.block w.heap.size hwz).trans HE.out
      have hsz2 := hb02.size
      have k0 : w2.cell? ⟨w.heap.size, 0, Option.none⟩ = some (.int .i64 0) := by rw [cell_of_row w2 _ 0 _ _ _ hE2]; rfl
      have k1 : w2.cell? ⟨w.heap.size, 1, Option.none⟩ = some (.string ⟨#[]⟩) := by rw [cell_of_row w2 _ 1 _ _ _ hE2]; rfl
      have k2 : w2.cell? ⟨w.heap.size, 2, Option.none⟩ = some (.string ⟨#[]⟩) := by rw [cell_of_row w2 _ 2 _ _ _ hE2]; rfl
      have k3 : w2.cell? ⟨w.heap.size, 3, Option.none⟩ = some (.slice Option.none 0 0) := by rw [cell_of_row w2 _ 3 _ _ _ hE2]; rfl
      have kf : ∀ o, w2.frozen? ⟨w.heap.size, o, Option.none⟩ = false := fun o => by simp [World.frozen?, hE2]
      have HB2 := Lib.hid hb02
      have HBW := Lib.hid hbw2
      clear hb2 hb02 hbw2 hE2
      cases hN : (x.el.nm.toList == nm.toList)
      · have HN := Lib.hid hN
        go_wp2_with fail
        go_roundw
        case rel => exact ⟨k, _, by omega, rfl, rfl, HB2.out, fun j hj hB y hy => by
          by_cases h : j = k
          · subst h
            rw [HG.out] at hy
            cases hy
            exact HN.out
          · exact HP.out j (by omega) hB y hy⟩
        case measure => simp [intOf] <;> omega
      · have HN := Lib.hid hN
        go_wp2_with fail
        rw [HRR.out, HF.out HN.out]
        refine bodyPost_ret (v := .tuple #[.agg #[.int .i64 x.el.id, .string x.el.sp, .string x.el.nm, .slice x.a x.ats.length x.c], .bool true]) (by simp [results, Try.results34, go_sem, *]) rfl ?_
        have hbf : Below w.heap.size w ((((w2.setCell ⟨w.heap.size, 0, Option.none⟩ (.int .i64 x.el.id)).setCell ⟨w.heap.size, 1, Option.none⟩ (.string x.el.sp)).setCell ⟨w.heap.size, 2, Option.none⟩ (.string x.el.nm)).setCell ⟨w.heap.size, 3, Option.none⟩ (.slice x.a x.ats.length x.c)) := (((HBW.out.setCell (p := ⟨w.heap.size, 0, Option.none⟩) (Nat.le_refl _) _).setCell (p := ⟨w.heap.size, 1, Option.none⟩) (Nat.le_refl _) _).setCell (p := ⟨w.heap.size, 2, Option.none⟩) (Nat.le_refl _) _).setCell (p := ⟨w.heap.size, 3, Option.none⟩) (Nat.le_refl _) _
        exact ⟨x.a, x.c, rfl, HX.out.below (Nat.le_refl _) hbf, hbf⟩
    · have hge : ((B : Int) ≤ z) = False := eq_false (by omega)
      have hfn : (es.drop B).reverse.find? (fun x => x.el.nm.toList == nm.toList) = Option.none := find_rev_none (fun j hj x hx => HP.out j (by omega) hj x hx)
      have HF := Lib.hid hfn
      clear hfn
      go_wp2_with fail
      refine (by first | exact HO.out | exact HO2.out : Calls _ _ _ _ _).mono ?_
      rintro e w2 ⟨rfl, hb2⟩
      have hb02 : Below w0.heap.size w0 w2 := HB0.out.trans (hb2.mono HB0.out.size)
      have hbw2 := HAL.out.trans (hb02.mono (Nat.le_of_lt hwz))
      have hE2 := (hb02.block w.heap.size hwz).trans HE.out
      have hsz2 := hb02.size
      have k0 : w2.cell? ⟨w.heap.size, 0, Option.none⟩ = some (.int .i64 0) := by rw [cell_of_row w2 _ 0 _ _ _ hE2]; rfl
      have k1 : w2.cell? ⟨w.heap.size, 1, Option.none⟩ = some (.string ⟨#[]⟩) := by rw [cell_of_row w2 _ 1 _ _ _ hE2]; rfl
      have k2 : w2.cell? ⟨w.heap.size, 2, Option.none⟩ = some (.string ⟨#[]⟩) := by rw [cell_of_row w2 _ 2 _ _ _ hE2]; rfl
      have k3 : w2.cell? ⟨w.heap.size, 3, Option.none⟩ = some (.slice Option.none 0 0) := by rw [cell_of_row w2 _ 3 _ _ _ hE2]; rfl
      have kf : ∀ o, w2.frozen? ⟨w.heap.size, o, Option.none⟩ = false := fun o => by simp [World.frozen?, hE2]
      have HBW := Lib.hid hbw2
      clear hb2 hb02 hbw2 hE2
      go_wp2_with fail
      rw [HRR.out, HF.out]
      refine bodyPost_ret (v := .tuple #[.agg #[.int .i64 0, .string ⟨#[]⟩, .string ⟨#[]⟩, .slice Option.none 0 0], .bool false]) (by simp [results, Try.results34, go_sem, *]) rfl ?_
      have hbf : Below w.heap.size w ((((w2.setCell ⟨w.heap.size, 0, Option.none⟩ (.int .i64 0)).setCell ⟨w.heap.size, 1, Option.none⟩ (.string ⟨#[]⟩)).setCell ⟨w.heap.size, 2, Option.none⟩ (.string ⟨#[]⟩)).setCell ⟨w.heap.size, 3, Option.none⟩ (.slice Option.none 0 0)) := (((HBW.out.setCell (p := ⟨w.heap.size, 0, Option.none⟩) (Nat.le_refl _) _).setCell (p := ⟨w.heap.size, 1, Option.none⟩) (Nat.le_refl _) _).setCell (p := ⟨w.heap.size, 2, Option.none⟩) (Nat.le_refl _) _).setCell (p := ⟨w.heap.size, 3, Option.none⟩) (Nat.le_refl _) _
      exact ⟨Option.none, 0, rfl, .inl ⟨rfl, _, _, rfl⟩, hbf⟩
end Go.Proofs.Ytmhofhblgcjihaa
