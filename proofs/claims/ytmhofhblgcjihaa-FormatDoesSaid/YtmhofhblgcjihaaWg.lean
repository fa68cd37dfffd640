/- What the reference's Push does to a list: the same as the program's. -/
import Derived.Test.YtmhofhblgcjihaaWe
import Derived.Test.YtmhofhblgcjihaaZn
namespace Go.Proofs.Ytmhofhblgcjihaa
open Go Go.RowKit Go.Shelf

/-- the first one; -1: none -/
def hdI (l : List Nat) : Int := match l with | [] => -1 | j :: _ => (j : Int)
theorem hdI_snoc (l : List Nat) (k : Nat) : hdI (l ++ [k]) = if hdI l < 0 then (k : Int) else hdI l := by
  cases l with
  | nil => rfl
  | cons j r =>
    show (j : Int) = if (j : Int) < 0 then (k : Int) else (j : Int)
    rw [if_neg (by omega)]

set_option maxRecDepth 100000 in
set_option maxHeartbeats 4000000 in
theorem rpush_any (b : Nat) (v : Value) (es : List En) (e : El) (va : Value) (attrs : List At) (w : World) (hs : Raw w b v es) (ha : AtsAt w va attrs) (hoff : 0 < attrs.length → ∀ q o n c, va = .slice (some ⟨q, o, Option.none⟩) n c → ¬ fp b v q) (hsm : attrs.length * 48 ≤ 140737488355328) (hlen : es.length < 900000) :
    Calls Try.prog 29 #[.pointer (some ⟨b, 0, Option.none⟩), .agg #[.int .i64 e.id, .string e.sp, .string e.nm], va] w (MPost b v es w (.returned (.tuple #[])) (pushB (es.map En.ab) e attrs)) := by
  obtain ⟨i0, hi, hz0, hz1, hz2⟩ := info_parts infoen
  have ht : Try.prog.underlying 25 = some (.slice 37) := Try.underlying25
  have HOF := Lib.hid hoff
  clear hoff
  have hw0 : Below w.heap.size w (w.alloc (.cells #[.int .i64 e.id, .string e.sp, .string e.nm] 29)) := (Below.refl _ _).alloc (Nat.le_refl _) _
  have hba := rbase_any b v es (w.alloc (.cells #[.int .i64 e.id, .string e.sp, .string e.nm] 29)) (hs.below hw0)
  have HBA := Lib.hid hba
  have hA0 := heap_alloc_new w (.cells #[.int .i64 e.id, .string e.sp, .string e.nm] 29)
  have hw0s : (w.alloc (.cells #[.int .i64 e.id, .string e.sp, .string e.nm] 29)).heap.size = w.heap.size + 1 := by simp
  have HE0 := Lib.hid hA0
  clear hba hA0
  have hbl := baseN_le (es.map En.ab)
  have hml : (es.map En.ab).length = es.length := List.length_map _
  have hcb := hs.cell
  have hblt := hs.lt b (.inl rfl)
  obtain ⟨P, hP⟩ : ∃ P, P = alikeB e (sortA attrs) := ⟨_, rfl⟩
  obtain ⟨B, hB⟩ : ∃ B, B = baseN (es.map En.ab) := ⟨_, rfl⟩
  have hpush : pushB (es.map En.ab) e attrs = (if 3 ≤ (idxs P (es.map En.ab) B es.length).length then (es.map En.ab).eraseIdx ((idxs P (es.map En.ab) B es.length).headD 0) else es.map En.ab) ++ [⟨e, attrs⟩] := by
    unfold pushB
    rw [hP, hB, hml]
  rw [← hB] at hbl HBA
  rw [hml] at hbl
  have HRS := Lib.hid hpush
  have HS := Lib.hid hs
  have HP := Lib.hid hP
  have HVA := Lib.hid ha
  clear hpush hB hP ha
  obtain ⟨a, c, rfl, hif⟩ : ∃ a c, v = .slice a es.length c ∧ (es = [] ∨ ∃ g, a = some ⟨g, 0, Option.none⟩ ∧ g < w.heap.size) := by
    rcases hs.form with ⟨h, h2⟩ | ⟨g, cap, h1, h2, _⟩
    · exact ⟨_, _, by rw [h2]; exact h, .inl h2⟩
    · exact ⟨_, _, h1, .inr ⟨g, rfl, h2⟩⟩
  clear hs
  go_enter Try.func29, Try.ntmps29
  go_wp2_with fail
  refine HBA.out.mono ?_
  rintro e2 w2 ⟨rfl, h3⟩
  generalize w.alloc (.cells #[.int .i64 e.id, .string e.sp, .string e.nm] 29) = w0 at *
  have hw2 : Below w.heap.size w w2 := hw0.trans (h3.mono (by omega))
  have hE2 := (h3.block w.heap.size (by omega)).trans HE0.out
  have hs2 := h3.size
  have HW2 := Lib.hid hw2
  have HE := Lib.hid hE2
  have hlt2 : w.heap.size < w2.heap.size := by omega
  clear hw2 hE2 h3 hw0 HE0
  go_wp2_with fail
  go_loopw [6, 7, 8] (fun n f i wr => ∃ k : Nat, B ≤ k ∧ k ≤ es.length ∧ i = .int .i64 k ∧ n = .int .i64 ((idxs P (es.map En.ab) B k).length : Nat) ∧ f = .int .i64 (hdI (idxs P (es.map En.ab) B k)) ∧ Below w2.heap.size w2 wr) (fun _ _ i _ => ((es.length : Int) - intOf i).toNat)
  case atStart => exact ⟨B, Nat.le_refl _, hbl, rfl, by rw [idxs_lo]; rfl, by rw [idxs_lo]; rfl, Below.refl _ _⟩
  case round =>
    obtain ⟨k, hBk, hk, rfl, rfl, rfl, hb⟩ := hrel
    have hbw : Below w.heap.size w wr := HW2.out.trans (hb.mono HW2.out.size)
    have cb := (hbw.cell (p := ⟨b, 0, Option.none⟩) hblt).trans hcb
    have hEr := (hb.block w.heap.size hlt2).trans HE.out
    have g00 : wr.cell? ⟨w.heap.size, 0, Option.none⟩ = some (.int .i64 e.id) := by rw [cell_of_row wr _ 0 _ _ _ hEr]; rfl
    have g01 : wr.cell? ⟨w.heap.size, 1, Option.none⟩ = some (.string e.sp) := by rw [cell_of_row wr _ 1 _ _ _ hEr]; rfl
    have g02 : wr.cell? ⟨w.heap.size, 2, Option.none⟩ = some (.string e.nm) := by rw [cell_of_row wr _ 2 _ _ _ hEr]; rfl
    have hix := idxs_len P (es.map En.ab) B k
    have HER := Lib.hid hEr
    clear hEr
    by_cases hkl : k < es.length
    · obtain ⟨g, rfl, hg⟩ : ∃ g, a = some ⟨g, 0, Option.none⟩ ∧ g < w.heap.size := by
        rcases hif with h | h
        · rw [h] at hkl; simp at hkl
        · exact h
      have hcl : es.length ≤ c := by
        rcases HS.out.form with ⟨h, h2⟩ | ⟨g, cap, h1, _, _, h3, _⟩
        · cases h
        · injection h1 with e1 e2 e3; omega
      obtain ⟨c0, c1, c2, c3⟩ := HS.out.at4 k hkl hbw
      have hat := HS.out.atsAt hbw k hkl
      have hsu := idxs_succ P (es.map En.ab) B k hBk (by rw [hml]; exact hkl)
      have hPk : P (es.map En.ab)[k] = ((es[k].el.sp.toList == e.sp.toList) && ((es[k].el.nm.toList == e.nm.toList) && sameL (sortA es[k].ats) (sortA attrs))) := by rw [HP.out, List.getElem_map]; rfl
      rw [hPk] at hsu
      clear hPk
      generalize es[k] = x at *
      have HAT := Lib.hid hat
      have HSU := Lib.hid hsu
      have HB := Lib.hid hb
      have hw1 : IntKind.i64.wrap ((k : Int) + 1) = (k : Int) + 1 := by rw [IntKind.wrap_i64]; omega
      have hw3 : IntKind.i64.wrap (((idxs P (es.map En.ab) B k).length : Int) + 1) = ((idxs P (es.map En.ab) B k).length : Int) + 1 := by rw [IntKind.wrap_i64]; omega
      have hal : Below wr.heap.size wr (wr.alloc (.cells #[.int .i64 x.el.id, .string x.el.sp, .string x.el.nm, .slice x.a x.ats.length x.c] 37)) := (Below.refl _ _).alloc (Nat.le_refl _) _
      have HAL := Lib.hid hal
      have hbz := hb.size
      have hwz := hbw.size
      clear hat hsu hb hbw hal
      generalize hI : idxs P (es.map En.ab) B k = I at *
      have hcase : hdI I < 0 ∨ 0 ≤ hdI I := by omega
      go_wp2_with fail
      have hza : (wr.alloc (.cells #[.int .i64 x.el.id, .string x.el.sp, .string x.el.nm, .slice x.a x.ats.length x.c] 37)).heap.size = wr.heap.size + 1 := by simp
      have hxb := heap_alloc_new wr (.cells #[.int .i64 x.el.id, .string x.el.sp, .string x.el.nm, .slice x.a x.ats.length x.c] 37)
      refine (alike_any _ va x.ats attrs _ (HAT.out.below (Nat.le_refl _) HAL.out) ((HVA.out.below (Nat.le_refl _) HW2.out).below (Nat.le_refl _) (HB.out.trans (HAL.out.mono (by omega))))).mono ?_
      rintro e4 w4 ⟨rfl, h4⟩
      have y1 : w4.cell? ⟨wr.heap.size, 1, Option.none⟩ = some (.string x.el.sp) := by rw [cell_of_row w4 _ 1 _ _ _ ((h4.block wr.heap.size (by omega)).trans hxb)]; rfl
      have y2 : w4.cell? ⟨wr.heap.size, 2, Option.none⟩ = some (.string x.el.nm) := by rw [cell_of_row w4 _ 2 _ _ _ ((h4.block wr.heap.size (by omega)).trans hxb)]; rfl
      have hE4 := (h4.block w.heap.size (by omega)).trans ((HAL.out.block w.heap.size (by omega)).trans HER.out)
      have z1 : w4.cell? ⟨w.heap.size, 1, Option.none⟩ = some (.string e.sp) := by rw [cell_of_row w4 _ 1 _ _ _ hE4]; rfl
      have z2 : w4.cell? ⟨w.heap.size, 2, Option.none⟩ = some (.string e.nm) := by rw [cell_of_row w4 _ 2 _ _ _ hE4]; rfl
      have HB4 := Lib.hid (HB.out.trans ((HAL.out.trans (h4.mono HAL.out.size)).mono (by omega)))
      clear h4 hxb hE4 c0 c1 c2 c3 g00 g01 g02 cb hza
      cases q3 : sameL (sortA x.ats) (sortA attrs)
      · have HQ3 := Lib.hid q3
        go_wp2_with fail
        go_roundw
        case rel => exact ⟨k + 1, by omega, by omega, by go_num, by rw [HSU.out, HQ3.out]; simp, by rw [HSU.out, HQ3.out]; simp, HB4.out⟩
        case measure => simp [intOf] <;> omega
      · have HQ3 := Lib.hid q3
        cases q1 : (x.el.sp.toList == e.sp.toList)
        · have HQ1 := Lib.hid q1
          go_wp2_with fail
          go_roundw
          case rel => exact ⟨k + 1, by omega, by omega, by go_num, by rw [HSU.out, HQ1.out]; simp, by rw [HSU.out, HQ1.out]; simp, HB4.out⟩
          case measure => simp [intOf] <;> omega
        · have HQ1 := Lib.hid q1
          cases q2 : (x.el.nm.toList == e.nm.toList)
          · have HQ2 := Lib.hid q2
            go_wp2_with fail
            go_roundw
            case rel => exact ⟨k + 1, by omega, by omega, by go_num, by rw [HSU.out, HQ1.out, HQ2.out]; simp, by rw [HSU.out, HQ1.out, HQ2.out]; simp, HB4.out⟩
            case measure => simp [intOf] <;> omega
          · have HQ2 := Lib.hid q2
            have hsn : Hid (idxs P (es.map En.ab) B (k + 1) = I ++ [k]) := by
              have h : idxs P (es.map En.ab) B (k + 1) = I ++ [k] := by rw [HSU.out, HQ1.out, HQ2.out, HQ3.out]; simp
              exact Lib.hid h
            rcases hcase with hneg | hpos
            · have HN := Lib.hid hneg
              go_wp2_with fail
              go_roundw
              case rel => exact ⟨k + 1, by omega, by omega, by go_num, by rw [hsn.out]; simp, by rw [hsn.out, hdI_snoc, if_pos HN.out], HB4.out⟩
              case measure => simp [intOf] <;> omega
            · have HN := Lib.hid hpos
              go_wp2_with fail
              go_roundw
              case rel => exact ⟨k + 1, by omega, by omega, by go_num, by rw [hsn.out]; simp, by rw [hsn.out, hdI_snoc, if_neg (by have := HN.out; omega)], HB4.out⟩
              case measure => simp [intOf] <;> omega
    · obtain rfl : k = es.length := by omega
      have haX0 := HVA.out.below (Nat.le_refl _) hbw
      have hRw := HS.out.below hbw
      have hil := idxs_lt P (es.map En.ab) B es.length
      rw [hml] at *
      by_cases h3 : 3 ≤ (idxs P (es.map En.ab) B es.length).length
      · obtain ⟨j, rest, hIx⟩ : ∃ j rest, idxs P (es.map En.ab) B es.length = j :: rest := by
          cases h : idxs P (es.map En.ab) B es.length with
          | nil => rw [h] at h3; simp at h3
          | cons j rest => exact ⟨j, rest, rfl⟩
        have hje := (hil j (by rw [hIx]; simp)).2.1
        have hrs := HRS.out
        rw [if_pos h3, hIx, List.headD_cons] at hrs
        have hhd : hdI (idxs P (es.map En.ab) B es.length) = (j : Int) := by rw [hIx]; rfl
        rw [hhd]
        have hl3 : ((3 : Nat) : Int) ≤ (((idxs P (es.map En.ab) B es.length).length : Nat) : Int) := by omega
        generalize (idxs P (es.map En.ab) B es.length).length = ln at *
        clear HRS
        have HRS := Lib.hid hrs
        have hcu := cut_any b (.slice a es.length c) es j wr hRw
        have HCU := Lib.hid hcu
        have HWR := Lib.hid hbw
        have HEX := Lib.hid HER.out
        have hfE : w.heap.size < wr.heap.size := by have := hb.size; omega
        clear hrs hhd hIx hil hcu hRw hbw hb
        go_wp2_with fail
        refine HCU.out.mono ?_
        rintro e9 X ⟨rfl, v1, es1, hm1, hR1, hkc, hfc, hxc⟩
        have hk1 : Keeps (fp b (.slice a es.length c)) w X := (Keeps.of_below HWR.out).trans hkc
        have hf1 : ∀ k, fp b v1 k → fp b (.slice a es.length c) k ∨ w.heap.size ≤ k := fun k hk => (hfc k hk).imp id (fun h => Nat.le_trans HWR.out.size h)
        have hx1 : ∀ x ∈ es1, x ∈ es ∨ ∀ q o, x.a = some ⟨q, o, Option.none⟩ → w.heap.size ≤ q := fun x hx => (hxc x hx).imp id (fun h q o e => Nat.le_trans HWR.out.size (h q o e))
        have hEX := (hkc.block w.heap.size hfE (fun h => by have := HS.out.lt _ h; omega)).trans HEX.out
        have x00 : X.cell? ⟨w.heap.size, 0, Option.none⟩ = some (.int .i64 e.id) := by rw [cell_of_row X _ 0 _ _ _ hEX]; rfl
        have x01 : X.cell? ⟨w.heap.size, 1, Option.none⟩ = some (.string e.sp) := by rw [cell_of_row X _ 1 _ _ _ hEX]; rfl
        have x02 : X.cell? ⟨w.heap.size, 2, Option.none⟩ = some (.string e.nm) := by rw [cell_of_row X _ 2 _ _ _ hEX]; rfl
        have haX := HVA.out.keeps hk1 HOF.out
        have hln : es1.length < 900000 := by
          have h := congrArg List.length hm1
          rw [List.length_map, List.length_eraseIdx, List.length_map] at h
          split at h <;> omega
        have hcX0' := hR1.cell
        clear hkc hfc hxc hEX g00 g01 g02 cb
        go_wp2_with fail
        have HR1 := Lib.hid hR1
        have hcX := hR1.cell
        have hbX := hR1.lt b (.inl rfl)
        have hneX := hR1.ne
        have hfX := hR1.frozen
        have hdr : Below X.heap.size X X.drew := (Below.refl _ _).drew
        have hkp := rown_any e va attrs X.drew haX hsm
        have HKP := Lib.hid hkp
        have HF1 := Lib.hid hf1
        have HK1 := Lib.hid hk1
        have HX1 := Lib.hid hx1
        have HM1 := Lib.hid hm1
        clear hkp hR1 haX hk1 hf1 hx1 hm1
        go_region_law (first
          | (go_simp; go_at_call 55; refine HKP.out.mono ?_; rintro e7 w7 ⟨ka, kc, rfl, hka, hkq, hkb⟩
             have hb7 : Below X.heap.size X w7 := hdr.trans hkb
             have cX7 := (hb7.cell (p := ⟨b, 0, Option.none⟩) hbX).trans hcX
             have fX7 := (hb7.frozen (p := ⟨b, 0, Option.none⟩) hbX).trans hfX
             have own7 := own_below HR1.out.own hb7
             have own8 := own7.alloc (.cells #[.int .i64 e.id, .string e.sp, .string e.nm, .slice ka attrs.length kc] 37)
             have hcs8 := en_news (vs := [.int .i64 e.id, .string e.sp, .string e.nm, .slice ka attrs.length kc]) (heap_alloc_new w7 (.cells #[.int .i64 e.id, .string e.sp, .string e.nm, .slice ka attrs.length kc] 37))
             have hb8 : Below X.heap.size X (w7.alloc (.cells #[.int .i64 e.id, .string e.sp, .string e.nm, .slice ka attrs.length kc] 37)) := hb7.alloc hb7.size _
             have hbz7 : b < w7.heap.size := Nat.lt_of_lt_of_le hbX hb7.size)
          | (refine step_append_lies _ rfl _ _ 25 rfl 0 37 i0 _ 4 64 ht hi hz0 hz1 hz2 rfl (by decide) v1 es1.length (flatE es1) rfl (by exact own8) ⟨w7.heap.size, 0, Option.none⟩ 1 1 [.int .i64 e.id, .string e.sp, .string e.nm, .slice ka attrs.length kc] rfl rfl (by exact hcs8) (by simp [Value.oneCell']) (by decide) (by unfold maxLen; omega) (by omega) (Nat.zero_le _) _ rfl ?_; intro g8 cap8 w8 hown8 hgr8 hat8 hlt8
             obtain ⟨hc8, hf8⟩ := grown_far hgr8 hb8 hbX hneX 0
             rw [hcX] at hc8
             rw [hfX] at hf8))
        all_goals
          go_end0
          refine MPost.then HK1.out HF1.out HX1.out ?_
          refine put_done (es' := es1 ++ [⟨e, ka, kc, attrs⟩]) HR1.out (by rw [HRS.out, List.map_append, HM1.out]; rfl) (by simp; omega) hb8 g8 cap8 (by rw [flatE_append, flatE_one]; exact hown8) (by simp) hgr8 (hat8.imp id (fun h => Nat.le_of_eq h.symm)) rfl ?_ (Keeps.refl _ _)
          intro y hy
          rcases List.mem_append.1 hy with h | h
          · exact .inl h
          · simp at h
            subst h
            refine .inr ⟨hka.below (Nat.le_refl _) ((Below.refl _ _).alloc (Nat.le_refl _) _), fun q o e => ?_, hsm⟩
            have h1 := hkq q o e
            simp at h1 ⊢
            omega
      · have hrs := HRS.out
        rw [if_neg h3] at hrs
        have hl3 : (((idxs P (es.map En.ab) B es.length).length : Nat) : Int) < 3 := by omega
        generalize (idxs P (es.map En.ab) B es.length).length = ln at *
        generalize hdI (idxs P (es.map En.ab) B es.length) = fd at *
        clear HRS
        have HRS := Lib.hid hrs
        clear hrs
        go_wp2_with fail
        obtain ⟨X, hX⟩ : ∃ X, X = wr := ⟨_, rfl⟩
        rw [← hX] at hRw haX0 hbw cb g00 g01 g02 ⊢
        have hk1 : Keeps (fp b (.slice a es.length c)) w X := Keeps.of_below hbw
        obtain ⟨v1, hv1⟩ : ∃ v1, v1 = Value.slice a es.length c := ⟨_, rfl⟩
        obtain ⟨es1, hes1⟩ : ∃ es1, es1 = es := ⟨_, rfl⟩
        have hf1 : ∀ k, fp b v1 k → fp b (.slice a es.length c) k ∨ w.heap.size ≤ k := fun k h => .inl (by rw [← hv1]; exact h)
        have hR1 : Raw X b v1 es1 := by rw [hv1, hes1]; exact hRw
        have hm1 : es1.map En.ab = es.map En.ab := by rw [hes1]
        have hx1 : ∀ x ∈ es1, x ∈ es ∨ ∀ q o, x.a = some ⟨q, o, Option.none⟩ → w.heap.size ≤ q := fun x h => .inl (by rw [← hes1]; exact h)
        have haX := haX0
        rw [← hv1] at cb
        have hln : es1.length < 900000 := by rw [hes1]; exact hlen
        clear hes1 hv1 hRw hX hil hbw hb haX0
        go_wp2_with fail
        have HR1 := Lib.hid hR1
        have hcX := hR1.cell
        have hbX := hR1.lt b (.inl rfl)
        have hneX := hR1.ne
        have hfX := hR1.frozen
        have hdr : Below X.heap.size X X.drew := (Below.refl _ _).drew
        have hkp := rown_any e va attrs X.drew haX hsm
        have HKP := Lib.hid hkp
        have HF1 := Lib.hid hf1
        have HK1 := Lib.hid hk1
        have HX1 := Lib.hid hx1
        have HM1 := Lib.hid hm1
        clear hkp hR1 haX hk1 hf1 hx1 hm1
        go_region_law (first
          | (go_simp; go_at_call 55; refine HKP.out.mono ?_; rintro e7 w7 ⟨ka, kc, rfl, hka, hkq, hkb⟩
             have hb7 : Below X.heap.size X w7 := hdr.trans hkb
             have cX7 := (hb7.cell (p := ⟨b, 0, Option.none⟩) hbX).trans hcX
             have fX7 := (hb7.frozen (p := ⟨b, 0, Option.none⟩) hbX).trans hfX
             have own7 := own_below HR1.out.own hb7
             have own8 := own7.alloc (.cells #[.int .i64 e.id, .string e.sp, .string e.nm, .slice ka attrs.length kc] 37)
             have hcs8 := en_news (vs := [.int .i64 e.id, .string e.sp, .string e.nm, .slice ka attrs.length kc]) (heap_alloc_new w7 (.cells #[.int .i64 e.id, .string e.sp, .string e.nm, .slice ka attrs.length kc] 37))
             have hb8 : Below X.heap.size X (w7.alloc (.cells #[.int .i64 e.id, .string e.sp, .string e.nm, .slice ka attrs.length kc] 37)) := hb7.alloc hb7.size _
             have hbz7 : b < w7.heap.size := Nat.lt_of_lt_of_le hbX hb7.size)
          | (refine step_append_lies _ rfl _ _ 25 rfl 0 37 i0 _ 4 64 ht hi hz0 hz1 hz2 rfl (by decide) v1 es1.length (flatE es1) rfl (by exact own8) ⟨w7.heap.size, 0, Option.none⟩ 1 1 [.int .i64 e.id, .string e.sp, .string e.nm, .slice ka attrs.length kc] rfl rfl (by exact hcs8) (by simp [Value.oneCell']) (by decide) (by unfold maxLen; omega) (by omega) (Nat.zero_le _) _ rfl ?_; intro g8 cap8 w8 hown8 hgr8 hat8 hlt8
             obtain ⟨hc8, hf8⟩ := grown_far hgr8 hb8 hbX hneX 0
             rw [hcX] at hc8
             rw [hfX] at hf8))
        all_goals
          go_end0
          refine MPost.then HK1.out HF1.out HX1.out ?_
          refine put_done (es' := es1 ++ [⟨e, ka, kc, attrs⟩]) HR1.out (by rw [HRS.out, List.map_append, HM1.out]; rfl) (by simp; omega) hb8 g8 cap8 (by rw [flatE_append, flatE_one]; exact hown8) (by simp) hgr8 (hat8.imp id (fun h => Nat.le_of_eq h.symm)) rfl ?_ (Keeps.refl _ _)
          intro y hy
          rcases List.mem_append.1 hy with h | h
          · exact .inl h
          · simp at h
            subst h
            refine .inr ⟨hka.below (Nat.le_refl _) ((Below.refl _ _).alloc (Nat.le_refl _) _), fun q o e => ?_, hsm⟩
            have h1 := hkq q o e
            simp at h1 ⊢
            omega
end Go.Proofs.Ytmhofhblgcjihaa
