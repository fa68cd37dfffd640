/- The law ForeignNames, walked: it returns true. -/
import Derived.Test.YtdoiopdnencabaaDoorOnce
namespace Go.Proofs.YtdoiopdnencabaaDoor
open Go Go.RowKit

theorem OwnQ.cell1 {w : World} {lo hi : Nat} {a : Option Addr} {n c : Nat} {l : List At} (h : OwnQ w lo hi (.slice a n c) l) {k : Nat} (hk : k < l.length) :
    ∃ g, a = some ⟨g, 0, none⟩ ∧ lo ≤ g ∧ g < hi ∧ w.cell? ⟨g, k * 3 + 1, none⟩ = some (.string l[k].nm) ∧ w.frozen? ⟨g, k * 3 + 1, none⟩ = false ∧ g < w.heap.size := by
  rcases h with ⟨_, rfl⟩ | ⟨g, cap, cur, he, h1, h1', h2, h3⟩
  · simp at hk
  · simp only [Value.slice.injEq] at he
    obtain ⟨rfl, _, _⟩ := he
    obtain ⟨e0, e1, e2⟩ := h3 k l[k] (by simp [hk])
    refine ⟨g, rfl, h1, h1', ?_, by simp [World.frozen?, h2], (Array.getElem?_eq_some_iff.1 h2).1⟩
    rw [cell_of_row _ _ _ _ _ _ h2]; exact e1

theorem run_append_none (W : World) (va : Option Addr) (vc : Nat) : (Builtin.append_ #[22, 22] 22 #[.slice Option.none 0 0, .slice va 0 vc]).run Tryd.prog W = .ok (.slice Option.none 0 0) W := by
  obtain ⟨i0, hi, hz0, hz1, hz2⟩ := info_parts infoAt
  have ht : Tryd.prog.underlying 22 = some (.slice 27) := Tryd.underlying22
  cases va <;> simp [Builtin.append_, run_underlying ht, sizeOf, typeInfo, hi, Builtin.lenOf, Builtin.firstCells, loadCells, loadCellsFrom]

theorem run_append_none' (W : World) (ty : TypeId) (va : Option Addr) (vc : Nat) : (Builtin.append_ #[22, 22] ty #[.slice Option.none 0 0, .slice va 0 vc]).run Tryd.prog W = .ok (.slice Option.none 0 0) W := by
  obtain ⟨i0, hi, hz0, hz1, hz2⟩ := info_parts infoAt
  have ht : Tryd.prog.underlying 22 = some (.slice 27) := Tryd.underlying22
  cases va <;> simp [Builtin.append_, run_underlying ht, sizeOf, typeInfo, hi, Builtin.lenOf, Builtin.firstCells, loadCells, loadCellsFrom]

theorem wpList_append_none {w : World} {ops : Array Oper} {rest : List Oper} {o : Oper} {a : Act} {Q : Exit → Act → World → Prop} (hgd : o.guard = Option.none) (s x : Operand)
    (ho : o.op = .call { callee := .builtin .append, args := #[s, x], argTypes := #[22, 22] }) (va : Option Addr) (vc : Nat) (hs : a.eval s = .slice Option.none 0 0) (hx : a.eval x = .slice va 0 vc)
    (h : wpList Tryd.prog ops Q rest (a.put o.dst (.slice Option.none 0 0)) w) : wpList Tryd.prog ops Q (o :: rest) a w :=
  wpList_plain hgd fun K hK => by
    have hr := run_append_none' w o.type va vc
    unfold Oper.wp execOp
    simp only [ho, resolve, invoke, builtin, Sem.run_bind, Sem.run_pure, Result.andThen_ok, List.map_toArray, List.map_cons, List.map_nil, hs, hx, hr]
    exact hK _ _ h

set_option maxRecDepth 100000 in
set_option maxHeartbeats 8000000 in
theorem names_walk (sp nm : ByteArray) (v : Value) (l : List At) (w : World) (hg : Glob w) (hv : AtsAt w v l) (hn : ∀ x ∈ l, x.nm.size ≤ maxLen) (hns : nm.size ≤ maxLen) :
    Calls Tryd.prog 3 #[.string sp, .string nm, v] w fun e w' => e = .returned (.bool true) ∧ Below w.heap.size w w' := by
  have hlen := hv.len
  have hns' := hns
  unfold maxLen at hns'
  obtain ⟨va, vc, rfl⟩ := hv.form
  by_cases b1 : 4096 < nm.size
  · go_enter Tryd.func3, Tryd.ntmps3
    go_wp2_with fail
    refine (works_any _ hg).mono ?_
    rintro e w1 ⟨rfl, hb1⟩
    go_wp2_with fail
    go_ret
    exact ⟨rfl, hb1⟩
  · by_cases b2 : 4096 < l.length
    · go_enter Tryd.func3, Tryd.ntmps3
      go_wp2_with fail
      refine (works_any _ hg).mono ?_
      rintro e w1 ⟨rfl, hb1⟩
      go_wp2_with fail
      go_ret
      exact ⟨rfl, hb1⟩
    · obtain ⟨La, hL⟩ : ∃ La, La = l.map (attrA sp) := ⟨_, rfl⟩
      have hLa : La.length = l.length := by rw [hL]; exact List.length_map _
      by_cases h0 : l = []
      · subst h0
        simp only [List.length_nil] at *
        have hLa0 : La = [] := List.eq_nil_of_length_eq_zero hLa
        have happ := run_append_none
        go_enter Tryd.func3, Tryd.ntmps3
        go_wp2_with fail
        refine (works_any _ hg).mono ?_
        rintro e w1 ⟨rfl, hb1⟩
        go_wp2_with (first | (at_builtin; refine wpList_append_none rfl _ _ rfl va vc rfl rfl ?_) | fail)
        have hB2 : Below w.heap.size w w1 := hb1
        have ho2 : OwnQ w1 w1.heap.size w1.heap.size (.slice Option.none 0 0) [] := .inl ⟨rfl, rfl⟩
        have hsz : w1.heap.size ≤ w1.heap.size := Nat.le_refl _
        clear happ
        have hg2 := hg.below hg.lt hB2
        have hsz12 : w1.heap.size ≤ w1.heap.size := hsz
        refine (attrs_any sp _ [] w1 hg2 (ho2.own.ats (by omega)) (by decide) hn).mono ?_
        rintro e w3 ⟨va', rfl, oa3, hb3⟩
        have hB3 := hB2.trans (hb3.mono hB2.size)
        have ho3 := ho2.keep (fun i _ hi => hb3.block i hi)
        rw [← hL] at oa3
        obtain ⟨aa, ac, hf⟩ := oa3.form
        rw [hLa] at hf
        subst hf
        have ha3 := OwnQ.of oa3
        go_wp2_with fail
        refine (attrs_any sp _ [] w3 (hg.below hg.lt hB3) (ho3.own.ats (by omega)) (by decide) hn).mono ?_
        rintro e w4 ⟨vb', rfl, ob4, hb4⟩
        have hB4 := hB3.trans (hb4.mono hB3.size)
        have ho4 := ho3.keep (fun i _ hi => hb4.block i (Nat.lt_of_lt_of_le hi hb3.size))
        have ha4 := ha3.keep (fun i _ hi => hb4.block i hi)
        rw [← hL] at ob4
        obtain ⟨ba, bc, hf⟩ := ob4.form
        rw [hLa] at hf
        subst hf
        have hb4' := OwnQ.of ob4
        go_wp2_with fail
        refine (same_any _ _ [] [] w4 (ho4.own.ats (by omega)) (hv.below (Nat.le_refl _) hB4)).mono ?_
        rintro e w5 ⟨rfl, hb5⟩
        rw [sameB_refl]
        have hB5 := hB4.trans (hb5.mono hB4.size)
        have ho5 := ho4.keep (fun i _ hi => hb5.block i (Nat.lt_of_lt_of_le hi (Nat.le_trans hb3.size hb4.size)))
        have ha5 := ha4.keep (fun i _ hi => hb5.block i (Nat.lt_of_lt_of_le hi hb4.size))
        have hb5' := hb4'.keep (fun i _ hi => hb5.block i hi)
        have s2 := hb3.size
        have s3 := hb4.size
        have s4 := hb5.size
        have s1 := hb1.size
        have HV := Lib.hid hv
        have HA := Lib.hid ha5
        have HB := Lib.hid hb5'
        have HG := Lib.hid hg
        clear hb1 hb3 hb4 hb5 ho2 ho3 ho4 oa3 ha3 ha4 ob4 hb4' ha5 hb5' hB2 hB3 hB4 hv hg2
        go_wp2_with fail
        go_loopw [12] (fun i wr => ∃ (k : Nat) (l' : List At), k ≤ 0 ∧ i = .int .i64 k ∧ l'.length = 0 ∧ OwnQ wr w1.heap.size w1.heap.size (.slice Option.none 0 0) l' ∧ Apart w1.heap.size w1.heap.size w5 wr) (fun i _ => 0 - (intOf i).toNat)
        case atStart => exact ⟨0, [], by omega, rfl, rfl, ho5, Apart.refl _ _ _⟩
        case round =>
          obtain ⟨k, l', hk, rfl, hl', ho, hap⟩ := hrel
          by_cases hlt : k < 0
          · exact absurd hlt (by omega)
          · obtain rfl : k = 0 := by omega
            have hB6 := hB5.trans (hap.below (B := w.heap.size) (by omega) (by omega))
            have ha6 := HA.out.keep (fun i h1 h2 => hap.block i (by omega) (by omega))
            have hb6 := HB.out.keep (fun i h1 h2 => hap.block i (by omega) (by omega))
            have s5 := hap.size
            clear ho hap hlt hk ho5 hB5 HA HB
            obtain ⟨w6, rfl⟩ : ∃ W : World, W = wr := ⟨_, rfl⟩
            go_wp2_with fail
            go_loopw [13] (fun i wr => ∃ (k : Nat) (l' : List At), k ≤ 0 ∧ i = .int .i64 k ∧ l'.length = 0 ∧ OwnQ wr w3.heap.size w4.heap.size (.slice ba 0 bc) l' ∧ Apart w3.heap.size w4.heap.size w6 wr) (fun i _ => 0 - (intOf i).toNat)
            case atStart => exact ⟨0, La, by omega, rfl, hLa, hb6, Apart.refl _ _ _⟩
            case round =>
              obtain ⟨k, l'', hk, rfl, hl'', ho, hap⟩ := hrel
              by_cases hlt : k < 0
              · exact absurd hlt (by omega)
              · obtain rfl : k = 0 := by omega
                have hB7 := hB6.trans (hap.below (B := w.heap.size) (by omega) (by omega))
                have ha7 := ha6.keep (fun i h1 h2 => hap.block i (by omega) (by omega))
                have s6 := hap.size
                clear ho hap hlt hk hb6 ha6 hB6
                go_wp2_with fail
                refine (attrs_ref sp _ [] wr (HV.out.below (Nat.le_refl _) hB7) (by decide) hn).mono ?_
                rintro e w8 ⟨vw, rfl, ow8, hb8⟩
                have hB8 := hB7.trans (hb8.mono hB7.size)
                have ha8 := ha7.keep (fun i _ h2 => hb8.block i (by omega))
                rw [← hL] at ow8
                obtain ⟨wa, wc, hf⟩ := ow8.form
                rw [hLa] at hf
                subst hf
                go_wp2_with fail
                refine (same_any _ _ La La w8 (ha8.own.ats (by omega)) (ow8.ats (by omega))).mono ?_
                rintro e w9 ⟨rfl, hb9⟩
                rw [sameB_refl]
                have hB9 := hB8.trans (hb9.mono hB8.size)
                clear ha7 ha8 ow8 hb8 hb9 hB7 hB8
                go_wp2_with fail
                refine (tag_any sp nm w9 (HG.out.below HG.out.lt hB9) hns).mono ?_
                rintro e w10 ⟨rfl, hb10⟩
                have hB10 := hB9.trans (hb10.mono hB9.size)
                go_wp2_with fail
                refine (tag_ref sp nm w10).mono ?_
                rintro e w11 ⟨rfl, hb11⟩
                have hB11 := hB10.trans (hb11.mono hB10.size)
                go_wp2_with fail
                go_ret
                exact ⟨ret_bool (by simp), hB11⟩
      · rcases hv with ⟨h, _⟩ | ⟨b, off, c, he, hblt, hpos, hle, hcell⟩
        · exact absurd h h0
        · cases he
          have hv : AtsAt w (.slice (some ⟨b, off, Option.none⟩) l.length vc) l := .inr ⟨b, off, vc, rfl, hblt, hpos, hle, hcell⟩
          obtain ⟨i0, hi, hz0, hz1, hz2⟩ := info_parts infoAt
          have ht : Tryd.prog.underlying 22 = some (.slice 27) := Tryd.underlying22
          have hnews : ∀ W, Below w.heap.size w W → ∀ j u, (flatA l)[j]? = some u → W.cell? ((⟨b, off, Option.none⟩ : Addr).add j) = some u := by
            intro W hW j u hu
            have hadd : (⟨b, off, Option.none⟩ : Addr).add j = ⟨b, off + j, Option.none⟩ := by unfold Addr.add; split <;> simp_all
            rw [hadd, hW.cell (p := ⟨b, off + j, Option.none⟩) hblt]
            obtain ⟨q, r, x, hx, rfl, hr⟩ := flatA_cell l j u hu
            obtain ⟨e0, e1, e2⟩ := hcell q x hx
            rcases hr with ⟨rfl, rfl⟩ | ⟨rfl, rfl⟩ | ⟨rfl, rfl⟩
            · exact e0
            · exact e1
            · exact e2
          have HN := Lib.hid hnews
          have HO := Lib.hid (flatA_one' l)
          clear hnews hcell hle
          go_enter Tryd.func3, Tryd.ntmps3
          go_wp2_with fail
          refine (works_any _ hg).mono ?_
          rintro e w1 ⟨rfl, hb1⟩
          have hnw := HN.out w1 hb1
          go_wp2_with (first | (at_builtin; refine wpList_append_lies _ rfl _ _ 22 rfl w1.heap.size 27 i0 _ 3 48 ht hi hz0 hz1 hz2 rfl (by decide) _ 0 [] rfl (World.ownsRow_nil w1 _ _ _) ⟨b, off, Option.none⟩ l.length vc (flatA l) rfl (flatA_length l) hnw HO.out hpos (by unfold maxLen; omega) (by omega) (Nat.le_refl _) _ rfl ?_) | fail)
          intro g cap w2 hown hgr hat hlt2
          have hsz := hgr.size
          have hB2 : Below w.heap.size w w2 := hb1.grown hgr hb1.size (fun j hj => by cases hj)
          have hown' : OwnP w2 w1.heap.size (.slice (some ⟨g, 0, Option.none⟩) l.length cap) l := .of_row (by simpa using hown)
          have ho2 := OwnQ.of hown'
          obtain ⟨oa, hoa⟩ : ∃ a : Option Addr, a = some ⟨g, 0, Option.none⟩ := ⟨_, rfl⟩
          obtain ⟨oc, hoc⟩ : ∃ c, c = cap := ⟨_, rfl⟩
          rw [← hoa, ← hoc] at ho2
          rw [← hoa, ← hoc]
          clear hoa hoc hown hown' hgr hat hlt2 hnw HN HO
          have hg2 := hg.below hg.lt hB2
          have hsz12 : w1.heap.size ≤ w2.heap.size := hsz
          go_wp2_with fail
          refine (attrs_any sp _ l w2 hg2 (ho2.own.ats (by omega)) (by omega) hn).mono ?_
          rintro e w3 ⟨va', rfl, oa3, hb3⟩
          have hB3 := hB2.trans (hb3.mono hB2.size)
          have ho3 := ho2.keep (fun i _ hi => hb3.block i hi)
          rw [← hL] at oa3
          obtain ⟨aa, ac, hf⟩ := oa3.form
          rw [hLa] at hf
          subst hf
          have ha3 := OwnQ.of oa3
          go_wp2_with fail
          refine (attrs_any sp _ l w3 (hg.below hg.lt hB3) (ho3.own.ats (by omega)) (by omega) hn).mono ?_
          rintro e w4 ⟨vb', rfl, ob4, hb4⟩
          have hB4 := hB3.trans (hb4.mono hB3.size)
          have ho4 := ho3.keep (fun i _ hi => hb4.block i (Nat.lt_of_lt_of_le hi hb3.size))
          have ha4 := ha3.keep (fun i _ hi => hb4.block i hi)
          rw [← hL] at ob4
          obtain ⟨ba, bc, hf⟩ := ob4.form
          rw [hLa] at hf
          subst hf
          have hb4' := OwnQ.of ob4
          go_wp2_with fail
          refine (same_any _ _ l l w4 (ho4.own.ats (by omega)) (hv.below (Nat.le_refl _) hB4)).mono ?_
          rintro e w5 ⟨rfl, hb5⟩
          rw [sameB_refl]
          have hB5 := hB4.trans (hb5.mono hB4.size)
          have ho5 := ho4.keep (fun i _ hi => hb5.block i (Nat.lt_of_lt_of_le hi (Nat.le_trans hb3.size hb4.size)))
          have ha5 := ha4.keep (fun i _ hi => hb5.block i (Nat.lt_of_lt_of_le hi hb4.size))
          have hb5' := hb4'.keep (fun i _ hi => hb5.block i hi)
          have s2 := hb3.size
          have s3 := hb4.size
          have s4 := hb5.size
          have s1 := hb1.size
          have HV := Lib.hid hv
          have HA := Lib.hid ha5
          have HB := Lib.hid hb5'
          have HG := Lib.hid hg
          clear hb1 hb3 hb4 hb5 ho2 ho3 ho4 oa3 ha3 ha4 ob4 hb4' ha5 hb5' hB2 hB3 hB4 hv hg2
          go_wp2_with fail
          go_loopw [12] (fun i wr => ∃ (k : Nat) (l' : List At), k ≤ l.length ∧ i = .int .i64 k ∧ l'.length = l.length ∧ OwnQ wr w1.heap.size w2.heap.size (.slice oa l.length oc) l' ∧ Apart w1.heap.size w2.heap.size w5 wr) (fun i _ => l.length - (intOf i).toNat)
          case atStart => exact ⟨0, l, by omega, rfl, rfl, ho5, Apart.refl _ _ _⟩
          case round =>
            obtain ⟨k, l', hk, rfl, hl', ho, hap⟩ := hrel
            by_cases hlt : k < l.length
            · obtain ⟨g, rfl, g1, g2, c1, f1, g3⟩ := ho.cell1 (k := k) (by omega)
              have hset := ho.set1 k (by omega) ⟨#[115, 112, 111, 105, 108, 116]⟩
              have HS := Lib.hid hset
              clear hset ho
              go_wp2_with fail
              go_roundw
              case rel => exact ⟨k + 1, _, by omega, by go_num, by simp [hl'], HS.out, hap.setCell g1 g2 _⟩
              case measure => simp [intOf] <;> omega
            · obtain rfl : k = l.length := by omega
              have hB6 := hB5.trans (hap.below (B := w.heap.size) (by omega) (by omega))
              have ha6 := HA.out.keep (fun i h1 h2 => hap.block i (by omega) (by omega))
              have hb6 := HB.out.keep (fun i h1 h2 => hap.block i (by omega) (by omega))
              have s5 := hap.size
              clear ho hap hlt hk ho5 hB5 HA HB
              obtain ⟨w6, rfl⟩ : ∃ W : World, W = wr := ⟨_, rfl⟩
              go_wp2_with fail
              go_loopw [13] (fun i wr => ∃ (k : Nat) (l' : List At), k ≤ l.length ∧ i = .int .i64 k ∧ l'.length = l.length ∧ OwnQ wr w3.heap.size w4.heap.size (.slice ba l.length bc) l' ∧ Apart w3.heap.size w4.heap.size w6 wr) (fun i _ => l.length - (intOf i).toNat)
              case atStart => exact ⟨0, La, by omega, rfl, hLa, hb6, Apart.refl _ _ _⟩
              case round =>
                obtain ⟨k, l'', hk, rfl, hl'', ho, hap⟩ := hrel
                by_cases hlt : k < l.length
                · obtain ⟨g, rfl, g1, g2, c1, f1, g3⟩ := ho.cell1 (k := k) (by omega)
                  have hset := ho.set1 k (by omega) ⟨#[115, 112, 111, 105, 108, 116]⟩
                  have HS := Lib.hid hset
                  clear hset ho
                  go_wp2_with fail
                  go_roundw
                  case rel => exact ⟨k + 1, _, by omega, by go_num, by simp [hl''], HS.out, hap.setCell g1 g2 _⟩
                  case measure => simp [intOf] <;> omega
                · obtain rfl : k = l.length := by omega
                  have hB7 := hB6.trans (hap.below (B := w.heap.size) (by omega) (by omega))
                  have ha7 := ha6.keep (fun i h1 h2 => hap.block i (by omega) (by omega))
                  have s6 := hap.size
                  clear ho hap hlt hk hb6 ha6 hB6
                  go_wp2_with fail
                  refine (attrs_ref sp _ l wr (HV.out.below (Nat.le_refl _) hB7) (by omega) hn).mono ?_
                  rintro e w8 ⟨vw, rfl, ow8, hb8⟩
                  have hB8 := hB7.trans (hb8.mono hB7.size)
                  have ha8 := ha7.keep (fun i _ h2 => hb8.block i (by omega))
                  rw [← hL] at ow8
                  obtain ⟨wa, wc, hf⟩ := ow8.form
                  rw [hLa] at hf
                  subst hf
                  go_wp2_with fail
                  refine (same_any _ _ La La w8 (ha8.own.ats (by omega)) (ow8.ats (by omega))).mono ?_
                  rintro e w9 ⟨rfl, hb9⟩
                  rw [sameB_refl]
                  have hB9 := hB8.trans (hb9.mono hB8.size)
                  clear ha7 ha8 ow8 hb8 hb9 hB7 hB8
                  go_wp2_with fail
                  refine (tag_any sp nm w9 (HG.out.below HG.out.lt hB9) hns).mono ?_
                  rintro e w10 ⟨rfl, hb10⟩
                  have hB10 := hB9.trans (hb10.mono hB9.size)
                  go_wp2_with fail
                  refine (tag_ref sp nm w10).mono ?_
                  rintro e w11 ⟨rfl, hb11⟩
                  have hB11 := hB10.trans (hb11.mono hB10.size)
                  go_wp2_with fail
                  go_ret
                  exact ⟨ret_bool (by simp), hB11⟩
end Go.Proofs.YtdoiopdnencabaaDoor
