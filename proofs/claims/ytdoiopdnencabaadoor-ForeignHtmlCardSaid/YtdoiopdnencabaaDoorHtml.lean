/- The law ForeignHtml, walked: it returns true. -/
import Derived.Test.YtdoiopdnencabaaDoorFo
namespace Go.Proofs.YtdoiopdnencabaaDoor
open Go Go.RowKit

def htmlS : ByteArray := ⟨#[104, 116, 109, 108]⟩
theorem rules_html (kk : Int) (n nm : ByteArray) (l : List At) : rulesB kk n htmlS nm l = true := by
  unfold rulesB
  rw [show (htmlS.toList == [104, 116, 109, 108]) = true from by decide +kernel]; rfl
theorem rules_none (kk : Int) (n nm : ByteArray) (l : List At) : rulesB kk n ⟨#[]⟩ nm l = true := by
  unfold rulesB
  rw [show (⟨#[]⟩ : ByteArray).toList.isEmpty = true from by decide +kernel]; simp
theorem hp_svg (nm : ByteArray) (l : List At) : hpB svgS nm l = amongB nm svgW := by
  unfold hpB
  rw [if_pos (by decide +kernel)]
theorem rules_svg (kk : Int) (n nm : ByteArray) (l : List At) : rulesB kk n svgS nm l = (if kk = 2 then amongB nm svgW else if kk = 1 then amongB nm svgW else false) := by
  unfold rulesB mpB xmlB
  rw [hp_svg, show (svgS.toList == [104, 116, 109, 108]) = false from by decide +kernel, show (svgS.toList == [109, 97, 116, 104]) = false from by decide +kernel, show svgS.toList.isEmpty = false from by decide +kernel]
  simp

set_option maxRecDepth 100000 in
set_option maxHeartbeats 8000000 in
theorem html_walk (nm : ByteArray) (av : Value) (l : List At) (k : Tk) (tv : Value) (tl : List At) (w : World) (hg : Glob w) (hv : AtsAt w av l) (hl : ∀ x ∈ l, x.va.size ≤ maxLen) (htv : AtsAt w tv tl) (hns : nm.size ≤ 9223372036854775807) :
    Calls Tryd.prog 6 #[.string nm, av, .agg #[.int .u8 k.k, .string k.n, tv, .bool k.s, .string k.t, .string k.p, .string k.y, .bool k.a, .bool k.b, .bool k.c]] w fun e w' => e = .returned (.bool true) ∧ Below w.heap.size w w' := by
  have hlen := hv.len
  have hlen2 := htv.len
  obtain ⟨va, vc, rfl⟩ := hv.form
  obtain ⟨ta, tc, rfl⟩ := htv.form
  obtain ⟨kk, n, s, t, p, y, a, b, c⟩ := k
  simp only at *
  have htf : ∃ a n c, Value.slice ta tl.length tc = .slice a n c := ⟨_, _, _, rfl⟩
  have hB0 := (Below.refl w.heap.size w).alloc (Nat.le_refl _) (.cells #[.int .u8 kk, .string n, .slice ta tl.length tc, .bool s, .string t, .string p, .string y, .bool a, .bool b, .bool c] 34)
  have hT : ∀ W, Below (w.alloc (.cells #[.int .u8 kk, .string n, .slice ta tl.length tc, .bool s, .string t, .string p, .string y, .bool a, .bool b, .bool c] 34)).heap.size (w.alloc (.cells #[.int .u8 kk, .string n, .slice ta tl.length tc, .bool s, .string t, .string p, .string y, .bool a, .bool b, .bool c] 34)) W → ∀ j v, [.int .u8 kk, .string n, .slice ta tl.length tc, .bool s, .string t, .string p, .string y, .bool a, .bool b, .bool c][j]? = some v → W.cell? ⟨w.heap.size, j, none⟩ = some v := by
    intro W hb j v hj
    rw [hb.cell (p := ⟨w.heap.size, j, none⟩) (by simp), cell_of_row _ _ j _ _ _ (heap_alloc_new w _)]
    simpa using hj
  have HT := Lib.hid hT
  have RA := Lib.hid (rules_html kk n nm l)
  have RB := Lib.hid (rules_none kk n ⟨#[]⟩ l)
  have rc := rules_svg kk n (⟨#[100, 101, 115, 99]⟩ : ByteArray) l
  have rd := rules_svg kk n (⟨#[103]⟩ : ByteArray) l
  rw [show amongB (⟨#[100, 101, 115, 99]⟩ : ByteArray) svgW = true from by decide +kernel] at rc
  rw [show amongB (⟨#[103]⟩ : ByteArray) svgW = false from by decide +kernel] at rd
  have rd' : rulesB kk n svgS (⟨#[103]⟩ : ByteArray) l = false := by rw [rd]; simp
  have RD := Lib.hid rd'
  have HRC := Lib.hid rc
  clear hT rd rd' rc
  by_cases b1 : 4096 < nm.size
  · go_enter Tryd.func6, Tryd.ntmps6
    go_wp2_with fail
    refine (works_any _ (hg.alloc _)).mono ?_
    rintro e w1 ⟨rfl, hb1⟩
    have hB1 : Below w.heap.size w w1 := hB0.trans (hb1.mono (by simp))
    have tk_w1 := HT.out w1 hb1
    have _t0_w1 := tk_w1 0 _ rfl
    have _t1_w1 := tk_w1 1 _ rfl
    have _t2_w1 := tk_w1 2 _ rfl
    have _t3_w1 := tk_w1 3 _ rfl
    have _t4_w1 := tk_w1 4 _ rfl
    have _t5_w1 := tk_w1 5 _ rfl
    have _t6_w1 := tk_w1 6 _ rfl
    have _t7_w1 := tk_w1 7 _ rfl
    have _t8_w1 := tk_w1 8 _ rfl
    have _t9_w1 := tk_w1 9 _ rfl
    have _lt_w1 : w.heap.size < w1.heap.size := Nat.lt_of_lt_of_le (by simp) (Below.size hb1)
    clear tk_w1
    go_wp2_with fail
    go_ret
    exact ⟨rfl, hB1⟩
  · by_cases b2 : 4096 < l.length
    · go_enter Tryd.func6, Tryd.ntmps6
      go_wp2_with fail
      refine (works_any _ (hg.alloc _)).mono ?_
      rintro e w1 ⟨rfl, hb1⟩
      have hB1 : Below w.heap.size w w1 := hB0.trans (hb1.mono (by simp))
      have tk_w1 := HT.out w1 hb1
      have _t0_w1 := tk_w1 0 _ rfl
      have _t1_w1 := tk_w1 1 _ rfl
      have _t2_w1 := tk_w1 2 _ rfl
      have _t3_w1 := tk_w1 3 _ rfl
      have _t4_w1 := tk_w1 4 _ rfl
      have _t5_w1 := tk_w1 5 _ rfl
      have _t6_w1 := tk_w1 6 _ rfl
      have _t7_w1 := tk_w1 7 _ rfl
      have _t8_w1 := tk_w1 8 _ rfl
      have _t9_w1 := tk_w1 9 _ rfl
      have _lt_w1 : w.heap.size < w1.heap.size := Nat.lt_of_lt_of_le (by simp) (Below.size hb1)
      clear tk_w1
      go_wp2_with fail
      go_ret
      exact ⟨rfl, hB1⟩
    · by_cases b3 : 4096 < tl.length
      · go_enter Tryd.func6, Tryd.ntmps6
        go_wp2_with fail
        refine (works_any _ (hg.alloc _)).mono ?_
        rintro e w1 ⟨rfl, hb1⟩
        have hB1 : Below w.heap.size w w1 := hB0.trans (hb1.mono (by simp))
        have tk_w1 := HT.out w1 hb1
        have _t0_w1 := tk_w1 0 _ rfl
        have _t1_w1 := tk_w1 1 _ rfl
        have _t2_w1 := tk_w1 2 _ rfl
        have _t3_w1 := tk_w1 3 _ rfl
        have _t4_w1 := tk_w1 4 _ rfl
        have _t5_w1 := tk_w1 5 _ rfl
        have _t6_w1 := tk_w1 6 _ rfl
        have _t7_w1 := tk_w1 7 _ rfl
        have _t8_w1 := tk_w1 8 _ rfl
        have _t9_w1 := tk_w1 9 _ rfl
        have _lt_w1 : w.heap.size < w1.heap.size := Nat.lt_of_lt_of_le (by simp) (Below.size hb1)
        clear tk_w1
        go_wp2_with fail
        go_ret
        exact ⟨rfl, hB1⟩
      · obtain ⟨bc, hbc⟩ : ∃ b, rulesB kk n svgS (⟨#[100, 101, 115, 99]⟩ : ByteArray) l = b := ⟨_, rfl⟩
        obtain ⟨be, hbe⟩ : ∃ b, breaksB kk n tl = b := ⟨_, rfl⟩
        have RC := Lib.hid hbc
        have RE := Lib.hid hbe
        clear hbc hbe
        go_enter Tryd.func6, Tryd.ntmps6
        go_wp2_with fail
        refine (works_any _ (hg.alloc _)).mono ?_
        rintro e w1 ⟨rfl, hb1⟩
        have hB1 : Below w.heap.size w w1 := hB0.trans (hb1.mono (by simp))
        have tk_w1 := HT.out w1 hb1
        have _t0_w1 := tk_w1 0 _ rfl
        have _t1_w1 := tk_w1 1 _ rfl
        have _t2_w1 := tk_w1 2 _ rfl
        have _t3_w1 := tk_w1 3 _ rfl
        have _t4_w1 := tk_w1 4 _ rfl
        have _t5_w1 := tk_w1 5 _ rfl
        have _t6_w1 := tk_w1 6 _ rfl
        have _t7_w1 := tk_w1 7 _ rfl
        have _t8_w1 := tk_w1 8 _ rfl
        have _t9_w1 := tk_w1 9 _ rfl
        have _lt_w1 : w.heap.size < w1.heap.size := Nat.lt_of_lt_of_le (by simp) (Below.size hb1)
        clear tk_w1
        go_wp2_with fail
        refine (rules_any ⟨kk, n, s, t, p, y, a, b, c⟩ 1 htmlS nm _ _ l w1 (hg.below hg.lt hB1) (hv.below (Nat.le_refl _) hB1) hl htf).mono ?_
        rintro e w2 ⟨rfl, hb_w2⟩
        rw [RA.out]
        have hbw2 := hb1.trans (hb_w2.mono (Below.size hb1))
        have hBw2 := hB1.trans (hb_w2.mono hB1.size)
        clear hb_w2 _t0_w1 _t1_w1 _t2_w1 _t3_w1 _t4_w1 _t5_w1 _t6_w1 _t7_w1 _t8_w1 _t9_w1 _lt_w1
        have tk_w2 := HT.out w2 hbw2
        have _t0_w2 := tk_w2 0 _ rfl
        have _t1_w2 := tk_w2 1 _ rfl
        have _t2_w2 := tk_w2 2 _ rfl
        have _t3_w2 := tk_w2 3 _ rfl
        have _t4_w2 := tk_w2 4 _ rfl
        have _t5_w2 := tk_w2 5 _ rfl
        have _t6_w2 := tk_w2 6 _ rfl
        have _t7_w2 := tk_w2 7 _ rfl
        have _t8_w2 := tk_w2 8 _ rfl
        have _t9_w2 := tk_w2 9 _ rfl
        have _lt_w2 : w.heap.size < w2.heap.size := Nat.lt_of_lt_of_le (by simp) (Below.size hbw2)
        clear tk_w2
        go_wp2_with fail
        refine (rules_any ⟨kk, n, s, t, p, y, a, b, c⟩ 0 ⟨#[]⟩ ⟨#[]⟩ _ _ l w2 (hg.below hg.lt hBw2) (hv.below (Nat.le_refl _) hBw2) hl htf).mono ?_
        rintro e w3 ⟨rfl, hb_w3⟩
        rw [RB.out]
        have hbw3 := hbw2.trans (hb_w3.mono (Below.size hbw2))
        have hBw3 := hBw2.trans (hb_w3.mono hBw2.size)
        clear hb_w3 _t0_w2 _t1_w2 _t2_w2 _t3_w2 _t4_w2 _t5_w2 _t6_w2 _t7_w2 _t8_w2 _t9_w2 _lt_w2
        have tk_w3 := HT.out w3 hbw3
        have _t0_w3 := tk_w3 0 _ rfl
        have _t1_w3 := tk_w3 1 _ rfl
        have _t2_w3 := tk_w3 2 _ rfl
        have _t3_w3 := tk_w3 3 _ rfl
        have _t4_w3 := tk_w3 4 _ rfl
        have _t5_w3 := tk_w3 5 _ rfl
        have _t6_w3 := tk_w3 6 _ rfl
        have _t7_w3 := tk_w3 7 _ rfl
        have _t8_w3 := tk_w3 8 _ rfl
        have _t9_w3 := tk_w3 9 _ rfl
        have _lt_w3 : w.heap.size < w3.heap.size := Nat.lt_of_lt_of_le (by simp) (Below.size hbw3)
        clear tk_w3
        go_wp2_with fail
        refine (rules_any ⟨kk, n, s, t, p, y, a, b, c⟩ 1 svgS (⟨#[100, 101, 115, 99]⟩ : ByteArray) _ _ l w3 (hg.below hg.lt hBw3) (hv.below (Nat.le_refl _) hBw3) hl htf).mono ?_
        rintro e w4 ⟨rfl, hb_w4⟩
        rw [RC.out]
        have hbw4 := hbw3.trans (hb_w4.mono (Below.size hbw3))
        have hBw4 := hBw3.trans (hb_w4.mono hBw3.size)
        clear hb_w4 _t0_w3 _t1_w3 _t2_w3 _t3_w3 _t4_w3 _t5_w3 _t6_w3 _t7_w3 _t8_w3 _t9_w3 _lt_w3
        have tk_w4 := HT.out w4 hbw4
        have _t0_w4 := tk_w4 0 _ rfl
        have _t1_w4 := tk_w4 1 _ rfl
        have _t2_w4 := tk_w4 2 _ rfl
        have _t3_w4 := tk_w4 3 _ rfl
        have _t4_w4 := tk_w4 4 _ rfl
        have _t5_w4 := tk_w4 5 _ rfl
        have _t6_w4 := tk_w4 6 _ rfl
        have _t7_w4 := tk_w4 7 _ rfl
        have _t8_w4 := tk_w4 8 _ rfl
        have _t9_w4 := tk_w4 9 _ rfl
        have _lt_w4 : w.heap.size < w4.heap.size := Nat.lt_of_lt_of_le (by simp) (Below.size hbw4)
        clear tk_w4
        go_wp2_with fail
        refine (rules_any ⟨kk, n, s, t, p, y, a, b, c⟩ 1 svgS (⟨#[103]⟩ : ByteArray) _ _ l w4 (hg.below hg.lt hBw4) (hv.below (Nat.le_refl _) hBw4) hl htf).mono ?_
        rintro e w5 ⟨rfl, hb_w5⟩
        rw [RD.out]
        have hbw5 := hbw4.trans (hb_w5.mono (Below.size hbw4))
        have hBw5 := hBw4.trans (hb_w5.mono hBw4.size)
        clear hb_w5 _t0_w4 _t1_w4 _t2_w4 _t3_w4 _t4_w4 _t5_w4 _t6_w4 _t7_w4 _t8_w4 _t9_w4 _lt_w4
        have tk_w5 := HT.out w5 hbw5
        have _t0_w5 := tk_w5 0 _ rfl
        have _t1_w5 := tk_w5 1 _ rfl
        have _t2_w5 := tk_w5 2 _ rfl
        have _t3_w5 := tk_w5 3 _ rfl
        have _t4_w5 := tk_w5 4 _ rfl
        have _t5_w5 := tk_w5 5 _ rfl
        have _t6_w5 := tk_w5 6 _ rfl
        have _t7_w5 := tk_w5 7 _ rfl
        have _t8_w5 := tk_w5 8 _ rfl
        have _t9_w5 := tk_w5 9 _ rfl
        have _lt_w5 : w.heap.size < w5.heap.size := Nat.lt_of_lt_of_le (by simp) (Below.size hbw5)
        clear tk_w5
        have hK2 : kk = 2 → bc = true := fun h => by rw [← RC.out, HRC.out, if_pos h]
        have hK1 : kk = 1 → bc = true := fun h => by rw [← RC.out, HRC.out, if_neg (by omega), if_pos h]
        have hK0 : ¬ kk = 2 → ¬ kk = 1 → bc = false := fun h1 h2 => by rw [← RC.out, HRC.out, if_neg h1, if_neg h2]
        have hE3 : kk = 3 → be = ((n.toList == ([98, 114] : List UInt8)) || (n.toList == ([112] : List UInt8))) := fun h => by rw [← RE.out, breaksB, if_pos h]; exact br_eq n
        have hE0 : ¬ kk = 3 → ¬ kk = 2 → be = false := fun h1 h2 => by rw [← RE.out, breaksB, if_neg h1, if_neg h2]
        clear RC HRC RA RB RD hv hl hbw2 hbw3 hbw4 hBw2 hBw3 hBw4
        by_cases k2 : kk = 2
        · subst k2
          obtain rfl := hK2 rfl
          clear hK2 hK1 hK0 hE3 hE0
          cases be
          · go_wp2_with fail
            refine (breaks_any ⟨_, n, s, t, p, y, a, b, c⟩ _ tl w5 (hg.below hg.lt hBw5) (htv.below (Nat.le_refl _) hBw5)).mono ?_
            rintro e w6 ⟨rfl, hb_w6⟩
            rw [RE.out]
            have hbw6 := hbw5.trans (hb_w6.mono (Below.size hbw5))
            have hBw6 := hBw5.trans (hb_w6.mono hBw5.size)
            clear hb_w6 _t0_w5 _t1_w5 _t2_w5 _t3_w5 _t4_w5 _t5_w5 _t6_w5 _t7_w5 _t8_w5 _t9_w5 _lt_w5
            have tk_w6 := HT.out w6 hbw6
            have _t0_w6 := tk_w6 0 _ rfl
            have _t1_w6 := tk_w6 1 _ rfl
            have _t2_w6 := tk_w6 2 _ rfl
            have _t3_w6 := tk_w6 3 _ rfl
            have _t4_w6 := tk_w6 4 _ rfl
            have _t5_w6 := tk_w6 5 _ rfl
            have _t6_w6 := tk_w6 6 _ rfl
            have _t7_w6 := tk_w6 7 _ rfl
            have _t8_w6 := tk_w6 8 _ rfl
            have _t9_w6 := tk_w6 9 _ rfl
            have _lt_w6 : w.heap.size < w6.heap.size := Nat.lt_of_lt_of_le (by simp) (Below.size hbw6)
            clear tk_w6
            go_wp2
            all_goals (go_ret; first | exact ⟨rfl, hBw6⟩ | exact ⟨ret_bool (by simp [*]), hBw6⟩)
          · go_wp2_with fail
            refine (breaks_any ⟨_, n, s, t, p, y, a, b, c⟩ _ tl w5 (hg.below hg.lt hBw5) (htv.below (Nat.le_refl _) hBw5)).mono ?_
            rintro e w6 ⟨rfl, hb_w6⟩
            rw [RE.out]
            have hbw6 := hbw5.trans (hb_w6.mono (Below.size hbw5))
            have hBw6 := hBw5.trans (hb_w6.mono hBw5.size)
            clear hb_w6 _t0_w5 _t1_w5 _t2_w5 _t3_w5 _t4_w5 _t5_w5 _t6_w5 _t7_w5 _t8_w5 _t9_w5 _lt_w5
            have tk_w6 := HT.out w6 hbw6
            have _t0_w6 := tk_w6 0 _ rfl
            have _t1_w6 := tk_w6 1 _ rfl
            have _t2_w6 := tk_w6 2 _ rfl
            have _t3_w6 := tk_w6 3 _ rfl
            have _t4_w6 := tk_w6 4 _ rfl
            have _t5_w6 := tk_w6 5 _ rfl
            have _t6_w6 := tk_w6 6 _ rfl
            have _t7_w6 := tk_w6 7 _ rfl
            have _t8_w6 := tk_w6 8 _ rfl
            have _t9_w6 := tk_w6 9 _ rfl
            have _lt_w6 : w.heap.size < w6.heap.size := Nat.lt_of_lt_of_le (by simp) (Below.size hbw6)
            clear tk_w6
            go_wp2
            all_goals (go_ret; first | exact ⟨rfl, hBw6⟩ | exact ⟨ret_bool (by simp [*]), hBw6⟩)
        · by_cases k3 : kk = 3
          · subst k3
            obtain rfl := hK0 (by decide) (by decide)
            have he := hE3 rfl
            clear hK2 hK1 hK0 hE3 hE0
            cases n1 : (n.toList == ([98, 114] : List UInt8))
            · rw [n1, Bool.false_or] at he
              cases n2 : (n.toList == ([112] : List UInt8))
              · rw [n2] at he
                subst he
                go_wp2_with fail
                refine (breaks_any ⟨_, n, s, t, p, y, a, b, c⟩ _ tl w5 (hg.below hg.lt hBw5) (htv.below (Nat.le_refl _) hBw5)).mono ?_
                rintro e w6 ⟨rfl, hb_w6⟩
                rw [RE.out]
                have hbw6 := hbw5.trans (hb_w6.mono (Below.size hbw5))
                have hBw6 := hBw5.trans (hb_w6.mono hBw5.size)
                clear hb_w6 _t0_w5 _t1_w5 _t2_w5 _t3_w5 _t4_w5 _t5_w5 _t6_w5 _t7_w5 _t8_w5 _t9_w5 _lt_w5
                have tk_w6 := HT.out w6 hbw6
                have _t0_w6 := tk_w6 0 _ rfl
                have _t1_w6 := tk_w6 1 _ rfl
                have _t2_w6 := tk_w6 2 _ rfl
                have _t3_w6 := tk_w6 3 _ rfl
                have _t4_w6 := tk_w6 4 _ rfl
                have _t5_w6 := tk_w6 5 _ rfl
                have _t6_w6 := tk_w6 6 _ rfl
                have _t7_w6 := tk_w6 7 _ rfl
                have _t8_w6 := tk_w6 8 _ rfl
                have _t9_w6 := tk_w6 9 _ rfl
                have _lt_w6 : w.heap.size < w6.heap.size := Nat.lt_of_lt_of_le (by simp) (Below.size hbw6)
                clear tk_w6
                go_wp2
                all_goals (go_ret; first | exact ⟨rfl, hBw6⟩ | exact ⟨ret_bool (by simp [*]), hBw6⟩)
              · rw [n2] at he
                subst he
                go_wp2_with fail
                refine (breaks_any ⟨_, n, s, t, p, y, a, b, c⟩ _ tl w5 (hg.below hg.lt hBw5) (htv.below (Nat.le_refl _) hBw5)).mono ?_
                rintro e w6 ⟨rfl, hb_w6⟩
                rw [RE.out]
                have hbw6 := hbw5.trans (hb_w6.mono (Below.size hbw5))
                have hBw6 := hBw5.trans (hb_w6.mono hBw5.size)
                clear hb_w6 _t0_w5 _t1_w5 _t2_w5 _t3_w5 _t4_w5 _t5_w5 _t6_w5 _t7_w5 _t8_w5 _t9_w5 _lt_w5
                have tk_w6 := HT.out w6 hbw6
                have _t0_w6 := tk_w6 0 _ rfl
                have _t1_w6 := tk_w6 1 _ rfl
                have _t2_w6 := tk_w6 2 _ rfl
                have _t3_w6 := tk_w6 3 _ rfl
                have _t4_w6 := tk_w6 4 _ rfl
                have _t5_w6 := tk_w6 5 _ rfl
                have _t6_w6 := tk_w6 6 _ rfl
                have _t7_w6 := tk_w6 7 _ rfl
                have _t8_w6 := tk_w6 8 _ rfl
                have _t9_w6 := tk_w6 9 _ rfl
                have _lt_w6 : w.heap.size < w6.heap.size := Nat.lt_of_lt_of_le (by simp) (Below.size hbw6)
                clear tk_w6
                go_wp2
                all_goals (go_ret; first | exact ⟨rfl, hBw6⟩ | exact ⟨ret_bool (by simp [*]), hBw6⟩)
            · rw [n1, Bool.true_or] at he
              subst he
              go_wp2_with fail
              refine (breaks_any ⟨_, n, s, t, p, y, a, b, c⟩ _ tl w5 (hg.below hg.lt hBw5) (htv.below (Nat.le_refl _) hBw5)).mono ?_
              rintro e w6 ⟨rfl, hb_w6⟩
              rw [RE.out]
              have hbw6 := hbw5.trans (hb_w6.mono (Below.size hbw5))
              have hBw6 := hBw5.trans (hb_w6.mono hBw5.size)
              clear hb_w6 _t0_w5 _t1_w5 _t2_w5 _t3_w5 _t4_w5 _t5_w5 _t6_w5 _t7_w5 _t8_w5 _t9_w5 _lt_w5
              have tk_w6 := HT.out w6 hbw6
              have _t0_w6 := tk_w6 0 _ rfl
              have _t1_w6 := tk_w6 1 _ rfl
              have _t2_w6 := tk_w6 2 _ rfl
              have _t3_w6 := tk_w6 3 _ rfl
              have _t4_w6 := tk_w6 4 _ rfl
              have _t5_w6 := tk_w6 5 _ rfl
              have _t6_w6 := tk_w6 6 _ rfl
              have _t7_w6 := tk_w6 7 _ rfl
              have _t8_w6 := tk_w6 8 _ rfl
              have _t9_w6 := tk_w6 9 _ rfl
              have _lt_w6 : w.heap.size < w6.heap.size := Nat.lt_of_lt_of_le (by simp) (Below.size hbw6)
              clear tk_w6
              go_wp2
              all_goals (go_ret; first | exact ⟨rfl, hBw6⟩ | exact ⟨ret_bool (by simp [*]), hBw6⟩)
          · obtain rfl := hE0 k3 k2
            by_cases k1 : kk = 1
            · subst k1
              obtain rfl := hK1 rfl
              clear hK2 hK1 hK0 hE3 hE0
              go_wp2_with fail
              refine (breaks_any ⟨_, n, s, t, p, y, a, b, c⟩ _ tl w5 (hg.below hg.lt hBw5) (htv.below (Nat.le_refl _) hBw5)).mono ?_
              rintro e w6 ⟨rfl, hb_w6⟩
              rw [RE.out]
              have hbw6 := hbw5.trans (hb_w6.mono (Below.size hbw5))
              have hBw6 := hBw5.trans (hb_w6.mono hBw5.size)
              clear hb_w6 _t0_w5 _t1_w5 _t2_w5 _t3_w5 _t4_w5 _t5_w5 _t6_w5 _t7_w5 _t8_w5 _t9_w5 _lt_w5
              have tk_w6 := HT.out w6 hbw6
              have _t0_w6 := tk_w6 0 _ rfl
              have _t1_w6 := tk_w6 1 _ rfl
              have _t2_w6 := tk_w6 2 _ rfl
              have _t3_w6 := tk_w6 3 _ rfl
              have _t4_w6 := tk_w6 4 _ rfl
              have _t5_w6 := tk_w6 5 _ rfl
              have _t6_w6 := tk_w6 6 _ rfl
              have _t7_w6 := tk_w6 7 _ rfl
              have _t8_w6 := tk_w6 8 _ rfl
              have _t9_w6 := tk_w6 9 _ rfl
              have _lt_w6 : w.heap.size < w6.heap.size := Nat.lt_of_lt_of_le (by simp) (Below.size hbw6)
              clear tk_w6
              go_wp2
              all_goals (go_ret; first | exact ⟨rfl, hBw6⟩ | exact ⟨ret_bool (by simp [*]), hBw6⟩)
            · obtain rfl := hK0 k2 k1
              have _e2 : (kk == 2) = false := by simpa using k2
              have _e1 : (kk == 1) = false := by simpa using k1
              clear hK2 hK1 hK0 hE3 hE0
              go_wp2_with fail
              refine (breaks_any ⟨_, n, s, t, p, y, a, b, c⟩ _ tl w5 (hg.below hg.lt hBw5) (htv.below (Nat.le_refl _) hBw5)).mono ?_
              rintro e w6 ⟨rfl, hb_w6⟩
              rw [RE.out]
              have hbw6 := hbw5.trans (hb_w6.mono (Below.size hbw5))
              have hBw6 := hBw5.trans (hb_w6.mono hBw5.size)
              clear hb_w6 _t0_w5 _t1_w5 _t2_w5 _t3_w5 _t4_w5 _t5_w5 _t6_w5 _t7_w5 _t8_w5 _t9_w5 _lt_w5
              have tk_w6 := HT.out w6 hbw6
              have _t0_w6 := tk_w6 0 _ rfl
              have _t1_w6 := tk_w6 1 _ rfl
              have _t2_w6 := tk_w6 2 _ rfl
              have _t3_w6 := tk_w6 3 _ rfl
              have _t4_w6 := tk_w6 4 _ rfl
              have _t5_w6 := tk_w6 5 _ rfl
              have _t6_w6 := tk_w6 6 _ rfl
              have _t7_w6 := tk_w6 7 _ rfl
              have _t8_w6 := tk_w6 8 _ rfl
              have _t9_w6 := tk_w6 9 _ rfl
              have _lt_w6 : w.heap.size < w6.heap.size := Nat.lt_of_lt_of_le (by simp) (Below.size hbw6)
              clear tk_w6
              go_wp2
              all_goals (go_ret; first | exact ⟨rfl, hBw6⟩ | exact ⟨ret_bool (by simp [*]), hBw6⟩)
end Go.Proofs.YtdoiopdnencabaaDoor
