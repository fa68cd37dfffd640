/- The law ForeignRules, walked: it returns true. -/
import Derived.Test.YtdoiopdnencabaaDoorFo
import Derived.Deep.RegionHeld3
namespace Go.Proofs.YtdoiopdnencabaaDoor
open Go Go.RowKit

theorem rules_keep {kk i : Int} {n sp nm t p y : ByteArray} {s a b c : Bool} {ta : Option Addr} {tn tc B : Nat} {w1 W w' : World} (hB : B + 1 < w1.heap.size)
    (hs : W.cell? ⟨B, 0, none⟩ = some (.int .i64 i) ∧ W.cell? ⟨B, 1, none⟩ = some (.string sp) ∧ W.cell? ⟨B, 2, none⟩ = some (.string nm) ∧ W.cell? ⟨B + 1, 0, none⟩ = some (.int .u8 kk) ∧ W.cell? ⟨B + 1, 1, none⟩ = some (.string n) ∧ W.cell? ⟨B + 1, 2, none⟩ = some (.slice ta tn tc) ∧ W.cell? ⟨B + 1, 3, none⟩ = some (.bool s) ∧ W.cell? ⟨B + 1, 4, none⟩ = some (.string t) ∧ W.cell? ⟨B + 1, 5, none⟩ = some (.string p) ∧ W.cell? ⟨B + 1, 6, none⟩ = some (.string y) ∧ W.cell? ⟨B + 1, 7, none⟩ = some (.bool a) ∧ W.cell? ⟨B + 1, 8, none⟩ = some (.bool b) ∧ W.cell? ⟨B + 1, 9, none⟩ = some (.bool c) ∧ Below w1.heap.size w1 W) (hb : Below W.heap.size W w') : w'.cell? ⟨B, 0, none⟩ = some (.int .i64 i) ∧ w'.cell? ⟨B, 1, none⟩ = some (.string sp) ∧ w'.cell? ⟨B, 2, none⟩ = some (.string nm) ∧ w'.cell? ⟨B + 1, 0, none⟩ = some (.int .u8 kk) ∧ w'.cell? ⟨B + 1, 1, none⟩ = some (.string n) ∧ w'.cell? ⟨B + 1, 2, none⟩ = some (.slice ta tn tc) ∧ w'.cell? ⟨B + 1, 3, none⟩ = some (.bool s) ∧ w'.cell? ⟨B + 1, 4, none⟩ = some (.string t) ∧ w'.cell? ⟨B + 1, 5, none⟩ = some (.string p) ∧ w'.cell? ⟨B + 1, 6, none⟩ = some (.string y) ∧ w'.cell? ⟨B + 1, 7, none⟩ = some (.bool a) ∧ w'.cell? ⟨B + 1, 8, none⟩ = some (.bool b) ∧ w'.cell? ⟨B + 1, 9, none⟩ = some (.bool c) ∧ Below w1.heap.size w1 w' := by
  obtain ⟨h0, h1, h2, h3, h4, h5, h6, h7, h8, h9, h10, h11, h12, h13⟩ := hs
  have hz := h13.size
  refine ⟨(hb.cell (by show _ < _; simp only; omega)).trans h0, (hb.cell (by show _ < _; simp only; omega)).trans h1, (hb.cell (by show _ < _; simp only; omega)).trans h2, (hb.cell (by show _ < _; simp only; omega)).trans h3, (hb.cell (by show _ < _; simp only; omega)).trans h4, (hb.cell (by show _ < _; simp only; omega)).trans h5, (hb.cell (by show _ < _; simp only; omega)).trans h6, (hb.cell (by show _ < _; simp only; omega)).trans h7, (hb.cell (by show _ < _; simp only; omega)).trans h8, (hb.cell (by show _ < _; simp only; omega)).trans h9, (hb.cell (by show _ < _; simp only; omega)).trans h10, (hb.cell (by show _ < _; simp only; omega)).trans h11, (hb.cell (by show _ < _; simp only; omega)).trans h12, h13.trans (hb.mono h13.size)⟩

theorem rules_low {kk i : Int} {n sp nm t p y : ByteArray} {s a b c : Bool} {ta : Option Addr} {tn tc B : Nat} {w1 W : World}
    (hs : W.cell? ⟨B, 0, none⟩ = some (.int .i64 i) ∧ W.cell? ⟨B, 1, none⟩ = some (.string sp) ∧ W.cell? ⟨B, 2, none⟩ = some (.string nm) ∧ W.cell? ⟨B + 1, 0, none⟩ = some (.int .u8 kk) ∧ W.cell? ⟨B + 1, 1, none⟩ = some (.string n) ∧ W.cell? ⟨B + 1, 2, none⟩ = some (.slice ta tn tc) ∧ W.cell? ⟨B + 1, 3, none⟩ = some (.bool s) ∧ W.cell? ⟨B + 1, 4, none⟩ = some (.string t) ∧ W.cell? ⟨B + 1, 5, none⟩ = some (.string p) ∧ W.cell? ⟨B + 1, 6, none⟩ = some (.string y) ∧ W.cell? ⟨B + 1, 7, none⟩ = some (.bool a) ∧ W.cell? ⟨B + 1, 8, none⟩ = some (.bool b) ∧ W.cell? ⟨B + 1, 9, none⟩ = some (.bool c) ∧ Below w1.heap.size w1 W) : Below w1.heap.size w1 W := hs.2.2.2.2.2.2.2.2.2.2.2.2.2

set_option maxRecDepth 100000 in
set_option maxHeartbeats 8000000 in
theorem rules_walk (i : Int) (sp nm : ByteArray) (av : Value) (l : List At) (k : Tk) (tv : Value) (tl : List At) (w : World) (hg : Glob w) (hv : AtsAt w av l) (hl : ∀ x ∈ l, x.va.size ≤ maxLen) (htv : AtsAt w tv tl) :
    Calls Tryd.prog 5 #[.agg #[.int .i64 i, .string sp, .string nm], av, .agg #[.int .u8 k.k, .string k.n, tv, .bool k.s, .string k.t, .string k.p, .string k.y, .bool k.a, .bool k.b, .bool k.c]] w fun e w' => e = .returned (.bool true) ∧ Below w.heap.size w w' := by
  have hlen := hv.len
  have hlen2 := htv.len
  obtain ⟨va, vc, rfl⟩ := hv.form
  obtain ⟨ta, tc, rfl⟩ := htv.form
  obtain ⟨kk, n, s, t, p, y, a, b, c⟩ := k
  simp only at *
  have hB0 : Below w.heap.size w ((w.alloc (.cells #[.int .i64 i, .string sp, .string nm] 31)).alloc (.cells #[.int .u8 kk, .string n, .slice ta tl.length tc, .bool s, .string t, .string p, .string y, .bool a, .bool b, .bool c] 34)) := ((Below.refl w.heap.size w).alloc (Nat.le_refl _) _).alloc (by simp) _
  have hg0 := hg.below hg.lt hB0
  have hT : ∀ w1, Below ((w.alloc (.cells #[.int .i64 i, .string sp, .string nm] 31)).alloc (.cells #[.int .u8 kk, .string n, .slice ta tl.length tc, .bool s, .string t, .string p, .string y, .bool a, .bool b, .bool c] 34)).heap.size ((w.alloc (.cells #[.int .i64 i, .string sp, .string nm] 31)).alloc (.cells #[.int .u8 kk, .string n, .slice ta tl.length tc, .bool s, .string t, .string p, .string y, .bool a, .bool b, .bool c] 34)) w1 → w1.cell? ⟨w.heap.size, 0, none⟩ = some (.int .i64 i) ∧ w1.cell? ⟨w.heap.size, 1, none⟩ = some (.string sp) ∧ w1.cell? ⟨w.heap.size, 2, none⟩ = some (.string nm) ∧ w1.cell? ⟨w.heap.size + 1, 0, none⟩ = some (.int .u8 kk) ∧ w1.cell? ⟨w.heap.size + 1, 1, none⟩ = some (.string n) ∧ w1.cell? ⟨w.heap.size + 1, 2, none⟩ = some (.slice ta tl.length tc) ∧ w1.cell? ⟨w.heap.size + 1, 3, none⟩ = some (.bool s) ∧ w1.cell? ⟨w.heap.size + 1, 4, none⟩ = some (.string t) ∧ w1.cell? ⟨w.heap.size + 1, 5, none⟩ = some (.string p) ∧ w1.cell? ⟨w.heap.size + 1, 6, none⟩ = some (.string y) ∧ w1.cell? ⟨w.heap.size + 1, 7, none⟩ = some (.bool a) ∧ w1.cell? ⟨w.heap.size + 1, 8, none⟩ = some (.bool b) ∧ w1.cell? ⟨w.heap.size + 1, 9, none⟩ = some (.bool c) ∧ Below w1.heap.size w1 w1 := by
    intro w1 hb
    have e1 : ((w.alloc (.cells #[.int .i64 i, .string sp, .string nm] 31)).alloc (.cells #[.int .u8 kk, .string n, .slice ta tl.length tc, .bool s, .string t, .string p, .string y, .bool a, .bool b, .bool c] 34)).heap[w.heap.size]? = some (.cells #[.int .i64 i, .string sp, .string nm] 31) := by
      rw [heap_alloc_old _ _ (by simp), heap_alloc_new]
    have e2 : ((w.alloc (.cells #[.int .i64 i, .string sp, .string nm] 31)).alloc (.cells #[.int .u8 kk, .string n, .slice ta tl.length tc, .bool s, .string t, .string p, .string y, .bool a, .bool b, .bool c] 34)).heap[w.heap.size + 1]? = some (.cells #[.int .u8 kk, .string n, .slice ta tl.length tc, .bool s, .string t, .string p, .string y, .bool a, .bool b, .bool c] 34) := by
      have := heap_alloc_new (w.alloc (.cells #[.int .i64 i, .string sp, .string nm] 31)) (.cells #[.int .u8 kk, .string n, .slice ta tl.length tc, .bool s, .string t, .string p, .string y, .bool a, .bool b, .bool c] 34)
      rwa [World.size_alloc] at this
    have f1 := (hb.block w.heap.size (by simp; omega)).trans e1
    have f2 := (hb.block (w.heap.size + 1) (by simp)).trans e2
    refine ⟨?_, ?_, ?_, ?_, ?_, ?_, ?_, ?_, ?_, ?_, ?_, ?_, ?_, Below.refl _ _⟩
    · rw [cell_of_row _ _ 0 _ _ _ f1]; rfl
    · rw [cell_of_row _ _ 1 _ _ _ f1]; rfl
    · rw [cell_of_row _ _ 2 _ _ _ f1]; rfl
    · rw [cell_of_row _ _ 0 _ _ _ f2]; rfl
    · rw [cell_of_row _ _ 1 _ _ _ f2]; rfl
    · rw [cell_of_row _ _ 2 _ _ _ f2]; rfl
    · rw [cell_of_row _ _ 3 _ _ _ f2]; rfl
    · rw [cell_of_row _ _ 4 _ _ _ f2]; rfl
    · rw [cell_of_row _ _ 5 _ _ _ f2]; rfl
    · rw [cell_of_row _ _ 6 _ _ _ f2]; rfl
    · rw [cell_of_row _ _ 7 _ _ _ f2]; rfl
    · rw [cell_of_row _ _ 8 _ _ _ f2]; rfl
    · rw [cell_of_row _ _ 9 _ _ _ f2]; rfl
  have HT := Lib.hid hT
  clear hT
  have hsz0 : w.heap.size + 1 < ((w.alloc (.cells #[.int .i64 i, .string sp, .string nm] 31)).alloc (.cells #[.int .u8 kk, .string n, .slice ta tl.length tc, .bool s, .string t, .string p, .string y, .bool a, .bool b, .bool c] 34)).heap.size := by simp
  by_cases b2 : 4096 < l.length
  · go_enter Tryd.func5, Tryd.ntmps5
    go_wp2_with fail
    refine (works_any _ hg0).mono ?_
    rintro e w1 ⟨rfl, hb1⟩
    have hB1 : Below w.heap.size w w1 := hB0.trans (hb1.mono hB0.size)
    obtain ⟨_e0, _e1, _e2, _t0, _t1, _t2, _t3, _t4, _t5, _t6, _t7, _t8, _t9, hlow⟩ := HT.out w1 hb1
    clear hlow
    go_wp2_with fail
    go_ret
    exact ⟨rfl, hB1⟩
  · by_cases b3 : 4096 < tl.length
    · go_enter Tryd.func5, Tryd.ntmps5
      go_wp2_with fail
      refine (works_any _ hg0).mono ?_
      rintro e w1 ⟨rfl, hb1⟩
      have hB1 : Below w.heap.size w w1 := hB0.trans (hb1.mono hB0.size)
      obtain ⟨_e0, _e1, _e2, _t0, _t1, _t2, _t3, _t4, _t5, _t6, _t7, _t8, _t9, hlow⟩ := HT.out w1 hb1
      clear hlow
      go_wp2_with fail
      go_ret
      exact ⟨rfl, hB1⟩
    · go_enter Tryd.func5, Tryd.ntmps5
      go_wp2_with fail
      refine (works_any _ hg0).mono ?_
      rintro e w1 ⟨rfl, hb1⟩
      have hB1 : Below w.heap.size w w1 := hB0.trans (hb1.mono hB0.size)
      obtain ⟨_e0, _e1, _e2, _t0, _t1, _t2, _t3, _t4, _t5, _t6, _t7, _t8, _t9, hlow⟩ := HT.out w1 hb1
      have hsz1 : w.heap.size + 1 < w1.heap.size := Nat.lt_of_lt_of_le hsz0 hb1.size
      have hg1 := hg.below hg.lt hB1
      have hv1 := hv.below (Nat.le_refl _) hB1
      have htv1 := htv.below (Nat.le_refl _) hB1
      have hlowd : Below w1.heap.size w1 w1.drew := (Below.refl _ _).drew
      clear HT hv htv hg hg0 hB0 hb1 hsz0
      go_wp2_with fail
      go_region_held3 (fun w' => w'.cell? ⟨w.heap.size, 0, none⟩ = some (.int .i64 i) ∧ w'.cell? ⟨w.heap.size, 1, none⟩ = some (.string sp) ∧ w'.cell? ⟨w.heap.size, 2, none⟩ = some (.string nm) ∧ w'.cell? ⟨w.heap.size + 1, 0, none⟩ = some (.int .u8 kk) ∧ w'.cell? ⟨w.heap.size + 1, 1, none⟩ = some (.string n) ∧ w'.cell? ⟨w.heap.size + 1, 2, none⟩ = some (.slice ta tl.length tc) ∧ w'.cell? ⟨w.heap.size + 1, 3, none⟩ = some (.bool s) ∧ w'.cell? ⟨w.heap.size + 1, 4, none⟩ = some (.string t) ∧ w'.cell? ⟨w.heap.size + 1, 5, none⟩ = some (.string p) ∧ w'.cell? ⟨w.heap.size + 1, 6, none⟩ = some (.string y) ∧ w'.cell? ⟨w.heap.size + 1, 7, none⟩ = some (.bool a) ∧ w'.cell? ⟨w.heap.size + 1, 8, none⟩ = some (.bool b) ∧ w'.cell? ⟨w.heap.size + 1, 9, none⟩ = some (.bool c) ∧ Below w1.heap.size w1 w')
        (first | go_keep | exact rules_keep hsz1 (by assumption) hb)
        (first
      | (go_at_call 13; refine (breaks_any ⟨kk, n, s, t, p, y, a, b, c⟩ _ tl _ (hg1.below hg1.lt (rules_low (by assumption))) (htv1.below (Nat.le_refl _) (rules_low (by assumption)))).mono ?_; rintro e w' ⟨rfl, hb⟩)
      | (go_at_call 14; refine (breaks_ref ⟨kk, n, s, t, p, y, a, b, c⟩ _ tl _ (htv1.below (Nat.le_refl _) (rules_low (by assumption)))).mono ?_; rintro e w' ⟨rfl, hb⟩)
      | (go_at_call 15; refine (mp_any i sp nm _ (hg1.below hg1.lt (rules_low (by assumption)))).mono ?_; rintro e w' ⟨rfl, hb⟩)
      | (go_at_call 16; refine (mp_ref i sp nm _).mono ?_; rintro e w' ⟨rfl, hb⟩)
      | (go_at_call 17; refine (hp_any i sp nm _ l _ (hg1.below hg1.lt (rules_low (by assumption))) (hv1.below (Nat.le_refl _) (rules_low (by assumption))) hl).mono ?_; rintro e w' ⟨rfl, hb⟩)
      | (go_at_call 18; refine (hp_ref i sp nm _ l _ (hv1.below (Nat.le_refl _) (rules_low (by assumption))) hl).mono ?_; rintro e w' ⟨rfl, hb⟩)
      | (go_at_call 19; refine (rules_any ⟨kk, n, s, t, p, y, a, b, c⟩ i sp nm _ _ l _ (hg1.below hg1.lt (rules_low (by assumption))) (hv1.below (Nat.le_refl _) (rules_low (by assumption))) hl ⟨_, _, _, rfl⟩).mono ?_; rintro e w' ⟨rfl, hb⟩)
      | (go_at_call 20; refine (rules_ref ⟨kk, n, s, t, p, y, a, b, c⟩ i sp nm _ _ l _ (hv1.below (Nat.le_refl _) (rules_low (by assumption))) hl ⟨_, _, _, rfl⟩).mono ?_; rintro e w' ⟨rfl, hb⟩))
      all_goals go_wp2
      all_goals
        go_ret
        exact ⟨rfl, hB1.trans ((rules_low (by assumption)).mono hB1.size)⟩
end Go.Proofs.YtdoiopdnencabaaDoor
