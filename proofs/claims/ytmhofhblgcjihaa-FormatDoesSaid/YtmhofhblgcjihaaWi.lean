/- What the reference's Insert does: a list that is made anew. -/
import Derived.Test.YtmhofhblgcjihaaWe
namespace Go.Proofs.Ytmhofhblgcjihaa
open Go Go.RowKit Go.Shelf

/-- the row that is made anew, up to the k-th -/
structure RI (w wr : World) (es : List En) (e : El) (attrs : List At) (at_ k : Nat) (ins : Bool) (u : Value) (L : List En) : Prop where
  row : wr.ownsRow w.heap.size 37 4 u L.length (flatE L)
  below : Below w.heap.size w wr
  form : (ins = false ∧ L = es.take k) ∨ (ins = true ∧ at_ ≤ k ∧ ∃ ka kc, L = es.take at_ ++ ⟨e, ka, kc, attrs⟩ :: (es.take k).drop at_ ∧ (∀ q o, ka = some ⟨q, o, Option.none⟩ → w.heap.size ≤ q ∧ q < wr.heap.size ∧ u.ownBlock ≠ some q) ∧ AtsAt wr (.slice ka attrs.length kc) attrs)

theorem RI.len {w wr : World} {es : List En} {e : El} {attrs : List At} {at_ k : Nat} {ins : Bool} {u : Value} {L : List En} (h : RI w wr es e attrs at_ k ins u L) : L.length ≤ k + 1 := by
  rcases h.form with ⟨_, rfl⟩ | ⟨_, hk, ka, kc, rfl, _⟩
  · have := List.length_take_le k es; omega
  · simp; omega

theorem RI.uform {w wr : World} {es : List En} {e : El} {attrs : List At} {at_ k : Nat} {ins : Bool} {u : Value} {L : List En} (h : RI w wr es e attrs at_ k ins u L) : ∃ a n c, u = Value.slice a n c := by
  rcases h.row.2 with ⟨h, _⟩ | ⟨g', cap', cur, h, _⟩
  · exact ⟨_, _, _, h⟩
  · exact ⟨_, _, _, h⟩

/-- an element of the list is laid behind -/
theorem RI.elem {w wr wa w6 : World} {es : List En} {e : El} {attrs : List At} {at_ k : Nat} {ins : Bool} {u : Value} {L : List En} {g cap : Nat} (h : RI w wr es e attrs at_ k ins u L) (hk : k < es.length) (ha : Below wr.heap.size wr wa)
    (hown : w6.ownsRow w.heap.size 37 4 (.slice (some ⟨g, 0, Option.none⟩) (L.length + 1) cap) (L.length + 1) (flatE L ++ es[k].cells)) (hgr : wa.grownBy w6 u.ownBlock) (hat : u.ownBlock = some g ∨ g = wa.heap.size) :
    RI w w6 es e attrs at_ (k + 1) ins (.slice (some ⟨g, 0, Option.none⟩) (L.length + 1) cap) (L ++ [es[k]]) := by
  have hge := own_ge h.row
  have hsz := ha.size
  refine ⟨by rw [flatE_append, flatE_one, List.length_append]; exact hown, (h.below.trans (ha.mono h.below.size)).grown hgr (Nat.le_trans h.below.size hsz) (fun q hq => (hge q hq).1), ?_⟩
  rcases h.form with ⟨h1, h2⟩ | ⟨h1, h2, ka, kc, h3, h4, h5⟩
  · exact .inl ⟨h1, by rw [h2, List.take_succ_eq_append_getElem hk]⟩
  · refine .inr ⟨h1, by omega, ka, kc, ?_, ?_, ?_⟩
    · rw [h3, List.take_succ_eq_append_getElem hk, List.drop_append_of_le_length (by simp; omega), List.append_assoc]; rfl
    · intro q o hq
      obtain ⟨q1, q2, q3⟩ := h4 q o hq
      have := hgr.size
      refine ⟨q1, by omega, fun hb => ?_⟩
      have hb' : g = q := by simpa [Value.ownBlock] using hb
      subst hb'
      rcases hat with hat | hat
      · exact q3 hat
      · omega
    · refine (h5.below (Nat.le_refl _) ha).keeps (S := fun q => u.ownBlock = some q) ((Keeps.refl _ _).grown hgr (fun q hq => .inl hq)) (fun _ q o n c he => ?_)
      injection he with he1
      exact (h4 q o he1).2.2

/-- the new one is laid behind -/
theorem RI.ins {w wr wa w6 : World} {es : List En} {e : El} {attrs : List At} {at_ : Nat} {u : Value} {L : List En} {g cap kc : Nat} {ka : Option Addr} (h : RI w wr es e attrs at_ at_ false u L) (ha : Below wr.heap.size wr wa)
    (hka : AtsAt wa (.slice ka attrs.length kc) attrs) (hkq : ∀ q o, ka = some ⟨q, o, Option.none⟩ → wr.heap.size ≤ q ∧ q < wa.heap.size)
    (hown : w6.ownsRow w.heap.size 37 4 (.slice (some ⟨g, 0, Option.none⟩) (L.length + 1) cap) (L.length + 1) (flatE L ++ (⟨e, ka, kc, attrs⟩ : En).cells)) (hgr : wa.grownBy w6 u.ownBlock) (hat : u.ownBlock = some g ∨ g = wa.heap.size) :
    RI w w6 es e attrs at_ at_ true (.slice (some ⟨g, 0, Option.none⟩) (L.length + 1) cap) (L ++ [⟨e, ka, kc, attrs⟩]) := by
  have hge := own_ge h.row
  have hsz := ha.size
  have hbz := h.below.size
  refine ⟨by rw [flatE_append, flatE_one, List.length_append]; exact hown, (h.below.trans (ha.mono h.below.size)).grown hgr (Nat.le_trans h.below.size hsz) (fun q hq => (hge q hq).1), ?_⟩
  rcases h.form with ⟨h1, h2⟩ | ⟨h1, _⟩
  · refine .inr ⟨rfl, Nat.le_refl _, ka, kc, ?_, ?_, ?_⟩
    · rw [h2, List.drop_eq_nil_of_le (by simp; omega)]
    · intro q o hq
      obtain ⟨q1, q2⟩ := hkq q o hq
      have := hgr.size
      refine ⟨by omega, by omega, fun hb => ?_⟩
      have hb' : g = q := by simpa [Value.ownBlock] using hb
      subst hb'
      rcases hat with hat | hat
      · have := (hge _ hat).2; omega
      · omega
    · refine hka.keeps (S := fun q => u.ownBlock = some q) ((Keeps.refl _ _).grown hgr (fun q hq => .inl hq)) (fun _ q o n c he hq => ?_)
      injection he with he1
      have h1 := (hkq q o he1).1
      have h2 := (hge q hq).2
      omega
  · cases h1

theorem own_le {w : World} {base base' n size : Nat} {t : TypeId} {v : Value} {xs : List Value} (h : w.ownsRow base t size v n xs) (hb : base' ≤ base) : w.ownsRow base' t size v n xs := by
  refine ⟨h.1, ?_⟩
  rcases h.2 with hn | ⟨g, cap, cur, hv, hg, rest⟩
  · exact .inl hn
  · exact .inr ⟨g, cap, cur, hv, Nat.le_trans hb hg, rest⟩

theorem RI.past {w wr : World} {es : List En} {e : El} {attrs : List At} {at_ k : Nat} {ins : Bool} {u : Value} {L : List En} (h : RI w wr es e attrs at_ k ins u L) (hk : es.length ≤ k) : RI w wr es e attrs at_ (k + 1) ins u L := by
  refine ⟨h.row, h.below, ?_⟩
  rw [List.take_of_length_le (by omega : es.length ≤ k + 1)]
  have h3 := h.form
  rw [List.take_of_length_le hk] at h3
  rcases h3 with h1 | ⟨h1, h2, h3⟩
  · exact .inl h1
  · exact .inr ⟨h1, by omega, h3⟩

set_option maxRecDepth 100000 in
set_option maxHeartbeats 2000000 in
theorem rinsert_out (b : Nat) (v : Value) (es : List En) (i : Int) (e : El) (va : Value) (attrs : List At) (w : World) (hs : Raw w b v es) (ha : AtsAt w va attrs) (h : ¬ (0 ≤ i ∧ i ≤ es.length)) :
    Calls Try.prog 39 #[.pointer (some ⟨b, 0, Option.none⟩), .int .i64 i, .agg #[.int .i64 e.id, .string e.sp, .string e.nm], va] w (MPost b v es w (.returned (.int .i64 70)) (es.map En.ab)) := by
  have hc := hs.cell
  have hblt := hs.lt b (.inl rfl)
  have HS := Lib.hid hs
  obtain ⟨xa, xc, rfl⟩ := ha.form
  obtain ⟨ua, uc, rfl⟩ : ∃ a c, v = .slice a es.length c := by
    rcases hs.form with ⟨h, h2⟩ | ⟨g, cap, h1, _⟩
    · exact ⟨_, _, by rw [h2]; exact h⟩
    · exact ⟨_, _, h1⟩
  have hal : Below w.heap.size w (w.alloc (.cells #[.int .i64 e.id, .string e.sp, .string e.nm] 29)) := (Below.refl _ _).alloc (Nat.le_refl _) _
  have HAL := Lib.hid hal
  clear hs ha hal
  by_cases hi : i < 0
  · clear h
    go_enter Try.func39, Try.ntmps39
    go_wp2_with fail
    go_ret
    exact .same HS.out HAL.out
  · have hi3 : (es.length : Int) < i := by omega
    clear h
    go_enter Try.func39, Try.ntmps39
    go_wp2_with fail
    go_ret
    exact .same HS.out HAL.out

set_option maxRecDepth 100000 in
set_option maxHeartbeats 4000000 in
theorem rinsert_in (b : Nat) (v : Value) (es : List En) (at_ : Nat) (e : El) (va : Value) (attrs : List At) (w : World) (hs : Raw w b v es) (ha : AtsAt w va attrs) (hsm : attrs.length * 48 ≤ 140737488355328) (hlen : es.length < 900000) (hi : at_ ≤ es.length) :
    Calls Try.prog 39 #[.pointer (some ⟨b, 0, Option.none⟩), .int .i64 at_, .agg #[.int .i64 e.id, .string e.sp, .string e.nm], va] w (MPost b v es w (.returned (.int .i64 0)) ((es.map En.ab).take at_ ++ ⟨e, attrs⟩ :: (es.map En.ab).drop at_)) := by
  obtain ⟨i0, hi0, hz0, hz1, hz2⟩ := info_parts infoen
  have ht : Try.prog.underlying 25 = some (.slice 37) := Try.underlying25
  have hc := hs.cell
  have hf := hs.frozen
  have hblt := hs.lt b (.inl rfl)
  obtain ⟨xa, xc, rfl⟩ := ha.form
  obtain ⟨ua, uc, rfl⟩ : ∃ a c, v = .slice a es.length c := by
    rcases hs.form with ⟨h, h2⟩ | ⟨g, cap, h1, _⟩
    · exact ⟨_, _, by rw [h2]; exact h⟩
    · exact ⟨_, _, h1⟩
  have hal : Below w.heap.size w (w.alloc (.cells #[.int .i64 e.id, .string e.sp, .string e.nm] 29)) := (Below.refl _ _).alloc (Nat.le_refl _) _
  have hA0 := heap_alloc_new w (.cells #[.int .i64 e.id, .string e.sp, .string e.nm] 29)
  have hcA := (hal.cell (p := ⟨b, 0, Option.none⟩) hblt).trans hc
  have hwz : w.heap.size < (w.alloc (.cells #[.int .i64 e.id, .string e.sp, .string e.nm] 29)).heap.size := by simp
  have HS := Lib.hid hs
  have HA := Lib.hid ha
  have HAL := Lib.hid hal
  have HE := Lib.hid hA0
  have hno1 : (es.length < at_) = False := eq_false (by omega)
  have hno2 : ((es.length : Int) < (at_ : Int)) = False := eq_false (by omega)
  have hno3 : ((at_ : Int) < 0) = False := eq_false (by omega)
  clear hs ha hal hA0
  go_enter Try.func39, Try.ntmps39
  go_wp2_with fail
  generalize w.alloc (.cells #[.int .i64 e.id, .string e.sp, .string e.nm] 29) = w0 at *
  go_loopw [9, 10] (fun u i wr => ∃ k : Nat, k ≤ es.length + 1 ∧ i = .int .i64 k ∧ ∃ L, RI w0 wr es e attrs at_ k (decide (at_ < k)) u L) (fun _ i _ => es.length + 1 - (intOf i).toNat)
  case atStart => exact ⟨0, by omega, rfl, [], World.ownsRow_nil _ _ _ _, Below.refl _ _, .inl ⟨by simp, by simp⟩⟩
  case round =>
    obtain ⟨k, hk, rfl, L, hR⟩ := hrel
    have hb0 := hR.below
    have hb := HAL.out.trans (hb0.mono (Nat.le_of_lt hwz))
    have hLk := hR.len
    have hcb := (hb.cell (p := ⟨b, 0, Option.none⟩) hblt).trans hc
    have hfb := (hb.frozen (p := ⟨b, 0, Option.none⟩) hblt).trans hf
    have hEr := (hb0.block w.heap.size hwz).trans HE.out
    have g00 : wr.cell? ⟨w.heap.size, 0, Option.none⟩ = some (.int .i64 e.id) := by rw [cell_of_row wr _ 0 _ _ _ hEr]; rfl
    have g01 : wr.cell? ⟨w.heap.size, 1, Option.none⟩ = some (.string e.sp) := by rw [cell_of_row wr _ 1 _ _ _ hEr]; rfl
    have g02 : wr.cell? ⟨w.heap.size, 2, Option.none⟩ = some (.string e.nm) := by rw [cell_of_row wr _ 2 _ _ _ hEr]; rfl
    obtain ⟨va9, vn9, vc9, rfl⟩ := hR.uform
    have HR := Lib.hid hR
    have HB := Lib.hid hb
    have hsz := hb.size
    have hsz0 := hb0.size
    have hw1 : IntKind.i64.wrap ((k : Int) + 1) = (k : Int) + 1 := by rw [IntKind.wrap_i64]; omega
    clear hR hb hb0 hEr
    by_cases hkl : k ≤ es.length
    · have hat4 : ∀ (hkl : k < es.length), ∃ g, ua = some ⟨g, 0, Option.none⟩ ∧ es.length ≤ uc ∧ ∀ W, Below w.heap.size w W → W.cell? ⟨g, k * 4, Option.none⟩ = some (.int .i64 es[k].el.id) ∧ W.cell? ⟨g, k * 4 + 1, Option.none⟩ = some (.string es[k].el.sp) ∧ W.cell? ⟨g, k * 4 + 2, Option.none⟩ = some (.string es[k].el.nm) ∧ W.cell? ⟨g, k * 4 + 3, Option.none⟩ = some (.slice es[k].a es[k].ats.length es[k].c) := by
        intro hkl
        rcases HS.out.form with ⟨h, h2⟩ | ⟨g, cap, h1, _, _, h3, _⟩
        · rw [h2] at hkl; simp at hkl
        · injection h1 with e1 e2 e3
          subst e1
          exact ⟨g, rfl, by omega, fun W hW => HS.out.at4 k hkl hW⟩
      have HAT4 := Lib.hid hat4
      clear hat4
      by_cases hka : k = at_
      · -- the place
        have hd : ((k : Int) == (at_ : Int)) = true := by rw [hka]; simp
        have hR' := HR.out
        rw [show decide (at_ < k) = false from by simp; omega, hka] at hR'
        have HR' := Lib.hid hR'
        have hown := rown_any e (.slice xa attrs.length xc) attrs wr (HA.out.below (Nat.le_refl _) HB.out) hsm
        have HO := Lib.hid hown
        have hd1 : decide (at_ < k + 1) = true := by simp; omega
        have HKA := Lib.hid hka
        clear hR' hown hka
        by_cases hlt : k < es.length
        · obtain ⟨g, rfl, hcl, h4⟩ := HAT4.out hlt
          have hklt : ((k : Nat) : Int) < (es.length : Int) := by omega
          have hk0 : (0 : Int) ≤ (k : Int) := by omega
          have HC4 := Lib.hid h4
          clear h4
          go_wp2_with fail
          refine HO.out.mono ?_
          rintro e7 w7 ⟨ka, kc, rfl, hka, hkq, hkb⟩
          have hrow1 := (own_below HR'.out.row hkb).alloc (.cells #[.int .i64 e.id, .string e.sp, .string e.nm, .slice ka attrs.length kc] 37)
          have hnews1 := en_news (vs := [.int .i64 e.id, .string e.sp, .string e.nm, .slice ka attrs.length kc]) (heap_alloc_new w7 (.cells #[.int .i64 e.id, .string e.sp, .string e.nm, .slice ka attrs.length kc] 37))
          have hb8 : Below wr.heap.size wr (w7.alloc (.cells #[.int .i64 e.id, .string e.sp, .string e.nm, .slice ka attrs.length kc] 37)) := hkb.alloc hkb.size _
          have HR1 := Lib.hid hrow1
          have HN1 := Lib.hid hnews1
          have HB8 := Lib.hid hb8
          have HKA2 := Lib.hid (hka.below (Nat.le_refl _) ((Below.refl w7.heap.size w7).alloc (Nat.le_refl _) (.cells #[.int .i64 e.id, .string e.sp, .string e.nm, .slice ka attrs.length kc] 37)))
          have hkq2 : ∀ q o, ka = some ⟨q, o, Option.none⟩ → wr.heap.size ≤ q ∧ q < (w7.alloc (.cells #[.int .i64 e.id, .string e.sp, .string e.nm, .slice ka attrs.length kc] 37)).heap.size := fun q o h => by
            have := hkq q o h
            simp; omega
          have HKQ := Lib.hid hkq2
          have hz7 := hkb.size
          clear hka hkq hkq2 hkb hrow1 hnews1 hb8
          go_wp2_with (first | (at_builtin; refine wpList_append_lies _ rfl _ _ 25 rfl w0.heap.size 37 i0 _ 4 64 ht hi0 hz0 hz1 hz2 rfl (by decide) _ _ _ rfl HR1.out ⟨w7.heap.size, 0, Option.none⟩ 1 1 [.int .i64 e.id, .string e.sp, .string e.nm, .slice ka attrs.length kc] rfl rfl (by exact HN1.out) (by simp [Value.oneCell']) (by decide) (by unfold maxLen; omega) (by omega) (by simp; omega) _ rfl ?_; intro g6 cap6 w6 hown6 hgr6 hat6 hlt6; have hR6 := HR'.out.ins HB8.out HKA2.out HKQ.out hown6 hgr6 hat6; have hB6 := HAL.out.trans (hR6.below.mono (Nat.le_of_lt hwz)); have hc6 := (hB6.cell (p := ⟨b, 0, Option.none⟩) hblt).trans hc; have hLL : (L ++ [(⟨e, ka, kc, attrs⟩ : En)]).length = L.length + 1 := (by simp); obtain ⟨c0, c1, c2, c3⟩ := HC4.out _ hB6; have hz6 := hB6.size; have hz06 := hR6.below.size; have HR6 := Lib.hid hR6; have HR7 := Lib.hid (hR6.row.alloc (.cells #[.int .i64 es[k].el.id, .string es[k].el.sp, .string es[k].el.nm, .slice es[k].a es[k].ats.length es[k].c] 37)); have HN7 := Lib.hid (en_news (vs := [.int .i64 es[k].el.id, .string es[k].el.sp, .string es[k].el.nm, .slice es[k].a es[k].ats.length es[k].c]) (heap_alloc_new w6 (.cells #[.int .i64 es[k].el.id, .string es[k].el.sp, .string es[k].el.nm, .slice es[k].a es[k].ats.length es[k].c] 37))); clear hR6 hB6 hown6 hgr6 hat6) | (at_builtin; refine wpList_append_lies _ rfl _ _ 25 rfl w0.heap.size 37 i0 _ 4 64 ht hi0 hz0 hz1 hz2 rfl (by decide) _ _ _ rfl HR7.out ⟨w6.heap.size, 0, Option.none⟩ 1 1 [.int .i64 es[k].el.id, .string es[k].el.sp, .string es[k].el.nm, .slice es[k].a es[k].ats.length es[k].c] rfl rfl (by exact HN7.out) (by simp [Value.oneCell']) (by decide) (by unfold maxLen; omega) (by omega) (by simp; omega) _ rfl ?_; intro g5 cap5 w5 hown5 hgr5 hat5 hlt5; have hR5 : RI w0 w5 es e attrs at_ (k + 1) true (.slice (some ⟨g5, 0, Option.none⟩) ((L ++ [(⟨e, ka, kc, attrs⟩ : En)]).length + 1) cap5) ((L ++ [(⟨e, ka, kc, attrs⟩ : En)]) ++ [es[k]]) := (by have h := HKA.out; subst h; exact HR6.out.elem hlt ((Below.refl _ _).alloc (Nat.le_refl _) _) hown5 hgr5 hat5); have HR5 := Lib.hid hR5; clear hR5; clear hown5 hgr5 hat5) | fail)
          go_roundw
          case rel =>
            have h5 := HR5.out
            rw [hLL] at h5
            exact ⟨k + 1, by omega, by go_num, _, by rw [hd1]; exact h5⟩
          case measure => simp [intOf] <;> omega
        · have hle : ((k : Int) < (es.length : Int)) = False := by simp; omega
          go_wp2_with fail
          refine HO.out.mono ?_
          rintro e7 w7 ⟨ka, kc, rfl, hka, hkq, hkb⟩
          have hrow1 := (own_below HR'.out.row hkb).alloc (.cells #[.int .i64 e.id, .string e.sp, .string e.nm, .slice ka attrs.length kc] 37)
          have hnews1 := en_news (vs := [.int .i64 e.id, .string e.sp, .string e.nm, .slice ka attrs.length kc]) (heap_alloc_new w7 (.cells #[.int .i64 e.id, .string e.sp, .string e.nm, .slice ka attrs.length kc] 37))
          have hb8 : Below wr.heap.size wr (w7.alloc (.cells #[.int .i64 e.id, .string e.sp, .string e.nm, .slice ka attrs.length kc] 37)) := hkb.alloc hkb.size _
          have HR1 := Lib.hid hrow1
          have HN1 := Lib.hid hnews1
          have HB8 := Lib.hid hb8
          have HKA2 := Lib.hid (hka.below (Nat.le_refl _) ((Below.refl w7.heap.size w7).alloc (Nat.le_refl _) (.cells #[.int .i64 e.id, .string e.sp, .string e.nm, .slice ka attrs.length kc] 37)))
          have hkq2 : ∀ q o, ka = some ⟨q, o, Option.none⟩ → wr.heap.size ≤ q ∧ q < (w7.alloc (.cells #[.int .i64 e.id, .string e.sp, .string e.nm, .slice ka attrs.length kc] 37)).heap.size := fun q o h => by
            have := hkq q o h
            simp; omega
          have HKQ := Lib.hid hkq2
          have hz7 := hkb.size
          clear hka hkq hkq2 hkb hrow1 hnews1 hb8
          go_wp2_with (first | (at_builtin; refine wpList_append_lies _ rfl _ _ 25 rfl w0.heap.size 37 i0 _ 4 64 ht hi0 hz0 hz1 hz2 rfl (by decide) _ _ _ rfl HR1.out ⟨w7.heap.size, 0, Option.none⟩ 1 1 [.int .i64 e.id, .string e.sp, .string e.nm, .slice ka attrs.length kc] rfl rfl (by exact HN1.out) (by simp [Value.oneCell']) (by decide) (by unfold maxLen; omega) (by omega) (by simp; omega) _ rfl ?_; intro g6 cap6 w6 hown6 hgr6 hat6 hlt6; have hR6 := HR'.out.ins HB8.out HKA2.out HKQ.out hown6 hgr6 hat6; have hB6 := HAL.out.trans (hR6.below.mono (Nat.le_of_lt hwz)); have hc6 := (hB6.cell (p := ⟨b, 0, Option.none⟩) hblt).trans hc; have hz6 := hB6.size; have hz06 := hR6.below.size; have HR6 := Lib.hid hR6; clear hR6 hB6 hown6 hgr6 hat6) | fail)
          go_roundw
          case rel => exact ⟨k + 1, by omega, by go_num, _, by rw [hd1]; have := HKA.out; subst this; exact HR6.out.past (by omega)⟩
          case measure => simp [intOf] <;> omega
      · have hd : ((k : Int) == (at_ : Int)) = false := by simp; omega
        have hd1 : decide (at_ < k + 1) = decide (at_ < k) := by simp; omega
        by_cases hlt : k < es.length
        · obtain ⟨g, rfl, hcl, h4⟩ := HAT4.out hlt
          have hklt : ((k : Nat) : Int) < (es.length : Int) := by omega
          have hk0 : (0 : Int) ≤ (k : Int) := by omega
          obtain ⟨c0, c1, c2, c3⟩ := h4 _ HB.out
          have hrow1 := HR.out.row.alloc (.cells #[.int .i64 es[k].el.id, .string es[k].el.sp, .string es[k].el.nm, .slice es[k].a es[k].ats.length es[k].c] 37)
          have hnews1 := en_news (vs := [.int .i64 es[k].el.id, .string es[k].el.sp, .string es[k].el.nm, .slice es[k].a es[k].ats.length es[k].c]) (heap_alloc_new wr (.cells #[.int .i64 es[k].el.id, .string es[k].el.sp, .string es[k].el.nm, .slice es[k].a es[k].ats.length es[k].c] 37))
          have hb8 : Below wr.heap.size wr (wr.alloc (.cells #[.int .i64 es[k].el.id, .string es[k].el.sp, .string es[k].el.nm, .slice es[k].a es[k].ats.length es[k].c] 37)) := (Below.refl _ _).alloc (Nat.le_refl _) _
          have HR1 := Lib.hid hrow1
          have HN1 := Lib.hid hnews1
          have HB8 := Lib.hid hb8
          clear hrow1 hnews1 hb8
          go_wp2_with (first | (at_builtin; refine wpList_append_lies _ rfl _ _ 25 rfl w0.heap.size 37 i0 _ 4 64 ht hi0 hz0 hz1 hz2 rfl (by decide) _ _ _ rfl HR1.out ⟨wr.heap.size, 0, Option.none⟩ 1 1 [.int .i64 es[k].el.id, .string es[k].el.sp, .string es[k].el.nm, .slice es[k].a es[k].ats.length es[k].c] rfl rfl (by exact HN1.out) (by simp [Value.oneCell']) (by decide) (by unfold maxLen; omega) (by omega) (by simp; omega) _ rfl ?_; intro g5 cap5 w5 hown5 hgr5 hat5 hlt5; have HR5 := Lib.hid (HR.out.elem hlt HB8.out hown5 hgr5 hat5); clear hown5 hgr5 hat5) | fail)
          go_roundw
          case rel => exact ⟨k + 1, by omega, by go_num, _, by rw [hd1]; exact HR5.out⟩
          case measure => simp [intOf] <;> omega
        · go_wp2_with fail
          go_roundw
          case rel => exact ⟨k + 1, by omega, by go_num, _, by rw [hd1]; exact HR.out.past (by omega)⟩
          case measure => simp [intOf] <;> omega
    · obtain rfl : k = es.length + 1 := by omega
      go_wp2_with fail
      go_ret
      have hR := HR.out
      have hB := HB.out
      rcases hR.form with ⟨h1, _⟩ | ⟨_, _, ka, kc, rfl, hq, hat⟩
      · simp at h1; omega
      · have hL : (es.take (es.length + 1)).drop at_ = es.drop at_ := by rw [List.take_of_length_le (by omega)]
        rw [hL] at hR
        refine rput HS.out (by rw [List.map_append, List.map_cons, List.map_take, List.map_drop]; rfl) (by simp; omega) hB (own_le hR.row (Nat.le_of_lt hwz)) rfl rfl (fun x hx => ?_)
        rcases List.mem_append.1 hx with h | h
        · exact .inl (List.mem_of_mem_take h)
        · rcases List.mem_cons.1 h with h | h
          · subst h
            exact .inr ⟨hat, fun q o e => ⟨Nat.le_trans (Nat.le_of_lt hwz) (hq q o e).1, (hq q o e).2.2⟩, hsm⟩
          · exact .inl (List.mem_of_mem_drop h)
end Go.Proofs.Ytmhofhblgcjihaa
