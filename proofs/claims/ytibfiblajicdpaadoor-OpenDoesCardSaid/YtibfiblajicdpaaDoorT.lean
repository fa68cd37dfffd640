/- What Insert, Index, Remove and Replace do to a stack. -/
import Derived.Test.YtibfiblajicdpaaDoorEi
import Derived.Test.YtibfiblajicdpaaDoorN
namespace Go.Proofs.YtibfiblajicdpaaDoor
open Go Go.RowKit

theorem flat_take (l : List El) (i : Nat) : (flat l).take (i * 3) = flat (l.take i) := by
  induction l generalizing i with
  | nil => simp [flat]
  | cons x l ih =>
    cases i with
    | zero => simp [flat]
    | succ i =>
      have e : ∀ l, flat (x :: l) = x.cells ++ flat l := fun _ => rfl
      rw [List.take_succ_cons, e, e, ← ih, show (i + 1) * 3 = x.cells.length + i * 3 from by simp [El.cells]; omega, List.take_length_add_append]

theorem flat_drop (l : List El) (i : Nat) : (flat l).drop (i * 3) = flat (l.drop i) := by
  have h := List.take_append_drop (i * 3) (flat l)
  have h2 : flat l = flat (l.take i) ++ flat (l.drop i) := by rw [← flat_append, List.take_append_drop]
  rw [flat_take] at h
  rw [h2] at h
  have h3 := List.append_cancel_left h
  rw [← h2] at h3
  exact h3

theorem El.one (x : El) : ∀ u ∈ x.cells, u.oneCell' = true := by
  intro u hu
  simp [El.cells] at hu
  rcases hu with rfl | rfl | rfl <;> rfl

theorem flat_oneC (l : List El) : ∀ u ∈ flat l, u.oneCell' = true := by
  intro u hu
  obtain ⟨x, _, hx⟩ := List.mem_flatMap.1 hu
  exact x.one u hx

/-- slices.Insert over a row of elements -/
theorem ins_any (v : Value) (l : List El) (i vb : Nat) (x : El) (w : World) (hown : w.ownsRow 0 30 3 v l.length (flat l)) (hi : i ≤ l.length) (hn : l.length < 1000000) (hvb : w.heap[vb]? = some (.cells x.cells.toArray 30 (0, 0))) (hne : v.ownBlock ≠ some vb) :
    Calls Tryd.prog 28 #[v, .int .i64 i, .slice (some ⟨vb, 0, Option.none⟩) 1 1] w (emPost v (flat (l.take i ++ x :: l.drop i)) (l.length + 1) w) := by
  have hxl : x.cells.length = 3 := rfl
  have hcs : flat (l.take i ++ x :: l.drop i) = (flat l).take (i * 3) ++ x.cells ++ (flat l).drop (i * 3) := by
    rw [flat_append, flat_take, flat_drop, List.append_assoc]; rfl
  rw [hcs]
  by_cases he : i = l.length
  · subst he
    have e1 : (flat l).take (l.length * 3) = flat l := List.take_of_length_le (by rw [flat_length]; exact Nat.le_refl _)
    have e2 : (flat l).drop (l.length * 3) = [] := List.drop_eq_nil_of_le (by rw [flat_length]; exact Nat.le_refl _)
    rw [e1, e2, List.append_nil]
    exact em_ins_end v l.length vb (flat l) x.cells w hown hn hvb hxl x.one
  · rcases hown.2 with ⟨_, h0⟩ | ⟨g, c, cur, rfl, _, hg, hnc, hm, hs, hcur⟩
    · omega
    · have hne' : vb ≠ g := fun e => hne (by rw [e]; rfl)
      have hglt : g < w.heap.size := (Array.getElem?_eq_some_iff.1 hg).1
      have h1c : ∀ u ∈ cur.toList.take (l.length * 3), u.oneCell' = true := by rw [hcur]; exact flat_oneC l
      have hfl := flat_length l
      by_cases hroom : l.length + 1 ≤ c
      · refine (em_ins_shift g l.length c i vb cur x.cells w hg hs (by omega) hroom hm hvb hne' hxl h1c x.one).mono ?_
        rintro e w' ⟨rfl, rfl⟩
        rw [hcur]
        have hg1 := heap_setCells g 30 (0, 0) ((flat l).drop (i * 3)) ((i + 1) * 3) w.drew cur hg (by simp; omega)
        have hg2 := heap_setCells g 30 (0, 0) x.cells (i * 3) _ _ hg1 (by simp; omega)
        have hb1 := grown_setCells g ((flat l).drop (i * 3)) ((i + 1) * 3) w.drew
        have hb2 := grown_setCells g x.cells (i * 3) (w.drew.setCells g ((i + 1) * 3) ((flat l).drop (i * 3)))
        refine ⟨g, c, rfl, ⟨by simp; omega, .inr ⟨g, c, _, rfl, Nat.zero_le _, hg2, hroom, hm, by simp; omega, ?_⟩⟩, ⟨hb2.os.trans hb1.os, hb2.tape.trans hb1.tape, hb2.output.trans hb1.output, Nat.le_trans hb1.size hb2.size, fun k hk hkn => (hb2.block k (Nat.lt_of_lt_of_le hk hb1.size) hkn).trans (hb1.block k hk hkn)⟩, .inl rfl, ?_⟩
        · have h := lay_shift cur.toList x.cells (i * 3) (l.length * 3) (by omega) (by simp; omega)
          rw [hcur] at h
          simp only [lay1, hxl] at h
          simpa [Nat.add_mul, hxl] using h
        · exact Nat.lt_of_lt_of_le hglt (Nat.le_trans hb1.size hb2.size)
      · refine (em_ins_grow g l.length c i vb cur x.cells w hg hs (by omega) hnc (by omega) hn hvb hxl h1c x.one).mono ?_
        rintro e w' ⟨cap, Z, rfl, hcn, hcm, hZ, rfl⟩
        rw [hcur]
        have hA : ((flat l).take (i * 3)).length = i * 3 := by simp; omega
        have hg0 := heap_alloc_new w.drew (.cells ((flat l).take (i * 3) ++ Z).toArray 30)
        have hg1 := heap_setCells w.heap.size 30 (0, 0) x.cells (i * 3) (w.drew.alloc (.cells ((flat l).take (i * 3) ++ Z).toArray 30)) _ hg0 (by simp; omega)
        have hg2 := heap_setCells w.heap.size 30 (0, 0) ((flat l).drop (i * 3)) ((i + 1) * 3) (((w.drew.alloc (.cells ((flat l).take (i * 3) ++ Z).toArray 30)).setCells w.heap.size (i * 3) x.cells).drew) _ hg1 (by simp; omega)
        have hsz0 : (w.drew.alloc (.cells ((flat l).take (i * 3) ++ Z).toArray 30)).heap.size = w.heap.size + 1 := by simp
        have hb1 := grown_setCells w.heap.size x.cells (i * 3) (w.drew.alloc (.cells ((flat l).take (i * 3) ++ Z).toArray 30))
        have hb2 := grown_setCells w.heap.size ((flat l).drop (i * 3)) ((i + 1) * 3) (((w.drew.alloc (.cells ((flat l).take (i * 3) ++ Z).toArray 30)).setCells w.heap.size (i * 3) x.cells).drew)
        have hs1 : w.heap.size + 1 ≤ _ := Nat.le_trans (Nat.le_of_eq hsz0.symm) hb1.size
        have hs2 := Nat.le_trans hs1 hb2.size
        refine ⟨w.heap.size, cap, rfl, ⟨by simp; omega, .inr ⟨w.heap.size, cap, _, rfl, Nat.zero_le _, hg2, hcn, hcm, by simp; omega, ?_⟩⟩, ⟨hb2.os.trans hb1.os, hb2.tape.trans hb1.tape, hb2.output.trans hb1.output, by omega, fun k hk _ => ?_⟩, .inr (Nat.le_refl _), by omega⟩
        · have h := lay_new ((flat l).take (i * 3)) Z x.cells ((flat l).drop (i * 3))
          simp only [lay1, hxl, hA] at h
          have e3 : i * 3 + 3 + ((flat l).drop (i * 3)).length = (l.length + 1) * 3 := by simp; omega
          rw [← e3]
          simpa [Nat.add_mul, hxl] using h
        · refine (hb2.block k (Nat.lt_of_lt_of_le (by omega) hs1) (by simp; omega)).trans ?_
          refine (hb1.block k (by omega) (by simp; omega)).trans ?_
          exact heap_alloc_old w.drew _ hk

theorem own_keeps {w w' : World} {v : Value} {n : Nat} {xs : List Value} {S : Nat → Prop} (h : w.ownsRow 0 30 3 v n xs) (hk : Keeps S w w') (hs : ∀ k, v.ownBlock = some k → ¬ S k) : w'.ownsRow 0 30 3 v n xs := by
  refine ⟨h.1, ?_⟩
  rcases h.2 with hn | ⟨g, cap, cur, hv, hbg, hg, rest⟩
  · exact .inl hn
  · refine .inr ⟨g, cap, cur, hv, hbg, ?_, rest⟩
    rw [hk.block g (Array.getElem?_eq_some_iff.1 hg).1 (hs g (by rw [hv]; rfl))]; exact hg

/-- behind a call on the stack's slice, and the store of what came out -/
theorem put_done {w W w1 W2 : World} {b : Nat} {v : Value} {l l' : List El} {e e0 : Ending} {n : Nat} (hs : Stk w b v l) (hlen : l'.length ≤ 1000000) (hW : Below w.heap.size w W) (g cap : Nat)
    (hown : w1.ownsRow 0 30 3 (.slice (some ⟨g, 0, Option.none⟩) n cap) n (flat l')) (hn : n = l'.length)
    (hgr : W.grownBy w1 v.ownBlock) (hat : v.ownBlock = some g ∨ W.heap.size ≤ g) (he : e = e0)
    (hk : Keeps (fun k => w1.heap.size ≤ k) (w1.setCell ⟨b, 0, Option.none⟩ (.slice (some ⟨g, 0, Option.none⟩) n cap)) W2) :
    MPost b v w e0 l' e W2 := by
  subst hn
  obtain ⟨T, hT⟩ := hs.box
  have hblt := hs.lt b (.inl rfl)
  have hb1 : w1.heap[b]? = some (.cells #[v] T (0, 0)) := ((hgr.block b (Nat.lt_of_lt_of_le hblt hW.size) (fun e => hs.ne e.symm)).trans (hW.block b hblt)).trans hT
  have hwz := hW.size
  have hgb : g ≠ b := by
    rintro rfl
    rcases hat with h | h
    · exact hs.ne h
    · omega
  have hglt : g < w1.heap.size := (hown.lt g rfl).2
  have hst : Stk (w1.setCell ⟨b, 0, Option.none⟩ (.slice (some ⟨g, 0, Option.none⟩) l'.length cap)) b (.slice (some ⟨g, 0, Option.none⟩) l'.length cap) l' := by
    refine ⟨⟨T, ?_⟩, ?_, ?_, hlen⟩
    · simp only [World.setCell, Array.getElem?_modify, if_true, hb1, Option.map_some]
      rfl
    · refine own_keeps hown (Keeps.setCell (S := fun k => k = b) (Keeps.refl _ _) (p := ⟨b, 0, Option.none⟩) (.inl rfl) _) ?_
      intro k hk hkb
      simp [Value.ownBlock] at hk
      omega
    · simp [Value.ownBlock, hgb]
  have hk0 : Keeps (fp b v) w (w1.setCell ⟨b, 0, Option.none⟩ (.slice (some ⟨g, 0, Option.none⟩) l'.length cap)) := by
    refine Keeps.setCell ?_ (.inl (.inl rfl)) _
    exact (Keeps.of_below hW).grown hgr (fun k hk => .inl (.inr hk))
  refine ⟨he, _, hst.keeps hk ?_, hk0.trans' hk (fun k h => .inr ?_), ?_⟩
  · intro k hk' hge
    have := hst.lt k hk'
    simp [World.setCell] at this
    omega
  · exact Nat.le_trans (Nat.le_trans hW.size hgr.size) h
  · rintro k (rfl | hk')
    · exact .inl (.inl rfl)
    · simp [Value.ownBlock] at hk'
      subst hk'
      rcases hat with h | h
      · exact .inl (.inr h)
      · exact .inr (Nat.le_trans hW.size h)

/-- what an insertion leaves -/
def insC (l : List El) (i : Int) : Int := if 0 ≤ i ∧ i ≤ l.length then 0 else 60
def insL (l : List El) (i : Int) (x : El) : List El := if 0 ≤ i ∧ i ≤ l.length then l.take i.toNat ++ x :: l.drop i.toNat else l

theorem insert_out (b : Nat) (v : Value) (l : List El) (i : Int) (x : El) (w : World) (hs : Stk w b v l) (h : ¬ (0 ≤ i ∧ i ≤ l.length)) :
    Calls Tryd.prog 15 #[.pointer (some ⟨b, 0, Option.none⟩), .int .i64 i, .agg #[.int .i64 x.id, .string x.sp, .string x.nm]] w (MPost b v w (.returned (.int .i64 60)) l) := by
  have hc := hs.cell
  have hblt := hs.lt b (.inl rfl)
  have HS := Lib.hid hs
  have hb : Below w.heap.size w (w.alloc (.cells #[.int .i64 x.id, .string x.sp, .string x.nm] 30)) := (Below.refl _ _).alloc (Nat.le_refl _) _
  rcases hs.form with ⟨rfl, rfl⟩ | ⟨g, cap, rfl, _, _, h1, h2, _, _⟩
  all_goals
    clear hs
    by_cases hi : i < 0
    · clear h
      go_enter Tryd.func15, Tryd.ntmps15
      go_wp2_with fail
      go_ret
      exact ⟨rfl, _, HS.out.below hb, Keeps.of_below hb, fun k hk => .inl hk⟩
    · have hi2 : (0 : Int) ≤ i := by omega
      have hi3 : ((_ : Nat) : Int) < i := Int.not_le.1 (fun hh => h ⟨hi2, hh⟩)
      clear h
      try simp only [List.length_nil, Int.natCast_zero] at hi3
      go_enter Tryd.func15, Tryd.ntmps15
      go_wp2_with fail
      go_ret
      exact ⟨rfl, _, HS.out.below hb, Keeps.of_below hb, fun k hk => .inl hk⟩

set_option maxHeartbeats 1000000 in
theorem insert_in (b : Nat) (v : Value) (l : List El) (i : Nat) (x : El) (w : World) (hs : Stk w b v l) (hi : i ≤ l.length) (hlen : l.length < 1000000) :
    Calls Tryd.prog 15 #[.pointer (some ⟨b, 0, Option.none⟩), .int .i64 i, .agg #[.int .i64 x.id, .string x.sp, .string x.nm]] w (MPost b v w (.returned (.int .i64 0)) (l.take i ++ x :: l.drop i)) := by
  have hc := hs.cell
  have hf := hs.frozen
  have hown := hs.own
  have hblt := hs.lt b (.inl rfl)
  have hne := hs.ne
  have hlt := hs.lt
  have HS := Lib.hid hs
  have hb : Below w.heap.size w ((w.alloc (.cells #[.int .i64 x.id, .string x.sp, .string x.nm] 30)).alloc (.cells #[.int .i64 x.id, .string x.sp, .string x.nm] 30)).drew := (((Below.refl _ _).alloc (Nat.le_refl _) _).alloc (by simp) _).drew
  have hcall := ins_any v l i (w.heap.size + 1) x ((w.alloc (.cells #[.int .i64 x.id, .string x.sp, .string x.nm] 30)).alloc (.cells #[.int .i64 x.id, .string x.sp, .string x.nm] 30)).drew ((hown.alloc _).alloc _) hi hlen (heap_two w _ _) (fun e => by have := hlt _ (.inr e); omega)
  clear hown hlt
  have hl2 : (l.take i ++ x :: l.drop i).length = l.length + 1 := by simp; omega
  obtain ⟨l2, hl2d⟩ : ∃ l2, l2 = l.take i ++ x :: l.drop i := ⟨_, rfl⟩
  rw [← hl2d] at hcall hl2 ⊢
  clear hl2d
  have HL := Lib.hid hl2
  clear hl2
  have hgt : ¬ ((l.length : Int) < (i : Int)) := by omega
  rcases hs.form with ⟨rfl, rfl⟩ | ⟨g, cap, rfl, _, _, h1, h2, _, _⟩
  · obtain rfl : i = 0 := by simpa using hi
    clear hs hgt hi
    simp only [Int.natCast_zero] at hcall ⊢
    have HC := Lib.hid hcall
    clear hcall
    go_enter Tryd.func15, Tryd.ntmps15
    go_wp2_with fail
    go_region_with (go_at_call 28; refine HC.out.mono ?_; rintro e w1 ⟨g', cap', rfl, hown1, hgr, hat, hlt1⟩; obtain ⟨hc1, hf1⟩ := grown_far hgr hb hblt hne 0; rw [hc] at hc1; rw [hf] at hf1)
    all_goals
      go_wp2
      go_ret
      exact put_done HS.out (by rw [HL.out]; omega) hb g' cap' hown1 HL.out.symm hgr hat rfl (Keeps.refl _ _)
  · clear hs
    have HC := Lib.hid hcall
    clear hcall
    go_enter Tryd.func15, Tryd.ntmps15
    go_wp2_with fail
    go_region_with (go_at_call 28; refine HC.out.mono ?_; rintro e w1 ⟨g', cap', rfl, hown1, hgr, hat, hlt1⟩; obtain ⟨hc1, hf1⟩ := grown_far hgr hb hblt hne 0; rw [hc] at hc1; rw [hf] at hf1)
    all_goals
      go_wp2
      go_ret
      exact put_done HS.out (by rw [HL.out]; omega) hb g' cap' hown1 HL.out.symm hgr hat rfl (Keeps.refl _ _)
end Go.Proofs.YtibfiblajicdpaaDoor
