/- slices.Insert and slices.Delete over a list's row; what a store behind them leaves. -/
import Derived.Test.YtmhofhblgcjihaaZk
namespace Go.Proofs.Ytmhofhblgcjihaa
open Go Go.RowKit Go.Shelf

set_option maxHeartbeats 2000000 in
theorem insE_any (v : Value) (l : List En) (i vb : Nat) (x : En) (w : World) (hown : w.ownsRow 0 37 4 v l.length (flatE l)) (hi : i ≤ l.length) (hn : l.length < 1000000) (hvb : w.heap[vb]? = some (.cells x.cells.toArray 37 (0, 0))) (hne : v.ownBlock ≠ some vb) :
    Calls Try.prog 56 #[v, .int .i64 i, .slice (some ⟨vb, 0, Option.none⟩) 1 1] w (enPost v (flatE (l.take i ++ x :: l.drop i)) (l.length + 1) w) := by
  have hxl : x.cells.length = 4 := rfl
  have hcs : flatE (l.take i ++ x :: l.drop i) = (flatE l).take (i * 4) ++ x.cells ++ (flatE l).drop (i * 4) := by
    rw [flatE_append, flatE_take, flatE_drop, List.append_assoc]; rfl
  rw [hcs]
  by_cases he : i = l.length
  · subst he
    have e1 : (flatE l).take (l.length * 4) = flatE l := List.take_of_length_le (by rw [flatE_length]; exact Nat.le_refl _)
    have e2 : (flatE l).drop (l.length * 4) = [] := List.drop_eq_nil_of_le (by rw [flatE_length]; exact Nat.le_refl _)
    rw [e1, e2, List.append_nil]
    exact en_ins_end v l.length vb (flatE l) x.cells w hown hn hvb hxl x.one
  · rcases hown.2 with ⟨_, h0⟩ | ⟨g, c, cur, rfl, _, hg, hnc, hm, hs, hcur⟩
    · omega
    · have hne' : vb ≠ g := fun e => hne (by rw [e]; rfl)
      have hglt : g < w.heap.size := (Array.getElem?_eq_some_iff.1 hg).1
      have h1c : ∀ u ∈ cur.toList.take (l.length * 4), u.oneCell' = true := by rw [hcur]; exact flatE_oneC l
      have hfl := flatE_length l
      by_cases hroom : l.length + 1 ≤ c
      · refine (en_ins_shift g l.length c i vb cur x.cells w hg hs (by omega) hroom hm hvb hne' hxl h1c x.one).mono ?_
        rintro e w' ⟨rfl, rfl⟩
        rw [hcur]
        have hg1 := heap_setCells g 37 (0, 0) ((flatE l).drop (i * 4)) ((i + 1) * 4) w.drew cur hg (by simp; omega)
        have hg2 := heap_setCells g 37 (0, 0) x.cells (i * 4) _ _ hg1 (by simp; omega)
        have hb1 := grown_setCells g ((flatE l).drop (i * 4)) ((i + 1) * 4) w.drew
        have hb2 := grown_setCells g x.cells (i * 4) (w.drew.setCells g ((i + 1) * 4) ((flatE l).drop (i * 4)))
        refine ⟨g, c, rfl, ⟨by simp; omega, .inr ⟨g, c, _, rfl, Nat.zero_le _, hg2, hroom, hm, by simp; omega, ?_⟩⟩, ⟨hb2.os.trans hb1.os, hb2.tape.trans hb1.tape, hb2.output.trans hb1.output, Nat.le_trans hb1.size hb2.size, fun k hk hkn => (hb2.block k (Nat.lt_of_lt_of_le hk hb1.size) hkn).trans (hb1.block k hk hkn)⟩, .inl rfl, ?_⟩
        · have h := lay_shift cur.toList x.cells (i * 4) (l.length * 4) (by omega) (by simp; omega)
          rw [hcur] at h
          simp only [lay1, hxl] at h
          simpa [Nat.add_mul, hxl] using h
        · exact Nat.lt_of_lt_of_le hglt (Nat.le_trans hb1.size hb2.size)
      · refine (en_ins_grow g l.length c i vb cur x.cells w hg hs (by omega) hnc (by omega) hn hvb hxl h1c x.one).mono ?_
        rintro e w' ⟨cap, Z, rfl, hcn, hcm, hZ, rfl⟩
        rw [hcur]
        have hA : ((flatE l).take (i * 4)).length = i * 4 := by simp; omega
        have hg0 := heap_alloc_new w.drew (.cells ((flatE l).take (i * 4) ++ Z).toArray 37)
        have hg1 := heap_setCells w.heap.size 37 (0, 0) x.cells (i * 4) (w.drew.alloc (.cells ((flatE l).take (i * 4) ++ Z).toArray 37)) _ hg0 (by simp; omega)
        have hg2 := heap_setCells w.heap.size 37 (0, 0) ((flatE l).drop (i * 4)) ((i + 1) * 4) (((w.drew.alloc (.cells ((flatE l).take (i * 4) ++ Z).toArray 37)).setCells w.heap.size (i * 4) x.cells).drew) _ hg1 (by simp; omega)
        have hsz0 : (w.drew.alloc (.cells ((flatE l).take (i * 4) ++ Z).toArray 37)).heap.size = w.heap.size + 1 := by simp
        have hb1 := grown_setCells w.heap.size x.cells (i * 4) (w.drew.alloc (.cells ((flatE l).take (i * 4) ++ Z).toArray 37))
        have hb2 := grown_setCells w.heap.size ((flatE l).drop (i * 4)) ((i + 1) * 4) (((w.drew.alloc (.cells ((flatE l).take (i * 4) ++ Z).toArray 37)).setCells w.heap.size (i * 4) x.cells).drew)
        have hs1 : w.heap.size + 1 ≤ _ := Nat.le_trans (Nat.le_of_eq hsz0.symm) hb1.size
        have hs2 := Nat.le_trans hs1 hb2.size
        refine ⟨w.heap.size, cap, rfl, ⟨by simp; omega, .inr ⟨w.heap.size, cap, _, rfl, Nat.zero_le _, hg2, hcn, hcm, by simp; omega, ?_⟩⟩, ⟨hb2.os.trans hb1.os, hb2.tape.trans hb1.tape, hb2.output.trans hb1.output, by omega, fun k hk _ => ?_⟩, .inr (Nat.le_refl _), by omega⟩
        · have h := lay_new ((flatE l).take (i * 4)) Z x.cells ((flatE l).drop (i * 4))
          simp only [lay1, hxl, hA] at h
          have e3 : i * 4 + 4 + ((flatE l).drop (i * 4)).length = (l.length + 1) * 4 := by simp; omega
          rw [← e3]
          simpa [Nat.add_mul, hxl] using h
        · refine (hb2.block k (Nat.lt_of_lt_of_le (by omega) hs1) (by simp; omega)).trans ?_
          refine (hb1.block k (by omega) (by simp; omega)).trans ?_
          exact Below.heap_alloc w.drew _ k hk

set_option maxHeartbeats 2000000 in
theorem delE_any (v : Value) (l : List En) (i : Nat) (w : World) (hown : w.ownsRow 0 37 4 v l.length (flatE l)) (hi : i < l.length) :
    Calls Try.prog 24 #[v, .int .i64 i, .int .i64 ((i : Int) + 1)] w (enPost v (flatE (l.take i ++ l.drop (i + 1))) (l.length - 1) w) := by
  have hcs : flatE (l.take i ++ l.drop (i + 1)) = (flatE l).take (i * 4) ++ (flatE l).drop ((i + 1) * 4) := by
    rw [flatE_append, flatE_take, flatE_drop]
  rw [hcs]
  rcases hown.2 with ⟨_, h0⟩ | ⟨g, c, cur, rfl, _, hg, hnc, hm, hs, hcur⟩
  · omega
  · have hglt : g < w.heap.size := (Array.getElem?_eq_some_iff.1 hg).1
    have h1c : ∀ u ∈ cur.toList.take (l.length * 4), u.oneCell' = true := by rw [hcur]; exact flatE_oneC l
    have hfl := flatE_length l
    refine (en_del_row g l.length c i cur w hg hs hi hnc hm h1c).mono ?_
    rintro e w' ⟨zs, hzl, rfl, rfl⟩
    rw [hcur]
    have hg1 := heap_setCells g 37 (0, 0) ((flatE l).drop ((i + 1) * 4)) (i * 4) w.drew cur hg (by simp; omega)
    have hg2 := heap_setCells g 37 (0, 0) zs ((l.length - 1) * 4) _ _ hg1 (by simp; omega)
    have hb1 := grown_setCells g ((flatE l).drop ((i + 1) * 4)) (i * 4) w.drew
    have hb2 := grown_setCells g zs ((l.length - 1) * 4) (w.drew.setCells g (i * 4) ((flatE l).drop ((i + 1) * 4)))
    refine ⟨g, c, rfl, ⟨by simp; omega, .inr ⟨g, c, _, rfl, Nat.zero_le _, hg2, by omega, hm, by simp; omega, ?_⟩⟩, ⟨hb2.os.trans hb1.os, hb2.tape.trans hb1.tape, hb2.output.trans hb1.output, Nat.le_trans hb1.size hb2.size, fun k hk hkn => (hb2.block k (Nat.lt_of_lt_of_le hk hb1.size) hkn).trans (hb1.block k hk hkn)⟩, .inl rfl, ?_⟩
    · have h := lay_cut cur.toList zs (i * 4) ((i + 1) * 4) (l.length * 4) (by omega) (by omega) (by simp; omega) (by simp; omega)
      rw [hcur] at h
      have e : i * 4 + (l.length * 4 - (i + 1) * 4) = (l.length - 1) * 4 := by omega
      rw [e] at h
      simp only [lay1] at h
      simpa using h
    · exact Nat.lt_of_lt_of_le hglt (Nat.le_trans hb1.size hb2.size)

theorem baseN_le (l : List Ab) : baseN l ≤ l.length := by unfold baseN; omega

theorem own_below {w w' : World} {base n size : Nat} {t : TypeId} {v : Value} {xs : List Value} (h : w.ownsRow base t size v n xs) (hb : Below w.heap.size w w') : w'.ownsRow base t size v n xs := by
  refine ⟨h.1, ?_⟩
  rcases h.2 with hn | ⟨g, cap, cur, hv, hbg, hg, rest⟩
  · exact .inl hn
  · exact .inr ⟨g, cap, cur, hv, hbg, (hb.block g (Array.getElem?_eq_some_iff.1 hg).1).trans hg, rest⟩

theorem grown_far {w W w1 : World} {v : Value} {b : Nat} (hg : W.grownBy w1 v.ownBlock) (hb : Below w.heap.size w W) (hlt : b < w.heap.size) (hne : v.ownBlock ≠ some b) (o : Nat) :
    w1.cell? ⟨b, o, Option.none⟩ = w.cell? ⟨b, o, Option.none⟩ ∧ w1.frozen? ⟨b, o, Option.none⟩ = w.frozen? ⟨b, o, Option.none⟩ := by
  have hw := hb.size
  have hbl := (hg.block b (Nat.lt_of_lt_of_le hlt hw) (fun e => hne e.symm)).trans (hb.block b hlt)
  constructor
  · exact World.cell?_of_block (a := ⟨b, o, Option.none⟩) hbl
  · simp only [World.frozen?, hbl]

/-- behind a call on the list's slice, and the store of what came out -/
theorem put_done {w W w1 W2 : World} {b : Nat} {v : Value} {es es' : List En} {l' : List Ab} {e e0 : Ending} {n : Nat} (hs : Raw w b v es) (hl' : es'.map En.ab = l') (hlen : es'.length ≤ 1000000) (hW : Below w.heap.size w W) (g cap : Nat)
    (hown : w1.ownsRow 0 37 4 (.slice (some ⟨g, 0, Option.none⟩) n cap) n (flatE es')) (hn : n = es'.length)
    (hgr : W.grownBy w1 v.ownBlock) (hat : v.ownBlock = some g ∨ W.heap.size ≤ g) (he : e = e0)
    (hx : ∀ x ∈ es', x ∈ es ∨ (AtsAt W (.slice x.a x.ats.length x.c) x.ats ∧ (∀ q o, x.a = some ⟨q, o, Option.none⟩ → w.heap.size ≤ q ∧ q < W.heap.size) ∧ x.ats.length * 48 ≤ 140737488355328))
    (hk : Keeps (fun k => w1.heap.size ≤ k) (w1.setCell ⟨b, 0, Option.none⟩ (.slice (some ⟨g, 0, Option.none⟩) n cap)) W2) :
    MPost b v es w e0 l' e W2 := by
  subst hn
  obtain ⟨T, hT⟩ := hs.box
  have hblt := hs.lt b (.inl rfl)
  have hb1 : w1.heap[b]? = some (.cells #[v] T (0, 0)) := ((hgr.block b (Nat.lt_of_lt_of_le hblt hW.size) (fun e => hs.ne e.symm)).trans (hW.block b hblt)).trans hT
  have hwz := hW.size
  have hgb : g ≠ b := by
    rintro rfl
    rcases hat with h | h
    · exact hs.ne h
    · omega
  have hglt : g < w1.heap.size := (hown.lt g rfl).2
  -- the attributes, in W: what they lie in is no block of the list's
  have hy : ∀ x ∈ es', AtsAt W (.slice x.a x.ats.length x.c) x.ats ∧ (0 < x.ats.length → ∀ q o, x.a = some ⟨q, o, Option.none⟩ → ¬ fp b v q ∧ q < W.heap.size) ∧ x.ats.length * 48 ≤ 140737488355328 := by
    intro x hxm
    rcases hx x hxm with h | ⟨h1, h2, h3⟩
    · refine ⟨(hs.ats x h).below (Nat.le_refl _) hW, fun hn q o e => ⟨hs.off x h hn q o e, ?_⟩, hs.sm x h⟩
      have := (hs.ats x h).blk hn q o x.ats.length x.c (by rw [e])
      omega
    · refine ⟨h1, fun hn q o e => ⟨fun hf => ?_, (h2 q o e).2⟩, h3⟩
      have := hs.lt q hf
      have := (h2 q o e).1
      omega
  have hk01 : Keeps (fp b v) W (w1.setCell ⟨b, 0, Option.none⟩ (.slice (some ⟨g, 0, Option.none⟩) es'.length cap)) := by
    refine Keeps.setCell ?_ (.inl (.inl rfl)) _
    exact (Keeps.refl _ _).grown hgr (fun k hk => .inl (.inr hk))
  have hst : Raw (w1.setCell ⟨b, 0, Option.none⟩ (.slice (some ⟨g, 0, Option.none⟩) es'.length cap)) b (.slice (some ⟨g, 0, Option.none⟩) es'.length cap) es' := by
    refine ⟨⟨T, ?_⟩, ?_, ?_, hlen, ?_, ?_, fun x hxm => (hy x hxm).2.2⟩
    · simp only [World.setCell, Array.getElem?_modify, if_true, hb1, Option.map_some]
      rfl
    · refine own_keeps hown (Keeps.setCell (S := fun k => k = b) (Keeps.refl _ _) (p := ⟨b, 0, Option.none⟩) (.inl rfl) _) ?_
      intro k hk hkb
      simp [Value.ownBlock] at hk
      omega
    · simp [Value.ownBlock, hgb]
    · intro x hxm
      obtain ⟨h1, h2, _⟩ := hy x hxm
      exact h1.keeps hk01 (fun hn q o n c e => by injection e with e1; exact (h2 hn q o e1).1)
    · rintro x hxm hn q o e (rfl | hf)
      · exact ((hy x hxm).2.1 hn _ o e).1 (.inl rfl)
      · have e1 : g = q := by simpa [Value.ownBlock] using hf
        subst e1
        obtain ⟨h1, h2⟩ := (hy x hxm).2.1 hn _ o e
        rcases hat with h | h
        · exact h1 (.inr h)
        · omega
  have hk0 : Keeps (fp b v) w (w1.setCell ⟨b, 0, Option.none⟩ (.slice (some ⟨g, 0, Option.none⟩) es'.length cap)) := (Keeps.of_below hW).trans hk01
  refine ⟨he, _, es', hl', hst.keeps hk ?_ ?_, hk0.trans' hk (fun k h => .inr ?_), ?_, ?_⟩
  · intro k hk' hge
    have := hst.lt k hk'
    simp [World.setCell] at this
    omega
  · intro x hxm hn q o e hge
    have h1 := ((hy x hxm).2.1 hn q o e).2
    have h2 := hgr.size
    omega
  · exact Nat.le_trans (Nat.le_trans hW.size hgr.size) h
  · rintro k (rfl | hk')
    · exact .inl (.inl rfl)
    · simp [Value.ownBlock] at hk'
      subst hk'
      rcases hat with h | h
      · exact .inl (.inr h)
      · exact .inr (Nat.le_trans hW.size h)
  · intro x hx0
    rcases hx x hx0 with h | ⟨_, h2, _⟩
    · exact .inl h
    · exact .inr fun q o e => (h2 q o e).1

theorem MPost.then {b : Nat} {v : Value} {es es1 : List En} {w w1 w2 : World} {e2 e3 : Ending} {l2 : List Ab} {v1 : Value} (hk1 : Keeps (fp b v) w w1) (hf1 : ∀ k, fp b v1 k → fp b v k ∨ w.heap.size ≤ k) (hx1 : ∀ x ∈ es1, x ∈ es ∨ ∀ q o, x.a = some ⟨q, o, Option.none⟩ → w.heap.size ≤ q) (h : MPost b v1 es1 w1 e2 l2 e3 w2) : MPost b v es w e2 l2 e3 w2 := by
  obtain ⟨rfl, v2, es2, h1, h2, h3, h4, h5⟩ := h
  refine ⟨rfl, v2, es2, h1, h2, hk1.trans' h3 hf1, fun k hk => ?_, fun x hx => ?_⟩
  · rcases h4 k hk with h | h
    · exact hf1 k h
    · exact .inr (Nat.le_trans hk1.size h)
  · rcases h5 x hx with h | h
    · exact hx1 x h
    · exact .inr fun q o e => Nat.le_trans hk1.size (h q o e)
end Go.Proofs.Ytmhofhblgcjihaa
