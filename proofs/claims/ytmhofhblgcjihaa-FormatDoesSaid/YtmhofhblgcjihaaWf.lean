/- What Replace does, the program's and the reference's. -/
import Derived.Test.YtmhofhblgcjihaaWc
namespace Go.Proofs.Ytmhofhblgcjihaa
open Go Go.RowKit Go.Shelf

/-- what a method leaves; each entry's attributes are an elder one's, or fresh -/
def MPostW (b : Nat) (v : Value) (es : List En) (w : World) (e0 : Ending) (l' : List Ab) (e : Ending) (w' : World) : Prop :=
  e = e0 ∧ ∃ v' es', es'.map En.ab = l' ∧ Raw w' b v' es' ∧ Keeps (fp b v) w w' ∧ (∀ k, fp b v' k → fp b v k ∨ w.heap.size ≤ k) ∧ ∀ x ∈ es', (∃ y ∈ es, x.a = y.a ∧ x.ats = y.ats) ∨ ∀ q o, x.a = some ⟨q, o, Option.none⟩ → w.heap.size ≤ q

theorem MPost.weak {b : Nat} {v : Value} {es : List En} {w w' : World} {e0 e : Ending} {l' : List Ab} (h : MPost b v es w e0 l' e w') : MPostW b v es w e0 l' e w' := by
  obtain ⟨he, v', es', h1, h2, h3, h4, h5⟩ := h
  exact ⟨he, v', es', h1, h2, h3, h4, fun x hx => (h5 x hx).imp (fun h => ⟨x, h, rfl, rfl⟩) id⟩

/-- an entry with another element -/
def En.with (e : El) (x : En) : En := ⟨e, x.a, x.c, x.ats⟩

theorem flatE_with (es : List En) (i : Nat) (e : El) (hi : i < es.length) :
    flatE (es.modify i (En.with e)) = (flatE es).take (i * 4) ++ [.int .i64 e.id, .string e.sp, .string e.nm] ++ (flatE es).drop (i * 4 + 3) := by
  have h1 : es = es.take i ++ es[i] :: es.drop (i + 1) := by
    rw [← List.drop_eq_getElem_cons hi, List.take_append_drop]
  have h2 : es.modify i (En.with e) = es.take i ++ En.with e es[i] :: es.drop (i + 1) := by
    rw [List.modify_eq_take_cons_drop hi]
  have hl : (flatE (es.take i)).length = i * 4 := by rw [flatE_length, List.length_take]; congr 1; omega
  have h3 : flatE es = flatE (es.take i) ++ (es[i].cells ++ flatE (es.drop (i + 1))) := by
    conv => lhs; rw [h1]
    rw [flatE_append, flatE_cons]
  rw [h2, flatE_append, flatE_cons, h3]
  generalize flatE (es.take i) = A at *
  generalize flatE (es.drop (i + 1)) = B at *
  rw [← hl, List.take_left, List.drop_append, (List.drop_eq_nil_of_le (by omega) : A.drop (A.length + 3) = []), List.nil_append, show A.length + 3 - A.length = 3 from by omega]
  simp [En.cells, En.with]

theorem repl_done {w W : World} {b g cap : Nat} {es : List En} {i : Nat} {e : El} {e0 : Ending} (hs : Raw w b (.slice (some ⟨g, 0, Option.none⟩) es.length cap) es) (hW : Below w.heap.size w W) (hi : i < es.length) :
    MPostW b (.slice (some ⟨g, 0, Option.none⟩) es.length cap) es w e0 ((es.map En.ab).modify i fun x => ⟨e, x.ats⟩) e0 (W.setCells g (i * 4) [.int .i64 e.id, .string e.sp, .string e.nm]) := by
  have hl := hs.len
  obtain ⟨T, hT⟩ := hs.box
  have hblt := hs.lt b (.inl rfl)
  have hglt := hs.lt g (.inr rfl)
  have hgb : g ≠ b := by
    rintro rfl
    exact hs.ne rfl
  have hgr := grown_setCells g [.int .i64 e.id, .string e.sp, .string e.nm] (i * 4) W
  have hkg : Keeps (fun k => k = g) W (W.setCells g (i * 4) [.int .i64 e.id, .string e.sp, .string e.nm]) := (Keeps.refl _ _).grown hgr (fun k hk => by cases hk; exact .inl rfl)
  have hmem : ∀ x ∈ es.modify i (En.with e), ∃ y ∈ es, x.a = y.a ∧ x.c = y.c ∧ x.ats = y.ats := by
    intro x hx
    obtain ⟨j, hj, rfl⟩ := List.mem_iff_getElem.1 hx
    have hj2 : j < es.length := by simpa using hj
    refine ⟨es[j], List.getElem_mem hj2, ?_⟩
    rw [List.getElem_modify]
    split <;> exact ⟨rfl, rfl, rfl⟩
  have hmap : (es.modify i (En.with e)).map En.ab = (es.map En.ab).modify i fun x => ⟨e, x.ats⟩ := by
    apply List.ext_getElem
    · simp
    · intro j h1 h2
      rw [List.getElem_map, List.getElem_modify, List.getElem_modify, List.getElem_map]
      split <;> rfl
  refine ⟨rfl, .slice (some ⟨g, 0, Option.none⟩) es.length cap, es.modify i (En.with e), hmap, ⟨⟨T, ?_⟩, ⟨by rw [flatE_length, List.length_modify], ?_⟩, hs.ne, by simpa using hl, ?_, ?_, ?_⟩, ?_, fun k hk => .inl hk, fun x hx => .inl ?_⟩
  · rw [heap_setCells_other g b _ _ _ (Ne.symm hgb), hW.block b hblt]; exact hT
  · rcases hs.own.2 with ⟨h, _⟩ | ⟨g', cap', cur, hv, _, hg', h1, h2, h3, h4⟩
    · cases h
    · cases hv
      have hg1 : W.heap[g]? = some (.cells cur 37 (0, 0)) := (hW.block g hglt).trans hg'
      have hg2 := heap_setCells g 37 (0, 0) [.int .i64 e.id, .string e.sp, .string e.nm] (i * 4) W cur hg1 (by simp; omega)
      have hcl : cur.toList.length = cap * 4 := by simpa using h3
      refine .inr ⟨g, cap, _, by simp, Nat.zero_le _, hg2, by simpa using h1, h2, by simp; omega, ?_⟩
      rw [flatE_with es i e hi, List.length_modify, ← h4]
      simp only [List.length_cons, List.length_nil]
      rw [List.take_append, List.take_append]
      simp only [List.take_take, List.length_append, List.length_take, List.length_cons, List.length_nil, hcl, List.drop_take]
      have e1 : min (es.length * 4) (i * 4) = i * 4 := by omega
      have e2 : min (i * 4) (cap * 4) = i * 4 := by omega
      have e3 : min (i * 4) (es.length * 4) = i * 4 := by omega
      rw [e1, e2, e3]
      rw [List.take_of_length_le (l := [Value.int .i64 e.id, .string e.sp, .string e.nm]) (by simp; omega)]
  · intro x hx
    obtain ⟨y, hy, h1, h2, h3⟩ := hmem x hx
    rw [h1, h2, h3]
    exact ((hs.ats y hy).below (Nat.le_refl _) hW).keeps hkg (fun hn q o n c e hq => by injection e with e1; exact hs.off y hy hn q o e1 (.inr (by rw [hq]; rfl)))
  · intro x hx hn q o e
    obtain ⟨y, hy, h1, h2, h3⟩ := hmem x hx
    exact hs.off y hy (by rw [← h3]; exact hn) q o (by rw [← h1]; exact e)
  · intro x hx
    obtain ⟨y, hy, h1, h2, h3⟩ := hmem x hx
    rw [h3]; exact hs.sm y hy
  · exact (Keeps.of_below hW).grown hgr (fun k hk => by cases hk; exact .inl (.inr rfl))
  · obtain ⟨y, hy, h1, h2, h3⟩ := hmem x hx
    exact ⟨y, hy, h1, h3⟩

set_option maxRecDepth 100000 in
set_option maxHeartbeats 2000000 in
theorem replace_any (b : Nat) (v : Value) (es : List En) (id : Int) (e : El) (w : World) (hs : Raw w b v es) :
    Calls Try.prog 36 #[.pointer (some ⟨b, 0, Option.none⟩), .int .i64 id, .agg #[.int .i64 e.id, .string e.sp, .string e.nm]] w (MPostW b v es w (.returned (.int .i64 (remC (es.map En.ab) id))) (repL (es.map En.ab) id e)) := by
  have hal : Below w.heap.size w (w.alloc (.cells #[.int .i64 e.id, .string e.sp, .string e.nm] 29)) := (Below.refl _ _).alloc (Nat.le_refl _) _
  have hix := index_any b v es id (w.alloc (.cells #[.int .i64 e.id, .string e.sp, .string e.nm] 29)) (hs.below hal)
  have HS := Lib.hid hs
  unfold remC repL
  rcases idxB_lt (es.map En.ab) id with h | ⟨i, h, hi⟩
  · rw [h] at hix
    rw [h]
    have HIX := Lib.hid hix
    have HAL := Lib.hid hal
    clear hix hs h hal
    go_enter Try.func36, Try.ntmps36
    go_wp2_with fail
    refine HIX.out.mono ?_
    rintro e w2 ⟨rfl, hb2⟩
    have HB2 := Lib.hid (HAL.out.trans (hb2.mono HAL.out.size))
    clear hb2
    go_wp2_with fail
    go_ret
    exact (MPost.same HS.out HB2.out).weak
  · rw [h] at hix
    rw [h, if_neg (by omega), if_neg (by omega), Int.toNat_natCast]
    rw [List.length_map] at hi
    have HIX := Lib.hid hix
    have hblt := hs.lt b (.inl rfl)
    have hc := hs.cell
    have hlen := hs.len
    have b0 : (w.alloc (.cells #[.int .i64 e.id, .string e.sp, .string e.nm] 29)).cell? ⟨w.heap.size, 0, Option.none⟩ = some (.int .i64 e.id) := by simp [go_sem]
    have b1 : (w.alloc (.cells #[.int .i64 e.id, .string e.sp, .string e.nm] 29)).cell? ⟨w.heap.size, 1, Option.none⟩ = some (.string e.sp) := by simp [go_sem]
    have b2 : (w.alloc (.cells #[.int .i64 e.id, .string e.sp, .string e.nm] 29)).cell? ⟨w.heap.size, 2, Option.none⟩ = some (.string e.nm) := by simp [go_sem]
    have hwz : w.heap.size < (w.alloc (.cells #[.int .i64 e.id, .string e.sp, .string e.nm] 29)).heap.size := by simp
    rcases hs.form with ⟨rfl, rfl⟩ | ⟨g, cap, rfl, hg, hgb, h1, h2, hcs, hfz⟩
    · simp at hi
    have HCS := Lib.hid hcs
    have HFZ := Lib.hid hfz
    have HAL := Lib.hid hal
    clear hix hs h hcs hfz hal
    go_enter Try.func36, Try.ntmps36
    go_wp2_with fail
    generalize w.alloc (.cells #[.int .i64 e.id, .string e.sp, .string e.nm] 29) = wA at *
    refine HIX.out.mono ?_
    rintro e9 w2 ⟨rfl, hb2⟩
    have hB2 := HAL.out.trans (hb2.mono HAL.out.size)
    have d0 := (hb2.cell (p := ⟨w.heap.size, 0, Option.none⟩) hwz).trans b0
    have d1 := (hb2.cell (p := ⟨w.heap.size, 1, Option.none⟩) hwz).trans b1
    have d2 := (hb2.cell (p := ⟨w.heap.size, 2, Option.none⟩) hwz).trans b2
    have hc2 := (hB2.cell (p := ⟨b, 0, Option.none⟩) hblt).trans hc
    have hxi : es[i]? = some es[i] := by simp [hi]
    have c0 := (hB2.cell (p := ⟨g, i * 4, Option.none⟩) hg).trans (HCS.out i _ hxi 0 _ rfl)
    have c1 := (hB2.cell (p := ⟨g, i * 4 + 1, Option.none⟩) hg).trans (HCS.out i _ hxi 1 _ rfl)
    have c2 := (hB2.cell (p := ⟨g, i * 4 + 2, Option.none⟩) hg).trans (HCS.out i _ hxi 2 _ rfl)
    have f0 := (hB2.frozen (p := ⟨g, i * 4, Option.none⟩) hg).trans (HFZ.out _)
    have f1 := (hB2.frozen (p := ⟨g, i * 4 + 1, Option.none⟩) hg).trans (HFZ.out _)
    have f2 := (hB2.frozen (p := ⟨g, i * 4 + 2, Option.none⟩) hg).trans (HFZ.out _)
    have hd := repl_done (e0 := .returned (.int .i64 0)) (e := e) HS.out hB2.drew hi
    have HD := Lib.hid hd
    clear hxi hb2 hB2 b0 b1 b2 hd
    generalize es[i] = y at *
    go_wp2_with fail
    go_region
    all_goals
      go_wp2
      go_ret
      exact HD.out

set_option maxRecDepth 100000 in
set_option maxHeartbeats 2000000 in
theorem rreplace_any (b : Nat) (v : Value) (es : List En) (id : Int) (e : El) (w : World) (hs : Raw w b v es) :
    Calls Try.prog 37 #[.pointer (some ⟨b, 0, Option.none⟩), .int .i64 id, .agg #[.int .i64 e.id, .string e.sp, .string e.nm]] w (MPostW b v es w (.returned (.int .i64 (remC (es.map En.ab) id))) (repL (es.map En.ab) id e)) := by
  have hal : Below w.heap.size w (w.alloc (.cells #[.int .i64 e.id, .string e.sp, .string e.nm] 29)) := (Below.refl _ _).alloc (Nat.le_refl _) _
  have hix := rindex_any b v es id (w.alloc (.cells #[.int .i64 e.id, .string e.sp, .string e.nm] 29)) (hs.below hal)
  have HS := Lib.hid hs
  unfold remC repL
  rcases idxB_lt (es.map En.ab) id with h | ⟨i, h, hi⟩
  · rw [h] at hix
    rw [h]
    have HIX := Lib.hid hix
    have HAL := Lib.hid hal
    clear hix hs h hal
    go_enter Try.func37, Try.ntmps37
    go_wp2_with fail
    refine HIX.out.mono ?_
    rintro e w2 ⟨rfl, hb2⟩
    have HB2 := Lib.hid (HAL.out.trans (hb2.mono HAL.out.size))
    clear hb2
    go_wp2_with fail
    go_ret
    exact (MPost.same HS.out HB2.out).weak
  · rw [h] at hix
    rw [h, if_neg (by omega), if_neg (by omega), Int.toNat_natCast]
    rw [List.length_map] at hi
    have HIX := Lib.hid hix
    have hblt := hs.lt b (.inl rfl)
    have hc := hs.cell
    have hlen := hs.len
    have b0 : (w.alloc (.cells #[.int .i64 e.id, .string e.sp, .string e.nm] 29)).cell? ⟨w.heap.size, 0, Option.none⟩ = some (.int .i64 e.id) := by simp [go_sem]
    have b1 : (w.alloc (.cells #[.int .i64 e.id, .string e.sp, .string e.nm] 29)).cell? ⟨w.heap.size, 1, Option.none⟩ = some (.string e.sp) := by simp [go_sem]
    have b2 : (w.alloc (.cells #[.int .i64 e.id, .string e.sp, .string e.nm] 29)).cell? ⟨w.heap.size, 2, Option.none⟩ = some (.string e.nm) := by simp [go_sem]
    have hwz : w.heap.size < (w.alloc (.cells #[.int .i64 e.id, .string e.sp, .string e.nm] 29)).heap.size := by simp
    rcases hs.form with ⟨rfl, rfl⟩ | ⟨g, cap, rfl, hg, hgb, h1, h2, hcs, hfz⟩
    · simp at hi
    have HCS := Lib.hid hcs
    have HFZ := Lib.hid hfz
    have HAL := Lib.hid hal
    clear hix hs h hcs hfz hal
    go_enter Try.func37, Try.ntmps37
    go_wp2_with fail
    generalize w.alloc (.cells #[.int .i64 e.id, .string e.sp, .string e.nm] 29) = wA at *
    refine HIX.out.mono ?_
    rintro e9 w2 ⟨rfl, hb2⟩
    have hB2 := HAL.out.trans (hb2.mono HAL.out.size)
    have d0 := (hb2.cell (p := ⟨w.heap.size, 0, Option.none⟩) hwz).trans b0
    have d1 := (hb2.cell (p := ⟨w.heap.size, 1, Option.none⟩) hwz).trans b1
    have d2 := (hb2.cell (p := ⟨w.heap.size, 2, Option.none⟩) hwz).trans b2
    have hc2 := (hB2.cell (p := ⟨b, 0, Option.none⟩) hblt).trans hc
    have hxi : es[i]? = some es[i] := by simp [hi]
    have c0 := (hB2.cell (p := ⟨g, i * 4, Option.none⟩) hg).trans (HCS.out i _ hxi 0 _ rfl)
    have c1 := (hB2.cell (p := ⟨g, i * 4 + 1, Option.none⟩) hg).trans (HCS.out i _ hxi 1 _ rfl)
    have c2 := (hB2.cell (p := ⟨g, i * 4 + 2, Option.none⟩) hg).trans (HCS.out i _ hxi 2 _ rfl)
    have f0 := (hB2.frozen (p := ⟨g, i * 4, Option.none⟩) hg).trans (HFZ.out _)
    have f1 := (hB2.frozen (p := ⟨g, i * 4 + 1, Option.none⟩) hg).trans (HFZ.out _)
    have f2 := (hB2.frozen (p := ⟨g, i * 4 + 2, Option.none⟩) hg).trans (HFZ.out _)
    have hd := repl_done (e0 := .returned (.int .i64 0)) (e := e) HS.out hB2.drew hi
    have HD := Lib.hid hd
    clear hxi hb2 hB2 b0 b1 b2 hd
    generalize es[i] = y at *
    go_wp2_with fail
    go_region
    all_goals
      go_wp2
      go_ret
      exact HD.out
end Go.Proofs.Ytmhofhblgcjihaa
