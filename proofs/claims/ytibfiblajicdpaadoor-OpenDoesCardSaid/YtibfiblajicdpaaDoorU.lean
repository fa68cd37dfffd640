/- What Index does: the greatest place of an element of a number. -/
import Derived.Test.YtibfiblajicdpaaDoorM
namespace Go.Proofs.YtibfiblajicdpaaDoor
open Go Go.RowKit Go.Shelf

attribute [local go_sem] Oper.semAt_some

/-- the greatest place; -1: nowhere -/
def idxB (l : List El) (id : Int) : Int := match l.reverse.findIdx? (fun x => x.id == id) with
  | some k => (l.length : Int) - 1 - k
  | Option.none => -1

theorem idxB_nil (id : Int) : idxB [] id = -1 := rfl
theorem idxB_snoc (l : List El) (x : El) (id : Int) : idxB (l ++ [x]) id = if (x.id == id) = true then (l.length : Int) else idxB l id := by
  unfold idxB
  rw [List.reverse_append]
  simp only [List.reverse_cons, List.reverse_nil, List.nil_append, List.cons_append, List.findIdx?_cons, List.length_append, List.length_cons, List.length_nil]
  cases h : (x.id == id)
  · simp only [Bool.false_eq_true, if_false]
    cases l.reverse.findIdx? (fun x => x.id == id) with
    | none => rfl
    | some k => simp; omega
  · simp

theorem idxB_lt (l : List El) (id : Int) : -1 ≤ idxB l id ∧ idxB l id < l.length ∧ (idxB l id < 0 → idxB l id = -1) := by
  unfold idxB
  cases h : l.reverse.findIdx? (fun x => x.id == id) with
  | none => simp; omega
  | some k =>
    obtain ⟨h1, _⟩ := List.findIdx?_eq_some_iff_getElem.1 h
    simp at h1
    simp only
    omega

theorem idx_none {l : List El} {id : Int} (h : ∀ p ∈ upto l l.length, (p.2.id == id) = false) : idxB l id = -1 := by
  have hu := upto_rev l l.length (Nat.le_refl _)
  rw [List.take_of_length_le (by simp)] at hu
  have : l.reverse.findIdx? (fun x => x.id == id) = Option.none := by
    rw [List.findIdx?_eq_none_iff]
    intro x hx
    rw [← hu] at hx
    obtain ⟨p, hp, rfl⟩ := List.mem_map.1 hx
    exact h p hp
  rw [idxB, this]

theorem idx_some {l : List El} {id : Int} {k : Nat} {ini : List (Nat × El)} {last : Nat × El} (hk : k ≤ l.length) (e1 : upto l k = ini ++ [last]) (e2 : ∀ p ∈ ini, (p.2.id == id) = false) (e3 : (last.2.id == id) = true) : idxB l id = last.1 := by
  cases k with
  | zero => simp [upto] at e1
  | succ k =>
    have hu := upto_rev l k (by omega)
    rw [upto_succ] at e1
    obtain ⟨rfl, h2⟩ := List.append_inj' e1 rfl
    simp only [List.cons.injEq, and_true] at h2
    subst h2
    have hrk : (revF l k).2 = l.reverse[k]'(by simp; omega) := by
      simp only [revF, List.getElem_reverse]
      rw [List.getElem?_eq_getElem (by omega)]; rfl
    have : l.reverse.findIdx? (fun x => x.id == id) = some k := by
      rw [List.findIdx?_eq_some_iff_getElem]
      refine ⟨by simp; omega, by rw [← hrk]; exact e3, fun j hj => ?_⟩
      have hm : l.reverse[j]'(by simp; omega) ∈ l.reverse.take k := by
        rw [List.mem_take_iff_getElem]
        exact ⟨j, by simp; omega, rfl⟩
      rw [← hu] at hm
      obtain ⟨p, hp, hpe⟩ := List.mem_map.1 hm
      have := e2 p hp
      rw [hpe] at this
      intro hh
      have h3 : ((l.reverse[j]'(by simp; omega)).id == id) = true := hh
      rw [this] at h3
      cases h3
    rw [idxB, this]
    simp only [revF]
    omega

set_option maxRecDepth 100000 in
set_option maxHeartbeats 4000000 in
theorem index_any (b : Nat) (v : Value) (l : List El) (id : Int) (w : World) (hs : Stk w b v l) :
    Calls Tryd.prog 35 #[.pointer (some ⟨b, 0, Option.none⟩), .int .i64 id] w fun e w' => e = .returned (.int .i64 (idxB l id)) ∧ Below w.heap.size w w' := by
  refine (callsIn_wide (n := 4)).1 ?_
  refine callsIn_of_wp_marks Tryd.func35 rfl trivial ?_ rfl
  simp only [Tryd.ntmps35, List.size_toArray, List.length_cons, List.length_nil, Nat.reduceAdd, Nat.reduceSub, Array.replicate_succ, Array.replicate_zero, List.push_toArray, List.append_toArray, List.nil_append, List.cons_append]
  have hc := hs.cell
  have hblt := hs.lt b (.inl rfl)
  obtain ⟨va, vn, vc, rfl⟩ : ∃ a n c, v = .slice a n c := by
    rcases hs.form with ⟨rfl, _⟩ | ⟨g', cap, rfl, _⟩
    · exact ⟨_, _, _, rfl⟩
    · exact ⟨_, _, _, rfl⟩
  have hw1 : Below w.heap.size w ((w.alloc (.cells #[.int .i64 id] 3)).alloc (.cells #[.int .i64 0] 3)) := ((Below.refl _ _).alloc (Nat.le_refl _) _).alloc (by simp) _
  gi_wp2_with fail
  refine ⟨trivial, (backward_in Fence.wide _ trivial rfl _ _ _ _).mono ?_⟩
  rintro e w' ⟨rfl, rfl⟩
  gi_wp2_with fail
  have hL1 : Below w.heap.size w (((w.alloc (.cells #[.int .i64 id] 3)).alloc (.cells #[.int .i64 0] 3)).alloc (.cells #[.slice va vn vc] 22)) := hw1.alloc (by simp; omega) _
  have hLs : (((w.alloc (.cells #[.int .i64 id] 3)).alloc (.cells #[.int .i64 0] 3)).alloc (.cells #[.slice va vn vc] 22)).heap.size = w.heap.size + 3 := by simp
  have m0 : (((w.alloc (.cells #[.int .i64 id] 3)).alloc (.cells #[.int .i64 0] 3)).alloc (.cells #[.slice va vn vc] 22)).cell? ⟨w.heap.size, 0, Option.none⟩ = some (.int .i64 id) := by simp [go_sem]
  have m1 : (((w.alloc (.cells #[.int .i64 id] 3)).alloc (.cells #[.int .i64 0] 3)).alloc (.cells #[.slice va vn vc] 22)).cell? ⟨w.heap.size + 1, 0, Option.none⟩ = some (.int .i64 0) := by simp [go_sem]
  have m2 : (((w.alloc (.cells #[.int .i64 id] 3)).alloc (.cells #[.int .i64 0] 3)).alloc (.cells #[.slice va vn vc] 22)).frozen? ⟨w.heap.size + 1, 0, Option.none⟩ = false := by simp [go_sem]
  have m4 : (((w.alloc (.cells #[.int .i64 id] 3)).alloc (.cells #[.int .i64 0] 3)).alloc (.cells #[.slice va vn vc] 22)).cell? ⟨w.heap.size + 2, 0, Option.none⟩ = some (.slice va vn vc) := by simp [go_sem]
  have hsL := hs.below hL1
  generalize hgen : ((w.alloc (.cells #[.int .i64 id] 3)).alloc (.cells #[.int .i64 0] 3)).alloc (.cells #[.slice va vn vc] 22) = wL at *
  clear hgen
  refine wpIn_rangeFunc_ownH (α := Nat × El) rfl (by omega) (gf := 69) (lb := #[.pointer (some ⟨w.heap.size + 2, 0, Option.none⟩)]) rfl trivial (enters_of Tryd.func69 (by kernel_rfl) rfl)
    (backward_stops Fence.wide _ trivial rfl (by omega) (w.heap.size + 2) wL.heap.size b _ l wL (by omega) (Nat.le_refl _) m4 hsL hsL.lt) belowK_t (belowK_b (Nat.le_refl _)) (Below.refl _ _) (fun _ => rfl)
    (fun pre W => (∀ p ∈ pre, (p.2.id == id) = false) ∧ Below wL.heap.size wL W)
    (fun c pre W => (c = .ret ∧ ∃ ini last, pre = ini ++ [last] ∧ (∀ p ∈ ini, (p.2.id == id) = false) ∧ (last.2.id == id) = true ∧ W.cell? ⟨w.heap.size + 1, 0, Option.none⟩ = some (.int .i64 (last.1 : Int))) ∧ Below w.heap.size w W)
    (OwnFrom.and (ownFrom_pure _ _) (ownFrom_below (Nat.le_refl _) (Nat.le_refl _)))
    (fun c => OwnFrom.and (Own.from (fun s A B row hs hg hr => by obtain ⟨hc, ini, last, e1, e2, e3, e4⟩ := hs; exact ⟨hc, ini, last, e1, e2, e3, cell_kept e4 hg hr⟩) _) (ownFrom_below (Nat.le_refl _) hL1.size))
    ⟨by simp, Below.refl _ _⟩
    (fun x a' W => ∃ Bx, wL.heap.size ≤ Bx ∧ W.heap[Bx]? = some (.cells #[.int .i64 x.2.id, .string x.2.sp, .string x.2.nm] 30 (0, 0)) ∧ a' = { tmps := #[.pointer (some ⟨b, 0, Option.none⟩), .int .i64 id, undef, .pointer (some ⟨w.heap.size, 0, Option.none⟩), .pointer (some ⟨w.heap.size + 1, 0, Option.none⟩), .int .i64 (x.1 : Int), .pointer (some ⟨Bx, 0, Option.none⟩), .pointer (some ⟨b, 0, Option.none⟩), .pointer (some ⟨b, 0, Option.none⟩), .pointer (some ⟨b, 0, Option.none⟩), .slice va vn vc, .func (.func 69) #[] #[.pointer (some ⟨w.heap.size + 2, 0, Option.none⟩)], .int .i64 (x.1 : Int), .agg #[.int .i64 x.2.id, .string x.2.sp, .string x.2.nm], undef, undef, undef, undef, undef], defers := [] })
    (fun x a' s A B row hs hg hr => by
      obtain ⟨Bx, h1, h2, h3⟩ := hs
      refine ⟨Bx, h1, ?_, h3⟩
      rw [hg.block Bx (Array.getElem?_eq_some_iff.1 h2).1 (fun e => by obtain ⟨_, o, ho, hcl⟩ := hr Bx e.symm; rw [h2] at ho; cases ho; cases hcl)]; exact h2)
    ?assign ?body ?done ?stop
  case assign =>
    rintro l' pre x W K ⟨hp, hB⟩ hK
    dsimp only [encB]
    gi_wp2
    exact hK _ _ ((KeepsOthers.alloc _ _).from _) ((Below.refl _ W).alloc hB.size _) ⟨hp, hB.alloc hB.size _⟩ ⟨W.heap.size, hB.size, heap_alloc_new W _, rfl⟩
  case body =>
    rintro l' pre x a' W hl' ⟨r, hr⟩ ⟨hp, hB⟩ ⟨Bx, hBx1, hBx, rfl⟩ hlt
    have hBxl : Bx < W.heap.size := (Array.getElem?_eq_some_iff.1 hBx).1
    have q0 : W.cell? ⟨Bx, 0, Option.none⟩ = some (.int .i64 x.2.id) := by rw [cell_of_row W Bx 0 _ _ _ hBx]; rfl
    have r0 := (hB.cell (p := ⟨w.heap.size, 0, Option.none⟩) (by show w.heap.size < _; omega)).trans m0
    have r1 := (hB.cell (p := ⟨w.heap.size + 1, 0, Option.none⟩) (by show w.heap.size + 1 < _; omega)).trans m1
    have r2 := (hB.frozen (p := ⟨w.heap.size + 1, 0, Option.none⟩) (by show w.heap.size + 1 < _; omega)).trans m2
    have hBw : Below w.heap.size w W := hL1.trans (hB.mono (by omega))
    have HH := Lib.hid hr
    clear hr hBx m0 m1 m2 m4
    cases hP : (x.2.id == id)
    · gi_wp2
      refine ⟨(KeepsOthers.refl _).from _, Below.refl _ _, ?_, hB⟩
      intro p hp'
      rcases List.mem_append.1 hp' with h | h
      · exact hp p h
      · simp at h; subst h; exact hP
    · gi_wp2
      refine ⟨(KeepsOthers.setCell _ _ _).from _, ⟨rfl, pre, x, rfl, hp, hP, ?_⟩, ?_⟩
      · exact World.cell?_setCell_same' _ _ _ (by rw [r1]; rfl)
      · exact hBw.setCell (p := ⟨w.heap.size + 1, 0, Option.none⟩) (Nat.le_succ _) _
  case done =>
    rintro D ys W hD rfl ⟨hp, hB⟩ hK
    have r1 := (hB.cell (p := ⟨w.heap.size + 1, 0, Option.none⟩) (by show w.heap.size + 1 < _; omega)).trans m1
    have r2 := (hB.frozen (p := ⟨w.heap.size + 1, 0, Option.none⟩) (by show w.heap.size + 1 < _; omega)).trans m2
    have hBw : Below w.heap.size w W := hL1.trans (hB.mono (by omega))
    have HK := Lib.hid hK
    clear hK m0 m1 m2 m4
    gi_wp2
    have hK' := (KeepsOthers.setCell W ⟨w.heap.size + 1, 0, Option.none⟩ (.int .i64 (-1))).same D _ HK.out rfl
    refine ⟨by simp, .inl ⟨_, _, rfl, run_takeDeferred hK', ?_⟩⟩
    have hc5 := cell_kept (World.cell?_setCell_same' W ⟨w.heap.size + 1, 0, Option.none⟩ (.int .i64 (-1)) (by rw [r1]; rfl)) (grownBy_putObj' _ D (.deferred Option.none)) (fun r e => by cases e; exact ⟨_, hK', rfl⟩)
    refine ⟨.int .i64 (-1), ?_, ret_int (idx_none hp).symm, (hBw.setCell (p := ⟨w.heap.size + 1, 0, Option.none⟩) (Nat.le_succ _) _).trans (belowK_b (w := w) (Nat.le_refl _) _ D _ _ (by have := hL1.size; omega) hK' rfl rfl)⟩
    simp [results, Tryd.f35, go_sem, hc5]
  case stop =>
    rintro D c pre W hD ⟨k, hk, rfl⟩ ⟨⟨rfl, ini, last, e1, e2, e3, hcr⟩, hB⟩ hK
    gi_wp2
    refine ⟨by simp, .inl ⟨_, _, rfl, run_takeDeferred hK, ?_⟩⟩
    have hc5 := cell_kept hcr (grownBy_putObj' _ D (.deferred Option.none)) (fun r e => by cases e; exact ⟨_, hK, rfl⟩)
    refine ⟨.int .i64 (last.1 : Int), ?_, ret_int (idx_some hk e1 e2 e3).symm, hB.trans (belowK_b (w := w) (Nat.le_refl _) W D _ _ (by have := hL1.size; omega) hK rfl rfl)⟩
    simp [results, Tryd.f35, go_sem, hc5]
end Go.Proofs.YtibfiblajicdpaaDoor
