/- slices.AppendSeq and slices.Collect over attributes. -/
import Derived.Test.YtmhofhblgcjihaaZf
namespace Go.Proofs.Ytmhofhblgcjihaa
open Go Go.RowKit Go.Shelf

attribute [local go_sem] Oper.semAt_some

theorem ownsRow_slice {w : World} {base : Nat} {e : TypeId} {size n : Nat} {v : Value} {xs : List Value} (h : w.ownsRow base e size v n xs) (hn : 0 < n) : ∃ g cap, v = .slice (some ⟨g, 0, Option.none⟩) n cap ∧ ∃ cur, w.heap[g]? = some (.cells cur e (0, 0)) := by
  rcases h.2 with ⟨_, h0⟩ | ⟨g, cap, cur, rfl, _, hg, _⟩
  · omega
  · exact ⟨g, cap, rfl, cur, hg⟩

set_option maxRecDepth 100000 in
set_option maxHeartbeats 4000000 in
theorem appendSeq_in (n : Nat) (hn : 3 ≤ n) (Bs : Nat) (v : Value) (zs : List At) (w : World) (hBs : Bs < w.heap.size) (hsm : zs.length * 48 ≤ 140737488355328)
    (hc : w.cell? ⟨Bs, 0, Option.none⟩ = some v) (hs : AtsAt w v zs) :
    CallsIn Fence.wide n Try.prog 64 #[.slice Option.none 0 0, .func (.func 59) #[] #[.pointer (some ⟨Bs, 0, Option.none⟩)]] w fun e w' =>
      ∃ v', e = .returned v' ∧ w'.ownsRow w.heap.size 34 3 v' zs.length (flatA zs) ∧ Below w.heap.size w w' := by
  refine callsIn_of_wp_marks Try.func64 rfl trivial ?_ rfl
  simp only [Try.ntmps64, List.size_toArray, List.length_cons, List.length_nil, Nat.reduceAdd, Nat.reduceSub, Array.replicate_succ, Array.replicate_zero, List.push_toArray, List.append_toArray, List.nil_append, List.cons_append]
  obtain ⟨i0, hi, hz0, hz1, hz2⟩ := info_parts infoAt
  have ht : Try.prog.underlying 35 = some (.slice 34) := Try.underlying35
  have hvb : 0 < zs.length → ∀ q o n c, v = .slice (some ⟨q, o, Option.none⟩) n c → q < w.heap.size := hs.blk
  gi_wp2_with fail
  have hL1 : Below w.heap.size w (w.alloc (.cells #[.slice Option.none 0 0] 35)) := (Below.refl _ _).alloc (Nat.le_refl _) _
  have hLs : (w.alloc (.cells #[.slice Option.none 0 0] 35)).heap.size = w.heap.size + 1 := by simp
  have hI0 : ApI w w.heap.size [] (w.alloc (.cells #[.slice Option.none 0 0] 35)) := ⟨⟨_, heap_alloc_new _ _, rfl, .inl ⟨rfl, rfl⟩⟩, hL1⟩
  have hcL := (hL1.cell (p := ⟨Bs, 0, Option.none⟩) hBs).trans hc
  have hsL := hs.below (Nat.le_refl _) hL1
  generalize w.alloc (.cells #[.slice Option.none 0 0] 35) = wL at *
  refine wpIn_rangeFunc_ownH (α := At) rfl (by omega) (gf := 59) (lb := #[.pointer (some ⟨Bs, 0, Option.none⟩)]) rfl trivial (enters_of Try.func59 (by kernel_rfl) rfl)
    (values_stops Fence.wide _ trivial rfl (by omega) Bs w.heap.size v zs wL hBs (by omega) (by omega) hcL hsL hvb) belowK_t (belowK_b (by omega)) (Below.refl _ _) (fun _ => rfl)
    (fun pre W => ApI w w.heap.size pre W ∧ wL.heap.size ≤ W.heap.size)
    (fun c pre W => False)
    (OwnFrom.and (apI_from _ _ _ (by omega)) (fun s W W' row h hg hr => Nat.le_trans h hg.size))
    (fun c s W W' row h hg hr => h)
    ⟨hI0, Nat.le_refl _⟩
    (fun x a' W => ∃ Bx, wL.heap.size ≤ Bx ∧ W.heap[Bx]? = some (.cells #[.string x.sp, .string x.nm, .string x.va] 34 (0, 0)) ∧ a' = { tmps := #[.slice Option.none 0 0, .func (.func 59) #[] #[.pointer (some ⟨Bs, 0, Option.none⟩)], .pointer (some ⟨w.heap.size, 0, Option.none⟩), undef, .slice Option.none 0 0, .pointer (some ⟨Bx, 0, Option.none⟩), .func (.func 59) #[] #[.pointer (some ⟨Bs, 0, Option.none⟩)], .agg #[.string x.sp, .string x.nm, .string x.va], undef, undef, undef, undef, undef], defers := [] })
    (fun x a' s A B row hs hg hr => by
      obtain ⟨Bx, h1, h2, h3⟩ := hs
      refine ⟨Bx, h1, ?_, h3⟩
      rw [hg.block Bx (Array.getElem?_eq_some_iff.1 h2).1 (fun e => by obtain ⟨_, o, ho, hcl⟩ := hr Bx e.symm; rw [h2] at ho; cases ho; cases hcl)]; exact h2)
    ?assign ?body ?done ?stop
  case assign =>
    rintro l' pre x W K hI hK
    dsimp only [encA]
    gi_wp2
    exact hK _ _ ((KeepsOthers.alloc _ _).from _) ((Below.refl _ W).alloc (by have := hI.2; omega) _) ⟨apI_from _ _ _ (Nat.le_refl _) _ _ _ Option.none hI.1 (World.grownBy_alloc _ _ _) (fun r e => by cases e), by have := hI.2; simp; omega⟩ ⟨W.heap.size, hI.2, heap_alloc_new W _, rfl⟩
  case body =>
    rintro l' pre x a' W hl' ⟨r, hr⟩ ⟨⟨⟨v0, hv0, hrow⟩, hB⟩, hsz⟩ ⟨Bx, hBx1, hBx, rfl⟩ hlt
    have q0 : W.cell? ⟨Bx, 0, Option.none⟩ = some (.string x.sp) := by rw [cell_of_row W Bx 0 _ _ _ hBx]; rfl
    have q1 : W.cell? ⟨Bx, 1, Option.none⟩ = some (.string x.nm) := by rw [cell_of_row W Bx 1 _ _ _ hBx]; rfl
    have q2 : W.cell? ⟨Bx, 2, Option.none⟩ = some (.string x.va) := by rw [cell_of_row W Bx 2 _ _ _ hBx]; rfl
    have r1 : W.cell? ⟨w.heap.size, 0, Option.none⟩ = some v0 := by rw [cell_of_row W _ 0 _ _ _ hv0]; rfl
    have hlow := hrow.lt
    have hnb : v0.ownBlock ≠ some w.heap.size := by
      intro e
      rcases hrow.2 with ⟨rfl, _⟩ | ⟨g, cap, cur, rfl, _, hgb, _⟩
      · cases e
      · have e1 : g = w.heap.size := by simpa [Value.ownBlock] using e
        rw [e1, hv0] at hgb
        injection hgb with hgb
        injection hgb with _ hgb
        cases hgb
    have hal : Below w.heap.size W (W.alloc (.cells #[.string x.sp, .string x.nm, .string x.va] 34)) := (Below.refl _ W).alloc (by omega) _
    have hv1 : (W.alloc (.cells #[.string x.sp, .string x.nm, .string x.va] 34)).heap[w.heap.size]? = some (.cells #[v0] 35 (0, 0)) := (Below.heap_alloc _ _ _ (by omega)).trans hv0
    have hrow1 := hrow.alloc (.cells #[.string x.sp, .string x.nm, .string x.va] 34)
    have hnews : ∀ j u, (flatA [x])[j]? = some u → (W.alloc (.cells #[.string x.sp, .string x.nm, .string x.va] 34)).cell? ((⟨W.heap.size, 0, Option.none⟩ : Addr).add j) = some u := by
      intro j u hu
      have hadd : (⟨W.heap.size, 0, Option.none⟩ : Addr).add j = ⟨W.heap.size, 0 + j, Option.none⟩ := by unfold Addr.add; split <;> simp_all
      rw [hadd, cell_of_row _ _ _ _ _ _ (heap_alloc_new W _), Nat.zero_add]
      simpa [flatA, At.cells] using hu
    have HN := Lib.hid hnews
    have HB := Lib.hid hB
    have HS := Lib.hid hsz
    have HLO := Lib.hid hlow
    clear hr hBx hnews hB hv0 hrow hcL hsL hI0 hL1
    gi_wp2_with (first
      | (gi_at_builtin; refine wpListIn_append_own _ rfl _ _ 35 rfl w.heap.size 34 i0 _ 3 48 ht hi hz0 hz1 hz2 rfl (by decide) _ _ _ rfl hrow1 ⟨W.heap.size, 0, Option.none⟩ 1 1 (flatA [x]) rfl rfl HN.out (flatA_one' [x]) (by unfold maxLen; omega) (by omega) (by simp; have := HS.out; omega) ?_; intro v2 w3 hrow3 hg3 _
         obtain ⟨g', cap', rfl, hgb'⟩ := ownsRow_slice hrow3 (Nat.succ_pos _)
         have hv3 : w3.heap[w.heap.size]? = some (.cells #[v0] 35 (0, 0)) := (hg3.block _ (by simp; have := HS.out; omega) (fun e => hnb e.symm)).trans hv1
         have c3 : w3.cell? ⟨w.heap.size, 0, Option.none⟩ = some v0 := by rw [cell_of_row _ _ 0 _ _ _ hv3]; rfl
         have f3 : w3.frozen? ⟨w.heap.size, 0, Option.none⟩ = false := by simp [World.frozen?, hv3]
         simp only [Act.put, List.setIfInBounds_toArray, List.set_cons_succ, List.set_cons_zero])
      | fail)
    have hg4 : (W.alloc (.cells #[.string x.sp, .string x.nm, .string x.va] 34)).grownBy w3 v0.ownBlock := hg3
    obtain ⟨cur', hcur'⟩ := hgb'
    have hgne : g' ≠ w.heap.size := by
      rintro rfl
      rw [hv3] at hcur'
      injection hcur' with e1
      injection e1 with _ e1
      cases e1
    have hw3 : Below w.heap.size W w3 := hal.grown hg4 (by simp; have := HS.out; omega) (fun k e => (HLO.out k e).1)
    refine ⟨?_, ?_, ⟨⟨.slice (some ⟨g', 0, Option.none⟩) (pre.length + 1) cap', ?_, ?_⟩, ?_⟩, ?_⟩
    · exact (((KeepsOthers.alloc W _).trans (KeepsOthers.of_grownBy hg4 (fun j o e ho => by
        rcases hrow1.2 with ⟨rfl, _⟩ | ⟨g, cap, cur, rfl, _, hgb, _⟩
        · cases e
        · have e1 : g = j := by simpa [Value.ownBlock] using e
          subst e1
          rw [hgb] at ho
          cases ho
          rfl))).trans (KeepsOthers.setCell _ _ _)).from _
    · exact hw3.setCell (p := ⟨w.heap.size, 0, Option.none⟩) (Nat.le_refl _) _
    · exact setCell_heap hv3 _
    · rw [flatA_append, List.length_append]
      exact hrow3.kept (grownBy_setCell' _ _ _) (.inr (by simp [Value.ownBlock]; exact hgne))
    · exact HB.out.trans (hw3.setCell (p := ⟨w.heap.size, 0, Option.none⟩) (Nat.le_refl _) _)
    · have h1 := HS.out
      have h2 := hw3.size
      simp [World.setCell]
      omega
  case done =>
    rintro D ys W hD rfl ⟨⟨⟨v0, hv0, hrow⟩, hB⟩, hsz⟩ hK
    have r1 : W.cell? ⟨w.heap.size, 0, Option.none⟩ = some v0 := by rw [cell_of_row W _ 0 _ _ _ hv0]; rfl
    have HK := Lib.hid hK
    have HV := Lib.hid hv0
    have HB := Lib.hid hB
    have HR := Lib.hid hrow
    obtain ⟨va, vn, vc, rfl⟩ : ∃ a n c, v0 = .slice a n c := by
      rcases hrow.2 with ⟨rfl, _⟩ | ⟨g, cap, cur, rfl, _⟩
      · exact ⟨_, _, _, rfl⟩
      · exact ⟨_, _, _, rfl⟩
    clear hK hv0 hB hrow hcL hsL hI0 hL1
    gi_wp2
    refine ⟨by simp, .inl ⟨_, _, rfl, run_takeDeferred HK.out, ?_⟩⟩
    refine ⟨.slice va vn vc, ?_, _, rfl, ownsRow_kept_cells HR.out (grownBy_putObj' _ D (.deferred Option.none)) (fun r e => by cases e; exact ⟨_, HK.out, rfl⟩), HB.out.trans (belowK_b (w := w) (Nat.le_refl _) _ D _ _ (by omega) HK.out rfl rfl)⟩
    simp [results, Try.f64, go_sem]
  case stop =>
    rintro D c pre W hD _ h
    exact h.elim
end Go.Proofs.Ytmhofhblgcjihaa
