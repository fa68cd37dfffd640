/- sorted: attributes in one order. -/
import Derived.Test.YtmhofhblgcjihaaZi
import Derived.Test.YtmhofhblgcjihaaShelf
namespace Go.Proofs.Ytmhofhblgcjihaa
open Go Go.RowKit Go.Shelf Go.Sort

theorem holds_of_row {w : World} {g cap base : Nat} {l : List At} (h : w.ownsRow base 34 3 (.slice (some ⟨g, 0, Option.none⟩) l.length cap) l.length (flatA l)) : HoldsK encL 3 w g 0 l.toArray := by
  rcases h.2 with ⟨e, _⟩ | ⟨g', cap', cur, e, _, hg, hcc, _, hcs, ht⟩
  · cases e
  · cases e
    intro j hj
    rw [size_flatK] at hj
    refine ⟨?_, by simp [World.frozen?, hg]⟩
    rw [get_flatK _ _ _ _ hj]
    have hq : j / 3 < l.length := by simp at hj; omega
    obtain ⟨h0, h1, h2⟩ := flatA_get l (j / 3) l[j / 3] (by simp [hq])
    have hd : l.toArray[j / 3]! = l[j / 3] := by simp [hq]
    rw [hd, cell_of_row _ _ _ _ _ _ hg, Nat.zero_add]
    have ht2 : ∀ u : Value, (flatA l)[j]? = some u → cur[j]? = some u := by
      intro u hu
      rw [← ht, List.getElem?_take] at hu
      split at hu
      · simpa using hu
      · cases hu
    have hr : j % 3 = 0 ∨ j % 3 = 1 ∨ j % 3 = 2 := by omega
    rcases hr with hr | hr | hr
    · rw [hr]
      rw [show j / 3 * 3 = j from by omega] at h0
      rw [ht2 _ h0]; rfl
    · rw [hr]
      rw [show j / 3 * 3 + 1 = j from by omega] at h1
      rw [ht2 _ h1]; rfl
    · rw [hr]
      rw [show j / 3 * 3 + 2 = j from by omega] at h2
      rw [ht2 _ h2]; rfl

theorem ats_of_holds {w : World} {g cap : Nat} {l : List At} (h : HoldsK encL 3 w g 0 l.toArray) (hg : g < w.heap.size) (hl : l.length ≤ 9223372036854775807) : AtsAt w (.slice (some ⟨g, 0, Option.none⟩) l.length cap) l := by
  by_cases h0 : l.length = 0
  · rw [h0]
    exact .inl ⟨List.eq_nil_of_length_eq_zero h0, _, _, rfl⟩
  · refine .inr ⟨g, 0, cap, rfl, hg, by omega, hl, fun j x hx => ?_⟩
    have hj : j < l.length := (List.getElem?_eq_some_iff.1 hx).1
    have hd : l.toArray[j]! = x := by
      rw [List.getElem?_eq_getElem hj] at hx
      cases hx
      simp [hj]
    have e0 := (h.cell (i := j) (c := 0) (by simpa using hj) (by omega)).1
    have e1 := (h.cell (i := j) (c := 1) (by simpa using hj) (by omega)).1
    have e2 := (h.cell (i := j) (c := 2) (by simpa using hj) (by omega)).1
    rw [hd] at e0 e1 e2
    exact ⟨e0, e1, e2⟩

theorem below_sortWorldK (w : World) (g base : Nat) (hb : base ≤ g) (hg : g < w.heap.size) (m : Nat) (dk : Array At) (os : Array Obj) : Below base w (sortWorldK encL 3 w g 0 m dk os) := by
  refine ⟨rfl, rfl, rfl, size_sortWorldK_c _ _ _ _ _ _ _ _, fun k hk => ?_⟩
  unfold sortWorldK
  rw [heap_grow_old _ _ (by rw [size_putRowK]; show k < w.heap.size; omega)]
  show (w.heap.modify g _)[k]? = w.heap[k]?
  rw [Array.getElem?_modify, if_neg (by omega)]

set_option maxHeartbeats 1000000 in
theorem collect_any (Bs : Nat) (v : Value) (zs : List At) (w : World) (hBs : Bs < w.heap.size) (hsm : zs.length * 48 ≤ 140737488355328)
    (hc : w.cell? ⟨Bs, 0, Option.none⟩ = some v) (hs : AtsAt w v zs) :
    Calls Try.prog 57 #[.func (.func 59) #[] #[.pointer (some ⟨Bs, 0, Option.none⟩)]] w fun e w' =>
      ∃ v', e = .returned v' ∧ w'.ownsRow w.heap.size 34 3 v' zs.length (flatA zs) ∧ Below w.heap.size w w' := by
  have hcl := (callsIn_wide (n := 4)).1 (appendSeq_in 4 (by omega) Bs v zs w hBs hsm hc hs)
  have HC := Lib.hid hcl
  clear hcl hc hs
  go_enter Try.func57, Try.ntmps57
  go_wp2_with fail
  refine HC.out.mono ?_
  rintro e w' ⟨v', rfl, h1, h2⟩
  go_wp2_with fail
  go_ret
  exact ⟨_, rfl, h1, h2⟩

/-- what sorting does with a row of the call's own -/
theorem sort_any (base : Nat) (v : Value) (l : List At) (w : World) (h : w.ownsRow base 34 3 v l.length (flatA l)) (hsm : l.length * 48 ≤ 140737488355328) :
    Calls Try.prog 58 #[v, .func (.func 46) #[] #[]] w fun e w' => e = .returned (.tuple #[]) ∧ AtsAt w' v (sortA l) ∧ Below base w w' := by
  rcases h.2 with ⟨rfl, hn⟩ | ⟨g, cap, cur, rfl, hb, hg, hcc, hmm, _, _⟩
  · have := List.eq_nil_of_length_eq_zero hn
    subst this
    refine (Try.slices_SortFunc_none (α := At) Option.none 0 _ w).mono ?_
    rintro e w' h
    obtain ⟨rfl, rfl⟩ := h
    exact ⟨rfl, .inl ⟨by simp [sortA], _, _, rfl⟩, Below.refl _ _⟩
  · have hgl : g < w.heap.size := (Array.getElem?_eq_some_iff.1 hg).1
    have hH := holds_of_row h
    have := Try.slices_SortFunc_total 3 Try.isAgg34 Try.sizeOf34 encL (fun _ => rfl) (fun x u hu => by simp [encL] at hu; rcases hu with rfl | rfl | rfl <;> rfl) cfA cfA_swo 46 #[] g 0 cap l.toArray w (enters_of Try.func46 (by kernel_rfl) rfl) (closure_lays _ _ _ _) hH hgl (by simp; omega) cfA_tot
    simp only [List.size_toArray] at this
    refine this.mono ?_
    rintro e w' ⟨rfl, n, os, rfl⟩
    refine ⟨rfl, ?_, below_sortWorldK w g base hb hgl _ _ _⟩
    have h2 := holdsK_sortWorldK_c encL 3 w g 0 l.toArray (sortA l).toArray n os hH hgl (by simp [sortA_length])
    have h3 := ats_of_holds (cap := cap) h2 (Nat.lt_of_lt_of_le hgl (size_sortWorldK_c _ _ _ _ _ _ _ _)) (by rw [sortA_length]; omega)
    rw [sortA_length] at h3
    exact h3

set_option maxHeartbeats 1000000 in
theorem sortedFunc_any (Bs : Nat) (v : Value) (zs : List At) (w : World) (hBs : Bs < w.heap.size) (hsm : zs.length * 48 ≤ 140737488355328)
    (hc : w.cell? ⟨Bs, 0, Option.none⟩ = some v) (hs : AtsAt w v zs) :
    Calls Try.prog 44 #[.func (.func 59) #[] #[.pointer (some ⟨Bs, 0, Option.none⟩)], .func (.func 46) #[] #[]] w fun e w' =>
      ∃ a c, e = .returned (.slice a zs.length c) ∧ AtsAt w' (.slice a zs.length c) (sortA zs) ∧ Below w.heap.size w w' := by
  have hcl := collect_any Bs v zs w hBs hsm hc hs
  have HC := Lib.hid hcl
  clear hcl hc hs
  go_enter Try.func44, Try.ntmps44
  go_wp2_with fail
  refine HC.out.mono ?_
  rintro e w1 ⟨v', rfl, h1, h2⟩
  have hso := sort_any _ v' zs w1 h1 hsm
  obtain ⟨va, vc, rfl⟩ : ∃ a c, v' = .slice a zs.length c := by
    rcases h1.2 with ⟨rfl, hn⟩ | ⟨g, cap, cur, rfl, _⟩
    · rw [hn]; exact ⟨_, _, rfl⟩
    · exact ⟨_, _, rfl⟩
  have HS := Lib.hid hso
  clear hso h1 HC
  go_wp2_with fail
  refine HS.out.mono ?_
  rintro e w2 ⟨rfl, h3, h4⟩
  go_wp2_with fail
  go_ret
  exact ⟨_, _, rfl, h3, h2.trans h4⟩

set_option maxHeartbeats 1000000 in
/-- attributes in one order -/
theorem sorted_any (v : Value) (zs : List At) (w : World) (hsm : zs.length * 48 ≤ 140737488355328) (hs : AtsAt w v zs) :
    Calls Try.prog 21 #[v] w fun e w' =>
      ∃ a c, e = .returned (.slice a zs.length c) ∧ AtsAt w' (.slice a zs.length c) (sortA zs) ∧ Below w.heap.size w w' := by
  obtain ⟨va, vc, rfl⟩ := hs.form
  have hb : Below w.heap.size w (w.alloc (.cells #[.slice va zs.length vc] 35)) := (Below.refl _ _).alloc (Nat.le_refl _) _
  have hso := sortedFunc_any w.heap.size (.slice va zs.length vc) zs (w.alloc (.cells #[.slice va zs.length vc] 35)) (by simp) hsm (by simp [go_sem]) (hs.below (Nat.le_refl _) hb)
  have HS := Lib.hid hso
  clear hso hs
  go_enter Try.func21, Try.ntmps21
  go_wp2_with fail
  refine (callsIn_wide (n := 4)).1 ?_
  refine (values_in Fence.wide 4 trivial rfl va zs.length vc w).mono ?_
  rintro e w' ⟨rfl, rfl⟩
  go_wp2_with fail
  refine HS.out.mono ?_
  rintro e w2 ⟨a, c, rfl, h3, h4⟩
  go_wp2_with fail
  go_ret
  exact ⟨_, _, rfl, h3, hb.trans (h4.mono (by simp))⟩

end Go.Proofs.Ytmhofhblgcjihaa
