/- slices.Equal over attributes. -/
import Derived.Test.YtmhofhblgcjihaaZj
namespace Go.Proofs.Ytmhofhblgcjihaa
open Go Go.RowKit Go.Shelf Go.Sort

def eqA (x y : At) : Bool := x.sp.toList == y.sp.toList && (x.nm.toList == y.nm.toList && x.va.toList == y.va.toList)
theorem eqA_iff (x y : At) : eqA x y = true ↔ x = y := by
  obtain ⟨xs, xm, xv⟩ := x
  obtain ⟨ys, ym, yv⟩ := y
  simp only [eqA, Bool.and_eq_true, beq_iff_eq, At.mk.injEq]
  constructor
  · rintro ⟨h1, h2, h3⟩
    exact ⟨toList_inj h1, toList_inj h2, toList_inj h3⟩
  · rintro ⟨rfl, rfl, rfl⟩
    exact ⟨rfl, rfl, rfl⟩
theorem neqA : NeqAt Try.prog 34 (fun x => .agg (encL x).toArray) eqA := by
  refine ⟨fun x y w => ?_, GuardAt.agg _ (by kernel_rfl)⟩
  simp [encL, go_sem, eqA]
  by_cases h1 : x.sp.toList = y.sp.toList <;> by_cases h2 : x.nm.toList = y.nm.toList <;> by_cases h3 : x.va.toList = y.va.toList <;> simp [h1, h2, h3]

/-- are they the same attributes, in the same order? -/
def sameL (a b : List At) : Bool := Lib.allEq eqA a b
theorem sameL_iff (a b : List At) : sameL a b = true ↔ a = b := by
  unfold sameL
  induction a generalizing b with
  | nil => cases b <;> simp [Lib.allEq]
  | cons x a ih => cases b with
    | nil => simp [Lib.allEq]
    | cons y b => simp [Lib.allEq, ih, eqA_iff]

set_option maxHeartbeats 1000000 in
theorem equal_any (v1 v2 : Value) (l1 l2 : List At) (w : World) (h1 : AtsAt w v1 l1) (h2 : AtsAt w v2 l2) :
    Calls Try.prog 23 #[v1, v2] w fun e w' => e = .returned (.bool (sameL l1 l2)) ∧ Below w.heap.size w w' := by
  by_cases hl : l1.length = l2.length
  · by_cases h0 : l1.length = 0
    · have e1 := List.eq_nil_of_length_eq_zero h0
      have e2 := List.eq_nil_of_length_eq_zero (hl.symm.trans h0)
      subst e1
      subst e2
      obtain ⟨a1, c1, rfl⟩ := h1.form
      obtain ⟨a2, c2, rfl⟩ := h2.form
      clear h1 h2
      go_enter Try.func23, Try.ntmps23
      go_wp2_with fail
      go_loopw [13] (fun i wr => i = .int .i64 0 ∧ wr = w) (fun _ _ => 0)
      case atStart => exact ⟨rfl, rfl⟩
      case round =>
        obtain ⟨rfl, rfl⟩ := hrel
        go_wp2_with fail
        go_ret
        exact ⟨rfl, Below.refl _ _⟩
    · rcases h1 with ⟨rfl, _⟩ | ⟨b1, o1, c1, rfl, hb1, hp1, hm1, hc1⟩
      · exact absurd rfl h0
      · rcases h2 with ⟨rfl, _⟩ | ⟨b2, o2, c2, rfl, hb2, hp2, hm2, hc2⟩
        · exact absurd hl h0
        · have hE : ∀ (l : List At) (b o : Nat), (∀ j x, l[j]? = some x → w.cell? ⟨b, o + j * 3, Option.none⟩ = some (.string x.sp) ∧ w.cell? ⟨b, o + j * 3 + 1, Option.none⟩ = some (.string x.nm) ∧ w.cell? ⟨b, o + j * 3 + 2, Option.none⟩ = some (.string x.va)) → ∀ j, j < l.length → ∀ i v, (encL l[j]!)[i]? = some v → w.cell? ⟨b, o + j * 3 + i, Option.none⟩ = some v := by
            intro l b o hc j hj i u hu
            have hd : l[j]! = l[j] := by simp [hj]
            obtain ⟨e0, e1, e2⟩ := hc j l[j] (by simp [hj])
            rw [hd] at hu
            have hi : i < 3 := (List.getElem?_eq_some_iff.1 hu).1
            have hi3 : i = 0 ∨ i = 1 ∨ i = 2 := by omega
            rcases hi3 with rfl | rfl | rfl
            · simp [encL] at hu; subst hu; exact e0
            · simp [encL] at hu; subst hu; exact e1
            · simp [encL] at hu; subst hu; exact e2
          refine (Try.slices_Equal 3 Try.isAgg34 Try.sizeOf34 encL (fun _ => rfl) eqA neqA b1 o1 l1.length c1 b2 o2 l2.length c2 l1 l2 w (Nat.le_refl _) (Nat.le_refl _) hm1 hm2 (hE l1 b1 o1 hc1) (hE l2 b2 o2 hc2)).mono ?_
          rintro e w' ⟨rfl, q, rfl⟩
          rw [List.take_length, List.take_length]
          exact ⟨rfl, bDrewN (Below.refl _ _) q⟩
  · have hf : sameL l1 l2 = false := by
      cases h : sameL l1 l2
      · rfl
      · exact absurd (congrArg List.length ((sameL_iff l1 l2).1 h)) hl
    rw [hf]
    have m1 := h1.len
    have m2 := h2.len
    obtain ⟨a1, c1, rfl⟩ := h1.form
    obtain ⟨a2, c2, rfl⟩ := h2.form
    have hl2 : ¬ ((l1.length : Int) = (l2.length : Int)) := by omega
    clear h1 h2 hf
    go_enter Try.func23, Try.ntmps23
    go_wp2_with fail
    go_ret
    exact ⟨rfl, Below.refl _ _⟩

end Go.Proofs.Ytmhofhblgcjihaa
