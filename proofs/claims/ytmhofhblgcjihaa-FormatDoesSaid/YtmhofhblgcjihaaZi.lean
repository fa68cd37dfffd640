/- The closure of sorted. -/
import Derived.Test.YtmhofhblgcjihaaZh
import Derived.StillTailTactics
import Derived.Shelf.SlSortCmp.WholeK
namespace Go.Proofs.Ytmhofhblgcjihaa
open Go Go.RowKit Go.Shelf Go.Sort

def GrF (W w : World) : Prop := ∃ q os', w = grow (W.drewN q) os'
theorem GrF.refl (W : World) : GrF W W := ⟨0, #[], by rw [grow_empty]; rfl⟩
theorem GrF.drewN {W w : World} (h : GrF W w) (n : Nat) : GrF W (w.drewN n) := by
  obtain ⟨q, os', rfl⟩ := h
  exact ⟨q + n, os', by show grow ((W.drewN q).drewN n) os' = _; rw [World.drewN_drewN]⟩
theorem GrF.drew {W w : World} (h : GrF W w) : GrF W w.drew := h.drewN 1
theorem GrF.alloc {W w : World} (h : GrF W w) (o : Obj) : GrF W (w.alloc o) := by
  obtain ⟨q, os', rfl⟩ := h
  exact ⟨q, os' ++ #[o], by rw [alloc_eq_grow, grow_grow]⟩
theorem GrF.size {W w : World} (h : GrF W w) : W.heap.size ≤ w.heap.size := by
  obtain ⟨q, os', rfl⟩ := h
  simp [grow]

set_option maxRecDepth 100000 in
set_option maxHeartbeats 4000000 in
theorem closure_any (x y : At) (W : World) : Calls Try.prog 46 #[.agg #[.string x.sp, .string x.nm, .string x.va], .agg #[.string y.sp, .string y.nm, .string y.va]] W fun e w' => e = .returned (.int .i64 (cfA x y)) ∧ GrF W w' := by
  have hcf : cfA x y = orB (cmpB x.sp y.sp) (cmpB x.nm y.nm) (cmpB x.va y.va) := rfl
  generalize cfA x y = r at *
  have hG : GrF W ((W.alloc (.cells #[.string x.sp, .string x.nm, .string x.va] 34)).alloc (.cells #[.string y.sp, .string y.nm, .string y.va] 34)) := ((GrF.refl W).alloc _).alloc _
  go_enter Try.func46, Try.ntmps46
  go_wp2_with fail
  have x0 : ((W.alloc (.cells #[.string x.sp, .string x.nm, .string x.va] 34)).alloc (.cells #[.string y.sp, .string y.nm, .string y.va] 34)).cell? ⟨W.heap.size, 0, Option.none⟩ = some (.string x.sp) := by simp [go_sem]
  have x1 : ((W.alloc (.cells #[.string x.sp, .string x.nm, .string x.va] 34)).alloc (.cells #[.string y.sp, .string y.nm, .string y.va] 34)).cell? ⟨W.heap.size, 1, Option.none⟩ = some (.string x.nm) := by simp [go_sem]
  have x2 : ((W.alloc (.cells #[.string x.sp, .string x.nm, .string x.va] 34)).alloc (.cells #[.string y.sp, .string y.nm, .string y.va] 34)).cell? ⟨W.heap.size, 2, Option.none⟩ = some (.string x.va) := by simp [go_sem]
  have y0 : ((W.alloc (.cells #[.string x.sp, .string x.nm, .string x.va] 34)).alloc (.cells #[.string y.sp, .string y.nm, .string y.va] 34)).cell? ⟨W.heap.size + 1, 0, Option.none⟩ = some (.string y.sp) := by simp [go_sem]
  have y1 : ((W.alloc (.cells #[.string x.sp, .string x.nm, .string x.va] 34)).alloc (.cells #[.string y.sp, .string y.nm, .string y.va] 34)).cell? ⟨W.heap.size + 1, 1, Option.none⟩ = some (.string y.nm) := by simp [go_sem]
  have y2 : ((W.alloc (.cells #[.string x.sp, .string x.nm, .string x.va] 34)).alloc (.cells #[.string y.sp, .string y.nm, .string y.va] 34)).cell? ⟨W.heap.size + 1, 2, Option.none⟩ = some (.string y.va) := by simp [go_sem]
  generalize (W.alloc (.cells #[.string x.sp, .string x.nm, .string x.va] 34)).alloc (.cells #[.string y.sp, .string y.nm, .string y.va] 34) = w1 at *
  have hG1 := hG.drew
  obtain ⟨xs, xm, xv⟩ := x
  obtain ⟨ys, ym, yv⟩ := y
  dsimp only at *
  refine wp_region_still_tail 15 (by kernel_rfl) (by kernel_rfl) ?_
  simp only [List.take_succ_cons, List.take_zero, List.drop_succ_cons, List.drop_zero]
  repeat (first | still_step | still_call (compare_any _ _ _))
  refine wpStill_nil ?_
  change wpList _ _ _ _ _ w1.drew
  generalize w1.drew = w2 at *
  clear x0 x1 x2 y0 y1 y2
  generalize cmpB xs ys = r0 at *
  generalize cmpB xm ym = r1 at *
  generalize cmpB xv yv = r2 at *
  subst hcf
  go_wp2_with fail
  refine (or_any _ _ r0 r1 r2 _ (by simp [go_sem]) (by simp [go_sem]) (by simp [go_sem])).mono ?_
  rintro e w' ⟨rfl, rfl⟩
  go_wp2_with fail
  go_ret
  exact ⟨rfl, hG1.alloc _⟩

instance : Inhabited At := ⟨⟨⟨#[]⟩, ⟨#[]⟩, ⟨#[]⟩⟩⟩

def encL (x : At) : List Value := [.string x.sp, .string x.nm, .string x.va]

theorem closure_lays (blk off size : Nat) (w : World) : CmpLays Try.prog 46 #[] encL 3 cfA blk off size w :=
  fun _ _ _ _ x y => closure_any x y _


/-! ### the order -/
theorem bl_irrefl (x : List UInt8) : Op.bytesLess x x = false := by
  rw [bytesLess_eq]
  simp [List.lt_irrefl]
theorem bl_trans {x y z : List UInt8} (h : Op.bytesLess x y = true) (h2 : Op.bytesLess y z = true) : Op.bytesLess x z = true := by
  rw [bytesLess_eq, decide_eq_true_eq] at *
  exact List.lt_trans h h2
theorem bl_tri {x y : List UInt8} (h : Op.bytesLess x y = false) (h2 : Op.bytesLess y x = false) : x = y := by
  rw [bytesLess_eq, decide_eq_false_iff_not] at *
  exact List.le_antisymm (List.not_lt.1 h2) (List.not_lt.1 h)

theorem toList_inj {x y : ByteArray} (h : x.toList = y.toList) : x = y := by
  rw [Lib.toList_data, Lib.toList_data] at h
  cases x
  cases y
  simp at h
  subst h
  rfl

theorem cmpB_neg (x y : ByteArray) : cmpB x y = -1 ↔ Op.bytesLess x.toList y.toList = true := by
  unfold cmpB
  split
  · simp [*]
  · split
    · simp_all
    · simp_all
theorem cmpB_zero (x y : ByteArray) : cmpB x y = 0 ↔ x = y := by
  unfold cmpB
  split
  · rename_i h
    constructor
    · intro h; omega
    · rintro rfl
      rw [bl_irrefl] at h
      cases h
  · split
    · rename_i h
      constructor
      · intro _
        exact toList_inj (by simpa using h)
      · intro _; rfl
    · rename_i h
      constructor
      · intro h; omega
      · rintro rfl
        simp at h

/-- one is less than the other -/
theorem cfA_lt (x y : At) : ltOf cfA x y = true ↔ (Op.bytesLess x.sp.toList y.sp.toList = true ∨ (x.sp = y.sp ∧ (Op.bytesLess x.nm.toList y.nm.toList = true ∨ (x.nm = y.nm ∧ Op.bytesLess x.va.toList y.va.toList = true)))) := by
  unfold ltOf cfA orB
  rw [decide_eq_true_eq, ← cmpB_neg, ← cmpB_neg, ← cmpB_neg, ← cmpB_zero x.sp y.sp, ← cmpB_zero x.nm y.nm]
  have h1 := cmpB_range x.sp y.sp
  have h2 := cmpB_range x.nm y.nm
  have h3 := cmpB_range x.va y.va
  rcases h1 with h1 | h1 | h1 <;> rcases h2 with h2 | h2 | h2 <;> rcases h3 with h3 | h3 | h3 <;> simp [h1, h2, h3]

theorem cfA_tot (x y : At) (h : ltOf cfA x y = false) (h2 : ltOf cfA y x = false) : x = y := by
  have e1 : ¬ ltOf cfA x y = true := by rw [h]; simp
  have e2 : ¬ ltOf cfA y x = true := by rw [h2]; simp
  rw [cfA_lt] at e1 e2
  obtain ⟨xs, xm, xv⟩ := x
  obtain ⟨ys, ym, yv⟩ := y
  dsimp only at *
  obtain rfl : xs = ys := toList_inj (bl_tri (by cases h : Op.bytesLess xs.toList ys.toList <;> simp_all) (by cases h : Op.bytesLess ys.toList xs.toList <;> simp_all))
  obtain rfl : xm = ym := toList_inj (bl_tri (by cases h : Op.bytesLess xm.toList ym.toList <;> simp_all) (by cases h : Op.bytesLess ym.toList xm.toList <;> simp_all))
  obtain rfl : xv = yv := toList_inj (bl_tri (by cases h : Op.bytesLess xv.toList yv.toList <;> simp_all) (by cases h : Op.bytesLess yv.toList xv.toList <;> simp_all))
  rfl

theorem cfA_irr (x : At) : ltOf cfA x x = false := by
  cases h : ltOf cfA x x
  · rfl
  · rw [cfA_lt] at h
    simp [bl_irrefl] at h

theorem cfA_trans (x y z : At) (h : ltOf cfA x y = true) (h2 : ltOf cfA y z = true) : ltOf cfA x z = true := by
  rw [cfA_lt] at *
  rcases h with h | ⟨e, h | ⟨e2, h⟩⟩ <;> rcases h2 with h' | ⟨e', h' | ⟨e2', h'⟩⟩
  · exact .inl (bl_trans h h')
  · exact .inl (e' ▸ h)
  · exact .inl (e' ▸ h)
  · exact .inl (e ▸ h')
  · exact .inr ⟨e.trans e', .inl (bl_trans h h')⟩
  · exact .inr ⟨e.trans e', .inl (e2' ▸ h)⟩
  · exact .inl (e ▸ h')
  · exact .inr ⟨e.trans e', .inl (e2 ▸ h')⟩
  · exact .inr ⟨e.trans e', .inr ⟨e2.trans e2', bl_trans h h'⟩⟩

theorem cfA_swo : SWO (ltOf cfA) where
  irrefl := cfA_irr
  trans := cfA_trans
  ntrans x y z h h2 := by
    cases h3 : ltOf cfA x z
    · rfl
    · cases h4 : ltOf cfA y x
      · have := cfA_tot x y h h4
        subst this
        rw [h3] at h2
        cases h2
      · rw [cfA_trans _ _ _ h4 h3] at h2
        cases h2

/-- attributes in one order -/
def sortA (l : List At) : List At := l.mergeSort fun x y => !(ltOf cfA) y x

theorem sortA_length (l : List At) : (sortA l).length = l.length := by simp [sortA]
theorem sortA_perm (l : List At) : (sortA l).Perm l := List.mergeSort_perm _ _

end Go.Proofs.Ytmhofhblgcjihaa
