/- What Find does. -/
import Derived.Test.YtmhofhblgcjihaaZp
import Derived.Test.YtmhofhblgcjihaaZr
import Derived.Stop.RegionWithIn
namespace Go.Proofs.Ytmhofhblgcjihaa
open Go Go.RowKit Go.Shelf

attribute [local go_sem] Oper.semAt_some

/-- what is found by a name -/
def findB (nm : ByteArray) (l : List Ab) : Option Ab := (l.drop (baseN l)).reverse.find? fun x => x.el.nm.toList == nm.toList

/-- all orders of a region within a fence meet again -/
def MeetIn (S : Nat → World → Prop) (F : Nat → Act) : Exit → Act → World → Prop
  | .normal, a', w' => ∃ g, a' = F g ∧ S g w'
  | _, _, _ => False
theorem wpIn_meet {E : Fence} {n : Nat} {P : Program} {c : Code} {Q : Exit → Act → World → Prop} {a : Act} {w : World} (S : Nat → World → Prop) {F : Nat → Act}
    (h : c.wpIn E n P (MeetIn S F) a w) (h2 : ∀ g w', S g w' → Q .normal (F g) w') : c.wpIn E n P Q a w := by
  refine Code.wpIn_mono ?_ h
  rintro ex a' w' hm
  cases ex with
  | normal =>
    obtain ⟨g, ha, hs⟩ := hm
    rw [ha]
    exact h2 g w' hs
  | _ => exact hm.elim

theorem AtsAt.kept {A B : World} {row : Option Nat} {v : Value} {l : List At} (h : AtsAt A v l) (hg : A.grownBy B row) (hr : ∀ r, row = some r → ∃ o : Obj, A.heap[r]? = some o ∧ o.isCells = false) : AtsAt B v l := by
  rcases h with h | ⟨b, off, c, rfl, hlt, h1, h2, h3⟩
  · exact .inl h
  · exact .inr ⟨b, off, c, rfl, Nat.lt_of_lt_of_le hlt hg.size, h1, h2, fun j x hj => by
      obtain ⟨e0, e1, e2⟩ := h3 j x hj
      exact ⟨cell_kept e0 hg hr, cell_kept e1 hg hr, cell_kept e2 hg hr⟩⟩

theorem find_none {zs : List En} {P : En → Bool} (h : ∀ j ∈ List.range zs.length, P (revF zs j).2 = false) : zs.reverse.find? P = Option.none := by
  have hu := range_rev zs zs.length (Nat.le_refl _)
  rw [List.take_of_length_le (by simp)] at hu
  rw [← hu, List.find?_eq_none]
  intro x hx
  obtain ⟨j, hj, rfl⟩ := List.mem_map.1 hx
  rw [h j hj]
  simp

theorem find_some {zs : List En} {P : En → Bool} {k : Nat} {ini : List Nat} {last : Nat} (hk : k ≤ zs.length) (e1 : List.range k = ini ++ [last]) (e2 : ∀ j ∈ ini, P (revF zs j).2 = false) (e3 : P (revF zs last).2 = true) : zs.reverse.find? P = some (revF zs last).2 := by
  have hu := range_rev zs k hk
  rw [e1] at hu
  have h2 := List.take_append_drop k zs.reverse
  rw [← hu] at h2
  rw [← h2, List.find?_append, List.map_append, List.find?_append]
  have h3 : (ini.map fun j => (revF zs j).2).find? P = Option.none := by
    rw [List.find?_eq_none]
    intro x hx
    obtain ⟨j, hj, rfl⟩ := List.mem_map.1 hx
    rw [e2 j hj]
    simp
  rw [h3]
  simp [e3]

def FindPost (r : Option Ab) (w : World) (e : Ending) (w' : World) : Prop := match r with
  | some x => OutPost x #[.bool true] w e w'
  | Option.none => OutPost Ab.none #[.bool false] w e w'

theorem findB_map (nm : ByteArray) (es : List En) : findB nm (es.map En.ab) = ((es.drop (baseN (es.map En.ab))).reverse.find? fun x => x.el.nm.toList == nm.toList).map En.ab := by
  unfold findB
  rw [← List.map_drop, ← List.map_reverse, List.find?_map]
  rfl

/-- what stands where the loop is left -/
def Got (b : Nat) (w : World) (x : En) (W : World) : Prop := ∃ a c, W.cell? ⟨b + 1, 0, Option.none⟩ = some (.int .i64 x.el.id) ∧ W.cell? ⟨b + 1, 1, Option.none⟩ = some (.string x.el.sp) ∧ W.cell? ⟨b + 1, 2, Option.none⟩ = some (.string x.el.nm) ∧ W.cell? ⟨b + 1, 3, Option.none⟩ = some (.slice a x.ats.length c) ∧ W.cell? ⟨b + 2, 0, Option.none⟩ = some (.bool true) ∧ AtsAt W (.slice a x.ats.length c) x.ats ∧ (∀ q o, a = some ⟨q, o, Option.none⟩ → w.heap.size ≤ q ∧ q < W.heap.size)

theorem below_others {W W' : World} (h : Below W.heap.size W W') : KeepsOthers W W' := ⟨h.size, fun k _ hk _ => (h.block k (Array.getElem?_eq_some_iff.1 hk).1).trans hk⟩

theorem Got.kept {b : Nat} {w A B : World} {x : En} {row : Option Nat} (h : Got b w x A) (hg : A.grownBy B row) (hr : ∀ r, row = some r → ∃ o : Obj, A.heap[r]? = some o ∧ o.isCells = false) : Got b w x B := by
  obtain ⟨a, c, c0, c1, c2, c3, t, ha, hq⟩ := h
  exact ⟨a, c, cell_kept c0 hg hr, cell_kept c1 hg hr, cell_kept c2 hg hr, cell_kept c3 hg hr, cell_kept t hg hr, ha.kept hg hr, fun q o e => have h := hq q o e; ⟨h.1, Nat.lt_of_lt_of_le h.2 hg.size⟩⟩

set_option maxRecDepth 100000 in
set_option maxHeartbeats 4000000 in
theorem find_any (b : Nat) (v : Value) (es : List En) (nm : ByteArray) (w : World) (hs : Raw w b v es) :
    Calls Try.prog 11 #[.pointer (some ⟨b, 0, Option.none⟩), .string nm] w (FindPost (findB nm (es.map En.ab)) w) := by
  refine (callsIn_wide (n := 4)).1 ?_
  refine callsIn_of_wp_marks Try.func11 rfl trivial ?_ rfl
  simp only [Try.ntmps11, List.size_toArray, List.length_cons, List.length_nil, Nat.reduceAdd, Nat.reduceSub, Array.replicate_succ, Array.replicate_zero, List.push_toArray, List.append_toArray, List.nil_append, List.cons_append]
  rw [findB_map]
  have hcb := hs.cell
  have hblt := hs.lt b (.inl rfl)
  obtain ⟨va, vc, rfl⟩ : ∃ a c, v = .slice a es.length c := by
    rcases hs.form with ⟨h, h2⟩ | ⟨g, cap, h1, _⟩
    · exact ⟨_, _, by rw [h2]; exact h⟩
    · exact ⟨_, _, h1⟩
  have hbl := baseN_le (es.map En.ab)
  rw [List.length_map] at hbl
  have hlen := hs.len
  have hcap : es.length ≤ vc := by
    rcases hs.form with ⟨h, h2⟩ | ⟨g, cap, h1, _, _, h3, _⟩
    · rw [h2]; exact Nat.zero_le _
    · injection h1 with e1 e2 e3; omega
  have hvc : vc ≤ maxLen := by
    rcases hs.form with ⟨h, h2⟩ | ⟨g, cap, h1, _, _, h3, h4, _⟩
    · injection h with e1 e2 e3; rw [e3]; exact Nat.zero_le _
    · injection h1 with e1 e2 e3; omega
  unfold maxLen at hvc
  have hal : Below w.heap.size w (((w.alloc (.cells #[.string nm] 9)).alloc (.cells #[.int .i64 0, .string ⟨#[]⟩, .string ⟨#[]⟩, .slice Option.none 0 0] 37)).alloc (.cells #[.bool false] 4)) := (((Below.refl _ _).alloc (Nat.le_refl _) _).alloc (by simp) _).alloc (by simp; omega) _
  have hba := base_any b (.slice va es.length vc) es (((w.alloc (.cells #[.string nm] 9)).alloc (.cells #[.int .i64 0, .string ⟨#[]⟩, .string ⟨#[]⟩, .slice Option.none 0 0] 37)).alloc (.cells #[.bool false] 4)).drew (hs.below hal.drew)
  have hcbl := (hal.cell (p := ⟨b, 0, Option.none⟩) hblt).trans hcb
  have HBA := Lib.hid ((callsIn_wide (n := 3)).2 hba)
  clear hba
  have hatx : ∀ x ∈ es, AtsAt w (.slice x.a x.ats.length x.c) x.ats ∧ x.ats.length * 48 ≤ 140737488355328 := fun x hx => ⟨hs.ats x hx, hs.sm x hx⟩
  generalize hB : baseN (es.map En.ab) = B at *
  -- the slice behind the last marker
  obtain ⟨sa, hsa, hEn⟩ : ∃ sa, sa = (if vc = B then va else va.map (·.add (B * 4))) ∧ EnsAt w (.slice sa (es.drop B).length (vc - B)) (es.drop B) := by
    refine ⟨_, rfl, ?_⟩
    by_cases hB2 : B < es.length
    · rcases hs.form with ⟨h, h2⟩ | ⟨g', cap, h1, h2, _, h3, h4, h5, _⟩
      · rw [h2] at hB2; simp at hB2
      · injection h1 with e1 e2 e3
        rw [if_neg (by omega), e1]
        refine .inr ⟨g', B * 4, vc - B, ?_, h2, by rw [List.length_drop]; omega, by rw [List.length_drop]; omega, fun j x hx i u hu => ?_⟩
        · simp [Addr.add]; omega
        · rw [List.getElem?_drop] at hx
          have := h5 (B + j) x hx i u hu
          rwa [Nat.add_mul] at this
    · have hn : es.drop B = [] := List.drop_eq_nil_of_le (by omega)
      rw [hn]
      exact .inl ⟨rfl, _, _, rfl⟩
  have hsl : ∀ W, (Instr.slice 25 (.slice va es.length vc) (some (.int .i64 (B : Int))) Option.none Option.none).run Try.prog W = .ok (.slice sa (es.drop B).length (vc - B)) W := by
    intro W
    rw [hsa, List.length_drop]
    simp [Instr.slice, run_underlying Try.underlying25, Instr.sliceBounds, go_sem]
    intro h; omega
  clear hsa
  have hzl : (es.drop B).length ≤ es.length := by rw [List.length_drop]; omega
  have hzm : ∀ x ∈ es.drop B, x ∈ es := fun x hx => List.mem_of_mem_drop hx
  generalize hzs : es.drop B = zs at *
  clear hzs hcap hbl
  have HAT := Lib.hid hatx
  have HZM := Lib.hid hzm
  have HEN := Lib.hid hEn
  have HS := Lib.hid hs
  have HAL := Lib.hid hal
  clear hatx hzm hEn hs hB
  have n0 : (((w.alloc (.cells #[.string nm] 9)).alloc (.cells #[.int .i64 0, .string ⟨#[]⟩, .string ⟨#[]⟩, .slice Option.none 0 0] 37)).alloc (.cells #[.bool false] 4)).cell? ⟨w.heap.size, 0, Option.none⟩ = some (.string nm) := by simp [go_sem]
  have hws : (((w.alloc (.cells #[.string nm] 9)).alloc (.cells #[.int .i64 0, .string ⟨#[]⟩, .string ⟨#[]⟩, .slice Option.none 0 0] 37)).alloc (.cells #[.bool false] 4)).heap.size = w.heap.size + 3 := by simp
  have hR1 : (((w.alloc (.cells #[.string nm] 9)).alloc (.cells #[.int .i64 0, .string ⟨#[]⟩, .string ⟨#[]⟩, .slice Option.none 0 0] 37)).alloc (.cells #[.bool false] 4)).heap[w.heap.size + 1]? = some (.cells #[.int .i64 0, .string ⟨#[]⟩, .string ⟨#[]⟩, .slice Option.none 0 0] 37 (0, 0)) := by
    have := heap_alloc_new (w.alloc (.cells #[.string nm] 9)) (.cells #[.int .i64 0, .string ⟨#[]⟩, .string ⟨#[]⟩, .slice Option.none 0 0] 37)
    rw [World.size_alloc] at this
    rw [Below.heap_alloc _ _ _ (by simp)]; exact this
  have hR2 : (((w.alloc (.cells #[.string nm] 9)).alloc (.cells #[.int .i64 0, .string ⟨#[]⟩, .string ⟨#[]⟩, .slice Option.none 0 0] 37)).alloc (.cells #[.bool false] 4)).heap[w.heap.size + 2]? = some (.cells #[.bool false] 4 (0, 0)) := by
    have := heap_alloc_new ((w.alloc (.cells #[.string nm] 9)).alloc (.cells #[.int .i64 0, .string ⟨#[]⟩, .string ⟨#[]⟩, .slice Option.none 0 0] 37)) (.cells #[.bool false] 4)
    simpa using this
  have HR1 := Lib.hid hR1
  have HR2 := Lib.hid hR2
  clear hR1 hR2
  gi_wp2_with fail
  generalize ((w.alloc (.cells #[.string nm] 9)).alloc (.cells #[.int .i64 0, .string ⟨#[]⟩, .string ⟨#[]⟩, .slice Option.none 0 0] 37)).alloc (.cells #[.bool false] 4) = wA at *
  apply wpIn_meet (fun p w' => Below wA.heap.size wA w' ∧ wA.heap.size ≤ p ∧ p < w'.heap.size ∧ w'.cell? ⟨p, 0, Option.none⟩ = some (.slice sa zs.length (vc - B)))
  · gi_region_with (first | (refine ⟨trivial, HBA.out.mono ?_⟩; rintro e1 w1 ⟨rfl, hb1⟩; have hc1 := (hb1.cell (p := ⟨b, 0, Option.none⟩) (by simp; omega)).trans hcbl) | (refine ⟨trivial, (backward_in Fence.wide 3 trivial rfl _ _ _ _).mono ?_⟩; rintro e2 w2 ⟨rfl, rfl⟩))
    all_goals
      have hbA : Below wA.heap.size wA w1 := (Below.refl wA.heap.size wA).drew.trans hb1
      have hsA := hbA.size
      obtain ⟨p, hp⟩ : ∃ p, p = w1.heap.size := ⟨_, rfl⟩
      rw [← hp]
      exact ⟨p, rfl, hbA.alloc hbA.size _, by omega, by rw [hp]; simp, by rw [hp]; simp [go_sem]⟩
  · rintro p wL ⟨hbL, hpL, hpL2, hcL⟩
    clear HBA hcbl hsl hcb
    have hsz := hbL.size
    have hLn := (hbL.cell (p := ⟨w.heap.size, 0, Option.none⟩) (by show w.heap.size < _; omega)).trans n0
    have hL1 : Below w.heap.size w wL := HAL.out.trans (hbL.mono (by omega))
    have hB1 := (hbL.block (w.heap.size + 1) (by omega)).trans HR1.out
    have hB2 := (hbL.block (w.heap.size + 2) (by omega)).trans HR2.out
    have HB1 := Lib.hid hB1
    have HB2 := Lib.hid hB2
    have HL1 := Lib.hid hL1
    have HEL := Lib.hid (HEN.out.below (Nat.le_refl _) hL1)
    clear hB1 hB2 hL1 HR1 HR2 n0
    gi_wp2_with fail
    refine wpIn_rangeFunc_ownH (α := Nat) rfl (by omega) (gf := 50) (lb := #[.pointer (some ⟨p, 0, Option.none⟩)]) rfl trivial (enters_of Try.func50 (by kernel_rfl) rfl)
      (backward_stops Fence.wide _ trivial rfl (by omega) p wL.heap.size _ zs wL hpL2 (Nat.le_refl _) hcL HEL.out HEL.out.blk) belowK_t (belowK_b (Nat.le_refl _)) (Below.refl _ _) (fun _ => rfl)
      (fun pre W => (∀ j ∈ pre, ((revF zs j).2.el.nm.toList == nm.toList) = false) ∧ Below wL.heap.size wL W)
      (fun c pre W => (c = .ret ∧ ∃ ini last, pre = ini ++ [last] ∧ (∀ j ∈ ini, ((revF zs j).2.el.nm.toList == nm.toList) = false) ∧ ((revF zs last).2.el.nm.toList == nm.toList) = true ∧ Got w.heap.size w (revF zs last).2 W) ∧ Below w.heap.size w W)
      (OwnFrom.and (ownFrom_pure _ _) (ownFrom_below (Nat.le_refl _) (Nat.le_refl _)))
      (fun c => OwnFrom.and (Own.from (fun s A B row hs hg hr => by obtain ⟨hc, ini, last, e1, e2, e3, e4⟩ := hs; exact ⟨hc, ini, last, e1, e2, e3, e4.kept hg hr⟩) _) (ownFrom_below (Nat.le_refl _) HL1.out.size))
      ⟨by simp, Below.refl _ _⟩
      (fun x a' W => ∃ Bx, wL.heap.size ≤ Bx ∧ W.heap[Bx]? = some (.cells #[.int .i64 (revF zs x).2.el.id, .string (revF zs x).2.el.sp, .string (revF zs x).2.el.nm, .slice (revF zs x).2.a (revF zs x).2.ats.length (revF zs x).2.c] 37 (0, 0)) ∧ a' = { tmps := #[.pointer (some ⟨b, 0, Option.none⟩), .string nm, undef, .pointer (some ⟨w.heap.size, 0, Option.none⟩), .pointer (some ⟨w.heap.size + 1, 0, Option.none⟩), .pointer (some ⟨w.heap.size + 1 + 1, 0, Option.none⟩), undef, .pointer (some ⟨Bx, 0, Option.none⟩), .pointer (some ⟨b, 0, Option.none⟩), .pointer (some ⟨b, 0, Option.none⟩), .pointer (some ⟨b, 0, Option.none⟩), .slice va es.length vc, .pointer (some ⟨b, 0, Option.none⟩), .int .i64 (B : Int), .slice sa zs.length (vc - B), .func (.func 50) #[] #[.pointer (some ⟨p, 0, Option.none⟩)], .int .i64 ((revF zs x).1 : Int), .agg #[.int .i64 (revF zs x).2.el.id, .string (revF zs x).2.el.sp, .string (revF zs x).2.el.nm, .slice (revF zs x).2.a (revF zs x).2.ats.length (revF zs x).2.c], undef, undef, undef, undef, undef, undef, undef, undef, undef, undef, undef], defers := [] })
      (fun x a' s A B row hs hg hr => by
        obtain ⟨Bx, h1, h2, h3⟩ := hs
        refine ⟨Bx, h1, ?_, h3⟩
        rw [hg.block Bx (Array.getElem?_eq_some_iff.1 h2).1 (fun e => by obtain ⟨_, o, ho, hcl⟩ := hr Bx e.symm; rw [h2] at ho; cases ho; cases hcl)]; exact h2)
      ?assign ?body ?done ?stop
    case assign =>
      rintro l' pre x W K ⟨hp, hB⟩ hK
      dsimp only [encB]
      gi_wp2
      exact hK _ _ ((KeepsOthers.alloc _ _).from _) ((Below.refl _ W).alloc hB.size _) ⟨hp, hB.alloc hB.size _⟩ ⟨W.heap.size, hB.size, heap_alloc_new W _, rfl⟩
    case body =>
      rintro l' pre x a' W hl' ⟨r, hr⟩ ⟨hp, hB⟩ ⟨Bx, hBx1, hBx, rfl⟩ hlt
      have hym : (revF zs x).2 ∈ es := HZM.out _ (revF_mem zs x (by omega))
      obtain ⟨hya, hys⟩ := HAT.out _ hym
      have HP := Lib.hid hp
      clear hp hym hlt
      have hBw : Below w.heap.size w W := HL1.out.trans (hB.mono (by omega))
      have hya2 := hya.below (Nat.le_refl _) hBw
      have hBxl : Bx < W.heap.size := (Array.getElem?_eq_some_iff.1 hBx).1
      have r0 := (hB.cell (p := ⟨w.heap.size, 0, Option.none⟩) (by show w.heap.size < _; omega)).trans hLn
      have hb1 := (hB.block (w.heap.size + 1) (by omega)).trans HB1.out
      have hb2 := (hB.block (w.heap.size + 2) (by omega)).trans HB2.out
      have HBB := Lib.hid hB
      have HBW := Lib.hid hBw
      have HH := Lib.hid hr
      have HYA := Lib.hid hya2
      have HGOAL : Hid (∀ (ini : List Nat), ini = pre → ((revF zs x).2.el.nm.toList == nm.toList) = ((revF zs x).2.el.nm.toList == nm.toList)) := fun _ _ => rfl
      clear hr hya hya2 hBw hB hLn HGOAL
      have hgx : ∀ W2, Got w.heap.size w (revF zs x).2 W2 → Got w.heap.size w (revF zs x).2 W2 := fun _ h => h
      generalize hy : revF zs x = yy at *
      obtain ⟨yi, y⟩ := yy
      dsimp only at *
      have HY := Lib.hid hy
      have HGX := Lib.hid hgx
      have q0 : W.cell? ⟨Bx, 0, Option.none⟩ = some (.int .i64 y.el.id) := by rw [cell_of_row W Bx 0 _ _ _ hBx]; rfl
      have q1 : W.cell? ⟨Bx, 1, Option.none⟩ = some (.string y.el.sp) := by rw [cell_of_row W Bx 1 _ _ _ hBx]; rfl
      have q2 : W.cell? ⟨Bx, 2, Option.none⟩ = some (.string y.el.nm) := by rw [cell_of_row W Bx 2 _ _ _ hBx]; rfl
      have q3 : W.cell? ⟨Bx, 3, Option.none⟩ = some (.slice y.a y.ats.length y.c) := by rw [cell_of_row W Bx 3 _ _ _ hBx]; rfl
      have HK1 := Lib.hid hb1
      have HK2 := Lib.hid hb2
      clear hy hgx hBx hb1 hb2
      cases hP : (y.el.nm.toList == nm.toList)
      · have HPP := Lib.hid hP
        gi_wp2
        refine ⟨(KeepsOthers.refl _).from _, Below.refl _ _, ?_, HBB.out⟩
        intro j hj
        rcases List.mem_append.1 hj with h | h
        · exact HP.out j h
        · simp at h; subst h; rw [HY.out]; exact HPP.out
      · have HPP := Lib.hid hP
        have hk := kept_any y.el (.slice y.a y.ats.length y.c) y.ats W HYA.out hys
        have HKP := Lib.hid hk
        clear hk
        gi_wp2_with fail
        refine ⟨trivial, (CallsIn.inRound l' ((callsIn_wide (n := 1)).2 HKP.out)).mono ?_⟩
        rintro e w2 ⟨ka, kc, rfl, hka, hkq, hkb⟩
        have hk1 := (hkb.block (w.heap.size + 1) (by have := HBB.out.size; omega)).trans HK1.out
        have hk2 := (hkb.block (w.heap.size + 2) (by have := HBB.out.size; omega)).trans HK2.out
        have k0 : w2.cell? ⟨w.heap.size + 1, 0, Option.none⟩ = some (.int .i64 0) := by rw [cell_of_row w2 _ 0 _ _ _ hk1]; rfl
        have k1 : w2.cell? ⟨w.heap.size + 1, 1, Option.none⟩ = some (.string ⟨#[]⟩) := by rw [cell_of_row w2 _ 1 _ _ _ hk1]; rfl
        have k2 : w2.cell? ⟨w.heap.size + 1, 2, Option.none⟩ = some (.string ⟨#[]⟩) := by rw [cell_of_row w2 _ 2 _ _ _ hk1]; rfl
        have k3 : w2.cell? ⟨w.heap.size + 1, 3, Option.none⟩ = some (.slice Option.none 0 0) := by rw [cell_of_row w2 _ 3 _ _ _ hk1]; rfl
        have kf : ∀ o, w2.frozen? ⟨w.heap.size + 1, o, Option.none⟩ = false := fun o => by simp [World.frozen?, hk1]
        have t0 : w2.cell? ⟨w.heap.size + 1 + 1, 0, Option.none⟩ = some (.bool false) := by rw [cell_of_row w2 _ 0 _ _ _ hk2]; rfl
        have tf : w2.frozen? ⟨w.heap.size + 1 + 1, 0, Option.none⟩ = false := by simp [World.frozen?, show w.heap.size + 1 + 1 = w.heap.size + 2 from rfl, hk2]
        have hws2 : w.heap.size + 2 < w2.heap.size := (Array.getElem?_eq_some_iff.1 hk2).1
        have HKA := Lib.hid hka
        have HKQ := Lib.hid hkq
        have HKB := Lib.hid hkb
        clear hk1 hk2 hka hkq hkb
        gi_wp2_with fail
        have hS : Keeps (fun k => k = w.heap.size + 1 ∨ k = w.heap.size + 2) w2 (((((w2.setCell ⟨w.heap.size + 1, 0, Option.none⟩ (.int .i64 y.el.id)).setCell ⟨w.heap.size + 1, 1, Option.none⟩ (.string y.el.sp)).setCell ⟨w.heap.size + 1, 2, Option.none⟩ (.string y.el.nm)).setCell ⟨w.heap.size + 1, 3, Option.none⟩ (.slice ka y.ats.length kc)).setCell ⟨w.heap.size + 1 + 1, 0, Option.none⟩ (.bool true)) := by
          refine Keeps.setCell (p := ⟨w.heap.size + 1 + 1, 0, Option.none⟩) ?_ (.inl (.inr rfl)) _
          exact ((((Keeps.refl _ w2).setCell (p := ⟨w.heap.size + 1, 0, Option.none⟩) (.inl (.inl rfl)) _).setCell (p := ⟨w.heap.size + 1, 1, Option.none⟩) (.inl (.inl rfl)) _).setCell (p := ⟨w.heap.size + 1, 2, Option.none⟩) (.inl (.inl rfl)) _).setCell (p := ⟨w.heap.size + 1, 3, Option.none⟩) (.inl (.inl rfl)) _
        refine ⟨KeepsOthers.from (KeepsOthers.trans (below_others HKB.out) ?_) _, ⟨rfl, pre, x, rfl, HP.out, by rw [HY.out]; exact HPP.out, ?_⟩, ?_⟩
        · exact (((((KeepsOthers.refl w2).trans (KeepsOthers.setCell _ _ _)).trans (KeepsOthers.setCell _ _ _)).trans (KeepsOthers.setCell _ _ _)).trans (KeepsOthers.setCell _ _ _)).trans (KeepsOthers.setCell _ _ _)
        · rw [HY.out]
          refine ⟨ka, kc, by simp [go_sem, k0], by simp [go_sem, k1], by simp [go_sem, k2], by simp [go_sem, k3], by simp [go_sem, t0], HKA.out.keeps hS ?_, fun q o e => ?_⟩
          · intro _ q o n c e hq
            injection e with e1
            have h1 := HKQ.out q o e1
            have h2 := HBB.out.size
            omega
          · have h1 := HKQ.out q o e
            have h2 := hS.size
            have h3 := HBB.out.size
            exact ⟨by omega, by omega⟩
        · exact (HBW.out.trans (HKB.out.mono HBW.out.size)).trans (hS.below (B := w.heap.size) (by omega) (fun k hk => by rcases hk with rfl | rfl <;> omega))
    case done =>
      rintro D ys W hD rfl ⟨hp, hB⟩ hK
      have hBw : Below w.heap.size w W := HL1.out.trans (hB.mono (by omega))
      have hk1 := (hB.block (w.heap.size + 1) (by omega)).trans HB1.out
      have hk2 := (hB.block (w.heap.size + 2) (by omega)).trans HB2.out
      have k0 : W.cell? ⟨w.heap.size + 1, 0, Option.none⟩ = some (.int .i64 0) := by rw [cell_of_row W _ 0 _ _ _ hk1]; rfl
      have k1 : W.cell? ⟨w.heap.size + 1, 1, Option.none⟩ = some (.string ⟨#[]⟩) := by rw [cell_of_row W _ 1 _ _ _ hk1]; rfl
      have k2 : W.cell? ⟨w.heap.size + 1, 2, Option.none⟩ = some (.string ⟨#[]⟩) := by rw [cell_of_row W _ 2 _ _ _ hk1]; rfl
      have k3 : W.cell? ⟨w.heap.size + 1, 3, Option.none⟩ = some (.slice Option.none 0 0) := by rw [cell_of_row W _ 3 _ _ _ hk1]; rfl
      have kf : ∀ o, W.frozen? ⟨w.heap.size + 1, o, Option.none⟩ = false := fun o => by simp [World.frozen?, hk1]
      have t0 : W.cell? ⟨w.heap.size + 1 + 1, 0, Option.none⟩ = some (.bool false) := by rw [cell_of_row W _ 0 _ _ _ hk2]; rfl
      have tf : W.frozen? ⟨w.heap.size + 1 + 1, 0, Option.none⟩ = false := by simp [World.frozen?, show w.heap.size + 1 + 1 = w.heap.size + 2 from rfl, hk2]
      have hws2 : w.heap.size + 2 < W.heap.size := (Array.getElem?_eq_some_iff.1 hk2).1
      have HP := Lib.hid hp
      have HK := Lib.hid hK
      have HBW := Lib.hid hBw
      clear hk1 hk2 hp hK hBw hLn
      gi_wp2
      have hS : Keeps (fun k => k = w.heap.size + 1 ∨ k = w.heap.size + 2) W (((((W.setCell ⟨w.heap.size + 1, 0, Option.none⟩ (.int .i64 0)).setCell ⟨w.heap.size + 1, 1, Option.none⟩ (.string ⟨#[]⟩)).setCell ⟨w.heap.size + 1, 2, Option.none⟩ (.string ⟨#[]⟩)).setCell ⟨w.heap.size + 1, 3, Option.none⟩ (.slice Option.none 0 0)).setCell ⟨w.heap.size + 1 + 1, 0, Option.none⟩ (.bool false)) := by
        refine Keeps.setCell (p := ⟨w.heap.size + 1 + 1, 0, Option.none⟩) ?_ (.inl (.inr rfl)) _
        exact ((((Keeps.refl _ W).setCell (p := ⟨w.heap.size + 1, 0, Option.none⟩) (.inl (.inl rfl)) _).setCell (p := ⟨w.heap.size + 1, 1, Option.none⟩) (.inl (.inl rfl)) _).setCell (p := ⟨w.heap.size + 1, 2, Option.none⟩) (.inl (.inl rfl)) _).setCell (p := ⟨w.heap.size + 1, 3, Option.none⟩) (.inl (.inl rfl)) _
      have hO : KeepsOthers W (((((W.setCell ⟨w.heap.size + 1, 0, Option.none⟩ (.int .i64 0)).setCell ⟨w.heap.size + 1, 1, Option.none⟩ (.string ⟨#[]⟩)).setCell ⟨w.heap.size + 1, 2, Option.none⟩ (.string ⟨#[]⟩)).setCell ⟨w.heap.size + 1, 3, Option.none⟩ (.slice Option.none 0 0)).setCell ⟨w.heap.size + 1 + 1, 0, Option.none⟩ (.bool false)) :=
        (((((KeepsOthers.refl W).trans (KeepsOthers.setCell _ _ _)).trans (KeepsOthers.setCell _ _ _)).trans (KeepsOthers.setCell _ _ _)).trans (KeepsOthers.setCell _ _ _)).trans (KeepsOthers.setCell _ _ _)
      have x0 : (((((W.setCell ⟨w.heap.size + 1, 0, Option.none⟩ (.int .i64 0)).setCell ⟨w.heap.size + 1, 1, Option.none⟩ (.string ⟨#[]⟩)).setCell ⟨w.heap.size + 1, 2, Option.none⟩ (.string ⟨#[]⟩)).setCell ⟨w.heap.size + 1, 3, Option.none⟩ (.slice Option.none 0 0)).setCell ⟨w.heap.size + 1 + 1, 0, Option.none⟩ (.bool false)).cell? ⟨w.heap.size + 1, 0, Option.none⟩ = some (.int .i64 0) := by simp [go_sem, k0]
      have x1 : (((((W.setCell ⟨w.heap.size + 1, 0, Option.none⟩ (.int .i64 0)).setCell ⟨w.heap.size + 1, 1, Option.none⟩ (.string ⟨#[]⟩)).setCell ⟨w.heap.size + 1, 2, Option.none⟩ (.string ⟨#[]⟩)).setCell ⟨w.heap.size + 1, 3, Option.none⟩ (.slice Option.none 0 0)).setCell ⟨w.heap.size + 1 + 1, 0, Option.none⟩ (.bool false)).cell? ⟨w.heap.size + 1, 1, Option.none⟩ = some (.string ⟨#[]⟩) := by simp [go_sem, k1]
      have x2 : (((((W.setCell ⟨w.heap.size + 1, 0, Option.none⟩ (.int .i64 0)).setCell ⟨w.heap.size + 1, 1, Option.none⟩ (.string ⟨#[]⟩)).setCell ⟨w.heap.size + 1, 2, Option.none⟩ (.string ⟨#[]⟩)).setCell ⟨w.heap.size + 1, 3, Option.none⟩ (.slice Option.none 0 0)).setCell ⟨w.heap.size + 1 + 1, 0, Option.none⟩ (.bool false)).cell? ⟨w.heap.size + 1, 2, Option.none⟩ = some (.string ⟨#[]⟩) := by simp [go_sem, k2]
      have x3 : (((((W.setCell ⟨w.heap.size + 1, 0, Option.none⟩ (.int .i64 0)).setCell ⟨w.heap.size + 1, 1, Option.none⟩ (.string ⟨#[]⟩)).setCell ⟨w.heap.size + 1, 2, Option.none⟩ (.string ⟨#[]⟩)).setCell ⟨w.heap.size + 1, 3, Option.none⟩ (.slice Option.none 0 0)).setCell ⟨w.heap.size + 1 + 1, 0, Option.none⟩ (.bool false)).cell? ⟨w.heap.size + 1, 3, Option.none⟩ = some (.slice Option.none 0 0) := by simp [go_sem, k3]
      have xt : (((((W.setCell ⟨w.heap.size + 1, 0, Option.none⟩ (.int .i64 0)).setCell ⟨w.heap.size + 1, 1, Option.none⟩ (.string ⟨#[]⟩)).setCell ⟨w.heap.size + 1, 2, Option.none⟩ (.string ⟨#[]⟩)).setCell ⟨w.heap.size + 1, 3, Option.none⟩ (.slice Option.none 0 0)).setCell ⟨w.heap.size + 1 + 1, 0, Option.none⟩ (.bool false)).cell? ⟨w.heap.size + 2, 0, Option.none⟩ = some (.bool false) := by simp [go_sem, t0]
      generalize ((((W.setCell ⟨w.heap.size + 1, 0, Option.none⟩ (.int .i64 0)).setCell ⟨w.heap.size + 1, 1, Option.none⟩ (.string ⟨#[]⟩)).setCell ⟨w.heap.size + 1, 2, Option.none⟩ (.string ⟨#[]⟩)).setCell ⟨w.heap.size + 1, 3, Option.none⟩ (.slice Option.none 0 0)).setCell ⟨w.heap.size + 1 + 1, 0, Option.none⟩ (.bool false) = X at *
      have hK' := hO.same D _ HK.out rfl
      refine ⟨by simp, .inl ⟨_, _, rfl, run_takeDeferred hK', ?_⟩⟩
      have hr9 : ∀ r, some D = some r → ∃ o : Obj, X.heap[r]? = some o ∧ o.isCells = false := fun r e => by cases e; exact ⟨_, hK', rfl⟩
      have y0 := cell_kept x0 (grownBy_putObj' _ D (.deferred Option.none)) hr9
      have y1 := cell_kept x1 (grownBy_putObj' _ D (.deferred Option.none)) hr9
      have y2 := cell_kept x2 (grownBy_putObj' _ D (.deferred Option.none)) hr9
      have y3 := cell_kept x3 (grownBy_putObj' _ D (.deferred Option.none)) hr9
      have yt := cell_kept xt (grownBy_putObj' _ D (.deferred Option.none)) hr9
      refine ⟨.tuple #[.agg #[.int .i64 0, .string ⟨#[]⟩, .string ⟨#[]⟩, .slice Option.none 0 0], .bool false], ?_, by rw [find_none HP.out]; exact ⟨Option.none, 0, rfl, .inl ⟨rfl, _, _, rfl⟩, (fun q o e => by cases e), (HBW.out.trans (hS.below (B := w.heap.size) (by omega) (fun k hk => by rcases hk with rfl | rfl <;> omega))).trans (belowK_b (w := w) (Nat.le_refl _) X D _ _ (by have := HL1.out.size; omega) hK' rfl rfl)⟩⟩
      simp [results, Try.f11, go_sem, y0, y1, y2, y3, yt]
    case stop =>
      rintro D c pre W hD ⟨k, hk, rfl⟩ ⟨⟨rfl, ini, last, e1, e2, e3, hcr⟩, hB⟩ hK
      have hfs := find_some (P := fun x => x.el.nm.toList == nm.toList) hk e1 e2 e3
      have HFS := Lib.hid hfs
      clear hfs e1 e2 e3
      gi_wp2
      refine ⟨by simp, .inl ⟨_, _, rfl, run_takeDeferred hK, ?_⟩⟩
      obtain ⟨ka, kc, c0, c1, c2, c3, ct, hka, hkq⟩ := Got.kept hcr (grownBy_putObj' _ D (.deferred Option.none)) (fun r e => by cases e; exact ⟨_, hK, rfl⟩)
      refine ⟨.tuple #[.agg #[.int .i64 (revF zs last).2.el.id, .string (revF zs last).2.el.sp, .string (revF zs last).2.el.nm, .slice ka (revF zs last).2.ats.length kc], .bool true], ?_, by rw [HFS.out]; exact ⟨ka, kc, rfl, hka, hkq, hB.trans (belowK_b (w := w) (Nat.le_refl _) W D _ _ (by have := HL1.out.size; omega) hK rfl rfl)⟩⟩
      simp [results, Try.f11, go_sem, c0, c1, c2, c3, ct]
end Go.Proofs.Ytmhofhblgcjihaa
