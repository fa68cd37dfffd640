/- What 'found' does: from the top down, to where a scope ends. -/
import Derived.Laws.EntriesVeiled
import Derived.Test.YtibfiblajicdpaaDoorL
import Derived.Test.YtibfiblajicdpaaDoorF
import Derived.Test.YtibfiblajicdpaaDoorJ
namespace Go.Proofs.YtibfiblajicdpaaDoor
open Go Go.RowKit Go.Shelf

attribute [local go_sem] Oper.semAt_some

/-- a function value that answers P of an element in every world behind w0 -/
structure WhC (g : Nat) (lb : Array Value) (P : El → Bool) (w0 : World) : Prop where
  enters : ∀ args (w : World), (callFunc g args).run Tryd.prog w = .ok (.enter g args) w
  calls : ∀ (x : El) (W : World), Below w0.heap.size w0 W → Calls Tryd.prog g (#[.agg #[.int .i64 x.id, .string x.sp, .string x.nm]] ++ lb) W fun e W' => e = .returned (.bool (P x)) ∧ Below W.heap.size W W'

/-- from the top down: one that is meant, ahead of the first one at which the scope ends -/
def foundB (P E : El → Bool) : List El → Bool
  | [] => false
  | x :: r => if P x then true else if E x then false else foundB P E r

def endE (scope : Int) (x : El) : Bool := endsB scope x.sp x.nm

theorem found_app {P E : El → Bool} : ∀ (a r : List El), (∀ x ∈ a, P x = false ∧ E x = false) → foundB P E (a ++ r) = foundB P E r
  | [], r, _ => rfl
  | x :: a, r, h => by
    have hx := h x (by simp)
    simp only [List.cons_append, foundB, hx.1, hx.2, Bool.false_eq_true, if_false]
    exact found_app a r (fun y hy => h y (by simp [hy]))

/-- the elements, from the top down -/
theorem upto_rev (l : List El) (k : Nat) (hk : k ≤ l.length) : (upto l k).map (fun p => p.2) = l.reverse.take k := by
  apply List.ext_getElem
  · simp [upto, hk]
  · intro i h1 h2
    have hi : i < k := by simp [upto] at h1; exact h1
    simp only [upto, revF, List.map_map, List.getElem_map, List.getElem_range, Function.comp, List.getElem_take, List.getElem_reverse]
    rw [List.getElem?_eq_getElem (by omega)]
    rfl

theorem found_none {P : El → Bool} {scope : Int} {l : List El} (hp : ∀ p ∈ upto l l.length, P p.2 = false ∧ endE scope p.2 = false) : foundB P (endE scope) l.reverse = false := by
  have h := upto_rev l l.length (Nat.le_refl _)
  rw [List.take_of_length_le (by simp)] at h
  have := found_app (P := P) (E := endE scope) l.reverse [] (fun x hx => by
    rw [← h] at hx
    obtain ⟨p, hp1, rfl⟩ := List.mem_map.1 hx
    exact hp p hp1)
  rw [List.append_nil] at this
  exact this

theorem found_some {P : El → Bool} {scope : Int} {l : List El} {k : Nat} {ini : List (Nat × El)} {last : Nat × El} {r : Bool} (hk : k ≤ l.length) (e1 : upto l k = ini ++ [last]) (e2 : ∀ p ∈ ini, P p.2 = false ∧ endE scope p.2 = false)
    (e3 : (P last.2 = true ∧ r = true) ∨ (P last.2 = false ∧ endE scope last.2 = true ∧ r = false)) : foundB P (endE scope) l.reverse = r := by
  have h := upto_rev l k hk
  rw [e1] at h
  rw [← List.take_append_drop k l.reverse, ← h, List.map_append, List.append_assoc]
  rw [found_app _ _ (fun x hx => by obtain ⟨p, hp, rfl⟩ := List.mem_map.1 hx; exact e2 p hp)]
  rcases e3 with ⟨h1, rfl⟩ | ⟨h1, h2, rfl⟩
  · simp [foundB, h1]
  · simp [foundB, h1, h2]

set_option maxRecDepth 100000 in
set_option maxHeartbeats 4000000 in
theorem found_any (g : Nat) (lb : Array Value) (P : El → Bool) (b : Nat) (v : Value) (l : List El) (scope : Int) (w : World) (hg : Glob w) (hs : Stk w b v l) (hC : WhC g lb P w) :
    Calls Tryd.prog 22 #[.pointer (some ⟨b, 0, Option.none⟩), .int .u8 scope, .func (.func g) #[] lb] w fun e w' => e = .returned (.bool (foundB P (endE scope) l.reverse)) ∧ Below w.heap.size w w' := by
  refine (callsIn_wide (n := 4)).1 ?_
  refine callsIn_of_wp_marks Tryd.func22 rfl trivial ?_ rfl
  simp only [Tryd.ntmps22, List.size_toArray, List.length_cons, List.length_nil, Nat.reduceAdd, Nat.reduceSub, Array.replicate_succ, Array.replicate_zero, List.push_toArray, List.append_toArray, List.nil_append, List.cons_append]
  have hc := hs.cell
  have hblt := hs.lt b (.inl rfl)
  have heg := hC.enters
  have HC := Lib.hid hC.calls
  clear hC
  have hg1 := (hg.alloc (.cells #[.func (.func g) #[] lb] 56)).alloc (.cells #[.bool false] 4)
  have hw1 : Below w.heap.size w ((w.alloc (.cells #[.func (.func g) #[] lb] 56)).alloc (.cells #[.bool false] 4)) := ((Below.refl _ _).alloc (Nat.le_refl _) _).alloc (by simp) _
  gi_wp2_with fail
  refine ⟨trivial, (callsIn_wide.2 (ends_any scope _ hg1)).mono ?_⟩
  rintro e w1 ⟨g2, lb2, rfl, hE, hb1⟩
  have hw2 : Below w.heap.size w w1 := hw1.trans (hb1.mono (by simp; omega))
  have hc1 := (hw2.cell (p := ⟨b, 0, Option.none⟩) hblt).trans hc
  have hs1 := hs.below hw2
  have hb2 : b < w1.heap.size := hs1.lt b (.inl rfl)
  obtain ⟨va, vn, vc, rfl⟩ : ∃ a n c, v = .slice a n c := by
    rcases hs.form with ⟨rfl, _⟩ | ⟨g', cap, rfl, _⟩
    · exact ⟨_, _, _, rfl⟩
    · exact ⟨_, _, _, rfl⟩
  gi_wp2_with fail
  refine ⟨trivial, (backward_in Fence.wide _ trivial rfl _ _ _ _).mono ?_⟩
  rintro e w' ⟨rfl, rfl⟩
  gi_wp2_with fail
  have hsz1 : w.heap.size + 2 ≤ w1.heap.size := by have := hb1.size; simp at this; omega
  have hL1 : Below w1.heap.size w1 ((w1.alloc (.cells #[.func (.func g2) #[] lb2] 56)).alloc (.cells #[.slice va vn vc] 22)) := ((Below.refl _ _).alloc (Nat.le_refl _) _).alloc (by simp) _
  have hLs : ((w1.alloc (.cells #[.func (.func g2) #[] lb2] 56)).alloc (.cells #[.slice va vn vc] 22)).heap.size = w1.heap.size + 2 := by simp
  have k0 : w1.cell? ⟨w.heap.size, 0, Option.none⟩ = some (.func (.func g) #[] lb) := (hb1.cell (p := ⟨w.heap.size, 0, Option.none⟩) (by simp; omega)).trans (by simp [go_sem])
  have k1 : w1.cell? ⟨w.heap.size + 1, 0, Option.none⟩ = some (.bool false) := (hb1.cell (p := ⟨w.heap.size + 1, 0, Option.none⟩) (by simp)).trans (by simp [go_sem])
  have k2 : w1.frozen? ⟨w.heap.size + 1, 0, Option.none⟩ = false := (hb1.frozen (p := ⟨w.heap.size + 1, 0, Option.none⟩) (by simp)).trans (by simp [go_sem])
  have m0 := (hL1.cell (p := ⟨w.heap.size, 0, Option.none⟩) (by show w.heap.size < _; omega)).trans k0
  have m1 := (hL1.cell (p := ⟨w.heap.size + 1, 0, Option.none⟩) (by show w.heap.size + 1 < _; omega)).trans k1
  have m2 := (hL1.frozen (p := ⟨w.heap.size + 1, 0, Option.none⟩) (by show w.heap.size + 1 < _; omega)).trans k2
  have m3 : ((w1.alloc (.cells #[.func (.func g2) #[] lb2] 56)).alloc (.cells #[.slice va vn vc] 22)).cell? ⟨w1.heap.size, 0, Option.none⟩ = some (.func (.func g2) #[] lb2) := by simp [go_sem]
  have m4 : ((w1.alloc (.cells #[.func (.func g2) #[] lb2] 56)).alloc (.cells #[.slice va vn vc] 22)).cell? ⟨w1.heap.size + 1, 0, Option.none⟩ = some (.slice va vn vc) := by simp [go_sem]
  have hsL := hs1.below hL1
  generalize hgen : (w1.alloc (.cells #[.func (.func g2) #[] lb2] 56)).alloc (.cells #[.slice va vn vc] 22) = wL at *
  clear hgen
  have heg2 : ∀ args (w : World), (callFunc g2 args).run Tryd.prog w = .ok (.enter g2 args) w := hE.1
  have hE' : ∀ (x : El) (W : World), Below wL.heap.size wL W → Calls Tryd.prog g2 (#[.agg #[.int .i64 x.id, .string x.sp, .string x.nm]] ++ lb2) W fun e W' => e = .returned (.bool (endE scope x)) ∧ Below W.heap.size W W' := fun x W hW => hE.2 x.id x.sp x.nm W (hL1.trans (hW.mono (by omega)))
  have HE := Lib.hid hE'
  clear hE hE'
  have hwL : Below w.heap.size w wL := hw2.trans (hL1.mono (by omega))
  refine wpIn_rangeFunc_ownH (α := Nat × El) rfl (by omega) (gf := 69) (lb := #[.pointer (some ⟨w1.heap.size + 1, 0, Option.none⟩)]) rfl trivial (enters_of Tryd.func69 (by kernel_rfl) rfl)
    (backward_stops Fence.wide _ trivial rfl (by omega) (w1.heap.size + 1) wL.heap.size b _ l wL (by omega) (Nat.le_refl _) m4 hsL hsL.lt) belowK_t (belowK_b (Nat.le_refl _)) (Below.refl _ _) (fun _ => rfl)
    (fun pre W => (∀ p ∈ pre, P p.2 = false ∧ endE scope p.2 = false) ∧ Below wL.heap.size wL W)
    (fun c pre W => (c = .ret ∧ ∃ ini last r, pre = ini ++ [last] ∧ (∀ p ∈ ini, P p.2 = false ∧ endE scope p.2 = false) ∧ ((P last.2 = true ∧ r = true) ∨ (P last.2 = false ∧ endE scope last.2 = true ∧ r = false)) ∧ W.cell? ⟨w.heap.size + 1, 0, Option.none⟩ = some (.bool r)) ∧ Below w.heap.size w W)
    (OwnFrom.and (ownFrom_pure _ _) (ownFrom_below (Nat.le_refl _) (Nat.le_refl _)))
    (fun c => OwnFrom.and (Own.from (fun s A B row hs hg hr => by obtain ⟨hc, ini, last, r, e1, e2, e3, e4⟩ := hs; exact ⟨hc, ini, last, r, e1, e2, e3, cell_kept e4 hg hr⟩) _) (ownFrom_below (Nat.le_refl _) hwL.size))
    ⟨by simp, Below.refl _ _⟩
    (fun x a' W => ∃ Bx, wL.heap.size ≤ Bx ∧ W.heap[Bx]? = some (.cells #[.int .i64 x.2.id, .string x.2.sp, .string x.2.nm] 30 (0, 0)) ∧ a' = { tmps := #[.pointer (some ⟨b, 0, Option.none⟩), .int .u8 scope, .func (.func g) #[] lb, undef, undef, .pointer (some ⟨w.heap.size, 0, Option.none⟩), .pointer (some ⟨w.heap.size + 1, 0, Option.none⟩), .pointer (some ⟨w1.heap.size, 0, Option.none⟩), undef, .pointer (some ⟨Bx, 0, Option.none⟩), .int .u8 scope, .func (.func g2) #[] lb2, .pointer (some ⟨b, 0, Option.none⟩), .pointer (some ⟨b, 0, Option.none⟩), .pointer (some ⟨b, 0, Option.none⟩), .slice va vn vc, .func (.func 69) #[] #[.pointer (some ⟨w1.heap.size + 1, 0, Option.none⟩)], .int .i64 (x.1 : Int), .agg #[.int .i64 x.2.id, .string x.2.sp, .string x.2.nm], undef, undef, undef, undef, undef, undef], defers := [] })
    (fun x a' s A B row hs hg hr => by
      obtain ⟨Bx, h1, h2, h3⟩ := hs
      refine ⟨Bx, h1, ?_, h3⟩
      rw [hg.block Bx (Array.getElem?_eq_some_iff.1 h2).1 (fun e => by obtain ⟨_, o, ho, hcl⟩ := hr Bx e.symm; rw [h2] at ho; cases ho; cases hcl)]; exact h2)
    ?assign ?body ?done ?stop
  case assign =>
    rintro l' pre x W K ⟨hp, hB⟩ hK
    dsimp only [encB]
    gi_wp2
    exact hK _ _ ((KeepsOthers.alloc _ _).from _) ((Below.refl _ W).alloc hB.size _) ⟨hp, hB.alloc hB.size _⟩ ⟨W.heap.size, hB.size, heap_alloc_new W _, rfl⟩
  case body =>
    rintro l' pre x a' W hl' ⟨r, hr⟩ ⟨hp, hB⟩ ⟨Bx, hBx1, hBx, rfl⟩ hlt
    have hBxl : Bx < W.heap.size := (Array.getElem?_eq_some_iff.1 hBx).1
    have q0 : W.cell? ⟨Bx, 0, Option.none⟩ = some (.int .i64 x.2.id) := by rw [cell_of_row W Bx 0 _ _ _ hBx]; rfl
    have q1 : W.cell? ⟨Bx, 1, Option.none⟩ = some (.string x.2.sp) := by rw [cell_of_row W Bx 1 _ _ _ hBx]; rfl
    have q2 : W.cell? ⟨Bx, 2, Option.none⟩ = some (.string x.2.nm) := by rw [cell_of_row W Bx 2 _ _ _ hBx]; rfl
    have r0 := (hB.cell (p := ⟨w.heap.size, 0, Option.none⟩) (by show w.heap.size < _; omega)).trans m0
    have r1 := (hB.cell (p := ⟨w.heap.size + 1, 0, Option.none⟩) (by show w.heap.size + 1 < _; omega)).trans m1
    have r2 := (hB.frozen (p := ⟨w.heap.size + 1, 0, Option.none⟩) (by show w.heap.size + 1 < _; omega)).trans m2
    have r3 := (hB.cell (p := ⟨w1.heap.size, 0, Option.none⟩) (by show w1.heap.size < _; omega)).trans m3
    have hBw : Below w.heap.size w W := hwL.trans (hB.mono (by omega))
    have HH := Lib.hid hr
    clear hr hBx m0 m1 m2 m3 m4
    gi_wp2_with fail
    refine ⟨trivial, (CallsIn.inRound l' (callsIn_wide.2 (HC.out x.2 W hBw))).mono ?_⟩
    rintro e W2 ⟨rfl, hb2'⟩
    have c0 := (hb2'.cell (p := ⟨Bx, 0, Option.none⟩) hBxl).trans q0
    have c1 := (hb2'.cell (p := ⟨Bx, 1, Option.none⟩) hBxl).trans q1
    have c2 := (hb2'.cell (p := ⟨Bx, 2, Option.none⟩) hBxl).trans q2
    have s1 := (hb2'.cell (p := ⟨w.heap.size + 1, 0, Option.none⟩) (by show w.heap.size + 1 < _; have := hB.size; omega)).trans r1
    have s2 := (hb2'.frozen (p := ⟨w.heap.size + 1, 0, Option.none⟩) (by show w.heap.size + 1 < _; have := hB.size; omega)).trans r2
    have s3 := (hb2'.cell (p := ⟨w1.heap.size, 0, Option.none⟩) (by show w1.heap.size < _; have := hB.size; omega)).trans r3
    have hK2 : KeepsFrom wL.heap.size W W2 := ⟨hb2'.size, fun k o _ hk _ => (hb2'.block k (Array.getElem?_eq_some_iff.1 hk).1).trans hk⟩
    have hB2 : Below wL.heap.size wL W2 := hB.trans (hb2'.mono hB.size)
    have hBw2 : Below w.heap.size w W2 := hwL.trans (hB2.mono (by omega))
    cases hP : P x.2
    · have HP := Lib.hid hP
      clear hP
      gi_wp2_with fail
      refine ⟨trivial, (CallsIn.inRound l' (callsIn_wide.2 (HE.out x.2 W2 hB2))).mono ?_⟩
      rintro e W3 ⟨rfl, hb3⟩
      have t1 := (hb3.cell (p := ⟨w.heap.size + 1, 0, Option.none⟩) (by show w.heap.size + 1 < _; have := hB2.size; omega)).trans s1
      have t2 := (hb3.frozen (p := ⟨w.heap.size + 1, 0, Option.none⟩) (by show w.heap.size + 1 < _; have := hB2.size; omega)).trans s2
      have hK3 : KeepsFrom wL.heap.size W2 W3 := ⟨hb3.size, fun k o _ hk _ => (hb3.block k (Array.getElem?_eq_some_iff.1 hk).1).trans hk⟩
      have hB3 : Below wL.heap.size wL W3 := hB2.trans (hb3.mono hB2.size)
      have hBw3 : Below w.heap.size w W3 := hwL.trans (hB3.mono (by omega))
      cases hEx : endE scope x.2
      · have HEx := Lib.hid hEx
        clear hEx
        gi_wp2
        refine ⟨hK2.trans hK3, (hb2'.mono hB.size).trans (hb3.mono hB2.size), ?_, hB3⟩
        intro p hp'
        rcases List.mem_append.1 hp' with h | h
        · exact hp p h
        · simp at h; subst h; exact ⟨HP.out, HEx.out⟩
      · have HEx := Lib.hid hEx
        clear hEx
        gi_wp2
        refine ⟨(hK2.trans hK3).trans ((KeepsOthers.setCell _ _ _).from _), ⟨rfl, pre, x, false, rfl, hp, .inr ⟨HP.out, HEx.out, rfl⟩, ?_⟩, ?_⟩
        · exact World.cell?_setCell_same' _ _ _ (by rw [t1]; rfl)
        · exact hBw3.setCell (p := ⟨w.heap.size + 1, 0, Option.none⟩) (Nat.le_succ _) _
    · have HP := Lib.hid hP
      clear hP
      gi_wp2
      refine ⟨hK2.trans ((KeepsOthers.setCell _ _ _).from _), ⟨rfl, pre, x, true, rfl, hp, .inl ⟨HP.out, rfl⟩, ?_⟩, ?_⟩
      · exact World.cell?_setCell_same' _ _ _ (by rw [s1]; rfl)
      · exact hBw2.setCell (p := ⟨w.heap.size + 1, 0, Option.none⟩) (Nat.le_succ _) _
  case done =>
    rintro D ys W hD rfl ⟨hp, hB⟩ hK
    have r1 := (hB.cell (p := ⟨w.heap.size + 1, 0, Option.none⟩) (by show w.heap.size + 1 < _; omega)).trans m1
    have r2 := (hB.frozen (p := ⟨w.heap.size + 1, 0, Option.none⟩) (by show w.heap.size + 1 < _; omega)).trans m2
    have hBw : Below w.heap.size w W := hwL.trans (hB.mono (by omega))
    have HK := Lib.hid hK
    clear hK m0 m1 m2 m3 m4
    gi_wp2
    have hK' := (KeepsOthers.setCell W ⟨w.heap.size + 1, 0, Option.none⟩ (.bool false)).same D _ HK.out rfl
    refine ⟨by simp, .inl ⟨_, _, rfl, run_takeDeferred hK', ?_⟩⟩
    have hc5 := cell_kept (World.cell?_setCell_same' W ⟨w.heap.size + 1, 0, Option.none⟩ (.bool false) (by rw [r1]; rfl)) (grownBy_putObj' _ D (.deferred Option.none)) (fun r e => by cases e; exact ⟨_, hK', rfl⟩)
    refine ⟨.bool false, ?_, ret_bool (found_none hp).symm, (hBw.setCell (p := ⟨w.heap.size + 1, 0, Option.none⟩) (Nat.le_succ _) _).trans (belowK_b (w := w) (Nat.le_refl _) _ D _ _ (by have := hwL.size; omega) hK' rfl rfl)⟩
    simp [results, Tryd.f22, go_sem, hc5]
  case stop =>
    rintro D c pre W hD ⟨k, hk, rfl⟩ ⟨⟨rfl, ini, last, r, e1, e2, e3, hcr⟩, hB⟩ hK
    gi_wp2
    refine ⟨by simp, .inl ⟨_, _, rfl, run_takeDeferred hK, ?_⟩⟩
    have hc5 := cell_kept hcr (grownBy_putObj' _ D (.deferred Option.none)) (fun r e => by cases e; exact ⟨_, hK, rfl⟩)
    refine ⟨.bool r, ?_, ret_bool (found_some hk e1 e2 e3).symm, hB.trans (belowK_b (w := w) (Nat.le_refl _) W D _ _ (by have := hwL.size; omega) hK rfl rfl)⟩
    simp [results, Tryd.f22, go_sem, hc5]
end Go.Proofs.YtibfiblajicdpaaDoor
