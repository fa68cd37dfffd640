/- Joined texts: Jn Jo Jp. Each begins with its own remark. -/
import Derived.Test.YtckaoeloofbklaaGreatDoorWl
set_option maxRecDepth 100000
set_option maxHeartbeats 16000000
namespace Go.Proofs.YtckaoeloofbklaaGreatDoor
open Go Go.RowKit Go.Lib
theorem infoV : (Tryz.prog.info? 27).map (fun i => (i.zero, i.size, i.bytes)) = some (some (.agg #[.int .u8 0, .bool false, .int .i64 0, .int .u64 0, .string ⟨#[]⟩, .slice none 0 0, .slice none 0 0]), 7, 88) := by kernel_rfl
theorem app_at {v : Value} {g m cap H : Nat} (hat : v.ownBlock = some g ∨ g = H) : ∀ g', (Value.slice (some ⟨g, 0, none⟩) m cap).ownBlock = some g' → v.ownBlock = some g' ∨ H ≤ g' := by
 intro g' e
 have : g = g' := by simpa [Value.ownBlock] using e
 subst this
 exact hat.imp id (fun h => Nat.le_of_eq h.symm)
def fill7w (w : World) (g o : Nat) (y0 y1 y2 y3 y4 y5 y6 : Value) : World :=
 ((((((w.setCell ⟨g, o, none⟩ y0).setCell ⟨g, o + 1, none⟩ y1).setCell ⟨g, o + 2, none⟩ y2).setCell ⟨g, o + 3, none⟩ y3).setCell ⟨g, o + 4, none⟩ y4).setCell ⟨g, o + 5, none⟩ y5).setCell ⟨g, o + 6, none⟩ y6
def z7 : List Value := [.int .u8 0, .bool false, .int .i64 0, .int .u64 0, .string ⟨#[]⟩, .slice none 0 0, .slice none 0 0]
theorem row_cells7 {W : World} {B : Nat} {e : TypeId} {g n cap : Nat} {xs : List Value} (h : W.ownsRow B e 7 (.slice (some ⟨g, 0, none⟩) (n + 1) cap) (n + 1) (xs ++ z7)) (hx : xs.length = n * 7) :
  W.cell? ⟨g, n * 7, none⟩ = some (.int .u8 0) ∧ W.cell? ⟨g, n * 7 + 1, none⟩ = some (.bool false) ∧ W.cell? ⟨g, n * 7 + 2, none⟩ = some (.int .i64 0) ∧ W.cell? ⟨g, n * 7 + 3, none⟩ = some (.int .u64 0) ∧ W.cell? ⟨g, n * 7 + 4, none⟩ = some (.string ⟨#[]⟩) ∧ W.cell? ⟨g, n * 7 + 5, none⟩ = some (.slice none 0 0) ∧ W.cell? ⟨g, n * 7 + 6, none⟩ = some (.slice none 0 0) := by
 have hc := h.cells (g := g) rfl
 have key : ∀ i u, z7[i]? = some u → W.cell? ⟨g, n * 7 + i, none⟩ = some u := fun i u hu => by
  have := hc (n * 7 + i) u (by rw [List.getElem?_append_right (by omega), hx, Nat.add_sub_cancel_left]; exact hu)
  have hadd : (⟨g, 0, none⟩ : Addr).add (n * 7 + i) = ⟨g, n * 7 + i, none⟩ := by unfold Addr.add; split <;> simp_all
  rwa [hadd] at this
 exact ⟨key 0 _ rfl, key 1 _ rfl, key 2 _ rfl, key 3 _ rfl, key 4 _ rfl, key 5 _ rfl, key 6 _ rfl⟩
theorem set_app (xs : List Value) (o i : Nat) (hx : xs.length = o) (ys : List Value) (u : Value) : (xs ++ ys).set (o + i) u = xs ++ ys.set i u := by
 subst hx
 rw [List.set_append_right _ _ (by omega), Nat.add_sub_cancel_left]
section
variable {r : Nat} {s : ByteArray} {d b rb : Nat} {w0 : World} {k : Int} {slk : Value} {ks : List ByteArray} {t : List UInt8} {slb : Value} {g n cap : Nat} {xs : List Value} {l : List JV} {Vs : List Value} {W : World}
theorem LS.fill {m : Nat} (h : LS r s d b rb w0 k slk ks t slb (.slice (some ⟨g, 0, none⟩) m cap) m xs l Vs W) (j : Nat) (u : Value) : LS r s d b rb w0 k slk ks t slb (.slice (some ⟨g, 0, none⟩) m cap) m (xs.set j u) l Vs (W.setCell ⟨g, j, none⟩ u) := by
 obtain ⟨h1, h2⟩ := h.row.stored j u
 exact h.app h1 h2 (fun g' e => .inl e)
theorem LS.fill7 (h : LS r s d b rb w0 k slk ks t slb (.slice (some ⟨g, 0, none⟩) (n + 1) cap) (n + 1) (xs ++ z7) l Vs W) (hx : xs.length = n * 7) (y0 y1 y2 y3 y4 y5 y6 : Value) :
  LS r s d b rb w0 k slk ks t slb (.slice (some ⟨g, 0, none⟩) (n + 1) cap) (n + 1) (xs ++ [y0, y1, y2, y3, y4, y5, y6]) l Vs (fill7w W g (n * 7) y0 y1 y2 y3 y4 y5 y6) := by
 have h7 := ((((((h.fill (n * 7 + 0) y0).fill (n * 7 + 1) y1).fill (n * 7 + 2) y2).fill (n * 7 + 3) y3).fill (n * 7 + 4) y4).fill (n * 7 + 5) y5).fill (n * 7 + 6) y6
 rw [set_app _ _ _ hx, set_app _ _ _ hx, set_app _ _ _ hx, set_app _ _ _ hx, set_app _ _ _ hx, set_app _ _ _ hx, set_app _ _ _ hx] at h7
 exact h7
end
theorem JAll.c7len_take {ok : Nat → Prop} {w : World} {v : JV} {V : Value} : ∀ {l : List JV} {Vs : List Value}, JAll ok w (l ++ [v]) (Vs ++ [V]) → (Vs.flatMap c7).length = l.length * 7
 | [], [], _ => rfl
 | u :: l, U :: Vs, h => by
  obtain ⟨x0, x1, x2, x3, x4, x5, x6, rfl⟩ := h.1.2
  have := JAll.c7len_take (l := l) (Vs := Vs) h.2
  rw [List.flatMap_cons, List.length_append, this]
  simp [c7]; omega
 | [], U :: Vs, h => by
  have h2 : JAll ok w [] (Vs ++ [V]) := h.2
  cases Vs <;> exact h2.elim
 | u :: l, [], h => by
  have h2 : JAll ok w (l ++ [v]) [] := h.2
  cases l <;> exact h2.elim
def List1 (r : Nat) (s : ByteArray) (d b rb : Nat) (w0 : World) (k : Int) (slk : Value) (ks : List ByteArray) (l : List JV) (o : Out JV) (e : Ending) (w' : World) : Prop := match o with
 | .ok v t' => e = .returned (.tuple #[]) ∧ ∃ sl' Vs', LS r s d b rb w0 k slk ks t' sl' sl' (l ++ [v]).length (Vs'.flatMap c7) (l ++ [v]) Vs' w'
 | .err x t' => Gives x (s.size - t'.length) e ∧ KR r w0 w'
theorem list_fin {r : Nat} {s : ByteArray} {d b rb : Nat} {w0 : World} {k : Int} {slk sl : Value} {ks : List ByteArray} {t : List UInt8} {l : List JV} {v : JV} {Vs : List Value} {W : World} {x0 x1 x2 x3 x4 x5 x6 : Value}
  (h : LS r s d b rb w0 k slk ks t sl sl (l.length + 1) (Vs.flatMap c7 ++ [x0, x1, x2, x3, x4, x5, x6]) (l ++ [v]) (Vs ++ [Value.agg #[x0, x1, x2, x3, x4, x5, x6]]) W) :
  LS r s d b rb w0 k slk ks t sl sl (l ++ [v]).length ((Vs ++ [Value.agg #[x0, x1, x2, x3, x4, x5, x6]]).flatMap c7) (l ++ [v]) (Vs ++ [Value.agg #[x0, x1, x2, x3, x4, x5, x6]]) W := by
 rw [List.length_append, List.flatMap_append]
 simpa [c7] using h
theorem list1_any (r : Nat) (s : ByteArray) (d b rb : Nat) (w0 : World) (t : List UInt8) (sl : Value) (l : List JV) (Vs : List Value) (o : Out JV) (w : World) (h : LS r s d b rb w0 6 (.slice none 0 0) [] t sl sl l.length (Vs.flatMap c7) l Vs w) (hsm : (l.length + 1) * 88 ≤ 140737488355328)
  (HC : ∀ W, KR r w0 W → Rd r s t d W → Calls Tryz.prog 25 #[.pointer (some ⟨r, 0, none⟩)] W (ValPost r s d W o)) :
  Calls Tryz.prog 74 #[.pointer (some ⟨b, 0, none⟩), .pointer (some ⟨rb, 0, none⟩)] w (List1 r s d b rb w0 6 (.slice none 0 0) [] l o) := by
 have HC := Lib.hid HC
 have HL0 := Lib.hid (h.below (Below.refl _ _).drew)
 obtain ⟨i0, hi, hz0, hz1, hz2⟩ := info_parts infoV
 have ht : Tryz.prog.underlying 25 = some (.slice 27) := Tryz.underlying25
 obtain ⟨ao, cap0, hsl⟩ : ∃ ao cap, sl = .slice ao l.length cap := by
  rcases h.row.2 with ⟨h1, h2⟩ | ⟨g, cap, cur, h1, _⟩
  ·exact ⟨_, _, by rw [h2]; exact h1⟩
  ·exact ⟨_, _, h1⟩
 clear h
 subst hsl
 go_enter Tryz.func74, Tryz.ntmps74
 refine wp_region_held_drew (S := fun w' => w'.cell? ⟨rb, 0, none⟩ = some (.pointer (some ⟨r, 0, none⟩))) (by kernel_rfl) ?_ (fun hH => ?_)
 ·exact by have := HL0.out.rbx; rw [cell_of_row _ _ 0 _ _ _ this]; rfl
 generalize w.drew = X at *
 have HL := HL0
 clear HL0
 refine wpAnyH_take (i := 0) (v := .pointer (some ⟨b, 6, none⟩)) rfl (by kernel_rfl) (by kernel_rfl) (by kernel_rfl) (fun _ _ _ h => h) (Or.inl ⟨by rfl, ?_⟩) hH ?_
 ·(intro w hSw; (try dsimp only at hSw); go_simp; try rfl)
 try simp only [Act.put, List.setIfInBounds_toArray, List.set_cons_zero, List.set_cons_succ, List.getElem_toArray, List.getElem_cons_zero]
 refine wpAnyH_take (i := 2) (v := .pointer (some ⟨r, 0, none⟩)) rfl (by kernel_rfl) (by kernel_rfl) (by kernel_rfl) (fun _ _ _ h => h) (Or.inl ⟨by rfl, ?_⟩) hH ?_
 ·(intro w hSw; (try dsimp only at hSw); go_simp; try rfl)
 try simp only [Act.put, List.setIfInBounds_toArray, List.set_cons_zero, List.set_cons_succ, List.getElem_toArray, List.getElem_cons_succ, List.getElem_cons_zero]
 refine wpAnyH_ready (rs := [1, 3, 5]) (by kernel_rfl) (by simp) ?_
 refine AllReadyH.cons rfl (fun K hK => ?g1) (AllReadyH.cons rfl (fun K hK => ?g2) (AllReadyH.cons rfl (fun K hK => ?g3) AllReadyH.nil))
 case' g1 =>
  have cb : X.cell? ⟨b, 6, none⟩ = some (.slice ao l.length cap0) := by have := HL.out.box; rw [cell_of_row _ _ 6 _ _ _ this]; rfl
  go_simp
  refine hK.out _ _ hH (fun hH => ?_)
  clear hK K cb
  try simp only [Act.put, List.setIfInBounds_toArray, List.set_cons_zero, List.set_cons_succ, List.getElem_toArray, List.getElem_cons_succ, List.getElem_cons_zero]
  refine wpAnyH_take (i := 4) (v := .int .i64 l.length) rfl (by kernel_rfl) (by kernel_rfl) (by kernel_rfl) (fun _ _ _ h => h) (Or.inl ⟨by rfl, ?_⟩) hH ?_
  ·(intro w hSw; (try dsimp only at hSw); go_simp; try rfl)
  try simp only [Act.put, List.setIfInBounds_toArray, List.set_cons_zero, List.set_cons_succ, List.getElem_toArray, List.getElem_cons_succ, List.getElem_cons_zero]
  refine wpAnyH_ready (rs := [3, 5]) (by kernel_rfl) (by simp) ?_
  refine AllReadyH.cons rfl (fun K hK => ?g4) (AllReadyH.cons rfl (fun K hK => ?g5) AllReadyH.nil)
  case' g4 =>
   go_simp
   refine (HC.out _ HL.out.kr HL.out.rd).mono ?_
   intro e X hp
   rcases o with ⟨v, t'⟩ | ⟨x, tt⟩
   rotate_left
   ·skip
    obtain ⟨hg, hk1⟩ : ValBad _ _ _ _ _ _ _ := hp
    unfold Gives at hg
    subst hg
    exact ⟨rfl, rfl, HL.out.kr.trans hk1⟩
   obtain ⟨V, rfl, hJ, hr1, hk1⟩ : ValOk _ _ _ _ _ _ _ _ := hp
   obtain ⟨vk, vb, vn, vu, vt, vks, vvs⟩ := v
   have hJ2 := hJ
   rw [JAt] at hJ2
   obtain ⟨va, vc, va', vc', rfl, -⟩ := hJ2
   have HL := Lib.hid (HL.out.read hk1 hr1 hJ)
   clear hJ hr1 hk1
   dsimp only
   refine hK.out _ _ (by exact by have := HL.out.rbx; rw [cell_of_row _ _ 0 _ _ _ this]; rfl) (fun hH => ?_)
   clear hK K
   try simp only [Act.put, List.setIfInBounds_toArray, List.set_cons_zero, List.set_cons_succ, List.getElem_toArray, List.getElem_cons_succ, List.getElem_cons_zero]
   refine wpAnyH_ready (rs := [5]) (by kernel_rfl) (by simp) ?_
   refine AllReadyH.cons rfl (fun K hK => ?g6) AllReadyH.nil
   case' g6 =>
    go_simp
    have HQ := Lib.hid (heap_alloc_new X (.cells #[.int .u8 0, .bool false, .int .i64 0, .int .u64 0, .string ⟨#[]⟩, .slice none 0 0, .slice none 0 0] 27))
    have hql : X.heap.size < (X.alloc (.cells #[.int .u8 0, .bool false, .int .i64 0, .int .u64 0, .string ⟨#[]⟩, .slice none 0 0, .slice none 0 0] 27)).heap.size := by simp
    have HQS := Lib.hid HL.out.kr.size
    have HL := Lib.hid (HL.out.below ((Below.refl _ _).alloc (Nat.le_refl _) (.cells #[.int .u8 0, .bool false, .int .i64 0, .int .u64 0, .string ⟨#[]⟩, .slice none 0 0, .slice none 0 0] 27)))
    refine hK.out _ _ (by exact by have := HL.out.rbx; rw [cell_of_row _ _ 0 _ _ _ this]; rfl) (fun hH => ?_)
    clear hK K
    obtain ⟨q, hq⟩ : ∃ q, q = X.heap.size := ⟨_, rfl⟩
    rw [← hq] at HQ hql HQS ⊢
    clear hq
    generalize X.alloc (.cells #[.int .u8 0, .bool false, .int .i64 0, .int .u64 0, .string ⟨#[]⟩, .slice none 0 0, .slice none 0 0] 27) = X at *
    try simp only [Act.put, List.setIfInBounds_toArray, List.set_cons_zero, List.set_cons_succ, List.getElem_toArray, List.getElem_cons_succ, List.getElem_cons_zero]
  case' g5 =>
   go_simp
   have HQ := Lib.hid (heap_alloc_new X (.cells #[.int .u8 0, .bool false, .int .i64 0, .int .u64 0, .string ⟨#[]⟩, .slice none 0 0, .slice none 0 0] 27))
   have hql : X.heap.size < (X.alloc (.cells #[.int .u8 0, .bool false, .int .i64 0, .int .u64 0, .string ⟨#[]⟩, .slice none 0 0, .slice none 0 0] 27)).heap.size := by simp
   have HQS := Lib.hid HL.out.kr.size
   have HL := Lib.hid (HL.out.below ((Below.refl _ _).alloc (Nat.le_refl _) (.cells #[.int .u8 0, .bool false, .int .i64 0, .int .u64 0, .string ⟨#[]⟩, .slice none 0 0, .slice none 0 0] 27)))
   refine hK.out _ _ (by exact by have := HL.out.rbx; rw [cell_of_row _ _ 0 _ _ _ this]; rfl) (fun hH => ?_)
   clear hK K
   obtain ⟨q, hq⟩ : ∃ q, q = X.heap.size := ⟨_, rfl⟩
   rw [← hq] at HQ hql HQS ⊢
   clear hq
   generalize X.alloc (.cells #[.int .u8 0, .bool false, .int .i64 0, .int .u64 0, .string ⟨#[]⟩, .slice none 0 0, .slice none 0 0] 27) = X at *
   try simp only [Act.put, List.setIfInBounds_toArray, List.set_cons_zero, List.set_cons_succ, List.getElem_toArray, List.getElem_cons_succ, List.getElem_cons_zero]
   refine wpAnyH_ready (rs := [3]) (by kernel_rfl) (by simp) ?_
   refine AllReadyH.cons rfl (fun K hK => ?g7) AllReadyH.nil
   case' g7 =>
    go_simp
    refine (HC.out _ HL.out.kr HL.out.rd).mono ?_
    intro e X hp
    rcases o with ⟨v, t'⟩ | ⟨x, tt⟩
    rotate_left
    ·skip
     obtain ⟨hg, hk1⟩ : ValBad _ _ _ _ _ _ _ := hp
     unfold Gives at hg
     subst hg
     exact ⟨rfl, rfl, HL.out.kr.trans hk1⟩
    obtain ⟨V, rfl, hJ, hr1, hk1⟩ : ValOk _ _ _ _ _ _ _ _ := hp
    obtain ⟨vk, vb, vn, vu, vt, vks, vvs⟩ := v
    have hJ2 := hJ
    rw [JAt] at hJ2
    obtain ⟨va, vc, va', vc', rfl, -⟩ := hJ2
    have HQ := Lib.hid ((hk1.block q hql (by have := HL.out.r0; have := HQS.out; omega)).trans HQ.out)
    have HL := Lib.hid (HL.out.read hk1 hr1 hJ)
    clear hJ hr1 hk1
    dsimp only
    refine hK.out _ _ (by exact by have := HL.out.rbx; rw [cell_of_row _ _ 0 _ _ _ this]; rfl) (fun hH => ?_)
    clear hK K
    try simp only [Act.put, List.setIfInBounds_toArray, List.set_cons_zero, List.set_cons_succ, List.getElem_toArray, List.getElem_cons_succ, List.getElem_cons_zero]
 case' g2 =>
  go_simp
  refine (HC.out _ HL.out.kr HL.out.rd).mono ?_
  intro e X hp
  rcases o with ⟨v, t'⟩ | ⟨x, tt⟩
  rotate_left
  ·skip
   obtain ⟨hg, hk1⟩ : ValBad _ _ _ _ _ _ _ := hp
   unfold Gives at hg
   subst hg
   exact ⟨rfl, rfl, HL.out.kr.trans hk1⟩
  obtain ⟨V, rfl, hJ, hr1, hk1⟩ : ValOk _ _ _ _ _ _ _ _ := hp
  obtain ⟨vk, vb, vn, vu, vt, vks, vvs⟩ := v
  have hJ2 := hJ
  rw [JAt] at hJ2
  obtain ⟨va, vc, va', vc', rfl, -⟩ := hJ2
  have HL := Lib.hid (HL.out.read hk1 hr1 hJ)
  clear hJ hr1 hk1
  dsimp only
  refine hK.out _ _ (by exact by have := HL.out.rbx; rw [cell_of_row _ _ 0 _ _ _ this]; rfl) (fun hH => ?_)
  clear hK K
  try simp only [Act.put, List.setIfInBounds_toArray, List.set_cons_zero, List.set_cons_succ, List.getElem_toArray, List.getElem_cons_succ, List.getElem_cons_zero]
  refine wpAnyH_ready (rs := [1, 5]) (by kernel_rfl) (by simp) ?_
  refine AllReadyH.cons rfl (fun K hK => ?g8) (AllReadyH.cons rfl (fun K hK => ?g9) AllReadyH.nil)
  case' g8 =>
   have cb : X.cell? ⟨b, 6, none⟩ = some (.slice ao l.length cap0) := by have := HL.out.box; rw [cell_of_row _ _ 6 _ _ _ this]; rfl
   go_simp
   refine hK.out _ _ hH (fun hH => ?_)
   clear hK K cb
   try simp only [Act.put, List.setIfInBounds_toArray, List.set_cons_zero, List.set_cons_succ, List.getElem_toArray, List.getElem_cons_succ, List.getElem_cons_zero]
   refine wpAnyH_take (i := 4) (v := .int .i64 l.length) rfl (by kernel_rfl) (by kernel_rfl) (by kernel_rfl) (fun _ _ _ h => h) (Or.inl ⟨by rfl, ?_⟩) hH ?_
   ·(intro w hSw; (try dsimp only at hSw); go_simp; try rfl)
   try simp only [Act.put, List.setIfInBounds_toArray, List.set_cons_zero, List.set_cons_succ, List.getElem_toArray, List.getElem_cons_succ, List.getElem_cons_zero]
   refine wpAnyH_ready (rs := [5]) (by kernel_rfl) (by simp) ?_
   refine AllReadyH.cons rfl (fun K hK => ?g10) AllReadyH.nil
   case' g10 =>
    go_simp
    have HQ := Lib.hid (heap_alloc_new X (.cells #[.int .u8 0, .bool false, .int .i64 0, .int .u64 0, .string ⟨#[]⟩, .slice none 0 0, .slice none 0 0] 27))
    have hql : X.heap.size < (X.alloc (.cells #[.int .u8 0, .bool false, .int .i64 0, .int .u64 0, .string ⟨#[]⟩, .slice none 0 0, .slice none 0 0] 27)).heap.size := by simp
    have HQS := Lib.hid HL.out.kr.size
    have HL := Lib.hid (HL.out.below ((Below.refl _ _).alloc (Nat.le_refl _) (.cells #[.int .u8 0, .bool false, .int .i64 0, .int .u64 0, .string ⟨#[]⟩, .slice none 0 0, .slice none 0 0] 27)))
    refine hK.out _ _ (by exact by have := HL.out.rbx; rw [cell_of_row _ _ 0 _ _ _ this]; rfl) (fun hH => ?_)
    clear hK K
    obtain ⟨q, hq⟩ : ∃ q, q = X.heap.size := ⟨_, rfl⟩
    rw [← hq] at HQ hql HQS ⊢
    clear hq
    generalize X.alloc (.cells #[.int .u8 0, .bool false, .int .i64 0, .int .u64 0, .string ⟨#[]⟩, .slice none 0 0, .slice none 0 0] 27) = X at *
    try simp only [Act.put, List.setIfInBounds_toArray, List.set_cons_zero, List.set_cons_succ, List.getElem_toArray, List.getElem_cons_succ, List.getElem_cons_zero]
  case' g9 =>
   go_simp
   have HQ := Lib.hid (heap_alloc_new X (.cells #[.int .u8 0, .bool false, .int .i64 0, .int .u64 0, .string ⟨#[]⟩, .slice none 0 0, .slice none 0 0] 27))
   have hql : X.heap.size < (X.alloc (.cells #[.int .u8 0, .bool false, .int .i64 0, .int .u64 0, .string ⟨#[]⟩, .slice none 0 0, .slice none 0 0] 27)).heap.size := by simp
   have HQS := Lib.hid HL.out.kr.size
   have HL := Lib.hid (HL.out.below ((Below.refl _ _).alloc (Nat.le_refl _) (.cells #[.int .u8 0, .bool false, .int .i64 0, .int .u64 0, .string ⟨#[]⟩, .slice none 0 0, .slice none 0 0] 27)))
   refine hK.out _ _ (by exact by have := HL.out.rbx; rw [cell_of_row _ _ 0 _ _ _ this]; rfl) (fun hH => ?_)
   clear hK K
   obtain ⟨q, hq⟩ : ∃ q, q = X.heap.size := ⟨_, rfl⟩
   rw [← hq] at HQ hql HQS ⊢
   clear hq
   generalize X.alloc (.cells #[.int .u8 0, .bool false, .int .i64 0, .int .u64 0, .string ⟨#[]⟩, .slice none 0 0, .slice none 0 0] 27) = X at *
   try simp only [Act.put, List.setIfInBounds_toArray, List.set_cons_zero, List.set_cons_succ, List.getElem_toArray, List.getElem_cons_succ, List.getElem_cons_zero]
   refine wpAnyH_ready (rs := [1]) (by kernel_rfl) (by simp) ?_
   refine AllReadyH.cons rfl (fun K hK => ?g11) AllReadyH.nil
   case' g11 =>
    have cb : X.cell? ⟨b, 6, none⟩ = some (.slice ao l.length cap0) := by have := HL.out.box; rw [cell_of_row _ _ 6 _ _ _ this]; rfl
    go_simp
    refine hK.out _ _ hH (fun hH => ?_)
    clear hK K cb
    try simp only [Act.put, List.setIfInBounds_toArray, List.set_cons_zero, List.set_cons_succ, List.getElem_toArray, List.getElem_cons_succ, List.getElem_cons_zero]
    refine wpAnyH_take (i := 4) (v := .int .i64 l.length) rfl (by kernel_rfl) (by kernel_rfl) (by kernel_rfl) (fun _ _ _ h => h) (Or.inl ⟨by rfl, ?_⟩) hH ?_
    ·(intro w hSw; (try dsimp only at hSw); go_simp; try rfl)
    try simp only [Act.put, List.setIfInBounds_toArray, List.set_cons_zero, List.set_cons_succ, List.getElem_toArray, List.getElem_cons_succ, List.getElem_cons_zero]
 case' g3 =>
  go_simp
  have HQ := Lib.hid (heap_alloc_new X (.cells #[.int .u8 0, .bool false, .int .i64 0, .int .u64 0, .string ⟨#[]⟩, .slice none 0 0, .slice none 0 0] 27))
  have hql : X.heap.size < (X.alloc (.cells #[.int .u8 0, .bool false, .int .i64 0, .int .u64 0, .string ⟨#[]⟩, .slice none 0 0, .slice none 0 0] 27)).heap.size := by simp
  have HQS := Lib.hid HL.out.kr.size
  have HL := Lib.hid (HL.out.below ((Below.refl _ _).alloc (Nat.le_refl _) (.cells #[.int .u8 0, .bool false, .int .i64 0, .int .u64 0, .string ⟨#[]⟩, .slice none 0 0, .slice none 0 0] 27)))
  refine hK.out _ _ (by exact by have := HL.out.rbx; rw [cell_of_row _ _ 0 _ _ _ this]; rfl) (fun hH => ?_)
  clear hK K
  obtain ⟨q, hq⟩ : ∃ q, q = X.heap.size := ⟨_, rfl⟩
  rw [← hq] at HQ hql HQS ⊢
  clear hq
  generalize X.alloc (.cells #[.int .u8 0, .bool false, .int .i64 0, .int .u64 0, .string ⟨#[]⟩, .slice none 0 0, .slice none 0 0] 27) = X at *
  try simp only [Act.put, List.setIfInBounds_toArray, List.set_cons_zero, List.set_cons_succ, List.getElem_toArray, List.getElem_cons_succ, List.getElem_cons_zero]
  refine wpAnyH_ready (rs := [1, 3]) (by kernel_rfl) (by simp) ?_
  refine AllReadyH.cons rfl (fun K hK => ?g12) (AllReadyH.cons rfl (fun K hK => ?g13) AllReadyH.nil)
  case' g12 =>
   have cb : X.cell? ⟨b, 6, none⟩ = some (.slice ao l.length cap0) := by have := HL.out.box; rw [cell_of_row _ _ 6 _ _ _ this]; rfl
   go_simp
   refine hK.out _ _ hH (fun hH => ?_)
   clear hK K cb
   try simp only [Act.put, List.setIfInBounds_toArray, List.set_cons_zero, List.set_cons_succ, List.getElem_toArray, List.getElem_cons_succ, List.getElem_cons_zero]
   refine wpAnyH_take (i := 4) (v := .int .i64 l.length) rfl (by kernel_rfl) (by kernel_rfl) (by kernel_rfl) (fun _ _ _ h => h) (Or.inl ⟨by rfl, ?_⟩) hH ?_
   ·(intro w hSw; (try dsimp only at hSw); go_simp; try rfl)
   try simp only [Act.put, List.setIfInBounds_toArray, List.set_cons_zero, List.set_cons_succ, List.getElem_toArray, List.getElem_cons_succ, List.getElem_cons_zero]
   refine wpAnyH_ready (rs := [3]) (by kernel_rfl) (by simp) ?_
   refine AllReadyH.cons rfl (fun K hK => ?g14) AllReadyH.nil
   case' g14 =>
    go_simp
    refine (HC.out _ HL.out.kr HL.out.rd).mono ?_
    intro e X hp
    rcases o with ⟨v, t'⟩ | ⟨x, tt⟩
    rotate_left
    ·skip
     obtain ⟨hg, hk1⟩ : ValBad _ _ _ _ _ _ _ := hp
     unfold Gives at hg
     subst hg
     exact ⟨rfl, rfl, HL.out.kr.trans hk1⟩
    obtain ⟨V, rfl, hJ, hr1, hk1⟩ : ValOk _ _ _ _ _ _ _ _ := hp
    obtain ⟨vk, vb, vn, vu, vt, vks, vvs⟩ := v
    have hJ2 := hJ
    rw [JAt] at hJ2
    obtain ⟨va, vc, va', vc', rfl, -⟩ := hJ2
    have HQ := Lib.hid ((hk1.block q hql (by have := HL.out.r0; have := HQS.out; omega)).trans HQ.out)
    have HL := Lib.hid (HL.out.read hk1 hr1 hJ)
    clear hJ hr1 hk1
    dsimp only
    refine hK.out _ _ (by exact by have := HL.out.rbx; rw [cell_of_row _ _ 0 _ _ _ this]; rfl) (fun hH => ?_)
    clear hK K
    try simp only [Act.put, List.setIfInBounds_toArray, List.set_cons_zero, List.set_cons_succ, List.getElem_toArray, List.getElem_cons_succ, List.getElem_cons_zero]
  case' g13 =>
   go_simp
   refine (HC.out _ HL.out.kr HL.out.rd).mono ?_
   intro e X hp
   rcases o with ⟨v, t'⟩ | ⟨x, tt⟩
   rotate_left
   ·skip
    obtain ⟨hg, hk1⟩ : ValBad _ _ _ _ _ _ _ := hp
    unfold Gives at hg
    subst hg
    exact ⟨rfl, rfl, HL.out.kr.trans hk1⟩
   obtain ⟨V, rfl, hJ, hr1, hk1⟩ : ValOk _ _ _ _ _ _ _ _ := hp
   obtain ⟨vk, vb, vn, vu, vt, vks, vvs⟩ := v
   have hJ2 := hJ
   rw [JAt] at hJ2
   obtain ⟨va, vc, va', vc', rfl, -⟩ := hJ2
   have HQ := Lib.hid ((hk1.block q hql (by have := HL.out.r0; have := HQS.out; omega)).trans HQ.out)
   have HL := Lib.hid (HL.out.read hk1 hr1 hJ)
   clear hJ hr1 hk1
   dsimp only
   refine hK.out _ _ (by exact by have := HL.out.rbx; rw [cell_of_row _ _ 0 _ _ _ this]; rfl) (fun hH => ?_)
   clear hK K
   try simp only [Act.put, List.setIfInBounds_toArray, List.set_cons_zero, List.set_cons_succ, List.getElem_toArray, List.getElem_cons_succ, List.getElem_cons_zero]
   refine wpAnyH_ready (rs := [1]) (by kernel_rfl) (by simp) ?_
   refine AllReadyH.cons rfl (fun K hK => ?g15) AllReadyH.nil
   case' g15 =>
    have cb : X.cell? ⟨b, 6, none⟩ = some (.slice ao l.length cap0) := by have := HL.out.box; rw [cell_of_row _ _ 6 _ _ _ this]; rfl
    go_simp
    refine hK.out _ _ hH (fun hH => ?_)
    clear hK K cb
    try simp only [Act.put, List.setIfInBounds_toArray, List.set_cons_zero, List.set_cons_succ, List.getElem_toArray, List.getElem_cons_succ, List.getElem_cons_zero]
    refine wpAnyH_take (i := 4) (v := .int .i64 l.length) rfl (by kernel_rfl) (by kernel_rfl) (by kernel_rfl) (fun _ _ _ h => h) (Or.inl ⟨by rfl, ?_⟩) hH ?_
    ·(intro w hSw; (try dsimp only at hSw); go_simp; try rfl)
    try simp only [Act.put, List.setIfInBounds_toArray, List.set_cons_zero, List.set_cons_succ, List.getElem_toArray, List.getElem_cons_succ, List.getElem_cons_zero]
 all_goals
  refine wpAnyH_ready (rs := [6]) (by kernel_rfl) (by simp) ?_
  refine AllReadyH.cons rfl (fun K hK => ?_) AllReadyH.nil
  refine step_append_lies _ rfl _ _ 25 rfl w0.heap.size 27 i0 _ 7 88 ht hi hz0 hz1 hz2 rfl (by decide) (.slice ao l.length cap0) l.length (Vs.flatMap c7) rfl HL.out.row ⟨q, 0, none⟩ 1 1 z7 rfl rfl (World.news_of_block HQ.out) (by simp [z7, Value.oneCell']) (by decide) (by unfold maxLen; omega) (by omega) HL.out.kr.size _ rfl ?_
  intro g cap Y hrow hgr hat hgl
  have HA := Lib.hid (HL.out.app hrow hgr (app_at hat))
  clear hrow hgr hat
  go_simp
  refine hK.out _ _ (by exact by have := HA.out.rbx; rw [cell_of_row _ _ 0 _ _ _ this]; rfl) (fun hH => ?_)
  clear hK K
  refine wpAnyH_take (i := 7) (v := .pointer (some ⟨g, l.length * 7, none⟩)) rfl (by kernel_rfl) (by kernel_rfl) (by kernel_rfl) (fun _ _ _ h => h) (Or.inl ⟨by rfl, ?_⟩) hH ?_
  ·(intro w hSw; (try dsimp only at hSw); go_simp; first | rfl | (intro hx; exfalso; omega))
  try simp only [Act.put, List.setIfInBounds_toArray, List.set_cons_zero, List.set_cons_succ, List.getElem_toArray, List.getElem_cons_succ, List.getElem_cons_zero]
  refine wpAnyH_take (i := 9) (v := .pointer (some ⟨b, 6, none⟩)) rfl (by kernel_rfl) (by kernel_rfl) (by kernel_rfl) (fun _ _ _ h => h) (Or.inl ⟨by rfl, ?_⟩) hH ?_
  ·(intro w hSw; (try dsimp only at hSw); go_simp; try rfl)
  try simp only [Act.put, List.setIfInBounds_toArray, List.set_cons_zero, List.set_cons_succ, List.getElem_toArray, List.getElem_cons_succ, List.getElem_cons_zero]
  have hx7 := HL.out.its.c7len_take
  refine wpAnyH_ready (rs := [8, 10]) (by kernel_rfl) (by simp) ?_
  refine AllReadyH.cons rfl (fun K hK => ?_) ?_
  ·skip
   have hrow := HA.out.row
   obtain ⟨r0, r1, r2, r3, r4, r5, r6⟩ := row_cells7 hrow hx7
   have rf := hrow.frozenAt
   go_simp
   have HF1 := HA.out.fill7 hx7 (.int .u8 vk) (.bool vb) (.int .i64 vn) (.int .u64 vu) (.string vt) (.slice va vks.length vc) (.slice va' vvs.length vc')
   unfold fill7w at HF1
   replace HF1 := Lib.hid HF1
   refine hK.out _ _ (by exact by have := HF1.out.rbx; rw [cell_of_row _ _ 0 _ _ _ this]; rfl) (fun hHx => ?_)
   clear hK K hrow r0 r1 r2 r3 r4 r5 r6 rf
   try simp only [Act.put, List.setIfInBounds_toArray, List.set_cons_zero, List.set_cons_succ, List.getElem_toArray, List.getElem_cons_succ, List.getElem_cons_zero]
   generalize ((((((Y.setCell ⟨g, l.length * 7, none⟩ (.int .u8 vk)).setCell ⟨g, l.length * 7 + 1, none⟩ (.bool vb)).setCell ⟨g, l.length * 7 + 2, none⟩ (.int .i64 vn)).setCell ⟨g, l.length * 7 + 3, none⟩ (.int .u64 vu)).setCell ⟨g, l.length * 7 + 4, none⟩ (.string vt)).setCell ⟨g, l.length * 7 + 5, none⟩ (.slice va vks.length vc)).setCell ⟨g, l.length * 7 + 6, none⟩ (.slice va' vvs.length vc') = XF at *
   refine wpAnyH_ready (rs := [10]) (by kernel_rfl) (by simp) ?_
   refine AllReadyH.cons rfl (fun K hK => ?_) AllReadyH.nil
   have cb : XF.cell? ⟨b, 6, none⟩ = some (.slice ao l.length cap0) := by have := HF1.out.box; rw [cell_of_row _ _ 6 _ _ _ this]; rfl
   have fb := froz_agg HF1.out.box 6
   go_simp
   have HF2 := Lib.hid (HF1.out.put (.slice (some ⟨g, 0, none⟩) (l.length + 1) cap))
   refine hK.out _ _ (by exact by have := HF2.out.rbx; rw [cell_of_row _ _ 0 _ _ _ this]; rfl) (fun hHy => ?_)
   clear hK K cb fb
   try simp only [Act.put, List.setIfInBounds_toArray, List.set_cons_zero, List.set_cons_succ, List.getElem_toArray, List.getElem_cons_succ, List.getElem_cons_zero]
   refine wpAnyH_done (by kernel_rfl) ?_ _
   go_end0
   exact ⟨rfl, _, _, list_fin HF2.out⟩
  refine AllReadyH.cons rfl (fun K hK => ?_) AllReadyH.nil
  have cb : Y.cell? ⟨b, 6, none⟩ = some (.slice ao l.length cap0) := by have := HA.out.box; rw [cell_of_row _ _ 6 _ _ _ this]; rfl
  have fb := froz_agg HA.out.box 6
  go_simp
  have HF1 := Lib.hid (HA.out.put (.slice (some ⟨g, 0, none⟩) (l.length + 1) cap))
  refine hK.out _ _ (by exact by have := HF1.out.rbx; rw [cell_of_row _ _ 0 _ _ _ this]; rfl) (fun hHy => ?_)
  clear hK K cb fb
  try simp only [Act.put, List.setIfInBounds_toArray, List.set_cons_zero, List.set_cons_succ, List.getElem_toArray, List.getElem_cons_succ, List.getElem_cons_zero]
  generalize Y.setCell ⟨b, 6, none⟩ (.slice (some ⟨g, 0, none⟩) (l.length + 1) cap) = XF at *
  refine wpAnyH_ready (rs := [8]) (by kernel_rfl) (by simp) ?_
  refine AllReadyH.cons rfl (fun K hK => ?_) AllReadyH.nil
  have hrow := HF1.out.row
  obtain ⟨r0, r1, r2, r3, r4, r5, r6⟩ := row_cells7 hrow hx7
  have rf := hrow.frozenAt
  go_simp
  have HF2 := HF1.out.fill7 hx7 (.int .u8 vk) (.bool vb) (.int .i64 vn) (.int .u64 vu) (.string vt) (.slice va vks.length vc) (.slice va' vvs.length vc')
  unfold fill7w at HF2
  replace HF2 := Lib.hid HF2
  refine hK.out _ _ (by exact by have := HF2.out.rbx; rw [cell_of_row _ _ 0 _ _ _ this]; rfl) (fun hHx => ?_)
  clear hK K hrow r0 r1 r2 r3 r4 r5 r6 rf
  try simp only [Act.put, List.setIfInBounds_toArray, List.set_cons_zero, List.set_cons_succ, List.getElem_toArray, List.getElem_cons_succ, List.getElem_cons_zero]
  refine wpAnyH_done (by kernel_rfl) ?_ _
  go_end0
  exact ⟨rfl, _, _, list_fin HF2.out⟩
end Go.Proofs.YtckaoeloofbklaaGreatDoor
namespace Go.Proofs.YtckaoeloofbklaaGreatDoor
open Go Go.RowKit Go.Lib
theorem infoStr : (Tryz.prog.info? 9).map (fun i => (i.zero, i.size, i.bytes)) = some (some (.string ⟨#[]⟩), 1, 16) := by kernel_rfl
def Rec1 (r : Nat) (s : ByteArray) (d b rb : Nat) (w0 : World) (k : Int) (ks : List ByteArray) (l : List JV) (o : Out JV) (e : Ending) (w' : World) : Prop := match o with
 | .ok v t' => e = .returned (.tuple #[]) ∧ ∃ slk sl' Vs', LS r s d b rb w0 k slk ks t' sl' sl' (l ++ [v]).length (Vs'.flatMap c7) (l ++ [v]) Vs' w'
 | .err x t' => Gives x (s.size - t'.length) e ∧ KR r w0 w'
section
variable {r : Nat} {s : ByteArray} {d b rb : Nat} {w0 : World} {k : Int} {slk : Value} {ks : List ByteArray} {t : List UInt8} {slb : Value} {n : Nat} {xs : List Value} {l : List JV} {Vs : List Value} {W W' : World}
theorem LS.key {slk' : Value} {x : ByteArray} (h : LS r s d b rb w0 k slk ks t slb slb n xs l Vs W) (hrow : W'.ownsRow w0.heap.size 9 1 slk' (ks.length + 1) (ks.map Value.string ++ [.string x])) (hg : W.grownBy W' slk.ownBlock) (hat : ∀ g, slk'.ownBlock = some g → slk.ownBlock = some g ∨ W.heap.size ≤ g) :
  LS r s d b rb w0 k slk' (ks ++ [x]) t slb slb n xs l Vs (W'.setCell ⟨b, 5, none⟩ slk') := by
 have hr0 := h.r0
 have hb0 := h.b0
 have hws := h.kr.size
 have hkeep : ∀ (j : Nat) (c : Array Value) (T : TypeId), W.heap[j]? = some (.cells c T (0, 0)) → T ≠ 9 → W'.heap[j]? = W.heap[j]? := fun j c T hj hT => hg.block j (Array.getElem?_eq_some_iff.1 hj).1 (fun e => by
  obtain ⟨_, _, c', hc⟩ := row_blk h.keys e.symm
  rw [hj] at hc; injection hc with hc; injection hc with _ hc; exact hT hc)
 have hne : ∀ j, j ≠ b → (W'.setCell ⟨b, 5, none⟩ slk').heap[j]? = W'.heap[j]? := fun j hj => Below.heap_setCell _ _ _ _ hj
 have hb' := (hkeep b _ _ h.box (by decide)).trans h.box
 have hbn : slk'.ownBlock ≠ some b := by
  intro e
  rcases hat b e with e2 | e2
  ·obtain ⟨_, _, c, hc⟩ := row_blk h.keys e2
   have := h.box.symm.trans hc
   simp at this
  ·have := (Array.getElem?_eq_some_iff.1 h.box).1; omega
 have hkr : KR r w0 W' := ⟨hg.os.trans h.kr.os, hg.tape.trans h.kr.tape, hg.output.trans h.kr.output, Nat.le_trans h.kr.size hg.size, fun j hj hjr => (hg.block j (by omega) (fun e => by have := (row_blk h.keys e.symm).1; omega)).trans (h.kr.block j hj hjr)⟩
 refine ⟨h.rd.kept ((hne r (by omega)).trans (hkeep r _ _ h.rd.at_ (by decide))), hkr.setNew _ _ h.b0, h.r0, h.b0, h.rb0, ?_, (hne rb ?_).trans ((hkeep rb _ _ h.rbx (by decide)).trans h.rbx), row_kept h.row fun g hgk => ?_, h.ne, ?_, h.its.kept fun j hj hj2 => ⟨(hne j hj.2.1).trans (hg.block j hj2 (fun e => hj.2.2.2 e.symm)), hj.1, hj.2.1, hj.2.2.1, ?_⟩⟩
 ·have := setCellJ (j := 5) hb' slk'
  simpa using this
 ·rintro rfl
  have := h.box.symm.trans h.rbx
  simp at this
 ·obtain ⟨_, _, c, hc⟩ := row_blk h.row hgk
  exact (hne g (fun e => h.ne (by rw [hgk, e]))).trans (hkeep g c _ hc (by decide))
 ·rw [List.length_append, List.map_append]
  exact row_kept hrow fun g hgk => hne g (fun e => hbn (by rw [hgk, e]))
 ·intro e
  rcases hat j e with e2 | e2
  ·exact hj.2.2.2 e2
  ·omega
theorem LS.boxk (h : LS r s d b rb w0 k slk ks t slb slb n xs l Vs W) (hg : W.grownBy W' slk.ownBlock) : W'.heap[b]? = some (.cells #[.int .u8 k, .bool false, .int .i64 0, .int .u64 0, .string ⟨#[]⟩, slk, slb] 27 (0, 0)) :=
 (hg.block b (Array.getElem?_eq_some_iff.1 h.box).1 (fun e => by
  obtain ⟨_, _, c', hc⟩ := row_blk h.keys e.symm
  have := h.box.symm.trans hc
  simp at this)).trans h.box
theorem cell_box5 {W : World} {b : Nat} {x0 x1 x2 x3 x4 x5 x6 : Value} {T : TypeId} {fz : Nat × Nat} (h : W.heap[b]? = some (.cells #[x0, x1, x2, x3, x4, x5, x6] T fz)) : W.cell? ⟨b, 5, none⟩ = some x5 := by
 rw [cell_of_row _ _ 5 _ _ _ h]; rfl
theorem LS.has (h : LS r s d b rb w0 k slk ks t slb slb n xs l Vs W) (hbig : ks.length ≤ 9223372036854775807) (x : ByteArray) :
  Calls Tryz.prog 77 #[slk, .string x] W fun e w' => e = .returned (.bool (Lib.containsS ks x)) ∧ w' = W := by
 rcases h.keys.2 with ⟨h1, h2⟩ | ⟨g, cap, cur, h1, _⟩
 ·subst h1
  have : ks = [] := List.length_eq_zero_iff.1 h2
  subst this
  exact Tryz.slices_Contains_string_empty none 0 x W
 ·subst h1
  have hc := h.keys.cells (g := g) rfl
  have := Tryz.slices_Contains_string g 0 ks.length cap ks x W (Nat.le_refl _) hbig (fun j hj => by
   have := hc j (.string (ks.getD j ByteArray.empty)) (by simp [List.getElem?_map, List.getElem?_eq_getElem hj])
   have hadd : (⟨g, 0, none⟩ : Addr).add j = ⟨g, 0 + j, none⟩ := by unfold Addr.add; split <;> simp_all
   rwa [hadd] at this)
  rwa [List.take_length] at this
theorem key_at {v : Value} {g m cap H : Nat} (hat : v.ownBlock = some g ∨ g = H) : ∀ g', (Value.slice (some ⟨g, 0, none⟩) m cap).ownBlock = some g' → v.ownBlock = some g' ∨ H ≤ g' := app_at hat
end
theorem rec1_go (_P : List UInt8 → Out JV → Prop) (r : Nat) (s : ByteArray) (d b rb : Nat) (w0 : World) (t t1 x t2 t3 : List UInt8) (slk : Value) (ks : List ByteArray) (sl : Value) (l : List JV) (Vs : List Value) (o : Out JV) (w : World) (h : LS r s d b rb w0 7 slk ks t sl sl l.length (Vs.flatMap c7) l Vs w) (hsm : (l.length + 1) * 88 ≤ 140737488355328) (hks : (ks.length + 1) * 16 ≤ 140737488355328) (h17 : 17 ≤ r) (hT : Lib.Utf8Tabs 0 1 w0)
  (e1 : skipB t = 34 :: t1) (e2 : Str decB8 enc t1 x t2) (e3 : ⟨x.toArray⟩ ∉ ks) (e4 : skipB t2 = 58 :: t3) (HC : ∀ W, KR r w0 W → Rd r s t3 d W → Calls Tryz.prog 25 #[.pointer (some ⟨r, 0, none⟩)] W (ValPost r s d W o)) :
  Calls Tryz.prog 75 #[.pointer (some ⟨rb, 0, none⟩), .pointer (some ⟨b, 0, none⟩)] w (Rec1 r s d b rb w0 7 (ks ++ [⟨x.toArray⟩]) l o) := by
 obtain ⟨ka, kc, hk⟩ : ∃ ao cap, slk = .slice ao ks.length cap := by
  rcases h.keys.2 with ⟨h1, h2⟩ | ⟨g, cap, cur, h1, _⟩
  ·exact ⟨_, _, by rw [h2]; exact h1⟩
  ·exact ⟨_, _, h1⟩
 subst hk
 have HC := Lib.hid HC
 have HL := Lib.hid h
 have HB := Lib.hid (blanks_any r s t d w h.rd)
 have crb : w.cell? ⟨rb, 0, none⟩ = some (.pointer (some ⟨r, 0, none⟩)) := by have := h.rbx; rw [cell_of_row _ _ 0 _ _ _ this]; rfl
 clear h
 go_enter Tryz.func75, Tryz.ntmps75
 go_wp2_with fail
 refine HB.out.mono ?_
 rintro e wb ⟨rfl, hr1, hk1⟩
 rw [e1] at hr1
 have h1 := HL.out.go hk1 hr1
 have HL1 := Lib.hid h1
 clear HB HL crb
 have crb : wb.cell? ⟨rb, 0, none⟩ = some (.pointer (some ⟨r, 0, none⟩)) := by have := h1.rbx; rw [cell_of_row _ _ 0 _ _ _ this]; rfl
 obtain ⟨m, -, -, -, cm⟩ := h1.rd.head
 have HQ := Lib.hid (quoted_any r s t1 x t2 d wb h1.rd h17 (utabs_kept hT (h1.kr.low' h17 (by have := h1.r0; omega))) e2)
 clear h1 hr1 hk1
 go_wp2_with fail
 refine HQ.out.mono ?_
 rintro e wq ⟨rfl, hr2, hk2⟩
 have h2 := HL1.out.go hk2 hr2
 have HL2 := Lib.hid h2
 clear HQ HL1 crb cm
 have HH := Lib.hid (h2.has (by omega) ⟨x.toArray⟩)
 have hno : Lib.containsS ks ⟨x.toArray⟩ = false := by rw [← Bool.not_eq_true, Lib.containsS_iff]; exact e3
 have ck : wq.cell? ⟨b, 5, none⟩ = some (.slice ka ks.length kc) := by have := h2.box; rw [cell_of_row _ _ 5 _ _ _ this]; rfl
 clear h2 hr2 hk2
 go_wp2_with fail
 refine HH.out.mono ?_
 rintro e wh ⟨rfl, hw⟩
 subst hw
 rw [hno]
 obtain ⟨i1, hi1, hy0, hy1, hy2⟩ := info_parts infoStr
 have ht1 : Tryz.prog.underlying 24 = some (.slice 9) := Tryz.underlying24
 have HA := Lib.hid (HL2.out.below ((Below.refl _ _).alloc (Nat.le_refl _) (.cells #[.string ⟨x.toArray⟩] 9)))
 have HNB := Lib.hid (heap_alloc_new wh (.cells #[.string ⟨x.toArray⟩] 9))
 go_upto_region 6 with (at_builtin; go_loud (refine wpList_append_lies _ rfl _ _ 24 rfl w0.heap.size 9 i1 _ 1 16 ht1 hi1 hy0 hy1 hy2 rfl (by decide) (.slice ka ks.length kc) ks.length (ks.map Value.string) rfl (by exact HA.out.keys) ⟨wh.heap.size, 0, none⟩ 1 1 [.string ⟨x.toArray⟩] rfl rfl (World.news_of_block HNB.out) (by simp [Value.oneCell']) (by decide) (by unfold maxLen; omega) (by omega) (by exact HA.out.kr.size) _ rfl ?_; intro g kcap w3 a1 a2 a3 a4; have b3 := HA.out.boxk a2; have c5 := cell_box5 b3; have fb := froz_agg b3 5))
 have h3 := HA.out.key a1 a2 (key_at a3)
 have HL3 := Lib.hid h3
 have crb : (w3.setCell ⟨b, 5, none⟩ (.slice (some ⟨g, 0, none⟩) (ks.length + 1) kcap)).cell? ⟨rb, 0, none⟩ = some (.pointer (some ⟨r, 0, none⟩)) := by have := h3.rbx; rw [cell_of_row _ _ 0 _ _ _ this]; rfl
 have HB2 := Lib.hid (blanks_any r s t2 d _ h3.rd)
 clear HA HNB HL2 ck b3 c5 fb a1 a2 a3 h3 HH
 generalize w3.setCell ⟨b, 5, none⟩ (.slice (some ⟨g, 0, none⟩) (ks.length + 1) kcap) = w4 at *
 go_wp2_with fail
 refine HB2.out.mono ?_
 rintro e wb ⟨rfl, hr1, hk1⟩
 rw [e4] at hr1
 have h1 := HL3.out.go hk1 hr1
 have HL4 := Lib.hid h1
 clear HB2 HL3 crb
 have crb : wb.cell? ⟨rb, 0, none⟩ = some (.pointer (some ⟨r, 0, none⟩)) := by have := h1.rbx; rw [cell_of_row _ _ 0 _ _ _ this]; rfl
 have HM := Lib.hid (must_yes r s 58 t3 d wb h1.rd)
 clear h1 hr1 hk1
 go_wp2_with fail
 refine HM.out.mono ?_
 rintro e w ⟨rfl, hr2, hk2⟩
 have h2 := HL4.out.go hk2 hr2
 have HL0 := Lib.hid (h2.below (Below.refl _ _).drew)
 clear HM HL4 h2 hr2 hk2 crb
 obtain ⟨i0, hi, hz0, hz1, hz2⟩ := info_parts infoV
 have ht : Tryz.prog.underlying 25 = some (.slice 27) := Tryz.underlying25
 obtain ⟨ao, cap0, hsl⟩ : ∃ ao cap, sl = .slice ao l.length cap := by
  rcases HL0.out.row.2 with ⟨h1, h2⟩ | ⟨g, cap, cur, h1, _⟩
  ·exact ⟨_, _, by rw [h2]; exact h1⟩
  ·exact ⟨_, _, h1⟩
 subst hsl
 go_wp2_with fail
 refine wp_region_held_drew (S := fun w' => w'.cell? ⟨rb, 0, none⟩ = some (.pointer (some ⟨r, 0, none⟩))) (by kernel_rfl) ?_ (fun hH => ?_)
 ·exact by have := HL0.out.rbx; rw [cell_of_row _ _ 0 _ _ _ this]; rfl
 generalize w.drew = X at *
 have HL := HL0
 clear HL0
 refine wpAnyH_take (i := 0) (v := .pointer (some ⟨b, 6, none⟩)) rfl (by kernel_rfl) (by kernel_rfl) (by kernel_rfl) (fun _ _ _ h => h) (Or.inl ⟨by rfl, ?_⟩) hH ?_
 ·(intro w hSw; (try dsimp only at hSw); go_simp; try rfl)
 try simp only [Act.put, List.setIfInBounds_toArray, List.set_cons_zero, List.set_cons_succ, List.getElem_toArray, List.getElem_cons_zero]
 refine wpAnyH_take (i := 2) (v := .pointer (some ⟨r, 0, none⟩)) rfl (by kernel_rfl) (by kernel_rfl) (by kernel_rfl) (fun _ _ _ h => h) (Or.inl ⟨by rfl, ?_⟩) hH ?_
 ·(intro w hSw; (try dsimp only at hSw); go_simp; try rfl)
 try simp only [Act.put, List.setIfInBounds_toArray, List.set_cons_zero, List.set_cons_succ, List.getElem_toArray, List.getElem_cons_succ, List.getElem_cons_zero]
 refine wpAnyH_ready (rs := [1, 3, 5]) (by kernel_rfl) (by simp) ?_
 refine AllReadyH.cons rfl (fun K hK => ?g1) (AllReadyH.cons rfl (fun K hK => ?g2) (AllReadyH.cons rfl (fun K hK => ?g3) AllReadyH.nil))
 case' g1 =>
  have cb : X.cell? ⟨b, 6, none⟩ = some (.slice ao l.length cap0) := by have := HL.out.box; rw [cell_of_row _ _ 6 _ _ _ this]; rfl
  go_simp
  refine hK.out _ _ hH (fun hH => ?_)
  clear hK K cb
  try simp only [Act.put, List.setIfInBounds_toArray, List.set_cons_zero, List.set_cons_succ, List.getElem_toArray, List.getElem_cons_succ, List.getElem_cons_zero]
  refine wpAnyH_take (i := 4) (v := .int .i64 l.length) rfl (by kernel_rfl) (by kernel_rfl) (by kernel_rfl) (fun _ _ _ h => h) (Or.inl ⟨by rfl, ?_⟩) hH ?_
  ·(intro w hSw; (try dsimp only at hSw); go_simp; try rfl)
  try simp only [Act.put, List.setIfInBounds_toArray, List.set_cons_zero, List.set_cons_succ, List.getElem_toArray, List.getElem_cons_succ, List.getElem_cons_zero]
  refine wpAnyH_ready (rs := [3, 5]) (by kernel_rfl) (by simp) ?_
  refine AllReadyH.cons rfl (fun K hK => ?g4) (AllReadyH.cons rfl (fun K hK => ?g5) AllReadyH.nil)
  case' g4 =>
   go_simp
   refine (HC.out _ HL.out.kr HL.out.rd).mono ?_
   intro e X hp
   rcases o with ⟨v, t'⟩ | ⟨x, tt⟩
   rotate_left
   ·skip
    obtain ⟨hg, hk1⟩ : ValBad _ _ _ _ _ _ _ := hp
    unfold Gives at hg
    subst hg
    exact ⟨rfl, rfl, HL.out.kr.trans hk1⟩
   obtain ⟨V, rfl, hJ, hr1, hk1⟩ : ValOk _ _ _ _ _ _ _ _ := hp
   obtain ⟨vk, vb, vn, vu, vt, vks, vvs⟩ := v
   have hJ2 := hJ
   rw [JAt] at hJ2
   obtain ⟨va, vc, va', vc', rfl, -⟩ := hJ2
   have HL := Lib.hid (HL.out.read hk1 hr1 hJ)
   clear hJ hr1 hk1
   dsimp only
   refine hK.out _ _ (by exact by have := HL.out.rbx; rw [cell_of_row _ _ 0 _ _ _ this]; rfl) (fun hH => ?_)
   clear hK K
   try simp only [Act.put, List.setIfInBounds_toArray, List.set_cons_zero, List.set_cons_succ, List.getElem_toArray, List.getElem_cons_succ, List.getElem_cons_zero]
   refine wpAnyH_ready (rs := [5]) (by kernel_rfl) (by simp) ?_
   refine AllReadyH.cons rfl (fun K hK => ?g6) AllReadyH.nil
   case' g6 =>
    go_simp
    have HQ := Lib.hid (heap_alloc_new X (.cells #[.int .u8 0, .bool false, .int .i64 0, .int .u64 0, .string ⟨#[]⟩, .slice none 0 0, .slice none 0 0] 27))
    have hql : X.heap.size < (X.alloc (.cells #[.int .u8 0, .bool false, .int .i64 0, .int .u64 0, .string ⟨#[]⟩, .slice none 0 0, .slice none 0 0] 27)).heap.size := by simp
    have HQS := Lib.hid HL.out.kr.size
    have HL := Lib.hid (HL.out.below ((Below.refl _ _).alloc (Nat.le_refl _) (.cells #[.int .u8 0, .bool false, .int .i64 0, .int .u64 0, .string ⟨#[]⟩, .slice none 0 0, .slice none 0 0] 27)))
    refine hK.out _ _ (by exact by have := HL.out.rbx; rw [cell_of_row _ _ 0 _ _ _ this]; rfl) (fun hH => ?_)
    clear hK K
    obtain ⟨q, hq⟩ : ∃ q, q = X.heap.size := ⟨_, rfl⟩
    rw [← hq] at HQ hql HQS ⊢
    clear hq
    generalize X.alloc (.cells #[.int .u8 0, .bool false, .int .i64 0, .int .u64 0, .string ⟨#[]⟩, .slice none 0 0, .slice none 0 0] 27) = X at *
    try simp only [Act.put, List.setIfInBounds_toArray, List.set_cons_zero, List.set_cons_succ, List.getElem_toArray, List.getElem_cons_succ, List.getElem_cons_zero]
  case' g5 =>
   go_simp
   have HQ := Lib.hid (heap_alloc_new X (.cells #[.int .u8 0, .bool false, .int .i64 0, .int .u64 0, .string ⟨#[]⟩, .slice none 0 0, .slice none 0 0] 27))
   have hql : X.heap.size < (X.alloc (.cells #[.int .u8 0, .bool false, .int .i64 0, .int .u64 0, .string ⟨#[]⟩, .slice none 0 0, .slice none 0 0] 27)).heap.size := by simp
   have HQS := Lib.hid HL.out.kr.size
   have HL := Lib.hid (HL.out.below ((Below.refl _ _).alloc (Nat.le_refl _) (.cells #[.int .u8 0, .bool false, .int .i64 0, .int .u64 0, .string ⟨#[]⟩, .slice none 0 0, .slice none 0 0] 27)))
   refine hK.out _ _ (by exact by have := HL.out.rbx; rw [cell_of_row _ _ 0 _ _ _ this]; rfl) (fun hH => ?_)
   clear hK K
   obtain ⟨q, hq⟩ : ∃ q, q = X.heap.size := ⟨_, rfl⟩
   rw [← hq] at HQ hql HQS ⊢
   clear hq
   generalize X.alloc (.cells #[.int .u8 0, .bool false, .int .i64 0, .int .u64 0, .string ⟨#[]⟩, .slice none 0 0, .slice none 0 0] 27) = X at *
   try simp only [Act.put, List.setIfInBounds_toArray, List.set_cons_zero, List.set_cons_succ, List.getElem_toArray, List.getElem_cons_succ, List.getElem_cons_zero]
   refine wpAnyH_ready (rs := [3]) (by kernel_rfl) (by simp) ?_
   refine AllReadyH.cons rfl (fun K hK => ?g7) AllReadyH.nil
   case' g7 =>
    go_simp
    refine (HC.out _ HL.out.kr HL.out.rd).mono ?_
    intro e X hp
    rcases o with ⟨v, t'⟩ | ⟨x, tt⟩
    rotate_left
    ·skip
     obtain ⟨hg, hk1⟩ : ValBad _ _ _ _ _ _ _ := hp
     unfold Gives at hg
     subst hg
     exact ⟨rfl, rfl, HL.out.kr.trans hk1⟩
    obtain ⟨V, rfl, hJ, hr1, hk1⟩ : ValOk _ _ _ _ _ _ _ _ := hp
    obtain ⟨vk, vb, vn, vu, vt, vks, vvs⟩ := v
    have hJ2 := hJ
    rw [JAt] at hJ2
    obtain ⟨va, vc, va', vc', rfl, -⟩ := hJ2
    have HQ := Lib.hid ((hk1.block q hql (by have := HL.out.r0; have := HQS.out; omega)).trans HQ.out)
    have HL := Lib.hid (HL.out.read hk1 hr1 hJ)
    clear hJ hr1 hk1
    dsimp only
    refine hK.out _ _ (by exact by have := HL.out.rbx; rw [cell_of_row _ _ 0 _ _ _ this]; rfl) (fun hH => ?_)
    clear hK K
    try simp only [Act.put, List.setIfInBounds_toArray, List.set_cons_zero, List.set_cons_succ, List.getElem_toArray, List.getElem_cons_succ, List.getElem_cons_zero]
 case' g2 =>
  go_simp
  refine (HC.out _ HL.out.kr HL.out.rd).mono ?_
  intro e X hp
  rcases o with ⟨v, t'⟩ | ⟨x, tt⟩
  rotate_left
  ·skip
   obtain ⟨hg, hk1⟩ : ValBad _ _ _ _ _ _ _ := hp
   unfold Gives at hg
   subst hg
   exact ⟨rfl, rfl, HL.out.kr.trans hk1⟩
  obtain ⟨V, rfl, hJ, hr1, hk1⟩ : ValOk _ _ _ _ _ _ _ _ := hp
  obtain ⟨vk, vb, vn, vu, vt, vks, vvs⟩ := v
  have hJ2 := hJ
  rw [JAt] at hJ2
  obtain ⟨va, vc, va', vc', rfl, -⟩ := hJ2
  have HL := Lib.hid (HL.out.read hk1 hr1 hJ)
  clear hJ hr1 hk1
  dsimp only
  refine hK.out _ _ (by exact by have := HL.out.rbx; rw [cell_of_row _ _ 0 _ _ _ this]; rfl) (fun hH => ?_)
  clear hK K
  try simp only [Act.put, List.setIfInBounds_toArray, List.set_cons_zero, List.set_cons_succ, List.getElem_toArray, List.getElem_cons_succ, List.getElem_cons_zero]
  refine wpAnyH_ready (rs := [1, 5]) (by kernel_rfl) (by simp) ?_
  refine AllReadyH.cons rfl (fun K hK => ?g8) (AllReadyH.cons rfl (fun K hK => ?g9) AllReadyH.nil)
  case' g8 =>
   have cb : X.cell? ⟨b, 6, none⟩ = some (.slice ao l.length cap0) := by have := HL.out.box; rw [cell_of_row _ _ 6 _ _ _ this]; rfl
   go_simp
   refine hK.out _ _ hH (fun hH => ?_)
   clear hK K cb
   try simp only [Act.put, List.setIfInBounds_toArray, List.set_cons_zero, List.set_cons_succ, List.getElem_toArray, List.getElem_cons_succ, List.getElem_cons_zero]
   refine wpAnyH_take (i := 4) (v := .int .i64 l.length) rfl (by kernel_rfl) (by kernel_rfl) (by kernel_rfl) (fun _ _ _ h => h) (Or.inl ⟨by rfl, ?_⟩) hH ?_
   ·(intro w hSw; (try dsimp only at hSw); go_simp; try rfl)
   try simp only [Act.put, List.setIfInBounds_toArray, List.set_cons_zero, List.set_cons_succ, List.getElem_toArray, List.getElem_cons_succ, List.getElem_cons_zero]
   refine wpAnyH_ready (rs := [5]) (by kernel_rfl) (by simp) ?_
   refine AllReadyH.cons rfl (fun K hK => ?g10) AllReadyH.nil
   case' g10 =>
    go_simp
    have HQ := Lib.hid (heap_alloc_new X (.cells #[.int .u8 0, .bool false, .int .i64 0, .int .u64 0, .string ⟨#[]⟩, .slice none 0 0, .slice none 0 0] 27))
    have hql : X.heap.size < (X.alloc (.cells #[.int .u8 0, .bool false, .int .i64 0, .int .u64 0, .string ⟨#[]⟩, .slice none 0 0, .slice none 0 0] 27)).heap.size := by simp
    have HQS := Lib.hid HL.out.kr.size
    have HL := Lib.hid (HL.out.below ((Below.refl _ _).alloc (Nat.le_refl _) (.cells #[.int .u8 0, .bool false, .int .i64 0, .int .u64 0, .string ⟨#[]⟩, .slice none 0 0, .slice none 0 0] 27)))
    refine hK.out _ _ (by exact by have := HL.out.rbx; rw [cell_of_row _ _ 0 _ _ _ this]; rfl) (fun hH => ?_)
    clear hK K
    obtain ⟨q, hq⟩ : ∃ q, q = X.heap.size := ⟨_, rfl⟩
    rw [← hq] at HQ hql HQS ⊢
    clear hq
    generalize X.alloc (.cells #[.int .u8 0, .bool false, .int .i64 0, .int .u64 0, .string ⟨#[]⟩, .slice none 0 0, .slice none 0 0] 27) = X at *
    try simp only [Act.put, List.setIfInBounds_toArray, List.set_cons_zero, List.set_cons_succ, List.getElem_toArray, List.getElem_cons_succ, List.getElem_cons_zero]
  case' g9 =>
   go_simp
   have HQ := Lib.hid (heap_alloc_new X (.cells #[.int .u8 0, .bool false, .int .i64 0, .int .u64 0, .string ⟨#[]⟩, .slice none 0 0, .slice none 0 0] 27))
   have hql : X.heap.size < (X.alloc (.cells #[.int .u8 0, .bool false, .int .i64 0, .int .u64 0, .string ⟨#[]⟩, .slice none 0 0, .slice none 0 0] 27)).heap.size := by simp
   have HQS := Lib.hid HL.out.kr.size
   have HL := Lib.hid (HL.out.below ((Below.refl _ _).alloc (Nat.le_refl _) (.cells #[.int .u8 0, .bool false, .int .i64 0, .int .u64 0, .string ⟨#[]⟩, .slice none 0 0, .slice none 0 0] 27)))
   refine hK.out _ _ (by exact by have := HL.out.rbx; rw [cell_of_row _ _ 0 _ _ _ this]; rfl) (fun hH => ?_)
   clear hK K
   obtain ⟨q, hq⟩ : ∃ q, q = X.heap.size := ⟨_, rfl⟩
   rw [← hq] at HQ hql HQS ⊢
   clear hq
   generalize X.alloc (.cells #[.int .u8 0, .bool false, .int .i64 0, .int .u64 0, .string ⟨#[]⟩, .slice none 0 0, .slice none 0 0] 27) = X at *
   try simp only [Act.put, List.setIfInBounds_toArray, List.set_cons_zero, List.set_cons_succ, List.getElem_toArray, List.getElem_cons_succ, List.getElem_cons_zero]
   refine wpAnyH_ready (rs := [1]) (by kernel_rfl) (by simp) ?_
   refine AllReadyH.cons rfl (fun K hK => ?g11) AllReadyH.nil
   case' g11 =>
    have cb : X.cell? ⟨b, 6, none⟩ = some (.slice ao l.length cap0) := by have := HL.out.box; rw [cell_of_row _ _ 6 _ _ _ this]; rfl
    go_simp
    refine hK.out _ _ hH (fun hH => ?_)
    clear hK K cb
    try simp only [Act.put, List.setIfInBounds_toArray, List.set_cons_zero, List.set_cons_succ, List.getElem_toArray, List.getElem_cons_succ, List.getElem_cons_zero]
    refine wpAnyH_take (i := 4) (v := .int .i64 l.length) rfl (by kernel_rfl) (by kernel_rfl) (by kernel_rfl) (fun _ _ _ h => h) (Or.inl ⟨by rfl, ?_⟩) hH ?_
    ·(intro w hSw; (try dsimp only at hSw); go_simp; try rfl)
    try simp only [Act.put, List.setIfInBounds_toArray, List.set_cons_zero, List.set_cons_succ, List.getElem_toArray, List.getElem_cons_succ, List.getElem_cons_zero]
 case' g3 =>
  go_simp
  have HQ := Lib.hid (heap_alloc_new X (.cells #[.int .u8 0, .bool false, .int .i64 0, .int .u64 0, .string ⟨#[]⟩, .slice none 0 0, .slice none 0 0] 27))
  have hql : X.heap.size < (X.alloc (.cells #[.int .u8 0, .bool false, .int .i64 0, .int .u64 0, .string ⟨#[]⟩, .slice none 0 0, .slice none 0 0] 27)).heap.size := by simp
  have HQS := Lib.hid HL.out.kr.size
  have HL := Lib.hid (HL.out.below ((Below.refl _ _).alloc (Nat.le_refl _) (.cells #[.int .u8 0, .bool false, .int .i64 0, .int .u64 0, .string ⟨#[]⟩, .slice none 0 0, .slice none 0 0] 27)))
  refine hK.out _ _ (by exact by have := HL.out.rbx; rw [cell_of_row _ _ 0 _ _ _ this]; rfl) (fun hH => ?_)
  clear hK K
  obtain ⟨q, hq⟩ : ∃ q, q = X.heap.size := ⟨_, rfl⟩
  rw [← hq] at HQ hql HQS ⊢
  clear hq
  generalize X.alloc (.cells #[.int .u8 0, .bool false, .int .i64 0, .int .u64 0, .string ⟨#[]⟩, .slice none 0 0, .slice none 0 0] 27) = X at *
  try simp only [Act.put, List.setIfInBounds_toArray, List.set_cons_zero, List.set_cons_succ, List.getElem_toArray, List.getElem_cons_succ, List.getElem_cons_zero]
  refine wpAnyH_ready (rs := [1, 3]) (by kernel_rfl) (by simp) ?_
  refine AllReadyH.cons rfl (fun K hK => ?g12) (AllReadyH.cons rfl (fun K hK => ?g13) AllReadyH.nil)
  case' g12 =>
   have cb : X.cell? ⟨b, 6, none⟩ = some (.slice ao l.length cap0) := by have := HL.out.box; rw [cell_of_row _ _ 6 _ _ _ this]; rfl
   go_simp
   refine hK.out _ _ hH (fun hH => ?_)
   clear hK K cb
   try simp only [Act.put, List.setIfInBounds_toArray, List.set_cons_zero, List.set_cons_succ, List.getElem_toArray, List.getElem_cons_succ, List.getElem_cons_zero]
   refine wpAnyH_take (i := 4) (v := .int .i64 l.length) rfl (by kernel_rfl) (by kernel_rfl) (by kernel_rfl) (fun _ _ _ h => h) (Or.inl ⟨by rfl, ?_⟩) hH ?_
   ·(intro w hSw; (try dsimp only at hSw); go_simp; try rfl)
   try simp only [Act.put, List.setIfInBounds_toArray, List.set_cons_zero, List.set_cons_succ, List.getElem_toArray, List.getElem_cons_succ, List.getElem_cons_zero]
   refine wpAnyH_ready (rs := [3]) (by kernel_rfl) (by simp) ?_
   refine AllReadyH.cons rfl (fun K hK => ?g14) AllReadyH.nil
   case' g14 =>
    go_simp
    refine (HC.out _ HL.out.kr HL.out.rd).mono ?_
    intro e X hp
    rcases o with ⟨v, t'⟩ | ⟨x, tt⟩
    rotate_left
    ·skip
     obtain ⟨hg, hk1⟩ : ValBad _ _ _ _ _ _ _ := hp
     unfold Gives at hg
     subst hg
     exact ⟨rfl, rfl, HL.out.kr.trans hk1⟩
    obtain ⟨V, rfl, hJ, hr1, hk1⟩ : ValOk _ _ _ _ _ _ _ _ := hp
    obtain ⟨vk, vb, vn, vu, vt, vks, vvs⟩ := v
    have hJ2 := hJ
    rw [JAt] at hJ2
    obtain ⟨va, vc, va', vc', rfl, -⟩ := hJ2
    have HQ := Lib.hid ((hk1.block q hql (by have := HL.out.r0; have := HQS.out; omega)).trans HQ.out)
    have HL := Lib.hid (HL.out.read hk1 hr1 hJ)
    clear hJ hr1 hk1
    dsimp only
    refine hK.out _ _ (by exact by have := HL.out.rbx; rw [cell_of_row _ _ 0 _ _ _ this]; rfl) (fun hH => ?_)
    clear hK K
    try simp only [Act.put, List.setIfInBounds_toArray, List.set_cons_zero, List.set_cons_succ, List.getElem_toArray, List.getElem_cons_succ, List.getElem_cons_zero]
  case' g13 =>
   go_simp
   refine (HC.out _ HL.out.kr HL.out.rd).mono ?_
   intro e X hp
   rcases o with ⟨v, t'⟩ | ⟨x, tt⟩
   rotate_left
   ·skip
    obtain ⟨hg, hk1⟩ : ValBad _ _ _ _ _ _ _ := hp
    unfold Gives at hg
    subst hg
    exact ⟨rfl, rfl, HL.out.kr.trans hk1⟩
   obtain ⟨V, rfl, hJ, hr1, hk1⟩ : ValOk _ _ _ _ _ _ _ _ := hp
   obtain ⟨vk, vb, vn, vu, vt, vks, vvs⟩ := v
   have hJ2 := hJ
   rw [JAt] at hJ2
   obtain ⟨va, vc, va', vc', rfl, -⟩ := hJ2
   have HQ := Lib.hid ((hk1.block q hql (by have := HL.out.r0; have := HQS.out; omega)).trans HQ.out)
   have HL := Lib.hid (HL.out.read hk1 hr1 hJ)
   clear hJ hr1 hk1
   dsimp only
   refine hK.out _ _ (by exact by have := HL.out.rbx; rw [cell_of_row _ _ 0 _ _ _ this]; rfl) (fun hH => ?_)
   clear hK K
   try simp only [Act.put, List.setIfInBounds_toArray, List.set_cons_zero, List.set_cons_succ, List.getElem_toArray, List.getElem_cons_succ, List.getElem_cons_zero]
   refine wpAnyH_ready (rs := [1]) (by kernel_rfl) (by simp) ?_
   refine AllReadyH.cons rfl (fun K hK => ?g15) AllReadyH.nil
   case' g15 =>
    have cb : X.cell? ⟨b, 6, none⟩ = some (.slice ao l.length cap0) := by have := HL.out.box; rw [cell_of_row _ _ 6 _ _ _ this]; rfl
    go_simp
    refine hK.out _ _ hH (fun hH => ?_)
    clear hK K cb
    try simp only [Act.put, List.setIfInBounds_toArray, List.set_cons_zero, List.set_cons_succ, List.getElem_toArray, List.getElem_cons_succ, List.getElem_cons_zero]
    refine wpAnyH_take (i := 4) (v := .int .i64 l.length) rfl (by kernel_rfl) (by kernel_rfl) (by kernel_rfl) (fun _ _ _ h => h) (Or.inl ⟨by rfl, ?_⟩) hH ?_
    ·(intro w hSw; (try dsimp only at hSw); go_simp; try rfl)
    try simp only [Act.put, List.setIfInBounds_toArray, List.set_cons_zero, List.set_cons_succ, List.getElem_toArray, List.getElem_cons_succ, List.getElem_cons_zero]
 all_goals
  refine wpAnyH_ready (rs := [6]) (by kernel_rfl) (by simp) ?_
  refine AllReadyH.cons rfl (fun K hK => ?_) AllReadyH.nil
  refine step_append_lies _ rfl _ _ 25 rfl w0.heap.size 27 i0 _ 7 88 ht hi hz0 hz1 hz2 rfl (by decide) (.slice ao l.length cap0) l.length (Vs.flatMap c7) rfl HL.out.row ⟨q, 0, none⟩ 1 1 z7 rfl rfl (World.news_of_block HQ.out) (by simp [z7, Value.oneCell']) (by decide) (by unfold maxLen; omega) (by omega) HL.out.kr.size _ rfl ?_
  intro g cap Y hrow hgr hat hgl
  have HA := Lib.hid (HL.out.app hrow hgr (app_at hat))
  clear hrow hgr hat
  go_simp
  refine hK.out _ _ (by exact by have := HA.out.rbx; rw [cell_of_row _ _ 0 _ _ _ this]; rfl) (fun hH => ?_)
  clear hK K
  refine wpAnyH_take (i := 7) (v := .pointer (some ⟨g, l.length * 7, none⟩)) rfl (by kernel_rfl) (by kernel_rfl) (by kernel_rfl) (fun _ _ _ h => h) (Or.inl ⟨by rfl, ?_⟩) hH ?_
  ·(intro w hSw; (try dsimp only at hSw); go_simp; first | rfl | (intro hx; exfalso; omega))
  try simp only [Act.put, List.setIfInBounds_toArray, List.set_cons_zero, List.set_cons_succ, List.getElem_toArray, List.getElem_cons_succ, List.getElem_cons_zero]
  refine wpAnyH_take (i := 9) (v := .pointer (some ⟨b, 6, none⟩)) rfl (by kernel_rfl) (by kernel_rfl) (by kernel_rfl) (fun _ _ _ h => h) (Or.inl ⟨by rfl, ?_⟩) hH ?_
  ·(intro w hSw; (try dsimp only at hSw); go_simp; try rfl)
  try simp only [Act.put, List.setIfInBounds_toArray, List.set_cons_zero, List.set_cons_succ, List.getElem_toArray, List.getElem_cons_succ, List.getElem_cons_zero]
  have hx7 := HL.out.its.c7len_take
  refine wpAnyH_ready (rs := [8, 10]) (by kernel_rfl) (by simp) ?_
  refine AllReadyH.cons rfl (fun K hK => ?_) ?_
  ·skip
   have hrow := HA.out.row
   obtain ⟨r0, r1, r2, r3, r4, r5, r6⟩ := row_cells7 hrow hx7
   have rf := hrow.frozenAt
   go_simp
   have HF1 := HA.out.fill7 hx7 (.int .u8 vk) (.bool vb) (.int .i64 vn) (.int .u64 vu) (.string vt) (.slice va vks.length vc) (.slice va' vvs.length vc')
   unfold fill7w at HF1
   replace HF1 := Lib.hid HF1
   refine hK.out _ _ (by exact by have := HF1.out.rbx; rw [cell_of_row _ _ 0 _ _ _ this]; rfl) (fun hHx => ?_)
   clear hK K hrow r0 r1 r2 r3 r4 r5 r6 rf
   try simp only [Act.put, List.setIfInBounds_toArray, List.set_cons_zero, List.set_cons_succ, List.getElem_toArray, List.getElem_cons_succ, List.getElem_cons_zero]
   generalize ((((((Y.setCell ⟨g, l.length * 7, none⟩ (.int .u8 vk)).setCell ⟨g, l.length * 7 + 1, none⟩ (.bool vb)).setCell ⟨g, l.length * 7 + 2, none⟩ (.int .i64 vn)).setCell ⟨g, l.length * 7 + 3, none⟩ (.int .u64 vu)).setCell ⟨g, l.length * 7 + 4, none⟩ (.string vt)).setCell ⟨g, l.length * 7 + 5, none⟩ (.slice va vks.length vc)).setCell ⟨g, l.length * 7 + 6, none⟩ (.slice va' vvs.length vc') = XF at *
   refine wpAnyH_ready (rs := [10]) (by kernel_rfl) (by simp) ?_
   refine AllReadyH.cons rfl (fun K hK => ?_) AllReadyH.nil
   have cb : XF.cell? ⟨b, 6, none⟩ = some (.slice ao l.length cap0) := by have := HF1.out.box; rw [cell_of_row _ _ 6 _ _ _ this]; rfl
   have fb := froz_agg HF1.out.box 6
   go_simp
   have HF2 := Lib.hid (HF1.out.put (.slice (some ⟨g, 0, none⟩) (l.length + 1) cap))
   refine hK.out _ _ (by exact by have := HF2.out.rbx; rw [cell_of_row _ _ 0 _ _ _ this]; rfl) (fun hHy => ?_)
   clear hK K cb fb
   try simp only [Act.put, List.setIfInBounds_toArray, List.set_cons_zero, List.set_cons_succ, List.getElem_toArray, List.getElem_cons_succ, List.getElem_cons_zero]
   refine wpAnyH_done (by kernel_rfl) ?_ _
   go_end0
   exact ⟨rfl, _, _, _, list_fin HF2.out⟩
  refine AllReadyH.cons rfl (fun K hK => ?_) AllReadyH.nil
  have cb : Y.cell? ⟨b, 6, none⟩ = some (.slice ao l.length cap0) := by have := HA.out.box; rw [cell_of_row _ _ 6 _ _ _ this]; rfl
  have fb := froz_agg HA.out.box 6
  go_simp
  have HF1 := Lib.hid (HA.out.put (.slice (some ⟨g, 0, none⟩) (l.length + 1) cap))
  refine hK.out _ _ (by exact by have := HF1.out.rbx; rw [cell_of_row _ _ 0 _ _ _ this]; rfl) (fun hHy => ?_)
  clear hK K cb fb
  try simp only [Act.put, List.setIfInBounds_toArray, List.set_cons_zero, List.set_cons_succ, List.getElem_toArray, List.getElem_cons_succ, List.getElem_cons_zero]
  generalize Y.setCell ⟨b, 6, none⟩ (.slice (some ⟨g, 0, none⟩) (l.length + 1) cap) = XF at *
  refine wpAnyH_ready (rs := [8]) (by kernel_rfl) (by simp) ?_
  refine AllReadyH.cons rfl (fun K hK => ?_) AllReadyH.nil
  have hrow := HF1.out.row
  obtain ⟨r0, r1, r2, r3, r4, r5, r6⟩ := row_cells7 hrow hx7
  have rf := hrow.frozenAt
  go_simp
  have HF2 := HF1.out.fill7 hx7 (.int .u8 vk) (.bool vb) (.int .i64 vn) (.int .u64 vu) (.string vt) (.slice va vks.length vc) (.slice va' vvs.length vc')
  unfold fill7w at HF2
  replace HF2 := Lib.hid HF2
  refine hK.out _ _ (by exact by have := HF2.out.rbx; rw [cell_of_row _ _ 0 _ _ _ this]; rfl) (fun hHx => ?_)
  clear hK K hrow r0 r1 r2 r3 r4 r5 r6 rf
  try simp only [Act.put, List.setIfInBounds_toArray, List.set_cons_zero, List.set_cons_succ, List.getElem_toArray, List.getElem_cons_succ, List.getElem_cons_zero]
  refine wpAnyH_done (by kernel_rfl) ?_ _
  go_end0
  exact ⟨rfl, _, _, _, list_fin HF2.out⟩
end Go.Proofs.YtckaoeloofbklaaGreatDoor
namespace Go.Proofs.YtckaoeloofbklaaGreatDoor
open Go Go.RowKit Go.Lib
theorem Rd.deep {r : Nat} {s : ByteArray} {t : List UInt8} {d : Nat} {w : World} (h : Rd r s t d w) (d' : Nat) : Rd r s t d' (w.setCell ⟨r, 2, none⟩ (.int .i64 (d' : Int))) := by
 refine ⟨?_, h.suf, h.big⟩
 have := setCellJ (j := 2) h.at_ (.int .i64 (d' : Int))
 simpa using this
theorem Rd.c2 {r : Nat} {s : ByteArray} {t : List UInt8} {d : Nat} {w : World} (h : Rd r s t d w) : w.cell? ⟨r, 2, none⟩ = some (.int .i64 (d : Int)) := (cell_agg3 h.at_).2.2
theorem within_yes (r : Nat) (s : ByteArray) (c : UInt8) (t : List UInt8) (d : Nat) (w : World) (h : Rd r s (c :: t) d w) (hd : d < 64) :
  Calls Tryz.prog 72 #[.pointer (some ⟨r, 0, none⟩)] w fun e w' => e = .returned (.tuple #[]) ∧ Rd r s (skipB t) (d + 1) w' ∧ KR r w w' := by
 have hne : ((d : Int) == 64) = false := by rw [beq_eq_false_iff_ne]; omega
 have h2 : Rd r s (c :: t) (d + 1) (w.setCell ⟨r, 2, none⟩ (.int .i64 ((d : Int) + 1))) := h.deep (d + 1)
 obtain ⟨m, hlt, hm, -, c1⟩ := h2.head
 have c2 := h.c2
 have f2 := froz_agg h.at_ 2
 have f1 := froz_agg h2.at_ 1
 have hbig := h.big
 have HB := Lib.hid (blanks_any r s t (d + 1) ((w.setCell ⟨r, 2, none⟩ (.int .i64 ((d : Int) + 1))).setCell ⟨r, 1, none⟩ (.int .i64 ((m : Int) + 1))) (h2.set' (t' := t) (List.suffix_cons c t) (m + 1) (by omega)))
 have HK := Lib.hid (((KR.refl r w).set 2 (.int .i64 ((d + 1 : Nat) : Int))).set 1 (.int .i64 ((m + 1 : Nat) : Int)))
 have hw : IntKind.i64.wrap ((d : Int) + 1) = ((d + 1 : Nat) : Int) := by rw [IntKind.wrap_i64]; omega
 have hw2 : IntKind.i64.wrap ((m : Int) + 1) = ((m + 1 : Nat) : Int) := by rw [IntKind.wrap_i64]; omega
 clear h h2 hm
 go_enter Tryz.func72, Tryz.ntmps72
 go_wp2_with fail
 refine HB.out.mono ?_
 rintro e w1 ⟨rfl, hr, hk⟩
 go_wp2_with fail
 go_end0
 exact ⟨rfl, hr, HK.out.trans hk⟩
inductive SevN {σ : Type} (e : UInt8) (One : σ → List UInt8 → Out σ → Prop) : Nat → σ → List UInt8 → Out σ → Prop
 | stop {n s t} : SevN e One n s (e :: t) (.ok s t)
 | more {n s s' t t' o} (h : One s t (.ok s' t')) (h' : SevN e One n s' t' o) : SevN e One (n + 1) s (44 :: t) o
 | bad {n s t x t'} (h : One s t (.err x t')) : SevN e One n s (44 :: t) (.err x t')
theorem Sev.toN {σ : Type} {e : UInt8} {One : σ → List UInt8 → Out σ → Prop} {s : σ} {t : List UInt8} {o : Out σ} (h : Sev e One s t o) : ∃ n, SevN e One n s t o := by
 induction h with
 | stop => exact ⟨0, .stop⟩
 | more h _ ih =>
  obtain ⟨n, hn⟩ := ih
  exact ⟨n + 1, .more h hn⟩
 | bad h => exact ⟨0, .bad h⟩
def OnePost {σ : Type} (INV : σ → List UInt8 → World → Prop) (r : Nat) (s : ByteArray) (w0 : World) (o : Out σ) (e : Ending) (w' : World) : Prop := match o with
 | .ok st t => e = .returned (.tuple #[]) ∧ INV st t w'
 | .err x t => Gives x (s.size - t.length) e ∧ KR r w0 w'
def SevPost {σ : Type} (INV : σ → List UInt8 → World → Prop) (r : Nat) (s : ByteArray) (d : Nat) (w0 : World) (o : Out σ) (e : Ending) (w' : World) : Prop := match o with
 | .ok st t => e = .returned (.tuple #[]) ∧ ∃ W1, INV st t W1 ∧ Rd r s t d w' ∧ KR r W1 w'
 | .err x t => Gives x (s.size - t.length) e ∧ KR r w0 w'
structure InvOK {σ : Type} (INV : σ → List UInt8 → World → Prop) (r : Nat) (s : ByteArray) (d : Nat) (w0 : World) : Prop where
 rd : ∀ st t W, INV st t W → Rd r s t (d + 1) W
 kr : ∀ st t W, INV st t W → KR r w0 W
 go : ∀ st t t' W W', INV st t W → t'.length ≤ t.length → KR r W W' → Rd r s t' (d + 1) W' → INV st t' W'
theorem several_any {σ : Type} (INV : σ → List UInt8 → World → Prop) (One : σ → List UInt8 → Out σ → Prop) (f : Nat) (caps : Array Value) (he : ∀ args w, (callFunc f args).run Tryz.prog w = .ok (.enter f args) w) (c : UInt8) (hc : c ≠ 44) (r : Nat) (s : ByteArray) (d : Nat) (hd : d < 64) (w0 : World) (hI : InvOK INV r s d w0)
  (HC : ∀ st t o W, INV st t W → One st t o → Calls Tryz.prog f caps W (OnePost INV r s w0 o)) (st : σ) (t : List UInt8) (w : World) (hi : INV st t w) (o : Out σ) (hs : Sev0 c One st t o) :
  Calls Tryz.prog 73 #[.pointer (some ⟨r, 0, none⟩), .int .u8 (c.toNat : Int), .func (.func f) #[] caps] w (SevPost INV r s d w0 o) := by
 have HI := Lib.hid hI
 have HCC := Lib.hid HC
 have HW := Lib.hid hi
 have HS := Lib.hid hs
 clear hI HC hi hs
 go_enter Tryz.func73, Tryz.ntmps73
 go_wp2_with fail
 go_loopg [] 0 (fun g wr => wr = w)
 case atStart => rfl
 case round =>
  subst hrel
  have hrd := HI.out.rd _ _ _ HW.out
  cases HS.out with
  | stop =>
   have HY := Lib.hid (is_yes r s c _ _ _ hrd)
   clear hrd
   go_wp2_with fail
   refine HY.out.mono ?_
   rintro e w1 ⟨rfl, hr1, hk1⟩
   have c2 := hr1.c2
   have f2 := froz_agg hr1.at_ 2
   have hwd : IntKind.i64.wrap (((d + 1 : Nat) : Int) - 1) = (d : Int) := by rw [IntKind.wrap_i64]; omega
   have HF := Lib.hid (hr1.deep d)
   have HFK := Lib.hid ((KR.refl r w1).set 2 (.int .i64 (d : Int)))
   have HV := Lib.hid (HI.out.go _ _ _ _ _ HW.out (by simp) hk1 hr1)
   clear hr1 hk1
   go_wp2_with fail
   go_end0
   exact ⟨rfl, _, HV.out, HF.out, HFK.out⟩
  | more hen h1 h2 =>
   have HN := Lib.hid (is_no r s c _ _ _ hrd hen)
   clear hrd
   go_wp2_with fail
   refine HN.out.mono ?_
   rintro e w1 ⟨rfl, hr1, hk1⟩
   have HIN := Lib.hid (HI.out.go _ _ _ _ _ HW.out (by simp) hk1 hr1)
   clear hr1 hk1
   have HO := Lib.hid (HCC.out _ _ _ _ HIN.out h1)
   go_wp2_with fail
   refine HO.out.mono ?_
   rintro e w2 ⟨rfl, hv2⟩
   have HV2 := Lib.hid hv2
   clear hv2
   obtain ⟨n, hn⟩ := h2.toN
   have HNN := Lib.hid hn
   clear hn h1 h2 hen HW HS HN HO HIN
   go_wp2_with fail
   go_loopg [] n (fun g wr => ∃ st t, INV st t wr ∧ SevN c One g st t o)
   case atStart => exact ⟨_, _, HV2.out, HNN.out⟩
   case round =>
    obtain ⟨st3, t3, hv3, hs3⟩ := hrel
    have hrd := HI.out.rd _ _ _ hv3
    have HW := Lib.hid hv3
    clear hv3
    obtain ⟨kk, hkk, hs3⟩ : ∃ k, k = gk ∧ SevN c One k st3 t3 o := ⟨gk, rfl, hs3⟩
    cases hs3 with
    | stop =>
     have HY := Lib.hid (is_yes r s c _ _ _ hrd)
     clear hrd
     go_wp2_with fail
     refine HY.out.mono ?_
     rintro e w1 ⟨rfl, hr1, hk1⟩
     have c2 := hr1.c2
     have f2 := froz_agg hr1.at_ 2
     have hwd : IntKind.i64.wrap (((d + 1 : Nat) : Int) - 1) = (d : Int) := by rw [IntKind.wrap_i64]; omega
     have HF := Lib.hid (hr1.deep d)
     have HFK := Lib.hid ((KR.refl r w1).set 2 (.int .i64 (d : Int)))
     have HV := Lib.hid (HI.out.go _ _ _ _ _ HW.out (by simp) hk1 hr1)
     clear hr1 hk1
     go_wp2_with fail
     go_end0
     exact ⟨rfl, _, HV.out, HF.out, HFK.out⟩
    | more h1 h2 =>
     have HN := Lib.hid (is_no r s c _ _ _ hrd (by simpa [Ends] using fun e => hc e.symm))
     clear hrd
     go_wp2_with fail
     refine HN.out.mono ?_
     rintro e w1 ⟨rfl, hr1, hk1⟩
     have HIA := Lib.hid (HI.out.go _ _ _ _ _ HW.out (by simp) hk1 hr1)
     have HM := Lib.hid (must_yes r s 44 _ _ _ hr1)
     clear hr1 hk1 HN
     go_wp2_with fail
     refine HM.out.mono ?_
     rintro e w1 ⟨rfl, hr1, hk1⟩
     have HIN := Lib.hid (HI.out.go _ _ _ _ _ HIA.out (by simp) hk1 hr1)
     clear hr1 hk1 HM HIA
     have HO := Lib.hid (HCC.out _ _ _ _ HIN.out h1)
     go_wp2_with fail
     refine HO.out.mono ?_
     rintro e w2 ⟨rfl, hv2⟩
     have HV2 := Lib.hid hv2
     clear hv2
     go_wp2_with fail
     go_roundg (gk - 1)
     case measure => omega
     case rel =>
      rw [← hkk, Nat.add_sub_cancel]
      exact ⟨_, _, HV2.out, h2⟩
    | bad h1 =>
     have HN := Lib.hid (is_no r s c _ _ _ hrd (by simpa [Ends] using fun e => hc e.symm))
     clear hrd
     go_wp2_with fail
     refine HN.out.mono ?_
     rintro e w1 ⟨rfl, hr1, hk1⟩
     have HIA := Lib.hid (HI.out.go _ _ _ _ _ HW.out (by simp) hk1 hr1)
     have HM := Lib.hid (must_yes r s 44 _ _ _ hr1)
     clear hr1 hk1 HN
     go_wp2_with fail
     refine HM.out.mono ?_
     rintro e w1 ⟨rfl, hr1, hk1⟩
     have HIN := Lib.hid (HI.out.go _ _ _ _ _ HIA.out (by simp) hk1 hr1)
     clear hr1 hk1 HM HIA
     have HO := Lib.hid (HCC.out _ _ _ _ HIN.out h1)
     go_wp2_with fail
     refine HO.out.mono ?_
     rintro e w2 ⟨hg, hk2⟩
     unfold Gives at hg
     subst hg
     exact ⟨rfl, rfl, hk2⟩
  | bad hen h1 =>
   have HN := Lib.hid (is_no r s c _ _ _ hrd hen)
   clear hrd
   go_wp2_with fail
   refine HN.out.mono ?_
   rintro e w1 ⟨rfl, hr1, hk1⟩
   have HIN := Lib.hid (HI.out.go _ _ _ _ _ HW.out (by simp) hk1 hr1)
   clear hr1 hk1
   have HO := Lib.hid (HCC.out _ _ _ _ HIN.out h1)
   go_wp2_with fail
   refine HO.out.mono ?_
   rintro e w2 ⟨hg, hk2⟩
   unfold Gives at hg
   subst hg
   exact ⟨rfl, rfl, hk2⟩
end Go.Proofs.YtckaoeloofbklaaGreatDoor
