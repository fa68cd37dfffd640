/- Joined texts: Jn. Each begins with its own remark. -/
import Derived.Test.YtckaoeloofbklaaGreatDoorYo
namespace Go.Proofs.YtckaoeloofbklaaGreatDoor
open Go Go.RowKit Go.Lib
theorem infoV : (Tryz.prog.info? 27).map (fun i => (i.zero, i.size, i.bytes)) = some (some (.agg #[.int .u8 0, .bool false, .int .i64 0, .int .u64 0, .string ⟨#[]⟩, .slice none 0 0, .slice none 0 0]), 7, 88) := by kernel_rfl
theorem app_at {v : Value} {g m cap H : Nat} (hat : v.ownBlock = some g ∨ g = H) : ∀ g', (Value.slice (some ⟨g, 0, none⟩) m cap).ownBlock = some g' → v.ownBlock = some g' ∨ H ≤ g' := by
  intro g' e
  have : g = g' := by simpa [Value.ownBlock] using e
  subst this
  exact hat.imp id (fun h => Nat.le_of_eq h.symm)
def fill7w (w : World) (g o : Nat) (y0 y1 y2 y3 y4 y5 y6 : Value) : World :=
  ((((((w.setCell ⟨g, o, none⟩ y0).setCell ⟨g, o + 1, none⟩ y1).setCell ⟨g, o + 2, none⟩ y2).setCell ⟨g, o + 3, none⟩ y3).setCell ⟨g, o + 4, none⟩ y4).setCell ⟨g, o + 5, none⟩ y5).setCell ⟨g, o + 6, none⟩ y6
def z7 : List Value := [.int .u8 0, .bool false, .int .i64 0, .int .u64 0, .string ⟨#[]⟩, .slice none 0 0, .slice none 0 0]
theorem row_cells7 {W : World} {B : Nat} {e : TypeId} {g n cap : Nat} {xs : List Value} (h : W.ownsRow B e 7 (.slice (some ⟨g, 0, none⟩) (n + 1) cap) (n + 1) (xs ++ z7)) (hx : xs.length = n * 7) :
    W.cell? ⟨g, n * 7, none⟩ = some (.int .u8 0) ∧ W.cell? ⟨g, n * 7 + 1, none⟩ = some (.bool false) ∧ W.cell? ⟨g, n * 7 + 2, none⟩ = some (.int .i64 0) ∧ W.cell? ⟨g, n * 7 + 3, none⟩ = some (.int .u64 0) ∧ W.cell? ⟨g, n * 7 + 4, none⟩ = some (.string ⟨#[]⟩) ∧ W.cell? ⟨g, n * 7 + 5, none⟩ = some (.slice none 0 0) ∧ W.cell? ⟨g, n * 7 + 6, none⟩ = some (.slice none 0 0) := by
  have hc := h.cells (g := g) rfl
  have key : ∀ i u, z7[i]? = some u → W.cell? ⟨g, n * 7 + i, none⟩ = some u := fun i u hu => by
    have := hc (n * 7 + i) u (by rw [List.getElem?_append_right (by omega), hx, Nat.add_sub_cancel_left]; exact hu)
    have hadd : (⟨g, 0, none⟩ : Addr).add (n * 7 + i) = ⟨g, n * 7 + i, none⟩ := by unfold Addr.add; split <;> simp_all
    rwa [hadd] at this
  exact ⟨key 0 _ rfl, key 1 _ rfl, key 2 _ rfl, key 3 _ rfl, key 4 _ rfl, key 5 _ rfl, key 6 _ rfl⟩
theorem set_app (xs : List Value) (o i : Nat) (hx : xs.length = o) (ys : List Value) (u : Value) : (xs ++ ys).set (o + i) u = xs ++ ys.set i u := by
  subst hx
  rw [List.set_append_right _ _ (by omega), Nat.add_sub_cancel_left]
section
variable {r : Nat} {s : ByteArray} {d b rb : Nat} {w0 : World} {k : Int} {slk : Value} {ks : List ByteArray} {t : List UInt8} {slb : Value} {g n cap : Nat} {xs : List Value} {l : List JV} {Vs : List Value} {W : World}
theorem LS.fill {m : Nat} (h : LS r s d b rb w0 k slk ks t slb (.slice (some ⟨g, 0, none⟩) m cap) m xs l Vs W) (j : Nat) (u : Value) : LS r s d b rb w0 k slk ks t slb (.slice (some ⟨g, 0, none⟩) m cap) m (xs.set j u) l Vs (W.setCell ⟨g, j, none⟩ u) := by
  obtain ⟨h1, h2⟩ := h.row.stored j u
  exact h.app h1 h2 (fun g' e => .inl e)
theorem LS.fill7 (h : LS r s d b rb w0 k slk ks t slb (.slice (some ⟨g, 0, none⟩) (n + 1) cap) (n + 1) (xs ++ z7) l Vs W) (hx : xs.length = n * 7) (y0 y1 y2 y3 y4 y5 y6 : Value) :
    LS r s d b rb w0 k slk ks t slb (.slice (some ⟨g, 0, none⟩) (n + 1) cap) (n + 1) (xs ++ [y0, y1, y2, y3, y4, y5, y6]) l Vs (fill7w W g (n * 7) y0 y1 y2 y3 y4 y5 y6) := by
  have h7 := ((((((h.fill (n * 7 + 0) y0).fill (n * 7 + 1) y1).fill (n * 7 + 2) y2).fill (n * 7 + 3) y3).fill (n * 7 + 4) y4).fill (n * 7 + 5) y5).fill (n * 7 + 6) y6
  rw [set_app _ _ _ hx, set_app _ _ _ hx, set_app _ _ _ hx, set_app _ _ _ hx, set_app _ _ _ hx, set_app _ _ _ hx, set_app _ _ _ hx] at h7
  exact h7
end
theorem JAll.c7len_take {ok : Nat → Prop} {w : World} {v : JV} {V : Value} : ∀ {l : List JV} {Vs : List Value}, JAll ok w (l ++ [v]) (Vs ++ [V]) → (Vs.flatMap c7).length = l.length * 7
  | [], [], _ => rfl
  | u :: l, U :: Vs, h => by
    obtain ⟨x0, x1, x2, x3, x4, x5, x6, rfl⟩ := h.1.2
    have := JAll.c7len_take (l := l) (Vs := Vs) h.2
    rw [List.flatMap_cons, List.length_append, this]
    simp [c7]; omega
  | [], U :: Vs, h => by
    have h2 : JAll ok w [] (Vs ++ [V]) := h.2
    cases Vs <;> exact h2.elim
  | u :: l, [], h => by
    have h2 : JAll ok w (l ++ [v]) [] := h.2
    cases l <;> exact h2.elim
def List1 (r : Nat) (s : ByteArray) (d b rb : Nat) (w0 : World) (k : Int) (slk : Value) (ks : List ByteArray) (l : List JV) (o : Out JV) (e : Ending) (w' : World) : Prop := match o with
  | .ok v t' => e = .returned (.tuple #[]) ∧ ∃ sl' Vs', LS r s d b rb w0 k slk ks t' sl' sl' (l ++ [v]).length (Vs'.flatMap c7) (l ++ [v]) Vs' w'
  | .err x t' => Gives x (s.size - t'.length) e ∧ KR r w0 w'
theorem list_fin {r : Nat} {s : ByteArray} {d b rb : Nat} {w0 : World} {k : Int} {slk sl : Value} {ks : List ByteArray} {t : List UInt8} {l : List JV} {v : JV} {Vs : List Value} {W : World} {x0 x1 x2 x3 x4 x5 x6 : Value}
    (h : LS r s d b rb w0 k slk ks t sl sl (l.length + 1) (Vs.flatMap c7 ++ [x0, x1, x2, x3, x4, x5, x6]) (l ++ [v]) (Vs ++ [Value.agg #[x0, x1, x2, x3, x4, x5, x6]]) W) :
    LS r s d b rb w0 k slk ks t sl sl (l ++ [v]).length ((Vs ++ [Value.agg #[x0, x1, x2, x3, x4, x5, x6]]).flatMap c7) (l ++ [v]) (Vs ++ [Value.agg #[x0, x1, x2, x3, x4, x5, x6]]) W := by
  rw [List.length_append, List.flatMap_append]
  simpa [c7] using h
set_option maxRecDepth 100000 in
set_option maxHeartbeats 16000000 in
theorem list1_any (r : Nat) (s : ByteArray) (d b rb : Nat) (w0 : World) (t : List UInt8) (sl : Value) (l : List JV) (Vs : List Value) (o : Out JV) (w : World) (h : LS r s d b rb w0 6 (.slice none 0 0) [] t sl sl l.length (Vs.flatMap c7) l Vs w) (hsm : (l.length + 1) * 88 ≤ 140737488355328)
    (HC : ∀ W, KR r w0 W → Rd r s t d W → Calls Tryz.prog 25 #[.pointer (some ⟨r, 0, none⟩)] W (ValPost r s d W o)) :
    Calls Tryz.prog 74 #[.pointer (some ⟨b, 0, none⟩), .pointer (some ⟨rb, 0, none⟩)] w (List1 r s d b rb w0 6 (.slice none 0 0) [] l o) := by
  have HC := Lib.hid HC
  have HL0 := Lib.hid (h.below (Below.refl _ _).drew)
  obtain ⟨i0, hi, hz0, hz1, hz2⟩ := info_parts infoV
  have ht : Tryz.prog.underlying 25 = some (.slice 27) := Tryz.underlying25
  obtain ⟨ao, cap0, hsl⟩ : ∃ ao cap, sl = .slice ao l.length cap := by
    rcases h.row.2 with ⟨h1, h2⟩ | ⟨g, cap, cur, h1, _⟩
    · exact ⟨_, _, by rw [h2]; exact h1⟩
    · exact ⟨_, _, h1⟩
  clear h
  subst hsl
  go_enter Tryz.func74, Tryz.ntmps74
  refine wp_region_held_drew (S := fun w' => w'.cell? ⟨rb, 0, none⟩ = some (.pointer (some ⟨r, 0, none⟩))) (by kernel_rfl) ?_ (fun hH0 => ?_)
  · exact by have := HL0.out.rbx; rw [cell_of_row _ _ 0 _ _ _ this]; rfl
  generalize w.drew = wd at *
  refine wpAnyH_take (i := 0) (v := .pointer (some ⟨b, 6, none⟩)) rfl (by kernel_rfl) (by kernel_rfl) (by kernel_rfl) (fun _ _ _ h => h) (Or.inl ⟨by rfl, ?_⟩) hH0 ?_
  · (intro w hSw; (try dsimp only at hSw); go_simp; try rfl)
  try simp only [Act.put, List.setIfInBounds_toArray, List.set_cons_zero, List.set_cons_succ, List.getElem_toArray, List.getElem_cons_zero]
  refine wpAnyH_take (i := 2) (v := .pointer (some ⟨r, 0, none⟩)) rfl (by kernel_rfl) (by kernel_rfl) (by kernel_rfl) (fun _ _ _ h => h) (Or.inl ⟨by rfl, ?_⟩) hH0 ?_
  · (intro w hSw; (try dsimp only at hSw); go_simp; try rfl)
  try simp only [Act.put, List.setIfInBounds_toArray, List.set_cons_zero, List.set_cons_succ, List.getElem_toArray, List.getElem_cons_succ, List.getElem_cons_zero]
  refine wpAnyH_ready (rs := [1, 3, 5]) (by kernel_rfl) (by simp) ?_
  refine AllReadyH.cons rfl (fun K hK => ?_) ?_
  · have cb : wd.cell? ⟨b, 6, none⟩ = some (.slice ao l.length cap0) := by have := HL0.out.box; rw [cell_of_row _ _ 6 _ _ _ this]; rfl
    go_simp
    refine hK.out _ _ hH0 (fun hH1 => ?_)
    clear hK K cb
    try simp only [Act.put, List.setIfInBounds_toArray, List.set_cons_zero, List.set_cons_succ, List.getElem_toArray, List.getElem_cons_succ, List.getElem_cons_zero]
    refine wpAnyH_take (i := 4) (v := .int .i64 l.length) rfl (by kernel_rfl) (by kernel_rfl) (by kernel_rfl) (fun _ _ _ h => h) (Or.inl ⟨by rfl, ?_⟩) hH1 ?_
    · (intro w hSw; (try dsimp only at hSw); go_simp; try rfl)
    try simp only [Act.put, List.setIfInBounds_toArray, List.set_cons_zero, List.set_cons_succ, List.getElem_toArray, List.getElem_cons_succ, List.getElem_cons_zero]
    refine wpAnyH_ready (rs := [3, 5]) (by kernel_rfl) (by simp) ?_
    refine AllReadyH.cons rfl (fun K hK => ?_) ?_
    · go_simp
      refine (HC.out _ HL0.out.kr HL0.out.rd).mono ?_
      intro e X2 hp
      cases o with
      | err x tt =>
        obtain ⟨hg, hk1⟩ : ValBad r s wd x tt e X2 := hp
        unfold Gives at hg
        subst hg
        exact ⟨rfl, rfl, HL0.out.kr.trans hk1⟩
      | ok v t' =>
        obtain ⟨V, rfl, hJ, hr1, hk1⟩ : ValOk r s d wd v t' e X2 := hp
        obtain ⟨vk, vb, vn, vu, vt, vks, vvs⟩ := v
        have hJ2 := hJ
        rw [JAt] at hJ2
        obtain ⟨va, vc, va', vc', rfl, -⟩ := hJ2
        have HL2 := Lib.hid (HL0.out.read hk1 hr1 hJ)
        clear hJ hr1 hk1
        dsimp only
        refine hK.out _ _ (by exact by have := HL2.out.rbx; rw [cell_of_row _ _ 0 _ _ _ this]; rfl) (fun hH2 => ?_)
        clear hK K
        try simp only [Act.put, List.setIfInBounds_toArray, List.set_cons_zero, List.set_cons_succ, List.getElem_toArray, List.getElem_cons_succ, List.getElem_cons_zero]
        refine wpAnyH_ready (rs := [5]) (by kernel_rfl) (by simp) ?_
        refine AllReadyH.cons rfl (fun K hK => ?_) ?_
        · go_simp
          have HL3 := Lib.hid (HL2.out.below ((Below.refl _ _).alloc (Nat.le_refl _) (.cells #[.int .u8 0, .bool false, .int .i64 0, .int .u64 0, .string ⟨#[]⟩, .slice none 0 0, .slice none 0 0] 27)))
          have HQ := Lib.hid (heap_alloc_new X2 (.cells #[.int .u8 0, .bool false, .int .i64 0, .int .u64 0, .string ⟨#[]⟩, .slice none 0 0, .slice none 0 0] 27))
          have hql : X2.heap.size < (X2.alloc (.cells #[.int .u8 0, .bool false, .int .i64 0, .int .u64 0, .string ⟨#[]⟩, .slice none 0 0, .slice none 0 0] 27)).heap.size := by simp
          have HQS := Lib.hid HL2.out.kr.size
          refine hK.out _ _ (by exact by have := HL3.out.rbx; rw [cell_of_row _ _ 0 _ _ _ this]; rfl) (fun hH3 => ?_)
          clear hK K
          generalize X2.alloc (.cells #[.int .u8 0, .bool false, .int .i64 0, .int .u64 0, .string ⟨#[]⟩, .slice none 0 0, .slice none 0 0] 27) = X3 at *
          obtain ⟨q, hq⟩ : ∃ q, q = X2.heap.size := ⟨_, rfl⟩
          rw [← hq] at HQ hql HQS ⊢
          clear hq
          try simp only [Act.put, List.setIfInBounds_toArray, List.set_cons_zero, List.set_cons_succ, List.getElem_toArray, List.getElem_cons_succ, List.getElem_cons_zero]
          refine wpAnyH_ready (rs := [6]) (by kernel_rfl) (by simp) ?_
          refine AllReadyH.cons rfl (fun K hK => ?_) AllReadyH.nil
          refine step_append_lies _ rfl _ _ 25 rfl w0.heap.size 27 i0 _ 7 88 ht hi hz0 hz1 hz2 rfl (by decide) (.slice ao l.length cap0) l.length (Vs.flatMap c7) rfl HL3.out.row ⟨q, 0, none⟩ 1 1 z7 rfl rfl (World.news_of_block HQ.out) (by simp [z7, Value.oneCell']) (by decide) (by unfold maxLen; omega) (by omega) HL3.out.kr.size _ rfl ?_
          intro g cap X4 hrow hgr hat hgl
          have HA := Lib.hid (HL3.out.app hrow hgr (app_at hat))
          clear hrow hgr hat
          go_simp
          refine hK.out _ _ (by exact by have := HA.out.rbx; rw [cell_of_row _ _ 0 _ _ _ this]; rfl) (fun hH4 => ?_)
          clear hK K
          refine wpAnyH_take (i := 7) (v := .pointer (some ⟨g, l.length * 7, none⟩)) rfl (by kernel_rfl) (by kernel_rfl) (by kernel_rfl) (fun _ _ _ h => h) (Or.inl ⟨by rfl, ?_⟩) hH4 ?_
          · (intro w hSw; (try dsimp only at hSw); go_simp; first | rfl | (intro hx; exfalso; omega))
          try simp only [Act.put, List.setIfInBounds_toArray, List.set_cons_zero, List.set_cons_succ, List.getElem_toArray, List.getElem_cons_succ, List.getElem_cons_zero]
          refine wpAnyH_take (i := 9) (v := .pointer (some ⟨b, 6, none⟩)) rfl (by kernel_rfl) (by kernel_rfl) (by kernel_rfl) (fun _ _ _ h => h) (Or.inl ⟨by rfl, ?_⟩) hH4 ?_
          · (intro w hSw; (try dsimp only at hSw); go_simp; try rfl)
          try simp only [Act.put, List.setIfInBounds_toArray, List.set_cons_zero, List.set_cons_succ, List.getElem_toArray, List.getElem_cons_succ, List.getElem_cons_zero]
          have hx7 := HL3.out.its.c7len_take
          refine wpAnyH_ready (rs := [8, 10]) (by kernel_rfl) (by simp) ?_
          refine AllReadyH.cons rfl (fun K hK => ?_) ?_
          · skip
            have hrow := HA.out.row
            obtain ⟨r0, r1, r2, r3, r4, r5, r6⟩ := row_cells7 hrow hx7
            have rf := hrow.frozenAt
            go_simp
            have HF1 := HA.out.fill7 hx7 (.int .u8 vk) (.bool vb) (.int .i64 vn) (.int .u64 vu) (.string vt) (.slice va vks.length vc) (.slice va' vvs.length vc')
            unfold fill7w at HF1
            replace HF1 := Lib.hid HF1
            refine hK.out _ _ (by exact by have := HF1.out.rbx; rw [cell_of_row _ _ 0 _ _ _ this]; rfl) (fun hHx => ?_)
            clear hK K hrow r0 r1 r2 r3 r4 r5 r6 rf
            try simp only [Act.put, List.setIfInBounds_toArray, List.set_cons_zero, List.set_cons_succ, List.getElem_toArray, List.getElem_cons_succ, List.getElem_cons_zero]
            generalize ((((((X4.setCell ⟨g, l.length * 7, none⟩ (.int .u8 vk)).setCell ⟨g, l.length * 7 + 1, none⟩ (.bool vb)).setCell ⟨g, l.length * 7 + 2, none⟩ (.int .i64 vn)).setCell ⟨g, l.length * 7 + 3, none⟩ (.int .u64 vu)).setCell ⟨g, l.length * 7 + 4, none⟩ (.string vt)).setCell ⟨g, l.length * 7 + 5, none⟩ (.slice va vks.length vc)).setCell ⟨g, l.length * 7 + 6, none⟩ (.slice va' vvs.length vc') = XF at *
            refine wpAnyH_ready (rs := [10]) (by kernel_rfl) (by simp) ?_
            refine AllReadyH.cons rfl (fun K hK => ?_) AllReadyH.nil
            have cb : XF.cell? ⟨b, 6, none⟩ = some (.slice ao l.length cap0) := by have := HF1.out.box; rw [cell_of_row _ _ 6 _ _ _ this]; rfl
            have fb := froz_agg HF1.out.box 6
            go_simp
            have HF2 := Lib.hid (HF1.out.put (.slice (some ⟨g, 0, none⟩) (l.length + 1) cap))
            refine hK.out _ _ (by exact by have := HF2.out.rbx; rw [cell_of_row _ _ 0 _ _ _ this]; rfl) (fun hHy => ?_)
            clear hK K cb fb
            try simp only [Act.put, List.setIfInBounds_toArray, List.set_cons_zero, List.set_cons_succ, List.getElem_toArray, List.getElem_cons_succ, List.getElem_cons_zero]
            refine wpAnyH_done (by kernel_rfl) ?_ _
            go_end0
            exact ⟨rfl, _, _, list_fin HF2.out⟩
          refine AllReadyH.cons rfl (fun K hK => ?_) AllReadyH.nil
          have cb : X4.cell? ⟨b, 6, none⟩ = some (.slice ao l.length cap0) := by have := HA.out.box; rw [cell_of_row _ _ 6 _ _ _ this]; rfl
          have fb := froz_agg HA.out.box 6
          go_simp
          have HF1 := Lib.hid (HA.out.put (.slice (some ⟨g, 0, none⟩) (l.length + 1) cap))
          refine hK.out _ _ (by exact by have := HF1.out.rbx; rw [cell_of_row _ _ 0 _ _ _ this]; rfl) (fun hHy => ?_)
          clear hK K cb fb
          try simp only [Act.put, List.setIfInBounds_toArray, List.set_cons_zero, List.set_cons_succ, List.getElem_toArray, List.getElem_cons_succ, List.getElem_cons_zero]
          generalize X4.setCell ⟨b, 6, none⟩ (.slice (some ⟨g, 0, none⟩) (l.length + 1) cap) = XF at *
          refine wpAnyH_ready (rs := [8]) (by kernel_rfl) (by simp) ?_
          refine AllReadyH.cons rfl (fun K hK => ?_) AllReadyH.nil
          have hrow := HF1.out.row
          obtain ⟨r0, r1, r2, r3, r4, r5, r6⟩ := row_cells7 hrow hx7
          have rf := hrow.frozenAt
          go_simp
          have HF2 := HF1.out.fill7 hx7 (.int .u8 vk) (.bool vb) (.int .i64 vn) (.int .u64 vu) (.string vt) (.slice va vks.length vc) (.slice va' vvs.length vc')
          unfold fill7w at HF2
          replace HF2 := Lib.hid HF2
          refine hK.out _ _ (by exact by have := HF2.out.rbx; rw [cell_of_row _ _ 0 _ _ _ this]; rfl) (fun hHx => ?_)
          clear hK K hrow r0 r1 r2 r3 r4 r5 r6 rf
          try simp only [Act.put, List.setIfInBounds_toArray, List.set_cons_zero, List.set_cons_succ, List.getElem_toArray, List.getElem_cons_succ, List.getElem_cons_zero]
          refine wpAnyH_done (by kernel_rfl) ?_ _
          go_end0
          exact ⟨rfl, _, _, list_fin HF2.out⟩
        exact AllReadyH.nil
    refine AllReadyH.cons rfl (fun K hK => ?_) ?_
    · go_simp
      have HL5 := Lib.hid (HL0.out.below ((Below.refl _ _).alloc (Nat.le_refl _) (.cells #[.int .u8 0, .bool false, .int .i64 0, .int .u64 0, .string ⟨#[]⟩, .slice none 0 0, .slice none 0 0] 27)))
      have HQ := Lib.hid (heap_alloc_new wd (.cells #[.int .u8 0, .bool false, .int .i64 0, .int .u64 0, .string ⟨#[]⟩, .slice none 0 0, .slice none 0 0] 27))
      have hql : wd.heap.size < (wd.alloc (.cells #[.int .u8 0, .bool false, .int .i64 0, .int .u64 0, .string ⟨#[]⟩, .slice none 0 0, .slice none 0 0] 27)).heap.size := by simp
      have HQS := Lib.hid HL0.out.kr.size
      refine hK.out _ _ (by exact by have := HL5.out.rbx; rw [cell_of_row _ _ 0 _ _ _ this]; rfl) (fun hH5 => ?_)
      clear hK K
      generalize wd.alloc (.cells #[.int .u8 0, .bool false, .int .i64 0, .int .u64 0, .string ⟨#[]⟩, .slice none 0 0, .slice none 0 0] 27) = X5 at *
      obtain ⟨q, hq⟩ : ∃ q, q = wd.heap.size := ⟨_, rfl⟩
      rw [← hq] at HQ hql HQS ⊢
      clear hq
      try simp only [Act.put, List.setIfInBounds_toArray, List.set_cons_zero, List.set_cons_succ, List.getElem_toArray, List.getElem_cons_succ, List.getElem_cons_zero]
      refine wpAnyH_ready (rs := [3]) (by kernel_rfl) (by simp) ?_
      refine AllReadyH.cons rfl (fun K hK => ?_) ?_
      · go_simp
        refine (HC.out _ HL5.out.kr HL5.out.rd).mono ?_
        intro e X6 hp
        cases o with
        | err x tt =>
          obtain ⟨hg, hk1⟩ : ValBad r s X5 x tt e X6 := hp
          unfold Gives at hg
          subst hg
          exact ⟨rfl, rfl, HL5.out.kr.trans hk1⟩
        | ok v t' =>
          obtain ⟨V, rfl, hJ, hr1, hk1⟩ : ValOk r s d X5 v t' e X6 := hp
          obtain ⟨vk, vb, vn, vu, vt, vks, vvs⟩ := v
          have hJ2 := hJ
          rw [JAt] at hJ2
          obtain ⟨va, vc, va', vc', rfl, -⟩ := hJ2
          have HL6 := Lib.hid (HL5.out.read hk1 hr1 hJ)
          have HQ := Lib.hid ((hk1.block q hql (by have := HL0.out.r0; have := HQS.out; omega)).trans HQ.out)
          clear hJ hr1 hk1
          dsimp only
          refine hK.out _ _ (by exact by have := HL6.out.rbx; rw [cell_of_row _ _ 0 _ _ _ this]; rfl) (fun hH6 => ?_)
          clear hK K
          try simp only [Act.put, List.setIfInBounds_toArray, List.set_cons_zero, List.set_cons_succ, List.getElem_toArray, List.getElem_cons_succ, List.getElem_cons_zero]
          refine wpAnyH_ready (rs := [6]) (by kernel_rfl) (by simp) ?_
          refine AllReadyH.cons rfl (fun K hK => ?_) AllReadyH.nil
          refine step_append_lies _ rfl _ _ 25 rfl w0.heap.size 27 i0 _ 7 88 ht hi hz0 hz1 hz2 rfl (by decide) (.slice ao l.length cap0) l.length (Vs.flatMap c7) rfl HL6.out.row ⟨q, 0, none⟩ 1 1 z7 rfl rfl (World.news_of_block HQ.out) (by simp [z7, Value.oneCell']) (by decide) (by unfold maxLen; omega) (by omega) HL6.out.kr.size _ rfl ?_
          intro g cap X7 hrow hgr hat hgl
          have HA := Lib.hid (HL6.out.app hrow hgr (app_at hat))
          clear hrow hgr hat
          go_simp
          refine hK.out _ _ (by exact by have := HA.out.rbx; rw [cell_of_row _ _ 0 _ _ _ this]; rfl) (fun hH7 => ?_)
          clear hK K
          refine wpAnyH_take (i := 7) (v := .pointer (some ⟨g, l.length * 7, none⟩)) rfl (by kernel_rfl) (by kernel_rfl) (by kernel_rfl) (fun _ _ _ h => h) (Or.inl ⟨by rfl, ?_⟩) hH7 ?_
          · (intro w hSw; (try dsimp only at hSw); go_simp; first | rfl | (intro hx; exfalso; omega))
          try simp only [Act.put, List.setIfInBounds_toArray, List.set_cons_zero, List.set_cons_succ, List.getElem_toArray, List.getElem_cons_succ, List.getElem_cons_zero]
          refine wpAnyH_take (i := 9) (v := .pointer (some ⟨b, 6, none⟩)) rfl (by kernel_rfl) (by kernel_rfl) (by kernel_rfl) (fun _ _ _ h => h) (Or.inl ⟨by rfl, ?_⟩) hH7 ?_
          · (intro w hSw; (try dsimp only at hSw); go_simp; try rfl)
          try simp only [Act.put, List.setIfInBounds_toArray, List.set_cons_zero, List.set_cons_succ, List.getElem_toArray, List.getElem_cons_succ, List.getElem_cons_zero]
          have hx7 := HL6.out.its.c7len_take
          refine wpAnyH_ready (rs := [8, 10]) (by kernel_rfl) (by simp) ?_
          refine AllReadyH.cons rfl (fun K hK => ?_) ?_
          · skip
            have hrow := HA.out.row
            obtain ⟨r0, r1, r2, r3, r4, r5, r6⟩ := row_cells7 hrow hx7
            have rf := hrow.frozenAt
            go_simp
            have HF1 := HA.out.fill7 hx7 (.int .u8 vk) (.bool vb) (.int .i64 vn) (.int .u64 vu) (.string vt) (.slice va vks.length vc) (.slice va' vvs.length vc')
            unfold fill7w at HF1
            replace HF1 := Lib.hid HF1
            refine hK.out _ _ (by exact by have := HF1.out.rbx; rw [cell_of_row _ _ 0 _ _ _ this]; rfl) (fun hHx => ?_)
            clear hK K hrow r0 r1 r2 r3 r4 r5 r6 rf
            try simp only [Act.put, List.setIfInBounds_toArray, List.set_cons_zero, List.set_cons_succ, List.getElem_toArray, List.getElem_cons_succ, List.getElem_cons_zero]
            generalize ((((((X7.setCell ⟨g, l.length * 7, none⟩ (.int .u8 vk)).setCell ⟨g, l.length * 7 + 1, none⟩ (.bool vb)).setCell ⟨g, l.length * 7 + 2, none⟩ (.int .i64 vn)).setCell ⟨g, l.length * 7 + 3, none⟩ (.int .u64 vu)).setCell ⟨g, l.length * 7 + 4, none⟩ (.string vt)).setCell ⟨g, l.length * 7 + 5, none⟩ (.slice va vks.length vc)).setCell ⟨g, l.length * 7 + 6, none⟩ (.slice va' vvs.length vc') = XF at *
            refine wpAnyH_ready (rs := [10]) (by kernel_rfl) (by simp) ?_
            refine AllReadyH.cons rfl (fun K hK => ?_) AllReadyH.nil
            have cb : XF.cell? ⟨b, 6, none⟩ = some (.slice ao l.length cap0) := by have := HF1.out.box; rw [cell_of_row _ _ 6 _ _ _ this]; rfl
            have fb := froz_agg HF1.out.box 6
            go_simp
            have HF2 := Lib.hid (HF1.out.put (.slice (some ⟨g, 0, none⟩) (l.length + 1) cap))
            refine hK.out _ _ (by exact by have := HF2.out.rbx; rw [cell_of_row _ _ 0 _ _ _ this]; rfl) (fun hHy => ?_)
            clear hK K cb fb
            try simp only [Act.put, List.setIfInBounds_toArray, List.set_cons_zero, List.set_cons_succ, List.getElem_toArray, List.getElem_cons_succ, List.getElem_cons_zero]
            refine wpAnyH_done (by kernel_rfl) ?_ _
            go_end0
            exact ⟨rfl, _, _, list_fin HF2.out⟩
          refine AllReadyH.cons rfl (fun K hK => ?_) AllReadyH.nil
          have cb : X7.cell? ⟨b, 6, none⟩ = some (.slice ao l.length cap0) := by have := HA.out.box; rw [cell_of_row _ _ 6 _ _ _ this]; rfl
          have fb := froz_agg HA.out.box 6
          go_simp
          have HF1 := Lib.hid (HA.out.put (.slice (some ⟨g, 0, none⟩) (l.length + 1) cap))
          refine hK.out _ _ (by exact by have := HF1.out.rbx; rw [cell_of_row _ _ 0 _ _ _ this]; rfl) (fun hHy => ?_)
          clear hK K cb fb
          try simp only [Act.put, List.setIfInBounds_toArray, List.set_cons_zero, List.set_cons_succ, List.getElem_toArray, List.getElem_cons_succ, List.getElem_cons_zero]
          generalize X7.setCell ⟨b, 6, none⟩ (.slice (some ⟨g, 0, none⟩) (l.length + 1) cap) = XF at *
          refine wpAnyH_ready (rs := [8]) (by kernel_rfl) (by simp) ?_
          refine AllReadyH.cons rfl (fun K hK => ?_) AllReadyH.nil
          have hrow := HF1.out.row
          obtain ⟨r0, r1, r2, r3, r4, r5, r6⟩ := row_cells7 hrow hx7
          have rf := hrow.frozenAt
          go_simp
          have HF2 := HF1.out.fill7 hx7 (.int .u8 vk) (.bool vb) (.int .i64 vn) (.int .u64 vu) (.string vt) (.slice va vks.length vc) (.slice va' vvs.length vc')
          unfold fill7w at HF2
          replace HF2 := Lib.hid HF2
          refine hK.out _ _ (by exact by have := HF2.out.rbx; rw [cell_of_row _ _ 0 _ _ _ this]; rfl) (fun hHx => ?_)
          clear hK K hrow r0 r1 r2 r3 r4 r5 r6 rf
          try simp only [Act.put, List.setIfInBounds_toArray, List.set_cons_zero, List.set_cons_succ, List.getElem_toArray, List.getElem_cons_succ, List.getElem_cons_zero]
          refine wpAnyH_done (by kernel_rfl) ?_ _
          go_end0
          exact ⟨rfl, _, _, list_fin HF2.out⟩
      exact AllReadyH.nil
    exact AllReadyH.nil
  refine AllReadyH.cons rfl (fun K hK => ?_) ?_
  · go_simp
    refine (HC.out _ HL0.out.kr HL0.out.rd).mono ?_
    intro e X8 hp
    cases o with
    | err x tt =>
      obtain ⟨hg, hk1⟩ : ValBad r s wd x tt e X8 := hp
      unfold Gives at hg
      subst hg
      exact ⟨rfl, rfl, HL0.out.kr.trans hk1⟩
    | ok v t' =>
      obtain ⟨V, rfl, hJ, hr1, hk1⟩ : ValOk r s d wd v t' e X8 := hp
      obtain ⟨vk, vb, vn, vu, vt, vks, vvs⟩ := v
      have hJ2 := hJ
      rw [JAt] at hJ2
      obtain ⟨va, vc, va', vc', rfl, -⟩ := hJ2
      have HL8 := Lib.hid (HL0.out.read hk1 hr1 hJ)
      clear hJ hr1 hk1
      dsimp only
      refine hK.out _ _ (by exact by have := HL8.out.rbx; rw [cell_of_row _ _ 0 _ _ _ this]; rfl) (fun hH8 => ?_)
      clear hK K
      try simp only [Act.put, List.setIfInBounds_toArray, List.set_cons_zero, List.set_cons_succ, List.getElem_toArray, List.getElem_cons_succ, List.getElem_cons_zero]
      refine wpAnyH_ready (rs := [1, 5]) (by kernel_rfl) (by simp) ?_
      refine AllReadyH.cons rfl (fun K hK => ?_) ?_
      · have cb : X8.cell? ⟨b, 6, none⟩ = some (.slice ao l.length cap0) := by have := HL8.out.box; rw [cell_of_row _ _ 6 _ _ _ this]; rfl
        go_simp
        refine hK.out _ _ hH8 (fun hH9 => ?_)
        clear hK K cb
        try simp only [Act.put, List.setIfInBounds_toArray, List.set_cons_zero, List.set_cons_succ, List.getElem_toArray, List.getElem_cons_succ, List.getElem_cons_zero]
        refine wpAnyH_take (i := 4) (v := .int .i64 l.length) rfl (by kernel_rfl) (by kernel_rfl) (by kernel_rfl) (fun _ _ _ h => h) (Or.inl ⟨by rfl, ?_⟩) hH9 ?_
        · (intro w hSw; (try dsimp only at hSw); go_simp; try rfl)
        try simp only [Act.put, List.setIfInBounds_toArray, List.set_cons_zero, List.set_cons_succ, List.getElem_toArray, List.getElem_cons_succ, List.getElem_cons_zero]
        refine wpAnyH_ready (rs := [5]) (by kernel_rfl) (by simp) ?_
        refine AllReadyH.cons rfl (fun K hK => ?_) ?_
        · go_simp
          have HL10 := Lib.hid (HL8.out.below ((Below.refl _ _).alloc (Nat.le_refl _) (.cells #[.int .u8 0, .bool false, .int .i64 0, .int .u64 0, .string ⟨#[]⟩, .slice none 0 0, .slice none 0 0] 27)))
          have HQ := Lib.hid (heap_alloc_new X8 (.cells #[.int .u8 0, .bool false, .int .i64 0, .int .u64 0, .string ⟨#[]⟩, .slice none 0 0, .slice none 0 0] 27))
          have hql : X8.heap.size < (X8.alloc (.cells #[.int .u8 0, .bool false, .int .i64 0, .int .u64 0, .string ⟨#[]⟩, .slice none 0 0, .slice none 0 0] 27)).heap.size := by simp
          have HQS := Lib.hid HL8.out.kr.size
          refine hK.out _ _ (by exact by have := HL10.out.rbx; rw [cell_of_row _ _ 0 _ _ _ this]; rfl) (fun hH10 => ?_)
          clear hK K
          generalize X8.alloc (.cells #[.int .u8 0, .bool false, .int .i64 0, .int .u64 0, .string ⟨#[]⟩, .slice none 0 0, .slice none 0 0] 27) = X10 at *
          obtain ⟨q, hq⟩ : ∃ q, q = X8.heap.size := ⟨_, rfl⟩
          rw [← hq] at HQ hql HQS ⊢
          clear hq
          try simp only [Act.put, List.setIfInBounds_toArray, List.set_cons_zero, List.set_cons_succ, List.getElem_toArray, List.getElem_cons_succ, List.getElem_cons_zero]
          refine wpAnyH_ready (rs := [6]) (by kernel_rfl) (by simp) ?_
          refine AllReadyH.cons rfl (fun K hK => ?_) AllReadyH.nil
          refine step_append_lies _ rfl _ _ 25 rfl w0.heap.size 27 i0 _ 7 88 ht hi hz0 hz1 hz2 rfl (by decide) (.slice ao l.length cap0) l.length (Vs.flatMap c7) rfl HL10.out.row ⟨q, 0, none⟩ 1 1 z7 rfl rfl (World.news_of_block HQ.out) (by simp [z7, Value.oneCell']) (by decide) (by unfold maxLen; omega) (by omega) HL10.out.kr.size _ rfl ?_
          intro g cap X11 hrow hgr hat hgl
          have HA := Lib.hid (HL10.out.app hrow hgr (app_at hat))
          clear hrow hgr hat
          go_simp
          refine hK.out _ _ (by exact by have := HA.out.rbx; rw [cell_of_row _ _ 0 _ _ _ this]; rfl) (fun hH11 => ?_)
          clear hK K
          refine wpAnyH_take (i := 7) (v := .pointer (some ⟨g, l.length * 7, none⟩)) rfl (by kernel_rfl) (by kernel_rfl) (by kernel_rfl) (fun _ _ _ h => h) (Or.inl ⟨by rfl, ?_⟩) hH11 ?_
          · (intro w hSw; (try dsimp only at hSw); go_simp; first | rfl | (intro hx; exfalso; omega))
          try simp only [Act.put, List.setIfInBounds_toArray, List.set_cons_zero, List.set_cons_succ, List.getElem_toArray, List.getElem_cons_succ, List.getElem_cons_zero]
          refine wpAnyH_take (i := 9) (v := .pointer (some ⟨b, 6, none⟩)) rfl (by kernel_rfl) (by kernel_rfl) (by kernel_rfl) (fun _ _ _ h => h) (Or.inl ⟨by rfl, ?_⟩) hH11 ?_
          · (intro w hSw; (try dsimp only at hSw); go_simp; try rfl)
          try simp only [Act.put, List.setIfInBounds_toArray, List.set_cons_zero, List.set_cons_succ, List.getElem_toArray, List.getElem_cons_succ, List.getElem_cons_zero]
          have hx7 := HL10.out.its.c7len_take
          refine wpAnyH_ready (rs := [8, 10]) (by kernel_rfl) (by simp) ?_
          refine AllReadyH.cons rfl (fun K hK => ?_) ?_
          · skip
            have hrow := HA.out.row
            obtain ⟨r0, r1, r2, r3, r4, r5, r6⟩ := row_cells7 hrow hx7
            have rf := hrow.frozenAt
            go_simp
            have HF1 := HA.out.fill7 hx7 (.int .u8 vk) (.bool vb) (.int .i64 vn) (.int .u64 vu) (.string vt) (.slice va vks.length vc) (.slice va' vvs.length vc')
            unfold fill7w at HF1
            replace HF1 := Lib.hid HF1
            refine hK.out _ _ (by exact by have := HF1.out.rbx; rw [cell_of_row _ _ 0 _ _ _ this]; rfl) (fun hHx => ?_)
            clear hK K hrow r0 r1 r2 r3 r4 r5 r6 rf
            try simp only [Act.put, List.setIfInBounds_toArray, List.set_cons_zero, List.set_cons_succ, List.getElem_toArray, List.getElem_cons_succ, List.getElem_cons_zero]
            generalize ((((((X11.setCell ⟨g, l.length * 7, none⟩ (.int .u8 vk)).setCell ⟨g, l.length * 7 + 1, none⟩ (.bool vb)).setCell ⟨g, l.length * 7 + 2, none⟩ (.int .i64 vn)).setCell ⟨g, l.length * 7 + 3, none⟩ (.int .u64 vu)).setCell ⟨g, l.length * 7 + 4, none⟩ (.string vt)).setCell ⟨g, l.length * 7 + 5, none⟩ (.slice va vks.length vc)).setCell ⟨g, l.length * 7 + 6, none⟩ (.slice va' vvs.length vc') = XF at *
            refine wpAnyH_ready (rs := [10]) (by kernel_rfl) (by simp) ?_
            refine AllReadyH.cons rfl (fun K hK => ?_) AllReadyH.nil
            have cb : XF.cell? ⟨b, 6, none⟩ = some (.slice ao l.length cap0) := by have := HF1.out.box; rw [cell_of_row _ _ 6 _ _ _ this]; rfl
            have fb := froz_agg HF1.out.box 6
            go_simp
            have HF2 := Lib.hid (HF1.out.put (.slice (some ⟨g, 0, none⟩) (l.length + 1) cap))
            refine hK.out _ _ (by exact by have := HF2.out.rbx; rw [cell_of_row _ _ 0 _ _ _ this]; rfl) (fun hHy => ?_)
            clear hK K cb fb
            try simp only [Act.put, List.setIfInBounds_toArray, List.set_cons_zero, List.set_cons_succ, List.getElem_toArray, List.getElem_cons_succ, List.getElem_cons_zero]
            refine wpAnyH_done (by kernel_rfl) ?_ _
            go_end0
            exact ⟨rfl, _, _, list_fin HF2.out⟩
          refine AllReadyH.cons rfl (fun K hK => ?_) AllReadyH.nil
          have cb : X11.cell? ⟨b, 6, none⟩ = some (.slice ao l.length cap0) := by have := HA.out.box; rw [cell_of_row _ _ 6 _ _ _ this]; rfl
          have fb := froz_agg HA.out.box 6
          go_simp
          have HF1 := Lib.hid (HA.out.put (.slice (some ⟨g, 0, none⟩) (l.length + 1) cap))
          refine hK.out _ _ (by exact by have := HF1.out.rbx; rw [cell_of_row _ _ 0 _ _ _ this]; rfl) (fun hHy => ?_)
          clear hK K cb fb
          try simp only [Act.put, List.setIfInBounds_toArray, List.set_cons_zero, List.set_cons_succ, List.getElem_toArray, List.getElem_cons_succ, List.getElem_cons_zero]
          generalize X11.setCell ⟨b, 6, none⟩ (.slice (some ⟨g, 0, none⟩) (l.length + 1) cap) = XF at *
          refine wpAnyH_ready (rs := [8]) (by kernel_rfl) (by simp) ?_
          refine AllReadyH.cons rfl (fun K hK => ?_) AllReadyH.nil
          have hrow := HF1.out.row
          obtain ⟨r0, r1, r2, r3, r4, r5, r6⟩ := row_cells7 hrow hx7
          have rf := hrow.frozenAt
          go_simp
          have HF2 := HF1.out.fill7 hx7 (.int .u8 vk) (.bool vb) (.int .i64 vn) (.int .u64 vu) (.string vt) (.slice va vks.length vc) (.slice va' vvs.length vc')
          unfold fill7w at HF2
          replace HF2 := Lib.hid HF2
          refine hK.out _ _ (by exact by have := HF2.out.rbx; rw [cell_of_row _ _ 0 _ _ _ this]; rfl) (fun hHx => ?_)
          clear hK K hrow r0 r1 r2 r3 r4 r5 r6 rf
          try simp only [Act.put, List.setIfInBounds_toArray, List.set_cons_zero, List.set_cons_succ, List.getElem_toArray, List.getElem_cons_succ, List.getElem_cons_zero]
          refine wpAnyH_done (by kernel_rfl) ?_ _
          go_end0
          exact ⟨rfl, _, _, list_fin HF2.out⟩
        exact AllReadyH.nil
      refine AllReadyH.cons rfl (fun K hK => ?_) ?_
      · go_simp
        have HL12 := Lib.hid (HL8.out.below ((Below.refl _ _).alloc (Nat.le_refl _) (.cells #[.int .u8 0, .bool false, .int .i64 0, .int .u64 0, .string ⟨#[]⟩, .slice none 0 0, .slice none 0 0] 27)))
        have HQ := Lib.hid (heap_alloc_new X8 (.cells #[.int .u8 0, .bool false, .int .i64 0, .int .u64 0, .string ⟨#[]⟩, .slice none 0 0, .slice none 0 0] 27))
        have hql : X8.heap.size < (X8.alloc (.cells #[.int .u8 0, .bool false, .int .i64 0, .int .u64 0, .string ⟨#[]⟩, .slice none 0 0, .slice none 0 0] 27)).heap.size := by simp
        have HQS := Lib.hid HL8.out.kr.size
        refine hK.out _ _ (by exact by have := HL12.out.rbx; rw [cell_of_row _ _ 0 _ _ _ this]; rfl) (fun hH12 => ?_)
        clear hK K
        generalize X8.alloc (.cells #[.int .u8 0, .bool false, .int .i64 0, .int .u64 0, .string ⟨#[]⟩, .slice none 0 0, .slice none 0 0] 27) = X12 at *
        obtain ⟨q, hq⟩ : ∃ q, q = X8.heap.size := ⟨_, rfl⟩
        rw [← hq] at HQ hql HQS ⊢
        clear hq
        try simp only [Act.put, List.setIfInBounds_toArray, List.set_cons_zero, List.set_cons_succ, List.getElem_toArray, List.getElem_cons_succ, List.getElem_cons_zero]
        refine wpAnyH_ready (rs := [1]) (by kernel_rfl) (by simp) ?_
        refine AllReadyH.cons rfl (fun K hK => ?_) ?_
        · have cb : X12.cell? ⟨b, 6, none⟩ = some (.slice ao l.length cap0) := by have := HL12.out.box; rw [cell_of_row _ _ 6 _ _ _ this]; rfl
          go_simp
          refine hK.out _ _ hH12 (fun hH13 => ?_)
          clear hK K cb
          try simp only [Act.put, List.setIfInBounds_toArray, List.set_cons_zero, List.set_cons_succ, List.getElem_toArray, List.getElem_cons_succ, List.getElem_cons_zero]
          refine wpAnyH_take (i := 4) (v := .int .i64 l.length) rfl (by kernel_rfl) (by kernel_rfl) (by kernel_rfl) (fun _ _ _ h => h) (Or.inl ⟨by rfl, ?_⟩) hH13 ?_
          · (intro w hSw; (try dsimp only at hSw); go_simp; try rfl)
          try simp only [Act.put, List.setIfInBounds_toArray, List.set_cons_zero, List.set_cons_succ, List.getElem_toArray, List.getElem_cons_succ, List.getElem_cons_zero]
          refine wpAnyH_ready (rs := [6]) (by kernel_rfl) (by simp) ?_
          refine AllReadyH.cons rfl (fun K hK => ?_) AllReadyH.nil
          refine step_append_lies _ rfl _ _ 25 rfl w0.heap.size 27 i0 _ 7 88 ht hi hz0 hz1 hz2 rfl (by decide) (.slice ao l.length cap0) l.length (Vs.flatMap c7) rfl HL12.out.row ⟨q, 0, none⟩ 1 1 z7 rfl rfl (World.news_of_block HQ.out) (by simp [z7, Value.oneCell']) (by decide) (by unfold maxLen; omega) (by omega) HL12.out.kr.size _ rfl ?_
          intro g cap X14 hrow hgr hat hgl
          have HA := Lib.hid (HL12.out.app hrow hgr (app_at hat))
          clear hrow hgr hat
          go_simp
          refine hK.out _ _ (by exact by have := HA.out.rbx; rw [cell_of_row _ _ 0 _ _ _ this]; rfl) (fun hH14 => ?_)
          clear hK K
          refine wpAnyH_take (i := 7) (v := .pointer (some ⟨g, l.length * 7, none⟩)) rfl (by kernel_rfl) (by kernel_rfl) (by kernel_rfl) (fun _ _ _ h => h) (Or.inl ⟨by rfl, ?_⟩) hH14 ?_
          · (intro w hSw; (try dsimp only at hSw); go_simp; first | rfl | (intro hx; exfalso; omega))
          try simp only [Act.put, List.setIfInBounds_toArray, List.set_cons_zero, List.set_cons_succ, List.getElem_toArray, List.getElem_cons_succ, List.getElem_cons_zero]
          refine wpAnyH_take (i := 9) (v := .pointer (some ⟨b, 6, none⟩)) rfl (by kernel_rfl) (by kernel_rfl) (by kernel_rfl) (fun _ _ _ h => h) (Or.inl ⟨by rfl, ?_⟩) hH14 ?_
          · (intro w hSw; (try dsimp only at hSw); go_simp; try rfl)
          try simp only [Act.put, List.setIfInBounds_toArray, List.set_cons_zero, List.set_cons_succ, List.getElem_toArray, List.getElem_cons_succ, List.getElem_cons_zero]
          have hx7 := HL12.out.its.c7len_take
          refine wpAnyH_ready (rs := [8, 10]) (by kernel_rfl) (by simp) ?_
          refine AllReadyH.cons rfl (fun K hK => ?_) ?_
          · skip
            have hrow := HA.out.row
            obtain ⟨r0, r1, r2, r3, r4, r5, r6⟩ := row_cells7 hrow hx7
            have rf := hrow.frozenAt
            go_simp
            have HF1 := HA.out.fill7 hx7 (.int .u8 vk) (.bool vb) (.int .i64 vn) (.int .u64 vu) (.string vt) (.slice va vks.length vc) (.slice va' vvs.length vc')
            unfold fill7w at HF1
            replace HF1 := Lib.hid HF1
            refine hK.out _ _ (by exact by have := HF1.out.rbx; rw [cell_of_row _ _ 0 _ _ _ this]; rfl) (fun hHx => ?_)
            clear hK K hrow r0 r1 r2 r3 r4 r5 r6 rf
            try simp only [Act.put, List.setIfInBounds_toArray, List.set_cons_zero, List.set_cons_succ, List.getElem_toArray, List.getElem_cons_succ, List.getElem_cons_zero]
            generalize ((((((X14.setCell ⟨g, l.length * 7, none⟩ (.int .u8 vk)).setCell ⟨g, l.length * 7 + 1, none⟩ (.bool vb)).setCell ⟨g, l.length * 7 + 2, none⟩ (.int .i64 vn)).setCell ⟨g, l.length * 7 + 3, none⟩ (.int .u64 vu)).setCell ⟨g, l.length * 7 + 4, none⟩ (.string vt)).setCell ⟨g, l.length * 7 + 5, none⟩ (.slice va vks.length vc)).setCell ⟨g, l.length * 7 + 6, none⟩ (.slice va' vvs.length vc') = XF at *
            refine wpAnyH_ready (rs := [10]) (by kernel_rfl) (by simp) ?_
            refine AllReadyH.cons rfl (fun K hK => ?_) AllReadyH.nil
            have cb : XF.cell? ⟨b, 6, none⟩ = some (.slice ao l.length cap0) := by have := HF1.out.box; rw [cell_of_row _ _ 6 _ _ _ this]; rfl
            have fb := froz_agg HF1.out.box 6
            go_simp
            have HF2 := Lib.hid (HF1.out.put (.slice (some ⟨g, 0, none⟩) (l.length + 1) cap))
            refine hK.out _ _ (by exact by have := HF2.out.rbx; rw [cell_of_row _ _ 0 _ _ _ this]; rfl) (fun hHy => ?_)
            clear hK K cb fb
            try simp only [Act.put, List.setIfInBounds_toArray, List.set_cons_zero, List.set_cons_succ, List.getElem_toArray, List.getElem_cons_succ, List.getElem_cons_zero]
            refine wpAnyH_done (by kernel_rfl) ?_ _
            go_end0
            exact ⟨rfl, _, _, list_fin HF2.out⟩
          refine AllReadyH.cons rfl (fun K hK => ?_) AllReadyH.nil
          have cb : X14.cell? ⟨b, 6, none⟩ = some (.slice ao l.length cap0) := by have := HA.out.box; rw [cell_of_row _ _ 6 _ _ _ this]; rfl
          have fb := froz_agg HA.out.box 6
          go_simp
          have HF1 := Lib.hid (HA.out.put (.slice (some ⟨g, 0, none⟩) (l.length + 1) cap))
          refine hK.out _ _ (by exact by have := HF1.out.rbx; rw [cell_of_row _ _ 0 _ _ _ this]; rfl) (fun hHy => ?_)
          clear hK K cb fb
          try simp only [Act.put, List.setIfInBounds_toArray, List.set_cons_zero, List.set_cons_succ, List.getElem_toArray, List.getElem_cons_succ, List.getElem_cons_zero]
          generalize X14.setCell ⟨b, 6, none⟩ (.slice (some ⟨g, 0, none⟩) (l.length + 1) cap) = XF at *
          refine wpAnyH_ready (rs := [8]) (by kernel_rfl) (by simp) ?_
          refine AllReadyH.cons rfl (fun K hK => ?_) AllReadyH.nil
          have hrow := HF1.out.row
          obtain ⟨r0, r1, r2, r3, r4, r5, r6⟩ := row_cells7 hrow hx7
          have rf := hrow.frozenAt
          go_simp
          have HF2 := HF1.out.fill7 hx7 (.int .u8 vk) (.bool vb) (.int .i64 vn) (.int .u64 vu) (.string vt) (.slice va vks.length vc) (.slice va' vvs.length vc')
          unfold fill7w at HF2
          replace HF2 := Lib.hid HF2
          refine hK.out _ _ (by exact by have := HF2.out.rbx; rw [cell_of_row _ _ 0 _ _ _ this]; rfl) (fun hHx => ?_)
          clear hK K hrow r0 r1 r2 r3 r4 r5 r6 rf
          try simp only [Act.put, List.setIfInBounds_toArray, List.set_cons_zero, List.set_cons_succ, List.getElem_toArray, List.getElem_cons_succ, List.getElem_cons_zero]
          refine wpAnyH_done (by kernel_rfl) ?_ _
          go_end0
          exact ⟨rfl, _, _, list_fin HF2.out⟩
        exact AllReadyH.nil
      exact AllReadyH.nil
  refine AllReadyH.cons rfl (fun K hK => ?_) ?_
  · go_simp
    have HL15 := Lib.hid (HL0.out.below ((Below.refl _ _).alloc (Nat.le_refl _) (.cells #[.int .u8 0, .bool false, .int .i64 0, .int .u64 0, .string ⟨#[]⟩, .slice none 0 0, .slice none 0 0] 27)))
    have HQ := Lib.hid (heap_alloc_new wd (.cells #[.int .u8 0, .bool false, .int .i64 0, .int .u64 0, .string ⟨#[]⟩, .slice none 0 0, .slice none 0 0] 27))
    have hql : wd.heap.size < (wd.alloc (.cells #[.int .u8 0, .bool false, .int .i64 0, .int .u64 0, .string ⟨#[]⟩, .slice none 0 0, .slice none 0 0] 27)).heap.size := by simp
    have HQS := Lib.hid HL0.out.kr.size
    refine hK.out _ _ (by exact by have := HL15.out.rbx; rw [cell_of_row _ _ 0 _ _ _ this]; rfl) (fun hH15 => ?_)
    clear hK K
    generalize wd.alloc (.cells #[.int .u8 0, .bool false, .int .i64 0, .int .u64 0, .string ⟨#[]⟩, .slice none 0 0, .slice none 0 0] 27) = X15 at *
    obtain ⟨q, hq⟩ : ∃ q, q = wd.heap.size := ⟨_, rfl⟩
    rw [← hq] at HQ hql HQS ⊢
    clear hq
    try simp only [Act.put, List.setIfInBounds_toArray, List.set_cons_zero, List.set_cons_succ, List.getElem_toArray, List.getElem_cons_succ, List.getElem_cons_zero]
    refine wpAnyH_ready (rs := [1, 3]) (by kernel_rfl) (by simp) ?_
    refine AllReadyH.cons rfl (fun K hK => ?_) ?_
    · have cb : X15.cell? ⟨b, 6, none⟩ = some (.slice ao l.length cap0) := by have := HL15.out.box; rw [cell_of_row _ _ 6 _ _ _ this]; rfl
      go_simp
      refine hK.out _ _ hH15 (fun hH16 => ?_)
      clear hK K cb
      try simp only [Act.put, List.setIfInBounds_toArray, List.set_cons_zero, List.set_cons_succ, List.getElem_toArray, List.getElem_cons_succ, List.getElem_cons_zero]
      refine wpAnyH_take (i := 4) (v := .int .i64 l.length) rfl (by kernel_rfl) (by kernel_rfl) (by kernel_rfl) (fun _ _ _ h => h) (Or.inl ⟨by rfl, ?_⟩) hH16 ?_
      · (intro w hSw; (try dsimp only at hSw); go_simp; try rfl)
      try simp only [Act.put, List.setIfInBounds_toArray, List.set_cons_zero, List.set_cons_succ, List.getElem_toArray, List.getElem_cons_succ, List.getElem_cons_zero]
      refine wpAnyH_ready (rs := [3]) (by kernel_rfl) (by simp) ?_
      refine AllReadyH.cons rfl (fun K hK => ?_) ?_
      · go_simp
        refine (HC.out _ HL15.out.kr HL15.out.rd).mono ?_
        intro e X17 hp
        cases o with
        | err x tt =>
          obtain ⟨hg, hk1⟩ : ValBad r s X15 x tt e X17 := hp
          unfold Gives at hg
          subst hg
          exact ⟨rfl, rfl, HL15.out.kr.trans hk1⟩
        | ok v t' =>
          obtain ⟨V, rfl, hJ, hr1, hk1⟩ : ValOk r s d X15 v t' e X17 := hp
          obtain ⟨vk, vb, vn, vu, vt, vks, vvs⟩ := v
          have hJ2 := hJ
          rw [JAt] at hJ2
          obtain ⟨va, vc, va', vc', rfl, -⟩ := hJ2
          have HL17 := Lib.hid (HL15.out.read hk1 hr1 hJ)
          have HQ := Lib.hid ((hk1.block q hql (by have := HL0.out.r0; have := HQS.out; omega)).trans HQ.out)
          clear hJ hr1 hk1
          dsimp only
          refine hK.out _ _ (by exact by have := HL17.out.rbx; rw [cell_of_row _ _ 0 _ _ _ this]; rfl) (fun hH17 => ?_)
          clear hK K
          try simp only [Act.put, List.setIfInBounds_toArray, List.set_cons_zero, List.set_cons_succ, List.getElem_toArray, List.getElem_cons_succ, List.getElem_cons_zero]
          refine wpAnyH_ready (rs := [6]) (by kernel_rfl) (by simp) ?_
          refine AllReadyH.cons rfl (fun K hK => ?_) AllReadyH.nil
          refine step_append_lies _ rfl _ _ 25 rfl w0.heap.size 27 i0 _ 7 88 ht hi hz0 hz1 hz2 rfl (by decide) (.slice ao l.length cap0) l.length (Vs.flatMap c7) rfl HL17.out.row ⟨q, 0, none⟩ 1 1 z7 rfl rfl (World.news_of_block HQ.out) (by simp [z7, Value.oneCell']) (by decide) (by unfold maxLen; omega) (by omega) HL17.out.kr.size _ rfl ?_
          intro g cap X18 hrow hgr hat hgl
          have HA := Lib.hid (HL17.out.app hrow hgr (app_at hat))
          clear hrow hgr hat
          go_simp
          refine hK.out _ _ (by exact by have := HA.out.rbx; rw [cell_of_row _ _ 0 _ _ _ this]; rfl) (fun hH18 => ?_)
          clear hK K
          refine wpAnyH_take (i := 7) (v := .pointer (some ⟨g, l.length * 7, none⟩)) rfl (by kernel_rfl) (by kernel_rfl) (by kernel_rfl) (fun _ _ _ h => h) (Or.inl ⟨by rfl, ?_⟩) hH18 ?_
          · (intro w hSw; (try dsimp only at hSw); go_simp; first | rfl | (intro hx; exfalso; omega))
          try simp only [Act.put, List.setIfInBounds_toArray, List.set_cons_zero, List.set_cons_succ, List.getElem_toArray, List.getElem_cons_succ, List.getElem_cons_zero]
          refine wpAnyH_take (i := 9) (v := .pointer (some ⟨b, 6, none⟩)) rfl (by kernel_rfl) (by kernel_rfl) (by kernel_rfl) (fun _ _ _ h => h) (Or.inl ⟨by rfl, ?_⟩) hH18 ?_
          · (intro w hSw; (try dsimp only at hSw); go_simp; try rfl)
          try simp only [Act.put, List.setIfInBounds_toArray, List.set_cons_zero, List.set_cons_succ, List.getElem_toArray, List.getElem_cons_succ, List.getElem_cons_zero]
          have hx7 := HL17.out.its.c7len_take
          refine wpAnyH_ready (rs := [8, 10]) (by kernel_rfl) (by simp) ?_
          refine AllReadyH.cons rfl (fun K hK => ?_) ?_
          · skip
            have hrow := HA.out.row
            obtain ⟨r0, r1, r2, r3, r4, r5, r6⟩ := row_cells7 hrow hx7
            have rf := hrow.frozenAt
            go_simp
            have HF1 := HA.out.fill7 hx7 (.int .u8 vk) (.bool vb) (.int .i64 vn) (.int .u64 vu) (.string vt) (.slice va vks.length vc) (.slice va' vvs.length vc')
            unfold fill7w at HF1
            replace HF1 := Lib.hid HF1
            refine hK.out _ _ (by exact by have := HF1.out.rbx; rw [cell_of_row _ _ 0 _ _ _ this]; rfl) (fun hHx => ?_)
            clear hK K hrow r0 r1 r2 r3 r4 r5 r6 rf
            try simp only [Act.put, List.setIfInBounds_toArray, List.set_cons_zero, List.set_cons_succ, List.getElem_toArray, List.getElem_cons_succ, List.getElem_cons_zero]
            generalize ((((((X18.setCell ⟨g, l.length * 7, none⟩ (.int .u8 vk)).setCell ⟨g, l.length * 7 + 1, none⟩ (.bool vb)).setCell ⟨g, l.length * 7 + 2, none⟩ (.int .i64 vn)).setCell ⟨g, l.length * 7 + 3, none⟩ (.int .u64 vu)).setCell ⟨g, l.length * 7 + 4, none⟩ (.string vt)).setCell ⟨g, l.length * 7 + 5, none⟩ (.slice va vks.length vc)).setCell ⟨g, l.length * 7 + 6, none⟩ (.slice va' vvs.length vc') = XF at *
            refine wpAnyH_ready (rs := [10]) (by kernel_rfl) (by simp) ?_
            refine AllReadyH.cons rfl (fun K hK => ?_) AllReadyH.nil
            have cb : XF.cell? ⟨b, 6, none⟩ = some (.slice ao l.length cap0) := by have := HF1.out.box; rw [cell_of_row _ _ 6 _ _ _ this]; rfl
            have fb := froz_agg HF1.out.box 6
            go_simp
            have HF2 := Lib.hid (HF1.out.put (.slice (some ⟨g, 0, none⟩) (l.length + 1) cap))
            refine hK.out _ _ (by exact by have := HF2.out.rbx; rw [cell_of_row _ _ 0 _ _ _ this]; rfl) (fun hHy => ?_)
            clear hK K cb fb
            try simp only [Act.put, List.setIfInBounds_toArray, List.set_cons_zero, List.set_cons_succ, List.getElem_toArray, List.getElem_cons_succ, List.getElem_cons_zero]
            refine wpAnyH_done (by kernel_rfl) ?_ _
            go_end0
            exact ⟨rfl, _, _, list_fin HF2.out⟩
          refine AllReadyH.cons rfl (fun K hK => ?_) AllReadyH.nil
          have cb : X18.cell? ⟨b, 6, none⟩ = some (.slice ao l.length cap0) := by have := HA.out.box; rw [cell_of_row _ _ 6 _ _ _ this]; rfl
          have fb := froz_agg HA.out.box 6
          go_simp
          have HF1 := Lib.hid (HA.out.put (.slice (some ⟨g, 0, none⟩) (l.length + 1) cap))
          refine hK.out _ _ (by exact by have := HF1.out.rbx; rw [cell_of_row _ _ 0 _ _ _ this]; rfl) (fun hHy => ?_)
          clear hK K cb fb
          try simp only [Act.put, List.setIfInBounds_toArray, List.set_cons_zero, List.set_cons_succ, List.getElem_toArray, List.getElem_cons_succ, List.getElem_cons_zero]
          generalize X18.setCell ⟨b, 6, none⟩ (.slice (some ⟨g, 0, none⟩) (l.length + 1) cap) = XF at *
          refine wpAnyH_ready (rs := [8]) (by kernel_rfl) (by simp) ?_
          refine AllReadyH.cons rfl (fun K hK => ?_) AllReadyH.nil
          have hrow := HF1.out.row
          obtain ⟨r0, r1, r2, r3, r4, r5, r6⟩ := row_cells7 hrow hx7
          have rf := hrow.frozenAt
          go_simp
          have HF2 := HF1.out.fill7 hx7 (.int .u8 vk) (.bool vb) (.int .i64 vn) (.int .u64 vu) (.string vt) (.slice va vks.length vc) (.slice va' vvs.length vc')
          unfold fill7w at HF2
          replace HF2 := Lib.hid HF2
          refine hK.out _ _ (by exact by have := HF2.out.rbx; rw [cell_of_row _ _ 0 _ _ _ this]; rfl) (fun hHx => ?_)
          clear hK K hrow r0 r1 r2 r3 r4 r5 r6 rf
          try simp only [Act.put, List.setIfInBounds_toArray, List.set_cons_zero, List.set_cons_succ, List.getElem_toArray, List.getElem_cons_succ, List.getElem_cons_zero]
          refine wpAnyH_done (by kernel_rfl) ?_ _
          go_end0
          exact ⟨rfl, _, _, list_fin HF2.out⟩
      exact AllReadyH.nil
    refine AllReadyH.cons rfl (fun K hK => ?_) ?_
    · go_simp
      refine (HC.out _ HL15.out.kr HL15.out.rd).mono ?_
      intro e X19 hp
      cases o with
      | err x tt =>
        obtain ⟨hg, hk1⟩ : ValBad r s X15 x tt e X19 := hp
        unfold Gives at hg
        subst hg
        exact ⟨rfl, rfl, HL15.out.kr.trans hk1⟩
      | ok v t' =>
        obtain ⟨V, rfl, hJ, hr1, hk1⟩ : ValOk r s d X15 v t' e X19 := hp
        obtain ⟨vk, vb, vn, vu, vt, vks, vvs⟩ := v
        have hJ2 := hJ
        rw [JAt] at hJ2
        obtain ⟨va, vc, va', vc', rfl, -⟩ := hJ2
        have HL19 := Lib.hid (HL15.out.read hk1 hr1 hJ)
        have HQ := Lib.hid ((hk1.block q hql (by have := HL0.out.r0; have := HQS.out; omega)).trans HQ.out)
        clear hJ hr1 hk1
        dsimp only
        refine hK.out _ _ (by exact by have := HL19.out.rbx; rw [cell_of_row _ _ 0 _ _ _ this]; rfl) (fun hH19 => ?_)
        clear hK K
        try simp only [Act.put, List.setIfInBounds_toArray, List.set_cons_zero, List.set_cons_succ, List.getElem_toArray, List.getElem_cons_succ, List.getElem_cons_zero]
        refine wpAnyH_ready (rs := [1]) (by kernel_rfl) (by simp) ?_
        refine AllReadyH.cons rfl (fun K hK => ?_) ?_
        · have cb : X19.cell? ⟨b, 6, none⟩ = some (.slice ao l.length cap0) := by have := HL19.out.box; rw [cell_of_row _ _ 6 _ _ _ this]; rfl
          go_simp
          refine hK.out _ _ hH19 (fun hH20 => ?_)
          clear hK K cb
          try simp only [Act.put, List.setIfInBounds_toArray, List.set_cons_zero, List.set_cons_succ, List.getElem_toArray, List.getElem_cons_succ, List.getElem_cons_zero]
          refine wpAnyH_take (i := 4) (v := .int .i64 l.length) rfl (by kernel_rfl) (by kernel_rfl) (by kernel_rfl) (fun _ _ _ h => h) (Or.inl ⟨by rfl, ?_⟩) hH20 ?_
          · (intro w hSw; (try dsimp only at hSw); go_simp; try rfl)
          try simp only [Act.put, List.setIfInBounds_toArray, List.set_cons_zero, List.set_cons_succ, List.getElem_toArray, List.getElem_cons_succ, List.getElem_cons_zero]
          refine wpAnyH_ready (rs := [6]) (by kernel_rfl) (by simp) ?_
          refine AllReadyH.cons rfl (fun K hK => ?_) AllReadyH.nil
          refine step_append_lies _ rfl _ _ 25 rfl w0.heap.size 27 i0 _ 7 88 ht hi hz0 hz1 hz2 rfl (by decide) (.slice ao l.length cap0) l.length (Vs.flatMap c7) rfl HL19.out.row ⟨q, 0, none⟩ 1 1 z7 rfl rfl (World.news_of_block HQ.out) (by simp [z7, Value.oneCell']) (by decide) (by unfold maxLen; omega) (by omega) HL19.out.kr.size _ rfl ?_
          intro g cap X21 hrow hgr hat hgl
          have HA := Lib.hid (HL19.out.app hrow hgr (app_at hat))
          clear hrow hgr hat
          go_simp
          refine hK.out _ _ (by exact by have := HA.out.rbx; rw [cell_of_row _ _ 0 _ _ _ this]; rfl) (fun hH21 => ?_)
          clear hK K
          refine wpAnyH_take (i := 7) (v := .pointer (some ⟨g, l.length * 7, none⟩)) rfl (by kernel_rfl) (by kernel_rfl) (by kernel_rfl) (fun _ _ _ h => h) (Or.inl ⟨by rfl, ?_⟩) hH21 ?_
          · (intro w hSw; (try dsimp only at hSw); go_simp; first | rfl | (intro hx; exfalso; omega))
          try simp only [Act.put, List.setIfInBounds_toArray, List.set_cons_zero, List.set_cons_succ, List.getElem_toArray, List.getElem_cons_succ, List.getElem_cons_zero]
          refine wpAnyH_take (i := 9) (v := .pointer (some ⟨b, 6, none⟩)) rfl (by kernel_rfl) (by kernel_rfl) (by kernel_rfl) (fun _ _ _ h => h) (Or.inl ⟨by rfl, ?_⟩) hH21 ?_
          · (intro w hSw; (try dsimp only at hSw); go_simp; try rfl)
          try simp only [Act.put, List.setIfInBounds_toArray, List.set_cons_zero, List.set_cons_succ, List.getElem_toArray, List.getElem_cons_succ, List.getElem_cons_zero]
          have hx7 := HL19.out.its.c7len_take
          refine wpAnyH_ready (rs := [8, 10]) (by kernel_rfl) (by simp) ?_
          refine AllReadyH.cons rfl (fun K hK => ?_) ?_
          · skip
            have hrow := HA.out.row
            obtain ⟨r0, r1, r2, r3, r4, r5, r6⟩ := row_cells7 hrow hx7
            have rf := hrow.frozenAt
            go_simp
            have HF1 := HA.out.fill7 hx7 (.int .u8 vk) (.bool vb) (.int .i64 vn) (.int .u64 vu) (.string vt) (.slice va vks.length vc) (.slice va' vvs.length vc')
            unfold fill7w at HF1
            replace HF1 := Lib.hid HF1
            refine hK.out _ _ (by exact by have := HF1.out.rbx; rw [cell_of_row _ _ 0 _ _ _ this]; rfl) (fun hHx => ?_)
            clear hK K hrow r0 r1 r2 r3 r4 r5 r6 rf
            try simp only [Act.put, List.setIfInBounds_toArray, List.set_cons_zero, List.set_cons_succ, List.getElem_toArray, List.getElem_cons_succ, List.getElem_cons_zero]
            generalize ((((((X21.setCell ⟨g, l.length * 7, none⟩ (.int .u8 vk)).setCell ⟨g, l.length * 7 + 1, none⟩ (.bool vb)).setCell ⟨g, l.length * 7 + 2, none⟩ (.int .i64 vn)).setCell ⟨g, l.length * 7 + 3, none⟩ (.int .u64 vu)).setCell ⟨g, l.length * 7 + 4, none⟩ (.string vt)).setCell ⟨g, l.length * 7 + 5, none⟩ (.slice va vks.length vc)).setCell ⟨g, l.length * 7 + 6, none⟩ (.slice va' vvs.length vc') = XF at *
            refine wpAnyH_ready (rs := [10]) (by kernel_rfl) (by simp) ?_
            refine AllReadyH.cons rfl (fun K hK => ?_) AllReadyH.nil
            have cb : XF.cell? ⟨b, 6, none⟩ = some (.slice ao l.length cap0) := by have := HF1.out.box; rw [cell_of_row _ _ 6 _ _ _ this]; rfl
            have fb := froz_agg HF1.out.box 6
            go_simp
            have HF2 := Lib.hid (HF1.out.put (.slice (some ⟨g, 0, none⟩) (l.length + 1) cap))
            refine hK.out _ _ (by exact by have := HF2.out.rbx; rw [cell_of_row _ _ 0 _ _ _ this]; rfl) (fun hHy => ?_)
            clear hK K cb fb
            try simp only [Act.put, List.setIfInBounds_toArray, List.set_cons_zero, List.set_cons_succ, List.getElem_toArray, List.getElem_cons_succ, List.getElem_cons_zero]
            refine wpAnyH_done (by kernel_rfl) ?_ _
            go_end0
            exact ⟨rfl, _, _, list_fin HF2.out⟩
          refine AllReadyH.cons rfl (fun K hK => ?_) AllReadyH.nil
          have cb : X21.cell? ⟨b, 6, none⟩ = some (.slice ao l.length cap0) := by have := HA.out.box; rw [cell_of_row _ _ 6 _ _ _ this]; rfl
          have fb := froz_agg HA.out.box 6
          go_simp
          have HF1 := Lib.hid (HA.out.put (.slice (some ⟨g, 0, none⟩) (l.length + 1) cap))
          refine hK.out _ _ (by exact by have := HF1.out.rbx; rw [cell_of_row _ _ 0 _ _ _ this]; rfl) (fun hHy => ?_)
          clear hK K cb fb
          try simp only [Act.put, List.setIfInBounds_toArray, List.set_cons_zero, List.set_cons_succ, List.getElem_toArray, List.getElem_cons_succ, List.getElem_cons_zero]
          generalize X21.setCell ⟨b, 6, none⟩ (.slice (some ⟨g, 0, none⟩) (l.length + 1) cap) = XF at *
          refine wpAnyH_ready (rs := [8]) (by kernel_rfl) (by simp) ?_
          refine AllReadyH.cons rfl (fun K hK => ?_) AllReadyH.nil
          have hrow := HF1.out.row
          obtain ⟨r0, r1, r2, r3, r4, r5, r6⟩ := row_cells7 hrow hx7
          have rf := hrow.frozenAt
          go_simp
          have HF2 := HF1.out.fill7 hx7 (.int .u8 vk) (.bool vb) (.int .i64 vn) (.int .u64 vu) (.string vt) (.slice va vks.length vc) (.slice va' vvs.length vc')
          unfold fill7w at HF2
          replace HF2 := Lib.hid HF2
          refine hK.out _ _ (by exact by have := HF2.out.rbx; rw [cell_of_row _ _ 0 _ _ _ this]; rfl) (fun hHx => ?_)
          clear hK K hrow r0 r1 r2 r3 r4 r5 r6 rf
          try simp only [Act.put, List.setIfInBounds_toArray, List.set_cons_zero, List.set_cons_succ, List.getElem_toArray, List.getElem_cons_succ, List.getElem_cons_zero]
          refine wpAnyH_done (by kernel_rfl) ?_ _
          go_end0
          exact ⟨rfl, _, _, list_fin HF2.out⟩
        exact AllReadyH.nil
    exact AllReadyH.nil
  exact AllReadyH.nil
end Go.Proofs.YtckaoeloofbklaaGreatDoor
