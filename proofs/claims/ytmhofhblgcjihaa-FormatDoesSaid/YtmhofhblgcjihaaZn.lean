/- What Push does to a list. -/
import Derived.Test.YtmhofhblgcjihaaZl
namespace Go.Proofs.Ytmhofhblgcjihaa
open Go Go.RowKit Go.Shelf

/-- is an entry like one of an element with these attributes, in one order? -/
def alikeB (e : El) (want : List At) (x : Ab) : Bool := (x.el.sp.toList == e.sp.toList) && ((x.el.nm.toList == e.nm.toList) && sameL (sortA x.ats) want)

/-- the places from lo on, ahead of hi, of entries that are so -/
def idxs (P : Ab → Bool) (l : List Ab) (lo hi : Nat) : List Nat := (List.range hi).filter fun j => decide (lo ≤ j) && (match l[j]? with | some x => P x | Option.none => false)

theorem idxs_lo (P : Ab → Bool) (l : List Ab) (lo : Nat) : idxs P l lo lo = [] := by
  unfold idxs
  rw [List.filter_eq_nil_iff]
  intro a ha
  have := List.mem_range.1 ha
  simp
  intro h
  omega

theorem idxs_succ (P : Ab → Bool) (l : List Ab) (lo k : Nat) (h : lo ≤ k) (hk : k < l.length) : idxs P l lo (k + 1) = idxs P l lo k ++ (if P l[k] = true then [k] else []) := by
  unfold idxs
  rw [List.range_succ, List.filter_append]
  congr 1
  simp only [List.filter_cons, List.filter_nil, List.getElem?_eq_getElem hk]
  simp [h]

theorem idxs_len (P : Ab → Bool) (l : List Ab) (lo hi : Nat) : (idxs P l lo hi).length ≤ hi := by
  have := List.length_filter_le (fun j => decide (lo ≤ j) && (match l[j]? with | some x => P x | Option.none => false)) (List.range hi)
  rwa [List.length_range] at this

theorem idxs_lt (P : Ab → Bool) (l : List Ab) (lo hi : Nat) : ∀ j ∈ idxs P l lo hi, lo ≤ j ∧ j < hi ∧ ∃ x, l[j]? = some x ∧ P x = true := by
  intro j hj
  obtain ⟨h1, h2⟩ := List.mem_filter.1 hj
  rw [Bool.and_eq_true, decide_eq_true_eq] at h2
  refine ⟨h2.1, List.mem_range.1 h1, ?_⟩
  cases hx : l[j]? with
  | none => rw [hx] at h2; simp at h2
  | some x => rw [hx] at h2; exact ⟨x, rfl, h2.2⟩

/-- what Push leaves -/
def pushB (l : List Ab) (e : El) (ats : List At) : List Ab :=
  (if 3 ≤ (idxs (alikeB e (sortA ats)) l (baseN l) l.length).length then l.eraseIdx ((idxs (alikeB e (sortA ats)) l (baseN l) l.length).headD 0) else l) ++ [⟨e, ats⟩]

theorem infoInt : (Try.prog.info? 3).map (fun i => (i.zero, i.size, i.bytes)) = some (some (.int .i64 0), 1, 8) := by kernel_rfl

/-- a row of the call's own that holds these numbers -/
def encNs (l : List Nat) : List Value := l.map fun (j : Nat) => .int .i64 (j : Int)

theorem Raw.atsAt {w W : World} {b : Nat} {v : Value} {es : List En} (h : Raw w b v es) (hb : Below w.heap.size w W) (k : Nat) (hk : k < es.length) : AtsAt W (.slice es[k].a es[k].ats.length es[k].c) es[k].ats :=
  (h.ats es[k] (List.getElem_mem hk)).below (Nat.le_refl _) hb

/-- all orders of a region meet again -/
def Meet (S : Nat → Nat → World → Prop) (F : Nat → Nat → Act) : Exit → Act → World → Prop
  | .normal, a', w' => ∃ g cap, a' = F g cap ∧ S g cap w'
  | _, _, _ => False
theorem wp_meet {P : Program} {c : Code} {Q : Exit → Act → World → Prop} {a : Act} {w : World} (S : Nat → Nat → World → Prop) {F : Nat → Nat → Act}
    (h : c.wp P (Meet S F) a w) (h2 : ∀ g cap w', S g cap w' → Q .normal (F g cap) w') : c.wp P Q a w := by
  refine Code.wp_mono ?_ h
  rintro ex a' w' hm
  cases ex with
  | normal =>
    obtain ⟨g, cap, ha, hs⟩ := hm
    rw [ha]
    exact h2 g cap w' hs
  | _ => exact hm.elim

theorem one_news (w : World) (u : Value) (t : TypeId) : ∀ j v, [u][j]? = some v → (w.alloc (.cells #[u] t)).cell? ((⟨w.heap.size, 0, Option.none⟩ : Addr).add j) = some v := by
  intro j v hv
  have hadd : (⟨w.heap.size, 0, Option.none⟩ : Addr).add j = ⟨w.heap.size, 0 + j, Option.none⟩ := by unfold Addr.add; split <;> simp_all
  rw [hadd, cell_of_row _ _ _ _ _ _ (heap_alloc_new w _), Nat.zero_add]
  simpa using hv

set_option maxRecDepth 100000 in
set_option maxHeartbeats 4000000 in
theorem push_any (b : Nat) (v : Value) (es : List En) (e : El) (va : Value) (attrs : List At) (w : World) (hs : Raw w b v es) (ha : AtsAt w va attrs) (hoff : 0 < attrs.length → ∀ q o n c, va = .slice (some ⟨q, o, Option.none⟩) n c → ¬ fp b v q) (hsm : attrs.length * 48 ≤ 140737488355328) (hlen : es.length < 900000) :
    Calls Try.prog 10 #[.pointer (some ⟨b, 0, Option.none⟩), .agg #[.int .i64 e.id, .string e.sp, .string e.nm], va] w (MPost b v es w (.returned (.tuple #[])) (pushB (es.map En.ab) e attrs)) := by
  obtain ⟨n0, ni, nz0, nz1, nz2⟩ := info_parts infoInt
  have nt : Try.prog.underlying 22 = some (.slice 3) := Try.underlying22
  have HOF := Lib.hid hoff
  clear hoff
  have hw0 : Below w.heap.size w (w.alloc (.cells #[.int .i64 e.id, .string e.sp, .string e.nm] 29)) := (Below.refl _ _).alloc (Nat.le_refl _) _
  have hso := sorted_any va attrs (w.alloc (.cells #[.int .i64 e.id, .string e.sp, .string e.nm] 29)) hsm (ha.below (Nat.le_refl _) hw0)
  have e00 : (w.alloc (.cells #[.int .i64 e.id, .string e.sp, .string e.nm] 29)).cell? ⟨w.heap.size, 0, Option.none⟩ = some (.int .i64 e.id) := by simp [go_sem]
  have e01 : (w.alloc (.cells #[.int .i64 e.id, .string e.sp, .string e.nm] 29)).cell? ⟨w.heap.size, 1, Option.none⟩ = some (.string e.sp) := by simp [go_sem]
  have e02 : (w.alloc (.cells #[.int .i64 e.id, .string e.sp, .string e.nm] 29)).cell? ⟨w.heap.size, 2, Option.none⟩ = some (.string e.nm) := by simp [go_sem]
  have hw0s : (w.alloc (.cells #[.int .i64 e.id, .string e.sp, .string e.nm] 29)).heap.size = w.heap.size + 1 := by simp
  have HSO := Lib.hid hso
  clear hso
  go_enter Try.func10, Try.ntmps10
  go_wp2_with fail
  refine HSO.out.mono ?_
  rintro e1 w1 ⟨sa, sc, rfl, h1, h2⟩
  have hw1 : Below w.heap.size w w1 := hw0.trans (h2.mono (by omega))
  have f00 := (h2.cell (p := ⟨w.heap.size, 0, Option.none⟩) (by show w.heap.size < _; omega)).trans e00
  have f01 := (h2.cell (p := ⟨w.heap.size, 1, Option.none⟩) (by show w.heap.size < _; omega)).trans e01
  have f02 := (h2.cell (p := ⟨w.heap.size, 2, Option.none⟩) (by show w.heap.size < _; omega)).trans e02
  have hs1 := h2.size
  clear HSO h2 e00 e01 e02
  generalize w.alloc (.cells #[.int .i64 e.id, .string e.sp, .string e.nm] 29) = w0 at *
  go_wp2_with fail
  refine (base_any b v es _ (hs.below hw1)).mono ?_
  rintro e2 w2 ⟨rfl, h3⟩
  have hw2 : Below w.heap.size w w2 := hw1.trans (h3.mono hw1.size)
  have g00 := (h3.cell (p := ⟨w.heap.size, 0, Option.none⟩) (by show w.heap.size < _; omega)).trans f00
  have g01 := (h3.cell (p := ⟨w.heap.size, 1, Option.none⟩) (by show w.heap.size < _; omega)).trans f01
  have g02 := (h3.cell (p := ⟨w.heap.size, 2, Option.none⟩) (by show w.heap.size < _; omega)).trans f02
  have hA2 := h1.below (Nat.le_refl _) h3
  have hs2 := h3.size
  clear h1 h3 f00 f01 f02 hw1
  have hbl := baseN_le (es.map En.ab)
  have hml : (es.map En.ab).length = es.length := List.length_map _
  have hcb := hs.cell
  have hblt := hs.lt b (.inl rfl)
  obtain ⟨P, hP⟩ : ∃ P, P = alikeB e (sortA attrs) := ⟨_, rfl⟩
  obtain ⟨B, hB⟩ : ∃ B, B = baseN (es.map En.ab) := ⟨_, rfl⟩
  have hpush : pushB (es.map En.ab) e attrs = (if 3 ≤ (idxs P (es.map En.ab) B es.length).length then (es.map En.ab).eraseIdx ((idxs P (es.map En.ab) B es.length).headD 0) else es.map En.ab) ++ [⟨e, attrs⟩] := by
    unfold pushB
    rw [hP, hB, hml]
  rw [← hB] at hbl ⊢
  rw [hml] at hbl
  have HRS := Lib.hid hpush
  have HS := Lib.hid hs
  have HA2 := Lib.hid hA2
  have HP := Lib.hid hP
  have HW2 := Lib.hid hw2
  have HVA := Lib.hid ha
  clear hpush hB hP hA2 hw2 ha
  obtain ⟨a, c, rfl, hif⟩ : ∃ a c, v = .slice a es.length c ∧ (es = [] ∨ ∃ g, a = some ⟨g, 0, Option.none⟩ ∧ g < w.heap.size) := by
    rcases hs.form with ⟨h, h2⟩ | ⟨g, cap, h1, h2, _⟩
    · exact ⟨_, _, by rw [h2]; exact h, .inl h2⟩
    · exact ⟨_, _, h1, .inr ⟨g, rfl, h2⟩⟩
  clear hs
  go_wp2_with fail
  go_loopw [7, 8] (fun al i wr => ∃ k : Nat, B ≤ k ∧ k ≤ es.length ∧ i = .int .i64 k ∧ wr.ownsRow w2.heap.size 3 1 al (idxs P (es.map En.ab) B k).length (encNs (idxs P (es.map En.ab) B k)) ∧ Below w2.heap.size w2 wr) (fun _ i _ => ((es.length : Int) - intOf i).toNat)
  case atStart => exact ⟨B, Nat.le_refl _, hbl, rfl, by rw [idxs_lo]; exact ⟨rfl, .inl ⟨rfl, rfl⟩⟩, Below.refl _ _⟩
  case round =>
    obtain ⟨k, hBk, hk, rfl, hown, hb⟩ := hrel
    have hbw : Below w.heap.size w wr := HW2.out.trans (hb.mono HW2.out.size)
    have cb := (hbw.cell (p := ⟨b, 0, Option.none⟩) hblt).trans hcb
    have r00 := (hb.cell (p := ⟨w.heap.size, 0, Option.none⟩) (by show w.heap.size < _; omega)).trans g00
    have r01 := (hb.cell (p := ⟨w.heap.size, 1, Option.none⟩) (by show w.heap.size < _; omega)).trans g01
    have r02 := (hb.cell (p := ⟨w.heap.size, 2, Option.none⟩) (by show w.heap.size < _; omega)).trans g02
    have hsr := hb.size
    have hlt0 : w.heap.size < wr.heap.size := by omega
    have HB := Lib.hid hb
    have HBW := Lib.hid hbw
    by_cases hkl : k = es.length
    · subst hkl
      obtain ⟨i0, hi, hz0, hz1, hz2⟩ := info_parts infoen
      have ht : Try.prog.underlying 25 = some (.slice 37) := Try.underlying25
      have haX : AtsAt wr va attrs := HVA.out.below (Nat.le_refl _) hbw
      have hRw := HS.out.below hbw
      have hix := idxs_len P (es.map En.ab) B es.length
      have hil := idxs_lt P (es.map En.ab) B es.length
      generalize hIx : idxs P (es.map En.ab) B es.length = Ix at *
      clear hcb g00 g01 g02 hb cb HB HBW
      by_cases h3 : 3 ≤ Ix.length
      · obtain ⟨ga, ca, rfl, hga⟩ : ∃ ga ca, u7 = .slice (some ⟨ga, 0, Option.none⟩) Ix.length ca ∧ ∃ cur, wr.heap[ga]? = some (.cells cur 3 (0, 0)) ∧ cur.toList.take (Ix.length * 1) = encNs Ix := by
          rcases hown.2 with ⟨rfl, hn⟩ | ⟨g, cap, cur, rfl, _, hg, _, _, _, ht⟩
          · omega
          · exact ⟨g, cap, rfl, cur, hg, ht⟩
        obtain ⟨i, rest, rfl⟩ : ∃ i rest, Ix = i :: rest := by
          cases Ix with
          | nil => simp at h3
          | cons i rest => exact ⟨i, rest, rfl⟩
        obtain ⟨_, hie, _⟩ := hil i (by simp)
        have ci : wr.cell? ⟨ga, 0, Option.none⟩ = some (.int .i64 (i : Int)) := by
          obtain ⟨cur, hc1, hc2⟩ := hga
          rw [cell_of_row _ _ _ _ _ _ hc1]
          have h0 : (encNs (i :: rest))[0]? = some (.int .i64 (i : Int)) := rfl
          rw [← hc2, List.getElem?_take] at h0
          split at h0
          · simpa using h0
          · cases h0
        have hres : pushB (es.map En.ab) e attrs = (es.map En.ab).eraseIdx i ++ [⟨e, attrs⟩] := by rw [HRS.out, if_pos h3]; rfl
        have hcX0 := hRw.cell
        have hfX0 := hRw.frozen
        have hbr := hRw.lt b (.inl rfl)
        have hner := hRw.ne
        have hw1 : IntKind.i64.wrap ((i : Int) + 1) = (i : Int) + 1 := by rw [IntKind.wrap_i64]; omega
        have hdr0 : Below wr.heap.size wr wr.drew := (Below.refl _ _).drew
        have hdel := delE_any (.slice a es.length c) es i wr.drew (own_below hRw.own hdr0) hie
        have HDE := Lib.hid hdel
        have HRW := Lib.hid hRw
        have hl3 : ((3 : Nat) : Int) ≤ (((i :: rest).length : Nat) : Int) := by omega
        have hl0 : ((0 : Nat) : Int) < (((i :: rest).length : Nat) : Int) := by omega
        generalize hLN : (i :: rest).length = ln at *
        have HAX := Lib.hid haX
        clear HRS hil hown hRw hdel hga haX
        go_wp2_with fail
        apply wp_meet (fun g9 cap9 w' => ∃ w9, w' = w9.setCell ⟨b, 0, Option.none⟩ (.slice (some ⟨g9, 0, Option.none⟩) (es.length - 1) cap9) ∧ w9.ownsRow 0 37 4 (.slice (some ⟨g9, 0, Option.none⟩) (es.length - 1) cap9) (es.length - 1) (flatE (es.take i ++ es.drop (i + 1))) ∧ wr.drew.grownBy w9 (Value.slice a es.length c).ownBlock ∧ ((Value.slice a es.length c).ownBlock = some g9 ∨ wr.drew.heap.size ≤ g9))
        · go_region_with (go_at_call 24; refine HDE.out.mono ?_; rintro e9 w9 ⟨g9, cap9, rfl, hown9, hgr9, hat9, hlt9⟩; obtain ⟨hc9, hf9⟩ := grown_far hgr9 hdr0 hbr hner 0; rw [hcX0] at hc9; rw [hfX0] at hf9)
          all_goals exact ⟨g9, cap9, rfl, w9, rfl, hown9, hgr9, hat9⟩
        · rintro g9 cap9 w' ⟨w9, rfl, hown9, hgr9, hat9⟩
          have hd := put_done (es' := es.take i ++ es.drop (i + 1)) (l' := (es.map En.ab).eraseIdx i) (e := .returned (.tuple #[])) (e0 := .returned (.tuple #[])) HS.out (by rw [List.eraseIdx_eq_take_drop_succ, List.map_append, List.map_take, List.map_drop]) (by simp; omega) hbw.drew g9 cap9 hown9 (by simp; omega) hgr9 hat9 rfl (fun y hy => .inl ((List.mem_append.1 hy).elim List.mem_of_mem_take List.mem_of_mem_drop)) (Keeps.refl _ _)
          obtain ⟨_, v1, es1, hm1, hR1, hk1, hf1, hx1⟩ := hd
          have hE : (w9.setCell ⟨b, 0, Option.none⟩ (.slice (some ⟨g9, 0, Option.none⟩) (es.length - 1) cap9)).heap[w.heap.size]? = wr.heap[w.heap.size]? := (Below.heap_setCell w9 ⟨b, 0, Option.none⟩ _ w.heap.size (by show w.heap.size ≠ b; omega)).trans (hgr9.block w.heap.size hlt0 (fun h => by have := HS.out.lt _ (.inr h.symm); omega))
          generalize w9.setCell ⟨b, 0, Option.none⟩ (.slice (some ⟨g9, 0, Option.none⟩) (es.length - 1) cap9) = X at *
          have haX := HVA.out.keeps hk1 HOF.out
          have x00 := (World.cell?_of_block (a := ⟨w.heap.size, 0, Option.none⟩) hE).trans r00
          have x01 := (World.cell?_of_block (a := ⟨w.heap.size, 1, Option.none⟩) hE).trans r01
          have x02 := (World.cell?_of_block (a := ⟨w.heap.size, 2, Option.none⟩) hE).trans r02
          have hln : es1.length < 900000 := by
            have h := congrArg List.length hm1
            rw [List.length_map, List.length_eraseIdx, List.length_map] at h
            split at h <;> omega
          have hcX0' := hR1.cell
          clear r00 r01 r02 hE hown9 hgr9 hat9 hcX0 hfX0 hbr hner ci HDE HRW hbw hdr0
          go_wp2_with fail
          have HR1 := Lib.hid hR1
          have hcX := hR1.cell
          have hbX := hR1.lt b (.inl rfl)
          have hneX := hR1.ne
          have hfX := hR1.frozen
          have hlenX := hR1.len
          have hdr : Below X.heap.size X X.drew := (Below.refl _ _).drew
          have hkp := kept_any e va attrs X.drew haX hsm
          have HKP := Lib.hid hkp
          have HF1 := Lib.hid hf1
          have HK1 := Lib.hid hk1
          have HX1 := Lib.hid hx1
          clear hkp hR1 haX hk1 hf1 hx1
          go_region_law (first
            | (go_simp; go_at_call 25; refine HKP.out.mono ?_; rintro e7 w7 ⟨ka, kc, rfl, hka, hkq, hkb⟩
               have hb7 : Below X.heap.size X w7 := hdr.trans hkb
               have cX7 := (hb7.cell (p := ⟨b, 0, Option.none⟩) hbX).trans hcX
               have fX7 := (hb7.frozen (p := ⟨b, 0, Option.none⟩) hbX).trans hfX
               have own7 := own_below HR1.out.own hb7
               have own8 := own7.alloc (.cells #[.int .i64 e.id, .string e.sp, .string e.nm, .slice ka attrs.length kc] 37)
               have hcs8 := en_news (vs := [.int .i64 e.id, .string e.sp, .string e.nm, .slice ka attrs.length kc]) (heap_alloc_new w7 (.cells #[.int .i64 e.id, .string e.sp, .string e.nm, .slice ka attrs.length kc] 37))
               have hb8 : Below X.heap.size X (w7.alloc (.cells #[.int .i64 e.id, .string e.sp, .string e.nm, .slice ka attrs.length kc] 37)) := hb7.alloc hb7.size _
               have hbz7 : b < w7.heap.size := Nat.lt_of_lt_of_le hbX hb7.size)
            | (refine step_append_lies _ rfl _ _ 25 rfl 0 37 i0 _ 4 64 ht hi hz0 hz1 hz2 rfl (by decide) v1 es1.length (flatE es1) rfl (by exact own8) ⟨w7.heap.size, 0, Option.none⟩ 1 1 [.int .i64 e.id, .string e.sp, .string e.nm, .slice ka attrs.length kc] rfl rfl (by exact hcs8) (by simp [Value.oneCell']) (by decide) (by unfold maxLen; omega) (by omega) (Nat.zero_le _) _ rfl ?_; intro g8 cap8 w8 hown8 hgr8 hat8 hlt8
               obtain ⟨hc8, hf8⟩ := grown_far hgr8 hb8 hbX hneX 0
               rw [hcX] at hc8
               rw [hfX] at hf8))
          all_goals
            go_end0
            refine MPost.then HK1.out HF1.out HX1.out ?_
            refine put_done (es' := es1 ++ [⟨e, ka, kc, attrs⟩]) HR1.out (by first | (rw [hres, List.map_append, hm1]; rfl) | (rw [List.map_append, hm1]; rfl)) (by simp; omega) hb8 g8 cap8 (by rw [flatE_append, flatE_one]; exact hown8) (by simp) hgr8 (hat8.imp id (fun h => Nat.le_of_eq h.symm)) rfl ?_ (Keeps.refl _ _)
            intro y hy
            rcases List.mem_append.1 hy with h | h
            · exact .inl h
            · simp at h
              subst h
              refine .inr ⟨hka.below (Nat.le_refl _) ((Below.refl _ _).alloc (Nat.le_refl _) _), fun q o e => ?_, hsm⟩
              have h1 := hkq q o e
              simp at h1 ⊢
              omega
      · obtain ⟨aa, ac, rfl⟩ : ∃ aa ac, u7 = .slice aa Ix.length ac := by
          rcases hown.2 with ⟨rfl, hn⟩ | ⟨g, cap, cur, rfl, _⟩
          · rw [hn]; exact ⟨_, _, rfl⟩
          · exact ⟨_, _, rfl⟩
        have hres : pushB (es.map En.ab) e attrs = es.map En.ab ++ [⟨e, attrs⟩] := by rw [HRS.out, if_neg h3]
        clear HRS
        have hcX0 := hRw.cell
        go_wp2_with fail
        obtain ⟨X, hX⟩ : ∃ X, X = wr := ⟨_, rfl⟩
        rw [← hX] at hRw haX hbw hcX0 r00 r01 r02 ⊢
        have hk1 : Keeps (fp b (.slice a es.length c)) w X := Keeps.of_below hbw
        obtain ⟨v1, hv1⟩ : ∃ v1, v1 = Value.slice a es.length c := ⟨_, rfl⟩
        obtain ⟨es1, hes1⟩ : ∃ es1, es1 = es := ⟨_, rfl⟩
        have hf1 : ∀ k, fp b v1 k → fp b (.slice a es.length c) k ∨ w.heap.size ≤ k := fun k h => .inl (by rw [← hv1]; exact h)
        have hR1 : Raw X b v1 es1 := by rw [hv1, hes1]; exact hRw
        have hm1 : es1.map En.ab = es.map En.ab := by rw [hes1]
        have hx1 : ∀ x ∈ es1, x ∈ es ∨ ∀ q o, x.a = some ⟨q, o, Option.none⟩ → w.heap.size ≤ q := fun x h => .inl (by rw [← hes1]; exact h)
        rw [← hv1] at hcX0
        have hln : es1.length < 900000 := by rw [hes1]; exact hlen
        clear hes1 hv1 hRw hX hown hil hIx
        have HR1 := Lib.hid hR1
        have hcX := hR1.cell
        have hbX := hR1.lt b (.inl rfl)
        have hneX := hR1.ne
        have hfX := hR1.frozen
        have hlenX := hR1.len
        have hdr : Below X.heap.size X X.drew := (Below.refl _ _).drew
        have hkp := kept_any e va attrs X.drew haX hsm
        have HKP := Lib.hid hkp
        have HF1 := Lib.hid hf1
        have HK1 := Lib.hid hk1
        have HX1 := Lib.hid hx1
        clear hkp hR1 haX hk1 hf1 hx1
        go_region_law (first
          | (go_simp; go_at_call 25; refine HKP.out.mono ?_; rintro e7 w7 ⟨ka, kc, rfl, hka, hkq, hkb⟩
             have hb7 : Below X.heap.size X w7 := hdr.trans hkb
             have cX7 := (hb7.cell (p := ⟨b, 0, Option.none⟩) hbX).trans hcX
             have fX7 := (hb7.frozen (p := ⟨b, 0, Option.none⟩) hbX).trans hfX
             have own7 := own_below HR1.out.own hb7
             have own8 := own7.alloc (.cells #[.int .i64 e.id, .string e.sp, .string e.nm, .slice ka attrs.length kc] 37)
             have hcs8 := en_news (vs := [.int .i64 e.id, .string e.sp, .string e.nm, .slice ka attrs.length kc]) (heap_alloc_new w7 (.cells #[.int .i64 e.id, .string e.sp, .string e.nm, .slice ka attrs.length kc] 37))
             have hb8 : Below X.heap.size X (w7.alloc (.cells #[.int .i64 e.id, .string e.sp, .string e.nm, .slice ka attrs.length kc] 37)) := hb7.alloc hb7.size _
             have hbz7 : b < w7.heap.size := Nat.lt_of_lt_of_le hbX hb7.size)
          | (refine step_append_lies _ rfl _ _ 25 rfl 0 37 i0 _ 4 64 ht hi hz0 hz1 hz2 rfl (by decide) v1 es1.length (flatE es1) rfl (by exact own8) ⟨w7.heap.size, 0, Option.none⟩ 1 1 [.int .i64 e.id, .string e.sp, .string e.nm, .slice ka attrs.length kc] rfl rfl (by exact hcs8) (by simp [Value.oneCell']) (by decide) (by unfold maxLen; omega) (by omega) (Nat.zero_le _) _ rfl ?_; intro g8 cap8 w8 hown8 hgr8 hat8 hlt8
             obtain ⟨hc8, hf8⟩ := grown_far hgr8 hb8 hbX hneX 0
             rw [hcX] at hc8
             rw [hfX] at hf8))
        all_goals
          go_end0
          refine MPost.then HK1.out HF1.out HX1.out ?_
          refine put_done (es' := es1 ++ [⟨e, ka, kc, attrs⟩]) HR1.out (by first | (rw [hres, List.map_append, hm1]; rfl) | (rw [List.map_append, hm1]; rfl)) (by simp; omega) hb8 g8 cap8 (by rw [flatE_append, flatE_one]; exact hown8) (by simp) hgr8 (hat8.imp id (fun h => Nat.le_of_eq h.symm)) rfl ?_ (Keeps.refl _ _)
          intro y hy
          rcases List.mem_append.1 hy with h | h
          · exact .inl h
          · simp at h
            subst h
            refine .inr ⟨hka.below (Nat.le_refl _) ((Below.refl _ _).alloc (Nat.le_refl _) _), fun q o e => ?_, hsm⟩
            have h1 := hkq q o e
            simp at h1 ⊢
            omega
    · have hlt : k < es.length := by omega
      obtain ⟨g, rfl, hg⟩ : ∃ g, a = some ⟨g, 0, Option.none⟩ ∧ g < w.heap.size := by
        rcases hif with h | h
        · rw [h] at hlt; simp at hlt
        · exact h
      obtain ⟨c0, c1, c2, c3⟩ := HS.out.at4 k hlt hbw
      have hat := HS.out.atsAt hbw k hlt
      have hss := HS.out.sm es[k] (List.getElem_mem hlt)
      have hsu := idxs_succ P (es.map En.ab) B k hBk (by rw [hml]; exact hlt)
      have hPk : P (es.map En.ab)[k] = ((es[k].el.sp.toList == e.sp.toList) && ((es[k].el.nm.toList == e.nm.toList) && sameL (sortA es[k].ats) (sortA attrs))) := by rw [HP.out, List.getElem_map]; rfl
      rw [hPk] at hsu
      clear hPk
      generalize es[k] = x at *
      have hlk := idxs_len P (es.map En.ab) B k
      have HAT := Lib.hid hat
      have HSU := Lib.hid hsu
      have HO := Lib.hid hown
      clear hat hsu hown hb hbw hcb g00 g01 g02
      have hw1 : IntKind.i64.wrap ((k : Int) + 1) = (k : Int) + 1 := by rw [IntKind.wrap_i64]; omega
      cases q1 : (x.el.sp.toList == e.sp.toList)
      · have HQ := Lib.hid q1
        go_wp2_with fail
        go_roundw
        case rel =>
          refine ⟨k + 1, by omega, by omega, by simp, ?_, HB.out.alloc hsr _⟩
          rw [HSU.out, HQ.out]
          simp
          exact HO.out.alloc _
        case measure => simp [intOf] <;> omega
      · have HQ := Lib.hid q1
        cases q2 : (x.el.nm.toList == e.nm.toList)
        · have HQ2 := Lib.hid q2
          go_wp2_with fail
          go_roundw
          case rel =>
            refine ⟨k + 1, by omega, by omega, by simp, ?_, HB.out.alloc hsr _⟩
            rw [HSU.out, HQ.out, HQ2.out]
            simp
            exact HO.out.alloc _
          case measure => simp [intOf] <;> omega
        · have HQ2 := Lib.hid q2
          have hal : Below wr.heap.size wr (wr.alloc (.cells #[.int .i64 x.el.id, .string x.el.sp, .string x.el.nm, .slice x.a x.ats.length x.c] 37)) := (Below.refl _ _).alloc (Nat.le_refl _) _
          have HAL := Lib.hid hal
          clear hal
          go_wp2_with fail
          refine (sorted_any (.slice x.a x.ats.length x.c) x.ats _ hss (HAT.out.below (Nat.le_refl _) HAL.out)).mono ?_
          rintro e3 w4 ⟨ta, tc, rfl, h4, hb4⟩
          have HA4 := Lib.hid h4
          have hb4' : Below wr.heap.size wr w4 := HAL.out.trans (hb4.mono HAL.out.size)
          have HB4 := Lib.hid hb4'
          have hs4 := hb4'.size
          clear h4 hb4 hb4'
          go_wp2_with fail
          refine (equal_any _ _ _ _ _ HA4.out (HA2.out.below (Nat.le_refl _) (HB.out.trans (HB4.out.mono hsr)))).mono ?_
          rintro e4 w5 ⟨rfl, hb5⟩
          have hb5' : Below wr.heap.size wr w5 := HB4.out.trans (hb5.mono hs4)
          have HB5 := Lib.hid hb5'
          have hs5 := hb5'.size
          clear hb5 hb5'
          cases q3 : sameL (sortA x.ats) (sortA attrs)
          · have HQ3 := Lib.hid q3
            go_wp2_with fail
            go_roundw
            case rel =>
              refine ⟨k + 1, by omega, by omega, by simp, ?_, HB.out.trans (HB5.out.mono hsr)⟩
              rw [HSU.out, HQ.out, HQ2.out, HQ3.out]
              simp
              exact own_below HO.out HB5.out
            case measure => simp [intOf] <;> omega
          · have HQ3 := Lib.hid q3
            have hrow := (own_below HO.out HB5.out).alloc (.cells #[.int .i64 k] 3)
            have hon := one_news w5 (.int .i64 k) 3
            have HN := Lib.hid hon
            clear hon
            go_wp2_with (first | (at_builtin; refine wpList_append_lies _ rfl _ _ 22 rfl w2.heap.size 3 n0 _ 1 8 nt ni nz0 nz1 nz2 rfl (by decide) _ _ _ rfl hrow ⟨w5.heap.size, 0, Option.none⟩ 1 1 [.int .i64 k] rfl rfl HN.out (by simp [Value.oneCell']) (by decide) (by unfold maxLen; omega) (by omega) (by simp; omega) _ rfl ?_; intro g6 cap6 w6 hown6 hgr6 _ _) | fail)
            go_roundw
            case rel =>
              refine ⟨k + 1, by omega, by omega, by simp, ?_, ?_⟩
              · rw [HSU.out, HQ.out, HQ2.out, HQ3.out]
                simpa [encNs] using hown6
              · exact ((HB.out.trans (HB5.out.mono hsr)).alloc (by omega) _).grown hgr6 (by simp; omega) (fun j e => (hrow.lt j e).1)
            case measure => simp [intOf] <;> omega
end Go.Proofs.Ytmhofhblgcjihaa
