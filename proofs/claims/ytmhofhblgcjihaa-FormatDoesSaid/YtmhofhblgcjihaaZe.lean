/- Contracts of slices.Insert and slices.Delete over a row that the call owns, at elements of 4 cells. -/
import Derived.Test.YtmhofhblgcjihaaCk
import Derived.Deep.AppendLies
import Derived.Deep.RegionLaw
import Derived.Deep.AppendSrc
import Derived.Lib.Hide
import Derived.Test.YtmhofhblgcjihaaProg
namespace Go.Proofs.Ytmhofhblgcjihaa
open Go Go.RowKit Go.Lib

theorem infoen : (Try.prog.info? 37).map (fun i => (i.zero, i.size, i.bytes)) = some (some (.agg #[.int .i64 0, .string ⟨#[]⟩, .string ⟨#[]⟩, .slice none 0 0]), 4, 64) := by kernel_rfl
theorem sizeOfen (w : World) : (Go.sizeOf 37).run Try.prog w = .ok 4 w := by kernel_rfl

/-- what an insertion or a deletion leaves: a slice that owns the cells; of what was there only its own old row may have turned -/
def enPost (v : Value) (cs : List Value) (n : Nat) (w : World) (e : Ending) (w' : World) : Prop :=
  ∃ g cap, e = .returned (.slice (some ⟨g, 0, none⟩) n cap) ∧ w'.ownsRow 0 37 4 (.slice (some ⟨g, 0, none⟩) n cap) n cs ∧ w.grownBy w' v.ownBlock ∧ (v.ownBlock = some g ∨ w.heap.size ≤ g) ∧ g < w'.heap.size

theorem en_news {w : World} {vb : Nat} {vs : List Value} {t : TypeId} (h : w.heap[vb]? = some (.cells vs.toArray t (0, 0))) : ∀ j u, vs[j]? = some u → w.cell? ((⟨vb, 0, none⟩ : Addr).add j) = some u := by
  intro j u hu
  have hadd : (⟨vb, 0, none⟩ : Addr).add j = ⟨vb, j, none⟩ := by unfold Addr.add; split <;> simp_all
  rw [hadd, cell_of_row w vb j _ _ _ h]
  simpa using hu

set_option maxHeartbeats 4000000 in
set_option maxRecDepth 100000 in
theorem en_ins_end (v : Value) (n vb : Nat) (cs vs : List Value) (w : World) (hown : w.ownsRow 0 37 4 v n cs) (hn : n < 1000000) (hvb : w.heap[vb]? = some (.cells vs.toArray 37 (0, 0))) (hvl : vs.length = 4) (h1v : ∀ u ∈ vs, u.oneCell' = true) :
    Calls Try.prog 56 #[v, .int .i64 n, .slice (some ⟨vb, 0, none⟩) 1 1] w (enPost v (cs ++ vs) (n + 1) w) := by
  obtain ⟨i0, hi, hz0, hz1, hz2⟩ := info_parts infoen
  have ht := Try.underlying25
  have hnews := en_news hvb
  rcases hown.2 with ⟨rfl, rfl⟩ | ⟨g, cap, cur, rfl, _, hg, hc, hm, hs, hcur⟩
  · go_enter Try.func56, Try.ntmps56
    go_wp2_with (at_builtin; refine wpList_append_lies _ rfl _ _ 25 rfl 0 37 i0 _ 4 64 ht hi hz0 hz1 hz2 rfl (by decide) _ _ cs rfl (by exact hown) ⟨vb, 0, none⟩ 1 1 vs rfl (by omega) hnews h1v (by decide) (by unfold maxLen; omega) (by omega) (Nat.zero_le _) _ rfl ?_; intro g' cap' w1 h1 h2 h3 h4)
    go_ret
    exact ⟨g', cap', rfl, h1, h2, h3.imp id (fun h => by omega), h4⟩
  · unfold maxLen at hm
    go_enter Try.func56, Try.ntmps56
    go_wp2_with (at_builtin; refine wpList_append_lies _ rfl _ _ 25 rfl 0 37 i0 _ 4 64 ht hi hz0 hz1 hz2 rfl (by decide) _ _ cs rfl (by exact hown) ⟨vb, 0, none⟩ 1 1 vs rfl (by omega) hnews h1v (by decide) (by unfold maxLen; omega) (by omega) (Nat.zero_le _) _ rfl ?_; intro g' cap' w1 h1 h2 h3 h4)
    all_goals
      go_ret
      exact ⟨g', cap', rfl, h1, h2, h3.imp id (fun h => by omega), h4⟩
theorem en_overlaps {w : World} (vb g : Nat) (vs cur : Array Value) (m vc o lb cb : Nat) (hvb : w.heap[vb]? = some (.cells vs 37 (0, 0))) (hg : w.heap[g]? = some (.cells cur 37 (0, 0))) (hne : vb ≠ g) (hc : cur.size ≠ 0) :
    (callFunc 62 #[.slice (some ⟨vb, 0, none⟩) m vc, .slice (some ⟨g, o, none⟩) lb cb]).run Try.prog w = .ok (.value (.bool false)) w := by
  rw [run_callFunc_extern Try.func62 (by kernel_rfl) (by kernel_rfl) (by kernel_rfl) (e := Extern.SlicesOverlaps.overlaps #[25, 25] #[4]) (by kernel_rfl),
    Lib.run_overlaps_apart w 25 4 37 Try.underlying25 4 sizeOfen ⟨vb, 0, none⟩ ⟨g, o, none⟩ m vc lb cb hne 37 37 vs.size cur.size (by simp [World.shape?, hvb]) (by simp [World.shape?, hg]) hc (by simp [World.frozen?, hvb]) (by simp [World.frozen?, hvb])]
  rfl

set_option maxHeartbeats 4000000 in
set_option maxRecDepth 100000 in
theorem en_ins_shift (g n c i vb : Nat) (cur : Array Value) (vs : List Value) (w : World) (hg : w.heap[g]? = some (.cells cur 37 (0, 0))) (hs : cur.size = c * 4) (hi : i < n) (hroom : n + 1 ≤ c) (hm : c ≤ maxLen) (hvb : w.heap[vb]? = some (.cells vs.toArray 37 (0, 0))) (hne : vb ≠ g) (hvl : vs.length = 4) (h1c : ∀ u ∈ cur.toList.take (n * 4), u.oneCell' = true) (h1v : ∀ u ∈ vs, u.oneCell' = true) :
    Calls Try.prog 56 #[.slice (some ⟨g, 0, none⟩) n c, .int .i64 i, .slice (some ⟨vb, 0, none⟩) 1 1] w fun e w' =>
      e = .returned (.slice (some ⟨g, 0, none⟩) (n + 1) c) ∧ w' = (w.drew.setCells g ((i + 1) * 4) ((cur.toList.take (n * 4)).drop (i * 4))).setCells g (i * 4) vs := by
  obtain ⟨i0, hi0, hz0, hz1, hz2⟩ := info_parts infoen
  have ht := Try.underlying25
  have hsz : (Try.prog.info? 37).map (·.size) = some 4 := by rw [hi0]; simp [hz1]
  have hov := fun o lb cb => en_overlaps vb g vs.toArray cur 1 1 o lb cb hvb hg hne (by rw [hs]; omega)
  have hnews := en_news hvb
  unfold maxLen at hm
  have hcl : (cur.toList.take (n * 4)).length = n * 4 := by simp; omega
  obtain ⟨cs, hcs⟩ : ∃ cs, cs = (cur.toList.take (n * 4)).drop (i * 4) := ⟨_, rfl⟩
  rw [← hcs]
  have hdl : cs.length = (n - i) * 4 := by rw [hcs, List.length_drop, hcl, Nat.sub_mul]
  have hmin : Nat.min (n + 1 - i) (n - i) = n - i := by simp only [Nat.min_def]; split <;> omega
  have hmin2 : Nat.min 1 (n + 1 - i) = 1 := by simp only [Nat.min_def]; split <;> omega
  have hcell : ∀ o, o < c * 4 → (w.cell? ⟨g, o, none⟩).isSome = true := fun o ho => by
    rw [cell_of_row w g o _ _ _ hg, Array.getElem?_eq_getElem (by omega)]; rfl
  have hfz : ∀ o, w.frozen? ⟨g, o, none⟩ = false := fun o => by simp [World.frozen?, hg]
  have hsrc : ∀ j v, cs[j]? = some v → w.cell? ((⟨g, i * 4, none⟩ : Addr).add j) = some v := fun j v hj => by
    rw [Addr.add_lit, cell_of_row w g _ _ _ _ hg]
    rw [hcs, List.getElem?_drop, List.getElem?_take] at hj
    split at hj
    · simpa using hj
    · cases hj
  have hcp1 : ∀ ty dc sc, (Builtin.copy_ #[25, 25] ty #[.slice (some ⟨g, (i + 1) * 4, none⟩) (n - i) dc, .slice (some ⟨g, i * 4, none⟩) (n + 1 - i) sc]).run Try.prog w.drew = .ok (goInt ((n - i : Nat) : Int)) (w.drew.setCells g ((i + 1) * 4) cs) := fun ty dc sc => by
    have h := run_copy_k w.drew 25 25 ty 37 4 g ((i + 1) * 4) (n - i) dc ⟨g, i * 4, none⟩ (n + 1 - i) sc cs ht hsz (by rw [hmin]; exact hdl) hsrc
      (fun j hj => hcell _ (by rw [hdl] at hj; omega)) (fun j _ => hfz _) (fun v hv => h1c v (by rw [hcs] at hv; exact List.mem_of_mem_drop hv))
    rw [hmin] at h
    exact h
  obtain ⟨W1, hW1⟩ : ∃ W1, W1 = w.drew.setCells g ((i + 1) * 4) cs := ⟨_, rfl⟩
  have hcell1 : ∀ o, o < c * 4 → (W1.cell? ⟨g, o, none⟩).isSome = true := fun o ho => by
    have h2 := heap_setCells g 37 (0, 0) cs ((i + 1) * 4) w.drew cur hg (by rw [hdl, hs]; omega)
    rw [← hW1] at h2
    rw [cell_of_row W1 g o _ _ _ h2, Array.getElem?_eq_getElem (by simp [hdl]; omega)]; rfl
  have hcp2 : ∀ ty dc sc, (Builtin.copy_ #[25, 25] ty #[.slice (some ⟨g, i * 4, none⟩) (n + 1 - i) dc, .slice (some ⟨vb, 0, none⟩) 1 sc]).run Try.prog W1 = .ok (goInt 1) (W1.setCells g (i * 4) vs) := fun ty dc sc => by
    have h := run_copy_k W1 25 25 ty 37 4 g (i * 4) (n + 1 - i) dc ⟨vb, 0, none⟩ 1 sc vs ht hsz (by rw [hmin2]; omega)
      (fun j v hj => by
        have hadd : (⟨vb, 0, none⟩ : Addr).add j = ⟨vb, j, none⟩ := by unfold Addr.add; split <;> simp_all
        have := hnews j v hj
        rw [hadd] at this ⊢
        rw [hW1, World.cell?_setCells_out g _ _ _ _ (fun h _ => absurd h hne)]; exact this)
      (fun j hj => hcell1 _ (by omega)) (fun j _ => by rw [hW1, World.frozen?_setCells]; exact hfz _) h1v
    rw [hmin2] at h
    exact h
  rw [← hW1] at hcp1
  have hw1 : IntKind.i64.wrap ((i : Int) + 1) = (i : Int) + 1 := by rw [IntKind.wrap_i64]; omega
  have hb1 : (0 : Int) ≤ (i : Int) + 1 := by omega
  have htn : ((i : Int) + 1).toNat = i + 1 := by omega
  have hin : i ≤ n := by omega
  have hb2 : ¬ (c = i + 1) := by omega
  have hb3 : (i : Int) ≤ (n : Int) + 1 := by omega
  have hb4 : ¬ (c = i) := by omega
  have HCP1 := Lib.hid hcp1
  have HCP2 := Lib.hid hcp2
  have HW1 := Lib.hid hW1
  clear hcp1 hcp2 hW1 hcell hcell1 hsrc hfz hnews hmin hmin2 hdl hcs hcl hvl hs hsz h1c h1v hi0 hz0 hz1 hz2
  go_enter Try.func56, Try.ntmps56
  go_wp2_with (simp only [hov])
  go_region_law (refine step_copy_runK rfl _ _ 25 25 rfl _ _ (by simp [Act.eval, Act.put]) (by simp [Act.eval, Act.put]) (HCP1.out 3 (c - (i + 1)) (c - i)) ?_)
  go_wp2_with (refine wpList_copy_runK _ rfl (.tmp 80) (.tmp 81) 25 25 rfl _ _ rfl rfl (HCP2.out _ _ _) ?_)
  go_ret
  exact ⟨rfl, by rw [← HW1.out]⟩
set_option maxHeartbeats 4000000 in
set_option maxRecDepth 100000 in
theorem en_ins_grow (g n c i vb : Nat) (cur : Array Value) (vs : List Value) (w : World) (hg : w.heap[g]? = some (.cells cur 37 (0, 0))) (hs : cur.size = c * 4) (hi : i < n) (hnc : n ≤ c) (hfull : c < n + 1) (hn : n < 1000000) (hvb : w.heap[vb]? = some (.cells vs.toArray 37 (0, 0))) (hvl : vs.length = 4) (h1c : ∀ u ∈ cur.toList.take (n * 4), u.oneCell' = true) (h1v : ∀ u ∈ vs, u.oneCell' = true) :
    Calls Try.prog 56 #[.slice (some ⟨g, 0, none⟩) n c, .int .i64 i, .slice (some ⟨vb, 0, none⟩) 1 1] w fun e w' =>
      ∃ cap Z, e = .returned (.slice (some ⟨w.heap.size, 0, none⟩) (n + 1) cap) ∧ n + 1 ≤ cap ∧ cap ≤ maxLen ∧ i * 4 + Z.length = cap * 4 ∧
        w' = (((w.drew.alloc (.cells ((cur.toList.take (n * 4)).take (i * 4) ++ Z).toArray 37)).setCells w.heap.size (i * 4) vs).drew).setCells w.heap.size ((i + 1) * 4) ((cur.toList.take (n * 4)).drop (i * 4)) := by
  obtain ⟨i0, hi0, hz0, hz1, hz2⟩ := info_parts infoen
  have ht := Try.underlying25
  have hsz : (Try.prog.info? 37).map (·.size) = some 4 := by rw [hi0]; simp [hz1]
  have hnews := en_news hvb
  obtain ⟨G, hG⟩ : ∃ G, G = grownCap w (n + 1) c 37 := ⟨_, rfl⟩
  have hGn : n + 1 ≤ G := by rw [hG]; exact grownCap_ge w _ _ _
  have hGm : G ≤ maxLen := by rw [hG]; exact grownCap_le_maxLen w (n + 1) c 37 (by unfold maxLen; omega)
  obtain ⟨Z, hZ⟩ : ∃ Z, Z = (Builtin.zeroCells (Value.cells (.agg #[.int .i64 0, .string ⟨#[]⟩, .string ⟨#[]⟩, .slice none 0 0])) (n + 1 - i)).toList ++ (Builtin.zeroCells (Value.cells (.agg #[.int .i64 0, .string ⟨#[]⟩, .string ⟨#[]⟩, .slice none 0 0])) (G - (n + 1))).toList := ⟨_, rfl⟩
  have hZl : i * 4 + Z.length = G * 4 := by
    rw [hZ]; simp [size_zeroCells, Value.cells]; omega
  obtain ⟨csA, hcsA⟩ : ∃ csA, csA = (cur.toList.take (n * 4)).take (i * 4) := ⟨_, rfl⟩
  obtain ⟨csB, hcsB⟩ : ∃ csB, csB = (cur.toList.take (n * 4)).drop (i * 4) := ⟨_, rfl⟩
  have hcl : (cur.toList.take (n * 4)).length = n * 4 := by simp; omega
  have hAl : csA.length = i * 4 := by rw [hcsA, List.length_take, hcl]; omega
  have hBl : csB.length = (n - i) * 4 := by rw [hcsB, List.length_drop, hcl, Nat.sub_mul]
  rw [← hcsA, ← hcsB]
  have hik : i + (n + 1 - i) = n + 1 := by omega
  have hkk : (n : Int) + 1 - (i : Int) = ((n + 1 - i : Nat) : Int) := by omega
  have hold : (Builtin.firstCells i0.size i (.slice (some ⟨g, 0, none⟩) i c)).run Try.prog w.drew = .ok csA.toArray w.drew := by
    rw [hz1]
    exact run_firstCells_some w.drew 4 i ⟨g, 0, none⟩ i c csA hAl (fun j v hj => by
      have hadd : (⟨g, 0, none⟩ : Addr).add j = ⟨g, j, none⟩ := by unfold Addr.add; split <;> simp_all
      rw [hadd]
      show w.cell? _ = _
      rw [cell_of_row w g j _ _ _ hg]
      rw [hcsA, List.getElem?_take, List.getElem?_take] at hj
      split at hj
      · split at hj
        · simpa using hj
        · cases hj
      · cases hj)
  obtain ⟨ROW, hROW⟩ : ∃ ROW : Array Value, ROW = (csA ++ Z).toArray := ⟨_, rfl⟩
  have hrz : ∀ ty, (Builtin.append_ #[25, 3] ty #[.slice (some ⟨g, 0, none⟩) i c, .int .i64 ((n : Int) + 1 - (i : Int))]).run Try.prog w =
      .ok (.slice (some ⟨w.heap.size, 0, none⟩) (n + 1) G) (w.drew.alloc (.cells ROW 37)) := fun ty => by
    have h := Lib.run_append_grow_zeros w 25 3 ty 37 i0 _ .i64 .i64 ht Try.underlying3 hi0 hz0 (some ⟨g, 0, none⟩) i c csA hold (n + 1 - i) (by omega) (by omega) (by omega) (by omega) (by rw [hz2]; omega) (by rw [hz2, hik]; exact growslice_fits hfull (by omega))
    rw [hik, ← hG] at h
    have hR : csA.toArray ++ Builtin.zeroCells (Value.cells (.agg #[.int .i64 0, .string ⟨#[]⟩, .string ⟨#[]⟩, .slice none 0 0])) (n + 1 - i) ++ Builtin.zeroCells (Value.cells (.agg #[.int .i64 0, .string ⟨#[]⟩, .string ⟨#[]⟩, .slice none 0 0])) (G - (n + 1)) = ROW := by
      rw [hROW, hZ]
      apply Array.ext'
      simp
    rw [hkk, h, hR]
  have hRl : ROW.size = G * 4 := by rw [hROW]; simp; omega
  obtain ⟨W1, hW1⟩ : ∃ W1, W1 = w.drew.alloc (.cells ROW 37) := ⟨_, rfl⟩
  have hb1 : W1.heap[w.heap.size]? = some (.cells ROW 37 (0, 0)) := by rw [hW1]; exact heap_alloc_new w.drew _
  have hglt : g < w.heap.size := (Array.getElem?_eq_some_iff.1 hg).1
  have hvlt : vb < w.heap.size := (Array.getElem?_eq_some_iff.1 hvb).1
  have hbg : W1.heap[g]? = some (.cells cur 37 (0, 0)) := by rw [hW1]; exact (heap_alloc_old w.drew _ hglt).trans hg
  have hbv : W1.heap[vb]? = some (.cells vs.toArray 37 (0, 0)) := by rw [hW1]; exact (heap_alloc_old w.drew _ hvlt).trans hvb
  have hmin2 : Nat.min 1 (n + 1 - i) = 1 := by simp only [Nat.min_def]; split <;> omega
  have hminB : Nat.min (n - i) (n - i) = n - i := by simp
  have hcpA : ∀ ty dc sc, (Builtin.copy_ #[25, 25] ty #[.slice (some ⟨w.heap.size, i * 4, none⟩) (n + 1 - i) dc, .slice (some ⟨vb, 0, none⟩) 1 sc]).run Try.prog W1 = .ok (goInt 1) (W1.setCells w.heap.size (i * 4) vs) := fun ty dc sc => by
    have h := run_copy_k W1 25 25 ty 37 4 w.heap.size (i * 4) (n + 1 - i) dc ⟨vb, 0, none⟩ 1 sc vs ht hsz (by rw [hmin2]; omega)
      (en_news hbv) (fun j hj => by rw [cell_of_row _ _ _ _ _ _ hb1, Array.getElem?_eq_getElem (by omega)]; rfl) (fun j _ => by simp [World.frozen?, hb1]) h1v
    rw [hmin2] at h
    exact h
  obtain ⟨W2, hW2⟩ : ∃ W2, W2 = W1.setCells w.heap.size (i * 4) vs := ⟨_, rfl⟩
  have hb2 : W2.heap[w.heap.size]? = some (.cells (ROW.toList.take (i * 4) ++ vs ++ ROW.toList.drop (i * 4 + vs.length)).toArray 37 (0, 0)) := by
    rw [hW2]; exact heap_setCells _ _ _ vs _ W1 ROW hb1 (by omega)
  have hbg2 : W2.heap[g]? = some (.cells cur 37 (0, 0)) := by rw [hW2, heap_setCells_other _ _ _ _ _ (by omega)]; exact hbg
  have hcpB : ∀ ty dc sc, (Builtin.copy_ #[25, 25] ty #[.slice (some ⟨w.heap.size, (i + 1) * 4, none⟩) (n - i) dc, .slice (some ⟨g, i * 4, none⟩) (n - i) sc]).run Try.prog W2.drew = .ok (goInt ((n - i : Nat) : Int)) (W2.drew.setCells w.heap.size ((i + 1) * 4) csB) := fun ty dc sc => by
    have h := run_copy_k W2.drew 25 25 ty 37 4 w.heap.size ((i + 1) * 4) (n - i) dc ⟨g, i * 4, none⟩ (n - i) sc csB ht hsz (by rw [hminB]; exact hBl)
      (fun j v hj => by
        rw [Addr.add_lit]
        show W2.cell? _ = _
        rw [cell_of_row _ _ _ _ _ _ hbg2]
        rw [hcsB, List.getElem?_drop, List.getElem?_take] at hj
        split at hj
        · simpa using hj
        · cases hj)
      (fun j hj => by
        show (W2.cell? _).isSome = true
        rw [cell_of_row _ _ _ _ _ _ hb2, Array.getElem?_eq_getElem (by simp; omega)]; rfl)
      (fun j _ => by show W2.frozen? _ = _; simp [World.frozen?, hb2]) (fun v hv => h1c v (by rw [hcsB] at hv; exact List.mem_of_mem_drop hv))
    rw [hminB] at h
    exact h
  rw [← hW1] at hrz
  rw [← hW2] at hcpA
  have hw1 : IntKind.i64.wrap ((i : Int) + 1) = (i : Int) + 1 := by rw [IntKind.wrap_i64]; omega
  have hp1 : (0 : Int) ≤ (i : Int) + 1 := by omega
  have htn : ((i : Int) + 1).toNat = i + 1 := by omega
  have hin : i ≤ n := by omega
  have hb3 : (i : Int) ≤ (n : Int) := by omega
  have hGm2 := hGm
  unfold maxLen at hGm2
  have hGi : ¬ (G = i) := by omega
  have hGim : ¬ (G = i + 1) := by omega
  have hci : ¬ (c = i) := by omega
  have HRZ := Lib.hid hrz
  have HA := Lib.hid hcpA
  have HB := Lib.hid hcpB
  have HZL := Lib.hid hZl
  have HW : Hid (W2 = (w.drew.alloc (.cells (csA ++ Z).toArray 37)).setCells w.heap.size (i * 4) vs) := by
    rw [← hROW, ← hW1]; exact hW2
  clear hrz hcpA hcpB hZl hW1 hW2 hROW hRl hb1 hbg hbv hb2 hbg2 hold hkk hik hAl hBl hcl hcsA hcsB hZ hG hmin2 hminB hsz hi0 hz0 hz1 hz2 hnews h1c h1v hs hvl
  go_enter Try.func56, Try.ntmps56
  go_wp2_with (first
    | (at_builtin; refine Lib.wpList_append_run _ rfl _ _ _ _ rfl _ _ rfl rfl _ _ (HRZ.out _) ?_)
    | (refine wpList_copy_runK _ rfl (.tmp 43) (.tmp 44) 25 25 rfl _ _ rfl rfl (HA.out _ _ _) ?_))
  go_region_law (refine step_copy_runK rfl _ _ 25 25 rfl _ _ (by simp [Act.eval, Act.put]) (by simp [Act.eval, Act.put]) (HB.out 3 (G - (i + 1)) (c - i)) ?_)
  go_wp2
  go_ret
  exact ⟨G, Z, rfl, hGn, hGm, HZL.out, by rw [← HW.out]⟩
set_option maxHeartbeats 4000000 in
set_option maxRecDepth 100000 in
theorem en_del_row (g n c i : Nat) (cur : Array Value) (w : World) (hg : w.heap[g]? = some (.cells cur 37 (0, 0))) (hs : cur.size = c * 4) (hi : i < n) (hnc : n ≤ c) (hm : c ≤ maxLen) (h1c : ∀ u ∈ cur.toList.take (n * 4), u.oneCell' = true) :
    Calls Try.prog 24 #[.slice (some ⟨g, 0, none⟩) n c, .int .i64 i, .int .i64 ((i : Int) + 1)] w fun e w' =>
      ∃ zs, zs.length = 4 ∧ e = .returned (.slice (some ⟨g, 0, none⟩) (n - 1) c) ∧
        w' = (w.drew.setCells g (i * 4) ((cur.toList.take (n * 4)).drop ((i + 1) * 4))).setCells g ((n - 1) * 4) zs := by
  obtain ⟨i0, hi0, hz0, hz1, hz2⟩ := info_parts infoen
  have ht := Try.underlying25
  have hsz : (Try.prog.info? 37).map (·.size) = some 4 := by rw [hi0]; simp [hz1]
  obtain ⟨zs, hzs⟩ : ∃ zs, zs = (Builtin.zeroCells (Value.cells (.agg #[.int .i64 0, .string ⟨#[]⟩, .string ⟨#[]⟩, .slice none 0 0])) 1).toList := ⟨_, rfl⟩
  have hzl : zs.length = 4 := by rw [hzs]; simp [size_zeroCells, Value.cells]
  have hz1c : ∀ u ∈ zs, u.oneCell' = true := by rw [hzs]; decide +kernel
  obtain ⟨csB, hcsB⟩ : ∃ csB, csB = (cur.toList.take (n * 4)).drop ((i + 1) * 4) := ⟨_, rfl⟩
  have hcl : (cur.toList.take (n * 4)).length = n * 4 := by simp; omega
  have hBl : csB.length = (n - (i + 1)) * 4 := by rw [hcsB, List.length_drop, hcl, Nat.sub_mul]
  rw [← hcsB]
  have hcellB : ∀ j v, csB[j]? = some v → w.cell? ⟨g, (i + 1) * 4 + j, none⟩ = some v := fun j v hj => by
    rw [cell_of_row _ _ _ _ _ _ hg]
    rw [hcsB, List.getElem?_drop, List.getElem?_take] at hj
    split at hj
    · simpa using hj
    · cases hj
  obtain ⟨A, hA, hsrc⟩ : ∃ A : Addr, (if c = i + 1 then (some (⟨g, 0, none⟩ : Addr)) else some ⟨g, (i + 1) * 4, none⟩) = some A ∧ Hid (∀ t u, csB[t]? = some u → w.drew.cell? (A.add t) = some u) := by
    by_cases h : c = i + 1
    · refine ⟨⟨g, 0, none⟩, by simp [h], fun t u hu => ?_⟩
      have h0 : csB.length = 0 := by rw [hBl]; omega
      rw [List.length_eq_zero_iff.1 h0] at hu
      simp at hu
    · refine ⟨⟨g, (i + 1) * 4, none⟩, by simp [h], fun t u hu => ?_⟩
      rw [Addr.add_lit]
      exact hcellB t u hu
  obtain ⟨W1, hW1⟩ : ∃ W1, W1 = w.drew.setCells g (i * 4) csB := ⟨_, rfl⟩
  have hb1 : W1.heap[g]? = some (.cells (cur.toList.take (i * 4) ++ csB ++ cur.toList.drop (i * 4 + csB.length)).toArray 37 (0, 0)) := by
    rw [hW1]; exact heap_setCells _ _ _ csB _ w.drew cur hg (by omega)
  have hcl1 : ∀ ty dc, (Builtin.clear_ #[25] ty #[.slice (some ⟨g, (n - 1) * 4, none⟩) 1 dc]).run Try.prog W1 = .ok (.tuple #[]) (W1.setCells g ((n - 1) * 4) zs) := fun ty dc =>
    run_clear_k W1 25 37 ty (.agg #[.int .i64 0, .string ⟨#[]⟩, .string ⟨#[]⟩, .slice none 0 0]) ht (fun w => by kernel_rfl) g ((n - 1) * 4) 1 dc (by omega) zs hzs.symm hz1c
      (fun j hj => by rw [cell_of_row _ _ _ _ _ _ hb1, Array.getElem?_eq_getElem (by simp; omega)]; rfl) (fun j _ => by simp [World.frozen?, hb1])
  have s1 : Hid (csB.length = (n - (i + 1)) * 4) := hBl
  have s2 : Hid (∀ u ∈ csB, u.oneCell' = true) := fun v hv => h1c v (by rw [hcsB] at hv; exact List.mem_of_mem_drop hv)
  have s3 : Hid (∀ t, t < csB.length → (w.drew.cell? ⟨g, 0 + i * 4 + t, none⟩).isSome = true ∧ w.drew.frozen? ⟨g, 0 + i * 4 + t, none⟩ = false) := fun t htl => by
    rw [Nat.zero_add]
    refine ⟨?_, by show w.frozen? _ = _; simp [World.frozen?, hg]⟩
    show (w.cell? _).isSome = true
    rw [cell_of_row _ _ _ _ _ _ hg, Array.getElem?_eq_getElem (by omega)]; rfl
  have HW : Hid (W1 = w.drew.setCells g (0 + i * 4) csB) := by rw [Nat.zero_add]; exact hW1
  have HCL := Lib.hid hcl1
  have HZL := Lib.hid hzl
  have HW1 := Lib.hid hW1
  have hw1 : IntKind.i64.wrap ((i : Int) + 1) = (i : Int) + 1 := by rw [IntKind.wrap_i64]; unfold maxLen at hm; omega
  have hp1 : (0 : Int) ≤ (i : Int) + 1 := by omega
  have htn : ((i : Int) + 1).toNat = i + 1 := by omega
  have hin : i ≤ n := by omega
  have hic : i ≤ c := by omega
  have hne : ((i : Int) == (i : Int) + 1) = false := by rw [beq_eq_false_iff_ne]; omega
  have hroom : i + (n - (i + 1)) ≤ c := by omega
  have hlen : i + (n - (i + 1)) = n - 1 := by omega
  have hne2 : ¬ (c = n - 1) := by omega
  have hone : n - (n - 1) = 1 := by omega
  have hi2 : (i : Int) + 1 ≤ (n : Int) := by omega
  unfold maxLen at hm
  clear hcl1 hzl hW1 hb1 hcellB hBl hcl hcsB hzs hz1c hsz hz2 hz0 h1c hs
  go_enter Try.func24, Try.ntmps24
  go_wp2_with fail
  go_region_law (refine step_append_room rfl (.tmp 22) (.tmp 25) 25 rfl 37 i0 4 ht hi0 hz1 g 0 i c (by simp [Act.eval, Act.put]) A (n - (i + 1)) (c - (i + 1)) csB (by simp [Act.eval, Act.put]) s1.out hsrc.out s2.out (by omega) s3.out ?_; rw [← HW.out])
  go_wp2_with (simp only [HCL.out])
  go_ret
  exact ⟨zs, HZL.out, rfl, by rw [← HW1.out]⟩
end Go.Proofs.Ytmhofhblgcjihaa
