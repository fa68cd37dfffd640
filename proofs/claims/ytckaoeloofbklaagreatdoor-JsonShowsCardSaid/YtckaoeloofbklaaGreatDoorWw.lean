/- Joined texts: Kr Km. Each begins with its own remark. -/
import Derived.Test.YtckaoeloofbklaaGreatDoorWv
import Derived.Test.YtckaoeloofbklaaGreatDoorWu
import Derived.Deep.Slices
import Derived.SliceStrings
import Derived.SizedLaws
import Derived.ProofKit
import Derived.LaidMore
import Derived.Test.YtckaoeloofbklaaGreatDoorRows
import Derived.Test.YtckaoeloofbklaaGreatDoorWc
import Derived.Shelf.Unicode.ValidAny
set_option maxRecDepth 100000
namespace Go.Proofs.YtckaoeloofbklaaGreatDoor
open Go Go.ChangeShapes Go.WideShapes Go.ChangeAt Go.RowKit Go.WideMaps Go.WideElems Go.Deep
theorem weightsAllV_mem {H : Type} {P : Program} {e : TypeId} : ∀ {l : List (DataW H)} {d : DataW H}, d ∈ l → ∀ n ∈ d.weights P e, n ∈ DataW.weightsAll P e l
 | d' :: r, d, hd, n, hn => by
  simp only [DataW.weightsAll, List.mem_append]
  rcases List.mem_cons.1 hd with rfl | h
  ·exact .inl hn
  ·exact .inr (weightsAllV_mem h n hn)
section
variable {H : Type} {enc : TypeId × Value → H} {W : World}
theorem val_cells : Tryz.prog.cellsOf 27 = 7 := by kernel_rfl
theorem kind_cells : Tryz.prog.cellsOf 22 = 1 := by kernel_rfl
theorem boolV_cells : Tryz.prog.cellsOf 4 = 1 := by kernel_rfl
theorem i64_cells : Tryz.prog.cellsOf 2 = 1 := by kernel_rfl
theorem u64V_cells : Tryz.prog.cellsOf 23 = 1 := by kernel_rfl
theorem strV_cells : Tryz.prog.cellsOf 9 = 1 := by kernel_rfl
theorem strsV_cells : Tryz.prog.cellsOf 24 = 1 := by kernel_rfl
theorem vals_cells : Tryz.prog.cellsOf 25 = 1 := by kernel_rfl
theorem strV_bytes : Tryz.prog.bytesOf 9 = 16 := by kernel_rfl
theorem val_bytes : 16 ≤ Tryz.prog.bytesOf 27 := of_decide_eq_true (by kernel_rfl)
theorem seven {α : Type} (l : List α) (h : l.length = 7) : ∃ a b c d e f g, l = [a, b, c, d, e, f, g] := by
 match l, h with
 | [a, b, c, d, e, f, g], _ => exact ⟨a, b, c, d, e, f, g, rfl⟩
theorem add_noneV (b o k : Nat) : (⟨b, o, Option.none⟩ : Addr).add k = ⟨b, o + k, Option.none⟩ := by simp [Addr.add]
theorem itAt_of {ok : Nat → Prop} {q : Nat} : ∀ (vs : List JV) (off : Nat), (∀ i x, vs[i]? = some x → ∃ V, Cells7 W q (off + 7 * i) V ∧ JAt ok W x V) → ItAt ok W q off vs
 | [], _, _ => by rw [ItAt]; trivial
 | v :: vs, off, h => by
  rw [ItAt]
  refine ⟨by simpa using h 0 v rfl, itAt_of vs (off + 7) fun i x hx => ?_⟩
  have := h (i + 1) x (by simpa using hx)
  rwa [show off + 7 * (i + 1) = off + 7 + 7 * i by omega] at this
theorem bulk_strs : ∀ l : List ByteArray, l.length + (l.map ByteArray.size).sum ≤ Rows.uptoBulkAll (strs (H := H) l)
 | [] => by simp
 | s :: l => by
  have := bulk_strs l
  have e : strs (H := H) (s :: l) = .lit (.string s.data.toList) :: strs l := rfl
  rw [e, Rows.uptoBulkAll, Rows.uptoBulk, List.length_cons, List.map_cons, List.sum_cons]
  have h : s.data.toList.length = s.size := by simp
  omega
theorem bulk_vals (f : Nat → JV) (D : Nat → DataW H) : ∀ l : List Nat, (∀ i ∈ l, (f i).weigh ≤ Rows.uptoBulk (D i)) → JV.weighL (l.map f) ≤ Rows.uptoBulkAll (l.map D)
 | [], _ => by simp [JV.weighL]
 | i :: l, h => by
  have := bulk_vals f D l fun j hj => h j (by simp [hj])
  have := h i (by simp)
  rw [List.map_cons, List.map_cons, JV.weighL, Rows.uptoBulkAll]
  omega
theorem namesV_of_trod {fuel : Nat} {c : Value} {x : DataW H × List MemPlace} (h : DataW.trod enc Tryz.prog W 0 (fun _ => true) true fuel 24 [c] = some x) (hw : ∀ q ∈ x.1.weights Tryz.prog 24, q ≤ reachBytes) :
  ∃ a k ks, c = .slice a (ks : List ByteArray).length k ∧ StrsAt (fun _ => True) W a ks ∧ ks.length ≤ 35184372080000 ∧ (∀ s ∈ ks, s.size ≤ 140737488351232) ∧ ks.length + (ks.map ByteArray.size).sum ≤ Rows.uptoBulk x.1 := by
 rcases open_strings Tryz.underlying24 Tryz.underlying9 strV_cells h with ⟨hcs, _⟩ | ⟨ad, len, cap, ss, hcs, _, hl, hm, hz, rfl, hcell, _⟩
 ·simp at hcs
  subst hcs
  exact ⟨Option.none, 0, [], rfl, .inl rfl, by simp, by simp, by simp⟩
 ·simp at hcs
  subst hcs
  simp only [if_true] at hz
  have hlen : (ss.take len).length = len := by rw [List.length_take]; omega
  simp only [DataW.weights, Tryz.underlying24, List.mem_cons, List.mem_append] at hw
  have hb := hw _ (.inl rfl)
  rw [strV_bytes] at hb
  have hle : len ≤ (strs (H := H) (ss.take len)).length + (strs (H := H) (ss.drop len)).length := by simp [strs]; omega
  refine ⟨some ad, cap, ss.take len, by rw [hlen], ?_, by rw [hlen]; unfold reachBytes at hb; omega, fun s hs => ?_, ?_⟩
  ·by_cases h0 : len = 0
   ·exact .inl (by rw [h0, List.take_zero])
   ·have hc0 := hcell 0 (by omega)
    have hspot : ad.spot = Option.none := by
     have := World.cell?_spot hc0
     simpa [Addr.add] using this
    obtain ⟨b, off, spot⟩ := ad
    simp at hspot
    subst hspot
    refine .inr ⟨b, off, rfl, trivial, World.block_lt_of_cell? W _ hc0, fun j k hj => ?_⟩
    have hj2 := (List.getElem?_eq_some_iff.1 hj).1
    rw [hlen] at hj2
    have := hcell j (by omega)
    rw [show (⟨b, off, Option.none⟩ : Addr).add j = ⟨b, off + j, Option.none⟩ from by simp [Addr.add]] at this
    rw [this]
    rw [List.getElem?_take, if_pos hj2] at hj
    rw [List.getD_eq_getElem?_getD, hj]
    rfl
  ·have := hw s.size (.inr (.inl (weightsAllV_mem (d := .lit (.string s.data.toList)) (List.mem_map.2 ⟨s, hs, rfl⟩) _ (by simp [DataW.weights]))))
   unfold reachBytes at this
   omega
  ·rw [Rows.uptoBulk]
   have := bulk_strs (H := H) (ss.take len)
   omega
theorem val_of_trod : ∀ (N fuel : Nat) (cs : List Value) (x : DataW H × List MemPlace), SizeOf.sizeOf x.1 < N → DataW.trod enc Tryz.prog W 0 (fun _ => true) true fuel 27 cs = some x →
  (∀ q ∈ x.1.weights Tryz.prog 27, q ≤ reachBytes) → ∃ (v : JV) (c0 c1 c2 c3 c4 c5 c6 : Value), cs = [c0, c1, c2, c3, c4, c5, c6] ∧ JAt (fun _ => True) W v (.agg #[c0, c1, c2, c3, c4, c5, c6]) ∧ KOk v ∧ Rng v ∧ Loc v ∧ v.weigh ≤ Rows.uptoBulk x.1
 | 0, _, _, _, h, _, _ => by omega
 | N + 1, fuel, cs, x, hN, h, hw => by
  obtain ⟨ys, n', hn', hy, hlen, hyl, hf⟩ := DataW.trod_struct Tryz.underlying27 h
  rw [val_cells] at hlen
  obtain ⟨c0, c1, c2, c3, c4, c5, c6, rfl⟩ := seven cs hlen
  obtain ⟨y0, y1, y2, y3, y4, y5, y6, rfl⟩ := seven ys hyl
  have h0 := hf 0 _ rfl
  have h1 := hf 1 _ rfl
  have h2 := hf 2 _ rfl
  have h3 := hf 3 _ rfl
  have h4 := hf 4 _ rfl
  have h5 := hf 5 _ rfl
  have h6 := hf 6 _ rfl
  replace h0 : DataW.trod enc Tryz.prog W 0 (fun _ => true) true n' 22 (List.take (Tryz.prog.cellsOf 22) [c0, c1, c2, c3, c4, c5, c6]) = some y0 := h0
  replace h1 : DataW.trod enc Tryz.prog W 0 (fun _ => true) true n' 4 (List.take (Tryz.prog.cellsOf 4) [c1, c2, c3, c4, c5, c6]) = some y1 := h1
  replace h2 : DataW.trod enc Tryz.prog W 0 (fun _ => true) true n' 2 (List.take (Tryz.prog.cellsOf 2) [c2, c3, c4, c5, c6]) = some y2 := h2
  replace h3 : DataW.trod enc Tryz.prog W 0 (fun _ => true) true n' 23 (List.take (Tryz.prog.cellsOf 23) [c3, c4, c5, c6]) = some y3 := h3
  replace h4 : DataW.trod enc Tryz.prog W 0 (fun _ => true) true n' 9 (List.take (Tryz.prog.cellsOf 9) [c4, c5, c6]) = some y4 := h4
  replace h5 : DataW.trod enc Tryz.prog W 0 (fun _ => true) true n' 24 (List.take (Tryz.prog.cellsOf 24) [c5, c6]) = some y5 := h5
  replace h6 : DataW.trod enc Tryz.prog W 0 (fun _ => true) true n' 25 (List.take (Tryz.prog.cellsOf 25) [c6]) = some y6 := h6
  rw [kind_cells] at h0
  rw [boolV_cells] at h1
  rw [i64_cells] at h2
  rw [u64V_cells] at h3
  rw [strV_cells] at h4
  rw [strsV_cells] at h5
  rw [vals_cells] at h6
  obtain ⟨k, e0, _, w0⟩ := DataW.trod_int Tryz.underlying22 h0
  obtain ⟨b, e1, _⟩ := DataW.trod_bool Tryz.underlying4 h1
  obtain ⟨nn, e2, _, w2⟩ := DataW.trod_int Tryz.underlying2 h2
  obtain ⟨u, e3, _, w3⟩ := DataW.trod_int Tryz.underlying23 h3
  obtain ⟨s, e4, f4, w4⟩ := DataW.trod_string Tryz.underlying9 h4
  simp at e0 e1 e2 e3 e4
  subst e0 e1 e2 e3 e4
  simp only [Lit.wf, IntKind.min, IntKind.max, IntKind.signed, IntKind.bits] at w0 w2 w3
  simp at w0 w2 w3
  have hx1 : x.1 = .agg [y0.1, y1.1, y2.1, y3.1, y4.1, y5.1, y6.1] := by rw [hy]; rfl
  have hwe : ∀ (j : Nat) (t : TypeId) (d : DataW H), [22, 4, 2, 23, 9, 24, 25][j]? = some t → [y0.1, y1.1, y2.1, y3.1, y4.1, y5.1, y6.1][j]? = some d → ∀ q ∈ d.weights Tryz.prog t, q ≤ reachBytes := by
   intro j t d ht hd q hq
   refine hw q ?_
   rw [hx1]
   simp only [DataW.weights, Tryz.underlying27]
   exact DataW.weights_mem_each (j := j) (t := t) (d := d) ht hd q hq
  have hs : s.size ≤ 140737488351232 := by
   have := hwe 4 _ _ rfl rfl s.size (by rw [f4]; simp [DataW.weights])
   unfold reachBytes at this
   omega
  simp only [List.take_succ_cons, List.take_zero] at h5 h6
  obtain ⟨ka, kc, ks, rfl, hks, hkn, hkz, hkb⟩ := namesV_of_trod h5 (hwe 5 _ _ rfl rfl)
  have hw6 := hwe 6 _ _ rfl rfl
  obtain ⟨a, c, vs, rfl, hvs, hvn, hall, hvb⟩ : ∃ a c vs, c6 = .slice a (vs : List JV).length c ∧ (vs = [] ∨ ∃ q off, a = some ⟨q, off, none⟩ ∧ True ∧ q < W.heap.size ∧ ItAt (fun _ => True) W q off vs) ∧ vs.length ≤ 35184372080000 ∧ (∀ v ∈ vs, KOk v ∧ Rng v ∧ Loc v) ∧ JV.weighL vs ≤ Rows.uptoBulk y6.1 := by
   rcases open_slice Tryz.underlying25 h6 with ⟨hcs, _⟩ | ⟨ad, len, cap, m, n, D, Pl, hcs, _, hl, hm, hmm, hx, hi⟩
   ·simp at hcs
    subst hcs
    exact ⟨Option.none, 0, [], rfl, .inl rfl, by simp, by simp, by simp [JV.weighL]⟩
   ·simp at hcs
    subst hcs
    simp at hmm
    subst hmm
    have hd : y6.1 = .slice ((List.range len).map D) ((List.range (m - len)).map fun j => D (len + j)) := congrArg Prod.fst hx
    rw [hd] at hw6
    simp only [DataW.weights, Tryz.underlying25, List.mem_cons, List.mem_append] at hw6
    have hb := hw6 _ (.inl rfl)
    have hvb := val_bytes
    have hln : len * 16 ≤ reachBytes := by
     refine Nat.le_trans (Nat.mul_le_mul (by simp) hvb) hb
    have hsz : ∀ i, i < len → SizeOf.sizeOf (D i) < N := by
     intro i hi'
     have g1 : SizeOf.sizeOf (D i) < SizeOf.sizeOf ((List.range len).map D) := List.sizeOf_lt_of_mem (List.mem_map.2 ⟨i, List.mem_range.2 hi', rfl⟩)
     have g2 : SizeOf.sizeOf y6.1 = 1 + SizeOf.sizeOf ((List.range len).map D) + SizeOf.sizeOf ((List.range (m - len)).map fun j => D (len + j)) := by rw [hd, DataW.slice.sizeOf_spec]
     have g3 : SizeOf.sizeOf x.1 = 1 + SizeOf.sizeOf [y0.1, y1.1, y2.1, y3.1, y4.1, y5.1, y6.1] := by rw [hx1, DataW.agg.sizeOf_spec]
     have g4 : SizeOf.sizeOf y6.1 < SizeOf.sizeOf [y0.1, y1.1, y2.1, y3.1, y4.1, y5.1, y6.1] := List.sizeOf_lt_of_mem (by simp)
     omega
    by_cases hl0 : len = 0
    ·subst hl0
     exact ⟨some ad, m, [], rfl, .inl rfl, by simp, by simp, by simp [JV.weighL]⟩
    have hspot : ad.spot = Option.none ∧ ad.block < W.heap.size := by
     obtain ⟨cs', hc, ht⟩ := hi 0 (by omega)
     rw [val_cells] at hc
     obtain ⟨v, d0, d1, d2, d3, d4, d5, d6, rfl, _⟩ := val_of_trod N n cs' (D 0, Pl 0) (hsz 0 (by omega)) ht (fun q hq => hw6 q (.inr (.inl (weightsAllV_mem (List.mem_map.2 ⟨0, List.mem_range.2 (by omega), rfl⟩) q hq))))
     obtain ⟨_, _, hat⟩ := World.cells?_some hc
     have hc0 := hat 0 (by decide)
     have hsp : ad.spot = Option.none := by
      have := World.cell?_spot hc0
      simpa [Addr.add] using this
     obtain ⟨bb, off, spot⟩ := ad
     simp at hsp
     subst hsp
     refine ⟨rfl, World.block_lt_of_cell? W (u := d0) ⟨bb, off, Option.none⟩ ?_⟩
     rw [show ((⟨bb, off, Option.none⟩ : Addr).add (0 * 7)).add 0 = ⟨bb, off, Option.none⟩ from by simp [Addr.add]] at hc0
     exact hc0
    obtain ⟨bb, off, spot⟩ := ad
    obtain ⟨hsp, hbw⟩ := hspot
    simp only at hsp hbw
    subst hsp
    have each : ∀ i, i < len → ∃ v : JV, (∃ V, Cells7 W bb (off + 7 * i) V ∧ JAt (fun _ => True) W v V) ∧ (KOk v ∧ Rng v ∧ Loc v) ∧ v.weigh ≤ Rows.uptoBulk (D i) := by
     intro i hi'
     obtain ⟨cs', hc, ht⟩ := hi i (by omega)
     rw [val_cells] at hc
     obtain ⟨v, d0, d1, d2, d3, d4, d5, d6, rfl, hj, g1, g2, g3, g4⟩ := val_of_trod N n cs' (D i, Pl i) (hsz i hi') ht (fun q hq => hw6 q (.inr (.inl (weightsAllV_mem (List.mem_map.2 ⟨i, List.mem_range.2 hi', rfl⟩) q hq))))
     obtain ⟨_, _, hat⟩ := World.cells?_some hc
     have key : ∀ j, j < 7 → W.cell? ⟨bb, off + 7 * i + j, Option.none⟩ = [d0, d1, d2, d3, d4, d5, d6][j]? := fun j hj => by
      have := hat j hj
      rw [add_noneV, add_noneV, Nat.mul_comm i 7] at this
      exact this
     exact ⟨v, ⟨_, ⟨d0, d1, d2, d3, d4, d5, d6, rfl, key 0 (by decide), key 1 (by decide), key 2 (by decide), key 3 (by decide), key 4 (by decide), key 5 (by decide), key 6 (by decide)⟩, hj⟩, ⟨g1, g2, g3⟩, g4⟩
    obtain ⟨f, hfe⟩ : ∃ f : Nat → JV, ∀ i, i < len → (∃ V, Cells7 W bb (off + 7 * i) V ∧ JAt (fun _ => True) W (f i) V) ∧ (KOk (f i) ∧ Rng (f i) ∧ Loc (f i)) ∧ (f i).weigh ≤ Rows.uptoBulk (D i) := by
     refine ⟨fun i => if h : i < len then (each i h).choose else .mk 0 false 0 0 ⟨#[]⟩ [] [], fun i hi' => ?_⟩
     simp only [hi', dif_pos]
     exact (each i hi').choose_spec
    have hvl : ((List.range len).map f).length = len := by simp
    refine ⟨some ⟨bb, off, Option.none⟩, m, (List.range len).map f, by rw [hvl], .inr ⟨bb, off, rfl, trivial, hbw, itAt_of _ _ fun i x hx => ?_⟩, by rw [hvl]; unfold reachBytes at hln; omega, fun v hv => ?_, ?_⟩
    ·rw [List.getElem?_map, Option.map_eq_some_iff] at hx
     obtain ⟨j, hj, rfl⟩ := hx
     obtain ⟨hlt, rfl⟩ := List.getElem?_eq_some_iff.1 hj
     simp only [List.length_range] at hlt
     simp only [List.getElem_range]
     exact (hfe i hlt).1
    ·obtain ⟨i, hi', rfl⟩ := List.mem_map.1 hv
     exact (hfe i (List.mem_range.1 hi')).2.1
    ·rw [hd, Rows.uptoBulk]
     have := bulk_vals f D (List.range len) fun i hi' => (hfe i (List.mem_range.1 hi')).2.2
     omega
  refine ⟨.mk k b nn u s ks vs, _, _, _, _, _, _, _, rfl, ?_, .mk w0.1 (by omega) fun v hv => (hall v hv).1, .mk w2.1 (by omega) w3.1 (by omega) fun v hv => (hall v hv).2.1, .mk hs hkz fun v hv => (hall v hv).2.2, ?_⟩
  ·rw [JAt]
   exact ⟨ka, kc, a, c, rfl, hks, hvs, hkn, hvn⟩
  ·have hs4 : s.size ≤ Rows.uptoBulk y4.1 := by rw [f4, Rows.uptoBulk]; simp
   rw [hx1, Rows.uptoBulk, JV.weigh]
   simp only [Rows.uptoBulkAll]
   omega
theorem arg_value_at (j : Nat) {v : Value} {d : DataW H} {p : List MemPlace} {ts : List TypeId} {ds : List (DataW H)} (h : DataW.Trod enc Tryz.prog W 0 (fun _ => true) true 27 v d p)
  (hv : ∃ xs, v = .agg xs) (ht : ts[j]? = some 27) (hd : ds[j]? = some d) (hsz : (DataW.weightsEach Tryz.prog ts ds).all (· ≤ reachBytes) = true) :
  ∃ x : JV, JAt (fun _ => True) W x v ∧ KOk x ∧ Rng x ∧ Loc x ∧ x.weigh ≤ Rows.uptoBulk d := by
 obtain ⟨fuel, hf⟩ := h
 obtain ⟨xs, rfl⟩ := hv
 obtain ⟨x, c0, c1, c2, c3, c4, c5, c6, hc, hj, h1, h2, h3, h4⟩ := val_of_trod (SizeOf.sizeOf d + 1) fuel _ (d, p) (by show SizeOf.sizeOf d < _; omega) hf (fun q hq => of_decide_eq_true (List.all_eq_true.1 hsz q (DataW.weights_mem_each (j := j) (t := 27) (d := d) ht hd q hq)))
 refine ⟨x, ?_, h1, h2, h3, h4⟩
 simp only [Value.cells] at hc
 have : xs = #[c0, c1, c2, c3, c4, c5, c6] := by cases xs; simp_all
 rw [this]
 exact hj
end
end Go.Proofs.YtckaoeloofbklaaGreatDoor
namespace Go.Proofs.YtckaoeloofbklaaGreatDoor
open Go Go.RowKit Go.Lib
def lays_valid_ren : Go.Shelf.Ren := ⟨fun | 196 => 43 | 259 => 66 | n => n, fun | 0 => 0 | 3 => 3 | 4 => 4 | 5 => 5 | 9 => 9 | 12 => 12 | 46 => 103 | 53 => 23 | 119 => 99 | 138 => 101 | 139 => 102 | n => n, fun | 3 => 0 | 4 => 1 | n => n⟩
theorem lays_valid : Go.Proofs.Lays.n196 Tryz.prog lays_valid_ren := {
 mixed := by kernel_rfl
 f196 := Tryz.func43.trans (congrArg some (by kernel_rfl))
 f259 := Tryz.func66.trans (congrArg some (by kernel_rfl))
 t0 := Tryz.underlying0
 a0 := Tryz.isAgg0
 z0 := Tryz.sizeOf0
 v0 := Tryz.zeroValue0
 t3 := Tryz.underlying3
 a3 := Tryz.isAgg3
 z3 := Tryz.sizeOf3
 v3 := Tryz.zeroValue3
 t4 := Tryz.underlying4
 a4 := Tryz.isAgg4
 z4 := Tryz.sizeOf4
 v4 := Tryz.zeroValue4
 t5 := Tryz.underlying5
 a5 := Tryz.isAgg5
 z5 := Tryz.sizeOf5
 v5 := Tryz.zeroValue5
 t9 := Tryz.underlying9
 a9 := Tryz.isAgg9
 z9 := Tryz.sizeOf9
 v9 := Tryz.zeroValue9
 t12 := Tryz.underlying12
 a12 := Tryz.isAgg12
 z12 := Tryz.sizeOf12
 v12 := Tryz.zeroValue12
 t46 := Tryz.underlying103
 a46 := Tryz.isAgg103
 z46 := Tryz.sizeOf103
 v46 := Tryz.zeroValue103
 t53 := Tryz.underlying23
 a53 := Tryz.isAgg23
 z53 := Tryz.sizeOf23
 v53 := Tryz.zeroValue23
 t119 := Tryz.underlying99
 a119 := Tryz.isAgg99
 z119 := Tryz.sizeOf99
 t138 := Tryz.underlying101
 a138 := Tryz.isAgg101
 z138 := Tryz.sizeOf101
 v138 := Tryz.zeroValue101
 t139 := Tryz.underlying102
 a139 := Tryz.isAgg102
 z139 := Tryz.sizeOf102
 v139 := Tryz.zeroValue102
 g3 := by kernel_rfl
 g4 := by kernel_rfl }
end Go.Proofs.YtckaoeloofbklaaGreatDoor
