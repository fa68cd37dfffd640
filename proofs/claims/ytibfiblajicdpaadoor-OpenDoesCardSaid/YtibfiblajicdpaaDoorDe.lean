/- The law OpenDoes: from its walk to what the row says. -/
import Derived.Test.YtibfiblajicdpaaDoorQ
import Derived.Test.YtibfiblajicdpaaDoorDd
import Derived.SizedLaws
namespace Go.Proofs.YtibfiblajicdpaaDoor
open Go Go.ChangeShapes Go.WideShapes Go.ChangeAt Go.RowKit Go.WideMaps Go.WideElems Go.Deep

theorem weightsAll_mem {H : Type} {P : Program} {e : TypeId} : ∀ {l : List (DataW H)} {d : DataW H}, d ∈ l → ∀ n ∈ d.weights P e, n ∈ DataW.weightsAll P e l
  | d' :: r, d, hd, n, hn => by
    simp only [DataW.weightsAll, List.mem_append]
    rcases List.mem_cons.1 hd with rfl | h
    · exact .inl hn
    · exact .inr (weightsAll_mem h n hn)

section
variable {H : Type} {enc : TypeId × Value → H} {W : World}

theorem act_cells : Tryd.prog.cellsOf 51 = 8 := by kernel_rfl
theorem scope_cells : Tryd.prog.cellsOf 32 = 1 := by kernel_rfl
theorem bool_cells : Tryd.prog.cellsOf 4 = 1 := by kernel_rfl
theorem strs_cells : Tryd.prog.cellsOf 23 = 1 := by kernel_rfl
theorem str_bytes : Tryd.prog.bytesOf 9 = 16 := by kernel_rfl

theorem eight {α : Type} (l : List α) (h : l.length = 8) : ∃ a b c d e f g i, l = [a, b, c, d, e, f, g, i] := by
  match l, h with
  | [a, b, c, d, e, f, g, i], _ => exact ⟨a, b, c, d, e, f, g, i, rfl⟩
theorem six {α : Type} (l : List α) (h : l.length = 6) : ∃ a b c d e f, l = [a, b, c, d, e, f] := by
  match l, h with
  | [a, b, c, d, e, f], _ => exact ⟨a, b, c, d, e, f, rfl⟩

/-- names, and what they weigh -/
theorem names_of_trod {fuel : Nat} {c : Value} {x : DataW H × List MemPlace} (h : DataW.trod enc Tryd.prog W 0 (fun _ => true) true fuel 23 [c] = some x) :
    ∃ a n k ns, c = .slice a n k ∧ StrsAt W (.slice a n k) ns ∧ (ns = [] ∨ ∃ q ∈ x.1.weights Tryd.prog 23, ns.length * 16 ≤ q) := by
  rcases open_strings Tryd.underlying23 Tryd.underlying9 str_cells h with ⟨hcs, _⟩ | ⟨ad, len, cap, ss, hcs, _, hl, hm, hz, rfl, hcell, _⟩
  · simp at hcs
    subst hcs
    exact ⟨_, _, _, [], rfl, .inl ⟨rfl, _, _, rfl⟩, .inl rfl⟩
  · simp at hcs
    subst hcs
    by_cases h0 : len = 0
    · subst h0
      exact ⟨_, _, _, [], rfl, .inl ⟨rfl, _, _, rfl⟩, .inl rfl⟩
    · simp at hz
      have hc0 := hcell 0 (by omega)
      have hspot : ad.spot = Option.none := by
        have := World.cell?_spot hc0
        simpa [Addr.add] using this
      obtain ⟨b, off, spot⟩ := ad
      simp at hspot
      subst hspot
      have hlen : (ss.take len).length = len := by simp; omega
      refine ⟨_, _, _, ss.take len, rfl, .inr ⟨b, off, cap, by rw [hlen], ?_, by rw [hlen]; unfold maxLen at hm; omega, by rw [hlen]; omega, ?_⟩, .inr ⟨cap * 16, ?_, by rw [hlen]; omega⟩⟩
      · exact World.block_lt_of_cell? W _ hc0
      · intro j hj
        rw [hlen] at hj
        have := hcell j (by omega)
        rw [show (⟨b, off, Option.none⟩ : Addr).add j = ⟨b, off + j, Option.none⟩ from by simp [Addr.add]] at this
        rw [this]
        simp only [List.getD_eq_getElem?_getD, List.getElem?_take, hj, if_true]
      · simp only [DataW.weights, Tryd.underlying23, List.mem_cons]
        left
        rw [str_bytes]
        congr 1
        simp [strs]
        omega

/-- an act, read cell by cell -/
theorem act_of_trod {fuel : Nat} {cs : List Value} {x : DataW H × List MemPlace} (h : DataW.trod enc Tryd.prog W 0 (fun _ => true) true fuel 51 cs = some x) :
    ∃ a : AcN, cs = a.cells ∧ StrsAt W (.slice a.na a.nn a.nc) a.ns ∧ (a.ns = [] ∨ ∃ q ∈ x.1.weights Tryd.prog 51, a.ns.length * 16 ≤ q) := by
  obtain ⟨ys, n', hn', hy, hlen, hyl, hf⟩ := DataW.trod_struct Tryd.underlying51 h
  rw [act_cells] at hlen
  obtain ⟨c0, c1, c2, c3, c4, c5, c6, c7, rfl⟩ := eight cs hlen
  obtain ⟨y0, y1, y2, y3, y4, y5, rfl⟩ := six ys hyl
  have h0 := hf 0 _ rfl
  have h1 := hf 1 _ rfl
  have h2 := hf 2 _ rfl
  have h3 := hf 3 _ rfl
  have h4 := hf 4 _ rfl
  have h5 := hf 5 _ rfl
  replace h0 : DataW.trod enc Tryd.prog W 0 (fun _ => true) true n' 3 (List.take (Tryd.prog.cellsOf 3) [c0, c1, c2, c3, c4, c5, c6, c7]) = some y0 := h0
  replace h1 : DataW.trod enc Tryd.prog W 0 (fun _ => true) true n' 30 (List.take (Tryd.prog.cellsOf 30) [c1, c2, c3, c4, c5, c6, c7]) = some y1 := h1
  replace h2 : DataW.trod enc Tryd.prog W 0 (fun _ => true) true n' 3 (List.take (Tryd.prog.cellsOf 3) [c4, c5, c6, c7]) = some y2 := h2
  replace h3 : DataW.trod enc Tryd.prog W 0 (fun _ => true) true n' 32 (List.take (Tryd.prog.cellsOf 32) [c5, c6, c7]) = some y3 := h3
  replace h4 : DataW.trod enc Tryd.prog W 0 (fun _ => true) true n' 23 (List.take (Tryd.prog.cellsOf 23) [c6, c7]) = some y4 := h4
  replace h5 : DataW.trod enc Tryd.prog W 0 (fun _ => true) true n' 4 (List.take (Tryd.prog.cellsOf 4) [c7]) = some y5 := h5
  rw [int_cells] at h0 h2
  rw [el_cells] at h1
  rw [scope_cells] at h3
  rw [strs_cells] at h4
  rw [bool_cells] at h5
  obtain ⟨a, e0, _, _⟩ := DataW.trod_int Tryd.underlying3 h0
  obtain ⟨e, e1, _⟩ := el_of_trod h1
  obtain ⟨b, e2, _, _⟩ := DataW.trod_int Tryd.underlying3 h2
  obtain ⟨s, e3, _, _⟩ := DataW.trod_int Tryd.underlying32 h3
  obtain ⟨va, vn, vc, ns, e4, hst, hw⟩ := names_of_trod h4
  obtain ⟨o, e5, _⟩ := DataW.trod_bool Tryd.underlying4 h5
  simp at e0 e1 e2 e3 e5
  obtain ⟨rfl, rfl, rfl⟩ := e1
  subst e0 e2 e3 e4 e5
  refine ⟨⟨⟨a, e, b, s, o⟩, va, vn, vc, ns⟩, rfl, hst, hw.imp id ?_⟩
  rintro ⟨q, hq, hle⟩
  refine ⟨q, ?_, hle⟩
  rw [hy]
  simp only [DataW.weights, Tryd.underlying51]
  exact DataW.weights_mem_each (j := 4) (t := 23) (d := y4.1) rfl rfl q hq

theorem acts_of_trod {a : Option Addr} {len cap : Nat} {d : DataW H} {p : List MemPlace} {ts : List TypeId} (h : DataW.Trod enc Tryd.prog W 0 (fun _ => true) true 45 (.slice a len cap) d p)
    (hsz : (DataW.weightsEach Tryd.prog (45 :: ts) (d :: [])).all (· ≤ reachBytes) = true) :
    ∃ l, ActsAt W (.slice a len cap) l := by
  obtain ⟨fuel, hf⟩ := h
  rcases open_slice Tryd.underlying45 hf with ⟨hcs, _⟩ | ⟨ad, len', cap', m, n, D, Pl, hcs, _, hl, hm, hmm, hx, hi⟩
  · simp [Value.cells] at hcs
    obtain ⟨rfl, rfl, rfl⟩ := hcs
    exact ⟨[], .inl ⟨rfl, _, _, rfl⟩⟩
  · simp [Value.cells] at hcs
    obtain ⟨rfl, rfl, rfl⟩ := hcs
    by_cases h0 : len = 0
    · subst h0
      exact ⟨[], .inl ⟨rfl, _, _, rfl⟩⟩
    · simp at hmm
      subst hmm
      have hd := congrArg Prod.fst hx
      simp only at hd
      have each : ∀ i, i < len → ∃ e : AcN, (∀ j v, e.cells[j]? = some v → W.cell? ((ad.add (i * 8)).add j) = some v) ∧ StrsAt W (.slice e.na e.nn e.nc) e.ns ∧ e.ns.length * 16 ≤ 140737488355328 := by
        intro i hi'
        obtain ⟨cs', hc, ht⟩ := hi i (by omega)
        rw [act_cells] at hc
        obtain ⟨e, rfl, hst, hw⟩ := act_of_trod ht
        obtain ⟨_, _, hat⟩ := World.cells?_some hc
        refine ⟨e, fun j v hv => ?_, hst, ?_⟩
        · have hj : j < 8 := (List.getElem?_eq_some_iff.1 hv).1
          rw [hat j hj, hv]
        · rcases hw with hw | ⟨q, hq, hle⟩
          · rw [hw]; simp
          · have hq2 : q ∈ d.weights Tryd.prog 45 := by
              rw [hd]
              simp only [DataW.weights, Tryd.underlying45, List.mem_cons, List.mem_append]
              exact .inr (.inl (weightsAll_mem (List.mem_map.2 ⟨i, List.mem_range.2 hi', rfl⟩) q hq))
            have := of_decide_eq_true (List.all_eq_true.1 hsz q (DataW.weights_mem_each (j := 0) (t := 45) (d := d) rfl rfl q hq2))
            unfold reachBytes at this
            omega
      obtain ⟨f, hfe⟩ : ∃ f : Nat → AcN, ∀ i, i < len → (∀ j v, (f i).cells[j]? = some v → W.cell? ((ad.add (i * 8)).add j) = some v) ∧ StrsAt W (.slice (f i).na (f i).nn (f i).nc) (f i).ns ∧ (f i).ns.length * 16 ≤ 140737488355328 := by
        refine ⟨fun i => if h : i < len then (each i h).choose else ⟨⟨0, El.none, 0, 0, false⟩, Option.none, 0, 0, []⟩, fun i hi' => ?_⟩
        simp only [hi', dif_pos]
        exact (each i hi').choose_spec
      have hc0 := (hfe 0 (by omega)).1 0 _ rfl
      have hspot : ad.spot = Option.none := by
        have := World.cell?_spot hc0
        simpa [Addr.add] using this
      obtain ⟨b, off, spot⟩ := ad
      simp at hspot
      subst hspot
      refine ⟨(List.range len).map f, .inr ⟨b, off, _, by simp; rfl, World.block_lt_of_cell? W _ hc0, by simp; omega, ?_⟩⟩
      intro j x hx
      simp only [List.getElem?_map, Option.map_eq_some_iff] at hx
      obtain ⟨i, hi', rfl⟩ := hx
      obtain ⟨hlt, rfl⟩ := List.getElem?_eq_some_iff.1 hi'
      simp only [List.length_range] at hlt
      simp only [List.getElem_range]
      obtain ⟨g1, g2, g3⟩ := hfe j hlt
      refine ⟨fun k v hv => ?_, g2, g3⟩
      have := g1 k v hv
      rwa [add_none, add_none] at this
end
end Go.Proofs.YtibfiblajicdpaaDoor
