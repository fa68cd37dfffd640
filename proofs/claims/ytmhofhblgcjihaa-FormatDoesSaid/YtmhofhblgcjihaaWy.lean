/- Acts that came in. -/
import Derived.Test.YtmhofhblgcjihaaZy
import Derived.Test.YtmhofhblgcjihaaWm
import Derived.SizedLaws
namespace Go.Proofs.Ytmhofhblgcjihaa
open Go Go.ChangeShapes Go.WideShapes Go.ChangeAt Go.RowKit Go.WideMaps Go.WideElems Go.Deep

theorem weightsAll_mem {H : Type} {P : Program} {e : TypeId} : ∀ {l : List (DataW H)} {d : DataW H}, d ∈ l → ∀ n ∈ d.weights P e, n ∈ DataW.weightsAll P e l
  | d' :: r, d, hd, n, hn => by
    simp only [DataW.weightsAll, List.mem_append]
    rcases List.mem_cons.1 hd with rfl | h
    · exact .inl hn
    · exact .inr (weightsAll_mem h n hn)

section
variable {H : Type} {enc : TypeId × Value → H} {W : World}

theorem act_cells : Try.prog.cellsOf 54 = 7 := by kernel_rfl
theorem el_cells : Try.prog.cellsOf 29 = 3 := by kernel_rfl
theorem at_cells : Try.prog.cellsOf 34 = 3 := by kernel_rfl
theorem ats_cells : Try.prog.cellsOf 35 = 1 := by kernel_rfl
theorem ints_cells : Try.prog.cellsOf 22 = 1 := by kernel_rfl
theorem str_cells : Try.prog.cellsOf 9 = 1 := by kernel_rfl
theorem at_bytes : Try.prog.bytesOf 34 = 48 := by kernel_rfl
theorem int_bytes : Try.prog.bytesOf 3 = 8 := by kernel_rfl

theorem three {α : Type} (l : List α) (h : l.length = 3) : ∃ a b c, l = [a, b, c] := by
  match l, h with
  | [a, b, c], _ => exact ⟨a, b, c, rfl⟩

theorem seven {α : Type} (l : List α) (h : l.length = 7) : ∃ a b c d e f g, l = [a, b, c, d, e, f, g] := by
  match l, h with
  | [a, b, c, d, e, f, g], _ => exact ⟨a, b, c, d, e, f, g, rfl⟩
theorem five {α : Type} (l : List α) (h : l.length = 5) : ∃ a b c d e, l = [a, b, c, d, e] := by
  match l, h with
  | [a, b, c, d, e], _ => exact ⟨a, b, c, d, e, rfl⟩

theorem el_of_trod {base : Nat} {sp : Nat → Bool} {held : Bool} {fuel : Nat} {cs : List Value} {x : DataW H × List MemPlace} (h : DataW.trod enc Try.prog W base sp held fuel 29 cs = some x) :
    ∃ e : El, cs = [.int .i64 e.id, .string e.sp, .string e.nm] ∧ (Lit.int .i64 e.id).wf = true ∧ e.sp.size ≤ maxLen ∧ e.nm.size ≤ maxLen := by
  obtain ⟨ys, n', hn', hy, hlen, hyl, hf⟩ := DataW.trod_struct Try.underlying29 h
  rw [el_cells] at hlen
  obtain ⟨c0, c1, c2, rfl⟩ := three cs hlen
  have h0 := hf 0 _ rfl
  have h1 := hf 1 _ rfl
  have h2 := hf 2 _ rfl
  obtain ⟨y0, y1, y2, rfl⟩ := three ys hyl
  replace h0 : DataW.trod enc Try.prog W base sp held n' 3 (List.take (Try.prog.cellsOf 3) [c0, c1, c2]) = some y0 := h0
  replace h1 : DataW.trod enc Try.prog W base sp held n' 9 (List.take (Try.prog.cellsOf 9) [c1, c2]) = some y1 := h1
  replace h2 : DataW.trod enc Try.prog W base sp held n' 9 (List.take (Try.prog.cellsOf 9) [c2]) = some y2 := h2
  rw [int_cells] at h0
  rw [str_cells] at h1 h2
  obtain ⟨a, e0, _, wa⟩ := DataW.trod_int Try.underlying3 h0
  obtain ⟨s1, e1, _, w1⟩ := DataW.trod_string Try.underlying9 h1
  obtain ⟨s2, e2, _, w2⟩ := DataW.trod_string Try.underlying9 h2
  simp at e0 e1 e2
  subst e0 e1 e2
  exact ⟨⟨a, s1, s2⟩, rfl, wa, w1, w2⟩

/-- an attribute -/
theorem at_of_trod {base : Nat} {sp : Nat → Bool} {held : Bool} {fuel : Nat} {cs : List Value} {x : DataW H × List MemPlace} (h : DataW.trod enc Try.prog W base sp held fuel 34 cs = some x) :
    ∃ e : At, cs = [.string e.sp, .string e.nm, .string e.va] ∧ e.sp.size ≤ maxLen ∧ e.nm.size ≤ maxLen ∧ e.va.size ≤ maxLen := by
  obtain ⟨ys, n', hn', hy, hlen, hyl, hf⟩ := DataW.trod_struct Try.underlying34 h
  rw [at_cells] at hlen
  obtain ⟨c0, c1, c2, rfl⟩ := three cs hlen
  have h0 := hf 0 _ rfl
  have h1 := hf 1 _ rfl
  have h2 := hf 2 _ rfl
  obtain ⟨y0, y1, y2, rfl⟩ := three ys hyl
  replace h0 : DataW.trod enc Try.prog W base sp held n' 9 (List.take (Try.prog.cellsOf 9) [c0, c1, c2]) = some y0 := h0
  replace h1 : DataW.trod enc Try.prog W base sp held n' 9 (List.take (Try.prog.cellsOf 9) [c1, c2]) = some y1 := h1
  replace h2 : DataW.trod enc Try.prog W base sp held n' 9 (List.take (Try.prog.cellsOf 9) [c2]) = some y2 := h2
  rw [str_cells] at h0 h1 h2
  obtain ⟨s0, e0, _, w0⟩ := DataW.trod_string Try.underlying9 h0
  obtain ⟨s1, e1, _, w1⟩ := DataW.trod_string Try.underlying9 h1
  obtain ⟨s2, e2, _, w2⟩ := DataW.trod_string Try.underlying9 h2
  simp at e0 e1 e2
  subst e0 e1 e2
  exact ⟨⟨s0, s1, s2⟩, rfl, w0, w1, w2⟩

/-- attributes, and what they weigh -/
theorem ats_of_trod {fuel : Nat} {c : Value} {x : DataW H × List MemPlace} (hf : DataW.trod enc Try.prog W 0 (fun _ => true) true fuel 35 [c] = some x) :
    ∃ a k l, c = .slice a l.length k ∧ AtsAt W (.slice a l.length k) l ∧ (l = [] ∨ ∃ q ∈ x.1.weights Try.prog 35, l.length * 48 ≤ q) := by
  rcases open_slice Try.underlying35 hf with ⟨hcs, _⟩ | ⟨ad, len, cap, m, n, D, Pl, hcs, _, hl, hm, hmm, hx, hi⟩
  · simp at hcs
    subst hcs
    exact ⟨_, _, [], rfl, .inl ⟨rfl, _, _, rfl⟩, .inl rfl⟩
  · simp at hcs
    subst hcs
    by_cases h0 : len = 0
    · subst h0
      exact ⟨_, _, [], rfl, .inl ⟨rfl, _, _, rfl⟩, .inl rfl⟩
    · simp at hmm
      subst hmm
      have hd := congrArg Prod.fst hx
      simp only at hd
      have each : ∀ i, i < len → ∃ e : At, ∀ j v, [Value.string e.sp, .string e.nm, .string e.va][j]? = some v → W.cell? ((ad.add (i * 3)).add j) = some v := by
        intro i hi'
        obtain ⟨cs', hc, ht⟩ := hi i (by omega)
        rw [at_cells] at hc
        obtain ⟨e, rfl, _, b1, b2⟩ := at_of_trod ht
        obtain ⟨_, _, hat⟩ := World.cells?_some hc
        refine ⟨e, fun j v hv => ?_⟩
        have hj : j < 3 := (List.getElem?_eq_some_iff.1 hv).1
        rw [hat j hj, hv]
      obtain ⟨f, hfe⟩ : ∃ f : Nat → At, ∀ i, i < len → ∀ j v, [Value.string (f i).sp, .string (f i).nm, .string (f i).va][j]? = some v → W.cell? ((ad.add (i * 3)).add j) = some v := by
        refine ⟨fun i => if h : i < len then (each i h).choose else ⟨⟨#[]⟩, ⟨#[]⟩, ⟨#[]⟩⟩, fun i hi' => ?_⟩
        simp only [hi', dif_pos]
        exact (each i hi').choose_spec
      have hspot : ad.spot = Option.none := by
        have := World.cell?_spot (hfe 0 (by omega) 0 _ rfl)
        simpa [Addr.add] using this
      obtain ⟨b, off, spot⟩ := ad
      simp at hspot
      subst hspot
      have hcell : ∀ i, i < len → ∀ j v, [Value.string (f i).sp, .string (f i).nm, .string (f i).va][j]? = some v → W.cell? ⟨b, off + i * 3 + j, Option.none⟩ = some v := fun i hi' j v hv => by
        have := hfe i hi' j v hv
        rwa [add_none, add_none] at this
      have hlen : ((List.range len).map f).length = len := by simp
      refine ⟨some ⟨b, off, Option.none⟩, m, (List.range len).map f, by rw [hlen], .inr ⟨b, off, m, rfl, ?_, by rw [hlen]; omega, ?_, ?_⟩, .inr ⟨m * 48, ?_, by rw [hlen]; omega⟩⟩
      · exact World.block_lt_of_cell? W _ (hcell 0 (by omega) 0 _ rfl)
      · rw [hlen]; unfold maxLen at hm; omega
      · intro j x hx
        simp only [List.getElem?_map, Option.map_eq_some_iff] at hx
        obtain ⟨i, hi', rfl⟩ := hx
        obtain ⟨hlt, rfl⟩ := List.getElem?_eq_some_iff.1 hi'
        simp only [List.length_range] at hlt
        simp only [List.getElem_range]
        exact ⟨hcell j hlt 0 _ rfl, hcell j hlt 1 _ rfl, hcell j hlt 2 _ rfl⟩
      · rw [hd]
        simp only [DataW.weights, Try.underlying35, List.mem_cons]
        left
        rw [at_bytes]
        congr 1
        simp
        omega

/-- numbers, and what they weigh -/
theorem nums_of_trod {fuel : Nat} {c : Value} {x : DataW H × List MemPlace} (hf : DataW.trod enc Try.prog W 0 (fun _ => true) true fuel 22 [c] = some x) :
    ∃ a k l, c = .slice a l.length k ∧ IntsAt W (.slice a l.length k) l ∧ (l = [] ∨ ∃ q ∈ x.1.weights Try.prog 22, l.length * 8 ≤ q) := by
  rcases open_ints Try.underlying22 Try.underlying3 int_cells hf with ⟨hcs, _⟩ | ⟨ad, len, cap, zs, hcs, _, hl, hm, hz, rfl, hcell, _⟩
  · simp at hcs
    subst hcs
    exact ⟨_, _, [], rfl, .inl ⟨rfl, _, _, rfl⟩, .inl rfl⟩
  · simp at hcs
    subst hcs
    by_cases h0 : len = 0
    · subst h0
      exact ⟨_, _, [], rfl, .inl ⟨rfl, _, _, rfl⟩, .inl rfl⟩
    · simp only [if_true] at hz
      have hc0 := hcell 0 (by omega)
      have hspot : ad.spot = Option.none := by
        have := World.cell?_spot hc0
        simpa [Addr.add] using this
      obtain ⟨b, off, spot⟩ := ad
      simp at hspot
      subst hspot
      have hlen : (zs.take len).length = len := by simp; omega
      refine ⟨some ⟨b, off, Option.none⟩, cap, zs.take len, by rw [hlen], .inr ⟨b, off, cap, rfl, ?_, by rw [hlen]; unfold maxLen at hm; omega, ?_⟩, .inr ⟨cap * 8, ?_, by rw [hlen]; omega⟩⟩
      · exact World.block_lt_of_cell? W _ hc0
      · intro j y hy
        rw [List.getElem?_take] at hy
        split at hy
        · have hj : j < zs.length := (List.getElem?_eq_some_iff.1 hy).1
          have := hcell j hj
          rw [add_none] at this
          rw [this, List.getD_eq_getElem?_getD, hy]; rfl
        · cases hy
      · simp only [DataW.weights, Try.underlying22, List.mem_cons]
        left
        rw [int_bytes]
        congr 1
        simp [lits]
        omega

/-- an act in memory -/
structure AcN where
  kind : Int
  e : El
  aa : Option Addr
  ac : Nat
  ats : List At
  n : Int
  oa : Option Addr
  oc : Nat
  op : List Int

def AcN.cells (x : AcN) : List Value := [.int .i64 x.kind, .int .i64 x.e.id, .string x.e.sp, .string x.e.nm, .slice x.aa x.ats.length x.ac, .int .i64 x.n, .slice x.oa x.op.length x.oc]

/-- the slice value v holds the acts l -/
def ActsAt (w : World) (v : Value) (l : List AcN) : Prop :=
  (l = [] ∧ ∃ a c, v = .slice a 0 c) ∨
  (∃ b off c, v = .slice (some ⟨b, off, Option.none⟩) l.length c ∧ b < w.heap.size ∧ 0 < l.length ∧
    ∀ j x, l[j]? = some x → (∀ i u, x.cells[i]? = some u → w.cell? ⟨b, off + j * 7 + i, Option.none⟩ = some u) ∧ ActAt w (.slice x.aa x.ats.length x.ac) x.ats (.slice x.oa x.op.length x.oc) x.op)

theorem act_of_trod {fuel : Nat} {cs : List Value} {x : DataW H × List MemPlace} (h : DataW.trod enc Try.prog W 0 (fun _ => true) true fuel 54 cs = some x) :
    ∃ a : AcN, cs = a.cells ∧ (AtsAt W (.slice a.aa a.ats.length a.ac) a.ats ∧ IntsAt W (.slice a.oa a.op.length a.oc) a.op) ∧ (a.ats = [] ∨ ∃ q ∈ x.1.weights Try.prog 54, a.ats.length * 48 ≤ q) ∧ (a.op = [] ∨ ∃ q ∈ x.1.weights Try.prog 54, a.op.length * 8 ≤ q) := by
  obtain ⟨ys, n', hn', hy, hlen, hyl, hf⟩ := DataW.trod_struct Try.underlying54 h
  rw [act_cells] at hlen
  obtain ⟨c0, c1, c2, c3, c4, c5, c6, rfl⟩ := seven cs hlen
  obtain ⟨y0, y1, y2, y3, y4, rfl⟩ := five ys hyl
  have h0 := hf 0 _ rfl
  have h1 := hf 1 _ rfl
  have h2 := hf 2 _ rfl
  have h3 := hf 3 _ rfl
  have h4 := hf 4 _ rfl
  replace h0 : DataW.trod enc Try.prog W 0 (fun _ => true) true n' 3 (List.take (Try.prog.cellsOf 3) [c0, c1, c2, c3, c4, c5, c6]) = some y0 := h0
  replace h1 : DataW.trod enc Try.prog W 0 (fun _ => true) true n' 29 (List.take (Try.prog.cellsOf 29) [c1, c2, c3, c4, c5, c6]) = some y1 := h1
  replace h2 : DataW.trod enc Try.prog W 0 (fun _ => true) true n' 35 (List.take (Try.prog.cellsOf 35) [c4, c5, c6]) = some y2 := h2
  replace h3 : DataW.trod enc Try.prog W 0 (fun _ => true) true n' 3 (List.take (Try.prog.cellsOf 3) [c5, c6]) = some y3 := h3
  replace h4 : DataW.trod enc Try.prog W 0 (fun _ => true) true n' 22 (List.take (Try.prog.cellsOf 22) [c6]) = some y4 := h4
  rw [int_cells] at h0 h3
  rw [el_cells] at h1
  rw [ats_cells] at h2
  rw [ints_cells] at h4
  obtain ⟨a, e0, _, _⟩ := DataW.trod_int Try.underlying3 h0
  obtain ⟨e, e1, _⟩ := el_of_trod h1
  obtain ⟨va, vc, vl, e2, hva, hwa⟩ := ats_of_trod h2
  obtain ⟨b, e3, _, _⟩ := DataW.trod_int Try.underlying3 h3
  obtain ⟨oa, oc, ol, e4, hoa, hwo⟩ := nums_of_trod h4
  simp at e0 e1 e3
  obtain ⟨rfl, rfl, rfl⟩ := e1
  subst e0 e2 e3 e4
  refine ⟨⟨a, e, va, vc, vl, b, oa, oc, ol⟩, rfl, ⟨hva, hoa⟩, hwa.imp id ?_, hwo.imp id ?_⟩
  · rintro ⟨q, hq, hle⟩
    refine ⟨q, ?_, hle⟩
    rw [hy]
    simp only [DataW.weights, Try.underlying54]
    exact DataW.weights_mem_each (j := 2) (t := 35) (d := y2.1) rfl rfl q hq
  · rintro ⟨q, hq, hle⟩
    refine ⟨q, ?_, hle⟩
    rw [hy]
    simp only [DataW.weights, Try.underlying54]
    exact DataW.weights_mem_each (j := 4) (t := 22) (d := y4.1) rfl rfl q hq

theorem acts_of_trod {a : Option Addr} {len cap : Nat} {d : DataW H} {p : List MemPlace} {ts : List TypeId} (h : DataW.Trod enc Try.prog W 0 (fun _ => true) true 49 (.slice a len cap) d p)
    (hsz : (DataW.weightsEach Try.prog (49 :: ts) (d :: [])).all (· ≤ reachBytes) = true) :
    ∃ l, ActsAt W (.slice a len cap) l := by
  obtain ⟨fuel, hf⟩ := h
  rcases open_slice Try.underlying49 hf with ⟨hcs, _⟩ | ⟨ad, len', cap', m, n, D, Pl, hcs, _, hl, hm, hmm, hx, hi⟩
  · simp [Value.cells] at hcs
    obtain ⟨rfl, rfl, rfl⟩ := hcs
    exact ⟨[], .inl ⟨rfl, _, _, rfl⟩⟩
  · simp [Value.cells] at hcs
    obtain ⟨rfl, rfl, rfl⟩ := hcs
    by_cases h0 : len = 0
    · subst h0
      exact ⟨[], .inl ⟨rfl, _, _, rfl⟩⟩
    · simp at hmm
      subst hmm
      have hd := congrArg Prod.fst hx
      simp only at hd
      have each : ∀ i, i < len → ∃ e : AcN, (∀ j v, e.cells[j]? = some v → W.cell? ((ad.add (i * 7)).add j) = some v) ∧ ActAt W (.slice e.aa e.ats.length e.ac) e.ats (.slice e.oa e.op.length e.oc) e.op := by
        intro i hi'
        obtain ⟨cs', hc, ht⟩ := hi i (by omega)
        rw [act_cells] at hc
        obtain ⟨e, rfl, ⟨hva, hoa⟩, hwa, hwo⟩ := act_of_trod ht
        obtain ⟨_, _, hat⟩ := World.cells?_some hc
        have hq2 : ∀ q ∈ (D i).weights Try.prog 54, q ≤ 140737488355328 := fun q hq => by
          have hq2 : q ∈ d.weights Try.prog 49 := by
            rw [hd]
            simp only [DataW.weights, Try.underlying49, List.mem_cons, List.mem_append]
            exact .inr (.inl (weightsAll_mem (List.mem_map.2 ⟨i, List.mem_range.2 hi', rfl⟩) q hq))
          have := of_decide_eq_true (List.all_eq_true.1 hsz q (DataW.weights_mem_each (j := 0) (t := 49) (d := d) rfl rfl q hq2))
          unfold reachBytes at this
          omega
        refine ⟨e, fun j v hv => ?_, hva, ?_, hoa, ?_⟩
        · have hj : j < 7 := (List.getElem?_eq_some_iff.1 hv).1
          rw [hat j hj, hv]
        · rcases hwa with hw | ⟨q, hq, hle⟩
          · rw [hw]; simp
          · have := hq2 q hq; omega
        · rcases hwo with hw | ⟨q, hq, hle⟩
          · rw [hw]; simp
          · have := hq2 q hq; omega
      obtain ⟨f, hfe⟩ : ∃ f : Nat → AcN, ∀ i, i < len → (∀ j v, (f i).cells[j]? = some v → W.cell? ((ad.add (i * 7)).add j) = some v) ∧ ActAt W (.slice (f i).aa (f i).ats.length (f i).ac) (f i).ats (.slice (f i).oa (f i).op.length (f i).oc) (f i).op := by
        refine ⟨fun i => if h : i < len then (each i h).choose else ⟨0, El.none, Option.none, 0, [], 0, Option.none, 0, []⟩, fun i hi' => ?_⟩
        simp only [hi', dif_pos]
        exact (each i hi').choose_spec
      have hc0 := (hfe 0 (by omega)).1 0 _ rfl
      have hspot : ad.spot = Option.none := by
        have := World.cell?_spot hc0
        simpa [Addr.add] using this
      obtain ⟨b, off, spot⟩ := ad
      simp at hspot
      subst hspot
      refine ⟨(List.range len).map f, .inr ⟨b, off, _, by simp; rfl, World.block_lt_of_cell? W _ hc0, by simp; omega, ?_⟩⟩
      intro j x hx
      simp only [List.getElem?_map, Option.map_eq_some_iff] at hx
      obtain ⟨i, hi', rfl⟩ := hx
      obtain ⟨hlt, rfl⟩ := List.getElem?_eq_some_iff.1 hi'
      simp only [List.length_range] at hlt
      simp only [List.getElem_range]
      obtain ⟨g1, g2⟩ := hfe j hlt
      refine ⟨fun k v hv => ?_, g2⟩
      have := g1 k v hv
      rwa [add_none, add_none] at this
end
end Go.Proofs.Ytmhofhblgcjihaa
