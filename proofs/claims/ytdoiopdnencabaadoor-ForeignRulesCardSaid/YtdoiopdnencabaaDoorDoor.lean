/- From the rows' conditions to what the walks ask: the table of blanks; attributes, elements and tokens that came in. -/
import Derived.Test.YtdoiopdnencabaaDoorRows
import Derived.Test.YtdoiopdnencabaaDoorFo
import Derived.ProofKit
import Derived.LaidMore
import Derived.OpenShut
import Derived.Stop.Joined
import Derived.SliceStrings
import Derived.Deep.Slices
import Derived.Lib.LaidU8
import Derived.SevenTiedAt
import Derived.Carry
namespace Go.Proofs.YtdoiopdnencabaaDoor
open Go Go.ChangeShapes Go.WideShapes Go.ChangeAt Go.RowKit Go.WideMaps Go.WideElems Go.Deep

theorem own : ownKnob Tryd.prog.godebug = Option.none := by kernel_rfl
theorem laidOut : laidOutB Tryd.prog = true := by kernel_rfl

def laidL : List (String × DataW Unit) := [("unicode.White_Space", Rows.laid_unicode_White_Space), ("strings.asciiSpace", Rows.laid_strings_asciiSpace)]

theorem tab_datum : (Rows.laid_strings_asciiSpace : DataW Unit) = Lib.tabData .u8 Lib.asciiSpaceTab := by kernel_rfl
theorem tab_type : (Tryd.prog.globals[0]?).map (·.type) = some 59 := by kernel_rfl
theorem tab_cells : Tryd.prog.cellsOf 59 = 256 := by kernel_rfl
theorem u8_cells : Tryd.prog.cellsOf 5 = 1 := by kernel_rfl

theorem glob_of_laid {W : World} (h : laidMetH Tryd.prog laidL W) : Glob W := by
  rw [MakeChecks.laidMetH_plain _ _ _ (by kernel_rfl)] at h
  obtain ⟨g, t, cs, fuel, p, hg, ht, hv, hd⟩ := Lib.laidMet.reads h (n := "strings.asciiSpace") (d := Rows.laid_strings_asciiSpace) (by simp [laidL])
  obtain rfl := Option.some.inj (glob_num.symm.trans hg)
  obtain rfl := Option.some.inj (tab_type.symm.trans ht)
  unfold Glob Lib.TabIs
  rw [tab_datum] at hd
  rw [hv, ← Lib.cells_of_tab Tryd.underlying59 Tryd.underlying5 u8_cells tab_cells hd]

theorem door_met (os : Os) (args : Array Value) : laidMetH Tryd.prog laidL ((World.doorLaid Tryd.prog 33 os).forCall (fun _ _ => 0) ⟨#[], args, []⟩).memory :=
  laidMetH_of_parts3 (fuel := 8) (laidMet_of_run' 8 (by kernel_rfl) (by kernel_rfl)) (by kernel_rfl) (by kernel_rfl)

section
variable {H : Type} {enc : TypeId × Value → H} {W : World}

theorem el_cells : Tryd.prog.cellsOf 31 = 3 := by kernel_rfl
theorem at_cells : Tryd.prog.cellsOf 27 = 3 := by kernel_rfl
theorem tok_cells : Tryd.prog.cellsOf 34 = 10 := by kernel_rfl
theorem bool_cells : Tryd.prog.cellsOf 4 = 1 := by kernel_rfl
theorem kind_cells : Tryd.prog.cellsOf 32 = 1 := by kernel_rfl
theorem ats_cells : Tryd.prog.cellsOf 22 = 1 := by kernel_rfl
theorem str_cells : Tryd.prog.cellsOf 9 = 1 := by kernel_rfl
theorem int_cells : Tryd.prog.cellsOf 3 = 1 := by kernel_rfl

theorem add_none (b off j : Nat) : (⟨b, off, Option.none⟩ : Addr).add j = ⟨b, off + j, Option.none⟩ := by
  unfold Addr.add; split <;> simp_all

theorem three {α : Type} (l : List α) (h : l.length = 3) : ∃ a b c, l = [a, b, c] := by
  match l, h with
  | [a, b, c], _ => exact ⟨a, b, c, rfl⟩

/-- an element, read cell by cell -/
theorem el_of_trod {base : Nat} {sp : Nat → Bool} {held : Bool} {fuel : Nat} {cs : List Value} {x : DataW H × List MemPlace} (h : DataW.trod enc Tryd.prog W base sp held fuel 31 cs = some x) :
    ∃ (i : Int) (s n : ByteArray), cs = [.int .i64 i, .string s, .string n] ∧ s.size ≤ maxLen ∧ n.size ≤ maxLen := by
  obtain ⟨ys, n', hn', hy, hlen, hyl, hf⟩ := DataW.trod_struct Tryd.underlying31 h
  rw [el_cells] at hlen
  obtain ⟨c0, c1, c2, rfl⟩ := three cs hlen
  have h0 := hf 0 _ rfl
  have h1 := hf 1 _ rfl
  have h2 := hf 2 _ rfl
  obtain ⟨y0, y1, y2, rfl⟩ := three ys hyl
  replace h0 : DataW.trod enc Tryd.prog W base sp held n' 3 (List.take (Tryd.prog.cellsOf 3) [c0, c1, c2]) = some y0 := h0
  replace h1 : DataW.trod enc Tryd.prog W base sp held n' 9 (List.take (Tryd.prog.cellsOf 9) [c1, c2]) = some y1 := h1
  replace h2 : DataW.trod enc Tryd.prog W base sp held n' 9 (List.take (Tryd.prog.cellsOf 9) [c2]) = some y2 := h2
  rw [int_cells] at h0
  rw [str_cells] at h1 h2
  obtain ⟨a, e0, _, wa⟩ := DataW.trod_int Tryd.underlying3 h0
  obtain ⟨s1, e1, _, w1⟩ := DataW.trod_string Tryd.underlying9 h1
  obtain ⟨s2, e2, _, w2⟩ := DataW.trod_string Tryd.underlying9 h2
  simp at e0 e1 e2
  subst e0 e1 e2
  exact ⟨a, s1, s2, rfl, w1, w2⟩

/-- an attribute -/
theorem at_of_trod {base : Nat} {sp : Nat → Bool} {held : Bool} {fuel : Nat} {cs : List Value} {x : DataW H × List MemPlace} (h : DataW.trod enc Tryd.prog W base sp held fuel 27 cs = some x) :
    ∃ e : At, cs = [.string e.sp, .string e.nm, .string e.va] ∧ e.sp.size ≤ maxLen ∧ e.nm.size ≤ maxLen ∧ e.va.size ≤ maxLen := by
  obtain ⟨ys, n', hn', hy, hlen, hyl, hf⟩ := DataW.trod_struct Tryd.underlying27 h
  rw [at_cells] at hlen
  obtain ⟨c0, c1, c2, rfl⟩ := three cs hlen
  have h0 := hf 0 _ rfl
  have h1 := hf 1 _ rfl
  have h2 := hf 2 _ rfl
  obtain ⟨y0, y1, y2, rfl⟩ := three ys hyl
  replace h0 : DataW.trod enc Tryd.prog W base sp held n' 9 (List.take (Tryd.prog.cellsOf 9) [c0, c1, c2]) = some y0 := h0
  replace h1 : DataW.trod enc Tryd.prog W base sp held n' 9 (List.take (Tryd.prog.cellsOf 9) [c1, c2]) = some y1 := h1
  replace h2 : DataW.trod enc Tryd.prog W base sp held n' 9 (List.take (Tryd.prog.cellsOf 9) [c2]) = some y2 := h2
  rw [str_cells] at h0 h1 h2
  obtain ⟨s0, e0, _, w0⟩ := DataW.trod_string Tryd.underlying9 h0
  obtain ⟨s1, e1, _, w1⟩ := DataW.trod_string Tryd.underlying9 h1
  obtain ⟨s2, e2, _, w2⟩ := DataW.trod_string Tryd.underlying9 h2
  simp at e0 e1 e2
  subst e0 e1 e2
  exact ⟨⟨s0, s1, s2⟩, rfl, w0, w1, w2⟩

theorem ats_of_cells {fuel : Nat} {cs : List Value} {x : DataW H × List MemPlace} (hf : DataW.trod enc Tryd.prog W 0 (fun _ => true) true fuel 22 cs = some x) :
    ∃ a len cap l, cs = [.slice a len cap] ∧ AtsAt W (.slice a len cap) l ∧ (∀ x ∈ l, x.nm.size ≤ maxLen) ∧ (∀ x ∈ l, x.va.size ≤ maxLen) := by
  rcases open_slice Tryd.underlying22 hf with ⟨hcs, _⟩ | ⟨ad, len, cap, m, n, D, Pl, hcs, _, hl, hm, hmm, _, hi⟩
  · exact ⟨_, _, _, [], hcs, .inl ⟨rfl, _, _, rfl⟩, by simp, by simp⟩
  · by_cases h0 : len = 0
    · subst h0
      exact ⟨_, _, _, [], hcs, .inl ⟨rfl, _, _, rfl⟩, by simp, by simp⟩
    · simp at hmm
      subst hmm
      have each : ∀ i, i < len → ∃ e : At, (∀ j v, [Value.string e.sp, .string e.nm, .string e.va][j]? = some v → W.cell? ((ad.add (i * 3)).add j) = some v) ∧ e.nm.size ≤ maxLen ∧ e.va.size ≤ maxLen := by
        intro i hi'
        obtain ⟨cs', hc, ht⟩ := hi i (by omega)
        rw [at_cells] at hc
        obtain ⟨e, rfl, _, b1, b2⟩ := at_of_trod ht
        obtain ⟨_, _, hat⟩ := World.cells?_some hc
        refine ⟨e, fun j v hv => ?_, b1, b2⟩
        have hj : j < 3 := (List.getElem?_eq_some_iff.1 hv).1
        rw [hat j hj, hv]
      obtain ⟨f, hfe⟩ : ∃ f : Nat → At, ∀ i, i < len → (∀ j v, [Value.string (f i).sp, .string (f i).nm, .string (f i).va][j]? = some v → W.cell? ((ad.add (i * 3)).add j) = some v) ∧ (f i).nm.size ≤ maxLen ∧ (f i).va.size ≤ maxLen := by
        refine ⟨fun i => if h : i < len then (each i h).choose else ⟨⟨#[]⟩, ⟨#[]⟩, ⟨#[]⟩⟩, fun i hi' => ?_⟩
        simp only [hi', dif_pos]
        exact (each i hi').choose_spec
      have hspot : ad.spot = Option.none := by
        have := World.cell?_spot ((hfe 0 (by omega)).1 0 _ rfl)
        simpa [Addr.add] using this
      obtain ⟨b, off, spot⟩ := ad
      simp at hspot
      subst hspot
      have hcell : ∀ i, i < len → ∀ j v, [Value.string (f i).sp, .string (f i).nm, .string (f i).va][j]? = some v → W.cell? ⟨b, off + i * 3 + j, Option.none⟩ = some v := fun i hi' j v hv => by
        have := (hfe i hi').1 j v hv
        rwa [add_none, add_none] at this
      refine ⟨_, _, _, (List.range len).map f, hcs, .inr ⟨b, off, _, by simp; rfl, ?_, by simp; omega, ?_, ?_⟩, ?_, ?_⟩
      · exact World.block_lt_of_cell? W _ (hcell 0 (by omega) 0 _ rfl)
      · simp only [List.length_map, List.length_range]; unfold maxLen at hm; omega
      · intro j x hx
        simp only [List.getElem?_map, Option.map_eq_some_iff] at hx
        obtain ⟨i, hi', rfl⟩ := hx
        obtain ⟨hlt, rfl⟩ := List.getElem?_eq_some_iff.1 hi'
        simp only [List.length_range] at hlt
        simp only [List.getElem_range]
        exact ⟨hcell j hlt 0 _ rfl, hcell j hlt 1 _ rfl, hcell j hlt 2 _ rfl⟩
      · intro x hx
        obtain ⟨i, hi', rfl⟩ := List.mem_map.1 hx
        exact (hfe i (List.mem_range.1 hi')).2.1
      · intro x hx
        obtain ⟨i, hi', rfl⟩ := List.mem_map.1 hx
        exact (hfe i (List.mem_range.1 hi')).2.2

theorem ten {α : Type} (l : List α) (h : l.length = 10) : ∃ a b c d e f g i j k, l = [a, b, c, d, e, f, g, i, j, k] := by
  match l, h with
  | [a, b, c, d, e, f, g, i, j, k], _ => exact ⟨a, b, c, d, e, f, g, i, j, k, rfl⟩
theorem arr_of {cs : Array Value} {l : List Value} (h : (Value.agg cs).cells.toList = l) : cs = l.toArray := by
  rw [← h]; simp [Value.cells]

/-- a token -/
theorem tok_of_trod {fuel : Nat} {cs : List Value} {x : DataW H × List MemPlace} (h : DataW.trod enc Tryd.prog W 0 (fun _ => true) true fuel 34 cs = some x) :
    ∃ (k : Tk) (tl : List At) (a : Option Addr) (n c : Nat), cs = [.int .u8 k.k, .string k.n, .slice a n c, .bool k.s, .string k.t, .string k.p, .string k.y, .bool k.a, .bool k.b, .bool k.c] ∧ AtsAt W (.slice a n c) tl := by
  obtain ⟨ys, n', hn', hy, hlen, hyl, hf⟩ := DataW.trod_struct Tryd.underlying34 h
  rw [tok_cells] at hlen
  obtain ⟨c0, c1, c2, c3, c4, c5, c6, c7, c8, c9, rfl⟩ := ten cs hlen
  obtain ⟨y0, y1, y2, y3, y4, y5, y6, y7, y8, y9, rfl⟩ := ten ys hyl
  have h0 : DataW.trod enc Tryd.prog W 0 (fun _ => true) true n' 32 (List.take (Tryd.prog.cellsOf 32) [c0, c1, c2, c3, c4, c5, c6, c7, c8, c9]) = some y0 := hf 0 _ rfl
  have h1 : DataW.trod enc Tryd.prog W 0 (fun _ => true) true n' 9 (List.take (Tryd.prog.cellsOf 9) [c1, c2, c3, c4, c5, c6, c7, c8, c9]) = some y1 := hf 1 _ rfl
  have h2 : DataW.trod enc Tryd.prog W 0 (fun _ => true) true n' 22 (List.take (Tryd.prog.cellsOf 22) [c2, c3, c4, c5, c6, c7, c8, c9]) = some y2 := hf 2 _ rfl
  have h3 : DataW.trod enc Tryd.prog W 0 (fun _ => true) true n' 4 (List.take (Tryd.prog.cellsOf 4) [c3, c4, c5, c6, c7, c8, c9]) = some y3 := hf 3 _ rfl
  have h4 : DataW.trod enc Tryd.prog W 0 (fun _ => true) true n' 9 (List.take (Tryd.prog.cellsOf 9) [c4, c5, c6, c7, c8, c9]) = some y4 := hf 4 _ rfl
  have h5 : DataW.trod enc Tryd.prog W 0 (fun _ => true) true n' 9 (List.take (Tryd.prog.cellsOf 9) [c5, c6, c7, c8, c9]) = some y5 := hf 5 _ rfl
  have h6 : DataW.trod enc Tryd.prog W 0 (fun _ => true) true n' 9 (List.take (Tryd.prog.cellsOf 9) [c6, c7, c8, c9]) = some y6 := hf 6 _ rfl
  have h7 : DataW.trod enc Tryd.prog W 0 (fun _ => true) true n' 4 (List.take (Tryd.prog.cellsOf 4) [c7, c8, c9]) = some y7 := hf 7 _ rfl
  have h8 : DataW.trod enc Tryd.prog W 0 (fun _ => true) true n' 4 (List.take (Tryd.prog.cellsOf 4) [c8, c9]) = some y8 := hf 8 _ rfl
  have h9 : DataW.trod enc Tryd.prog W 0 (fun _ => true) true n' 4 (List.take (Tryd.prog.cellsOf 4) [c9]) = some y9 := hf 9 _ rfl
  rw [kind_cells] at h0
  rw [str_cells] at h1 h4 h5 h6
  rw [ats_cells] at h2
  rw [bool_cells] at h3 h7 h8 h9
  obtain ⟨a0, e0, _, _⟩ := DataW.trod_int Tryd.underlying32 h0
  obtain ⟨s1, e1, _, _⟩ := DataW.trod_string Tryd.underlying9 h1
  obtain ⟨aa, an, ac, tl, e2, ht, _, _⟩ := ats_of_cells h2
  obtain ⟨b3, e3, _⟩ := DataW.trod_bool Tryd.underlying4 h3
  obtain ⟨s4, e4, _, _⟩ := DataW.trod_string Tryd.underlying9 h4
  obtain ⟨s5, e5, _, _⟩ := DataW.trod_string Tryd.underlying9 h5
  obtain ⟨s6, e6, _, _⟩ := DataW.trod_string Tryd.underlying9 h6
  obtain ⟨b7, e7, _⟩ := DataW.trod_bool Tryd.underlying4 h7
  obtain ⟨b8, e8, _⟩ := DataW.trod_bool Tryd.underlying4 h8
  obtain ⟨b9, e9, _⟩ := DataW.trod_bool Tryd.underlying4 h9
  simp at e0 e1 e2 e3 e4 e5 e6 e7 e8 e9
  subst e0 e1 e2 e3 e4 e5 e6 e7 e8 e9
  exact ⟨⟨a0, s1, b3, s4, s5, s6, b7, b8, b9⟩, tl, aa, an, ac, rfl, ht⟩
end
end Go.Proofs.YtdoiopdnencabaaDoor
