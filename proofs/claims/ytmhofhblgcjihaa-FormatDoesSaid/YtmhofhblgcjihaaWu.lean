/- At once more: the copy's block is one of plain cells, made by the call. -/
import Derived.Test.YtmhofhblgcjihaaWd
import Derived.StillTailTactics
namespace Go.Proofs.Ytmhofhblgcjihaa
open Go Go.RowKit Go.Shelf

/-- an entry whose attributes are nobody else's -/
def KeptOwn (x : El) (l : List At) (w : World) (e : Ending) (w' : World) : Prop :=
  ∃ a c, e = .returned (.agg #[.int .i64 x.id, .string x.sp, .string x.nm, .slice a l.length c]) ∧ AtsAt w' (.slice a l.length c) l ∧ (∀ q o, a = some ⟨q, o, Option.none⟩ → w.heap.size ≤ q ∧ q < w'.heap.size) ∧ Below w.heap.size w w' ∧ (0 < l.length → ∃ q T, a = some ⟨q, 0, Option.none⟩ ∧ w'.heap[q]? = some (.cells T 34 (0, 0)))

set_option maxRecDepth 100000 in
set_option maxHeartbeats 1000000 in
theorem kept_own (x : El) (v : Value) (l : List At) (w : World) (hv : AtsAt w v l) (hsm : l.length * 48 ≤ 140737488355328) :
    Calls Try.prog 25 #[.agg #[.int .i64 x.id, .string x.sp, .string x.nm], v] w (KeptOwn x l w) := by
  have hB : Below w.heap.size w ((w.alloc (.cells #[.int .i64 x.id, .string x.sp, .string x.nm] 29)).alloc (.cells #[.int .i64 0, .string ⟨#[]⟩, .string ⟨#[]⟩, .slice Option.none 0 0] 37)) := ((Below.refl _ _).alloc (Nat.le_refl _) _).alloc (by simp) _
  have hcl := clone_any v l _ (hv.below (Nat.le_refl _) hB) hsm
  have HC := Lib.hid hcl
  clear hcl
  obtain ⟨va, vc, rfl⟩ := hv.form
  clear hv
  go_enter Try.func25, Try.ntmps25
  go_wp2_with fail
  refine HC.out.mono ?_
  rintro e w1 ⟨v', rfl, hown, hb1⟩
  have hsz : w.heap.size + 1 < w1.heap.size := by have := hb1.size; simp at this; omega
  have c0 : w1.cell? ⟨w.heap.size, 0, Option.none⟩ = some (.int .i64 x.id) := (hb1.cell (p := ⟨w.heap.size, 0, Option.none⟩) (by simp; omega)).trans (by simp [go_sem])
  have c1 : w1.cell? ⟨w.heap.size, 1, Option.none⟩ = some (.string x.sp) := (hb1.cell (p := ⟨w.heap.size, 1, Option.none⟩) (by simp; omega)).trans (by simp [go_sem])
  have c2 : w1.cell? ⟨w.heap.size, 2, Option.none⟩ = some (.string x.nm) := (hb1.cell (p := ⟨w.heap.size, 2, Option.none⟩) (by simp; omega)).trans (by simp [go_sem])
  have qf : ∀ o, w1.frozen? ⟨w.heap.size + 1, o, Option.none⟩ = false := fun o => (hb1.frozen (p := ⟨w.heap.size + 1, o, Option.none⟩) (by simp)).trans (by simp [go_sem])
  have q : ∀ o, w1.cell? ⟨w.heap.size + 1, o, Option.none⟩ = ((w.alloc (.cells #[.int .i64 x.id, .string x.sp, .string x.nm] 29)).alloc (.cells #[.int .i64 0, .string ⟨#[]⟩, .string ⟨#[]⟩, .slice Option.none 0 0] 37)).cell? ⟨w.heap.size + 1, o, Option.none⟩ := fun o => hb1.cell (p := ⟨w.heap.size + 1, o, Option.none⟩) (by simp)
  have q0 : w1.cell? ⟨w.heap.size + 1, 0, Option.none⟩ = some (.int .i64 0) := (q 0).trans (by simp [go_sem])
  have q1 : w1.cell? ⟨w.heap.size + 1, 1, Option.none⟩ = some (.string ⟨#[]⟩) := (q 1).trans (by simp [go_sem])
  have q2 : w1.cell? ⟨w.heap.size + 1, 2, Option.none⟩ = some (.string ⟨#[]⟩) := (q 2).trans (by simp [go_sem])
  have q3 : w1.cell? ⟨w.heap.size + 1, 3, Option.none⟩ = some (.slice Option.none 0 0) := (q 3).trans (by simp [go_sem])
  have hbw : Below w.heap.size w w1 := hB.trans (hb1.mono hB.size)
  have HBW := Lib.hid hbw
  clear q hb1 HC hB hbw
  rcases hown with ⟨rfl, rfl⟩ | ⟨g, cap, cur, rfl, hge, hg, hlc, hcm, hcs⟩
  · go_wp2_with fail
    go_region
    all_goals
      go_wp2
      refine bodyPost_ret (v := .agg #[.int .i64 x.id, .string x.sp, .string x.nm, .slice Option.none 0 0]) (by simp [results, Try.results25, go_sem, q0, q1, q2, q3]) rfl ⟨Option.none, 0, rfl, .inl ⟨rfl, _, _, rfl⟩, (fun q o e => by cases e), ?_, fun h => by simp at h⟩
      exact (((((HBW.out).setCell (p := ⟨w.heap.size + 1, 0, Option.none⟩) (Nat.le_succ _) _).setCell (p := ⟨w.heap.size + 1, 1, Option.none⟩) (Nat.le_succ _) _).setCell (p := ⟨w.heap.size + 1, 2, Option.none⟩) (Nat.le_succ _) _).setCell (p := ⟨w.heap.size + 1, 3, Option.none⟩) (Nat.le_succ _) _).drew
  · have hats : AtsAt w1 (.slice (some ⟨g, 0, Option.none⟩) l.length l.length) l := by
      by_cases h0 : l.length = 0
      · rw [h0]
        exact .inl ⟨List.eq_nil_of_length_eq_zero h0, _, _, rfl⟩
      · refine .inr ⟨g, 0, _, rfl, (Array.getElem?_eq_some_iff.1 hg).1, by omega, by unfold maxLen at hcm; omega, fun j x hx => ?_⟩
        obtain ⟨e0, e1, e2⟩ := hcs j x hx
        refine ⟨?_, ?_, ?_⟩
        · rw [cell_of_row _ _ _ _ _ _ hg, Nat.zero_add]; exact e0
        · rw [cell_of_row _ _ _ _ _ _ hg, Nat.zero_add]; exact e1
        · rw [cell_of_row _ _ _ _ _ _ hg, Nat.zero_add]; exact e2
    have hgl : g < w1.heap.size := (Array.getElem?_eq_some_iff.1 hg).1
    have hge2 : w.heap.size + 2 ≤ g := by simpa using hge
    have HAT := Lib.hid hats
    have HG := Lib.hid hg
    unfold maxLen at hcm
    clear hats hcs hg hge
    go_wp2_with fail
    go_region
    all_goals
      go_wp2
      refine bodyPost_ret (v := .agg #[.int .i64 x.id, .string x.sp, .string x.nm, .slice (some ⟨g, 0, Option.none⟩) l.length l.length]) (by simp [results, Try.results25, go_sem, q0, q1, q2, q3]) rfl ⟨some ⟨g, 0, Option.none⟩, l.length, rfl, HAT.out.keeps (S := fun k => k = w.heap.size + 1) ?_ ?_, fun q o e => ?_, ?_, fun _ => ⟨g, cur, rfl, ?_⟩⟩
      · exact (((((Keeps.refl (fun k => k = w.heap.size + 1) w1).setCell (p := ⟨w.heap.size + 1, 0, Option.none⟩) (.inl rfl) _).setCell (p := ⟨w.heap.size + 1, 1, Option.none⟩) (.inl rfl) _).setCell (p := ⟨w.heap.size + 1, 2, Option.none⟩) (.inl rfl) _).setCell (p := ⟨w.heap.size + 1, 3, Option.none⟩) (.inl rfl) _).drew
      · intro _ q o n c e hq
        cases e
        omega
      · cases e
        exact ⟨by omega, by simpa [World.setCell] using hgl⟩
      · exact (((((HBW.out).setCell (p := ⟨w.heap.size + 1, 0, Option.none⟩) (Nat.le_succ _) _).setCell (p := ⟨w.heap.size + 1, 1, Option.none⟩) (Nat.le_succ _) _).setCell (p := ⟨w.heap.size + 1, 2, Option.none⟩) (Nat.le_succ _) _).setCell (p := ⟨w.heap.size + 1, 3, Option.none⟩) (Nat.le_succ _) _).drew
      · exact ((((((Keeps.refl (fun k => k = w.heap.size + 1) w1).setCell (p := ⟨w.heap.size + 1, 0, Option.none⟩) (.inl rfl) _).setCell (p := ⟨w.heap.size + 1, 1, Option.none⟩) (.inl rfl) _).setCell (p := ⟨w.heap.size + 1, 2, Option.none⟩) (.inl rfl) _).setCell (p := ⟨w.heap.size + 1, 3, Option.none⟩) (.inl rfl) _).drew.block g hgl (by omega)).trans HG.out
/-- an entry that comes out: it is its owner's -/
def OutOwn (x : Ab) (more : Array Value) (w : World) (e : Ending) (w' : World) : Prop :=
  ∃ a c, e = .returned (.tuple (#[.agg #[.int .i64 x.el.id, .string x.el.sp, .string x.el.nm, .slice a x.ats.length c]] ++ more)) ∧ AtsAt w' (.slice a x.ats.length c) x.ats ∧ (∀ q o, a = some ⟨q, o, Option.none⟩ → w.heap.size ≤ q ∧ q < w'.heap.size) ∧ Below w.heap.size w w' ∧ (0 < x.ats.length → ∃ q T, a = some ⟨q, 0, Option.none⟩ ∧ w'.heap[q]? = some (.cells T 34 (0, 0)))

set_option maxRecDepth 100000 in
set_option maxHeartbeats 2000000 in
theorem at_outO (b : Nat) (v : Value) (es : List En) (i : Int) (w : World) (hs : Raw w b v es) (h : ¬ (0 ≤ i ∧ i < es.length)) :
    Calls Try.prog 12 #[.pointer (some ⟨b, 0, Option.none⟩), .int .i64 i] w (OutOwn Ab.none #[.int .i64 70] w) := by
  have hc := hs.cell
  have hblt := hs.lt b (.inl rfl)
  obtain ⟨va, vc, rfl⟩ : ∃ a c, v = .slice a es.length c := by
    rcases hs.form with ⟨h, h2⟩ | ⟨g, cap, h1, _⟩
    · exact ⟨_, _, by rw [h2]; exact h⟩
    · exact ⟨_, _, h1⟩
  clear hs
  by_cases hi : i < 0
  · clear h
    go_enter Try.func12, Try.ntmps12
    go_wp2_with fail
    refine bodyPost_ret (v := .tuple #[.agg #[.int .i64 0, .string ⟨#[]⟩, .string ⟨#[]⟩, .slice Option.none 0 0], .int .i64 70]) (by simp [results, Try.results12, go_sem]) rfl ?_
    exact ⟨Option.none, 0, rfl, .inl ⟨rfl, _, _, rfl⟩, (fun q o e => by cases e), (Below.refl _ _).alloc (Nat.le_refl _) _, fun h => by simp [Ab.none] at h⟩
  · have hi3 : (es.length : Int) ≤ i := by omega
    clear h
    go_enter Try.func12, Try.ntmps12
    go_wp2_with fail
    refine bodyPost_ret (v := .tuple #[.agg #[.int .i64 0, .string ⟨#[]⟩, .string ⟨#[]⟩, .slice Option.none 0 0], .int .i64 70]) (by simp [results, Try.results12, go_sem]) rfl ?_
    exact ⟨Option.none, 0, rfl, .inl ⟨rfl, _, _, rfl⟩, (fun q o e => by cases e), (Below.refl _ _).alloc (Nat.le_refl _) _, fun h => by simp [Ab.none] at h⟩

set_option maxRecDepth 100000 in
set_option maxHeartbeats 2000000 in
theorem at_inO (b : Nat) (v : Value) (es : List En) (i : Nat) (w : World) (hs : Raw w b v es) (hi : i < es.length) :
    Calls Try.prog 12 #[.pointer (some ⟨b, 0, Option.none⟩), .int .i64 i] w (OutOwn es[i].ab #[.int .i64 0] w) := by
  have hc := hs.cell
  have hblt := hs.lt b (.inl rfl)
  have hlen := hs.len
  have HS := Lib.hid hs
  have hdr : Below w.heap.size w w.drew := (Below.refl _ _).drew
  rcases hs.form with ⟨_, rfl⟩ | ⟨g, cap, rfl, hg, hgb, h1, h2, _, _⟩
  · simp at hi
  · clear hs
    have hal : Below w.heap.size w (w.alloc (.cells #[.int .i64 0, .string ⟨#[]⟩, .string ⟨#[]⟩, .slice Option.none 0 0] 37)) := (Below.refl _ _).alloc (Nat.le_refl _) _
    have hdr1 := hal.drew
    obtain ⟨c0, c1, c2, c3⟩ := HS.out.at4 i hi hal
    have hat := (HS.out.ats es[i] (List.getElem_mem hi)).below (Nat.le_refl _) hdr1
    have hsm := HS.out.sm es[i] (List.getElem_mem hi)
    generalize es[i] = x at *
    have hcb := (hal.cell (p := ⟨b, 0, Option.none⟩) hblt).trans hc
    have hk := kept_own x.el (.slice x.a x.ats.length x.c) x.ats (w.alloc (.cells #[.int .i64 0, .string ⟨#[]⟩, .string ⟨#[]⟩, .slice Option.none 0 0] 37)).drew hat hsm
    have HK := Lib.hid hk
    have hz : ∀ o, (w.alloc (.cells #[.int .i64 0, .string ⟨#[]⟩, .string ⟨#[]⟩, .slice Option.none 0 0] 37)).drew.frozen? ⟨w.heap.size, o, Option.none⟩ = false := fun o => by simp [go_sem]
    have z0 : (w.alloc (.cells #[.int .i64 0, .string ⟨#[]⟩, .string ⟨#[]⟩, .slice Option.none 0 0] 37)).drew.cell? ⟨w.heap.size, 0, Option.none⟩ = some (.int .i64 0) := by simp [go_sem]
    have z1 : (w.alloc (.cells #[.int .i64 0, .string ⟨#[]⟩, .string ⟨#[]⟩, .slice Option.none 0 0] 37)).drew.cell? ⟨w.heap.size, 1, Option.none⟩ = some (.string ⟨#[]⟩) := by simp [go_sem]
    have z2 : (w.alloc (.cells #[.int .i64 0, .string ⟨#[]⟩, .string ⟨#[]⟩, .slice Option.none 0 0] 37)).drew.cell? ⟨w.heap.size, 2, Option.none⟩ = some (.string ⟨#[]⟩) := by simp [go_sem]
    have z3 : (w.alloc (.cells #[.int .i64 0, .string ⟨#[]⟩, .string ⟨#[]⟩, .slice Option.none 0 0] 37)).drew.cell? ⟨w.heap.size, 3, Option.none⟩ = some (.slice Option.none 0 0) := by simp [go_sem]
    have hsz : (w.alloc (.cells #[.int .i64 0, .string ⟨#[]⟩, .string ⟨#[]⟩, .slice Option.none 0 0] 37)).drew.heap.size = w.heap.size + 1 := by simp
    have hil : (i : Int) < (es.length : Int) := by omega
    have HAL := Lib.hid hdr1
    clear hk hat hdr hal hdr1 hc
    go_enter Try.func12, Try.ntmps12
    go_wp2_with fail
    generalize w.alloc (.cells #[.int .i64 0, .string ⟨#[]⟩, .string ⟨#[]⟩, .slice Option.none 0 0] 37) = w0 at *
    refine wp_region_still_tail 16 (by kernel_rfl) (by kernel_rfl) ?_
    simp only [List.take_succ_cons, List.take_zero, List.drop_succ_cons, List.drop_zero]
    repeat still_step
    refine wpStill_nil ?_
    change wpList _ _ _ _ _ w0.drew
    clear hcb c0 c1 c2 c3
    generalize w0.drew = w1 at *
    go_wp2_with fail
    refine HK.out.mono ?_
    rintro e w2 ⟨ka, kc, rfl, hka, hkq, hkb, hko⟩
    have hws : w.heap.size < w1.heap.size := by omega
    have y0 := (hkb.cell (p := ⟨w.heap.size, 0, Option.none⟩) hws).trans z0
    have y1 := (hkb.cell (p := ⟨w.heap.size, 1, Option.none⟩) hws).trans z1
    have y2 := (hkb.cell (p := ⟨w.heap.size, 2, Option.none⟩) hws).trans z2
    have y3 := (hkb.cell (p := ⟨w.heap.size, 3, Option.none⟩) hws).trans z3
    have yf : ∀ o, w2.frozen? ⟨w.heap.size, o, Option.none⟩ = false := fun o => (hkb.frozen (p := ⟨w.heap.size, o, Option.none⟩) hws).trans (hz o)
    have hka' := Lib.hid hka
    have hkq' := Lib.hid hkq
    have hkb' := Lib.hid hkb
    have hko' := Lib.hid hko
    clear hka hkq hkb hko z0 z1 z2 z3 hz
    go_wp2_with fail
    refine bodyPost_ret (v := .tuple #[.agg #[.int .i64 x.el.id, .string x.el.sp, .string x.el.nm, .slice ka x.ats.length kc], .int .i64 0]) (by simp [results, Try.results12, go_sem, y0, y1, y2, y3]) rfl ⟨ka, kc, rfl, hka'.out.keeps (S := fun k => k = w.heap.size) ?_ ?_, fun q o e => ?_, ?_, fun hn => ?_⟩
    · exact ((((Keeps.refl (fun k => k = w.heap.size) w2).setCell (p := ⟨w.heap.size, 0, Option.none⟩) (.inl rfl) _).setCell (p := ⟨w.heap.size, 1, Option.none⟩) (.inl rfl) _).setCell (p := ⟨w.heap.size, 2, Option.none⟩) (.inl rfl) _).setCell (p := ⟨w.heap.size, 3, Option.none⟩) (.inl rfl) _
    · intro _ q o n c e hq
      injection e with e1
      have := hkq'.out q o e1
      omega
    · have h1 := hkq'.out q o e
      simp [World.setCell]
      omega
    · exact ((((HAL.out.trans (hkb'.out.mono (by omega))).setCell (p := ⟨w.heap.size, 0, Option.none⟩) (Nat.le_refl _) _).setCell (p := ⟨w.heap.size, 1, Option.none⟩) (Nat.le_refl _) _).setCell (p := ⟨w.heap.size, 2, Option.none⟩) (Nat.le_refl _) _).setCell (p := ⟨w.heap.size, 3, Option.none⟩) (Nat.le_refl _) _
    · obtain ⟨q, T, e, hT⟩ := hko'.out hn
      have h1 := hkq'.out q 0 e
      exact ⟨q, T, e, ((((((Keeps.refl (fun k => k = w.heap.size) w2).setCell (p := ⟨w.heap.size, 0, Option.none⟩) (.inl rfl) _).setCell (p := ⟨w.heap.size, 1, Option.none⟩) (.inl rfl) _).setCell (p := ⟨w.heap.size, 2, Option.none⟩) (.inl rfl) _).setCell (p := ⟨w.heap.size, 3, Option.none⟩) (.inl rfl) _).block q h1.2 (by omega)).trans hT⟩

/-- what stands at a place -/
def atX (l : List Ab) (n : Int) : Ab := if 0 ≤ n ∧ n < l.length then (l[n.toNat]?).getD Ab.none else Ab.none
def atXe (l : List Ab) (n : Int) : Int := if 0 ≤ n ∧ n < l.length then 0 else 70

theorem at_both (es : List En) (n : Int) (h : 0 ≤ n ∧ n < es.length) : ∃ k : Nat, n = (k : Int) ∧ ∃ hk : k < es.length, atX (es.map En.ab) n = es[k].ab ∧ atXe (es.map En.ab) n = 0 := by
  refine ⟨n.toNat, by omega, by omega, ?_, ?_⟩
  · have hk : n.toNat < es.length := by omega
    simp [atX, h, hk]
  · simp [atXe, h]
theorem at_none (es : List En) (n : Int) (h : ¬ (0 ≤ n ∧ n < es.length)) : atX (es.map En.ab) n = Ab.none ∧ atXe (es.map En.ab) n = 70 := by
  constructor
  · unfold atX; rw [if_neg (by simpa using h)]
  · unfold atXe; rw [if_neg (by simpa using h)]

theorem at_own (b : Nat) (v : Value) (es : List En) (n : Int) (w : World) (hs : Raw w b v es) :
    Calls Try.prog 12 #[.pointer (some ⟨b, 0, Option.none⟩), .int .i64 n] w (OutOwn (atX (es.map En.ab) n) #[.int .i64 (atXe (es.map En.ab) n)] w) := by
  by_cases h : 0 ≤ n ∧ n < es.length
  · obtain ⟨k, rfl, hk, e1, e2⟩ := at_both es n h
    rw [e1, e2]
    exact at_inO b v es k w hs hk
  · obtain ⟨e1, e2⟩ := at_none es n h
    rw [e1, e2]
    exact at_outO b v es n w hs h

theorem rat_any (b : Nat) (v : Value) (es : List En) (n : Int) (w : World) (hs : Raw w b v es) :
    Calls Try.prog 32 #[.pointer (some ⟨b, 0, Option.none⟩), .int .i64 n] w (ROut (atX (es.map En.ab) n) #[.int .i64 (atXe (es.map En.ab) n)] w) := by
  by_cases h : 0 ≤ n ∧ n < es.length
  · obtain ⟨k, rfl, hk, e1, e2⟩ := at_both es n h
    rw [e1, e2]
    exact rat_in b v es k w hs hk
  · obtain ⟨e1, e2⟩ := at_none es n h
    rw [e1, e2]
    exact rat_out b v es n w hs h
end Go.Proofs.Ytmhofhblgcjihaa
