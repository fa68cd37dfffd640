/- What the stack's methods do: At, Top, Pop. -/
import Derived.Test.YtibfiblajicdpaaDoorH
namespace Go.Proofs.YtibfiblajicdpaaDoor
open Go Go.RowKit

def El.v (x : El) : Value := .agg #[.int .i64 x.id, .string x.sp, .string x.nm]

/-- the element at a place, or none -/
def atE (l : List El) (i : Int) : El := if 0 ≤ i ∧ i < l.length then (l[i.toNat]?.getD El.none) else El.none
def atC (l : List El) (i : Int) : Int := if 0 ≤ i ∧ i < l.length then 0 else 60
def topE (l : List El) : El := l.getLast?.getD El.none

theorem topE_at (l : List El) : topE l = atE l ((l.length : Int) - 1) := by
  unfold topE atE
  cases l with
  | nil => simp
  | cons a l =>
    rw [if_pos (by simp; omega)]
    congr 1
    rw [List.getLast?_eq_getElem?]
    congr 1
    simp

set_option maxHeartbeats 1000000 in
theorem at_any (b : Nat) (v : Value) (l : List El) (i : Int) (w : World) (hs : Stk w b v l) :
    Calls Tryd.prog 13 #[.pointer (some ⟨b, 0, Option.none⟩), .int .i64 i] w fun e w' => e = .returned (.tuple #[(atE l i).v, .int .i64 (atC l i)]) ∧ Below w.heap.size w w' := by
  have hc := hs.cell
  have hblt := hs.lt b (.inl rfl)
  have hlen := hs.len
  by_cases h0 : i < 0
  · have e1 : atE l i = El.none := by rw [atE, if_neg (by omega)]
    have e2 : atC l i = 60 := by rw [atC, if_neg (by omega)]
    rw [e1, e2]
    go_enter Tryd.func13, Tryd.ntmps13
    go_wp2
    refine bodyPost_ret (v := .tuple #[El.none.v, .int .i64 60]) (by simp [results, Tryd.results13, go_sem, El.v, El.none]) rfl ⟨rfl, ?_⟩
    exact (Below.refl _ _).alloc (Nat.le_refl _) _
  · rcases hs.form with ⟨rfl, rfl⟩ | ⟨g, cap, rfl, hg, hgb, h1, h2, hcs, _⟩
    · have e1 : atE [] i = El.none := by rw [atE, if_neg (by simp)]
      have e2 : atC [] i = 60 := by rw [atC, if_neg (by simp)]
      rw [e1, e2]
      go_enter Tryd.func13, Tryd.ntmps13
      go_wp2
      refine bodyPost_ret (v := .tuple #[El.none.v, .int .i64 60]) (by simp [results, Tryd.results13, go_sem, El.v, El.none]) rfl ⟨rfl, ?_⟩
      exact (Below.refl _ _).alloc (Nat.le_refl _) _
    · by_cases h3 : i < l.length
      · obtain ⟨k, rfl⟩ := Int.eq_ofNat_of_zero_le (by omega : 0 ≤ i)
        have hk : k < l.length := by omega
        have e1 : atE l k = l[k] := by rw [atE, if_pos (by omega)]; simp [hk]
        have e2 : atC l k = 0 := by rw [atC, if_pos (by omega)]
        rw [e1, e2]
        obtain ⟨c0, c1, c2⟩ := hcs k l[k] (by simp [hk])
        clear hcs
        generalize l[k] = x at *
        go_enter Tryd.func13, Tryd.ntmps13
        go_wp2
        refine bodyPost_ret (v := .tuple #[x.v, .int .i64 0]) (by simp [results, Tryd.results13, go_sem, El.v]) rfl ⟨rfl, ?_⟩
        exact (Below.refl _ _).alloc (Nat.le_refl _) _
      · have e1 : atE l i = El.none := by rw [atE, if_neg (by omega)]
        have e2 : atC l i = 60 := by rw [atC, if_neg (by omega)]
        rw [e1, e2]
        go_enter Tryd.func13, Tryd.ntmps13
        go_wp2
        refine bodyPost_ret (v := .tuple #[El.none.v, .int .i64 60]) (by simp [results, Tryd.results13, go_sem, El.v, El.none]) rfl ⟨rfl, ?_⟩
        exact (Below.refl _ _).alloc (Nat.le_refl _) _

set_option maxHeartbeats 1000000 in
theorem top_any (b : Nat) (v : Value) (l : List El) (w : World) (hs : Stk w b v l) :
    Calls Tryd.prog 20 #[.pointer (some ⟨b, 0, Option.none⟩)] w fun e w' => e = .returned (topE l).v ∧ Below w.heap.size w w' := by
  have hc := hs.cell
  have hblt := hs.lt b (.inl rfl)
  have hlen := hs.len
  have hs1 := hs.below ((Below.refl w.heap.size w).alloc (Nat.le_refl _) (.cells #[.int .i64 0, .string ⟨#[]⟩, .string ⟨#[]⟩] 30))
  rw [topE_at]
  have hv : (atE l ((l.length : Int) - 1)).v = .agg #[.int .i64 (atE l ((l.length : Int) - 1)).id, .string (atE l ((l.length : Int) - 1)).sp, .string (atE l ((l.length : Int) - 1)).nm] := rfl
  rw [hv]
  have hat := at_any b v l ((l.length : Int) - 1) _ hs1
  rw [hv] at hat
  generalize atE l ((l.length : Int) - 1) = x at *
  generalize atC l ((l.length : Int) - 1) = y at *
  have HA := Lib.hid hat
  clear hat hv
  rcases hs.form with ⟨rfl, rfl⟩ | ⟨g, cap, rfl, hg, hgb, h1, h2, _, _⟩
  all_goals
    go_enter Tryd.func20, Tryd.ntmps20
    go_wp2_with fail
    refine HA.out.mono ?_
    rintro e w' ⟨rfl, hb⟩
    obtain ⟨q0, q1⟩ : w'.cell? ⟨w.heap.size, 0, Option.none⟩ = some (.int .i64 0) ∧ w'.frozen? ⟨w.heap.size, 0, Option.none⟩ = false := ⟨(hb.cell (p := ⟨w.heap.size, 0, Option.none⟩) (by simp)).trans (by simp [go_sem]), (hb.frozen (p := ⟨w.heap.size, 0, Option.none⟩) (by simp)).trans (by simp [go_sem])⟩
    obtain ⟨q2, q3⟩ : w'.cell? ⟨w.heap.size, 1, Option.none⟩ = some (.string ⟨#[]⟩) ∧ w'.frozen? ⟨w.heap.size, 1, Option.none⟩ = false := ⟨(hb.cell (p := ⟨w.heap.size, 1, Option.none⟩) (by simp)).trans (by simp [go_sem]), (hb.frozen (p := ⟨w.heap.size, 1, Option.none⟩) (by simp)).trans (by simp [go_sem])⟩
    obtain ⟨q4, q5⟩ : w'.cell? ⟨w.heap.size, 2, Option.none⟩ = some (.string ⟨#[]⟩) ∧ w'.frozen? ⟨w.heap.size, 2, Option.none⟩ = false := ⟨(hb.cell (p := ⟨w.heap.size, 2, Option.none⟩) (by simp)).trans (by simp [go_sem]), (hb.frozen (p := ⟨w.heap.size, 2, Option.none⟩) (by simp)).trans (by simp [go_sem])⟩
    have hsz : w.heap.size < w'.heap.size := by have := hb.size; simp at this; omega
    go_wp2
    refine bodyPost_ret (v := .agg #[.int .i64 x.id, .string x.sp, .string x.nm]) (by simp [results, Tryd.results20, go_sem, q0, q2, q4, hsz]) rfl ⟨rfl, ?_⟩
    exact ((((((Below.refl _ _).alloc (Nat.le_refl _) _).trans (hb.mono (by simp))).setCell (p := ⟨w.heap.size, 0, Option.none⟩) (Nat.le_refl _) _).setCell (p := ⟨w.heap.size, 1, Option.none⟩) (Nat.le_refl _) _).setCell (p := ⟨w.heap.size, 2, Option.none⟩) (Nat.le_refl _) _).alloc (by simp; omega) _

/-- behind the store of a slice that is one shorter -/
theorem pop_done {w W : World} {b g cap : Nat} {l : List El} {x : El} {e0 : Ending} (hs : Stk w b (.slice (some ⟨g, 0, Option.none⟩) (l ++ [x]).length cap) (l ++ [x])) (hW : Below w.heap.size w W) :
    MPost b (.slice (some ⟨g, 0, Option.none⟩) (l ++ [x]).length cap) w e0 l e0 (W.setCell ⟨b, 0, Option.none⟩ (.slice (some ⟨g, 0, Option.none⟩) l.length cap)) := by
  obtain ⟨T, hT⟩ := hs.box
  have hblt := hs.lt b (.inl rfl)
  have hglt := hs.lt g (.inr rfl)
  have hgb : g ≠ b := by
    rintro rfl
    exact hs.ne rfl
  have hl := hs.len
  refine ⟨rfl, .slice (some ⟨g, 0, Option.none⟩) l.length cap, ⟨⟨T, ?_⟩, ⟨flat_length l, ?_⟩, by simp [Value.ownBlock, hgb], by simp only [List.length_append, List.length_cons, List.length_nil] at hl; omega⟩, ?_, ?_⟩
  · simp only [World.setCell, Array.getElem?_modify, if_true, hW.block b hblt, hT, Option.map_some]
    rfl
  · rcases hs.own.2 with ⟨h, _⟩ | ⟨g', cap', cur, hv, _, hg', h1, h2, h3, h4⟩
    · cases h
    · cases hv
      refine .inr ⟨g, cap, cur, rfl, Nat.zero_le _, ?_, by simp only [List.length_append, List.length_cons, List.length_nil] at h1; omega, h2, h3, ?_⟩
      · rw [Below.heap_setCell _ _ _ _ hgb, hW.block g hglt]; exact hg'
      · rw [flat_append] at h4
        have := congrArg (List.take (l.length * 3)) h4
        rw [List.take_take, show min (l.length * 3) ((l ++ [x]).length * 3) = l.length * 3 from by simp] at this
        rw [this, ← flat_length l, List.take_left']
        rfl
  · exact (Keeps.of_below hW).setCell (.inl (.inl rfl)) _
  · rintro k (rfl | hk)
    · exact .inl (.inl rfl)
    · exact .inl (.inr (by simpa [Value.ownBlock] using hk))

theorem pop_done' {w W w2 : World} {b g cap : Nat} {l : List El} {x : El} {e0 : Ending} (hs : Stk w b (.slice (some ⟨g, 0, Option.none⟩) (l ++ [x]).length cap) (l ++ [x])) (hW : Below w.heap.size w W)
    (hk : Keeps (fun k => w.heap.size ≤ k) (W.setCell ⟨b, 0, Option.none⟩ (.slice (some ⟨g, 0, Option.none⟩) l.length cap)) w2) :
    MPost b (.slice (some ⟨g, 0, Option.none⟩) (l ++ [x]).length cap) w e0 l e0 w2 := by
  have hl := hs.lt
  obtain ⟨h1, v', h2, h3, h4⟩ := pop_done (e0 := e0) hs hW
  obtain ⟨T, hT⟩ := h2.box
  have hv : v' = .slice (some ⟨g, 0, Option.none⟩) l.length cap := by
    obtain ⟨T', hT'⟩ := hs.box
    have hblt := hs.lt b (.inl rfl)
    simp only [World.setCell, Array.getElem?_modify, if_true, hW.block b hblt, hT', Option.map_some, Option.some.injEq, Obj.cells.injEq] at hT
    have := hT.1
    simp at this
    exact this.symm
  subst hv
  refine ⟨h1, _, h2.keeps hk ?_, h3.trans' hk (fun i hi => .inr hi), h4⟩
  intro k hk' hge
  have := hl k (hk'.imp id (fun h => by simpa [Value.ownBlock] using h))
  omega

set_option maxHeartbeats 1000000 in
theorem pop_none (b : Nat) (v : Value) (w : World) (hs : Stk w b v []) :
    Calls Tryd.prog 14 #[.pointer (some ⟨b, 0, Option.none⟩)] w (MPost b v w (.returned (.tuple #[El.none.v, .int .i64 60])) []) := by
  have hc := hs.cell
  have hblt := hs.lt b (.inl rfl)
  have HS := Lib.hid hs
  rcases hs.form with ⟨rfl, _⟩ | ⟨g, cap, rfl, hg, hgb, h1, h2, _, _⟩
  all_goals
    clear hs
    go_enter Tryd.func14, Tryd.ntmps14
    go_wp2
    refine bodyPost_ret (v := .tuple #[El.none.v, .int .i64 60]) (by simp [results, Tryd.results14, go_sem, El.v, El.none]) rfl ⟨rfl, _, HS.out.below ?_, Keeps.of_below ?_, fun k hk => .inl hk⟩
    all_goals exact (Below.refl _ _).alloc (Nat.le_refl _) _

set_option maxHeartbeats 1000000 in
theorem pop_some (b : Nat) (v : Value) (l : List El) (x : El) (w : World) (hs : Stk w b v (l ++ [x])) :
    Calls Tryd.prog 14 #[.pointer (some ⟨b, 0, Option.none⟩)] w (MPost b v w (.returned (.tuple #[x.v, .int .i64 0])) l) := by
  have hc := hs.cell
  have hf := hs.frozen
  have hblt := hs.lt b (.inl rfl)
  have HS := Lib.hid hs
  have hlen := hs.len
  have htop := top_any b v (l ++ [x]) _ (hs.below ((Below.refl w.heap.size w).alloc (Nat.le_refl _) (.cells #[.int .i64 0, .string ⟨#[]⟩, .string ⟨#[]⟩] 30)))
  have e1 : topE (l ++ [x]) = x := by simp [topE]
  rw [e1] at htop
  have HT := Lib.hid htop
  clear htop e1
  rcases hs.form with ⟨_, h⟩ | ⟨g, cap, rfl, hg, hgb, h1, h2, _, _⟩
  · simp at h
  · clear hs
    simp only [List.length_append, List.length_cons, List.length_nil, Nat.zero_add] at hlen h1 hc
    go_enter Tryd.func14, Tryd.ntmps14
    go_wp2_with fail
    refine HT.out.mono ?_
    rintro e w' ⟨rfl, hb⟩
    rw [El.v]
    have hsz : w.heap.size < w'.heap.size := by have := hb.size; simp at this; omega
    have q : ∀ o, w'.cell? ⟨w.heap.size, o, Option.none⟩ = (w.alloc (.cells #[.int .i64 0, .string ⟨#[]⟩, .string ⟨#[]⟩] 30)).cell? ⟨w.heap.size, o, Option.none⟩ := fun o => hb.cell (p := ⟨w.heap.size, o, Option.none⟩) (by simp)
    have qf : ∀ o, w'.frozen? ⟨w.heap.size, o, Option.none⟩ = false := fun o => (hb.frozen (p := ⟨w.heap.size, o, Option.none⟩) (by simp)).trans (by simp [go_sem])
    have q0 : w'.cell? ⟨w.heap.size, 0, Option.none⟩ = some (.int .i64 0) := (q 0).trans (by simp [go_sem])
    have q1 : w'.cell? ⟨w.heap.size, 1, Option.none⟩ = some (.string ⟨#[]⟩) := (q 1).trans (by simp [go_sem])
    have q2 : w'.cell? ⟨w.heap.size, 2, Option.none⟩ = some (.string ⟨#[]⟩) := (q 2).trans (by simp [go_sem])
    clear q
    have hc1 : w'.cell? ⟨b, 0, Option.none⟩ = some (.slice (some ⟨g, 0, Option.none⟩) (l.length + 1) cap) := ((((Below.refl w.heap.size w).alloc (Nat.le_refl _) _).trans (hb.mono (by simp))).cell (p := ⟨b, 0, Option.none⟩) hblt).trans hc
    have hf1 : w'.frozen? ⟨b, 0, Option.none⟩ = false := ((((Below.refl w.heap.size w).alloc (Nat.le_refl _) _).trans (hb.mono (by simp))).frozen (p := ⟨b, 0, Option.none⟩) hblt).trans hf
    have hb2 : b < w'.heap.size := by omega
    go_wp2
    go_region
    all_goals
      go_wp2
      refine bodyPost_ret (v := .tuple #[x.v, .int .i64 0]) (by simp [results, Tryd.results14, go_sem, El.v, q0, q1, q2, hsz]) rfl ?_
      refine pop_done' HS.out (((Below.refl w.heap.size w).alloc (Nat.le_refl _) _).trans (hb.mono (by simp))) ?_
      exact (((((Keeps.refl _ _).setCell (p := ⟨w.heap.size, 0, Option.none⟩) (.inl (Nat.le_refl _)) _).setCell (p := ⟨w.heap.size, 1, Option.none⟩) (.inl (Nat.le_refl _)) _).setCell (p := ⟨w.heap.size, 2, Option.none⟩) (.inl (Nat.le_refl _)) _).alloc _).drew
end Go.Proofs.YtibfiblajicdpaaDoor
