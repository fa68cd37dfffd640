/- What At and Lost do. -/
import Derived.Test.YtmhofhblgcjihaaZo
import Derived.StillTailTactics
namespace Go.Proofs.Ytmhofhblgcjihaa
open Go Go.RowKit Go.Shelf

/-- an entry that comes out: it is its owner's -/
def OutPost (x : Ab) (more : Array Value) (w : World) (e : Ending) (w' : World) : Prop :=
  ∃ a c, e = .returned (.tuple (#[.agg #[.int .i64 x.el.id, .string x.el.sp, .string x.el.nm, .slice a x.ats.length c]] ++ more)) ∧ AtsAt w' (.slice a x.ats.length c) x.ats ∧ (∀ q o, a = some ⟨q, o, Option.none⟩ → w.heap.size ≤ q ∧ q < w'.heap.size) ∧ Below w.heap.size w w'

set_option maxRecDepth 100000 in
set_option maxHeartbeats 2000000 in
theorem at_out (b : Nat) (v : Value) (es : List En) (i : Int) (w : World) (hs : Raw w b v es) (h : ¬ (0 ≤ i ∧ i < es.length)) :
    Calls Try.prog 12 #[.pointer (some ⟨b, 0, Option.none⟩), .int .i64 i] w (OutPost Ab.none #[.int .i64 70] w) := by
  have hc := hs.cell
  have hblt := hs.lt b (.inl rfl)
  obtain ⟨va, vc, rfl⟩ : ∃ a c, v = .slice a es.length c := by
    rcases hs.form with ⟨h, h2⟩ | ⟨g, cap, h1, _⟩
    · exact ⟨_, _, by rw [h2]; exact h⟩
    · exact ⟨_, _, h1⟩
  clear hs
  by_cases hi : i < 0
  · clear h
    go_enter Try.func12, Try.ntmps12
    go_wp2_with fail
    refine bodyPost_ret (v := .tuple #[.agg #[.int .i64 0, .string ⟨#[]⟩, .string ⟨#[]⟩, .slice Option.none 0 0], .int .i64 70]) (by simp [results, Try.results12, go_sem]) rfl ?_
    exact ⟨Option.none, 0, rfl, .inl ⟨rfl, _, _, rfl⟩, (fun q o e => by cases e), (Below.refl _ _).alloc (Nat.le_refl _) _⟩
  · have hi3 : (es.length : Int) ≤ i := by omega
    clear h
    go_enter Try.func12, Try.ntmps12
    go_wp2_with fail
    refine bodyPost_ret (v := .tuple #[.agg #[.int .i64 0, .string ⟨#[]⟩, .string ⟨#[]⟩, .slice Option.none 0 0], .int .i64 70]) (by simp [results, Try.results12, go_sem]) rfl ?_
    exact ⟨Option.none, 0, rfl, .inl ⟨rfl, _, _, rfl⟩, (fun q o e => by cases e), (Below.refl _ _).alloc (Nat.le_refl _) _⟩

set_option maxRecDepth 100000 in
set_option maxHeartbeats 2000000 in
theorem at_in (b : Nat) (v : Value) (es : List En) (i : Nat) (w : World) (hs : Raw w b v es) (hi : i < es.length) :
    Calls Try.prog 12 #[.pointer (some ⟨b, 0, Option.none⟩), .int .i64 i] w (OutPost es[i].ab #[.int .i64 0] w) := by
  have hc := hs.cell
  have hblt := hs.lt b (.inl rfl)
  have hlen := hs.len
  have HS := Lib.hid hs
  have hdr : Below w.heap.size w w.drew := (Below.refl _ _).drew
  rcases hs.form with ⟨_, rfl⟩ | ⟨g, cap, rfl, hg, hgb, h1, h2, _, _⟩
  · simp at hi
  · clear hs
    have hal : Below w.heap.size w (w.alloc (.cells #[.int .i64 0, .string ⟨#[]⟩, .string ⟨#[]⟩, .slice Option.none 0 0] 37)) := (Below.refl _ _).alloc (Nat.le_refl _) _
    have hdr1 := hal.drew
    obtain ⟨c0, c1, c2, c3⟩ := HS.out.at4 i hi hal
    have hat := (HS.out.ats es[i] (List.getElem_mem hi)).below (Nat.le_refl _) hdr1
    have hsm := HS.out.sm es[i] (List.getElem_mem hi)
    generalize es[i] = x at *
    have hcb := (hal.cell (p := ⟨b, 0, Option.none⟩) hblt).trans hc
    have hk := kept_any x.el (.slice x.a x.ats.length x.c) x.ats (w.alloc (.cells #[.int .i64 0, .string ⟨#[]⟩, .string ⟨#[]⟩, .slice Option.none 0 0] 37)).drew hat hsm
    have HK := Lib.hid hk
    have hz : ∀ o, (w.alloc (.cells #[.int .i64 0, .string ⟨#[]⟩, .string ⟨#[]⟩, .slice Option.none 0 0] 37)).drew.frozen? ⟨w.heap.size, o, Option.none⟩ = false := fun o => by simp [go_sem]
    have z0 : (w.alloc (.cells #[.int .i64 0, .string ⟨#[]⟩, .string ⟨#[]⟩, .slice Option.none 0 0] 37)).drew.cell? ⟨w.heap.size, 0, Option.none⟩ = some (.int .i64 0) := by simp [go_sem]
    have z1 : (w.alloc (.cells #[.int .i64 0, .string ⟨#[]⟩, .string ⟨#[]⟩, .slice Option.none 0 0] 37)).drew.cell? ⟨w.heap.size, 1, Option.none⟩ = some (.string ⟨#[]⟩) := by simp [go_sem]
    have z2 : (w.alloc (.cells #[.int .i64 0, .string ⟨#[]⟩, .string ⟨#[]⟩, .slice Option.none 0 0] 37)).drew.cell? ⟨w.heap.size, 2, Option.none⟩ = some (.string ⟨#[]⟩) := by simp [go_sem]
    have z3 : (w.alloc (.cells #[.int .i64 0, .string ⟨#[]⟩, .string ⟨#[]⟩, .slice Option.none 0 0] 37)).drew.cell? ⟨w.heap.size, 3, Option.none⟩ = some (.slice Option.none 0 0) := by simp [go_sem]
    have hsz : (w.alloc (.cells #[.int .i64 0, .string ⟨#[]⟩, .string ⟨#[]⟩, .slice Option.none 0 0] 37)).drew.heap.size = w.heap.size + 1 := by simp
    have hil : (i : Int) < (es.length : Int) := by omega
    have HAL := Lib.hid hdr1
    clear hk hat hdr hal hdr1 hc
    go_enter Try.func12, Try.ntmps12
    go_wp2_with fail
    generalize w.alloc (.cells #[.int .i64 0, .string ⟨#[]⟩, .string ⟨#[]⟩, .slice Option.none 0 0] 37) = w0 at *
    refine wp_region_still_tail 16 (by kernel_rfl) (by kernel_rfl) ?_
    simp only [List.take_succ_cons, List.take_zero, List.drop_succ_cons, List.drop_zero]
    repeat still_step
    refine wpStill_nil ?_
    change wpList _ _ _ _ _ w0.drew
    clear hcb c0 c1 c2 c3
    generalize w0.drew = w1 at *
    go_wp2_with fail
    refine HK.out.mono ?_
    rintro e w2 ⟨ka, kc, rfl, hka, hkq, hkb⟩
    have hws : w.heap.size < w1.heap.size := by omega
    have y0 := (hkb.cell (p := ⟨w.heap.size, 0, Option.none⟩) hws).trans z0
    have y1 := (hkb.cell (p := ⟨w.heap.size, 1, Option.none⟩) hws).trans z1
    have y2 := (hkb.cell (p := ⟨w.heap.size, 2, Option.none⟩) hws).trans z2
    have y3 := (hkb.cell (p := ⟨w.heap.size, 3, Option.none⟩) hws).trans z3
    have yf : ∀ o, w2.frozen? ⟨w.heap.size, o, Option.none⟩ = false := fun o => (hkb.frozen (p := ⟨w.heap.size, o, Option.none⟩) hws).trans (hz o)
    have hka' := Lib.hid hka
    have hkq' := Lib.hid hkq
    have hkb' := Lib.hid hkb
    clear hka hkq hkb z0 z1 z2 z3 hz
    go_wp2_with fail
    refine bodyPost_ret (v := .tuple #[.agg #[.int .i64 x.el.id, .string x.el.sp, .string x.el.nm, .slice ka x.ats.length kc], .int .i64 0]) (by simp [results, Try.results12, go_sem, y0, y1, y2, y3]) rfl ⟨ka, kc, rfl, hka'.out.keeps (S := fun k => k = w.heap.size) ?_ ?_, fun q o e => ?_, ?_⟩
    · exact ((((Keeps.refl (fun k => k = w.heap.size) w2).setCell (p := ⟨w.heap.size, 0, Option.none⟩) (.inl rfl) _).setCell (p := ⟨w.heap.size, 1, Option.none⟩) (.inl rfl) _).setCell (p := ⟨w.heap.size, 2, Option.none⟩) (.inl rfl) _).setCell (p := ⟨w.heap.size, 3, Option.none⟩) (.inl rfl) _
    · intro _ q o n c e hq
      injection e with e1
      have := hkq'.out q o e1
      omega
    · have h1 := hkq'.out q o e
      simp [World.setCell]
      omega
    · exact ((((HAL.out.trans (hkb'.out.mono (by omega))).setCell (p := ⟨w.heap.size, 0, Option.none⟩) (Nat.le_refl _) _).setCell (p := ⟨w.heap.size, 1, Option.none⟩) (Nat.le_refl _) _).setCell (p := ⟨w.heap.size, 2, Option.none⟩) (Nat.le_refl _) _).setCell (p := ⟨w.heap.size, 3, Option.none⟩) (Nat.le_refl _) _
end Go.Proofs.Ytmhofhblgcjihaa
