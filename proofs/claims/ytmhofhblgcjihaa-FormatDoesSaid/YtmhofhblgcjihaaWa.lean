/- Copies of attributes and of numbers; the reference's own, times and alike. -/
import Derived.Test.YtmhofhblgcjihaaYa
import Derived.Lib.JoinLaws
import Derived.Deep.RegionHeld3
namespace Go.Proofs.Ytmhofhblgcjihaa
open Go Go.RowKit Go.Shelf

theorem run_ats_none (W : World) (ty : TypeId) (va : Option Addr) (vc : Nat) : (Builtin.append_ #[35, 35] ty #[.slice Option.none 0 0, .slice va 0 vc]).run Try.prog W = .ok (.slice Option.none 0 0) W := by
  obtain ⟨i, hi, _, _, _⟩ := info_parts infoAt
  have ht := Try.underlying35
  cases va <;> simp [Builtin.append_, run_underlying ht, sizeOf, typeInfo, hi, Builtin.lenOf, Builtin.firstCells, loadCells, loadCellsFrom]

/-- what a copy of attributes is -/
theorem run_ats (W : World) (ty : TypeId) (va : Option Addr) (vc : Nat) (l : List At) (hv : AtsAt W (.slice va l.length vc) l) (hn : l.length * 48 ≤ 140737488355328) :
    ∃ ka kc W', (Builtin.append_ #[35, 35] ty #[.slice Option.none 0 0, .slice va l.length vc]).run Try.prog W = .ok (.slice ka l.length kc) W' ∧ AtsAt W' (.slice ka l.length kc) l ∧ Below W.heap.size W W' ∧ (∀ q o, ka = some ⟨q, o, Option.none⟩ → W.heap.size ≤ q ∧ q < W'.heap.size) ∧ (0 < l.length → ∃ q, ka = some ⟨q, 0, Option.none⟩ ∧ ∃ T, W'.heap[q]? = some (.cells T 34 (0, 0))) := by
  obtain ⟨i, hi, hz0, hz1, hz2⟩ := info_parts infoAt
  have ht := Try.underlying35
  rcases hv with ⟨rfl, a, c, he⟩ | ⟨b, off, c, he, hlt, h1, h2, h3⟩
  · cases he
    exact ⟨_, _, _, run_ats_none W ty va vc, .inl ⟨rfl, _, _, rfl⟩, Below.refl _ _, (fun q o e => by cases e), fun h => by simp at h⟩
  · cases he
    have hnews : ∀ j u, (flatA l)[j]? = some u → W.cell? ((⟨b, off, Option.none⟩ : Addr).add j) = some u := by
      intro j u hu
      have hadd : (⟨b, off, Option.none⟩ : Addr).add j = ⟨b, off + j, Option.none⟩ := by unfold Addr.add; split <;> simp_all
      rw [hadd]
      obtain ⟨q, r, x, hx, rfl, hr⟩ := flatA_cell l j u hu
      obtain ⟨e0, e1, e2⟩ := h3 q x hx
      rcases hr with ⟨rfl, rfl⟩ | ⟨rfl, rfl⟩ | ⟨rfl, rfl⟩
      · exact e0
      · exact e1
      · exact e2
    obtain ⟨g, cap, W', hr, hown, hgr, hat, hgl⟩ := run_append_lies (P := Try.prog) W 35 ty W.heap.size 34 i _ 3 48 ht hi hz0 hz1 hz2 rfl (by decide) (.slice Option.none 0 0) 0 [] (World.ownsRow_nil W _ _ _) ⟨b, off, Option.none⟩ l.length vc (flatA l) (flatA_length l) hnews (flatA_one' l) h1 (by unfold maxLen; omega) (by omega) (Nat.le_refl _) _ rfl
    have hg : W.heap.size ≤ g := by
      rcases hat with h | h
      · cases h
      · omega
    rw [Nat.zero_add] at hr hown
    rw [List.nil_append] at hown
    have hO := OwnP.of_row hown
    refine ⟨some ⟨g, 0, Option.none⟩, cap, W', hr, hO.ats h2, ⟨hgr.os, hgr.tape, hgr.output, hgr.size, fun k hk => hgr.block k hk (by simp [Value.ownBlock])⟩, fun q o e => by cases e; exact ⟨hg, hgl⟩, fun _ => ⟨g, rfl, ?_⟩⟩
    rcases hown.2 with ⟨e, _⟩ | ⟨g', cap', cur, e, _, hgg, _⟩
    · cases e
    · cases e; exact ⟨_, hgg⟩

theorem step_append_run {P : Program} {w : World} {ops : Array Oper} {o : Oper} {a : Act} {K : Act → World → Prop} {Q : Exit → Act → World → Prop} {E : Prop} (hgd : o.guard = Option.none) (s x : Operand) (t tn : TypeId)
    (ho : o.op = .call { callee := .builtin .append, args := #[s, x], argTypes := #[t, tn] }) (vs vx : Value) (hs : a.eval s = vs) (hx : a.eval x = vx)
    (v' : Value) (w' : World) (hr : (Builtin.append_ #[t, tn] o.type #[vs, vx]).run P w = .ok v' w') (h : K (a.put o.dst v') w') : if Region.wanted o (yielded ops a.tmps) = true then Oper.wp P o a w K Q else E := by
  have hw : Region.wanted o (yielded ops a.tmps) = true := by simp [Region.wanted, hgd]
  rw [if_pos hw]
  exact Lib.wp_append_run w s x t tn ho vs vx hs hx v' w' hr h

set_option maxRecDepth 100000 in
set_option maxHeartbeats 1000000 in
theorem rown_any (x : El) (v : Value) (l : List At) (w : World) (hv : AtsAt w v l) (hsm : l.length * 48 ≤ 140737488355328) :
    Calls Try.prog 55 #[.agg #[.int .i64 x.id, .string x.sp, .string x.nm], v] w (KeptPost x l w) := by
  have hB : Below w.heap.size w ((w.alloc (.cells #[.int .i64 x.id, .string x.sp, .string x.nm] 29)).alloc (.cells #[.int .i64 0, .string ⟨#[]⟩, .string ⟨#[]⟩, .slice Option.none 0 0] 37)) := ((Below.refl _ _).alloc (Nat.le_refl _) _).alloc (by simp) _
  obtain ⟨va, vc, rfl⟩ := hv.form
  obtain ⟨ka, kc, w1, hr, hka, hb1, hkq, _⟩ := run_ats ((w.alloc (.cells #[.int .i64 x.id, .string x.sp, .string x.nm] 29)).alloc (.cells #[.int .i64 0, .string ⟨#[]⟩, .string ⟨#[]⟩, .slice Option.none 0 0] 37)).drew 35 va vc l (hv.below (Nat.le_refl _) hB.drew) hsm
  have hsz : w.heap.size + 1 < w1.heap.size := by have := hb1.size; simp at this; omega
  have qf : ∀ o, w1.frozen? ⟨w.heap.size + 1, o, Option.none⟩ = false := fun o => (hb1.frozen (p := ⟨w.heap.size + 1, o, Option.none⟩) (by simp)).trans (by simp [go_sem])
  have q0 : w1.cell? ⟨w.heap.size + 1, 0, Option.none⟩ = some (.int .i64 0) := (hb1.cell (p := ⟨w.heap.size + 1, 0, Option.none⟩) (by simp)).trans (by simp [go_sem])
  have q1 : w1.cell? ⟨w.heap.size + 1, 1, Option.none⟩ = some (.string ⟨#[]⟩) := (hb1.cell (p := ⟨w.heap.size + 1, 1, Option.none⟩) (by simp)).trans (by simp [go_sem])
  have q2 : w1.cell? ⟨w.heap.size + 1, 2, Option.none⟩ = some (.string ⟨#[]⟩) := (hb1.cell (p := ⟨w.heap.size + 1, 2, Option.none⟩) (by simp)).trans (by simp [go_sem])
  have q3 : w1.cell? ⟨w.heap.size + 1, 3, Option.none⟩ = some (.slice Option.none 0 0) := (hb1.cell (p := ⟨w.heap.size + 1, 3, Option.none⟩) (by simp)).trans (by simp [go_sem])
  have b0 : ((w.alloc (.cells #[.int .i64 x.id, .string x.sp, .string x.nm] 29)).alloc (.cells #[.int .i64 0, .string ⟨#[]⟩, .string ⟨#[]⟩, .slice Option.none 0 0] 37)).cell? ⟨w.heap.size, 0, Option.none⟩ = some (.int .i64 x.id) := by simp [go_sem]
  have b1 : ((w.alloc (.cells #[.int .i64 x.id, .string x.sp, .string x.nm] 29)).alloc (.cells #[.int .i64 0, .string ⟨#[]⟩, .string ⟨#[]⟩, .slice Option.none 0 0] 37)).cell? ⟨w.heap.size, 1, Option.none⟩ = some (.string x.sp) := by simp [go_sem]
  have b2 : ((w.alloc (.cells #[.int .i64 x.id, .string x.sp, .string x.nm] 29)).alloc (.cells #[.int .i64 0, .string ⟨#[]⟩, .string ⟨#[]⟩, .slice Option.none 0 0] 37)).cell? ⟨w.heap.size, 2, Option.none⟩ = some (.string x.nm) := by simp [go_sem]
  have k0 : w1.cell? ⟨w.heap.size, 0, Option.none⟩ = some (.int .i64 x.id) := (hb1.cell (p := ⟨w.heap.size, 0, Option.none⟩) (by simp; omega)).trans b0
  have k1 : w1.cell? ⟨w.heap.size, 1, Option.none⟩ = some (.string x.sp) := (hb1.cell (p := ⟨w.heap.size, 1, Option.none⟩) (by simp; omega)).trans b1
  have k2 : w1.cell? ⟨w.heap.size, 2, Option.none⟩ = some (.string x.nm) := (hb1.cell (p := ⟨w.heap.size, 2, Option.none⟩) (by simp; omega)).trans b2
  have hbw : Below w.heap.size w w1 := hB.drew.trans (hb1.mono hB.size)
  have HBW := Lib.hid hbw
  have HR := Lib.hid hr
  have HKA := Lib.hid hka
  have hkq2 : ∀ q o, ka = some ⟨q, o, Option.none⟩ → w.heap.size + 2 ≤ q ∧ q < w1.heap.size := by simpa using hkq
  have HKQ := Lib.hid hkq2
  clear hb1 hB hbw hr hka hkq hkq2 hv
  go_enter Try.func55, Try.ntmps55
  go_wp2_with fail
  generalize (w.alloc (.cells #[.int .i64 x.id, .string x.sp, .string x.nm] 29)).alloc (.cells #[.int .i64 0, .string ⟨#[]⟩, .string ⟨#[]⟩, .slice Option.none 0 0] 37) = w0 at *
  go_region_held3 (fun w' => w'.cell? ⟨w.heap.size, 0, Option.none⟩ = some (.int .i64 x.id) ∧ w'.cell? ⟨w.heap.size, 1, Option.none⟩ = some (.string x.sp) ∧ w'.cell? ⟨w.heap.size, 2, Option.none⟩ = some (.string x.nm))
    (first | exact ⟨k0, k1, k2⟩ | go_keep)
    (first | (refine step_append_run rfl _ _ _ _ rfl _ _ rfl rfl _ _ HR.out ?_))
  all_goals
    go_wp2
    have hS : Keeps (fun k => k = w.heap.size + 1) w1 ((((w1.setCell ⟨w.heap.size + 1, 0, Option.none⟩ (.int .i64 x.id)).setCell ⟨w.heap.size + 1, 1, Option.none⟩ (.string x.sp)).setCell ⟨w.heap.size + 1, 2, Option.none⟩ (.string x.nm)).setCell ⟨w.heap.size + 1, 3, Option.none⟩ (.slice ka l.length kc)) :=
      ((((Keeps.refl (fun k => k = w.heap.size + 1) w1).setCell (p := ⟨w.heap.size + 1, 0, Option.none⟩) (.inl rfl) _).setCell (p := ⟨w.heap.size + 1, 1, Option.none⟩) (.inl rfl) _).setCell (p := ⟨w.heap.size + 1, 2, Option.none⟩) (.inl rfl) _).setCell (p := ⟨w.heap.size + 1, 3, Option.none⟩) (.inl rfl) _
    refine bodyPost_ret (v := .agg #[.int .i64 x.id, .string x.sp, .string x.nm, .slice ka l.length kc]) (by simp [results, Try.results55, go_sem, q0, q1, q2, q3]) rfl ⟨ka, kc, rfl, HKA.out.keeps hS ?_, fun q o e => ?_, ?_⟩
    · intro _ q o n c e hq
      injection e with e1
      have h1 := HKQ.out q o e1
      omega
    · have h1 := HKQ.out q o e
      have h2 := hS.size
      exact ⟨by omega, by omega⟩
    · exact HBW.out.trans (hS.below (by omega) (fun k hk => by omega))
end Go.Proofs.Ytmhofhblgcjihaa
