/- Entries that are the same, numbers that are the same; a copy of numbers. -/
import Derived.Test.YtmhofhblgcjihaaWk
namespace Go.Proofs.Ytmhofhblgcjihaa
open Go Go.RowKit Go.Shelf

theorem sameB_self (l : List At) : sameB l l = true := by
  rw [sameB_L, sameL_iff]

set_option maxHeartbeats 1000000 in
theorem sameEntry_eq (x : Ab) (a1 a2 : Option Addr) (c1 c2 : Nat) (w : World) (h1 : AtsAt w (.slice a1 x.ats.length c1) x.ats) (h2 : AtsAt w (.slice a2 x.ats.length c2) x.ats) :
    Calls Try.prog 18 #[.agg #[.int .i64 x.el.id, .string x.el.sp, .string x.el.nm, .slice a1 x.ats.length c1], .agg #[.int .i64 x.el.id, .string x.el.sp, .string x.el.nm, .slice a2 x.ats.length c2]] w fun e w' => e = .returned (.bool true) ∧ Below w.heap.size w w' := by
  have hs : ∀ W, Below w.heap.size w W → Calls Try.prog 14 #[.slice a1 x.ats.length c1, .slice a2 x.ats.length c2] W fun e w' => e = .returned (.bool true) ∧ Below W.heap.size W w' := fun W hW => by
    have := same_any _ _ _ _ W (h1.below (Nat.le_refl _) hW) (h2.below (Nat.le_refl _) hW)
    rwa [sameB_self] at this
  have hal : Below w.heap.size w ((w.alloc (.cells #[.int .i64 x.el.id, .string x.el.sp, .string x.el.nm, .slice a1 x.ats.length c1] 37)).alloc (.cells #[.int .i64 x.el.id, .string x.el.sp, .string x.el.nm, .slice a2 x.ats.length c2] 37)) := ((Below.refl _ _).alloc (Nat.le_refl _) _).alloc (by simp) _
  have HO := Lib.hid (hs _ hal)
  have HAL := Lib.hid hal
  clear hs hal h1 h2
  go_enter Try.func18, Try.ntmps18
  go_wp2_with fail
  refine HO.out.mono ?_
  rintro e w2 ⟨rfl, hb2⟩
  have hb := HAL.out.trans (hb2.mono HAL.out.size)
  clear hb2
  go_wp2_with fail
  go_ret
  exact ⟨ret_bool rfl, by first | exact hb | exact hb.drew⟩

set_option maxHeartbeats 2000000 in
theorem sameInts_eq (va vb : Value) (l : List Int) (w : World) (ha : IntsAt w va l) (hb : IntsAt w vb l) :
    Calls Try.prog 41 #[va, vb] w fun e w' => e = .returned (.bool true) ∧ Below w.heap.size w w' := by
  have hla := ha.len
  obtain ⟨aa, ac, rfl⟩ := ha.form
  obtain ⟨ba, bc, rfl⟩ := hb.form
  have HA := Lib.hid ha
  have HB := Lib.hid hb
  clear ha hb
  go_enter Try.func41, Try.ntmps41
  go_wp2_with fail
  go_loopw [5] (fun i wr => ∃ k : Nat, k ≤ l.length ∧ i = .int .i64 k ∧ Below w.heap.size w wr) (fun i _ => l.length - (intOf i).toNat)
  case atStart => exact ⟨0, by omega, rfl, Below.refl _ _⟩
  case round =>
    obtain ⟨k, hk, rfl, hbw⟩ := hrel
    by_cases hlt : k < l.length
    · obtain ⟨b1, o1, rfl, _, hb1, c0⟩ := ints_at HA.out hlt
      obtain ⟨b2, o2, rfl, _, hb2, d0⟩ := ints_at HB.out hlt
      have c0' := (hbw.cell (p := ⟨b1, o1 + k, Option.none⟩) hb1).trans c0
      have d0' := (hbw.cell (p := ⟨b2, o2 + k, Option.none⟩) hb2).trans d0
      clear c0 d0
      generalize l[k] = x at *
      have hklt : ((k : Nat) : Int) < (l.length : Int) := by omega
      have hw1 : IntKind.i64.wrap ((k : Int) + 1) = (k : Int) + 1 := by rw [IntKind.wrap_i64]; omega
      go_wp2_with fail
      go_quiet (fail)
      go_wp2_with fail
      go_roundw
      case rel => exact ⟨k + 1, by omega, by go_num, by first | exact hbw | exact bDrewN hbw _⟩
      case measure => simp [intOf] <;> omega
    · obtain rfl : k = l.length := by omega
      go_wp2_with fail
      go_ret
      exact ⟨ret_bool rfl, hbw⟩

theorem infoI : (Try.prog.info? 3).map (fun i => (i.zero, i.size, i.bytes)) = some (some (.int .i64 0), 1, 8) := by kernel_rfl

theorem run_ints_none (W : World) (ty : TypeId) (va : Option Addr) (vc : Nat) : (Builtin.append_ #[22, 22] ty #[.slice Option.none 0 0, .slice va 0 vc]).run Try.prog W = .ok (.slice Option.none 0 0) W := by
  obtain ⟨i, hi, _, _, _⟩ := info_parts infoI
  have ht := Try.underlying22
  cases va <;> simp [Builtin.append_, run_underlying ht, sizeOf, typeInfo, hi, Builtin.lenOf, Builtin.firstCells, loadCells, loadCellsFrom]

/-- what a copy of numbers is -/
theorem run_ints (W : World) (ty : TypeId) (va : Option Addr) (vc : Nat) (ns : List Int) (hv : IntsAt W (.slice va ns.length vc) ns) (hn : ns.length * 8 ≤ 140737488355328) :
    ∃ ka kc W', (Builtin.append_ #[22, 22] ty #[.slice Option.none 0 0, .slice va ns.length vc]).run Try.prog W = .ok (.slice ka ns.length kc) W' ∧ IntsAt W' (.slice ka ns.length kc) ns ∧ Below W.heap.size W W' := by
  obtain ⟨i, hi, hz0, hz1, hz2⟩ := info_parts infoI
  have ht := Try.underlying22
  rcases Nat.eq_zero_or_pos ns.length with h0 | hpos
  · obtain rfl := List.eq_nil_of_length_eq_zero h0
    exact ⟨_, _, _, run_ints_none W ty va vc, .inl ⟨rfl, _, _, rfl⟩, Below.refl _ _⟩
  rcases hv with ⟨rfl, a, c, he⟩ | ⟨b, off, c, he, hlt, h1, h3⟩
  · simp at hpos
  · cases he
    have hnews : ∀ j u, (ns.map (Value.int .i64))[j]? = some u → W.cell? ((⟨b, off, Option.none⟩ : Addr).add j) = some u := fun j u hj => by
      have hadd : (⟨b, off, Option.none⟩ : Addr).add j = ⟨b, off + j, Option.none⟩ := by unfold Addr.add; split <;> simp_all
      rw [List.getElem?_map, Option.map_eq_some_iff] at hj
      obtain ⟨s, hs, rfl⟩ := hj
      rw [hadd, h3 j s hs]
    obtain ⟨g, cap, W', hr, hown, hgr, hat, hgl⟩ := run_append_lies (P := Try.prog) W 22 ty W.heap.size 3 i _ 1 8 ht hi hz0 hz1 hz2 rfl (by decide) (.slice Option.none 0 0) 0 [] (World.ownsRow_nil W _ _ _) ⟨b, off, Option.none⟩ ns.length vc (ns.map (Value.int .i64)) (by simp) hnews (by
      intro u hu
      obtain ⟨s, _, rfl⟩ := List.mem_map.1 hu
      rfl) hpos (by unfold maxLen; omega) (by omega) (Nat.le_refl _) _ rfl
    rw [Nat.zero_add] at hr
    refine ⟨_, _, W', hr, .inr ⟨g, 0, cap, rfl, hgl, h1, fun j x hj => ?_⟩, ⟨hgr.os, hgr.tape, hgr.output, hgr.size, fun k hk => hgr.block k hk (by simp [Value.ownBlock])⟩⟩
    have hcell := hown.cells (g := g) rfl j (.int .i64 x) (by simp [hj])
    have hadd : (⟨g, 0, Option.none⟩ : Addr).add j = ⟨g, 0 + j, Option.none⟩ := by unfold Addr.add; split <;> simp_all
    rwa [hadd] at hcell
end Go.Proofs.Ytmhofhblgcjihaa
