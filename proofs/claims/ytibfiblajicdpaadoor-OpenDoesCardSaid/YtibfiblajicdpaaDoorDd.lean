/- The law OpenDoes, walked: it returns true. -/
import Derived.Test.YtibfiblajicdpaaDoorDc
import Derived.Deep.RegionHeld3
namespace Go.Proofs.YtibfiblajicdpaaDoor
open Go Go.RowKit

theorem does_all (w0 : World) (S : Nat → Prop) (b1 b2 : Nat) (l : List El) (W : World) (hT0 : Two w0 S b1 b2 l l W) (hg0 : Glob w0) (hS0 : ∀ k, S k → 0 < k) (x : Ac) (na : Option Addr) (nn nc : Nat) (ns : List ByteArray) (hv : Aside2 w0 S (.slice na nn nc) ns) (hn : ns.length * 16 ≤ 140737488355328) (hlen : l.length < 900000) :
    Calls Tryd.prog 17 #[.pointer (some ⟨b1, 0, Option.none⟩), .pointer (some ⟨b2, 0, Option.none⟩), .agg #[.int .i64 x.kind, .int .i64 x.e.id, .string x.e.sp, .string x.e.nm, .int .i64 x.n, .int .u8 x.scope, .slice na nn nc, .bool x.on]] W (DoesPost w0 S b1 b2 (l.length + 1)) := by
  by_cases h1 : x.kind = 1
  · exact does_push w0 S b1 b2 l W hT0 hg0 hS0 x na nn nc ns hv hn hlen h1
  by_cases h2 : x.kind = 2
  · exact does_pop w0 S b1 b2 l W hT0 hg0 hS0 x na nn nc ns hv hn hlen h2
  by_cases h3 : x.kind = 3
  · exact does_at w0 S b1 b2 l W hT0 hg0 hS0 x na nn nc ns hv hn hlen h3
  by_cases h4 : x.kind = 4
  · exact does_remove w0 S b1 b2 l W hT0 hg0 hS0 x na nn nc ns hv hn hlen h4
  by_cases h5 : x.kind = 5
  · exact does_insert w0 S b1 b2 l W hT0 hg0 hS0 x na nn nc ns hv hn hlen h5
  by_cases h6 : x.kind = 6
  · exact does_replace w0 S b1 b2 l W hT0 hg0 hS0 x na nn nc ns hv hn hlen h6
  by_cases h7 : x.kind = 7
  · exact does_has w0 S b1 b2 l W hT0 hg0 hS0 x na nn nc ns hv hn hlen h7
  by_cases h8 : x.kind = 8
  · exact does_hasid w0 S b1 b2 l W hT0 hg0 hS0 x na nn nc ns hv hn hlen h8
  by_cases h9 : x.kind = 9
  · exact does_implied w0 S b1 b2 l W hT0 hg0 hS0 x na nn nc ns hv hn hlen h9
  by_cases h10 : x.kind = 10
  · exact does_popto w0 S b1 b2 l W hT0 hg0 hS0 x na nn nc ns hv hn hlen h10
  by_cases h11 : x.kind = 11
  · exact does_clear w0 S b1 b2 l W hT0 hg0 hS0 x na nn nc ns hv hn hlen h11
  exact does_else w0 S b1 b2 l W hT0 hg0 hS0 x na nn nc ns hv hn hlen ⟨h1, h2, h3, h4, h5, h6, h7, h8, h9, h10, h11⟩

set_option maxRecDepth 100000 in
set_option maxHeartbeats 4000000 in
theorem same_any (b1 b2 : Nat) (v1 v2 : Value) (l : List El) (w : World) (hs1 : Stk w b1 v1 l) (hs2 : Stk w b2 v2 l) :
    Calls Tryd.prog 18 #[.pointer (some ⟨b1, 0, Option.none⟩), .pointer (some ⟨b2, 0, Option.none⟩)] w fun e w' => e = .returned (.bool true) ∧ Below w.heap.size w w' := by
  have hlen := hs1.len
  have HL := Lib.hid (fun W (h : Below w.heap.size w W) => len_any b1 v1 l W (hs1.below h))
  have HT1 := Lib.hid (fun W (h : Below w.heap.size w W) => top_any b1 v1 l W (hs1.below h))
  have HT2 := Lib.hid (fun W (h : Below w.heap.size w W) => rtop_any b2 v2 l W (hs2.below h))
  have HAT := Lib.hid (fun W (h : Below w.heap.size w W) i => at_any b1 v1 l i W (hs1.below h))
  have hc := hs2.cell
  have hblt := hs2.lt b2 (.inl rfl)
  have HS2 := Lib.hid hs2
  obtain ⟨va, vc, rfl⟩ : ∃ a c, v2 = .slice a l.length c := by
    rcases hs2.form with ⟨rfl, rfl⟩ | ⟨g, cap, rfl, _⟩
    · exact ⟨_, _, rfl⟩
    · exact ⟨_, _, rfl⟩
  generalize topE l = X at *
  rw [El.v] at HT1 HT2
  clear hs1 hs2
  have hbd : Below w.heap.size w w.drew := (Below.refl _ _).drew
  go_enter Tryd.func18, Tryd.ntmps18
  go_wp2_with fail
  go_region_held3 (fun w' => w'.cell? ⟨b2, 0, Option.none⟩ = some (.slice va l.length vc) ∧ Below w.heap.size w w')
    (first | exact ⟨(hb'.cell (p := ⟨b2, 0, Option.none⟩) hblt).trans hc, hb'⟩ | exact ⟨hc, hbd⟩ | go_keep)
    (first
      | (go_at_call 12; refine (HL.out _ (by first | assumption | exact (by assumption : _ ∧ _).2)).mono ?_; rintro e w' ⟨rfl, rfl⟩; have hb' : Below w.heap.size w _ := (by first | assumption | exact (by assumption : _ ∧ _).2))
      | (go_at_call 20; refine (HT1.out _ (by first | assumption | exact (by assumption : _ ∧ _).2)).mono ?_; rintro e w' ⟨rfl, hb⟩; have hb' : Below w.heap.size w w' := Below.trans (by first | assumption | exact (by assumption : _ ∧ _).2) (hb.mono (Below.size (by first | assumption | exact (by assumption : _ ∧ _).2))))
      | (go_at_call 50; refine (HT2.out _ (by first | assumption | exact (by assumption : _ ∧ _).2)).mono ?_; rintro e w' ⟨rfl, hb⟩; have hb' : Below w.heap.size w w' := Below.trans (by first | assumption | exact (by assumption : _ ∧ _).2) (hb.mono (Below.size (by first | assumption | exact (by assumption : _ ∧ _).2)))))
  all_goals
    have hbw : Below w.heap.size w w' := hb'
    clear hb'
    go_wp2_with fail
    go_loopw [5, 6, 7] (fun i _ _ wr => ∃ k : Nat, k ≤ l.length ∧ i = .int .i64 k ∧ Below w.heap.size w wr) (fun i _ _ _ => l.length - (intOf i).toNat)
    case atStart => exact ⟨0, by omega, rfl, hbw⟩
    case round =>
      obtain ⟨k, hk, rfl, hbr⟩ := hrel
      have hcr := (hbr.cell (p := ⟨b2, 0, Option.none⟩) hblt).trans hc
      by_cases hlt : k < l.length
      · obtain ⟨g, rfl⟩ : ∃ g, va = some ⟨g, 0, Option.none⟩ := by
          rcases HS2.out.form with ⟨_, rfl⟩ | ⟨g, cap, he, _⟩
          · simp at hlt
          · cases he; exact ⟨_, rfl⟩
        have hat := HAT.out wr hbr k
        rw [show atE l k = l[k] from by simp [atE, hlt]] at hat
        have HA := Lib.hid hat
        have HSA : Hid (∀ W, Below w.heap.size w W → W.cell? ⟨g, k * 3, Option.none⟩ = some (.int .i64 l[k].id) ∧ W.cell? ⟨g, k * 3 + 1, Option.none⟩ = some (.string l[k].sp) ∧ W.cell? ⟨g, k * 3 + 2, Option.none⟩ = some (.string l[k].nm)) := fun W h => stk_at HS2.out k hlt h
        have hgl : g < w.heap.size := HS2.out.lt g (.inr rfl)
        clear hat
        generalize l[k] = z at *
        go_wp2_with fail
        refine HA.out.mono ?_
        rintro e w6 ⟨rfl, hb6⟩
        rw [El.v]
        have hbr6 := hbr.trans (hb6.mono hbr.size)
        obtain ⟨p0, p1, p2⟩ := HSA.out w6 hbr6
        have hc6 := (hbr6.cell (p := ⟨b2, 0, Option.none⟩) hblt).trans hc
        have hg6 : g < w6.heap.size := Nat.lt_of_lt_of_le hgl hbr6.size
        have hb26 : b2 < w6.heap.size := Nat.lt_of_lt_of_le hblt hbr6.size
        go_wp2_with fail
        go_quiet (fail)
        go_wp2
        go_roundw
        case rel => exact ⟨k + 1, by omega, by go_num, bDrewN (hbr6.alloc hbr6.size _) _⟩
        case measure => simp [intOf] <;> omega
      · obtain rfl : k = l.length := by omega
        go_wp2
        go_ret
        exact ⟨rfl, hbr⟩

/-- an act with its names -/
structure AcN where
  a : Ac
  na : Option Addr
  nn : Nat
  nc : Nat
  ns : List ByteArray

def AcN.cells (x : AcN) : List Value := [.int .i64 x.a.kind, .int .i64 x.a.e.id, .string x.a.e.sp, .string x.a.e.nm, .int .i64 x.a.n, .int .u8 x.a.scope, .slice x.na x.nn x.nc, .bool x.a.on]

/-- the slice value v holds the acts l -/
def ActsAt (w : World) (v : Value) (l : List AcN) : Prop :=
  (l = [] ∧ ∃ a c, v = .slice a 0 c) ∨
  (∃ b off c, v = .slice (some ⟨b, off, Option.none⟩) l.length c ∧ b < w.heap.size ∧ 0 < l.length ∧
    ∀ j x, l[j]? = some x → (∀ i u, x.cells[i]? = some u → w.cell? ⟨b, off + j * 8 + i, Option.none⟩ = some u) ∧ StrsAt w (.slice x.na x.nn x.nc) x.ns ∧ x.ns.length * 16 ≤ 140737488355328)

theorem stk_new {W : World} {b : Nat} {T : TypeId} (h : W.heap[b]? = some (.cells #[.slice Option.none 0 0] T (0, 0))) : Stk W b (.slice Option.none 0 0) [] :=
  ⟨⟨T, h⟩, World.ownsRow_nil _ _ _ _, by simp [Value.ownBlock], by simp⟩

theorem fp_new {b k : Nat} : fp b (.slice Option.none 0 0) k ↔ k = b := by simp [fp, Value.ownBlock]

set_option maxRecDepth 100000 in
set_option maxHeartbeats 8000000 in
theorem does_walk (va : Value) (acts : List AcN) (w : World) (hg : Glob w) (hv : ActsAt w va acts) :
    Calls Tryd.prog 6 #[va] w fun e w' => e = .returned (.bool true) ∧ Below w.heap.size w w' := by
  obtain ⟨la, lc, rfl⟩ : ∃ a c, va = .slice a acts.length c := by
    rcases hv with ⟨rfl, a, c, rfl⟩ | ⟨b, off, c, rfl, _⟩
    · exact ⟨_, _, rfl⟩
    · exact ⟨_, _, rfl⟩
  by_cases hbig : 3000 < (acts.length : Int)
  · go_enter Tryd.func6, Tryd.ntmps6
    go_wp2_with fail
    refine (works_any _ hg).mono ?_
    rintro e w1 ⟨rfl, hb1⟩
    go_wp2_with fail
    go_ret
    exact ⟨rfl, hb1⟩
  · have HV := Lib.hid hv
    clear hv
    go_enter Tryd.func6, Tryd.ntmps6
    go_wp2_with fail
    refine (works_any _ hg).mono ?_
    rintro e w1 ⟨rfl, hb1⟩
    go_wp2_with fail
    obtain ⟨W3, hW3⟩ : ∃ W3, W3 = (((w1.alloc (.cells #[.slice Option.none 0 0] 27)).alloc (.cells #[.slice Option.none 0 0] 27)).alloc (.cells #[.slice Option.none 0 0] 48)) := ⟨_, rfl⟩
    have hbW : Below w1.heap.size w1 W3 := by rw [hW3]; exact (((Below.refl _ _).alloc (Nat.le_refl _) _).alloc (by simp) _).alloc (by simp; omega) _
    have hsz3 : W3.heap.size = w1.heap.size + 3 := by rw [hW3]; simp
    have n1 : W3.heap[w1.heap.size]? = some (.cells #[.slice Option.none 0 0] 27 (0, 0)) := by
      rw [hW3, heap_alloc_old _ _ (by simp; omega), heap_alloc_old _ _ (by simp), heap_alloc_new]
    have n2 : W3.heap[w1.heap.size + 1]? = some (.cells #[.slice Option.none 0 0] 27 (0, 0)) := by
      rw [hW3, heap_alloc_old _ _ (by simp)]
      have := heap_alloc_new (w1.alloc (.cells #[.slice Option.none 0 0] 27)) (.cells #[.slice Option.none 0 0] 27)
      rwa [World.size_alloc] at this
    have n3 : W3.heap[w1.heap.size + 2]? = some (.cells #[.slice Option.none 0 0] 48 (0, 0)) := by
      rw [hW3]
      have := heap_alloc_new ((w1.alloc (.cells #[.slice Option.none 0 0] 27)).alloc (.cells #[.slice Option.none 0 0] 27)) (.cells #[.slice Option.none 0 0] 48)
      rwa [World.size_alloc, World.size_alloc] at this
    have hbw3 : Below w.heap.size w W3 := hb1.trans (hbW.mono hb1.size)
    have hg3 : Glob W3 := hg.below hg.lt hbw3
    have hw1 : w.heap.size ≤ w1.heap.size := hb1.size
    have hT0 : Two W3 (fun k => k = w1.heap.size ∨ k = w1.heap.size + 2) w1.heap.size (w1.heap.size + 2) [] [] W3 := by
      refine ⟨⟨_, _, stk_new n1, stk_new n3, ?_, ?_, ?_⟩, Keeps.refl _ _⟩
      · intro k hk; rw [fp_new] at hk; exact .inl (.inl hk)
      · intro k hk; rw [fp_new] at hk; exact .inl (.inr hk)
      · intro k h1 h2; rw [fp_new] at h1 h2; omega
    have HS : Hid (∀ k, (k = w1.heap.size ∨ k = w1.heap.size + 2) → 0 < k) := fun k hk => by have := hg.lt; omega
    have HN2 := Lib.hid n2
    have HG3 := Lib.hid hg3
    have HB3 := Lib.hid hbw3
    have HSZ := Lib.hid hsz3
    clear n1 n2 n3 hg3 hbw3 hsz3 hbW hb1
    rw [← hW3]
    clear hW3
    go_loopw [7, 8] (fun i _ wr => ∃ (k : Nat) (l : List El), k ≤ acts.length ∧ l.length ≤ k ∧ i = .int .i64 k ∧ Two W3 (fun k => k = w1.heap.size ∨ k = w1.heap.size + 2) w1.heap.size (w1.heap.size + 2) l l wr) (fun i _ _ => acts.length - (intOf i).toNat)
    case atStart => exact ⟨0, [], by omega, by simp, rfl, hT0⟩
    case round =>
      obtain ⟨k, l, hk, hlk, rfl, hT⟩ := hrel
      clear hT0
      by_cases hlt : k < acts.length
      · obtain ⟨b, off, rfl, hbl, hcs, hst, hns⟩ : ∃ b off, la = some ⟨b, off, Option.none⟩ ∧ b < w.heap.size ∧ (∀ i u, acts[k].cells[i]? = some u → w.cell? ⟨b, off + k * 8 + i, Option.none⟩ = some u) ∧ StrsAt w (.slice acts[k].na acts[k].nn acts[k].nc) acts[k].ns ∧ acts[k].ns.length * 16 ≤ 140737488355328 := by
          rcases HV.out with ⟨rfl, _⟩ | ⟨b, off, c, he, h1, _, h3⟩
          · simp at hlt
          · cases he
            exact ⟨b, off, rfl, h1, h3 k acts[k] (by simp [hlt])⟩
        have hbr : wr.heap[b]? = w.heap[b]? := by
          have h5 := HSZ.out
          have h6 := hT.keeps.block b (by omega) (by omega)
          rw [h6]; exact HB3.out.block b hbl
        have cel : ∀ i u, acts[k].cells[i]? = some u → wr.cell? ⟨b, off + k * 8 + i, Option.none⟩ = some u := fun i u hu =>
          (World.cell?_of_block (w := w) (a := ⟨b, off + k * 8 + i, Option.none⟩) hbr).trans (hcs i u hu)
        have asd : Aside2 W3 (fun k => k = w1.heap.size ∨ k = w1.heap.size + 2) (.slice acts[k].na acts[k].nn acts[k].nc) acts[k].ns :=
          ⟨hst.below (Nat.le_refl _) HB3.out, fun hn nb o n c e => by have := hst.blk hn nb o n c e; omega⟩
        have hd := does_all W3 _ w1.heap.size (w1.heap.size + 2) l wr hT HG3.out HS.out acts[k].a acts[k].na acts[k].nn acts[k].nc acts[k].ns asd hns (by omega)
        have q0 := cel 0 _ rfl
        have q1 := cel 1 _ rfl
        have q2 := cel 2 _ rfl
        have q3 := cel 3 _ rfl
        have q4 := cel 4 _ rfl
        have q5 := cel 5 _ rfl
        have q6 := cel 6 _ rfl
        have q7 := cel 7 _ rfl
        simp only [Nat.add_zero] at q0
        have HD := Lib.hid hd
        clear hd asd cel hcs hst hns hbr
        generalize acts[k] = x at *
        obtain ⟨⟨xk, ⟨xi, xs, xm⟩, xn, xc, xo⟩, na, nn, nc, ns⟩ := x
        simp only at q0 q1 q2 q3 q4 q5 q6 q7
        go_wp2_with fail
        refine HD.out.mono ?_
        rintro e w2 ⟨l', rfl, hT2, hl2⟩
        go_wp2_with fail
        go_roundw
        case rel => exact ⟨k + 1, l', by omega, by omega, by go_num, hT2⟩
        case measure => simp [intOf] <;> omega
      · obtain rfl : k = acts.length := by omega
        obtain ⟨v1, v2, hs1, hs2, _⟩ := hT.ex
        have hbE : Below w.heap.size w wr := HB3.out.trans (hT.keeps.below HB3.out.size (fun k hk => by omega))
        have hs3 : Stk wr (w1.heap.size + 1) (.slice Option.none 0 0) [] := stk_new ((hT.keeps.block _ (by have := HSZ.out; omega) (by omega)).trans HN2.out)
        have HSM := Lib.hid (same_any _ _ v1 v2 l wr hs1 hs2)
        have HS3 := Lib.hid hs3
        clear hs1 hs2 hs3
        go_wp2_with fail
        refine HSM.out.mono ?_
        rintro e w2 ⟨rfl, hb2⟩
        go_wp2_with fail
        refine (len_any _ _ [] w2 (HS3.out.below hb2)).mono ?_
        rintro e w3 ⟨rfl, rfl⟩
        go_wp2_with fail
        go_ret
        exact ⟨rfl, hbE.trans (hb2.mono hbE.size)⟩
end Go.Proofs.YtibfiblajicdpaaDoor
