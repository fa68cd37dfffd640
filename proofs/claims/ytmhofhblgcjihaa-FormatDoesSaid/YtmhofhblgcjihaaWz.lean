/- The law FormatDoes, walked: it returns true. -/
import Derived.Test.YtmhofhblgcjihaaWx
import Derived.Test.YtmhofhblgcjihaaWn
import Derived.Test.YtmhofhblgcjihaaWo
import Derived.Test.YtmhofhblgcjihaaWp
import Derived.Test.YtmhofhblgcjihaaWq
import Derived.Test.YtmhofhblgcjihaaWs
import Derived.Test.YtmhofhblgcjihaaWt
import Derived.Test.YtmhofhblgcjihaaWy
import Derived.Test.YtmhofhblgcjihaaZw
namespace Go.Proofs.Ytmhofhblgcjihaa
open Go Go.RowKit Go.Shelf

theorem pushB_le (l : List Ab) (e : El) (ats : List At) : (pushB l e ats).length ≤ l.length + 1 := by
  unfold pushB
  rw [List.length_append]
  split
  · exact Nat.succ_le_succ (List.length_eraseIdx_le l ((idxs (alikeB e (sortA ats)) l (baseN l) l.length).headD 0))
  · exact Nat.le_refl _
theorem clearB_le (l : List Ab) : (clearB l).length ≤ l.length := by
  unfold clearB; rw [List.length_take]; omega
theorem remL_le (l : List Ab) (n : Int) : (remL l n).length ≤ l.length := by
  unfold remL
  split
  · exact Nat.le_refl _
  · exact List.length_eraseIdx_le _ _
theorem repL_le (l : List Ab) (n : Int) (e : El) : (repL l n e).length ≤ l.length := by
  unfold repL
  split
  · exact Nat.le_refl _
  · rw [List.length_modify]; exact Nat.le_refl _
theorem insL_le (l : List Ab) (n : Int) (e : El) (ats : List At) : (insL l n e ats).length ≤ l.length + 1 := by
  unfold insL
  split
  · simp; omega
  · omega

def DoesLe (w0 : World) (b1 b2 m : Nat) (e : Ending) (W' : World) : Prop := e = .returned (.bool true) ∧ ∃ l' wB B, l'.length ≤ m ∧ Two w0 wB B b1 b2 l' l' W'

theorem doesLe_of {w0 : World} {b1 b2 m : Nat} {l' : List Ab} {e : Ending} {W' : World} (hl : l'.length ≤ m) (h : DoesPost w0 b1 b2 l' e W') : DoesLe w0 b1 b2 m e W' := by
  obtain ⟨h1, wB, B, h2⟩ := h
  exact ⟨h1, l', wB, B, hl, h2⟩

theorem does_all {w0 wB W : World} {B b1 b2 : Nat} {l : List Ab} (h : Two w0 wB B b1 b2 l l W) (hlen : l.length < 900000) (kd : Int) (e : El) (va : Value) (ats : List At) (n : Int) (vo : Value) (op : List Int) (ha : ActAt w0 va ats vo op) :
    Calls Try.prog 17 #[.pointer (some ⟨b1, 0, Option.none⟩), .pointer (some ⟨b2, 0, Option.none⟩), .agg #[.int .i64 kd, .int .i64 e.id, .string e.sp, .string e.nm, va, .int .i64 n, vo]] W (DoesLe w0 b1 b2 (l.length + 1)) := by
  by_cases h1 : kd = 1
  · subst h1; exact (does_push h hlen e va ats n vo op ha).mono fun _ _ h => doesLe_of (pushB_le _ _ _) h
  by_cases h2 : kd = 2
  · subst h2; exact (does_mark h hlen e va ats n vo op ha).mono fun _ _ h => doesLe_of (by simp) h
  by_cases h3 : kd = 3
  · subst h3; exact (does_clear h e va ats n vo op ha).mono fun _ _ h => doesLe_of (Nat.le_succ_of_le (clearB_le _)) h
  by_cases h4 : kd = 4
  · subst h4; exact (does_at h e va ats n vo op ha).mono fun _ _ h => doesLe_of (Nat.le_succ _) h
  by_cases h5 : kd = 5
  · subst h5; exact (does_find h e va ats n vo op ha).mono fun _ _ h => doesLe_of (Nat.le_succ _) h
  by_cases h6 : kd = 6
  · subst h6; exact (does_remove h e va ats n vo op ha).mono fun _ _ h => doesLe_of (Nat.le_succ_of_le (remL_le _ _)) h
  by_cases h7 : kd = 7
  · subst h7; exact (does_replace h e va ats n vo op ha).mono fun _ _ h => doesLe_of (Nat.le_succ_of_le (repL_le _ _ _)) h
  by_cases h8 : kd = 8
  · subst h8; exact (does_insert h hlen e va ats n vo op ha).mono fun _ _ h => doesLe_of (insL_le _ _ _ _) h
  by_cases h9 : kd = 9
  · subst h9; exact (does_lost h e va ats n vo op ha).mono fun _ _ h => doesLe_of (Nat.le_succ _) h
  exact (does_other h kd h1 h2 h3 h4 h5 h6 h7 h8 h9 e va ats n vo op ha).mono fun _ _ h => doesLe_of (Nat.le_succ _) h

theorem raw_new {W : World} {b : Nat} {T : TypeId} (h : W.heap[b]? = some (.cells #[.slice Option.none 0 0] T (0, 0))) : Raw W b (.slice Option.none 0 0) [] :=
  ⟨⟨T, h⟩, World.ownsRow_nil _ _ _ _, by simp [Value.ownBlock], by simp, fun x h => by simp at h, fun x h => by simp at h, fun x h => by simp at h⟩

/-- the last loop: entry by entry -/
structure Pair (w : World) (b1 b2 : Nat) (l : List Ab) (W : World) : Prop where
  ex : ∃ v1 es1 v2 es2, es1.map En.ab = l ∧ es2.map En.ab = l ∧ Raw W b1 v1 es1 ∧ Raw W b2 v2 es2
  below : Below w.heap.size w W

theorem Two.pair {w0 wB W : World} {B b1 b2 : Nat} {l : List Ab} (h : Two w0 wB B b1 b2 l l W) : Pair w0 b1 b2 l W := by
  obtain ⟨v1, es1, v2, es2, h1, h2, h3, h4, _⟩ := h.ex
  exact ⟨⟨v1, es1, v2, es2, h1, h2, h3, h4⟩, h.below⟩

set_option maxRecDepth 100000 in
set_option maxHeartbeats 8000000 in
theorem does_walk (va : Value) (acts : List AcN) (w : World) (hv : ActsAt w va acts) :
    Calls Try.prog 6 #[va] w fun e w' => e = .returned (.bool true) ∧ Below w.heap.size w w' := by
  obtain ⟨la, lc, rfl⟩ : ∃ a c, va = .slice a acts.length c := by
    rcases hv with ⟨rfl, a, c, rfl⟩ | ⟨b, off, c, rfl, _⟩
    · exact ⟨_, _, rfl⟩
    · exact ⟨_, _, rfl⟩
  by_cases hbig : 3000 < (acts.length : Int)
  · go_enter Try.func6, Try.ntmps6
    go_wp2_with fail
    refine (works_any _).mono ?_
    rintro e w1 ⟨rfl, hb1⟩
    go_wp2_with fail
    go_ret
    exact ⟨rfl, hb1⟩
  · have HV := Lib.hid hv
    clear hv
    go_enter Try.func6, Try.ntmps6
    go_wp2_with fail
    refine (works_any _).mono ?_
    rintro e w1 ⟨rfl, hb1⟩
    go_wp2_with fail
    obtain ⟨W3, hW3⟩ : ∃ W3, W3 = ((w1.alloc (.cells #[.slice Option.none 0 0] 27)).alloc (.cells #[.slice Option.none 0 0] 52)) := ⟨_, rfl⟩
    have hbW : Below w1.heap.size w1 W3 := by rw [hW3]; exact ((Below.refl _ _).alloc (Nat.le_refl _) _).alloc (by simp) _
    have n1 : W3.heap[w1.heap.size]? = some (.cells #[.slice Option.none 0 0] 27 (0, 0)) := by
      rw [hW3]
      exact (heap_alloc_old (w1.alloc (.cells #[.slice Option.none 0 0] 27)) (.cells #[.slice Option.none 0 0] 52) w1.heap.size (by simp)).trans (heap_alloc_new _ _)
    have n2 : W3.heap[w1.heap.size + 1]? = some (.cells #[.slice Option.none 0 0] 52 (0, 0)) := by
      rw [hW3]
      have := heap_alloc_new (w1.alloc (.cells #[.slice Option.none 0 0] 27)) (.cells #[.slice Option.none 0 0] 52)
      rwa [World.size_alloc] at this
    have hbw3 : Below w.heap.size w W3 := hb1.trans (hbW.mono hb1.size)
    have hw1 : w.heap.size ≤ w1.heap.size := hb1.size
    have hT0 : Two w W3 W3.heap.size w1.heap.size (w1.heap.size + 1) [] [] W3 := Two.new hbw3 (by omega) (raw_new n1) (raw_new n2) hw1 (by omega)
    clear n1 n2 hbw3 hbW hb1
    rw [← hW3]
    clear hW3
    generalize w1.heap.size = B1 at *
    go_loopw [6, 7] (fun i _ wr => ∃ (k : Nat) (l : List Ab) (wB : World) (B : Nat), k ≤ acts.length ∧ l.length ≤ k ∧ i = .int .i64 k ∧ Two w wB B B1 (B1 + 1) l l wr) (fun i _ _ => acts.length - (intOf i).toNat)
    case atStart => exact ⟨0, [], _, _, by omega, by simp, rfl, hT0⟩
    case round =>
      obtain ⟨k, l, wB, B, hk, hlk, rfl, hT⟩ := hrel
      clear hT0
      by_cases hlt : k < acts.length
      · obtain ⟨b, off, rfl, hbl, hcs, hac⟩ : ∃ b off, la = some ⟨b, off, Option.none⟩ ∧ b < w.heap.size ∧ (∀ i u, acts[k].cells[i]? = some u → w.cell? ⟨b, off + k * 7 + i, Option.none⟩ = some u) ∧ ActAt w (.slice acts[k].aa acts[k].ats.length acts[k].ac) acts[k].ats (.slice acts[k].oa acts[k].op.length acts[k].oc) acts[k].op := by
          rcases HV.out with ⟨rfl, _⟩ | ⟨b, off, c, he, h1, _, h3⟩
          · simp at hlt
          · cases he
            exact ⟨b, off, rfl, h1, h3 k acts[k] (by simp [hlt])⟩
        have hbr : wr.heap[b]? = w.heap[b]? := hT.below.block b hbl
        have hbl2 : b < wr.heap.size := Nat.lt_of_lt_of_le hbl hT.below.size
        have cel : ∀ i u, acts[k].cells[i]? = some u → wr.cell? ⟨b, off + k * 7 + i, Option.none⟩ = some u := fun i u hu =>
          (World.cell?_of_block (w := w) (a := ⟨b, off + k * 7 + i, Option.none⟩) hbr).trans (hcs i u hu)
        have hd := does_all hT (by omega) acts[k].kind acts[k].e _ acts[k].ats acts[k].n _ acts[k].op hac
        have q0 := cel 0 _ rfl
        have q1 := cel 1 _ rfl
        have q2 := cel 2 _ rfl
        have q3 := cel 3 _ rfl
        have q4 := cel 4 _ rfl
        have q5 := cel 5 _ rfl
        have q6 := cel 6 _ rfl
        simp only [Nat.add_zero] at q0
        have HD := Lib.hid hd
        have HT := Lib.hid hT
        clear cel hbr hac hcs hd hT
        generalize acts[k] = x at *
        obtain ⟨xk, ⟨xi, xs, xm⟩, xa, xac, xats, xn, xo, xoc, xop⟩ := x
        simp only at q0 q1 q2 q3 q4 q5 q6
        by_cases hid : xi < 1
        · go_wp2_with fail
          go_ret
          exact ⟨rfl, HT.out.below⟩
        · go_wp2_with fail
          refine HD.out.mono ?_
          rintro e w6 ⟨rfl, l', wB', B', hl', hT'⟩
          go_wp2_with fail
          go_roundw
          case rel => exact ⟨k + 1, l', wB', B', by omega, by omega, by go_num, hT'⟩
          case measure => simp [intOf] <;> omega
      · obtain rfl : k = acts.length := by omega
        have hP := hT.pair
        clear hT
        obtain ⟨wo, rfl⟩ : ∃ wo : World, wo = wr := ⟨_, rfl⟩
        obtain ⟨v1, es1, v2, es2, m1, m2, r1, r2⟩ := hP.ex
        have hbo := hP.below
        have hl1 : es1.length = l.length := by rw [← m1, List.length_map]
        have hl2 : es2.length = l.length := by rw [← m2, List.length_map]
        have hl9 := r2.len
        have hc2 := r2.cell
        have hb2 := r2.lt (B1 + 1) (.inl rfl)
        obtain ⟨v2a, v2c, rfl⟩ : ∃ a c, v2 = .slice a l.length c := by
          rcases r2.form with ⟨h, h2⟩ | ⟨g, cap, h1, _⟩
          · exact ⟨_, _, by rw [← hl2, h2]; exact h⟩
          · exact ⟨_, _, by rw [← hl2]; exact h1⟩
        have hln : ∀ V, Below wo.heap.size wo V → Calls Try.prog 13 #[.pointer (some ⟨B1, 0, Option.none⟩)] V fun e w' => e = .returned (.int .i64 l.length) ∧ w' = V := fun V hV => by
          have := len_any B1 v1 es1 V (r1.below hV)
          rw [hl1] at this
          exact this.mono fun _ _ h => ⟨h.1, h.2.symm⟩
        have HLN := Lib.hid hln
        have R1 := Lib.hid r1
        have R2 := Lib.hid r2
        have M1 := Lib.hid m1
        have M2 := Lib.hid m2
        have HL1 := Lib.hid hl1
        have HL2 := Lib.hid hl2
        have HBO := Lib.hid hbo
        have hl8 : l.length ≤ 1000000 := by omega
        clear hln r1 r2 m1 m2 hl1 hl2 hbo hP hl9
        go_wp2_with fail
        go_quiet ((go_at_call 13; exact Calls.quiet_of_same (HLN.out _ (bDrewN (Below.refl _ _) _))))
        go_wp2_with fail
        go_loopw [8, 9, 10, 11] (fun i _ _ _ wr => ∃ k : Nat, k ≤ l.length ∧ i = .int .i64 k ∧ Below wo.heap.size wo wr) (fun i _ _ _ _ => l.length - (intOf i).toNat)
        case atStart => exact ⟨0, by omega, rfl, by first | exact Below.refl _ _ | exact bDrewN (Below.refl _ _) _⟩
        case round =>
          obtain ⟨k, hk, rfl, hbr⟩ := hrel
          have hc3 := (hbr.cell (p := ⟨B1 + 1, 0, Option.none⟩) hb2).trans hc2
          by_cases hlt2 : k < l.length
          · have h1l : k < es1.length := by rw [HL1.out]; exact hlt2
            have h2l : k < es2.length := by rw [HL2.out]; exact hlt2
            have hab : es1[k].ab = es2[k].ab := by
              have e1 := congrArg (fun l : List Ab => l[k]?) (M1.out.trans M2.out.symm)
              simpa [List.getElem?_map, h1l, h2l] using e1
            obtain ⟨g, rfl⟩ : ∃ g, v2a = some ⟨g, 0, Option.none⟩ := by
              rcases R2.out.form with ⟨_, h2⟩ | ⟨g, cap, h1, _⟩
              · rw [h2] at h2l; simp at h2l
              · injection h1 with e1; exact ⟨g, e1⟩
            have hlc : l.length ≤ v2c := by
              rcases R2.out.form with ⟨h, h2⟩ | ⟨g, cap, h1, _, _, h3, _⟩
              · cases h
              · injection h1 with e1 e2 e3; omega
            have hat := at_in B1 v1 es1 k wr (R1.out.below hbr) h1l
            rw [hab] at hat
            have hr4 := fun (V : World) (hV : Below wo.heap.size wo V) => R2.out.at4 k h2l hV
            have ha2 := fun (V : World) (hV : Below wo.heap.size wo V) => (R2.out.ats es2[k] (List.getElem_mem h2l)).below (Nat.le_refl _) hV
            clear hab
            generalize es2[k] = y at *
            obtain ⟨el, ya, yc, yats⟩ := y
            simp only [En.ab] at hat
            simp only at hr4 ha2
            have HAT := Lib.hid hat
            have HR4 := Lib.hid hr4
            have HA2 := Lib.hid ha2
            have HBR := Lib.hid hbr
            clear hat hr4 ha2 hbr
            go_wp2_with fail
            refine HAT.out.mono ?_
            rintro e6 w6 ⟨a6, c6, rfl, hat6, hq6, hb6⟩
            simp only at hat6
            have hb7 : Below wo.heap.size wo (w6.alloc (.cells #[.int .i64 el.id, .string el.sp, .string el.nm, .slice a6 yats.length c6] 37)) := (HBR.out.trans (hb6.mono HBR.out.size)).alloc (Nat.le_trans HBR.out.size hb6.size) _
            obtain ⟨p0, p1, p2, p3⟩ := HR4.out _ hb7
            have hc7 := (hb7.cell (p := ⟨B1 + 1, 0, Option.none⟩) hb2).trans hc2
            have g0 : (w6.alloc (.cells #[.int .i64 el.id, .string el.sp, .string el.nm, .slice a6 yats.length c6] 37)).cell? ⟨w6.heap.size, 0, Option.none⟩ = some (.int .i64 el.id) := by simp [go_sem]
            have g1 : (w6.alloc (.cells #[.int .i64 el.id, .string el.sp, .string el.nm, .slice a6 yats.length c6] 37)).cell? ⟨w6.heap.size, 1, Option.none⟩ = some (.string el.sp) := by simp [go_sem]
            have g2 : (w6.alloc (.cells #[.int .i64 el.id, .string el.sp, .string el.nm, .slice a6 yats.length c6] 37)).cell? ⟨w6.heap.size, 2, Option.none⟩ = some (.string el.nm) := by simp [go_sem]
            have g3 : (w6.alloc (.cells #[.int .i64 el.id, .string el.sp, .string el.nm, .slice a6 yats.length c6] 37)).cell? ⟨w6.heap.size, 3, Option.none⟩ = some (.slice a6 yats.length c6) := by simp [go_sem]
            have hse := sameEntry_eq ⟨el, yats⟩ a6 ya c6 yc (w6.alloc (.cells #[.int .i64 el.id, .string el.sp, .string el.nm, .slice a6 yats.length c6] 37)).drew (hat6.below (Nat.le_refl _) ((Below.refl _ _).alloc (Nat.le_refl _) _).drew) (HA2.out _ hb7.drew)
            have HSE := Lib.hid hse
            have HB8 := Lib.hid hb7.drew
            clear hse hb7 hat6 hq6 hb6
            have hkl : (k : Int) < (l.length : Int) := by omega
            go_wp2_with fail
            generalize (w6.alloc (.cells #[.int .i64 el.id, .string el.sp, .string el.nm, .slice a6 yats.length c6] 37)) = w7 at *
            refine wp_region_still_tail 8 (by kernel_rfl) (by kernel_rfl) ?_
            simp only [List.take_succ_cons, List.take_zero, List.drop_succ_cons, List.drop_zero]
            repeat still_step
            refine wpStill_nil ?_
            change wpList _ _ _ _ _ w7.drew
            generalize w7.drew = w8 at *
            go_wp2_with fail
            refine HSE.out.mono ?_
            rintro e9 w9 ⟨rfl, hb9⟩
            go_wp2_with fail
            go_roundw
            case rel => exact ⟨k + 1, by omega, by go_num, HB8.out.trans (hb9.mono HB8.out.size)⟩
            case measure => simp [intOf] <;> omega
          · obtain rfl : k = l.length := by omega
            go_wp2_with fail
            go_ret
            exact ⟨rfl, HBO.out.trans (hbr.mono HBO.out.size)⟩
end Go.Proofs.Ytmhofhblgcjihaa
