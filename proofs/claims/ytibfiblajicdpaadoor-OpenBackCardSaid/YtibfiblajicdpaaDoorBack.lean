/- The law OpenBack, walked: it returns true. -/
import Derived.Test.YtibfiblajicdpaaDoorV
import Derived.Test.YtibfiblajicdpaaDoorP
namespace Go.Proofs.YtibfiblajicdpaaDoor
open Go Go.RowKit

theorem st_insert {w W : World} {b : Nat} {l : List El} (h : St w b l W) (i : Int) (x : El) (hlen : l.length < 1000000) :
    Calls Tryd.prog 15 #[.pointer (some ⟨b, 0, Option.none⟩), .int .i64 i, .agg #[.int .i64 x.id, .string x.sp, .string x.nm]] W fun e W' => e = .returned (.int .i64 (insC l i)) ∧ St w b (insL l i x) W' := by
  obtain ⟨v, h1, h2⟩ := h.ex
  by_cases hi : 0 ≤ i ∧ i ≤ l.length
  · obtain ⟨k, rfl⟩ : ∃ k : Nat, i = k := ⟨i.toNat, by omega⟩
    rw [insC, insL, if_pos hi, if_pos hi, Int.toNat_natCast]
    exact (insert_in b v l k x W h1 (by omega) hlen).mono fun e W' hm => h.step h2 hm
  · rw [insC, insL, if_neg hi, if_neg hi]
    exact (insert_out b v l i x W h1 hi).mono fun e W' hm => h.step h2 hm

theorem st_remove {w W : World} {b : Nat} {l : List El} (h : St w b l W) (id : Int) :
    Calls Tryd.prog 16 #[.pointer (some ⟨b, 0, Option.none⟩), .int .i64 id] W fun e W' => e = .returned (.int .i64 (remC l id)) ∧ St w b (remL l id) W' := by
  obtain ⟨v, h1, h2⟩ := h.ex
  exact (remove_any b v l id W h1).mono fun e W' hm => h.step h2 hm

theorem st_insert_r {w W : World} {b : Nat} {l : List El} (h : St w b l W) (i : Int) (x : El) (hlen : l.length < 1000000) (c : Int) (l' : List El) (hc : insC l i = c) (hl : insL l i x = l') :
    Calls Tryd.prog 15 #[.pointer (some ⟨b, 0, Option.none⟩), .int .i64 i, .agg #[.int .i64 x.id, .string x.sp, .string x.nm]] W fun e W' => e = .returned (.int .i64 c) ∧ St w b l' W' := by
  rw [← hc, ← hl]; exact st_insert h i x hlen
theorem st_remove_r {w W : World} {b : Nat} {l : List El} (h : St w b l W) (id : Int) (c : Int) (l' : List El) (hc : remC l id = c) (hl : remL l id = l') :
    Calls Tryd.prog 16 #[.pointer (some ⟨b, 0, Option.none⟩), .int .i64 id] W fun e W' => e = .returned (.int .i64 c) ∧ St w b l' W' := by
  rw [← hc, ← hl]; exact st_remove h id

/-- an element that nobody else is: where it stands -/
theorem idx_one (a b : List El) (x : El) (hb : ∀ y ∈ b, ¬ y.id = x.id) : idxB (a ++ x :: b) x.id = a.length := by
  have key : ∀ (r : List El), (∀ y ∈ r, ¬ y.id = x.id) → idxB (a ++ x :: r.reverse) x.id = a.length := by
    intro r
    induction r with
    | nil =>
      intro _
      rw [List.reverse_nil, idxB_snoc]
      simp
    | cons y r ih =>
      intro h
      have hy := h y (by simp)
      rw [List.reverse_cons, ← List.cons_append, ← List.append_assoc, idxB_snoc]
      rw [if_neg (by simpa using hy)]
      exact ih (fun z hz => h z (by simp [hz]))
  have := key b.reverse (fun y hy => hb y (by simpa using hy))
  simpa using this

theorem idx_no (l : List El) (id : Int) (h : ∀ y ∈ l, ¬ y.id = id) : idxB l id = -1 := by
  have key : ∀ (r : List El), (∀ y ∈ r, ¬ y.id = id) → idxB r.reverse id = -1 := by
    intro r
    induction r with
    | nil => intro _; rfl
    | cons y r ih =>
      intro h
      rw [List.reverse_cons, idxB_snoc, if_neg (by simpa using h y (by simp))]
      exact ih (fun z hz => h z (by simp [hz]))
  have := key l.reverse (fun y hy => h y (by simpa using hy))
  simpa using this

theorem back_in (l : List El) (i : Int) (x : El) (h : ∀ y ∈ l, ¬ y.id = x.id) (hi : 0 ≤ i ∧ i ≤ l.length) : insC l i = 0 ∧ remC (insL l i x) x.id = 0 ∧ remL (insL l i x) x.id = l := by
  have hx : idxB (l.take i.toNat ++ x :: l.drop i.toNat) x.id = i.toNat := by
    rw [idx_one _ _ x (fun y hy => h y (List.mem_of_mem_drop hy))]
    simp; omega
  refine ⟨by rw [insC, if_pos hi], ?_, ?_⟩
  · rw [remC, insL, if_pos hi, hx, if_neg (by omega)]
  · rw [remL, insL, if_pos hi, hx, if_neg (by omega), Int.toNat_natCast]
    have hl : (l.take i.toNat).length = i.toNat := by simp; omega
    rw [List.take_left' hl, List.drop_append, hl]
    rw [List.drop_eq_nil_of_le (by omega), List.nil_append, show i.toNat + 1 - i.toNat = 1 from by omega]
    simp

theorem back_out (l : List El) (i : Int) (x : El) (h : ∀ y ∈ l, ¬ y.id = x.id) (hi : ¬ (0 ≤ i ∧ i ≤ l.length)) : insC l i = 60 ∧ remC (insL l i x) x.id = 60 ∧ remL (insL l i x) x.id = l := by
  have hx := idx_no l x.id h
  refine ⟨by rw [insC, if_neg hi], ?_, ?_⟩
  · rw [remC, insL, if_neg hi, hx]; rfl
  · rw [remL, insL, if_neg hi, hx]; rfl

theorem back_all (l : List El) (i : Int) (x : El) (h : ∀ y ∈ l, ¬ y.id = x.id) : ∃ c, ((c = 0 ∧ 0 ≤ i ∧ i ≤ l.length) ∨ (c = 60 ∧ i < 0) ∨ (c = 60 ∧ 0 ≤ i ∧ (l.length : Int) < i)) ∧ insC l i = c ∧ remC (insL l i x) x.id = c ∧ remL (insL l i x) x.id = l := by
  by_cases hi : 0 ≤ i ∧ i ≤ l.length
  · exact ⟨0, .inl ⟨rfl, hi⟩, back_in l i x h hi⟩
  · exact ⟨60, .inr (by omega), back_out l i x h hi⟩

theorem st_pop_r {w W : World} {b : Nat} {l : List El} {x : El} (h : St w b (l ++ [x]) W) :
    Calls Tryd.prog 14 #[.pointer (some ⟨b, 0, Option.none⟩)] W fun e W' => e = .returned (.tuple #[.agg #[.int .i64 x.id, .string x.sp, .string x.nm], .int .i64 0]) ∧ St w b l W' := by
  have := st_pop h
  rw [show topE (l ++ [x]) = x from by simp [topE], popC_ne, List.dropLast_concat] at this
  exact this

theorem boxb {w w' : World} {x : El} {t : TypeId} (hb : Below (w.alloc (.cells #[.int .i64 x.id, .string x.sp, .string x.nm] t)).heap.size (w.alloc (.cells #[.int .i64 x.id, .string x.sp, .string x.nm] t)) w') :
    w'.cell? ⟨w.heap.size, 0, Option.none⟩ = some (.int .i64 x.id) ∧ w'.cell? ⟨w.heap.size, 1, Option.none⟩ = some (.string x.sp) ∧ w'.cell? ⟨w.heap.size, 2, Option.none⟩ = some (.string x.nm) :=
  ⟨(hb.cell (p := ⟨w.heap.size, 0, Option.none⟩) (by simp)).trans (by simp [go_sem]), (hb.cell (p := ⟨w.heap.size, 1, Option.none⟩) (by simp)).trans (by simp [go_sem]), (hb.cell (p := ⟨w.heap.size, 2, Option.none⟩) (by simp)).trans (by simp [go_sem])⟩

theorem take_no (l : List El) (id : Int) (k : Nat) (hk : k < l.length) (h : ∀ y ∈ l.take k, ¬ y.id = id) (hz : (l[k].id == id) = false) : ∀ y ∈ l.take (k + 1), ¬ y.id = id := by
  intro y hy
  rw [List.take_succ_eq_append_getElem hk, List.mem_append] at hy
  rcases hy with hy | hy
  · exact h y hy
  · simp only [List.mem_singleton] at hy
    rw [hy]; simpa using hz

theorem insert_any (b : Nat) (v : Value) (l : List El) (i : Int) (x : El) (w : World) (hs : Stk w b v l) (hlen : l.length < 1000000) :
    Calls Tryd.prog 15 #[.pointer (some ⟨b, 0, Option.none⟩), .int .i64 i, .agg #[.int .i64 x.id, .string x.sp, .string x.nm]] w (MPost b v w (.returned (.int .i64 (insC l i))) (insL l i x)) := by
  by_cases hi : 0 ≤ i ∧ i ≤ l.length
  · obtain ⟨k, rfl⟩ : ∃ k : Nat, i = k := ⟨i.toNat, by omega⟩
    rw [insC, insL, if_pos hi, if_pos hi, Int.toNat_natCast]
    exact insert_in b v l k x w hs (by omega) hlen
  · rw [insC, insL, if_neg hi, if_neg hi]
    exact insert_out b v l i x w hs hi

theorem atE_in (l : List El) (k : Nat) (hk : k < l.length) : atE l k = l[k] := by
  simp [atE, hk]

theorem arr_of {cs : Array Value} {l : List Value} (h : (Value.agg cs).cells.toList = l) : cs = l.toArray := by
  rw [← h]; simp [Value.cells]

theorem els_lt {w : World} {va : Option Addr} {c : Nat} {l : List El} (h : ElsAt w (.slice va l.length c) l) (hk : 0 < l.length) : ∃ b off, va = some ⟨b, off, Option.none⟩ ∧ b < w.heap.size := by
  rcases h with ⟨rfl, _⟩ | ⟨b, off, c', he, hlt, _, _, hc⟩
  · simp at hk
  · cases he; exact ⟨b, off, rfl, hlt⟩

set_option maxRecDepth 100000 in
set_option maxHeartbeats 8000000 in
theorem back_walk (vl : Value) (l : List El) (x : El) (at_ : Int) (w : World) (hg : Glob w) (hl : ElsAt w vl l) :
    Calls Tryd.prog 5 #[vl, .agg #[.int .i64 x.id, .string x.sp, .string x.nm], .int .i64 at_] w fun e w' => e = .returned (.bool true) ∧ Below w.heap.size w w' := by
  obtain ⟨la, ll, lc, rfl⟩ : ∃ a n c, vl = .slice a n c := by
    rcases hl with ⟨_, a, c, rfl⟩ | ⟨b, off, c, rfl, _⟩
    · exact ⟨_, _, _, rfl⟩
    · exact ⟨_, _, _, rfl⟩
  obtain rfl : ll = l.length := by
    rcases hl with ⟨rfl, a, c, he⟩ | ⟨b, off, c, he, _⟩
    · cases he; rfl
    · cases he; rfl
  have hB0 : Below w.heap.size w (w.alloc (.cells #[.int .i64 x.id, .string x.sp, .string x.nm] 30)) := (Below.refl _ _).alloc (Nat.le_refl _) _
  have hg0 := hg.alloc (.cells #[.int .i64 x.id, .string x.sp, .string x.nm] 30)
  by_cases hbig : 3000 < l.length
  · go_enter Tryd.func5, Tryd.ntmps5
    go_wp2_with (go_at_call 7; refine (works_any _ hg0).mono ?_; rintro e w' ⟨rfl, hb⟩)
    go_ret
    exact ⟨rfl, hB0.trans (hb.mono hB0.size)⟩
  · have HT : Hid (∀ w1, Below (w.alloc (.cells #[.int .i64 x.id, .string x.sp, .string x.nm] 30)).heap.size (w.alloc (.cells #[.int .i64 x.id, .string x.sp, .string x.nm] 30)) w1 → w1.cell? ⟨w.heap.size, 0, Option.none⟩ = some (.int .i64 x.id) ∧ w1.cell? ⟨w.heap.size, 1, Option.none⟩ = some (.string x.sp) ∧ w1.cell? ⟨w.heap.size, 2, Option.none⟩ = some (.string x.nm)) := fun w1 hb => boxb hb
    have HL := Lib.hid hl
    clear hl
    go_enter Tryd.func5, Tryd.ntmps5
    go_wp2_with fail
    refine (works_any _ hg0).mono ?_
    rintro e w1 ⟨rfl, hb1⟩
    have s0 : St (w.alloc (.cells #[.int .i64 x.id, .string x.sp, .string x.nm] 30)) w1.heap.size [] (w1.alloc (.cells #[.slice Option.none 0 0] 27)) := St.new hg0 hb1 _ rfl
    have HB0 := Lib.hid hB0
    clear hB0 hb1
    go_wp2_with fail
    go_loopw [9] (fun i wr => ∃ k : Nat, k ≤ l.length ∧ i = .int .i64 k ∧ St (w.alloc (.cells #[.int .i64 x.id, .string x.sp, .string x.nm] 30)) w1.heap.size (l.take k) wr ∧ (∀ y ∈ l.take k, ¬ y.id = x.id)) (fun i _ => l.length - (intOf i).toNat)
    case atStart => exact ⟨0, by omega, rfl, s0, by simp⟩
    case round =>
      obtain ⟨k, hk, rfl, s1, hno⟩ := hrel
      clear s0
      obtain ⟨c0, c1, c2⟩ := HT.out wr s1.below
      by_cases hlt : k < l.length
      · have hBw : Below w.heap.size w wr := HB0.out.trans (s1.below.mono HB0.out.size)
        obtain ⟨b', off', hva', p0, p1, p2⟩ := els_at HL.out hBw hlt
        cases hva'
        have hpush := st_push s1 l[k] (by simp; omega)
        rw [← List.take_succ_eq_append_getElem hlt] at hpush
        have HP := Lib.hid hpush
        have HE : Hid (∀ W, Below w.heap.size w W → W.cell? ⟨b', off' + k * 3, Option.none⟩ = some (.int .i64 l[k].id)) := fun W hW => by
          obtain ⟨b2, off2, hv2, q0, _, _⟩ := els_at HL.out hW hlt
          cases hv2
          exact q0
        have HN := Lib.hid (take_no l x.id k hlt hno)
        clear hpush hBw hno
        by_cases hz : (l[k].id == x.id) = true
        · clear HN
          generalize l[k] = z at *
          go_wp2_with fail
          refine HP.out.mono ?_
          rintro e w2 ⟨rfl, s2⟩
          clear c0 c1 c2 p0 p1 p2
          obtain ⟨c0, c1, c2⟩ := HT.out w2 s2.below
          have hBw2 : Below w.heap.size w w2 := HB0.out.trans (s2.below.mono HB0.out.size)
          have p0 := HE.out w2 hBw2
          go_wp2_with fail
          go_quiet (fail)
          go_wp2
          go_ret
          exact ⟨rfl, bDrewN hBw2 _⟩
        · replace hz : (l[k].id == x.id) = false := by simpa using hz
          have HNN := Lib.hid (HN.out hz)
          clear HN
          generalize l[k] = z at *
          go_wp2_with fail
          refine HP.out.mono ?_
          rintro e w2 ⟨rfl, s2⟩
          clear c0 c1 c2 p0 p1 p2
          obtain ⟨c0, c1, c2⟩ := HT.out w2 s2.below
          have hBw2 : Below w.heap.size w w2 := HB0.out.trans (s2.below.mono HB0.out.size)
          have p0 := HE.out w2 hBw2
          go_wp2_with fail
          go_quiet (fail)
          go_wp2
          go_roundw
          case rel => exact ⟨k + 1, by omega, by go_num, s2.go (bDrewN (Below.refl _ _) _), HNN.out⟩
          case measure => simp [intOf] <;> omega
      · obtain rfl : k = l.length := by omega
        rw [List.take_length] at s1 hno
        obtain ⟨c, hcc, hi1, hi2, hi3⟩ := back_all l at_ x hno
        have I1 := Lib.hid hi1
        have I2 := Lib.hid hi2
        have I3 := Lib.hid hi3
        clear hi1 hi2 hi3 hno
        go_wp2_with fail
        refine (st_push s1 x (by omega)).mono ?_
        rintro e w2 ⟨rfl, s2⟩
        clear s1 c0 c1 c2
        obtain ⟨c0, c1, c2⟩ := HT.out w2 s2.below
        go_wp2_with fail
        refine (st_pop_r s2).mono ?_
        rintro e w3 ⟨rfl, s3⟩
        clear s2 c0 c1 c2
        obtain ⟨c0, c1, c2⟩ := HT.out w3 s3.below
        have z3 : w.heap.size < w3.heap.size := Nat.lt_of_lt_of_le (by simp) s3.below.size
        have t3 := s3.go ((Below.refl _ _).alloc (Nat.le_refl _) (.cells #[.int .i64 x.id, .string x.sp, .string x.nm] 30))
        have HX3 : Hid (∀ W, Below (w3.alloc (.cells #[.int .i64 x.id, .string x.sp, .string x.nm] 30)).heap.size (w3.alloc (.cells #[.int .i64 x.id, .string x.sp, .string x.nm] 30)) W → W.cell? ⟨w3.heap.size, 0, Option.none⟩ = some (.int .i64 x.id) ∧ W.cell? ⟨w3.heap.size, 1, Option.none⟩ = some (.string x.sp) ∧ W.cell? ⟨w3.heap.size, 2, Option.none⟩ = some (.string x.nm)) := fun W hb => boxb hb
        obtain ⟨v3, hv3, hge3⟩ := s3.ex
        have hq3 : ¬ fp w1.heap.size v3 w3.heap.size := fun h => by have := hv3.lt _ h; omega
        have hv3' := hv3.below ((Below.refl _ _).alloc (Nat.le_refl _) (.cells #[.int .i64 x.id, .string x.sp, .string x.nm] 30))
        have hin := insert_any w1.heap.size v3 l at_ x _ hv3' (by omega)
        rw [I1.out] at hin
        have HIN := Lib.hid hin
        have HCC := Lib.hid hcc
        clear hcc hin hv3 s3
        have hA3 : (w3.alloc (.cells #[.int .i64 x.id, .string x.sp, .string x.nm] 30)).heap[w3.heap.size]? = some (.cells #[.int .i64 x.id, .string x.sp, .string x.nm] 30 (0, 0)) := heap_alloc_new _ _
        have hl3 : w3.heap.size < (w3.alloc (.cells #[.int .i64 x.id, .string x.sp, .string x.nm] 30)).heap.size := by simp
        have HA := Lib.hid hA3
        clear hA3
        go_wp2_with fail
        refine HIN.out.mono ?_
        intro e w4 hm
        obtain ⟨rfl, s4⟩ := t3.step hge3 hm
        obtain ⟨_, v4, hv4, hk4, hf4⟩ := hm
        have hA4 := (hk4.block _ hl3 hq3).trans HA.out
        have hq4 : ¬ fp w1.heap.size v4 w3.heap.size := fun h => by
          rcases hf4 _ h with h | h
          · exact hq3 h
          · omega
        have hge4 : ∀ k, fp w1.heap.size v4 k → (w.alloc (.cells #[.int .i64 x.id, .string x.sp, .string x.nm] 30)).heap.size ≤ k := fun k hk => (hf4 k hk).elim (hge3 k) (fun h => Nat.le_trans t3.below.size h)
        have hl4 : w3.heap.size < w4.heap.size := Nat.lt_of_lt_of_le hl3 hk4.size
        have hrm := remove_any w1.heap.size v4 _ x.id w4 hv4
        rw [I2.out, I3.out] at hrm
        have HRM := Lib.hid hrm
        have HA4 := Lib.hid hA4
        clear hrm hA4 hv4 hk4 hf4 HIN HA hq3 hl3 t3 c0 c1 c2 hv3'
        obtain ⟨c0, c1, c2⟩ := HT.out w4 s4.below
        rcases HCC.out with ⟨rfl, a1, a2⟩ | ⟨rfl, a1⟩ | ⟨rfl, a1, a2⟩
        all_goals
          clear HCC I1 I2 I3
          go_wp2_with fail
          refine HRM.out.mono ?_
          intro e w5 hm
          obtain ⟨rfl, s5⟩ := s4.step hge4 hm
          obtain ⟨_, v5, hv5, hk5, hf5⟩ := hm
          have hA5 := (hk5.block _ hl4 hq4).trans HA4.out
          have z5 : w.heap.size < w5.heap.size := Nat.lt_of_lt_of_le (by simp) s5.below.size
          have d0 : w5.cell? ⟨w3.heap.size, 0, Option.none⟩ = some (.int .i64 x.id) := by rw [cell_of_row _ _ 0 _ _ _ hA5]; rfl
          have d1 : w5.cell? ⟨w3.heap.size, 1, Option.none⟩ = some (.string x.sp) := by rw [cell_of_row _ _ 1 _ _ _ hA5]; rfl
          have d2 : w5.cell? ⟨w3.heap.size, 2, Option.none⟩ = some (.string x.nm) := by rw [cell_of_row _ _ 2 _ _ _ hA5]; rfl
          clear c0 c1 c2 s4 hA5 hk5 hf5 hv5 hge4 hq4 HRM HA4
          obtain ⟨c0, c1, c2⟩ := HT.out w5 s5.below
          go_wp2_with fail
          refine (st_len s5).mono ?_
          rintro e w' ⟨rfl, rfl⟩
          go_wp2_with fail
          go_loopw [15] (fun i wr => ∃ k : Nat, k ≤ l.length ∧ i = .int .i64 k ∧ St (w.alloc (.cells #[.int .i64 x.id, .string x.sp, .string x.nm] 30)) w1.heap.size l wr) (fun i _ => l.length - (intOf i).toNat)
          case atStart => exact ⟨0, by omega, rfl, s5⟩
          case round =>
            obtain ⟨k, hk, rfl, s6⟩ := hrel
            clear c0 c1 c2 d0 d1 d2 s5
            by_cases hlt : k < l.length
            · have hat := st_at s6 k
              rw [atE_in l k hlt] at hat
              have HAT := Lib.hid hat
              clear hat
              have hBw : Below w.heap.size w wr := HB0.out.trans (s6.below.mono HB0.out.size)
              have HE : Hid (∀ W, Below w.heap.size w W → ∃ b off, la = some ⟨b, off, Option.none⟩ ∧ b < w.heap.size ∧ W.cell? ⟨b, off + k * 3, Option.none⟩ = some (.int .i64 l[k].id) ∧ W.cell? ⟨b, off + k * 3 + 1, Option.none⟩ = some (.string l[k].sp) ∧ W.cell? ⟨b, off + k * 3 + 2, Option.none⟩ = some (.string l[k].nm)) := fun W hW => by
                obtain ⟨b2, off2, hv2, q⟩ := els_at HL.out hW hlt
                obtain ⟨b3, off3, hv3, q3⟩ := els_lt HL.out (by omega)
                rw [hv2] at hv3
                cases hv3
                exact ⟨b2, off2, hv2, q3, q⟩
              generalize l[k] = z at *
              go_wp2_with fail
              refine HAT.out.mono ?_
              rintro e w6 ⟨rfl, hb6⟩
              rw [El.v]
              have s7 := s6.go hb6
              obtain ⟨b', off', rfl, hbl, p0, p1, p2⟩ := HE.out w6 (hBw.trans (hb6.mono hBw.size))
              have hbl6 : b' < w6.heap.size := Nat.lt_of_lt_of_le hbl (Nat.le_trans hBw.size hb6.size)
              go_wp2_with fail
              go_quiet (fail)
              go_wp2
              go_roundw
              case rel => exact ⟨k + 1, by omega, by go_num, s7.go (bDrewN ((Below.refl _ _).alloc (Nat.le_refl _) _) _)⟩
              case measure => simp [intOf] <;> omega
            · go_wp2_with fail
              go_ret
              exact ⟨rfl, HB0.out.trans (s6.below.mono HB0.out.size)⟩
end Go.Proofs.YtibfiblajicdpaaDoor
