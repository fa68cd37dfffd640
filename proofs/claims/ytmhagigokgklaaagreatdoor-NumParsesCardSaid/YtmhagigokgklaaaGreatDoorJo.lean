/- Joined texts: Se Sf Sg Sh Tb Lf. Each begins with its own remark. -/
import Derived.Test.YtmhagigokgklaaaGreatDoorJn
import Derived.Deep.DeepAppendWide
import Derived.Laws.OwnMore
import Derived.Test.YtmhagigokgklaaaGreatDoorJa
import Derived.Test.YtmhagigokgklaaaGreatDoorJe
import Derived.Test.YtmhagigokgklaaaGreatDoorJf
import Derived.Deep.LoopGhost
import Derived.Deep.CutRange
import Derived.Test.YtmhagigokgklaaaGreatDoorJm
import Derived.Test.YtmhagigokgklaaaGreatDoorJk
import Derived.Test.YtmhagigokgklaaaGreatDoorJi
import Derived.Laws.BytesArg

/- The reference's whole numbers: shift, bits, ten, and cmp, minus at numbers (walked). -/
namespace Go.Proofs.YtmhagigokgklaaaGreatDoor
open Go Go.RowKit Go.Sort Go.Lib

theorem cmp_any (va vb : Value) (x y K : Nat) (w : World) (ha : IsNum w va x) (hb : IsNum w vb y) (hK : K ≤ 1000000) (hx : x < 256 ^ K) (hy : y < 256 ^ K) :
    Calls Tryz.prog 67 #[va, vb] w fun e w' => e = .returned (.int .i64 (cmpN x y)) ∧ Below w.heap.size w w' := by
  obtain ⟨a, h1, rfl, h3⟩ := ha
  obtain ⟨b, g1, rfl, g3⟩ := hb
  exact cmp_list va vb a b w h1 g1 h3 g3 (Nat.le_trans (norm_len a h3 K hx) hK) (Nat.le_trans (norm_len b g3 K hy) hK)
theorem minus_any (va vb : Value) (x y K : Nat) (w : World) (ha : IsNum w va x) (hb : IsNum w vb y) (hK : K ≤ 500000) (hx : x < 256 ^ K) (hle : y ≤ x) :
    Calls Tryz.prog 68 #[va, vb] w fun e w' => (∃ v', e = .returned v' ∧ IsNum w' v' (x - y)) ∧ Below w.heap.size w w' := by
  obtain ⟨a, h1, rfl, h3⟩ := ha
  obtain ⟨b, g1, rfl, g3⟩ := hb
  exact minus_list va vb a b w h1 g1 h3 g3 (Nat.le_trans (norm_len a h3 K hx) hK) hle
theorem trim_num (v : Value) (x K : Nat) (w : World) (h : IsNum w v x) (hK : K ≤ 1000000) (hx : x < 256 ^ K) :
    Calls Tryz.prog 64 #[v] w fun e w' => (∃ v', e = .returned v' ∧ IsNum w' v' x) ∧ w' = w := by
  obtain ⟨l, h1, rfl, h3⟩ := h
  refine (trim_any v l w h1 (Nat.le_trans (norm_len l h3 K hx) hK)).mono ?_
  rintro e w' ⟨⟨v', rfl, hn⟩, rfl⟩
  exact ⟨⟨v', rfl, trimL l, hn, trim_val l, trim_norm l⟩, rfl⟩

/-- so many bits -/
def BitsAre (x n : Nat) : Prop := x < 2 ^ n ∧ (0 < n → 2 ^ (n - 1) ≤ x)
theorem bit_step (X k : Nat) (h : X < 2 ^ (k + 1)) : (X / 2 ^ k % 2 = 0 → X < 2 ^ k) ∧ (X / 2 ^ k % 2 ≠ 0 → 2 ^ k ≤ X) := by
  have hp := Nat.two_pow_pos k
  rw [Nat.pow_succ] at h
  constructor
  · intro h0
    rcases Nat.lt_or_ge X (2 ^ k) with g | g
    · exact g
    · exfalso
      have : X / 2 ^ k = 1 := by
        rw [Nat.div_eq_iff hp]; omega
      omega
  · intro h0
    rcases Nat.lt_or_ge X (2 ^ k) with g | g
    · rw [Nat.div_eq_of_lt g] at h0; simp at h0
    · exact g

set_option maxRecDepth 100000 in
set_option maxHeartbeats 2000000 in
theorem bits_list (v : Value) (l : List UInt8) (w : World) (h : NumB w v l) (hl : l.length ≤ 500000) :
    Calls Tryz.prog 65 #[v] w fun e w' => (∃ n : Nat, e = .returned (.int .i64 n) ∧ BitsAre (leV l) n) ∧ w' = w := by
  obtain ⟨pv, cv, rfl⟩ := h.form
  have HN := Lib.hid h
  clear h
  go_enter Tryz.func65, Tryz.ntmps65
  go_wp2_with fail
  go_loopg [3] (l.length * 8) (fun g s3 wr => g ≤ l.length * 8 ∧ leV l < 2 ^ g ∧ s3 = .int .i64 g ∧ wr = w)
  case atStart =>
    refine ⟨Nat.le_refl _, ?_, by go_num, rfl⟩
    have := leV_lt l
    rw [Nat.mul_comm, Nat.pow_mul]
    exact this
  case round =>
    obtain ⟨hg, hlt, rfl, rfl⟩ := hrel
    have HLT := Lib.hid hlt
    clear hlt
    by_cases h0 : gk = 0
    · subst h0
      clear hg
      go_wp2_with fail
      go_ret
      exact ⟨⟨0, rfl, HLT.out, fun h => absurd h (by decide)⟩, rfl⟩
    · obtain ⟨k, rfl⟩ : ∃ k, gk = k + 1 := ⟨gk - 1, by omega⟩
      clear h0
      have hk8 : k / 8 < l.length := by omega
      obtain ⟨b, o, c, hv, hlc, hbs, hcell⟩ := HN.out.row (by omega)
      simp only [Value.slice.injEq] at hv
      obtain ⟨rfl, _, rfl⟩ := hv
      have c1 := hcell (k / 8) l[k / 8] (List.getElem?_eq_getElem hk8)
      have hbit := leV_bit l k hk8
      have hst := bit_step (leV l) k HLT.out
      rw [← hbit] at hst
      have hx := l[k / 8].toNat_lt
      generalize l[k / 8].toNat = x at *
      obtain ⟨j, hj⟩ : ∃ j, k / 8 = j := ⟨_, rfl⟩
      obtain ⟨m, hm⟩ : ∃ m, k % 8 = m := ⟨_, rfl⟩
      rw [hj] at c1 hk8
      rw [hm] at hst
      have hm8 : m < 8 := by omega
      have hkp : ((k + 1 : Nat) : Int) - 1 = (k : Int) := by omega
      have hkp2 : (k : Int) + 1 - 1 = (k : Int) := by omega
      have hq1 : (k : Int).tdiv 8 = (j : Int) := by rw [Int.tdiv_eq_ediv_of_nonneg (by omega)]; omega
      have hq1b : (k : Int) / 8 = (j : Int) := by omega
      have hq2 : (k : Int).tmod 8 = (m : Int) := by rw [Int.tmod_eq_emod_of_nonneg (by omega)]; omega
      have hq2b : (k : Int) % 8 = (m : Int) := by omega
      have hjl : (j : Int) < (l.length : Int) := by omega
      clear hcell hbit hj hm
      obtain ⟨q, hq⟩ : ∃ q, x / 2 ^ m = q := ⟨_, rfl⟩
      have hq3 : (x : Int) / 2 ^ m = (q : Int) := by rw [← hq]; push_cast; rfl
      rw [hq] at hst
      have HST := Lib.hid hst
      clear hst hq
      by_cases hr : q % 2 = 0
      · have hq4 : (q : Int).tmod 2 = 0 := by rw [Int.tmod_eq_emod_of_nonneg (by omega)]; omega
        have HL := Lib.hid (HST.out.1 hr)
        clear hr
        go_wp2_with fail
        go_roundg k
        case measure => omega
        case rel => exact ⟨by omega, HL.out, by go_num, rfl⟩
      · have hq4 : (q : Int).tmod 2 = 1 := by rw [Int.tmod_eq_emod_of_nonneg (by omega)]; omega
        have HL := Lib.hid (HST.out.2 hr)
        clear hr
        go_wp2_with fail
        go_ret
        exact ⟨⟨k + 1, rfl, HLT.out, fun _ => HL.out⟩, rfl⟩
theorem bits_any (v : Value) (x K : Nat) (w : World) (h : IsNum w v x) (hK : K ≤ 500000) (hx : x < 256 ^ K) :
    Calls Tryz.prog 65 #[v] w fun e w' => (∃ n : Nat, e = .returned (.int .i64 n) ∧ BitsAre x n) ∧ w' = w := by
  obtain ⟨l, h1, rfl, h3⟩ := h
  exact bits_list v l w h1 (Nat.le_trans (norm_len l h3 K hx) hK)

set_option maxRecDepth 100000 in
set_option maxHeartbeats 2000000 in
theorem ten_any (v : Value) (x n K : Nat) (w : World) (h : IsNum w v x) (hK : K ≤ 300000) (hx : x < 256 ^ K) (hn : n ≤ 100000) :
    Calls Tryz.prog 78 #[v, .int .i64 n] w fun e w' => (∃ v', e = .returned v' ∧ IsNum w' v' (x * 10 ^ n)) ∧ Below w.heap.size w w' := by
  have HN := Lib.hid h
  have HB : Hid (∀ k, k ≤ n → x * 10 ^ k < 256 ^ (K + k)) := Lib.hid fun k _ => by
    rw [Nat.pow_add]
    exact Nat.lt_of_lt_of_le ((Nat.mul_lt_mul_right (Nat.pow_pos (by decide))).2 hx) (Nat.mul_le_mul_left _ (Nat.pow_le_pow_left (by decide) k))
  clear h hx
  go_enter Tryz.func78, Tryz.ntmps78
  go_wp2_with fail
  go_loopg [0, 5] n (fun g s0 s5 wr => ∃ k : Nat, k + g = n ∧ s5 = .int .i64 k ∧ Below w.heap.size w wr ∧ IsNum wr s0 (x * 10 ^ k))
  case atStart => exact ⟨0, by omega, rfl, Below.refl _ _, by rw [Nat.pow_zero, Nat.mul_one]; exact HN.out⟩
  case round =>
    obtain ⟨k, hk, rfl, hb, hnum⟩ := hrel
    have HBW := Lib.hid hb
    have HNK := Lib.hid hnum
    clear hb hnum
    by_cases hkn : k < n
    · have HT : Hid (∀ W : World, Below wr.heap.size wr W → Calls Tryz.prog 30 #[u0, .int .i64 10, .int .i64 0] W fun e w' => (∃ v', e = .returned v' ∧ IsNum w' v' (x * 10 ^ (k + 1))) ∧ Below W.heap.size W w') := Lib.hid fun W hW => by
        have := times_any u0 (x * 10 ^ k) 10 0 (K + k) W (HNK.out.go hW) (by omega) (HB.out k (by omega)) (by decide) (by decide)
        rwa [Nat.add_zero, Nat.mul_assoc, ← Nat.pow_succ] at this
      have hki : (k : Int) < (n : Int) := by omega
      go_wp2_with fail
      refine (HT.out _ (Below.refl _ _)).mono ?_
      rintro e w5 ⟨⟨v', rfl, hn5⟩, hb5⟩
      have H5 := Lib.hid hn5
      have B5 := Lib.hid (HBW.out.trans (hb5.mono HBW.out.size))
      clear hn5 hb5
      go_wp2_with fail
      go_roundg (gk - 1)
      case measure => omega
      case rel => exact ⟨k + 1, by omega, by go_num, B5.out, H5.out⟩
    · obtain rfl : k = n := by omega
      clear hkn hk
      go_wp2_with fail
      go_ret
      exact ⟨⟨_, rfl, HNK.out⟩, HBW.out⟩

theorem made_zeros (n : Nat) : (madeCells (Value.int .u8 0).cells (n * 1)).toList = (List.replicate n (0 : UInt8)).map encB := by
  unfold madeCells
  rw [Nat.mul_one]
  apply List.ext_getElem
  · simp
  · intro i h1 h2
    simp [Value.cells, encB]
    rw [Nat.mod_one]; rfl
theorem leV_shift (n : Nat) (l : List UInt8) : leV (List.replicate n 0 ++ l) = leV l * 256 ^ n := by
  rw [leV_app, leV_zeros _ (fun x hx => List.eq_of_mem_replicate hx), List.length_replicate, Nat.zero_add, Nat.mul_comm]
/-- a row of noughts is made -/
theorem Own.made (w : World) (n : Nat) (hn : n ≤ 900000) :
    ∃ W, (Instr.makeSlice 34 (.int .i64 (n : Int)) (.int .i64 (n : Int))).run Tryz.prog w = .ok (.slice (some ⟨w.heap.size, 0, Option.none⟩) n n) W ∧
      Own w W (.slice (some ⟨w.heap.size, 0, Option.none⟩) n n) (List.replicate n 0) := by
  obtain ⟨i, hi, hz0, hz1, hz2⟩ := info_parts info_u8
  obtain ⟨W, h1, h2, h3⟩ := run_make_full (P := Tryz.prog) w w.heap.size 34 5 i _ 1 Tryz.underlying34 hi hz0 hz1 .i64 .i64 n (by rw [hz2]; omega) (by unfold maxLen; omega) (Nat.le_refl _)
  rw [made_zeros] at h2
  refine ⟨W, h1, ⟨by simpa using h2, fun _ h => h.elim, fun _ h => h.elim, fun _ h => h.elim, ⟨h3.os, h3.tape, h3.output, h3.size, fun k hk => h3.block k hk (by simp)⟩, Nat.le_refl _⟩⟩
/-- bytes that lie somewhere are appended, or none -/
theorem Own.app {w W : World} {v : Value} {l : List UInt8} (h : Own w W v l) (vx : Value) (xs : List UInt8) (hx : NumB W vx xs) (hsz : l.length + xs.length ≤ 1000000) (hnn : v ≠ .slice Option.none 0 0) :
    ∃ v' W', (Builtin.append_ #[34, 34] 34 #[v, vx]).run Tryz.prog W = .ok v' W' ∧ Own w W' v' (l ++ xs) := by
  obtain ⟨i, hi, hz0, hz1, hz2⟩ := info_parts info_u8
  have hble : w.heap.size ≤ W.heap.size := h.below.size
  rcases hx with ⟨rfl, rfl⟩ | ⟨b, o, c, rfl, hc, hb, hcell⟩
  · rw [List.append_nil]
    rcases h.own.2 with ⟨h1, _⟩ | ⟨g, cap, cur, h1, h2, h3, h4, h5, h6, h7⟩
    · exact absurd h1 hnn
    · refine ⟨v, W, ?_, h⟩
      rw [h1]
      have ht := Tryz.underlying34
      simp [Builtin.append_, run_underlying ht, sizeOf, typeInfo, hi, Builtin.lenOf, Builtin.firstCells, loadCells]
      rw [if_pos h4]
      simp [storeCells]
  · obtain ⟨v', W', h1, h2, h3, _⟩ := run_append_own_wide (P := Tryz.prog) W w.heap.size 34 34 5 i _ 1 1 Tryz.underlying34 hi hz0 hz1 hz2 rfl (by decide) v l.length (l.map encB) h.own ⟨b, o, Option.none⟩ xs.length c (xs.map encB) (by simp) (fun j u hu => by
      rw [List.getElem?_map, Option.map_eq_some_iff] at hu
      obtain ⟨x, hx1, rfl⟩ := hu
      rw [add_plain]
      exact hcell j x hx1) (encB_one xs) (by unfold maxLen; omega) (by omega) hble
    rw [← List.length_append, ← List.map_append] at h2
    refine ⟨v', W', h1, ⟨h2, fun _ h => h.elim, fun _ h => h.elim, fun _ h => h.elim, ?_, Nat.le_refl _⟩⟩
    exact h.below.trans ⟨h3.os, h3.tape, h3.output, h3.size, fun k hk => h3.block k (Nat.lt_of_lt_of_le hk hble) (fun e => by
      have := (h.own.lt k e.symm).1
      omega)⟩

set_option maxRecDepth 100000 in
set_option maxHeartbeats 2000000 in
theorem shift_any (v : Value) (x n K : Nat) (w : World) (h : IsNum w v x) (hK : K ≤ 300000) (hx : x < 256 ^ K) (hn : n ≤ 100000) :
    Calls Tryz.prog 66 #[v, .int .i64 n] w fun e w' => (∃ v', e = .returned v' ∧ IsNum w' v' (x * 2 ^ n)) ∧ Below w.heap.size w w' := by
  obtain ⟨l, hl1, hl2, hl3⟩ := h
  have hll := norm_len l hl3 K (by rw [hl2]; exact hx)
  obtain ⟨j, hj⟩ : ∃ j, n / 8 = j := ⟨_, rfl⟩
  obtain ⟨m, hm⟩ : ∃ m, n % 8 = m := ⟨_, rfl⟩
  have hm8 : m < 8 := by omega
  have hj5 : j ≤ 100000 := by omega
  have hnm : n = 8 * j + m := by omega
  obtain ⟨W1, hmk, hown⟩ := Own.made w j (by omega)
  obtain ⟨v2, W2, happ, hown2⟩ := hown.app v l (hl1.go hown.below) (by rw [List.length_replicate]; omega) (by simp)
  obtain ⟨p2, c2, rfl⟩ := hown2.form
  have hk2 : (List.replicate j 0 ++ l).length = j + l.length := by rw [List.length_append, List.length_replicate]
  have hval : leV (List.replicate j 0 ++ l) * 2 ^ m = x * 2 ^ n := by
    rw [leV_shift, hl2, hnm, show (256 : Nat) = 2 ^ 8 from by decide, ← Nat.pow_mul, Nat.mul_assoc, ← Nat.pow_add]
  have hpow : 2 ^ m ≤ 256 := by
    have : 2 ^ m ≤ 2 ^ 8 := Nat.pow_le_pow_right (by decide) (by omega)
    exact this
  obtain ⟨P, hP⟩ : ∃ P, 2 ^ m = P := ⟨_, rfl⟩
  rw [hP] at hval hpow
  have hbig : x * 2 ^ n < 256 ^ (K + j + 1) := by
    rw [← hval, leV_shift, hl2, Nat.pow_add, Nat.pow_add, Nat.pow_one]
    have h1 : x * 256 ^ j < 256 ^ K * 256 ^ j := (Nat.mul_lt_mul_right (Nat.pow_pos (by decide))).2 hx
    exact Nat.lt_of_lt_of_le ((Nat.mul_lt_mul_right (by rw [← hP]; exact Nat.two_pow_pos m)).2 h1) (Nat.mul_le_mul_left _ hpow)
  have HT : Hid (∀ W : World, Below W2.heap.size W2 W → Calls Tryz.prog 30 #[.slice p2 (j + l.length) c2, .int .i64 P, .int .i64 0] W fun e w' => (∃ v', e = .returned v' ∧ IsNum w' v' (x * 2 ^ n)) ∧ Below W.heap.size W w') := Lib.hid fun W hW => by
    have := times_list _ (List.replicate j 0 ++ l) P 0 W (hown2.num.go hW) (by omega) hpow (by decide)
    rw [hval, Nat.add_zero, hk2] at this
    exact this
  have HTR : Hid (∀ (v : Value) (W : World), IsNum W v (x * 2 ^ n) → Calls Tryz.prog 64 #[v] W fun e w' => (∃ v', e = .returned v' ∧ IsNum w' v' (x * 2 ^ n)) ∧ w' = W) := Lib.hid fun v W h => trim_num v _ (K + j + 1) W h (by omega) hbig
  rw [hk2] at happ
  have HB2 := Lib.hid hown2.below
  have HAPP := Lib.hid happ
  have HMP := Lib.hid hP
  have hnj : (n : Int).tdiv 8 = (j : Int) := by rw [Int.tdiv_eq_ediv_of_nonneg (by omega)]; omega
  have hnj2 : (n : Int) / 8 = (j : Int) := by omega
  have hnm1 : (n : Int).tmod 8 = (m : Int) := by rw [Int.tmod_eq_emod_of_nonneg (by omega)]; omega
  have hnm2 : (n : Int) % 8 = (m : Int) := by omega
  clear hval hpow hbig hown2 hown hk2 hl1 hl2 hl3 hx hj hm hnm hP happ
  go_enter Tryz.func66, Tryz.ntmps66
  go_wp2_with (first | (at_builtin; refine Lib.wpList_append_run _ rfl _ _ _ _ rfl _ _ rfl rfl _ _ HAPP.out ?_) | fail)
  go_loopg [6, 7] m (fun g s6 s7 wr => ∃ i P' : Nat, i + g = m ∧ 2 ^ i = P' ∧ s6 = .int .i64 P' ∧ s7 = .int .i64 i ∧ wr = W2)
  case atStart => exact ⟨0, 1, by omega, rfl, rfl, rfl, rfl⟩
  case round =>
    obtain ⟨i, P', hi, hP', rfl, rfl, rfl⟩ := hrel
    have HP' := Lib.hid hP'
    have hP1 : P' ≤ 256 := by
      rw [← hP']
      have : 2 ^ i ≤ 2 ^ 8 := Nat.pow_le_pow_right (by decide) (by omega)
      exact this
    clear hP'
    by_cases him : i < m
    · have hii : (i : Int) < (m : Int) := by omega
      go_wp2_with fail
      go_roundg (gk - 1)
      case measure => omega
      case rel => exact ⟨i + 1, P' * 2, by omega, by rw [Nat.pow_succ, HP'.out], by go_num, by go_num, rfl⟩
    · obtain rfl : i = m := by omega
      obtain rfl : P' = P := by rw [← HP'.out, ← HMP.out]
      clear him hi
      go_wp2_with fail
      refine (HT.out _ (Below.refl _ _)).mono ?_
      rintro e w5 ⟨⟨v', rfl, hn5⟩, hb5⟩
      have H5 := Lib.hid hn5
      have B5 := Lib.hid (HB2.out.trans (hb5.mono HB2.out.size))
      clear hn5 hb5
      go_wp2_with fail
      refine (HTR.out _ _ H5.out).mono ?_
      rintro e w6 ⟨⟨v6, rfl, hn6⟩, rfl⟩
      have H6 := Lib.hid hn6
      clear hn6
      go_wp2_with fail
      go_ret
      exact ⟨⟨_, rfl, H6.out⟩, B5.out⟩
end Go.Proofs.YtmhagigokgklaaaGreatDoor

/- The reference's rounding: plain. -/
namespace Go.Proofs.YtmhagigokgklaaaGreatDoor
open Go Go.RowKit Go.Lib
set_option exponentiation.threshold 3000

def xsN (P : Nat) (e : Int) : Nat := P * 2 ^ (-e).toNat
def ysN (Q : Nat) (e : Int) : Nat := Q * 2 ^ e.toNat
theorem ysN_pos {Q : Nat} (h : 0 < Q) (e : Int) : 0 < ysN Q e := Nat.mul_pos h (Nat.two_pow_pos _)

theorem sc_up (P Q k : Nat) (e : Int) (h : xsN P e < 2 ^ (k + 1) * ysN Q e) : xsN P (e + 1) < 2 ^ k * ysN Q (e + 1) := by
  unfold xsN ysN at *
  by_cases he : e < 0
  · obtain ⟨n, hn⟩ : ∃ n : Nat, e = -((n + 1 : Nat) : Int) := ⟨(-(e + 1)).toNat, by omega⟩
    rw [show (-e).toNat = n + 1 by omega, show e.toNat = 0 by omega, Nat.pow_zero, Nat.mul_one, Nat.pow_succ, Nat.pow_succ] at h
    rw [show (-(e + 1)).toNat = n by omega, show (e + 1).toNat = 0 by omega, Nat.pow_zero, Nat.mul_one]
    rw [show P * (2 ^ n * 2) = P * 2 ^ n * 2 from by ac_rfl, show 2 ^ k * 2 * Q = 2 ^ k * Q * 2 from by ac_rfl] at h
    exact Nat.lt_of_mul_lt_mul_right h
  · obtain ⟨n, hn⟩ : ∃ n : Nat, e = (n : Int) := ⟨e.toNat, by omega⟩
    rw [show (-e).toNat = 0 by omega, show e.toNat = n by omega, Nat.pow_zero, Nat.mul_one] at h
    rw [show (-(e + 1)).toNat = 0 by omega, show (e + 1).toNat = n + 1 by omega, Nat.pow_zero, Nat.mul_one]
    rw [Nat.pow_succ] at h ⊢
    rwa [show 2 ^ k * (Q * (2 ^ n * 2)) = 2 ^ k * 2 * (Q * 2 ^ n) from by ac_rfl]
theorem sc_lo (P Q k : Nat) (e : Int) (h : 2 ^ (k + 1) * ysN Q e ≤ xsN P e) : 2 ^ k * ysN Q (e + 1) ≤ xsN P (e + 1) := by
  unfold xsN ysN at *
  by_cases he : e < 0
  · obtain ⟨n, hn⟩ : ∃ n : Nat, e = -((n + 1 : Nat) : Int) := ⟨(-(e + 1)).toNat, by omega⟩
    rw [show (-e).toNat = n + 1 by omega, show e.toNat = 0 by omega, Nat.pow_zero, Nat.mul_one, Nat.pow_succ, Nat.pow_succ] at h
    rw [show (-(e + 1)).toNat = n by omega, show (e + 1).toNat = 0 by omega, Nat.pow_zero, Nat.mul_one]
    rw [show P * (2 ^ n * 2) = P * 2 ^ n * 2 from by ac_rfl, show 2 ^ k * 2 * Q = 2 ^ k * Q * 2 from by ac_rfl] at h
    exact Nat.le_of_mul_le_mul_right h (by decide)
  · obtain ⟨n, hn⟩ : ∃ n : Nat, e = (n : Int) := ⟨e.toNat, by omega⟩
    rw [show (-e).toNat = 0 by omega, show e.toNat = n by omega, Nat.pow_zero, Nat.mul_one] at h
    rw [show (-(e + 1)).toNat = 0 by omega, show (e + 1).toNat = n + 1 by omega, Nat.pow_zero, Nat.mul_one]
    rw [Nat.pow_succ] at h ⊢
    rwa [show 2 ^ k * (Q * (2 ^ n * 2)) = 2 ^ k * 2 * (Q * 2 ^ n) from by ac_rfl]
theorem sc_same (P Q : Nat) (e : Int) (h : -1074 ≤ e) : 2 * (P * 2 ^ 1074) * ysN Q e = 2 * (Q * (xsN P e * 2 ^ (e + 1074).toNat)) := by
  unfold xsN ysN
  have h1 : (2 : Nat) ^ 1074 * 2 ^ e.toNat = 2 ^ (-e).toNat * 2 ^ (e + 1074).toNat := by
    rw [← Nat.pow_add, ← Nat.pow_add]; congr 1; omega
  rw [show 2 * (P * 2 ^ 1074) * (Q * 2 ^ e.toNat) = 2 * (Q * (P * (2 ^ 1074 * 2 ^ e.toNat))) from by ac_rfl, h1]
  ac_rfl
theorem sc_start (P Q bp bq : Nat) (e : Int) (hP : 0 < P) (hQ : 0 < Q) (h1 : BitsAre P bp) (h2 : BitsAre Q bq) (he : e = max ((bp : Int) - bq - 53) (-1074)) :
    xsN P e < 2 ^ 54 * ysN Q e ∧ (e = -1074 ∨ 2 ^ 52 * ysN Q e ≤ xsN P e) := by
  have hbp : 0 < bp := by
    rcases Nat.eq_zero_or_pos bp with h | h
    · have := h1.1; rw [h] at this; omega
    · exact h
  have hbq : 0 < bq := by
    rcases Nat.eq_zero_or_pos bq with h | h
    · have := h2.1; rw [h] at this; omega
    · exact h
  have p1 := h1.1
  have p2 := h1.2 hbp
  have q1 := h2.1
  have q2 := h2.2 hbq
  unfold xsN ysN
  constructor
  · have a1 : P * 2 ^ (-e).toNat < 2 ^ bp * 2 ^ (-e).toNat := (Nat.mul_lt_mul_right (Nat.two_pow_pos _)).2 p1
    have a2 : 2 ^ bp * 2 ^ (-e).toNat ≤ 2 ^ 54 * (2 ^ (bq - 1) * 2 ^ e.toNat) := by
      rw [← Nat.pow_add, ← Nat.pow_add, ← Nat.pow_add]
      exact Nat.pow_le_pow_right (by decide) (by omega)
    exact Nat.lt_of_lt_of_le a1 (Nat.le_trans a2 (Nat.mul_le_mul_left _ (Nat.mul_le_mul_right _ q2)))
  · by_cases hm : e = -1074
    · exact .inl hm
    · right
      have a1 : 2 ^ 52 * (2 ^ bq * 2 ^ e.toNat) = 2 ^ (bp - 1) * 2 ^ (-e).toNat := by
        rw [← Nat.pow_add, ← Nat.pow_add, ← Nat.pow_add]; congr 1; omega
      exact Nat.le_trans (Nat.mul_le_mul_left _ (Nat.mul_le_mul_right _ (by omega : Q ≤ 2 ^ bq))) (Nat.le_trans (Nat.le_of_eq a1) (Nat.mul_le_mul_right _ p2))

/-- what the code makes of the rounded digits -/
def rndN (e : Int) (M : Nat) : Nat :=
  let m := if M = 9007199254740992 then 4503599627370496 else M
  let e' := if M = 9007199254740992 then e + 1 else e
  if 971 < e' then 9218868437227405312 else if m < 4503599627370496 then m else m - 4503599627370496 + (e' + 1075).toNat * 4503599627370496
theorem rnd_is (e : Int) (M E : Nat) (h1 : -1074 ≤ e) (hE : (e + 1074).toNat = E) (hM : M ≤ 9007199254740992) (h : E = 0 ∨ 4503599627370496 ≤ M) : rndN e M = min INF (E * BB + M) := by
  unfold rndN INF BB
  by_cases hm : M = 9007199254740992
  · simp only [if_pos hm]
    split <;> (try split) <;> omega
  · simp only [if_neg hm]
    split <;> (try split) <;> omega
theorem round_near (P Q : Nat) (e : Int) (hQ : 0 < Q) (h1 : -1074 ≤ e) (hup : xsN P e < 2 ^ 53 * ysN Q e) (hlo : e = -1074 ∨ 2 ^ 52 * ysN Q e ≤ xsN P e) :
    Near (2 * (P * 2 ^ 1074)) Q (rndN e (xsN P e / ysN Q e + upG (xsN P e) (ysN Q e))) := by
  have hy := ysN_pos hQ e
  have hm : xsN P e / ysN Q e < 2 * BB := by
    rw [Nat.div_lt_iff_lt_mul hy]
    exact hup
  have hE : (e + 1074).toNat = 0 ∨ BB ≤ xsN P e / ysN Q e := by
    rcases hlo with h | h
    · left; omega
    · right
      rw [Nat.le_div_iff_mul_le hy]
      exact h
  have hu := up_le (xsN P e) (ysN Q e)
  rw [rnd_is e _ _ h1 rfl (by unfold BB at hm; omega) (by unfold BB at hE; omega)]
  exact near_gap hQ hy (sc_same P Q e h1) hm hE
end Go.Proofs.YtmhagigokgklaaaGreatDoor

/- The reference's rounding, walked. -/
namespace Go.Proofs.YtmhagigokgklaaaGreatDoor
open Go Go.RowKit Go.Sort Go.Lib
set_option exponentiation.threshold 3000

/-- one step of a division by halves -/
theorem div_step (x m Y X k : Nat) (h : x + m * (Y * 2 ^ (k + 1)) = X) (hlt : x < Y * 2 ^ (k + 1)) :
    (x < Y * 2 ^ k → x + (m * 2) * (Y * 2 ^ k) = X) ∧ (Y * 2 ^ k ≤ x → x - Y * 2 ^ k + (m * 2 + 1) * (Y * 2 ^ k) = X ∧ x - Y * 2 ^ k < Y * 2 ^ k) := by
  have e1 : Y * 2 ^ (k + 1) = 2 * (Y * 2 ^ k) := by rw [Nat.pow_succ]; ac_rfl
  rw [e1] at h hlt
  generalize Y * 2 ^ k = T at *
  have e2 : m * (2 * T) = m * 2 * T := by ac_rfl
  rw [e2] at h
  refine ⟨fun _ => h, fun g => ⟨?_, by omega⟩⟩
  rw [Nat.add_mul, Nat.one_mul]; omega
theorem div_lt (x m Y X k : Nat) (h : x + m * (Y * 2 ^ k) = X) (hX : X < 2 ^ 54 * Y) : m < 18014398509481984 := by
  rcases Nat.lt_or_ge m 18014398509481984 with g | g
  · exact g
  · exfalso
    have h1 : 2 ^ 54 * Y ≤ m * (Y * 2 ^ k) := Nat.mul_le_mul g (Nat.le_mul_of_pos_right _ (Nat.two_pow_pos k))
    omega
theorem div_end (x m Y X : Nat) (h : x + m * (Y * 2 ^ 0) = X) (hlt : x < Y * 2 ^ 0) : X / Y = m ∧ X % Y = x := by
  rw [Nat.pow_zero, Nat.mul_one] at h hlt
  have hY : 0 < Y := by omega
  rw [← h, Nat.add_mul_div_right _ _ hY, Nat.div_eq_of_lt hlt, Nat.zero_add, Nat.add_mul_mod_self_right, Nat.mod_eq_of_lt hlt]
  exact ⟨rfl, rfl⟩

/-- how the rest decides -/
theorem up_cases (x m Y X : Nat) (h1 : X / Y = m) (h2 : X % Y = x) :
    (cmpN (x * 2) Y = -1 ∧ upG X Y = 0) ∨ (cmpN (x * 2) Y = 0 ∧ m % 2 = 0 ∧ upG X Y = 0) ∨ (cmpN (x * 2) Y = 0 ∧ m % 2 = 1 ∧ upG X Y = 1) ∨ (cmpN (x * 2) Y = 1 ∧ upG X Y = 1) := by
  unfold cmpN upG
  rw [h1, h2, Nat.mul_comm x 2]
  rcases Nat.lt_trichotomy (2 * x) Y with h | h | h
  · left; rw [if_pos h, if_pos h]; exact ⟨rfl, rfl⟩
  · rw [if_neg (show ¬ 2 * x < Y by omega), if_neg (show ¬ Y < 2 * x by omega), if_neg (show ¬ 2 * x < Y by omega), if_pos h]
    rcases Nat.mod_two_eq_zero_or_one m with g | g
    · right; left; exact ⟨rfl, g, g⟩
    · right; right; left; exact ⟨rfl, g, g⟩
  · right; right; right
    rw [if_neg (show ¬ 2 * x < Y by omega), if_pos h, if_neg (show ¬ 2 * x < Y by omega), if_neg (show ¬ 2 * x = Y by omega)]
    exact ⟨rfl, rfl⟩

/-- what is left to do behind the digits -/
theorem rnd_cases (e : Int) (M : Nat) (h1 : -1074 ≤ e) :
    (M = 9007199254740992 ∧ 971 < e + 1 ∧ rndN e M = 9218868437227405312) ∨ (M = 9007199254740992 ∧ ¬ 971 < e + 1 ∧ ∃ d : Nat, e + 1 + 1075 = (d : Int) ∧ d ≤ 2046 ∧ rndN e M = d * 4503599627370496) ∨
    (M ≠ 9007199254740992 ∧ 971 < e ∧ rndN e M = 9218868437227405312) ∨ (M ≠ 9007199254740992 ∧ ¬ 971 < e ∧ M < 4503599627370496 ∧ rndN e M = M) ∨
    (M ≠ 9007199254740992 ∧ ¬ 971 < e ∧ ¬ M < 4503599627370496 ∧ ∃ d : Nat, e + 1075 = (d : Int) ∧ d ≤ 2046 ∧ rndN e M = M - 4503599627370496 + d * 4503599627370496) := by
  unfold rndN
  by_cases hm : M = 9007199254740992
  · simp only [if_pos hm]
    by_cases he : 971 < e + 1
    · left; rw [if_pos he]; exact ⟨hm, he, rfl⟩
    · right; left
      rw [if_neg he, if_neg (by decide)]
      exact ⟨hm, he, (e + 1 + 1075).toNat, by omega, by omega, by omega⟩
  · simp only [if_neg hm]
    by_cases he : 971 < e
    · right; right; left; rw [if_pos he]; exact ⟨hm, he, rfl⟩
    · right; right; right
      rw [if_neg he]
      by_cases hb : M < 4503599627370496
      · left; rw [if_pos hb]; exact ⟨hm, he, hb, rfl⟩
      · right; rw [if_neg hb]
        exact ⟨hm, he, hb, (e + 1075).toNat, by omega, by omega, rfl⟩

def RdPost (P Q : Nat) (w : World) (e : Ending) (w' : World) : Prop := (∃ r : Nat, e = .returned (.int .u64 r) ∧ Near (2 * (P * 2 ^ 1074)) Q r) ∧ Below w.heap.size w w'

set_option maxRecDepth 100000 in
set_option maxHeartbeats 4000000 in
theorem round_zero (vp vq : Value) (Q : Nat) (w : World) (hp : IsNum w vp 0) (hQ : 0 < Q) :
    Calls Tryz.prog 32 #[vp, vq] w (RdPost 0 Q w) := by
  obtain ⟨l, h1, h2, h3⟩ := hp
  obtain rfl := (norm_zero l h3).1 h2
  obtain ⟨p, c, rfl⟩ := h1.form
  have HR : Hid (Near (2 * (0 * 2 ^ 1074)) Q 0) := Lib.hid (near_zero _ _ hQ (by omega))
  clear h1 h2 h3
  go_enter Tryz.func32, Tryz.ntmps32
  go_wp2_with fail
  go_ret
  exact ⟨⟨0, rfl, HR.out⟩, Below.refl _ _⟩

/-- the number of bytes of a number that is not nought -/
theorem num_ne (w : World) (v : Value) (P : Nat) (h : IsNum w v P) (h0 : 0 < P) : ∃ p n c, v = .slice p n c ∧ 0 < n := by
  obtain ⟨l, h1, h2, h3⟩ := h
  obtain ⟨p, c, rfl⟩ := h1.form
  refine ⟨p, l.length, c, rfl, ?_⟩
  rcases Nat.eq_zero_or_pos l.length with g | g
  · exfalso
    obtain rfl := List.eq_nil_of_length_eq_zero g
    simp [leV] at h2; omega
  · exact g

theorem e_bound (P Q K : Nat) (e : Int) (hP : P < 256 ^ K) (hQ : 0 < Q) (h : e = -1074 ∨ 2 ^ 52 * ysN Q e ≤ xsN P e) : e ≤ 8 * (K : Int) := by
  rcases h with h | h
  · omega
  · by_cases he : e < 0
    · omega
    · unfold xsN ysN at h
      rw [show (-e).toNat = 0 by omega, Nat.pow_zero, Nat.mul_one] at h
      have h1 : 2 ^ e.toNat ≤ P := Nat.le_trans (Nat.le_trans (Nat.le_mul_of_pos_left _ hQ) (Nat.le_mul_of_pos_left _ (by decide))) h
      have h2 : 2 ^ e.toNat < 2 ^ (8 * K) := by
        rw [Nat.pow_mul]; exact Nat.lt_of_le_of_lt h1 hP
      have := (Nat.pow_lt_pow_iff_right (by decide)).1 h2
      omega
theorem xs_bound (P K : Nat) (e : Int) (h1 : -1074 ≤ e) (hP : P < 256 ^ K) : xsN P e < 256 ^ (2 * K + 200) := by
  unfold xsN
  have h2 : 2 ^ (-e).toNat ≤ 256 ^ 200 := by
    rw [show (256 : Nat) = 2 ^ 8 from by decide, ← Nat.pow_mul]
    exact Nat.pow_le_pow_right (by decide) (by omega)
  have h3 : P * 2 ^ (-e).toNat < 256 ^ K * 256 ^ 200 := Nat.lt_of_lt_of_le ((Nat.mul_lt_mul_right (Nat.two_pow_pos _)).2 hP) (Nat.mul_le_mul_left _ h2)
  rw [← Nat.pow_add] at h3
  exact Nat.lt_of_lt_of_le h3 (Nat.pow_le_pow_right (by decide) (by omega))
theorem ys_bound (Q K : Nat) (e : Int) (h1 : e ≤ 8 * (K : Int)) (hQ : Q < 256 ^ K) : ysN Q e < 256 ^ (2 * K + 200) := by
  unfold ysN
  have h2 : 2 ^ e.toNat ≤ 256 ^ K := by
    rw [show (256 : Nat) = 2 ^ 8 from by decide, ← Nat.pow_mul]
    exact Nat.pow_le_pow_right (by decide) (by omega)
  have h3 : Q * 2 ^ e.toNat < 256 ^ K * 256 ^ K := Nat.lt_of_lt_of_le ((Nat.mul_lt_mul_right (Nat.two_pow_pos _)).2 hQ) (Nat.mul_le_mul_left _ h2)
  rw [← Nat.pow_add] at h3
  exact Nat.lt_of_lt_of_le h3 (Nat.pow_le_pow_right (by decide) (by omega))

set_option maxRecDepth 100000 in
set_option maxHeartbeats 16000000 in
theorem round_pos (vp vq : Value) (P Q K : Nat) (w : World) (hp : IsNum w vp P) (hq : IsNum w vq Q) (hP0 : 0 < P) (hQ : 0 < Q) (hK : K ≤ 5000) (hP : P < 256 ^ K) (hQK : Q < 256 ^ K) :
    Calls Tryz.prog 32 #[vp, vq] w (RdPost P Q w) := by
  have HBP : Hid (∀ W : World, Below w.heap.size w W → Calls Tryz.prog 65 #[vp] W fun e w' => (∃ n : Nat, e = .returned (.int .i64 n) ∧ BitsAre P n) ∧ w' = W) := Lib.hid fun W h => bits_any vp P K W (hp.go h) (by omega) hP
  have HBQ : Hid (∀ W : World, Below w.heap.size w W → Calls Tryz.prog 65 #[vq] W fun e w' => (∃ n : Nat, e = .returned (.int .i64 n) ∧ BitsAre Q n) ∧ w' = W) := Lib.hid fun W h => bits_any vq Q K W (hq.go h) (by omega) hQK
  have HSH : Hid (∀ (v : Value) (x n : Nat) (W : World), IsNum W v x → x < 256 ^ (2 * K + 200) → n ≤ 100000 → Calls Tryz.prog 66 #[v, .int .i64 n] W fun e w' => (∃ v', e = .returned v' ∧ IsNum w' v' (x * 2 ^ n)) ∧ Below W.heap.size W w') := Lib.hid fun v x n W h hx hn => shift_any v x n (2 * K + 200) W h (by omega) hx hn
  have HCM : Hid (∀ (va vb : Value) (x y : Nat) (W : World), IsNum W va x → IsNum W vb y → x < 256 ^ (2 * K + 300) → y < 256 ^ (2 * K + 300) → Calls Tryz.prog 67 #[va, vb] W fun e w' => e = .returned (.int .i64 (cmpN x y)) ∧ Below W.heap.size W w') := Lib.hid fun va vb x y W ha hb hx hy => cmp_any va vb x y (2 * K + 300) W ha hb (by omega) hx hy
  have HMI : Hid (∀ (va vb : Value) (x y : Nat) (W : World), IsNum W va x → IsNum W vb y → x < 256 ^ (2 * K + 300) → y ≤ x → Calls Tryz.prog 68 #[va, vb] W fun e w' => (∃ v', e = .returned v' ∧ IsNum w' v' (x - y)) ∧ Below W.heap.size W w') := Lib.hid fun va vb x y W ha hb hx hy => minus_any va vb x y (2 * K + 300) W ha hb (by omega) hx hy
  have HST : Hid (∀ bp bq e, BitsAre P bp → BitsAre Q bq → e = max ((bp : Int) - bq - 53) (-1074) → xsN P e < 2 ^ 54 * ysN Q e ∧ (e = -1074 ∨ 2 ^ 52 * ysN Q e ≤ xsN P e)) := Lib.hid fun bp bq e h1 h2 h3 => sc_start P Q bp bq e hP0 hQ h1 h2 h3
  have HEB : Hid (∀ e : Int, -1074 ≤ e → (e = -1074 ∨ 2 ^ 52 * ysN Q e ≤ xsN P e) → e ≤ 8 * (K : Int) ∧ xsN P e < 256 ^ (2 * K + 200) ∧ ysN Q e < 256 ^ (2 * K + 200)) := Lib.hid fun e h1 h => by
    have h3 := e_bound P Q K e hP hQ h
    exact ⟨h3, xs_bound P K e h1 hP, ys_bound Q K e h3 hQK⟩
  have HBL : Hid (∀ bp, BitsAre P bp → bp ≤ 8 * K) := Lib.hid fun bp h => by
    rcases Nat.eq_zero_or_pos bp with g | g
    · omega
    · have h1 := Nat.lt_of_le_of_lt (h.2 g) hP
      rw [show (256 : Nat) = 2 ^ 8 from by decide, ← Nat.pow_mul] at h1
      have := (Nat.pow_lt_pow_iff_right (by decide)).1 h1
      omega
  have HBL2 : Hid (∀ bp, BitsAre Q bp → bp ≤ 8 * K) := Lib.hid fun bp h => by
    rcases Nat.eq_zero_or_pos bp with g | g
    · omega
    · have h1 := Nat.lt_of_le_of_lt (h.2 g) hQK
      rw [show (256 : Nat) = 2 ^ 8 from by decide, ← Nat.pow_mul] at h1
      have := (Nat.pow_lt_pow_iff_right (by decide)).1 h1
      omega
  have HPB : Hid (P < 256 ^ (2 * K + 200)) := Lib.hid (Nat.lt_of_lt_of_le hP (Nat.pow_le_pow_right (by decide) (by omega)))
  have HQB : Hid (Q < 256 ^ (2 * K + 200)) := Lib.hid (Nat.lt_of_lt_of_le hQK (Nat.pow_le_pow_right (by decide) (by omega)))
  have HTB0 : Hid (∀ Y, Y < 256 ^ (2 * K + 200) → ∀ k, k ≤ 54 → Y * 2 ^ k < 256 ^ (2 * K + 300)) := Lib.hid fun Y hY k hk => by
    have h1 : 2 ^ k ≤ 256 ^ 7 := by
      have : 2 ^ k ≤ 2 ^ 56 := Nat.pow_le_pow_right (by decide) (by omega)
      exact this
    have h2 : Y * 2 ^ k < 256 ^ (2 * K + 200) * 256 ^ 7 := Nat.lt_of_lt_of_le ((Nat.mul_lt_mul_right (Nat.two_pow_pos k)).2 hY) (Nat.mul_le_mul_left _ h1)
    rw [← Nat.pow_add] at h2
    exact Nat.lt_of_lt_of_le h2 (Nat.pow_le_pow_right (by decide) (by omega))
  have HXB0 : Hid (∀ X, X < 256 ^ (2 * K + 200) → ∀ x, x ≤ 2 * X → x < 256 ^ (2 * K + 300)) := Lib.hid fun X hX x hx => by
    have h1 : 2 * 256 ^ (2 * K + 200) ≤ 256 ^ (2 * K + 300) := by
      have : 256 ^ (2 * K + 201) ≤ 256 ^ (2 * K + 300) := Nat.pow_le_pow_right (by decide) (by omega)
      rw [Nat.pow_succ] at this; omega
    omega
  generalize 256 ^ (2 * K + 200) = B1 at *
  generalize 256 ^ (2 * K + 300) = B2 at *
  obtain ⟨pp, np, cp, rfl, hnp⟩ := num_ne w vp P hp hP0
  obtain ⟨vp, hvp⟩ : ∃ v : Value, v = .slice pp np cp := ⟨_, rfl⟩
  have HPN := Lib.hid hp
  have HQN := Lib.hid hq
  have HQ := Lib.hid hQ
  have HPP := Lib.hid hP
  have HQP := Lib.hid hQK
  have HKK := Lib.hid hK
  clear hp hq hQ hP hQK hP0
  have hlen0 : ((np : Int) == 0) = false := by rw [beq_eq_false_iff_ne]; omega
  clear hvp vp
  go_enter Tryz.func32, Tryz.ntmps32
  go_wp2_with fail
  refine (HBP.out _ (Below.refl _ _)).mono ?_
  rintro e w1 ⟨⟨bp, rfl, hbp⟩, rfl⟩
  have hbp1 := HBL.out bp hbp
  have HB1 := Lib.hid hbp
  clear hbp
  go_wp2_with fail
  refine (HBQ.out _ (Below.refl _ _)).mono ?_
  rintro e w2 ⟨⟨bq, rfl, hbq⟩, rfl⟩
  have hbq1 := HBL2.out bq hbq
  have HB2 := Lib.hid hbq
  clear hbq
  obtain ⟨e0, he0⟩ : ∃ e0, max ((bp : Int) - bq - 53) (-1074) = e0 := ⟨_, rfl⟩
  have HS0 := Lib.hid (HST.out bp bq e0 HB1.out HB2.out he0.symm)
  have hge0 : -1074 ≤ e0 := by omega
  clear HBP HBQ HST HBL HBL2
  go_wp2_with fail
  clear he0 hbp1 hbq1 HB1 HB2
  go_loopg [5, 6, 7, 8, 9, 10, 11] 1 (fun g s5 _ _ _ _ _ _ wr => ∃ e : Int, g ≤ 1 ∧ s5 = .int .i64 e ∧ -1074 ≤ e ∧ xsN P e < 2 ^ (53 + g) * ysN Q e ∧ (e = -1074 ∨ 2 ^ 52 * ysN Q e ≤ xsN P e) ∧ Below w2.heap.size w2 wr)
  case atStart => exact ⟨e0, Nat.le_refl _, rfl, hge0, HS0.out.1, HS0.out.2, Below.refl _ _⟩
  case round =>
    clear HS0 hge0
    obtain ⟨e, hg1, rfl, hge, hup, hlo, hbw⟩ := hrel
    obtain ⟨heK, hxb, hyb⟩ := HEB.out e hge hlo
    have he5 : e ≤ 40000 := by have := HKK.out; omega
    have HBW := Lib.hid hbw
    have HXB := Lib.hid hxb
    have HYB := Lib.hid hyb
    have HUP := Lib.hid hup
    have HLO := Lib.hid hlo
    clear hbw hxb hyb hup hlo heK HEB
    obtain ⟨wo, hwo⟩ : ∃ x, x = wr := ⟨_, rfl⟩
    subst hwo
    obtain ⟨go, hgo⟩ : ∃ x, x = gk := ⟨_, rfl⟩
    subst hgo
    have HYP : Hid (0 < ysN Q e) := Lib.hid (ysN_pos HQ.out e)
    have HUP2 : Hid (xsN P e < 2 ^ 54 * ysN Q e) := Lib.hid (Nat.lt_of_lt_of_le HUP.out (Nat.mul_le_mul_right _ (Nat.pow_le_pow_right (by decide) (by omega))))
    have HUPN : Hid (go = 0 → xsN P e < 2 ^ 53 * ysN Q e) := Lib.hid (fun h => by have := HUP.out; rw [h] at this; exact this)
    have HNX : Hid (2 ^ 53 * ysN Q e ≤ xsN P e → xsN P (e + 1) < 2 ^ (53 + 0) * ysN Q (e + 1) ∧ (e + 1 = -1074 ∨ 2 ^ 52 * ysN Q (e + 1) ≤ xsN P (e + 1))) := Lib.hid (fun h => ⟨sc_up P Q 53 e HUP2.out, .inr (sc_lo P Q 52 e h)⟩)
    have HNR : Hid (xsN P e < 2 ^ 53 * ysN Q e → Near (2 * (P * 2 ^ 1074)) Q (rndN e (xsN P e / ysN Q e + upG (xsN P e) (ysN Q e)))) := Lib.hid (fun h => round_near P Q e HQ.out hge h HLO.out)
    clear HUP HLO
    go_upto_if 25 with (fail)
    go_cut [6, 7] from 22 to 89 (fun s6 s7 wx => ∃ vx vy : Value, s6 = vx ∧ s7 = vy ∧ IsNum wx vx (xsN P e) ∧ IsNum wx vy (ysN Q e) ∧ Below w2.heap.size w2 wx)
    case first =>
      by_cases hneg : e < 0
      · obtain ⟨n, hn⟩ : ∃ n : Nat, -e = (n : Int) := ⟨(-e).toNat, by omega⟩
        have HSHP : Hid (∀ W : World, Below wo.heap.size wo W → Calls Tryz.prog 66 #[.slice pp np cp, .int .i64 n] W fun e' w' => (∃ v', e' = .returned v' ∧ IsNum w' v' (xsN P e)) ∧ Below W.heap.size W w') := Lib.hid fun W hW => by
          have := HSH.out (.slice pp np cp) P n W ((HPN.out.go HBW.out).go hW) HPB.out (by omega)
          unfold xsN
          rw [show (-e).toNat = n by omega]
          exact this
        have HY0 : Hid (IsNum wo vq (ysN Q e)) := Lib.hid (by
          have := HQN.out.go HBW.out
          unfold ysN
          rw [show e.toNat = 0 by omega, Nat.pow_zero, Nat.mul_one]
          exact this)
        go_wp2_with fail
        refine (HSHP.out _ (Below.refl _ _)).mono ?_
        rintro e5 w5 ⟨⟨vx, rfl, hvx⟩, hb5⟩
        have HX5 := Lib.hid hvx
        have HY5 := Lib.hid (HY0.out.go hb5)
        have HBW5 := Lib.hid (HBW.out.trans (hb5.mono HBW.out.size))
        clear hvx hb5 HY0 hn
        go_wp2_with fail
        go_meet
        exact ⟨_, _, rfl, rfl, HX5.out, HY5.out, HBW5.out⟩
      · obtain ⟨n, hn⟩ : ∃ n : Nat, e = (n : Int) := ⟨e.toNat, by omega⟩
        have HSHP : Hid (∀ W : World, Below wo.heap.size wo W → Calls Tryz.prog 66 #[vq, .int .i64 e] W fun e' w' => (∃ v', e' = .returned v' ∧ IsNum w' v' (ysN Q e)) ∧ Below W.heap.size W w') := Lib.hid fun W hW => by
          have := HSH.out vq Q n W ((HQN.out.go HBW.out).go hW) HQB.out (by omega)
          unfold ysN
          rw [show e.toNat = n by omega, hn]
          exact this
        have HX0 : Hid (IsNum wo (.slice pp np cp) (xsN P e)) := Lib.hid (by
          have := HPN.out.go HBW.out
          unfold xsN
          rw [show (-e).toNat = 0 by omega, Nat.pow_zero, Nat.mul_one]
          exact this)
        clear hn
        go_wp2_with fail
        refine (HSHP.out _ (Below.refl _ _)).mono ?_
        rintro e5 w5 ⟨⟨vy, rfl, hvy⟩, hb5⟩
        have HY5 := Lib.hid hvy
        have HX5 := Lib.hid (HX0.out.go hb5)
        have HBW5 := Lib.hid (HBW.out.trans (hb5.mono HBW.out.size))
        clear hvy hb5 HX0
        go_wp2_with fail
        go_meet
        exact ⟨_, _, rfl, rfl, HX5.out, HY5.out, HBW5.out⟩
    case rest =>
      obtain ⟨vx, vy, rfl, rfl, hvx, hvy, hb5⟩ := hcut
      obtain ⟨w5, rfl⟩ : ∃ w5 : World, w5 = wc := ⟨_, rfl⟩
      have HX5 := Lib.hid hvx
      have HY5 := Lib.hid hvy
      have HBW5 := Lib.hid hb5
      clear hvx hvy hb5 HBW
      clear HPB HQB
      generalize xsN P e = X at *
      generalize ysN Q e = Y at *
      have HTB := Lib.hid (HTB0.out Y HYB.out)
      have HXB3 := Lib.hid (HXB0.out X HXB.out)
      clear HTB0 HXB0
      go_wp2_with fail
      go_loopg [6, 8, 9, 10] 55 (fun g s6 s8 s9 _ wr => ∃ (x m : Nat) (i : Int), g ≤ 55 ∧ i = (g : Int) - 1 ∧ s9 = .int .i64 i ∧ s8 = .int .u64 m ∧ x + m * (Y * 2 ^ g) = X ∧ x < Y * 2 ^ g ∧ IsNum wr s6 x ∧ Below w5.heap.size w5 wr)
      case atStart =>
        exact ⟨X, 0, 54, Nat.le_refl _, by omega, rfl, rfl, by rw [Nat.zero_mul, Nat.add_zero], by
          have h1 := HUP2.out
          have h2 : 2 ^ 54 * Y ≤ Y * 2 ^ 55 := by rw [Nat.mul_comm]; exact Nat.mul_le_mul_left _ (Nat.pow_le_pow_right (by decide) (by decide))
          omega, HX5.out, Below.refl _ _⟩
      case round =>
        obtain ⟨x, m, i, hg, hi, rfl, rfl, hsum, hlt, hnum, hb6⟩ := hrel
        have hm54 := div_lt x m Y X gk hsum HUP2.out
        have HSUM := Lib.hid hsum
        have HLT := Lib.hid hlt
        have HXN := Lib.hid hnum
        have HB6 := Lib.hid hb6
        clear hsum hlt hnum hb6
        by_cases h0 : gk = 0
        · obtain ⟨hdiv, hmod⟩ := div_end x m Y X (by have := HSUM.out; rw [h0] at this; exact this) (by have := HLT.out; rw [h0] at this; exact this)
          obtain rfl : i = -1 := by omega
          clear hi hg h0
          by_cases hbig : 9007199254740992 ≤ m
          · have hXY : 2 ^ 53 * Y ≤ X := by
              have h1 := (Nat.le_div_iff_mul_le HYP.out).1 (show 9007199254740992 ≤ X / Y by omega)
              exact h1
            have hgo : go = 1 := by
              have h1 := HUPN.out
              have : go ≠ 0 := fun h => by have := h1 h; omega
              omega
            have HNX2 := Lib.hid (HNX.out hXY)
            have hbi : (9007199254740992 : Int) ≤ (m : Int) := by omega
            have HB7 : Hid (Below w2.heap.size w2 wr) := Lib.hid (HBW5.out.trans (HB6.out.mono HBW5.out.size))
            clear hdiv hmod hXY hbig HUPN HNX HNR
            go_wp2_with fail
            go_roundg 0
            case measure => omega
            case rel => exact ⟨e + 1, by omega, by go_num, by omega, HNX2.out.1, HNX2.out.2, HB7.out⟩
          · have hXY : X < 2 ^ 53 * Y := by
              have h1 := (Nat.div_lt_iff_lt_mul HYP.out).1 (show X / Y < 9007199254740992 by omega)
              exact h1
            have hnr := HNR.out hXY
            have hbi : ¬ (9007199254740992 : Int) ≤ (m : Int) := by omega
            have hup := up_cases x m Y X hdiv hmod
            have HB7 : Hid (Below w2.heap.size w2 wr) := Lib.hid (HBW5.out.trans (HB6.out.mono HBW5.out.size))
            have hxX : x ≤ X := by have := HSUM.out; omega
            have HSX : Hid (∀ W : World, Below wr.heap.size wr W → Calls Tryz.prog 66 #[u6, .int .i64 1] W fun e w' => (∃ v', e = .returned v' ∧ IsNum w' v' (x * 2)) ∧ Below W.heap.size W w') := Lib.hid fun W hW => HSH.out u6 x 1 W (HXN.out.go hW) (Nat.lt_of_le_of_lt hxX HXB.out) (by decide)
            have HCX : Hid (∀ (v : Value) (W : World), Below wr.heap.size wr W → IsNum W v (x * 2) → Calls Tryz.prog 67 #[v, u7] W fun e w' => e = .returned (.int .i64 (cmpN (x * 2) Y)) ∧ Below W.heap.size W w') := Lib.hid fun v W hW hv => HCM.out v u7 (x * 2) Y W hv ((HY5.out.go HB6.out).go hW) (HXB3.out _ (by omega)) (by have := HTB.out 0 (by omega); rwa [Nat.pow_zero, Nat.mul_one] at this)
            rw [hdiv] at hnr
            generalize cmpN (x * 2) Y = c at *
            generalize upG X Y = up at *
            have hmle : m < 9007199254740992 := by omega
            clear hdiv hmod hXY hbig HUPN HNX HNR hxX hm54 HSUM HLT HXN HSH HCM HMI HTB HXB3
            go_wp2_with fail
            refine (HSX.out _ (Below.refl _ _)).mono ?_
            rintro e6 w6 ⟨⟨v6, rfl, hv6⟩, hb6⟩
            have H6 := Lib.hid hv6
            have B6 := Lib.hid hb6
            clear hv6 hb6
            go_wp2_with fail
            refine (HCX.out _ _ B6.out H6.out).mono ?_
            rintro e7 w7 ⟨rfl, hb7⟩
            have B8 := Lib.hid (HB7.out.trans ((B6.out.trans (hb7.mono B6.out.size)).mono HB7.out.size))
            clear hb7 HSX HCX H6 B6 HB7 HB6 HY5 HX5 HBW5 HUP2 HXB HYB HYP
            rcases hup with ⟨rfl, rfl⟩ | ⟨rfl, hpar, rfl⟩ | ⟨rfl, hpar, rfl⟩ | ⟨rfl, rfl⟩
            · obtain ⟨M, hM⟩ : ∃ M, m + 0 = M := ⟨_, rfl⟩
              rw [hM] at hnr
              have hrc := rnd_cases e M hge
              obtain rfl : m = M := by omega
              clear hM
              rcases hrc with ⟨hm1, he1, hres⟩ | ⟨hm1, he1, d, hd, hd2, hres⟩ | ⟨hm1, he1, hres⟩ | ⟨hm1, he1, hb1, hres⟩ | ⟨hm1, he1, hb1, d, hd, hd2, hres⟩
              · omega
              · omega
              · rw [hres] at hnr
                have HNR := Lib.hid hnr
                clear hnr hres
                have hm2 : (((m : Nat) : Int) == 9007199254740992) = false := by rw [beq_eq_false_iff_ne]; omega
                have hm3 : ¬ ((m : Nat) : Int) = 9007199254740992 := by omega
                have HB1 := Lib.hid hmle
                clear hmle
                go_wp2_with fail
                go_ret
                exact ⟨⟨_, rfl, HNR.out⟩, B8.out⟩
              · rw [hres] at hnr
                have HNR := Lib.hid hnr
                clear hnr hres
                have hm2 : (((m : Nat) : Int) == 9007199254740992) = false := by rw [beq_eq_false_iff_ne]; omega
                have hm3 : ¬ ((m : Nat) : Int) = 9007199254740992 := by omega
                have hq1 : decide (971 < e) = false := decide_eq_false he1
                have hbi2 : ((m : Nat) : Int) < 4503599627370496 := by omega
                have HB1 := Lib.hid hmle
                clear hmle hb1
                go_wp2_with fail
                go_ret
                exact ⟨⟨_, rfl, HNR.out⟩, B8.out⟩
              · rw [hres] at hnr
                have HNR := Lib.hid hnr
                clear hnr hres
                have hm2 : (((m : Nat) : Int) == 9007199254740992) = false := by rw [beq_eq_false_iff_ne]; omega
                have hm3 : ¬ ((m : Nat) : Int) = 9007199254740992 := by omega
                have hq1 : decide (971 < e) = false := decide_eq_false he1
                have hq2 : decide (((m : Nat) : Int) < 4503599627370496) = false := decide_eq_false (by omega)
                have hbi2 : ¬ ((m : Nat) : Int) < 4503599627370496 := by omega
                obtain ⟨R, hR⟩ : ∃ R, m - 4503599627370496 + d * 4503599627370496 = R := ⟨_, rfl⟩
                rw [hR] at HNR
                have hRi : ((m : Nat) : Int) - 4503599627370496 + (d : Int) * 4503599627370496 = (R : Int) := by omega
                have HB1 := Lib.hid hmle
                clear hmle hb1
                go_wp2_with fail
                go_ret
                have hb1 : 4503599627370496 ≤ m := by omega
                exact ⟨⟨R, by first | rfl | (rw [← hRi]; rfl), HNR.out⟩, B8.out⟩
            · obtain ⟨M, hM⟩ : ∃ M, m + 0 = M := ⟨_, rfl⟩
              rw [hM] at hnr
              have hpi : (m : Int).tmod 2 = 0 := by rw [Int.tmod_eq_emod_of_nonneg (by omega)]; omega
              have hpj : (m : Int) % 2 = 0 := by omega
              clear hpar
              have hrc := rnd_cases e M hge
              obtain rfl : m = M := by omega
              clear hM
              rcases hrc with ⟨hm1, he1, hres⟩ | ⟨hm1, he1, d, hd, hd2, hres⟩ | ⟨hm1, he1, hres⟩ | ⟨hm1, he1, hb1, hres⟩ | ⟨hm1, he1, hb1, d, hd, hd2, hres⟩
              · omega
              · omega
              · rw [hres] at hnr
                have HNR := Lib.hid hnr
                clear hnr hres
                have hm2 : (((m : Nat) : Int) == 9007199254740992) = false := by rw [beq_eq_false_iff_ne]; omega
                have hm3 : ¬ ((m : Nat) : Int) = 9007199254740992 := by omega
                have HB1 := Lib.hid hmle
                clear hmle
                go_wp2_with fail
                go_ret
                exact ⟨⟨_, rfl, HNR.out⟩, B8.out⟩
              · rw [hres] at hnr
                have HNR := Lib.hid hnr
                clear hnr hres
                have hm2 : (((m : Nat) : Int) == 9007199254740992) = false := by rw [beq_eq_false_iff_ne]; omega
                have hm3 : ¬ ((m : Nat) : Int) = 9007199254740992 := by omega
                have hq1 : decide (971 < e) = false := decide_eq_false he1
                have hbi2 : ((m : Nat) : Int) < 4503599627370496 := by omega
                have HB1 := Lib.hid hmle
                clear hmle hb1
                go_wp2_with fail
                go_ret
                exact ⟨⟨_, rfl, HNR.out⟩, B8.out⟩
              · rw [hres] at hnr
                have HNR := Lib.hid hnr
                clear hnr hres
                have hm2 : (((m : Nat) : Int) == 9007199254740992) = false := by rw [beq_eq_false_iff_ne]; omega
                have hm3 : ¬ ((m : Nat) : Int) = 9007199254740992 := by omega
                have hq1 : decide (971 < e) = false := decide_eq_false he1
                have hq2 : decide (((m : Nat) : Int) < 4503599627370496) = false := decide_eq_false (by omega)
                have hbi2 : ¬ ((m : Nat) : Int) < 4503599627370496 := by omega
                obtain ⟨R, hR⟩ : ∃ R, m - 4503599627370496 + d * 4503599627370496 = R := ⟨_, rfl⟩
                rw [hR] at HNR
                have hRi : ((m : Nat) : Int) - 4503599627370496 + (d : Int) * 4503599627370496 = (R : Int) := by omega
                have HB1 := Lib.hid hmle
                clear hmle hb1
                go_wp2_with fail
                go_ret
                have hb1 : 4503599627370496 ≤ m := by omega
                exact ⟨⟨R, by first | rfl | (rw [← hRi]; rfl), HNR.out⟩, B8.out⟩
            · obtain ⟨M, hM⟩ : ∃ M, m + 1 = M := ⟨_, rfl⟩
              rw [hM] at hnr
              have hpi : (m : Int).tmod 2 = 1 := by rw [Int.tmod_eq_emod_of_nonneg (by omega)]; omega
              have hpj : (m : Int) % 2 = 1 := by omega
              clear hpar
              have hrc := rnd_cases e M hge
              have hMi : (m : Int) + 1 = (M : Int) := by omega
              have hM1 : 1 ≤ M := by omega
              have hMle : M ≤ 9007199254740992 := by omega
              rcases hrc with ⟨hm1, he1, hres⟩ | ⟨hm1, he1, d, hd, hd2, hres⟩ | ⟨hm1, he1, hres⟩ | ⟨hm1, he1, hb1, hres⟩ | ⟨hm1, he1, hb1, d, hd, hd2, hres⟩
              · rw [hres] at hnr
                have HNR := Lib.hid hnr
                clear hnr hres
                obtain rfl : m = 9007199254740991 := by omega
                subst hm1
                clear hM hMi hM1 hMle hmle

                go_wp2_with fail
                go_ret
                exact ⟨⟨_, rfl, HNR.out⟩, B8.out⟩
              · rw [hres] at hnr
                have HNR := Lib.hid hnr
                clear hnr hres
                obtain rfl : m = 9007199254740991 := by omega
                subst hm1
                clear hM hMi hM1 hMle hmle

                go_wp2_with fail
                go_ret
                exact ⟨⟨_, rfl, HNR.out⟩, B8.out⟩
              · rw [hres] at hnr
                have HNR := Lib.hid hnr
                clear hnr hres
                have HM := Lib.hid hM
                clear hM
                have hm2 : (((M : Nat) : Int) == 9007199254740992) = false := by rw [beq_eq_false_iff_ne]; omega
                have hm3 : ¬ ((M : Nat) : Int) = 9007199254740992 := by omega
                have HB1 := Lib.hid hmle
                clear hmle
                go_wp2_with fail
                go_ret
                exact ⟨⟨_, rfl, HNR.out⟩, B8.out⟩
              · rw [hres] at hnr
                have HNR := Lib.hid hnr
                clear hnr hres
                have HM := Lib.hid hM
                clear hM
                have hm2 : (((M : Nat) : Int) == 9007199254740992) = false := by rw [beq_eq_false_iff_ne]; omega
                have hm3 : ¬ ((M : Nat) : Int) = 9007199254740992 := by omega
                have hq1 : decide (971 < e) = false := decide_eq_false he1
                have hbi2 : ((M : Nat) : Int) < 4503599627370496 := by omega
                have HB1 := Lib.hid hmle
                clear hmle hb1
                go_wp2_with fail
                go_ret
                exact ⟨⟨_, rfl, HNR.out⟩, B8.out⟩
              · rw [hres] at hnr
                have HNR := Lib.hid hnr
                clear hnr hres
                have HM := Lib.hid hM
                clear hM
                have hm2 : (((M : Nat) : Int) == 9007199254740992) = false := by rw [beq_eq_false_iff_ne]; omega
                have hm3 : ¬ ((M : Nat) : Int) = 9007199254740992 := by omega
                have hq1 : decide (971 < e) = false := decide_eq_false he1
                have hq2 : decide (((M : Nat) : Int) < 4503599627370496) = false := decide_eq_false (by omega)
                have hbi2 : ¬ ((M : Nat) : Int) < 4503599627370496 := by omega
                obtain ⟨R, hR⟩ : ∃ R, M - 4503599627370496 + d * 4503599627370496 = R := ⟨_, rfl⟩
                rw [hR] at HNR
                have hRi : ((M : Nat) : Int) - 4503599627370496 + (d : Int) * 4503599627370496 = (R : Int) := by omega
                have HB1 := Lib.hid hmle
                clear hmle hb1
                go_wp2_with fail
                go_ret
                have hb1 : 4503599627370496 ≤ M := by omega
                exact ⟨⟨R, by first | rfl | (rw [← hRi]; rfl), HNR.out⟩, B8.out⟩
            · obtain ⟨M, hM⟩ : ∃ M, m + 1 = M := ⟨_, rfl⟩
              rw [hM] at hnr
              have hrc := rnd_cases e M hge
              have hMi : (m : Int) + 1 = (M : Int) := by omega
              have hM1 : 1 ≤ M := by omega
              have hMle : M ≤ 9007199254740992 := by omega
              rcases hrc with ⟨hm1, he1, hres⟩ | ⟨hm1, he1, d, hd, hd2, hres⟩ | ⟨hm1, he1, hres⟩ | ⟨hm1, he1, hb1, hres⟩ | ⟨hm1, he1, hb1, d, hd, hd2, hres⟩
              · rw [hres] at hnr
                have HNR := Lib.hid hnr
                clear hnr hres
                obtain rfl : m = 9007199254740991 := by omega
                subst hm1
                clear hM hMi hM1 hMle hmle

                go_wp2_with fail
                go_ret
                exact ⟨⟨_, rfl, HNR.out⟩, B8.out⟩
              · rw [hres] at hnr
                have HNR := Lib.hid hnr
                clear hnr hres
                obtain rfl : m = 9007199254740991 := by omega
                subst hm1
                clear hM hMi hM1 hMle hmle

                go_wp2_with fail
                go_ret
                exact ⟨⟨_, rfl, HNR.out⟩, B8.out⟩
              · rw [hres] at hnr
                have HNR := Lib.hid hnr
                clear hnr hres
                have HM := Lib.hid hM
                clear hM
                have hm2 : (((M : Nat) : Int) == 9007199254740992) = false := by rw [beq_eq_false_iff_ne]; omega
                have hm3 : ¬ ((M : Nat) : Int) = 9007199254740992 := by omega
                have HB1 := Lib.hid hmle
                clear hmle
                go_wp2_with fail
                go_ret
                exact ⟨⟨_, rfl, HNR.out⟩, B8.out⟩
              · rw [hres] at hnr
                have HNR := Lib.hid hnr
                clear hnr hres
                have HM := Lib.hid hM
                clear hM
                have hm2 : (((M : Nat) : Int) == 9007199254740992) = false := by rw [beq_eq_false_iff_ne]; omega
                have hm3 : ¬ ((M : Nat) : Int) = 9007199254740992 := by omega
                have hq1 : decide (971 < e) = false := decide_eq_false he1
                have hbi2 : ((M : Nat) : Int) < 4503599627370496 := by omega
                have HB1 := Lib.hid hmle
                clear hmle hb1
                go_wp2_with fail
                go_ret
                exact ⟨⟨_, rfl, HNR.out⟩, B8.out⟩
              · rw [hres] at hnr
                have HNR := Lib.hid hnr
                clear hnr hres
                have HM := Lib.hid hM
                clear hM
                have hm2 : (((M : Nat) : Int) == 9007199254740992) = false := by rw [beq_eq_false_iff_ne]; omega
                have hm3 : ¬ ((M : Nat) : Int) = 9007199254740992 := by omega
                have hq1 : decide (971 < e) = false := decide_eq_false he1
                have hq2 : decide (((M : Nat) : Int) < 4503599627370496) = false := decide_eq_false (by omega)
                have hbi2 : ¬ ((M : Nat) : Int) < 4503599627370496 := by omega
                obtain ⟨R, hR⟩ : ∃ R, M - 4503599627370496 + d * 4503599627370496 = R := ⟨_, rfl⟩
                rw [hR] at HNR
                have hRi : ((M : Nat) : Int) - 4503599627370496 + (d : Int) * 4503599627370496 = (R : Int) := by omega
                have HB1 := Lib.hid hmle
                clear hmle hb1
                go_wp2_with fail
                go_ret
                have hb1 : 4503599627370496 ≤ M := by omega
                exact ⟨⟨R, by first | rfl | (rw [← hRi]; rfl), HNR.out⟩, B8.out⟩
        · obtain ⟨k, rfl⟩ : ∃ k, gk = k + 1 := ⟨gk - 1, by omega⟩
          obtain rfl : i = (k : Int) := by omega
          have hds := div_step x m Y X k HSUM.out HLT.out
          have hxX : x ≤ X := by have := HSUM.out; omega
          have HTK := Lib.hid (fun (W : World) (hW : Below wr.heap.size wr W) => HSH.out u7 Y k W ((HY5.out.go HB6.out).go hW) HYB.out (by omega))
          have HCX : Hid (∀ (v : Value) (W : World), Below wr.heap.size wr W → IsNum W v (Y * 2 ^ k) → Calls Tryz.prog 67 #[u6, v] W fun e w' => e = .returned (.int .i64 (cmpN x (Y * 2 ^ k))) ∧ Below W.heap.size W w') := Lib.hid fun v W hW hv => HCM.out u6 v x (Y * 2 ^ k) W (HXN.out.go hW) hv (HXB3.out _ (by omega)) (HTB.out k (by omega))
          have HMX : Hid (∀ (v : Value) (W : World), Below wr.heap.size wr W → IsNum W v (Y * 2 ^ k) → Y * 2 ^ k ≤ x → Calls Tryz.prog 68 #[u6, v] W fun e w' => (∃ v', e = .returned v' ∧ IsNum w' v' (x - Y * 2 ^ k)) ∧ Below W.heap.size W w') := Lib.hid fun v W hW hv hle => HMI.out u6 v x (Y * 2 ^ k) W (HXN.out.go hW) hv (HXB3.out _ (by omega)) hle
          have HDS := Lib.hid hds
          have hki : (0 : Int) ≤ (k : Int) := by omega
          obtain ⟨T, hT⟩ : ∃ T, Y * 2 ^ k = T := ⟨_, rfl⟩
          rw [hT] at HTK HCX HMX HDS
          have HTE := Lib.hid hT
          clear hds hi hxX hT
          by_cases hxt : x < T
          · have hc : cmpN x T = -1 := by unfold cmpN; rw [if_pos hxt]
            rw [hc] at HCX
            have HD1 := Lib.hid (HDS.out.1 hxt)
            have HXT := Lib.hid hxt
            clear hc hxt
            go_wp2_with fail
            refine (HTK.out _ (Below.refl _ _)).mono ?_
            rintro e6 w6 ⟨⟨v6, rfl, hv6⟩, hb6⟩
            have H6 := Lib.hid hv6
            have B6 := Lib.hid hb6
            clear hv6 hb6
            go_wp2_with fail
            refine (HCX.out _ _ B6.out H6.out).mono ?_
            rintro e7 w7 ⟨rfl, hb7⟩
            have B7 := Lib.hid (B6.out.trans (hb7.mono B6.out.size))
            clear hb7
            go_wp2_with fail
            go_roundg k
            case measure => omega
            case rel => exact ⟨x, m * 2, _, by omega, rfl, by go_num, by go_num, by rw [HTE.out]; exact HD1.out, by rw [HTE.out]; exact HXT.out, HXN.out.go B7.out, HB6.out.trans (B7.out.mono HB6.out.size)⟩
          · have hle : T ≤ x := by omega
            have hc : 0 ≤ cmpN x T := by unfold cmpN; rw [if_neg hxt]; split <;> omega
            have hc2 : -1 ≤ cmpN x T ∧ cmpN x T ≤ 1 := by unfold cmpN; rw [if_neg hxt]; split <;> omega
            generalize cmpN x T = c at *
            have HD1 := Lib.hid (HDS.out.2 hle)
            have HLE := Lib.hid hle
            clear hxt hle
            go_wp2_with fail
            refine (HTK.out _ (Below.refl _ _)).mono ?_
            rintro e6 w6 ⟨⟨v6, rfl, hv6⟩, hb6⟩
            have H6 := Lib.hid hv6
            have B6 := Lib.hid hb6
            clear hv6 hb6
            go_wp2_with fail
            refine (HCX.out _ _ B6.out H6.out).mono ?_
            rintro e7 w7 ⟨rfl, hb7⟩
            have H7 := Lib.hid (H6.out.go hb7)
            have B7 := Lib.hid (B6.out.trans (hb7.mono B6.out.size))
            clear hb7
            go_wp2_with fail
            refine (HMX.out _ _ B7.out H7.out HLE.out).mono ?_
            rintro e8 w8 ⟨⟨v8, rfl, hv8⟩, hb8⟩
            have H8 := Lib.hid hv8
            have B8 := Lib.hid (B7.out.trans (hb8.mono B7.out.size))
            clear hv8 hb8
            go_wp2_with fail
            go_roundg k
            case measure => omega
            case rel => exact ⟨x - T, m * 2 + 1, _, by omega, rfl, by go_num, by go_num, by rw [HTE.out]; exact HD1.out.1, by rw [HTE.out]; exact HD1.out.2, H8.out, HB6.out.trans (B8.out.mono HB6.out.size)⟩

end Go.Proofs.YtmhagigokgklaaaGreatDoor

/- The reference's rounding at every number; OfInt (walked). -/
namespace Go.Proofs.YtmhagigokgklaaaGreatDoor
open Go Go.RowKit Go.Sort Go.Lib
set_option exponentiation.threshold 3000

theorem rround_any (vp vq : Value) (P Q K : Nat) (w : World) (hp : IsNum w vp P) (hq : IsNum w vq Q) (hQ : 0 < Q) (hK : K ≤ 5000) (hP : P < 256 ^ K) (hQK : Q < 256 ^ K) :
    Calls Tryz.prog 32 #[vp, vq] w (RdPost P Q w) := by
  rcases Nat.eq_zero_or_pos P with h | h
  · subst h
    exact round_zero vp vq Q w hp hQ
  · exact round_pos vp vq P Q K w hp hq h hQ hK hP hQK

/-- the number one, made anew -/
theorem one_num (W : World) : IsNum (W.alloc (.cells #[.int .u8 1] 5)) (.slice (some ⟨W.heap.size, 0, Option.none⟩) 1 1) 1 := by
  refine ⟨[1], .inr ⟨W.heap.size, 0, 1, rfl, Nat.le_refl _, by simp, fun j x hx => ?_⟩, by decide, by unfold NormB; decide⟩
  match j with
  | 0 =>
    simp at hx
    subst hx
    simp [go_sem]
  | j + 1 => simp at hx

end Go.Proofs.YtmhagigokgklaaaGreatDoor

/- The reference's near, text, zeros, decimal, parts (walked). -/
namespace Go.Proofs.YtmhagigokgklaaaGreatDoor
open Go Go.RowKit Go.Sort Go.Lib
set_option exponentiation.threshold 3000

theorem rd_pos {D n r : Nat} (h : Near (2 * (D * 10 ^ n * 2 ^ 1074)) 1 r) : Near (dX D (n : Int)) (dQ (n : Int)) r := by
  rw [dX_pos, dQ_pos1]; exact h
theorem rd_neg {D n r : Nat} {x : Int} (hx : x = -(n : Int)) (h : Near (2 * (D * 2 ^ 1074)) (10 ^ n) r) : Near (dX D x) (dQ x) r := by
  rw [hx, dX_neg, dQ_neg]; exact h

set_option maxRecDepth 100000 in
set_option maxHeartbeats 4000000 in
/-- the reference's decimal: digits times a power of ten -/
theorem rdec_any (s : ByteArray) (x : Int) (w : World) (hs : s.size ≤ 1000) (hdg : ∀ c ∈ s.data.toList, isDig c) (hx : -2999 ≤ x ∧ x ≤ 2999) :
    Calls Tryz.prog 69 #[.string s, .int .i64 x] w fun e w' => (∃ r : Nat, e = .returned (.int .u64 r) ∧ Near (dX (dvl 10 s.data.toList) x) (dQ x) r) ∧ Below w.heap.size w w' := by
  obtain ⟨l, hl⟩ : ∃ l, s.data.toList = l := ⟨_, rfl⟩
  have hlen : l.length = s.size := by rw [← hl]; simp
  rw [hl] at hdg
  have HDG := Lib.hid hdg
  have HLEN := Lib.hid hlen
  have HL := Lib.hid hl
  have HVB : Hid (∀ k, k ≤ s.size → dvl 10 (l.take k) < 256 ^ k) := Lib.hid fun k hk => by
    have h1 := dvl_lt 10 (by decide) (l.take k) (fun y hy => okD_dv (by decide) (.inl (hdg y (List.mem_of_mem_take hy))))
    have h2 : (l.take k).length = k := by rw [List.length_take]; omega
    rw [h2] at h1
    exact Nat.lt_of_lt_of_le h1 (Nat.pow_le_pow_left (by decide) k)
  rw [hl]
  clear hl hdg hlen
  go_enter Tryz.func69, Tryz.ntmps69
  go_wp2_with fail
  go_loopg [5, 6] s.size (fun g s5 s6 wr => ∃ k : Nat, k + g = s.size ∧ s6 = .int .i64 k ∧ IsNum wr s5 (dvl 10 (l.take k)) ∧ Below w.heap.size w wr)
  case atStart => exact ⟨0, by omega, rfl, ⟨[], .inl ⟨rfl, rfl⟩, rfl, by simp [NormB]⟩, Below.refl _ _⟩
  case round =>
    obtain ⟨k, hkg, rfl, hnum, hb⟩ := hrel
    have HN := Lib.hid hnum
    have HB := Lib.hid hb
    clear hnum hb
    by_cases hk : k < s.size
    · have hkl : k < l.length := by rw [HLEN.out]; exact hk
      have hd := HDG.out l[k] (List.getElem_mem hkl)
      have hgk : l[k] = s[k] := by
        have h1 := HL.out
        subst h1
        rfl
      have hnx : dvl 10 (l.take (k + 1)) = dvl 10 (l.take k) * 10 + (s[k].toNat - 48) := by
        rw [List.take_succ_eq_append_getElem hkl, dvl_snoc, hgk]
        congr 1
        rw [hgk] at hd
        unfold dv
        exact if_pos hd
      rw [hgk] at hd
      have hd1 : 48 ≤ s[k].toNat := hd.1
      have hd2 : s[k].toNat ≤ 57 := hd.2
      have HT : Hid (∀ W : World, Below wr.heap.size wr W → Calls Tryz.prog 30 #[u5, .int .i64 10, .int .i64 ((s[k].toNat : Int) - 48)] W fun e w' => (∃ v', e = .returned v' ∧ IsNum w' v' (dvl 10 (l.take (k + 1)))) ∧ Below W.heap.size W w') := Lib.hid fun W hW => by
        have := times_any u5 (dvl 10 (l.take k)) 10 (s[k].toNat - 48) k W (HN.out.go hW) (by omega) (HVB.out k (by omega)) (by decide) (by omega)
        rw [← hnx, show ((s[k].toNat - 48 : Nat) : Int) = (s[k].toNat : Int) - 48 from by omega] at this
        exact this
      have hki : (k : Int) < (s.size : Int) := by omega
      clear hnx hgk hd hkl
      go_wp2_with fail
      refine (HT.out _ (Below.refl _ _)).mono ?_
      rintro e w5 ⟨⟨v', rfl, hn5⟩, hb5⟩
      have H5 := Lib.hid hn5
      have B5 := Lib.hid (HB.out.trans (hb5.mono HB.out.size))
      clear hn5 hb5
      go_wp2_with fail
      go_roundg (gk - 1)
      case measure => omega
      case rel => exact ⟨k + 1, by omega, by go_num, H5.out, B5.out⟩
    · obtain rfl : k = s.size := by omega
      have hki : ¬ (s.size : Int) < (s.size : Int) := by omega
      have htk : l.take s.size = l := List.take_of_length_le (by rw [HLEN.out]; exact Nat.le_refl _)
      rw [htk] at HN
      have hvb := HVB.out s.size (Nat.le_refl _)
      rw [htk] at hvb
      obtain ⟨D, hD⟩ : ∃ D, dvl 10 l = D := ⟨_, rfl⟩
      rw [hD] at HN hvb
      have HDE := Lib.hid hD
      clear hD
      clear htk hkg hk HVB HDG HLEN HL
      have hten : ∀ n, n ≤ 2999 → 10 ^ n < 256 ^ 3000 := fun n hn => Nat.lt_of_le_of_lt (Nat.pow_le_pow_left (show 10 ≤ 256 by decide) n) ((Nat.pow_lt_pow_iff_right (by decide)).2 (by omega))
      by_cases h0 : 0 ≤ x
      · obtain ⟨n, rfl⟩ : ∃ n : Nat, x = (n : Int) := ⟨x.toNat, by omega⟩
        have HP : Hid (D * 10 ^ n < 256 ^ (s.size + 3000)) := Lib.hid (by
          rw [Nat.pow_add]
          exact Nat.lt_of_lt_of_le ((Nat.mul_lt_mul_right (Nat.pow_pos (by decide))).2 hvb) (Nat.mul_le_mul_left _ (Nat.le_of_lt (hten n (by omega)))))
        have HT : Hid (∀ W : World, Below wr.heap.size wr W → Calls Tryz.prog 78 #[u5, .int .i64 n] W fun e w' => (∃ v', e = .returned v' ∧ IsNum w' v' (D * 10 ^ n)) ∧ Below W.heap.size W w') := Lib.hid fun W hW => ten_any u5 D n s.size W (HN.out.go hW) (by omega) hvb (by omega)
        have HR : Hid (∀ (vp vq : Value) (W : World), IsNum W vp (D * 10 ^ n) → IsNum W vq 1 → Calls Tryz.prog 32 #[vp, vq] W (RdPost (D * 10 ^ n) 1 W)) := Lib.hid fun vp vq W h1 h2 => rround_any vp vq _ 1 (s.size + 3000) W h1 h2 (by decide) (by omega) HP.out (Nat.one_lt_pow (by omega) (by decide))
        clear hvb hten h0 HP
        go_wp2_with fail
        refine (HT.out _ ((Below.refl _ _).alloc (Nat.le_refl _) _)).mono ?_
        rintro e w5 ⟨⟨v5, rfl, hn5⟩, hb5⟩
        have H5 := Lib.hid hn5
        have HQ5 := Lib.hid ((one_num wr).go hb5)
        have B5 := Lib.hid ((HB.out.trans (((Below.refl _ _).alloc (Nat.le_refl _) _).mono HB.out.size)).trans (hb5.mono (HB.out.trans (((Below.refl _ _).alloc (Nat.le_refl _) _).mono HB.out.size)).size))
        clear hn5 hb5
        go_wp2_with fail
        refine (HR.out _ _ _ H5.out HQ5.out).mono ?_
        rintro e w6 ⟨⟨r, rfl, hr6⟩, hb6⟩
        have HR6 := Lib.hid hr6
        have B6 := Lib.hid (B5.out.trans (hb6.mono B5.out.size))
        clear hr6 hb6
        go_wp2_with fail
        go_ret
        exact ⟨⟨r, rfl, by rw [HDE.out]; exact rd_pos HR6.out⟩, B6.out⟩
      · obtain ⟨n, hn⟩ : ∃ n : Nat, x = -(n : Int) := ⟨(-x).toNat, by omega⟩
        have hn3 : n ≤ 2999 := by omega
        have HT : Hid (∀ (W : World) (v : Value), IsNum W v 1 → Calls Tryz.prog 78 #[v, .int .i64 n] W fun e w' => (∃ v', e = .returned v' ∧ IsNum w' v' (10 ^ n)) ∧ Below W.heap.size W w') := Lib.hid fun W v hv => by
          have := ten_any v 1 n 1 W hv (by decide) (by decide) (by omega)
          rwa [Nat.one_mul] at this
        have HR : Hid (∀ (vp vq : Value) (W : World), IsNum W vp D → IsNum W vq (10 ^ n) → Calls Tryz.prog 32 #[vp, vq] W (RdPost D (10 ^ n) W)) := Lib.hid fun vp vq W h1 h2 => rround_any vp vq _ _ (s.size + 3000) W h1 h2 (Nat.pow_pos (by decide)) (by omega)
          (Nat.lt_of_lt_of_le hvb (Nat.pow_le_pow_right (by decide) (by omega))) (Nat.lt_of_lt_of_le (hten n hn3) (Nat.pow_le_pow_right (by decide) (by omega)))
        have hxn : -x = (n : Int) := by omega
        have HXE := Lib.hid hn
        clear hvb hten hn
        go_wp2_with fail
        refine (HT.out _ _ (one_num wr)).mono ?_
        rintro e w5 ⟨⟨v5, rfl, hn5⟩, hb5⟩
        have H5 := Lib.hid hn5
        have HP5 := Lib.hid ((HN.out.go ((Below.refl _ _).alloc (Nat.le_refl _) _)).go hb5)
        have B5 := Lib.hid ((HB.out.trans (((Below.refl _ _).alloc (Nat.le_refl _) _).mono HB.out.size)).trans (hb5.mono (HB.out.trans (((Below.refl _ _).alloc (Nat.le_refl _) _).mono HB.out.size)).size))
        clear hn5 hb5
        go_wp2_with fail
        refine (HR.out _ _ _ HP5.out H5.out).mono ?_
        rintro e w6 ⟨⟨r, rfl, hr6⟩, hb6⟩
        have HR6 := Lib.hid hr6
        have B6 := Lib.hid (B5.out.trans (hb6.mono B5.out.size))
        clear hr6 hb6
        go_wp2_with fail
        go_ret
        exact ⟨⟨r, rfl, by rw [HDE.out]; exact rd_neg HXE.out HR6.out⟩, B6.out⟩
end Go.Proofs.YtmhagigokgklaaaGreatDoor

/- The reference's fraction: what it gives (plain), and its parts. -/
namespace Go.Proofs.YtmhagigokgklaaaGreatDoor
open Go Go.RowKit Go.Sort Go.Lib

/-- the power's digits, no farther than M -/
def clipX (M : Nat) (X : List UInt8) : Nat := X.foldl (fun x c => min (x * 10 + (c.toNat - 48)) M) 0
theorem clip_snoc (M : Nat) (X : List UInt8) (c : UInt8) : clipX M (X ++ [c]) = min (clipX M X * 10 + (c.toNat - 48)) M := by
  unfold clipX; rw [List.foldl_append]; rfl
theorem clip_le (M : Nat) (X : List UInt8) : clipX M X ≤ M := by
  rcases List.eq_nil_or_concat X with rfl | ⟨X', c, rfl⟩
  · exact Nat.zero_le _
  · rw [List.concat_eq_append, clip_snoc]; exact Nat.min_le_right _ _
/-- the power, as it is and as far as it is told -/
theorem clip_ex (M : Nat) (hM : M < 10000) : ∀ X : List UInt8, (clipX M X = exF X ∧ exF X ≤ M) ∨ (clipX M X = M ∧ M < exF X) := by
  refine snoc_ind ?_ fun X c ih => ?_
  · exact .inl ⟨rfl, Nat.zero_le _⟩
  · rw [clip_snoc, ex_snoc]
    rcases ih with ⟨h1, h2⟩ | ⟨h1, h2⟩
    · rw [h1, if_pos (by omega)]
      rcases Nat.lt_or_ge M (exF X * 10 + (c.toNat - 48)) with g | g
      · right; exact ⟨by omega, g⟩
      · left; exact ⟨by omega, g⟩
    · right
      rw [h1]
      refine ⟨?_, ?_⟩
      · have : M ≤ M * 10 + (c.toNat - 48) := by omega
        omega
      · split <;> omega
def clipV (M : Nat) : Option (UInt8 × List UInt8 × List UInt8) → Int
  | none => 0
  | some (_, sg, X) => (clipX M X : Int) * sgZ sg
def FrOK (n : Nat) (o : Option (List UInt8 × List UInt8 × Option (UInt8 × List UInt8 × List UInt8) × List UInt8)) (r : Nat) (b : Bool) : Prop :=
  match o with
  | none => r = 0 ∧ b = false
  | some (W, F, P, R) => b = R.isEmpty ∧ Near (dX (dvl 10 (W ++ F)) (clipV (2000 + n) P - F.length)) (dQ (clipV (2000 + n) P - F.length)) r
def FrPost (s : ByteArray) (w : World) (e : Ending) (w' : World) : Prop :=
  (∃ (r : Nat) (b : Bool), e = .returned (.tuple #[.int .u64 r, .bool b]) ∧ FrOK s.size (fracF s.data.toList) r b) ∧ Below w.heap.size w w'

theorem frac_1 {l : List UInt8} (h : ph1 l = none) : fracF l = none := by unfold fracF; rw [h]
theorem frac_2 {l W R : List UInt8} (h : ph1 l = some (W, R)) (h2 : ph2 W R = none) : fracF l = none := by unfold fracF; rw [h]; simp only; rw [h2]
theorem frac_3 {l R F R2 : List UInt8} {d : Bool} (h : ph1 l = some ([], R)) (h2 : ph2 [] R = some (F, R2, d)) (h3 : F = []) : fracF l = none := by
  unfold fracF; rw [h]; simp only; rw [h2]; simp [h3]
theorem frac_4 {l W R F R2 : List UInt8} {d : Bool} (h : ph1 l = some (W, R)) (h2 : ph2 W R = some (F, R2, d)) (h3 : ¬ (W = [] ∧ F = [])) (h4 : ph3 R2 = none) : fracF l = none := by
  unfold fracF; rw [h]; simp only; rw [h2]; simp only; rw [if_neg h3, h4]
theorem frac_5 {l W R F R2 R3 : List UInt8} {d : Bool} {P : Option (UInt8 × List UInt8 × List UInt8)} (h : ph1 l = some (W, R)) (h2 : ph2 W R = some (F, R2, d)) (h3 : ¬ (W = [] ∧ F = [])) (h4 : ph3 R2 = some (P, R3)) : fracF l = some (W, F, P, R3) := by
  unfold fracF; rw [h]; simp only; rw [h2]; simp only; rw [if_neg h3, h4]
theorem fr_none {s : ByteArray} {w : World} (h : fracF s.data.toList = none) (W : World) (hb : Below w.heap.size w W) : FrPost s w (.returned (.tuple #[.int .u64 0, .bool false])) W := by
  refine ⟨⟨0, false, rfl, ?_⟩, hb⟩
  simp [FrOK, h]

/-- what is left of a text from a place on -/
def Rest (s : ByteArray) (k : Nat) (R : List UInt8) : Prop := R = s.data.toList.drop k ∧ k + R.length = s.size
theorem rest_nil {s : ByteArray} {k : Nat} (h : Rest s k []) : k = s.size := by have := h.2; simpa using this
theorem rest_cons {s : ByteArray} {k : Nat} {c : UInt8} {R : List UInt8} (h : Rest s k (c :: R)) : ∃ hk : k < s.size, s[k] = c ∧ Rest s (k + 1) R := by
  obtain ⟨h1, h2⟩ := h
  rw [List.length_cons] at h2
  have hk : k < s.size := by omega
  rw [dg_drop s k hk] at h1
  obtain ⟨e1, e2⟩ := List.cons.inj h1
  exact ⟨hk, e1.symm, e2, by omega⟩
theorem rest_0 (s : ByteArray) : Rest s 0 s.data.toList := ⟨rfl, by simp⟩
/-- digits read from a place on -/
def DgR (s : ByteArray) (R : List UInt8) (W : World) (e : Ending) (w' : World) : Prop :=
  ∃ k' : Nat, Rest s k' (runD 10 true R).2.1 ∧ e = .returned (.tuple #[.string ⟨(runD 10 true R).1.toArray⟩, .int .i64 (k' : Int), .bool (!(runD 10 true R).1.isEmpty && !(runD 10 true R).2.2)]) ∧ w' = W
theorem runD_suffix (B : Nat) : ∀ (l : List UInt8) (u : Bool), ∃ m, (runD B u l).2.1 = l.drop m ∧ m ≤ l.length
  | [], u => ⟨0, rfl, Nat.le_refl _⟩
  | c :: l, u => by
    by_cases h1 : c = 95 ∧ u = false
    · rw [runD, if_pos h1]
      obtain ⟨m, h, h'⟩ := runD_suffix B l true
      exact ⟨m + 1, by rw [h]; rfl, by simpa using h'⟩
    · by_cases h2 : isB B c = true
      · rw [runD_dig B u c l h2]
        obtain ⟨m, h, h'⟩ := runD_suffix B l false
        exact ⟨m + 1, by simp only; rw [h]; rfl, by simpa using h'⟩
      · rw [runD_end B u c l (by simpa using h2) h1]
        exact ⟨0, rfl, Nat.zero_le _⟩
theorem digits_rest (s : ByteArray) (k : Nat) (R : List UInt8) (W : World) (hs : s.size ≤ 1000) (h : Rest s k R) :
    Calls Tryz.prog 29 #[.string s, .int .i64 k, .int .i64 10] W (DgR s R W) := by
  obtain ⟨h1, h2⟩ := h
  refine (digits_any s k 10 W hs (by omega) (by decide)).mono ?_
  rintro e w' ⟨rfl, rfl⟩
  rw [← h1]
  obtain ⟨m, hm, hm'⟩ := runD_suffix 10 R true
  have hl : (runD 10 true R).2.1.length = R.length - m := by rw [hm, List.length_drop]
  refine ⟨k + m, ⟨by rw [hm, h1, List.drop_drop], by rw [hl]; omega⟩, ?_, rfl⟩
  rw [show ((s.size : Int) - ((runD 10 true R).2.1.length : Nat)) = ((k + m : Nat) : Int) from by rw [hl]; omega]
theorem beqN (c : UInt8) (n : Nat) (hn : n < 256) : ((c.toNat : Int) == (n : Int)) = decide (c = UInt8.ofNat n) := by
  by_cases h : c = UInt8.ofNat n
  · rw [decide_eq_true h, h, UInt8.toNat_ofNat', Nat.mod_eq_of_lt (by omega), beq_iff_eq]
  · rw [decide_eq_false h, beq_eq_false_iff_ne]
    intro g
    apply h
    apply UInt8.toNat_inj.1
    rw [UInt8.toNat_ofNat', Nat.mod_eq_of_lt (by omega)]
    omega
end Go.Proofs.YtmhagigokgklaaaGreatDoor
