/- Joined texts: Vk Vm Vn Vo Vp Uk. Each begins with its own remark. -/
import Derived.Test.YtckaoeloofbklaaGreatDoorYf
import Derived.Deep.RegionHeld
import Derived.Outline
import Derived.Laws.BytesArg
import Derived.Test.YtckaoeloofbklaaGreatDoorYShelf
import Derived.Lib.AppendIntMem
import Derived.Lib.IndexBytes
import Derived.Lib.Replace
import Derived.Test.YtckaoeloofbklaaGreatDoorYb
import Derived.Test.YtckaoeloofbklaaGreatDoorYa
namespace Go.Proofs.YtckaoeloofbklaaGreatDoor
open Go Go.RowKit Go.Sort Go.Lib
def z32 : Array Value := #[.int .u8 0, .int .u8 0, .int .u8 0, .int .u8 0, .int .u8 0, .int .u8 0, .int .u8 0, .int .u8 0, .int .u8 0, .int .u8 0, .int .u8 0, .int .u8 0, .int .u8 0, .int .u8 0, .int .u8 0, .int .u8 0, .int .u8 0, .int .u8 0, .int .u8 0, .int .u8 0, .int .u8 0, .int .u8 0, .int .u8 0, .int .u8 0, .int .u8 0, .int .u8 0, .int .u8 0, .int .u8 0, .int .u8 0, .int .u8 0, .int .u8 0, .int .u8 0]
theorem z32_at (i : Nat) (h : i < 32) : z32[i]? = some (.int .u8 0) := by
  have e : z32 = Array.replicate 32 (.int .u8 0) := rfl
  rw [e, Array.getElem?_replicate, if_pos h]
def dpB (d : Nat) (p : Int) : List UInt8 :=
  match sig d with
  | [] => []
  | x0 :: xs => x0 :: ((if 0 < xs.length then 46 :: xs else []) ++ 101 :: expB ((nDigits d : Nat) + p - 1))
theorem bits_and_2047 (b xf : Nat) (_hb : b < 9223372036854775808) (h : b / 4503599627370496 = xf) (h2 : xf ≤ 2047) : bits BinOp.and IntKind.i64 ((b : Int) / 4503599627370496) 2047 = (xf : Int) := by
  have h3 : (b : Int) / 4503599627370496 = (xf : Int) := by omega
  rw [h3]
  have := bits_mask .i64 63 (by decide) (fun n h0 h1 => by rw [IntKind.wrap_i64]; omega) 11 (by decide) (xf : Int) (by omega) (by omega)
  have h4 : ((2 : Int) ^ 11 - 1) = 2047 := by decide
  rw [h4] at this
  rw [this]
  have h5 : ((2 : Int) ^ 11) = 2048 := by decide
  rw [h5]; omega
theorem bits_and_frac (b : Nat) (hb : b < 9223372036854775808) : bits BinOp.and IntKind.u64 (b : Int) 4503599627370495 = ((b % 4503599627370496 : Nat) : Int) := by
  have := bits_and_u64_nat b 4503599627370495 (by omega) (by omega)
  rw [show (4503599627370495 : Nat) = 2 ^ 52 - 1 from rfl, Nat.and_two_pow_sub_one_eq_mod] at this
  exact this
theorem bits_or_top (m : Nat) (hm : m < 4503599627370496) : bits BinOp.or IntKind.u64 (m : Int) 4503599627370496 = ((m + 4503599627370496 : Nat) : Int) := by
  have := bits_or_u64_nat m 4503599627370496 (by omega) (by omega)
  have h2 : m ||| 4503599627370496 = m + 4503599627370496 := by
    have := Nat.two_pow_add_eq_or_of_lt (i := 52) hm 1
    rw [Nat.or_comm, Nat.add_comm]
    simpa using this.symm
  rw [h2] at this
  exact this
theorem below_putRow (w : World) (B blk off : Nat) (d : Array UInt8) : B ≤ blk → Below B w (putRow encB w blk off d) := fun hB =>
  ⟨rfl, rfl, rfl, by simp, fun k hk => by
    unfold putRow mapBlock
    simp only [Array.getElem?_modify]
    rw [if_neg (by omega)]⟩
set_option maxRecDepth 100000 in
set_option maxHeartbeats 1000000 in
theorem ftoa_nor (base : Nat) (b xf mt mant s M : Nat) (E : Int) (v : Value) (w : World) (hg : Glob w) (hrow : Row base (fun _ => False) w w v []) (hbl : b < 9223372036854775808)
    (hxf : b / 4503599627370496 = xf) (hmt : b % 4503599627370496 = mt) (hx1 : 1 ≤ xf) (hx2 : xf ≤ 2046) (hma : mt + 4503599627370496 = mant) (hsl : Lib.bitLen mant ≤ 64) (hs : 64 - Lib.bitLen mant = s) (hM : mant * 2 ^ s = M)
    (hM1 : 9223372036854775808 ≤ M) (hM2 : M < 18446744073709551616) (hE : (xf : Int) + -1023 - (s : Int) - 52 = E) (hE1 : -1137 ≤ E) (hE2 : E ≤ 1000) (h0 : M % 2 ^ zN E = 0) :
    Calls Tryz.prog 176 #[v, .float .f64 b, .int .u8 101, .int .i64 (-1)] w (EPost base (fun _ => False) w (dpB (shortN M E).1 (shortN M E).2)) := by
  skip
  have hneg : ((b : Int) / 9223372036854775808 != 0) = false := by simp; omega
  have hand := bits_and_2047 b xf hbl hxf (by omega)
  have hand2 := bits_and_frac b hbl
  rw [hmt] at hand2
  have hor := bits_or_top mt (by omega)
  rw [hma] at hor
  have he1 : ((xf : Int) == 2047) = false := by simp; omega
  have he2 : ((xf : Int) == 0) = false := by simp; omega
  have he3 : ((mant : Int) == 0) = false := by simp; omega
  have he4 : (mant == 0) = false := by simp; omega
  have he5 : ¬ mant = 0 := by omega
  have hb0 : Lib.bitLen (mant : Int).toNat = Lib.bitLen mant := by simp
  have hs' : (64 : Int) - (Lib.bitLen mant : Int) = (s : Int) := by omega
  have hsh : IntKind.u64.wrap ((mant : Int) * 2 ^ s) = (M : Int) := by
    rw [show ((mant : Int) * 2 ^ s) = ((mant * 2 ^ s : Nat) : Int) from by push_cast; rfl, hM, IntKind.wrap_u64]; omega
  have HLEN := Lib.hid (fun (W : World) => Tryz.bits_Len64 (mant : Int) W (by omega) (by omega))
  have hfb := run_sbits b
  obtain ⟨hd1, hd2, hp1, hp2⟩ := short_bounds M E hM1 hM2 h0 hE1 hE2
  have HSH := Lib.hid (fun (W : World) (h : Glob W) => short_any M E W h hM1 hM2 h0 hE1 hE2)
  generalize shortN M E = dp at *
  obtain ⟨d, p⟩ := dp
  simp only at hd1 hd2 hp1 hp2 HSH ⊢
  obtain ⟨x0, xs, hsig⟩ := sig_head d hd1
  have hnd := nDigits_le d hd1 (by omega)
  have hnd1 := nDigits_pos d
  obtain ⟨kk, hkk, htk⟩ := sig_take d
  have hld := decDigits_length d
  have hxl : xs.length ≤ 19 := by
    have := congrArg List.length htk
    rw [hsig, List.length_cons, List.length_take] at this
    omega
  have HDP : Hid (dpB d p = x0 :: ((if 0 < xs.length then 46 :: xs else []) ++ 101 :: expB ((nDigits d : Nat) + p - 1))) := Lib.hid (by unfold dpB; rw [hsig])
  have HSIG := Lib.hid hsig
  obtain ⟨X, hX'⟩ : ∃ X : Int, X = ((nDigits d : Nat) : Int) + p - 1 := ⟨_, rfl⟩
  have hX : ((nDigits d : Nat) : Int) + p = X + 1 := by omega
  rw [← hX'] at HDP
  have hX1 : -399 < X ∧ X < 399 := by omega
  clear hX'
  have HTK := Lib.hid htk
  have HLD := Lib.hid hld
  have HROW := Lib.hid hrow
  have HG := Lib.hid hg
  generalize dpB d p = RES at *
  clear hxf hmt hma hM hs hrow hg hsig htk hld hkk h0
  go_enter Tryz.func176, Tryz.ntmps176
  go_wp2_with fail
  go_quiet (fail)
  go_wp2_with fail
  skip
  refine (HLEN.out _).mono ?_
  rintro e w1 ⟨rfl, rfl⟩
  rw [hb0]
  go_wp2_with fail
  have hbw : Below w.heap.size w ((w.drewN nq).alloc (.cells #[.int .u8 0, .int .u8 0, .int .u8 0, .int .u8 0, .int .u8 0, .int .u8 0, .int .u8 0, .int .u8 0, .int .u8 0, .int .u8 0, .int .u8 0, .int .u8 0, .int .u8 0, .int .u8 0, .int .u8 0, .int .u8 0, .int .u8 0, .int .u8 0, .int .u8 0, .int .u8 0, .int .u8 0, .int .u8 0, .int .u8 0, .int .u8 0, .int .u8 0, .int .u8 0, .int .u8 0, .int .u8 0, .int .u8 0, .int .u8 0, .int .u8 0, .int .u8 0] 215)) := (bDrewN (Below.refl _ _) nq).alloc (Nat.le_refl _) _
  have hbuf : ((w.drewN nq).alloc (.cells #[.int .u8 0, .int .u8 0, .int .u8 0, .int .u8 0, .int .u8 0, .int .u8 0, .int .u8 0, .int .u8 0, .int .u8 0, .int .u8 0, .int .u8 0, .int .u8 0, .int .u8 0, .int .u8 0, .int .u8 0, .int .u8 0, .int .u8 0, .int .u8 0, .int .u8 0, .int .u8 0, .int .u8 0, .int .u8 0, .int .u8 0, .int .u8 0, .int .u8 0, .int .u8 0, .int .u8 0, .int .u8 0, .int .u8 0, .int .u8 0, .int .u8 0, .int .u8 0] 215)).heap[w.heap.size]? = some (.cells z32 215 (0, 0)) := heap_alloc_new (w.drewN nq) _
  have hsz : ((w.drewN nq).alloc (.cells #[.int .u8 0, .int .u8 0, .int .u8 0, .int .u8 0, .int .u8 0, .int .u8 0, .int .u8 0, .int .u8 0, .int .u8 0, .int .u8 0, .int .u8 0, .int .u8 0, .int .u8 0, .int .u8 0, .int .u8 0, .int .u8 0, .int .u8 0, .int .u8 0, .int .u8 0, .int .u8 0, .int .u8 0, .int .u8 0, .int .u8 0, .int .u8 0, .int .u8 0, .int .u8 0, .int .u8 0, .int .u8 0, .int .u8 0, .int .u8 0, .int .u8 0, .int .u8 0] 215)).heap.size = w.heap.size + 1 := by simp
  generalize (w.drewN nq).alloc (.cells #[.int .u8 0, .int .u8 0, .int .u8 0, .int .u8 0, .int .u8 0, .int .u8 0, .int .u8 0, .int .u8 0, .int .u8 0, .int .u8 0, .int .u8 0, .int .u8 0, .int .u8 0, .int .u8 0, .int .u8 0, .int .u8 0, .int .u8 0, .int .u8 0, .int .u8 0, .int .u8 0, .int .u8 0, .int .u8 0, .int .u8 0, .int .u8 0, .int .u8 0, .int .u8 0, .int .u8 0, .int .u8 0, .int .u8 0, .int .u8 0, .int .u8 0, .int .u8 0] 215) = W1 at *
  refine (HSH.out W1 (HG.out.below HG.out.lt hbw)).mono ?_
  rintro e w2 ⟨rfl, hb2⟩
  have hbw2 := hbw.trans (hb2.mono (by omega))
  have hbuf2 := (hb2.block w.heap.size (by omega)).trans hbuf
  have hsz2 := hb2.size
  have HB2 := Lib.hid hbuf2
  have HBW2 := Lib.hid hbw2
  clear hbw hbuf hb2 hbuf2 hbw2
  go_wp2_with fail
  have hH : Holds encB w2.drew w.heap.size 0 (Array.replicate (nDigits d) (0 : UInt8)) := fun j hj => by
    rw [Array.size_replicate] at hj
    rw [Nat.zero_add]
    have hq : w2.drew.heap[w.heap.size]? = some (.cells z32 215 (0, 0)) := HB2.out
    refine ⟨?_, by simp [World.frozen?, hq]⟩
    rw [cell_of_row w2.drew w.heap.size j _ _ _ hq, z32_at j (by omega), getElem!_pos _ j (by simpa using hj)]
    simp [encB]
  have hst := setDigits_any w.heap.size d 32 p w2.drew (by show _ < w2.heap.size; omega) hd1 (by omega) (by omega) (by omega) hnd (by omega) (by omega) hH
  rw [hX, HSIG.out, List.length_cons, show ((xs.length + 1 : Nat) : Int) = (xs.length : Int) + 1 from by push_cast; rfl] at hst
  have HST := Lib.hid hst
  clear hst
  clear hH
  have HND := Lib.hid (Tryz.internal_strconv_numDigits d hd1 (by omega) w2.drew (HG.out.below HG.out.lt HBW2.out.drew).u10)
  go_region_held (fun _ => True)
    (first | trivial)
    (first
      | (go_at_call 93; refine HND.out.mono ?_; rintro e w' ⟨rfl, rfl⟩)
      | (go_at_call 212; refine HST.out.mono ?_; rintro e w4 ⟨rfl, n4, v4, dk, hw4', hfm'⟩; have HW4 := Lib.hid hw4'; have HFM := Lib.hid hfm'; clear hw4' hfm'))
  have hmx : max (xs.length : Int) 0 = (xs.length : Int) := by omega
  have hmx2 : max ((xs.length : Int) + 1 - 1) 0 = (xs.length : Int) := by omega
  go_wp2_with fail
  have hw4 := HW4.out
  have hfm := HFM.out
  have hbw4 : Below w.heap.size w w4 := by
    rw [hw4]
    refine bDrewN ?_ n4
    exact HBW2.out.drew.trans (below_putRow _ _ _ _ _ (Nat.le_refl _))
  have hcell4 : ∀ j u, (x0 :: xs)[j]? = some u → w4.cell? ⟨w.heap.size, j, Option.none⟩ = some (encB u) := fun j u hu => by
    have hj : j < (x0 :: xs).length := (List.getElem?_eq_some_iff.1 hu).1
    rw [← HSIG.out, HTK.out] at hu
    rw [List.getElem?_take] at hu
    split at hu
    · have hj2 : j < (decDigits d).length := (List.getElem?_eq_some_iff.1 hu).1
      have hj3 : j < nDigits d := by have := HLD.out; omega
      have e1 := row_is_numeral hfm j hj2
      rw [List.getElem?_eq_getElem hj2, e1] at hu
      obtain rfl := Option.some.inj hu
      have hH0 : Holds encB w2.drew w.heap.size 0 (Array.replicate (nDigits d) (0 : UInt8)) := fun j hj => by
        rw [Array.size_replicate] at hj
        rw [Nat.zero_add]
        have hq : w2.drew.heap[w.heap.size]? = some (.cells z32 215 (0, 0)) := HB2.out
        refine ⟨?_, by simp [World.frozen?, hq]⟩
        rw [cell_of_row w2.drew w.heap.size j _ _ _ hq, z32_at j (by omega), getElem!_pos _ j (by simpa using hj)]
        simp [encB]
      have := cell?_putRow encB w2.drew w.heap.size 0 _ dk hH0 (by rw [hfm.size, Array.size_replicate]) j (by rw [hfm.size]; exact hj3)
      rw [Nat.zero_add] at this
      rw [hw4]
      exact this
    · cases hu
  have hrow4 : Row base (fun k => k = w.heap.size) w4 w4 v [] := by
    have hr := HROW.out
    have hg := hr.go hbw4
    refine ⟨hg.own, fun k hk e => ?_, fun _ _ => rfl, fun k hk => ?_, Below.refl _ _, Nat.le_trans hr.ble hbw4.size⟩
    · subst hk
      have := (hr.own.lt _ e).2
      omega
    · subst hk
      have := hbw4.size
      have hz : w4.heap.size = w2.heap.size := by rw [hw4]; simp
      omega
  have HFE := Lib.hid (fmtE_any base w.heap.size (fun k => k = w.heap.size) x0 xs X v 32 w4 w4 hrow4 rfl (by omega) (by omega) (by omega) (by omega) (by omega) hcell4)
  have HBW4 := Lib.hid hbw4
  clear hw4 hfm hcell4 hrow4 hbw4
  refine HFE.out.mono ?_
  rintro e w5 ⟨v5, rfl, hr5⟩
  have HR5 := Lib.hid hr5
  clear hr5
  go_wp2_with fail
  go_ret
  have hr := HROW.out
  rw [HDP.out]
  exact ⟨v5, rfl, HR5.out.own, fun _ h => h.elim, fun _ h => h.elim, fun _ h => h.elim, (HBW4.out.mono hr.ble).trans HR5.out.below, hr.ble⟩
set_option maxRecDepth 100000 in
set_option maxHeartbeats 1000000 in
theorem ftoa_sub (base : Nat) (b mant s M : Nat) (E : Int) (v : Value) (w : World) (hg : Glob w) (hrow : Row base (fun _ => False) w w v []) (hbl : b < 9223372036854775808)
    (hma : b = mant) (hb1 : 1 ≤ mant) (hb2 : mant < 4503599627370496) (hsl : Lib.bitLen mant ≤ 64) (hs : 64 - Lib.bitLen mant = s) (hM : mant * 2 ^ s = M)
    (hM1 : 9223372036854775808 ≤ M) (hM2 : M < 18446744073709551616) (hE : -1022 - (s : Int) - 52 = E) (hE1 : -1137 ≤ E) (hE2 : E ≤ 1000) (h0 : M % 2 ^ zN E = 0) :
    Calls Tryz.prog 176 #[v, .float .f64 b, .int .u8 101, .int .i64 (-1)] w (EPost base (fun _ => False) w (dpB (shortN M E).1 (shortN M E).2)) := by
  subst hma
  have hneg : ((b : Int) / 9223372036854775808 != 0) = false := by simp; omega
  have hand : bits BinOp.and IntKind.i64 ((b : Int) / 4503599627370496) 2047 = 0 := bits_and_2047 b 0 hbl (by omega) (by omega)
  have hand2 := bits_and_frac b hbl
  rw [Nat.mod_eq_of_lt (by omega)] at hand2
  skip
  skip
  skip
  skip
  have he3 : ((b : Int) == 0) = false := by simp; omega
  have he4 : (b == 0) = false := by simp; omega
  have he5 : ¬ b = 0 := by omega
  have hb0 : Lib.bitLen (b : Int).toNat = Lib.bitLen b := by simp
  have hs' : (64 : Int) - (Lib.bitLen b : Int) = (s : Int) := by omega
  have hsh : IntKind.u64.wrap ((b : Int) * 2 ^ s) = (M : Int) := by
    rw [show ((b : Int) * 2 ^ s) = ((b * 2 ^ s : Nat) : Int) from by push_cast; rfl, hM, IntKind.wrap_u64]; omega
  have HLEN := Lib.hid (fun (W : World) => Tryz.bits_Len64 (b : Int) W (by omega) (by omega))
  have hfb := run_sbits b
  obtain ⟨hd1, hd2, hp1, hp2⟩ := short_bounds M E hM1 hM2 h0 hE1 hE2
  have HSH := Lib.hid (fun (W : World) (h : Glob W) => short_any M E W h hM1 hM2 h0 hE1 hE2)
  generalize shortN M E = dp at *
  obtain ⟨d, p⟩ := dp
  simp only at hd1 hd2 hp1 hp2 HSH ⊢
  obtain ⟨x0, xs, hsig⟩ := sig_head d hd1
  have hnd := nDigits_le d hd1 (by omega)
  have hnd1 := nDigits_pos d
  obtain ⟨kk, hkk, htk⟩ := sig_take d
  have hld := decDigits_length d
  have hxl : xs.length ≤ 19 := by
    have := congrArg List.length htk
    rw [hsig, List.length_cons, List.length_take] at this
    omega
  have HDP : Hid (dpB d p = x0 :: ((if 0 < xs.length then 46 :: xs else []) ++ 101 :: expB ((nDigits d : Nat) + p - 1))) := Lib.hid (by unfold dpB; rw [hsig])
  have HSIG := Lib.hid hsig
  obtain ⟨X, hX'⟩ : ∃ X : Int, X = ((nDigits d : Nat) : Int) + p - 1 := ⟨_, rfl⟩
  have hX : ((nDigits d : Nat) : Int) + p = X + 1 := by omega
  rw [← hX'] at HDP
  have hX1 : -399 < X ∧ X < 399 := by omega
  clear hX'
  have HTK := Lib.hid htk
  have HLD := Lib.hid hld
  have HROW := Lib.hid hrow
  have HG := Lib.hid hg
  generalize dpB d p = RES at *
  clear hM hs hrow hg hsig htk hld hkk h0
  go_enter Tryz.func176, Tryz.ntmps176
  go_wp2_with fail
  go_quiet (fail)
  go_wp2_with fail
  skip
  refine (HLEN.out _).mono ?_
  rintro e w1 ⟨rfl, rfl⟩
  rw [hb0]
  go_wp2_with fail
  have hbw : Below w.heap.size w ((w.drewN nq).alloc (.cells #[.int .u8 0, .int .u8 0, .int .u8 0, .int .u8 0, .int .u8 0, .int .u8 0, .int .u8 0, .int .u8 0, .int .u8 0, .int .u8 0, .int .u8 0, .int .u8 0, .int .u8 0, .int .u8 0, .int .u8 0, .int .u8 0, .int .u8 0, .int .u8 0, .int .u8 0, .int .u8 0, .int .u8 0, .int .u8 0, .int .u8 0, .int .u8 0, .int .u8 0, .int .u8 0, .int .u8 0, .int .u8 0, .int .u8 0, .int .u8 0, .int .u8 0, .int .u8 0] 215)) := (bDrewN (Below.refl _ _) nq).alloc (Nat.le_refl _) _
  have hbuf : ((w.drewN nq).alloc (.cells #[.int .u8 0, .int .u8 0, .int .u8 0, .int .u8 0, .int .u8 0, .int .u8 0, .int .u8 0, .int .u8 0, .int .u8 0, .int .u8 0, .int .u8 0, .int .u8 0, .int .u8 0, .int .u8 0, .int .u8 0, .int .u8 0, .int .u8 0, .int .u8 0, .int .u8 0, .int .u8 0, .int .u8 0, .int .u8 0, .int .u8 0, .int .u8 0, .int .u8 0, .int .u8 0, .int .u8 0, .int .u8 0, .int .u8 0, .int .u8 0, .int .u8 0, .int .u8 0] 215)).heap[w.heap.size]? = some (.cells z32 215 (0, 0)) := heap_alloc_new (w.drewN nq) _
  have hsz : ((w.drewN nq).alloc (.cells #[.int .u8 0, .int .u8 0, .int .u8 0, .int .u8 0, .int .u8 0, .int .u8 0, .int .u8 0, .int .u8 0, .int .u8 0, .int .u8 0, .int .u8 0, .int .u8 0, .int .u8 0, .int .u8 0, .int .u8 0, .int .u8 0, .int .u8 0, .int .u8 0, .int .u8 0, .int .u8 0, .int .u8 0, .int .u8 0, .int .u8 0, .int .u8 0, .int .u8 0, .int .u8 0, .int .u8 0, .int .u8 0, .int .u8 0, .int .u8 0, .int .u8 0, .int .u8 0] 215)).heap.size = w.heap.size + 1 := by simp
  generalize (w.drewN nq).alloc (.cells #[.int .u8 0, .int .u8 0, .int .u8 0, .int .u8 0, .int .u8 0, .int .u8 0, .int .u8 0, .int .u8 0, .int .u8 0, .int .u8 0, .int .u8 0, .int .u8 0, .int .u8 0, .int .u8 0, .int .u8 0, .int .u8 0, .int .u8 0, .int .u8 0, .int .u8 0, .int .u8 0, .int .u8 0, .int .u8 0, .int .u8 0, .int .u8 0, .int .u8 0, .int .u8 0, .int .u8 0, .int .u8 0, .int .u8 0, .int .u8 0, .int .u8 0, .int .u8 0] 215) = W1 at *
  refine (HSH.out W1 (HG.out.below HG.out.lt hbw)).mono ?_
  rintro e w2 ⟨rfl, hb2⟩
  have hbw2 := hbw.trans (hb2.mono (by omega))
  have hbuf2 := (hb2.block w.heap.size (by omega)).trans hbuf
  have hsz2 := hb2.size
  have HB2 := Lib.hid hbuf2
  have HBW2 := Lib.hid hbw2
  clear hbw hbuf hb2 hbuf2 hbw2
  go_wp2_with fail
  have hH : Holds encB w2.drew w.heap.size 0 (Array.replicate (nDigits d) (0 : UInt8)) := fun j hj => by
    rw [Array.size_replicate] at hj
    rw [Nat.zero_add]
    have hq : w2.drew.heap[w.heap.size]? = some (.cells z32 215 (0, 0)) := HB2.out
    refine ⟨?_, by simp [World.frozen?, hq]⟩
    rw [cell_of_row w2.drew w.heap.size j _ _ _ hq, z32_at j (by omega), getElem!_pos _ j (by simpa using hj)]
    simp [encB]
  have hst := setDigits_any w.heap.size d 32 p w2.drew (by show _ < w2.heap.size; omega) hd1 (by omega) (by omega) (by omega) hnd (by omega) (by omega) hH
  rw [hX, HSIG.out, List.length_cons, show ((xs.length + 1 : Nat) : Int) = (xs.length : Int) + 1 from by push_cast; rfl] at hst
  have HST := Lib.hid hst
  clear hst
  clear hH
  have HND := Lib.hid (Tryz.internal_strconv_numDigits d hd1 (by omega) w2.drew (HG.out.below HG.out.lt HBW2.out.drew).u10)
  go_region_held (fun _ => True)
    (first | trivial)
    (first
      | (go_at_call 93; refine HND.out.mono ?_; rintro e w' ⟨rfl, rfl⟩)
      | (go_at_call 212; refine HST.out.mono ?_; rintro e w4 ⟨rfl, n4, v4, dk, hw4', hfm'⟩; have HW4 := Lib.hid hw4'; have HFM := Lib.hid hfm'; clear hw4' hfm'))
  have hmx : max (xs.length : Int) 0 = (xs.length : Int) := by omega
  have hmx2 : max ((xs.length : Int) + 1 - 1) 0 = (xs.length : Int) := by omega
  go_wp2_with fail
  have hw4 := HW4.out
  have hfm := HFM.out
  have hbw4 : Below w.heap.size w w4 := by
    rw [hw4]
    refine bDrewN ?_ n4
    exact HBW2.out.drew.trans (below_putRow _ _ _ _ _ (Nat.le_refl _))
  have hcell4 : ∀ j u, (x0 :: xs)[j]? = some u → w4.cell? ⟨w.heap.size, j, Option.none⟩ = some (encB u) := fun j u hu => by
    have hj : j < (x0 :: xs).length := (List.getElem?_eq_some_iff.1 hu).1
    rw [← HSIG.out, HTK.out] at hu
    rw [List.getElem?_take] at hu
    split at hu
    · have hj2 : j < (decDigits d).length := (List.getElem?_eq_some_iff.1 hu).1
      have hj3 : j < nDigits d := by have := HLD.out; omega
      have e1 := row_is_numeral hfm j hj2
      rw [List.getElem?_eq_getElem hj2, e1] at hu
      obtain rfl := Option.some.inj hu
      have hH0 : Holds encB w2.drew w.heap.size 0 (Array.replicate (nDigits d) (0 : UInt8)) := fun j hj => by
        rw [Array.size_replicate] at hj
        rw [Nat.zero_add]
        have hq : w2.drew.heap[w.heap.size]? = some (.cells z32 215 (0, 0)) := HB2.out
        refine ⟨?_, by simp [World.frozen?, hq]⟩
        rw [cell_of_row w2.drew w.heap.size j _ _ _ hq, z32_at j (by omega), getElem!_pos _ j (by simpa using hj)]
        simp [encB]
      have := cell?_putRow encB w2.drew w.heap.size 0 _ dk hH0 (by rw [hfm.size, Array.size_replicate]) j (by rw [hfm.size]; exact hj3)
      rw [Nat.zero_add] at this
      rw [hw4]
      exact this
    · cases hu
  have hrow4 : Row base (fun k => k = w.heap.size) w4 w4 v [] := by
    have hr := HROW.out
    have hg := hr.go hbw4
    refine ⟨hg.own, fun k hk e => ?_, fun _ _ => rfl, fun k hk => ?_, Below.refl _ _, Nat.le_trans hr.ble hbw4.size⟩
    · subst hk
      have := (hr.own.lt _ e).2
      omega
    · subst hk
      have := hbw4.size
      have hz : w4.heap.size = w2.heap.size := by rw [hw4]; simp
      omega
  have HFE := Lib.hid (fmtE_any base w.heap.size (fun k => k = w.heap.size) x0 xs X v 32 w4 w4 hrow4 rfl (by omega) (by omega) (by omega) (by omega) (by omega) hcell4)
  have HBW4 := Lib.hid hbw4
  clear hw4 hfm hcell4 hrow4 hbw4
  refine HFE.out.mono ?_
  rintro e w5 ⟨v5, rfl, hr5⟩
  have HR5 := Lib.hid hr5
  clear hr5
  go_wp2_with fail
  go_ret
  have hr := HROW.out
  rw [HDP.out]
  exact ⟨v5, rfl, HR5.out.own, fun _ h => h.elim, fun _ h => h.elim, fun _ h => h.elim, (HBW4.out.mono hr.ble).trans HR5.out.below, hr.ble⟩
end Go.Proofs.YtckaoeloofbklaaGreatDoor
namespace Go.Proofs.YtckaoeloofbklaaGreatDoor
open Go Go.RowKit Go.Sort Go.Lib
def mtN (b : Nat) : Nat := if b < 4503599627370496 then b else b % 4503599627370496 + 4503599627370496
def sN (b : Nat) : Nat := 64 - Lib.bitLen (mtN b)
def MN (b : Nat) : Nat := mtN b * 2 ^ sN b
def EN (b : Nat) : Int := (if b < 4503599627370496 then -1022 else ((b / 4503599627370496 : Nat) : Int) + -1023) - (sN b : Int) - 52
def fmtB (b : Nat) : List UInt8 := dpB (shortN (MN b) (EN b)).1 (shortN (MN b) (EN b)).2
theorem bitLen_bounds (x : Nat) (h1 : 1 ≤ x) (h2 : x < 18446744073709551616) : 1 ≤ Lib.bitLen x ∧ 2 ^ (Lib.bitLen x - 1) ≤ x ∧ x < 2 ^ Lib.bitLen x := Lib.bitLenAux_bounds 64 x h2 (by omega)
theorem bitLen_le (x k : Nat) (h1 : 1 ≤ x) (h2 : x < 18446744073709551616) (h : x < 2 ^ k) : Lib.bitLen x ≤ k := by
  obtain ⟨b1, b2, _⟩ := bitLen_bounds x h1 h2
  have h3 := Nat.lt_of_le_of_lt b2 h
  have := (Nat.pow_lt_pow_iff_right (by decide)).1 h3
  omega
theorem bitLen_gt (x k : Nat) (h1 : 1 ≤ x) (h2 : x < 18446744073709551616) (h : 2 ^ k ≤ x) : k < Lib.bitLen x := by
  obtain ⟨_, _, b3⟩ := bitLen_bounds x h1 h2
  have h3 := Nat.lt_of_le_of_lt h b3
  exact (Nat.pow_lt_pow_iff_right (by decide)).1 h3
theorem norm_bounds (x : Nat) (h1 : 1 ≤ x) (h2 : x < 18446744073709551616) : 9223372036854775808 ≤ x * 2 ^ (64 - Lib.bitLen x) ∧ x * 2 ^ (64 - Lib.bitLen x) < 18446744073709551616 := by
  obtain ⟨b1, b2, b3⟩ := bitLen_bounds x h1 h2
  have b4 := bitLen_le x 64 h1 h2 h2
  have e1 : 2 ^ (Lib.bitLen x - 1) * 2 ^ (64 - Lib.bitLen x) = 2 ^ 63 := by rw [← Nat.pow_add]; congr 1; omega
  have e2 : 2 ^ Lib.bitLen x * 2 ^ (64 - Lib.bitLen x) = 2 ^ 64 := by rw [← Nat.pow_add]; congr 1; omega
  constructor
  · have := Nat.mul_le_mul_right (2 ^ (64 - Lib.bitLen x)) b2
    rw [e1] at this
    exact this
  · have := (Nat.mul_lt_mul_right (Nat.two_pow_pos (64 - Lib.bitLen x))).2 b3
    rw [e2] at this
    exact this
theorem ftoa_any (base b : Nat) (v : Value) (w : World) (hg : Glob w) (hrow : Row base (fun _ => False) w w v []) (hb1 : 0 < b) (hb2 : b < 9218868437227405312) :
    Calls Tryz.prog 176 #[v, .float .f64 b, .int .u8 101, .int .i64 (-1)] w (EPost base (fun _ => False) w (fmtB b)) := by
  unfold fmtB
  by_cases hs : b < 4503599627370496
  · have hm : mtN b = b := by unfold mtN; rw [if_pos hs]
    have hL := bitLen_le b 52 hb1 (by omega) hs
    obtain ⟨hM1, hM2⟩ := norm_bounds b hb1 (by omega)
    obtain ⟨hL1, _, _⟩ := bitLen_bounds b hb1 (by omega)
    have hE : EN b = -1074 - ((64 - Lib.bitLen b : Nat) : Int) := by unfold EN sN; rw [if_pos hs, hm]; omega
    have hz : zN (EN b) = 64 - Lib.bitLen b := by unfold zN; rw [hE, if_neg (by omega)]; omega
    have hM : b * 2 ^ (64 - Lib.bitLen b) = MN b := by unfold MN sN; rw [hm]
    rw [hM] at hM1 hM2
    exact ftoa_sub base b b (64 - Lib.bitLen b) (MN b) (EN b) v w hg hrow (by omega) rfl hb1 hs (by omega) rfl hM hM1 hM2 (by rw [hE]; omega) (by omega) (by omega) (by rw [hz, ← hM]; exact Nat.mul_mod_left _ _)
  · have hm : mtN b = b % 4503599627370496 + 4503599627370496 := by unfold mtN; rw [if_neg hs]
    have hr := Nat.mod_lt b (show 0 < 4503599627370496 by decide)
    have hL1 := bitLen_le (b % 4503599627370496 + 4503599627370496) 53 (by omega) (by omega) (by omega)
    have hL2 := bitLen_gt (b % 4503599627370496 + 4503599627370496) 52 (by omega) (by omega) (by omega)
    obtain ⟨hM1, hM2⟩ := norm_bounds (b % 4503599627370496 + 4503599627370496) (by omega) (by omega)
    have hL : Lib.bitLen (b % 4503599627370496 + 4503599627370496) = 53 := by omega
    have hM : (b % 4503599627370496 + 4503599627370496) * 2 ^ (64 - Lib.bitLen (b % 4503599627370496 + 4503599627370496)) = MN b := by unfold MN sN; rw [hm]
    rw [hM] at hM1 hM2
    have hE : EN b = ((b / 4503599627370496 : Nat) : Int) - 1086 := by unfold EN sN; rw [if_neg hs, hm, hL]; omega
    have hz : zN (EN b) = 11 := by unfold zN; rw [hE, if_pos (by omega)]
    exact ftoa_nor base b _ _ _ 11 (MN b) (EN b) v w hg hrow (by omega) rfl rfl (by omega) (by omega) rfl (by omega) (by rw [hL]) (by rw [← hM, hL]) hM1 hM2 (by rw [hE]; omega) (by omega) (by omega) (by rw [hz, ← hM, hL]; exact Nat.mul_mod_left _ _)
end Go.Proofs.YtckaoeloofbklaaGreatDoor
namespace Go.Proofs.YtckaoeloofbklaaGreatDoor
open Go Go.RowKit Go.Sort Go.Lib
def z24 : Array Value := #[.int .u8 0, .int .u8 0, .int .u8 0, .int .u8 0, .int .u8 0, .int .u8 0, .int .u8 0, .int .u8 0, .int .u8 0, .int .u8 0, .int .u8 0, .int .u8 0, .int .u8 0, .int .u8 0, .int .u8 0, .int .u8 0, .int .u8 0, .int .u8 0, .int .u8 0, .int .u8 0, .int .u8 0, .int .u8 0, .int .u8 0, .int .u8 0]
theorem strOf_map (l : List UInt8) : strOfNums (l.map fun x => (x.toNat : Int)) = ⟨l.toArray⟩ := by
  unfold strOfNums
  congr 2
  rw [List.map_map]
  conv => rhs; rw [← List.map_id l]
  refine List.map_congr_left fun x _ => ?_
  simp
theorem Row.text {base : Nat} {S : Nat → Prop} {W0 W : World} {v : Value} {l : List UInt8} (h : Row base S W0 W v l) : (convert 28 9 v).run Tryz.prog W = .ok (.string ⟨l.toArray⟩) W := by
  rcases h.own.2 with ⟨h1, h2⟩ | ⟨g, cap, cur, h1, h2, h3, h4, h5, h6, h7⟩
  · obtain rfl := List.eq_nil_of_length_eq_zero h2
    rw [h1]
    exact run_convert_bytes_nil W _ _ Tryz.underlying28 Tryz.underlying5 0 0 _ Tryz.underlying9
  · rw [h1, ← strOf_map]
    refine run_convert_bytes_arg W _ _ Tryz.underlying28 Tryz.underlying5 g 0 l.length cap (l.map fun x => (x.toNat : Int)) (by simp) (fun i hi => ?_) _ Tryz.underlying9
    rw [Nat.zero_add, cell_of_row W g i _ _ _ h3]
    have h8 := congrArg (fun q : List Value => q[i]?) h7
    simp only [Nat.mul_one, List.getElem?_take, hi, if_true, Array.getElem?_toList] at h8
    rw [h8]
    simp [encB, hi]
set_option maxRecDepth 100000 in
set_option maxHeartbeats 1000000 in
theorem iformat_any (b : Nat) (w : World) (hg : Glob w) (hb1 : 0 < b) (hb2 : b < 9218868437227405312) :
    Calls Tryz.prog 134 #[.float .f64 b, .int .u8 101, .int .i64 (-1), .int .i64 64] w fun e w' => e = .returned (.string ⟨(fmtB b).toArray⟩) ∧ Below w.heap.size w w' := by
  have hal : Below w.heap.size w (w.alloc (.cells z24 5)) := (Below.refl _ _).alloc (Nat.le_refl _) _
  have hrow : Row w.heap.size (fun _ => False) (w.alloc (.cells z24 5)) (w.alloc (.cells z24 5)) (.slice (some ⟨w.heap.size, 0, Option.none⟩) 0 24) [] :=
    ⟨World.ownsRow_made w z24 24 (Nat.le_refl _) (by unfold maxLen; omega) (by rfl), fun _ h => h.elim, fun _ h => h.elim, fun _ h => h.elim, Below.refl _ _, by simp⟩
  have HF := Lib.hid (ftoa_any w.heap.size b _ _ (hg.below hg.lt hal) hrow hb1 hb2)
  have HAL := Lib.hid hal
  have HX := Lib.hid (fun (W W' : World) (v : Value) (l : List UInt8) (h : Row w.heap.size (fun _ => False) W W' v l) => h.text)
  clear hg hrow hal
  have hmax : max (3 : Int) 24 = 24 := by decide
  have hmk : ∀ W : World, (Instr.makeSlice 28 (.int .i64 0) (.int .i64 24)).run Tryz.prog W = .ok (.slice (some ⟨W.heap.size, 0, Option.none⟩) 0 24) (W.alloc (.cells z24 5)) := fun _ => by kernel_rfl
  generalize fmtB b = R at *
  go_enter Tryz.func134, Tryz.ntmps134
  go_wp2_with fail
  refine HF.out.mono ?_
  rintro e w5 ⟨v5, rfl, hr5⟩
  have hcv := HX.out _ _ _ _ hr5
  have HB := Lib.hid hr5.below
  clear hr5
  go_wp2_with fail
  go_ret
  exact ⟨rfl, HAL.out.trans HB.out⟩
theorem format_any (b : Nat) (w : World) (hg : Glob w) (hb1 : 0 < b) (hb2 : b < 9218868437227405312) :
    Calls Tryz.prog 99 #[.float .f64 b, .int .u8 101, .int .i64 (-1), .int .i64 64] w fun e w' => e = .returned (.string ⟨(fmtB b).toArray⟩) ∧ Below w.heap.size w w' := by
  have HF := Lib.hid (iformat_any b w hg hb1 hb2)
  clear hg
  go_enter Tryz.func99, Tryz.ntmps99
  go_wp2_with fail
  refine HF.out.mono ?_
  rintro e w5 ⟨rfl, hb⟩
  have HB := Lib.hid hb
  clear hb
  go_wp2_with fail
  go_ret
  exact ⟨rfl, HB.out⟩
end Go.Proofs.YtckaoeloofbklaaGreatDoor
namespace Go.Proofs.YtckaoeloofbklaaGreatDoor
open Go Go.RowKit Go.Sort Go.Lib
def expS (x : Int) : List UInt8 := 101 :: (if x < 0 then 45 else 43) :: decDigits x.natAbs
def placedB (d : List UInt8) (p : Int) : List UInt8 :=
  if (d.length : Int) ≤ p ∧ p ≤ 21 then d ++ List.replicate (p - d.length).toNat 48
  else if 0 < p ∧ p < d.length ∧ p ≤ 21 then d.take p.toNat ++ 46 :: d.drop p.toNat
  else if -6 < p ∧ p ≤ 0 then 48 :: 46 :: (List.replicate (-p).toNat 48 ++ d)
  else (if 1 < d.length then d.take 1 ++ 46 :: d.drop 1 else d) ++ expS (p - 1)
theorem repeat48 (k : Nat) : repeatL [48] k = List.replicate k 48 := by
  induction k with
  | zero => rfl
  | succ k ih => simp [repeatL, ih, List.replicate_succ]
theorem str_is {l : List UInt8} {s : ByteArray} (h : s.data.toList = l) : s = ⟨l.toArray⟩ := by
  subst h; rfl
theorem zeros_any (k : Int) (w : World) (h0 : 0 ≤ k) (h1 : k ≤ 10000) :
    Calls Tryz.prog 140 #[.string ⟨#[48]⟩, .int .i64 k] w fun e w' => e = .returned (.string ⟨(List.replicate k.toNat 48).toArray⟩) ∧ Below w.heap.size w w' := by
  obtain ⟨n, rfl⟩ := Int.eq_ofNat_of_zero_le h0
  have := Tryz.strings_Repeat ⟨#[48]⟩ n w (by omega) (by show 1 * n ≤ _; omega)
  rw [show (⟨#[48]⟩ : ByteArray).data.toList = [48] from rfl, repeat48] at this
  exact this
theorem zz (k : Nat) : (⟨(List.replicate k 48).toArray⟩ : ByteArray).size = k := by
  show (List.replicate k (48 : UInt8)).toArray.size = k
  rw [List.size_toArray, List.length_replicate]
set_option maxRecDepth 100000 in
set_option maxHeartbeats 1000000 in
theorem placed_1 (d : ByteArray) (p : Int) (w : World) (hd : d.size ≤ 20) (h1 : (d.size : Int) ≤ p) (h2 : p ≤ 21) :
    Calls Tryz.prog 104 #[.string d, .int .i64 p] w fun e w' => e = .returned (.string ⟨(placedB d.data.toList p).toArray⟩) ∧ Below w.heap.size w w' := by
  have hR : d ++ (⟨(List.replicate (p - d.size).toNat 48).toArray⟩ : ByteArray) = ⟨(placedB d.data.toList p).toArray⟩ := by
    refine str_is ?_
    rw [placedB, if_pos (by simpa using ⟨h1, h2⟩)]
    simp
  have HZ := Lib.hid (zeros_any (p - d.size) w (by omega) (by omega))
  have hz : (⟨(List.replicate (p - d.size).toNat 48).toArray⟩ : ByteArray).size ≤ 100 := by rw [zz]; omega
  generalize (⟨(placedB d.data.toList p).toArray⟩ : ByteArray) = R at *
  generalize (⟨(List.replicate (p - d.size).toNat 48).toArray⟩ : ByteArray) = Z at *
  go_enter Tryz.func104, Tryz.ntmps104
  go_wp2_with fail
  refine HZ.out.mono ?_
  rintro e w5 ⟨rfl, hb⟩
  have HB := Lib.hid hb
  clear hb
  go_wp2_with fail
  go_ret
  exact ⟨rfl, HB.out⟩
set_option maxRecDepth 100000 in
set_option maxHeartbeats 1000000 in
theorem placed_2 (d : ByteArray) (p : Int) (w : World) (hd : d.size ≤ 20) (h1 : 0 < p) (h2 : p < d.size) (h3 : p ≤ 21) :
    Calls Tryz.prog 104 #[.string d, .int .i64 p] w fun e w' => e = .returned (.string ⟨(placedB d.data.toList p).toArray⟩) ∧ Below w.heap.size w w' := by
  obtain ⟨q, rfl⟩ := Int.eq_ofNat_of_zero_le (show 0 ≤ p by omega)
  have hR : d.extract 0 q ++ (⟨#[46]⟩ : ByteArray) ++ d.extract q d.size = ⟨(placedB d.data.toList q).toArray⟩ := by
    refine str_is ?_
    rw [placedB, if_neg (show ¬ _ by simp; omega), if_pos (by simp; omega)]
    simp [List.extract_eq_take_drop, ← ByteArray.size_data]
    exact List.take_of_length_le (by simp)
  have HB := Lib.hid (Below.refl w.heap.size w)
  have hq : q ≤ d.size := by omega
  have hA : ∀ W : World, (Instr.slice 9 (.string d) none (some (.int .i64 q)) none).run Tryz.prog W = .ok (.string (d.extract 0 q)) W := fun W => run_slice_string_h W _ d Tryz.underlying9 .i64 q (by omega) (by omega)
  have hC : ∀ W : World, (Instr.slice 9 (.string d) (some (.int .i64 q)) none none).run Tryz.prog W = .ok (.string (d.extract q d.size)) W := fun W => run_slice_string_l W _ d Tryz.underlying9 .i64 q (by omega) (by omega)
  have za : (d.extract 0 q).size ≤ 100 := by rw [ByteArray.size_extract]; omega
  have zc : (d.extract q d.size).size ≤ 100 := by rw [ByteArray.size_extract]; omega
  generalize d.extract 0 q = A at *
  generalize d.extract q d.size = C at *
  generalize (⟨(placedB d.data.toList q).toArray⟩ : ByteArray) = R at *
  go_enter Tryz.func104, Tryz.ntmps104
  go_wp2_with fail
  go_quiet (fail)
  go_wp2
  go_ret
  exact ⟨rfl, bDrewN HB.out _⟩
set_option maxRecDepth 100000 in
set_option maxHeartbeats 1000000 in
theorem placed_3 (d : ByteArray) (p : Int) (w : World) (hd : d.size ≤ 20) (hd1 : 1 ≤ d.size) (h1 : -6 < p) (h2 : p ≤ 0) :
    Calls Tryz.prog 104 #[.string d, .int .i64 p] w fun e w' => e = .returned (.string ⟨(placedB d.data.toList p).toArray⟩) ∧ Below w.heap.size w w' := by
  have hR : (⟨#[48, 46]⟩ : ByteArray) ++ (⟨(List.replicate (-p).toNat 48).toArray⟩ : ByteArray) ++ d = ⟨(placedB d.data.toList p).toArray⟩ := by
    refine str_is ?_
    rw [placedB, if_neg (show ¬ _ by simp; omega), if_neg (show ¬ _ by omega), if_pos ⟨h1, h2⟩]
    simp
  have HZ := Lib.hid (zeros_any (-p) w (by omega) (by omega))
  have hz : (⟨(List.replicate (-p).toNat 48).toArray⟩ : ByteArray).size ≤ 100 := by rw [zz]; omega
  generalize (⟨(placedB d.data.toList p).toArray⟩ : ByteArray) = R at *
  generalize (⟨(List.replicate (-p).toNat 48).toArray⟩ : ByteArray) = Z at *
  go_enter Tryz.func104, Tryz.ntmps104
  go_wp2_with fail
  refine HZ.out.mono ?_
  rintro e w5 ⟨rfl, hb⟩
  have HB := Lib.hid hb
  clear hb
  go_wp2_with fail
  go_ret
  exact ⟨rfl, HB.out⟩
theorem itoa_any (n : Nat) (w : World) (hg : Glob w) (hn : n ≤ 5001) :
    Calls Tryz.prog 141 #[.int .i64 n] w fun e w' => e = .returned (.string ⟨(decDigits n).toArray⟩) ∧ Below w.heap.size w w' := by
  refine (Tryz.strconv_Itoa n (by omega) (by omega) w hg.u10).mono ?_
  rintro e w' ⟨rfl, k, os, rfl⟩
  refine ⟨by rw [itoa, if_neg (by omega)]; rfl, ?_⟩
  exact below_grow _ w (Nat.le_refl _) k os
set_option maxRecDepth 100000 in
set_option maxHeartbeats 1000000 in
theorem placed_4ps (d : ByteArray) (k : Nat) (w : World) (hg : Glob w) (_hd : d.size ≤ 20) (hd1 : d.size = 1) (hk : 21 ≤ k) (hk2 : k ≤ 5001) :
    Calls Tryz.prog 104 #[.string d, .int .i64 ((k : Int) + 1)] w fun e w' => e = .returned (.string ⟨(placedB d.data.toList ((k : Int) + 1)).toArray⟩) ∧ Below w.heap.size w w' := by
  have HI := Lib.hid (itoa_any k w hg hk2)
  have hz : (⟨(decDigits k).toArray⟩ : ByteArray).size ≤ 100 := by
    show (decDigits k).toArray.size ≤ 100
    rw [List.size_toArray, decDigits_length]
    have := nDigits_le k (by omega) (by omega); omega
  have hR : d ++ (⟨#[101]⟩ : ByteArray) ++ (⟨#[43]⟩ : ByteArray) ++ ⟨(decDigits k).toArray⟩ = ⟨(placedB d.data.toList ((k : Int) + 1)).toArray⟩ := by
    refine str_is ?_
    rw [placedB, if_neg (show ¬ _ by omega), if_neg (show ¬ _ by omega), if_neg (show ¬ _ by omega), if_neg (show ¬ 1 < d.data.toList.length by rw [Array.length_toList]; exact Nat.not_lt.2 (Nat.le_of_eq hd1)), expS, if_neg (show ¬ ((k : Int) + 1) - 1 < 0 by omega), show (((k : Int) + 1) - 1).natAbs = k by omega]
    simp
  have ha : ((k : Int) + 1) - 1 = k := by omega
  clear hg
  generalize (⟨(placedB d.data.toList ((k : Int) + 1)).toArray⟩ : ByteArray) = R at *
  generalize (⟨(decDigits k).toArray⟩ : ByteArray) = Z at *
  go_enter Tryz.func104, Tryz.ntmps104
  go_wp2_with fail
  refine HI.out.mono ?_
  rintro e w5 ⟨rfl, hb⟩
  have HB := Lib.hid hb
  clear hb
  go_wp2_with fail
  go_ret
  exact ⟨rfl, HB.out⟩
set_option maxRecDepth 100000 in
set_option maxHeartbeats 1000000 in
theorem placed_4pl (d : ByteArray) (k : Nat) (w : World) (hg : Glob w) (hd : d.size ≤ 20) (hd1 : 1 < d.size) (hk : 21 ≤ k) (hk2 : k ≤ 5001) :
    Calls Tryz.prog 104 #[.string d, .int .i64 ((k : Int) + 1)] w fun e w' => e = .returned (.string ⟨(placedB d.data.toList ((k : Int) + 1)).toArray⟩) ∧ Below w.heap.size w w' := by
  have HI := Lib.hid (fun (n : Nat) => itoa_any k (w.drewN n) (hg.drewN n) hk2)
  have hz : (⟨(decDigits k).toArray⟩ : ByteArray).size ≤ 100 := by
    show (decDigits k).toArray.size ≤ 100
    rw [List.size_toArray, decDigits_length]
    have := nDigits_le k (by omega) (by omega); omega
  have hA : ∀ W : World, (Instr.slice 9 (.string d) none (some (.int .i64 1)) none).run Tryz.prog W = .ok (.string (d.extract 0 1)) W := fun W => run_slice_string_h W _ d Tryz.underlying9 .i64 1 (by omega) (by omega)
  have hC : ∀ W : World, (Instr.slice 9 (.string d) (some (.int .i64 1)) none none).run Tryz.prog W = .ok (.string (d.extract 1 d.size)) W := fun W => run_slice_string_l W _ d Tryz.underlying9 .i64 1 (by omega) (by omega)
  have za : (d.extract 0 1).size ≤ 100 := by rw [ByteArray.size_extract]; omega
  have zc : (d.extract 1 d.size).size ≤ 100 := by rw [ByteArray.size_extract]; omega
  have hR : d.extract 0 1 ++ (⟨#[46]⟩ : ByteArray) ++ d.extract 1 d.size ++ (⟨#[101]⟩ : ByteArray) ++ (⟨#[43]⟩ : ByteArray) ++ ⟨(decDigits k).toArray⟩ = ⟨(placedB d.data.toList ((k : Int) + 1)).toArray⟩ := by
    refine str_is ?_
    rw [placedB, if_neg (show ¬ _ by omega), if_neg (show ¬ _ by omega), if_neg (show ¬ _ by omega), if_pos (show 1 < d.data.toList.length by rw [Array.length_toList]; exact hd1), expS, if_neg (show ¬ ((k : Int) + 1) - 1 < 0 by omega), show (((k : Int) + 1) - 1).natAbs = k by omega]
    simp [List.extract_eq_take_drop, ← ByteArray.size_data]
    exact List.take_of_length_le (by simp)
  have hns : ((k : Int) + 1 < (d.size : Int)) = False := by simp; omega
  have ha : ((k : Int) + 1) - 1 = k := by omega
  clear hg
  generalize (⟨(placedB d.data.toList ((k : Int) + 1)).toArray⟩ : ByteArray) = R at *
  generalize (⟨(decDigits k).toArray⟩ : ByteArray) = Z at *
  generalize d.extract 0 1 = A at *
  generalize d.extract 1 d.size = C at *
  go_enter Tryz.func104, Tryz.ntmps104
  go_wp2_with fail
  go_quiet (fail)
  go_wp2_with fail
  refine (HI.out _).mono ?_
  rintro e w5 ⟨rfl, hb⟩
  have HB := Lib.hid hb
  clear hb
  go_wp2_with fail
  go_ret
  exact ⟨rfl, (bDrewN (Below.refl _ _) _).trans HB.out⟩
set_option maxRecDepth 100000 in
set_option maxHeartbeats 1000000 in
theorem placed_4ns (d : ByteArray) (k : Nat) (w : World) (hg : Glob w) (_hd : d.size ≤ 20) (hd1 : d.size = 1) (hk : 7 ≤ k) (hk2 : k ≤ 5001) :
    Calls Tryz.prog 104 #[.string d, .int .i64 (1 - (k : Int))] w fun e w' => e = .returned (.string ⟨(placedB d.data.toList (1 - (k : Int))).toArray⟩) ∧ Below w.heap.size w w' := by
  have HI := Lib.hid (itoa_any k w hg hk2)
  have hz : (⟨(decDigits k).toArray⟩ : ByteArray).size ≤ 100 := by
    show (decDigits k).toArray.size ≤ 100
    rw [List.size_toArray, decDigits_length]
    have := nDigits_le k (by omega) (by omega); omega
  have hR : d ++ (⟨#[101]⟩ : ByteArray) ++ (⟨#[45]⟩ : ByteArray) ++ ⟨(decDigits k).toArray⟩ = ⟨(placedB d.data.toList (1 - (k : Int))).toArray⟩ := by
    refine str_is ?_
    rw [placedB, if_neg (show ¬ _ by omega), if_neg (show ¬ _ by omega), if_neg (show ¬ _ by omega), if_neg (show ¬ 1 < d.data.toList.length by rw [Array.length_toList]; exact Nat.not_lt.2 (Nat.le_of_eq hd1)), expS, if_pos (show (1 - (k : Int)) - 1 < 0 by omega), show ((1 - (k : Int)) - 1).natAbs = k by omega]
    simp
  have ha : (1 - (k : Int)) - 1 = -(k : Int) := by omega
  clear hg
  generalize (⟨(placedB d.data.toList (1 - (k : Int))).toArray⟩ : ByteArray) = R at *
  generalize (⟨(decDigits k).toArray⟩ : ByteArray) = Z at *
  go_enter Tryz.func104, Tryz.ntmps104
  go_wp2_with fail
  refine HI.out.mono ?_
  rintro e w5 ⟨rfl, hb⟩
  have HB := Lib.hid hb
  clear hb
  go_wp2_with fail
  go_ret
  exact ⟨rfl, HB.out⟩
set_option maxRecDepth 100000 in
set_option maxHeartbeats 1000000 in
theorem placed_4nl (d : ByteArray) (k : Nat) (w : World) (hg : Glob w) (hd : d.size ≤ 20) (hd1 : 1 < d.size) (hk : 7 ≤ k) (hk2 : k ≤ 5001) :
    Calls Tryz.prog 104 #[.string d, .int .i64 (1 - (k : Int))] w fun e w' => e = .returned (.string ⟨(placedB d.data.toList (1 - (k : Int))).toArray⟩) ∧ Below w.heap.size w w' := by
  have HI := Lib.hid (fun (n : Nat) => itoa_any k (w.drewN n) (hg.drewN n) hk2)
  have hz : (⟨(decDigits k).toArray⟩ : ByteArray).size ≤ 100 := by
    show (decDigits k).toArray.size ≤ 100
    rw [List.size_toArray, decDigits_length]
    have := nDigits_le k (by omega) (by omega); omega
  have hA : ∀ W : World, (Instr.slice 9 (.string d) none (some (.int .i64 1)) none).run Tryz.prog W = .ok (.string (d.extract 0 1)) W := fun W => run_slice_string_h W _ d Tryz.underlying9 .i64 1 (by omega) (by omega)
  have hC : ∀ W : World, (Instr.slice 9 (.string d) (some (.int .i64 1)) none none).run Tryz.prog W = .ok (.string (d.extract 1 d.size)) W := fun W => run_slice_string_l W _ d Tryz.underlying9 .i64 1 (by omega) (by omega)
  have za : (d.extract 0 1).size ≤ 100 := by rw [ByteArray.size_extract]; omega
  have zc : (d.extract 1 d.size).size ≤ 100 := by rw [ByteArray.size_extract]; omega
  have hR : d.extract 0 1 ++ (⟨#[46]⟩ : ByteArray) ++ d.extract 1 d.size ++ (⟨#[101]⟩ : ByteArray) ++ (⟨#[45]⟩ : ByteArray) ++ ⟨(decDigits k).toArray⟩ = ⟨(placedB d.data.toList (1 - (k : Int))).toArray⟩ := by
    refine str_is ?_
    rw [placedB, if_neg (show ¬ _ by omega), if_neg (show ¬ _ by omega), if_neg (show ¬ _ by omega), if_pos (show 1 < d.data.toList.length by rw [Array.length_toList]; exact hd1), expS, if_pos (show (1 - (k : Int)) - 1 < 0 by omega), show ((1 - (k : Int)) - 1).natAbs = k by omega]
    simp [List.extract_eq_take_drop, ← ByteArray.size_data]
    exact List.take_of_length_le (by simp)
  have ha : (1 - (k : Int)) - 1 = -(k : Int) := by omega
  clear hg
  generalize (⟨(placedB d.data.toList (1 - (k : Int))).toArray⟩ : ByteArray) = R at *
  generalize (⟨(decDigits k).toArray⟩ : ByteArray) = Z at *
  generalize d.extract 0 1 = A at *
  generalize d.extract 1 d.size = C at *
  go_enter Tryz.func104, Tryz.ntmps104
  go_wp2_with fail
  go_quiet (fail)
  go_wp2_with fail
  refine (HI.out _).mono ?_
  rintro e w5 ⟨rfl, hb⟩
  have HB := Lib.hid hb
  clear hb
  go_wp2_with fail
  go_ret
  exact ⟨rfl, (bDrewN (Below.refl _ _) _).trans HB.out⟩
theorem placed_any (d : ByteArray) (p : Int) (w : World) (hg : Glob w) (hd : d.size ≤ 20) (hd1 : 1 ≤ d.size) (h2 : -5000 ≤ p) (h3 : p ≤ 5000) :
    Calls Tryz.prog 104 #[.string d, .int .i64 p] w fun e w' => e = .returned (.string ⟨(placedB d.data.toList p).toArray⟩) ∧ Below w.heap.size w w' := by
  by_cases h21 : p ≤ 21
  · by_cases hn : (d.size : Int) ≤ p
    · exact placed_1 d p w hd hn h21
    · by_cases h0 : 0 < p
      · exact placed_2 d p w hd h0 (by omega) h21
      · by_cases h6 : -6 < p
        · exact placed_3 d p w hd hd1 h6 (by omega)
        · obtain ⟨k, hk⟩ : ∃ k : Nat, p = 1 - (k : Int) := ⟨(1 - p).toNat, by omega⟩
          subst hk
          by_cases h1 : d.size = 1
          · exact placed_4ns d k w hg hd h1 (by omega) (by omega)
          · exact placed_4nl d k w hg hd (by omega) (by omega) (by omega)
  · obtain ⟨k, hk⟩ : ∃ k : Nat, p = (k : Int) + 1 := ⟨(p - 1).toNat, by omega⟩
    subst hk
    by_cases h1 : d.size = 1
    · exact placed_4ps d k w hg hd h1 (by omega) (by omega)
    · exact placed_4pl d k w hg hd (by omega) (by omega) (by omega)
end Go.Proofs.YtckaoeloofbklaaGreatDoor
namespace Go.Proofs.YtckaoeloofbklaaGreatDoor
open Go Go.RowKit Go.Sort Go.Lib
theorem dig_of (k : Nat) (h : k < 10) : isDig (UInt8.ofNat (48 + k)) := by
  unfold isDig
  rw [UInt8.toNat_ofNat', Nat.mod_eq_of_lt (by omega)]
  omega
theorem dec_digs (u : Nat) : ∀ x ∈ decDigits u, isDig x := by
  induction u using Nat.strongRecOn with
  | _ u ih =>
    intro x hx
    rw [decDigits] at hx
    split at hx
    · rw [List.mem_singleton] at hx; subst hx; exact dig_of u (by omega)
    · rcases List.mem_append.1 hx with h | h
      · exact ih (u / 10) (by omega) x h
      · rw [List.mem_singleton] at h; subst h; exact dig_of _ (by omega)
theorem sig_digs (u : Nat) : ∀ x ∈ sig u, isDig x := by
  obtain ⟨k, -, h⟩ := sig_take u
  intro x hx
  rw [h] at hx
  exact dec_digs u x (List.mem_of_mem_take hx)
theorem indexByte_at (c : UInt8) (b : List UInt8) : ∀ a : List UInt8, (∀ x ∈ a, x ≠ c) → indexByte (a ++ c :: b) c = (a.length : Nat)
  | [], _ => by simp [indexByte]
  | x :: a, h => by
    have ih := indexByte_at c b a (fun y hy => h y (List.mem_cons_of_mem _ hy))
    have hx : x ≠ c := h x (List.mem_cons_self ..)
    rw [List.cons_append, indexByte, if_neg (by simpa using hx), ih, if_neg (by simp)]
    rw [List.length_cons]; push_cast; rfl
theorem indexByte_not (c : UInt8) : ∀ a : List UInt8, (∀ x ∈ a, x ≠ c) → indexByte a c = -1
  | [], _ => rfl
  | x :: a, h => by
    have ih := indexByte_not c a (fun y hy => h y (List.mem_cons_of_mem _ hy))
    have hx : x ≠ c := h x (List.mem_cons_self ..)
    rw [indexByte, if_neg (by simpa using hx), ih]
    rfl
theorem cut_at (c : UInt8) (a b : List UInt8) (h : ∀ x ∈ a, x ≠ c) : cut (a ++ c :: b) [c] = (a, b, true) := by
  unfold cut
  rw [index_one, indexByte_at c b a h, if_pos (by omega)]
  simp
theorem replace_at (c : UInt8) (a b : List UInt8) (h : ∀ x ∈ a, x ≠ c) : replace (a ++ c :: b) [c] [] 1 = a ++ b := by
  have hi : index (a ++ c :: b) [c] = (a.length : Nat) := by rw [index_one, indexByte_at c b a h]
  have hc : 1 ≤ count (a ++ c :: b) [c] := by
    rw [count_one, List.count_append, List.count_cons_self]; exact Nat.le_trans (Nat.le_add_left _ _) (Nat.le_add_left _ _)
  have hn : replaceNum (a ++ c :: b) [c] 1 = 1 := by
    unfold replaceNum
    rw [if_neg (by omega)]; rfl
  unfold replace
  rw [if_neg (by simp), hn, replaceK_hit _ _ _ _ _ hi, replaceK]
  simp
theorem replace_not (c : UInt8) (a : List UInt8) (h : ∀ x ∈ a, x ≠ c) : replace a [c] [] 1 = a := by
  have hi : index a [c] = -1 := by rw [index_one, indexByte_not c a h]
  have hn : replaceNum a [c] 1 = 0 := by
    unfold replaceNum
    rw [count_miss hi]; rfl
  unfold replace
  rw [if_neg (by simp), hn, replaceK]
def mantB (d : List UInt8) : List UInt8 := d.take 1 ++ (if 1 < d.length then 46 :: d.drop 1 else [])
theorem dp_eq (d : Nat) (p : Int) (h : 1 ≤ d) : dpB d p = mantB (sig d) ++ 101 :: expB ((nDigits d : Nat) + p - 1) := by
  obtain ⟨x, l, h1⟩ := sig_head d h
  unfold dpB mantB
  rw [h1]
  simp
theorem mant_ne (l : List UInt8) (c : UInt8) (h : ∀ x ∈ l, isDig x) (h2 : c.toNat ≠ 46) (h3 : ¬ isDig c) : ∀ x ∈ mantB l, x ≠ c := by
  intro x hx hxc
  subst hxc
  unfold mantB at hx
  rcases List.mem_append.1 hx with h4 | h4
  · exact h3 (h x (List.mem_of_mem_take h4))
  · split at h4
    · rcases List.mem_cons.1 h4 with h5 | h5
      · exact h2 (by rw [h5]; rfl)
      · exact h3 (h x (List.mem_of_mem_drop h5))
    · simp at h4
theorem mant_back (l : List UInt8) (h : ∀ x ∈ l, isDig x) : replace (mantB l) [46] [] 1 = l := by
  have hne : ∀ x ∈ l, x ≠ 46 := fun x hx e => by have := h x hx; rw [e] at this; exact absurd this (by unfold isDig; decide)
  unfold mantB
  split
  · rw [replace_at 46 _ _ (fun x hx => hne x (List.mem_of_mem_take hx)), List.take_append_drop]
  · have h1 : l.take 1 = l := List.take_of_length_le (by omega)
    rw [List.append_nil, h1, replace_not 46 l hne]
theorem val_of (k : Nat) (h : k < 10) : digitVal (UInt8.ofNat (48 + k)) = some k := by
  unfold digitVal
  rw [UInt8.toNat_ofNat', Nat.mod_eq_of_lt (show 48 + k < 2 ^ 8 by omega), if_pos (by omega)]
  simp
theorem exp_nat (k : Nat) (h : k < 1000) (l : List UInt8) (hl : l = if k < 10 then [48, UInt8.ofNat (48 + k)] else if k < 100 then [UInt8.ofNat (48 + k / 10), UInt8.ofNat (48 + k % 10)] else [UInt8.ofNat (48 + k / 100), UInt8.ofNat (48 + k / 10 % 10), UInt8.ofNat (48 + k % 10)]) : decNat l = some k := by
  subst hl
  have h48 : digitVal 48 = some 0 := by decide
  split
  · have e1 := val_of k (by omega)
    generalize UInt8.ofNat (48 + k) = b1 at *
    simp [decNat, decFrom, h48, e1]
  · split
    · have e1 := val_of (k / 10) (by omega)
      have e2 := val_of (k % 10) (by omega)
      generalize UInt8.ofNat (48 + k / 10) = b1 at *
      generalize UInt8.ofNat (48 + k % 10) = b2 at *
      simp only [decNat, decFrom, e1, e2, List.isEmpty_cons, Bool.false_eq_true, if_false, Option.some.injEq]
      omega
    · have e0 := val_of (k / 100) (by omega)
      have e1 := val_of (k / 10 % 10) (by omega)
      have e2 := val_of (k % 10) (by omega)
      generalize UInt8.ofNat (48 + k / 100) = b0 at *
      generalize UInt8.ofNat (48 + k / 10 % 10) = b1 at *
      generalize UInt8.ofNat (48 + k % 10) = b2 at *
      simp only [decNat, decFrom, e0, e1, e2, List.isEmpty_cons, Bool.false_eq_true, if_false, Option.some.injEq]
      omega
theorem atoi_exp (x : Int) (h : x.natAbs < 1000) : atoi (expB x) = some x := by
  unfold expB
  by_cases hx : x < 0
  · rw [if_pos hx, atoi, if_pos (by decide), exp_nat x.natAbs h _ rfl]
    simp; omega
  · rw [if_neg hx, atoi, if_neg (by decide), if_pos (by decide), exp_nat x.natAbs h _ rfl]
    simp; omega
theorem exp_len (x : Int) : (expB x).length ≤ 4 := by
  unfold expB
  split <;> split <;> (try split) <;> simp
theorem sig_len (d : Nat) (h : 1 ≤ d) (h2 : d < 18446744073709551616) : 1 ≤ (sig d).length ∧ (sig d).length ≤ 20 := by
  obtain ⟨x, l, h1⟩ := sig_head d h
  obtain ⟨k, h3, h4⟩ := sig_take d
  rw [decDigits_length] at h3
  have h5 := nDigits_le d h h2
  refine ⟨by rw [h1]; simp, ?_⟩
  rw [h4, List.length_take]
  omega
theorem mant_len (l : List UInt8) : (mantB l).length ≤ l.length + 1 := by
  unfold mantB
  split <;> simp <;> omega
def shN (a : Nat) : Nat × Int := shortN (MN a) (EN a)
def showA (a : Nat) : List UInt8 := placedB (sig (shN a).1) ((nDigits (shN a).1 : Nat) + (shN a).2)
def infB : List UInt8 := ([73, 110, 102, 105, 110, 105, 116, 121] : List UInt8)
def nanB : List UInt8 := ([78, 97, 78] : List UInt8)
def showB (b : Nat) : List UInt8 :=
  if 9218868437227405312 < b % 9223372036854775808 then nanB
  else (if b < 9223372036854775808 then [] else [45]) ++ (if b % 9223372036854775808 = 9218868437227405312 then infB else if b % 9223372036854775808 = 0 then [48] else showA (b % 9223372036854775808))
theorem me_ok (b : Nat) (hb1 : 0 < b) (hb2 : b < 9218868437227405312) :
    9223372036854775808 ≤ MN b ∧ MN b < 18446744073709551616 ∧ MN b % 2 ^ zN (EN b) = 0 ∧ -1137 ≤ EN b ∧ EN b ≤ 1000 := by
  by_cases hs : b < 4503599627370496
  · have hm : mtN b = b := by unfold mtN; rw [if_pos hs]
    have hL := bitLen_le b 52 hb1 (by omega) hs
    obtain ⟨hM1, hM2⟩ := norm_bounds b hb1 (by omega)
    obtain ⟨hL1, _, _⟩ := bitLen_bounds b hb1 (by omega)
    have hE : EN b = -1074 - ((64 - Lib.bitLen b : Nat) : Int) := by unfold EN sN; rw [if_pos hs, hm]; omega
    have hz : zN (EN b) = 64 - Lib.bitLen b := by unfold zN; rw [hE, if_neg (by omega)]; omega
    have hM : b * 2 ^ (64 - Lib.bitLen b) = MN b := by unfold MN sN; rw [hm]
    rw [hM] at hM1 hM2
    exact ⟨hM1, hM2, by rw [hz, ← hM]; exact Nat.mul_mod_left _ _, by rw [hE]; omega, by omega⟩
  · have hm : mtN b = b % 4503599627370496 + 4503599627370496 := by unfold mtN; rw [if_neg hs]
    have hr := Nat.mod_lt b (show 0 < 4503599627370496 by decide)
    have hL1 := bitLen_le (b % 4503599627370496 + 4503599627370496) 53 (by omega) (by omega) (by omega)
    have hL2 := bitLen_gt (b % 4503599627370496 + 4503599627370496) 52 (by omega) (by omega) (by omega)
    obtain ⟨hM1, hM2⟩ := norm_bounds (b % 4503599627370496 + 4503599627370496) (by omega) (by omega)
    have hL : Lib.bitLen (b % 4503599627370496 + 4503599627370496) = 53 := by omega
    have hM : (b % 4503599627370496 + 4503599627370496) * 2 ^ (64 - Lib.bitLen (b % 4503599627370496 + 4503599627370496)) = MN b := by unfold MN sN; rw [hm]
    rw [hM] at hM1 hM2
    have hE : EN b = ((b / 4503599627370496 : Nat) : Int) - 1086 := by unfold EN sN; rw [if_neg hs, hm, hL]; omega
    have hz : zN (EN b) = 11 := by unfold zN; rw [hE, if_pos (by omega)]
    exact ⟨hM1, hM2, by rw [hz, ← hM, hL]; exact Nat.mul_mod_left _ _, by rw [hE]; omega, by omega⟩
theorem sh_bounds (b : Nat) (hb1 : 0 < b) (hb2 : b < 9218868437227405312) :
    1 ≤ (shN b).1 ∧ (shN b).1 < 18446744073709551616 ∧ ((nDigits (shN b).1 : Nat) + (shN b).2 - 1).natAbs < 1000 := by
  obtain ⟨h1, h2, h3, h4, h5⟩ := me_ok b hb1 hb2
  obtain ⟨h6, h7, h8, h9⟩ := short_bounds (MN b) (EN b) h1 h2 h3 h4 h5
  unfold shN
  have h10 := nDigits_le (shortN (MN b) (EN b)).1 h6 (by omega)
  exact ⟨h6, by omega, by omega⟩
theorem fmt_eq (b : Nat) (hb1 : 0 < b) (hb2 : b < 9218868437227405312) : fmtB b = mantB (sig (shN b).1) ++ 101 :: expB ((nDigits (shN b).1 : Nat) + (shN b).2 - 1) :=
  dp_eq _ _ (sh_bounds b hb1 hb2).1
theorem fmt_cut (b : Nat) (hb1 : 0 < b) (hb2 : b < 9218868437227405312) : cut (fmtB b) [101] = (mantB (sig (shN b).1), expB ((nDigits (shN b).1 : Nat) + (shN b).2 - 1), true) := by
  rw [fmt_eq b hb1 hb2]
  exact cut_at 101 _ _ (mant_ne _ 101 (sig_digs _) (by decide) (by unfold isDig; decide))
theorem fmt_len (b : Nat) (hb1 : 0 < b) (hb2 : b < 9218868437227405312) : (fmtB b).length ≤ 26 := by
  rw [fmt_eq b hb1 hb2]
  obtain ⟨h1, h2, _⟩ := sh_bounds b hb1 hb2
  have h3 := (sig_len _ h1 h2).2
  have h4 := mant_len (sig (shN b).1)
  have h5 := exp_len ((nDigits (shN b).1 : Nat) + (shN b).2 - 1)
  rw [List.length_append, List.length_cons]
  omega
end Go.Proofs.YtckaoeloofbklaaGreatDoor
namespace Go.Proofs.YtckaoeloofbklaaGreatDoor
set_option exponentiation.threshold 2000
def gapOK (p : Int) : Bool := decide (AN p * 2 ^ 54 ≤ (2 ^ 54 - 1) * (2 ^ 128 * DN p))
def gapAll : Nat → Int → Bool
  | 0, _ => true
  | n + 1, p => gapOK p && gapAll n (p + 1)
theorem gapAll_get : ∀ (n : Nat) (p : Int), gapAll n p = true → ∀ k : Nat, k < n → gapOK (p + k) = true
  | 0, _, _, _, h => by omega
  | n + 1, p, h, 0, _ => by
    simp only [gapAll, Bool.and_eq_true] at h
    simpa using h.1
  | n + 1, p, h, k + 1, hk => by
    simp only [gapAll, Bool.and_eq_true] at h
    have := gapAll_get n (p + 1) h.2 k (by omega)
    rwa [show p + 1 + (k : Int) = p + ((k + 1 : Nat) : Int) from by push_cast; omega] at this
theorem gap_all : gapAll 696 (-348) = true := by decide +kernel
theorem gap_ok (p : Int) (h1 : -348 ≤ p) (h2 : p ≤ 347) : AN p * 2 ^ 54 ≤ (2 ^ 54 - 1) * (2 ^ 128 * DN p) := by
  have := gapAll_get _ _ gap_all (p + 348).toNat (by omega)
  rw [show -348 + ((p + 348).toNat : Int) = p from by omega] at this
  exact of_decide_eq_true this
theorem val_ac (d P Q t1 t2 t3 t4 t5 t6 W : Nat) (h : t1 * 4 * t2 * t3 * W = t4 * t5 * t6) : 2 * (d * P * t1) * (4 * (Q * t2 * (t3 * W))) = 2 * (Q * (d * t4 * (P * t5) * t6)) := by
  have h1 : 2 * (d * P * t1) * (4 * (Q * t2 * (t3 * W))) = 2 * d * P * Q * (t1 * 4 * t2 * t3 * W) := by ac_rfl
  have h2 : 2 * (Q * (d * t4 * (P * t5) * t6)) = 2 * d * P * Q * (t4 * t5 * t6) := by ac_rfl
  rw [h1, h2, h]
theorem val_eq (d P Q a1 a2 k s E : Nat) (h : 1204 + a2 + s = k + a1 + E) : 2 * (d * P * 2 ^ 1074) * (4 * (Q * 2 ^ a2 * (2 ^ s * 340282366920938463463374607431768211456))) = 2 * (Q * (d * 2 ^ k * (P * 2 ^ a1) * 2 ^ E)) := by
  refine val_ac d P Q _ _ _ _ _ _ _ ?_
  rw [show (4 : Nat) = 2 ^ 2 from rfl, show 340282366920938463463374607431768211456 = 2 ^ 128 from by decide, ← Nat.pow_add, ← Nat.pow_add, ← Nat.pow_add, ← Nat.pow_add, ← Nat.pow_add, ← Nat.pow_add]
  congr 1
  omega
def mOf (n G : Nat) : Nat := n / G + upG n G
theorem up_le (n G : Nat) : upG n G ≤ 1 := by unfold upG; split <;> (try split) <;> omega
theorem div_bounds (n G a b : Nat) (hG : 0 < G) (h1 : a * G ≤ n) (h2 : n < b * G) : a ≤ n / G ∧ n / G < b :=
  ⟨(Nat.le_div_iff_mul_le hG).2 h1, (Nat.div_lt_iff_lt_mul hG).2 h2⟩
theorem rung_of {X Q n G E : Nat} (hq : 0 < Q) (hG : 0 < G) (hX : X * G = 2 * (Q * (n * 2 ^ E))) (hlo : E = 0 ∨ 4503599627370496 * G ≤ n) (hhi : n < 18014398509481983 * G) :
    (2 * n < 18014398509481983 * G → mOf n G < 9007199254740992 ∧ (E = 0 ∨ 4503599627370496 ≤ mOf n G) ∧ Near X Q (min INF (E * BB + mOf n G))) ∧
    (18014398509481983 * G ≤ 2 * n → mOf n (2 * G) < 9007199254740992 ∧ 4503599627370496 ≤ mOf n (2 * G) ∧ Near X Q (min INF ((E + 1) * BB + mOf n (2 * G)))) := by
  have hdm := Nat.div_add_mod n G
  have hr := Nat.mod_lt n hG
  constructor
  · intro h
    have hlt : n < 9007199254740992 * G := by omega
    have hq2 := (Nat.div_lt_iff_lt_mul hG).2 hlt
    have hE : E = 0 ∨ 4503599627370496 ≤ n / G := hlo.imp id fun h => (Nat.le_div_iff_mul_le hG).2 h
    refine ⟨?_, hE.imp id fun h => Nat.le_trans h (Nat.le_add_right _ _), near_gap hq hG hX hq2 hE⟩
    unfold mOf
    have hu := up_le n G
    by_cases h1 : n / G = 9007199254740991
    · rw [h1] at hdm
      have : upG n G = 0 := by unfold upG; rw [if_pos (by omega)]
      omega
    · omega
  · intro h
    have hG2 : 0 < 2 * G := by omega
    have hdm2 := Nat.div_add_mod n (2 * G)
    have hr2 := Nat.mod_lt n hG2
    obtain ⟨b1, b2⟩ := div_bounds n (2 * G) 4503599627370495 9007199254740992 hG2 (by omega) (by omega)
    have hu := up_le n (2 * G)
    have hlt : mOf n (2 * G) < 9007199254740992 := by
      unfold mOf
      by_cases h1 : n / (2 * G) = 9007199254740991
      · rw [h1] at hdm2
        have : upG n (2 * G) = 0 := by unfold upG; rw [if_pos (by omega)]
        omega
      · omega
    by_cases h1 : n / (2 * G) = 4503599627370495
    · have hup : upG n (2 * G) = 1 := by
        rw [h1] at hdm2
        unfold upG; rw [if_neg (by omega), if_neg (by omega)]
      have hm : mOf n (2 * G) = 4503599627370496 := by unfold mOf; omega
      refine ⟨hlt, by omega, ?_⟩
      have hnlt : n < 9007199254740992 * G := by rw [h1] at hdm2; omega
      obtain ⟨c1, c2⟩ := div_bounds n G 9007199254740991 9007199254740992 hG (by omega) hnlt
      have h3 : n / G = 9007199254740991 := by omega
      have hn := near_gap hq hG hX (by unfold BB; omega) (.inr (by unfold BB; omega))
      have hup2 : upG n G = 1 := by
        have h4 : 2 * (n % G) ≥ G := by rw [h3] at hdm; omega
        unfold upG
        rw [if_neg (by omega)]
        split
        · rw [h3]
        · rfl
      rw [h3, hup2] at hn
      rw [hm]
      rwa [show (E + 1) * BB + 4503599627370496 = E * BB + (9007199254740991 + 1) by unfold BB; omega]
    · have hge : 4503599627370496 ≤ n / (2 * G) := by omega
      refine ⟨hlt, by unfold mOf; omega, ?_⟩
      exact near_gap hq hG2 (by rw [Nat.pow_succ, ← Nat.mul_assoc n, ← Nat.mul_assoc Q, Nat.mul_left_comm X 2 G, hX]; omega) b2 (.inr hge)
theorem third_lem (nn a dd T W : Nat) (k1 : nn < 18446744073709551616 * a) (hg : a * 2 ^ 54 ≤ (2 ^ 54 - 1) * (W * dd)) (k2 : dd * (2 ^ 8 * W) ≤ T) : nn < 18014398509481983 * (4 * T) := by
  have e : dd * (2 ^ 8 * W) = 256 * (W * dd) := by rw [show (2 : Nat) ^ 8 = 256 from rfl]; ac_rfl
  rw [e] at k2
  generalize W * dd = u at *
  omega
theorem parse_scale (p : Int) (h1 : -348 ≤ p) (h2 : p ≤ 347) (x hi lo s : Nat) (hx : x < 18446744073709551616) (hx2 : 9223372036854775808 ≤ x) (hlo : lo < 18446744073709551616) (hpm : pmN p + lo = hi * 18446744073709551616) (hs : 8 ≤ s) :
    uscN x hi lo (2 ^ s) = unr (x * AN p) (4 * (DN p * (2 ^ s * 340282366920938463463374607431768211456))) ∧ 0 < 4 * (DN p * (2 ^ s * 340282366920938463463374607431768211456)) ∧ x * AN p < 18014398509481983 * (4 * (DN p * (2 ^ s * 340282366920938463463374607431768211456))) ∧
    (s = 8 → 4503599627370496 * (4 * (DN p * (2 ^ s * 340282366920938463463374607431768211456))) ≤ x * AN p) := by
  have hD := DN_pos p
  obtain ⟨t1, t2⟩ := tab_bounds p h1 h2
  have hg := gap_ok p h1 h2
  obtain ⟨j, hj, hj2⟩ : ∃ j, 2 ^ s = 2 ^ 8 * j ∧ 0 < j := ⟨2 ^ (s - 8), by rw [← Nat.pow_add, show 8 + (s - 8) = s by omega], Nat.two_pow_pos _⟩
  have hG : 0 < 4 * (DN p * (2 ^ s * 340282366920938463463374607431768211456)) := Nat.mul_pos (by decide) (Nat.mul_pos hD (Nat.mul_pos (Nat.two_pow_pos s) (by decide)))
  refine ⟨?_, hG, ?_, ?_⟩
  · refine uscN_eq hx hlo hpm (pmN_lo p) (pmN_hi p) hD ?_ ?_
    · rw [hj]; omega
    · rw [hj]; exact clear_parse p h1 h2 j hj2 x hx hx2
  · have hA : 0 < AN p := Nat.lt_of_lt_of_le (Nat.mul_pos (by decide) hD) t1
    have k1 : x * AN p < 18446744073709551616 * AN p := (Nat.mul_lt_mul_right hA).2 hx
    have k2 : DN p * (2 ^ 8 * 340282366920938463463374607431768211456) ≤ DN p * (2 ^ s * 340282366920938463463374607431768211456) := Nat.mul_le_mul_left _ (Nat.mul_le_mul_right _ (by rw [hj]; exact Nat.le_mul_of_pos_right _ hj2))
    exact third_lem _ _ _ _ 340282366920938463463374607431768211456 k1 hg k2
  · intro h8
    subst h8
    have k1 := Nat.mul_le_mul hx2 t1
    have e : 9223372036854775808 * (2 ^ 127 * DN p) = 4503599627370496 * (4 * (DN p * (2 ^ 8 * 340282366920938463463374607431768211456))) := by
      generalize DN p = dd
      omega
    rw [← e]; exact k1
theorem or_half (u : Nat) : u / 2 ||| u % 2 = 2 * (u / 4) + (if u % 4 = 0 then 0 else 1) := by
  rcases (by omega : u % 2 = 0 ∨ u % 2 = 1) with h | h
  · rw [h, Nat.or_zero]; split <;> omega
  · have h2 := Nat.div_add_mod (u / 2 ||| 1) 2
    rw [Nat.or_div_two, Nat.or_mod_two_eq_one.2 (.inr rfl)] at h2
    rw [h, ← h2, if_neg (by omega)]
    simp
    omega
def dX (d : Nat) (p : Int) : Nat := 2 * (d * 10 ^ p.toNat * 2 ^ 1074)
def dQ (p : Int) : Nat := 10 ^ (-p).toNat
theorem dQ_pos (p : Int) : 0 < dQ p := Nat.pow_pos (by decide)
theorem parse_plain (p : Int) (h1 : -348 ≤ p) (h2 : p ≤ 347) (d b s E hi lo : Nat) (hb1 : 1 ≤ b) (hb2 : b ≤ 64) (hd1 : 2 ^ (b - 1) ≤ d) (hd2 : d < 2 ^ b) (hlo : lo < 18446744073709551616) (hpm : pmN p + lo = hi * 18446744073709551616)
    (hs8 : 8 ≤ s) (hsE : (s : Int) + 1013 + lpN p + b = E) (hE : E = 0 ∨ s = 8) :
    ∃ G n, 0 < G ∧ uscN (d * 2 ^ (64 - b)) hi lo (2 ^ s) = unr n G ∧ n < 18014398509481983 * G ∧ (64 ≤ s → Near (dX d p) (dQ p) 0) ∧
    (2 * n < 18014398509481983 * G → mOf n G < 9007199254740992 ∧ (E = 0 ∨ 4503599627370496 ≤ mOf n G) ∧ Near (dX d p) (dQ p) (min INF (E * BB + mOf n G))) ∧
    (18014398509481983 * G ≤ 2 * n → mOf n (2 * G) < 9007199254740992 ∧ 4503599627370496 ≤ mOf n (2 * G) ∧ Near (dX d p) (dQ p) (min INF ((E + 1) * BB + mOf n (2 * G)))) := by
  have hx1 : 9223372036854775808 ≤ d * 2 ^ (64 - b) := by
    rw [show 9223372036854775808 = 2 ^ (b - 1) * 2 ^ (64 - b) from by rw [← Nat.pow_add, show b - 1 + (64 - b) = 63 by omega]]
    exact Nat.mul_le_mul_right _ hd1
  have hx2 : d * 2 ^ (64 - b) < 18446744073709551616 := by
    rw [show 18446744073709551616 = 2 ^ b * 2 ^ (64 - b) from by rw [← Nat.pow_add, show b + (64 - b) = 64 by omega]]
    exact (Nat.mul_lt_mul_right (Nat.two_pow_pos _)).2 hd2
  obtain ⟨q1, q2, q3, q4⟩ := parse_scale p h1 h2 _ hi lo s hx2 hx1 hlo hpm hs8
  have hX : dX d p * (4 * (DN p * (2 ^ s * 340282366920938463463374607431768211456))) = 2 * (dQ p * (d * 2 ^ (64 - b) * AN p * 2 ^ E)) := by
    have := val_eq d (10 ^ p.toNat) (10 ^ (-p).toNat) (127 - lpN p).toNat (lpN p - 127).toNat (64 - b) s E (by omega)
    exact this
  have hr := rung_of (dQ_pos p) q2 hX (hE.imp id fun h => q4 h) q3
  refine ⟨_, _, q2, q1, q3, fun h64 => ?_, hr.1, hr.2⟩
  have hE0 : E = 0 := by omega
  rw [hE0, Nat.pow_zero, Nat.mul_one] at hX
  obtain ⟨t1, t2⟩ := tab_bounds p h1 h2
  have hD := DN_pos p
  have hs2 : 2 ^ 64 ≤ 2 ^ s := Nat.pow_le_pow_right (by decide) h64
  have hlt : 4 * (d * 2 ^ (64 - b) * AN p) ≤ 4 * (DN p * (2 ^ s * 340282366920938463463374607431768211456)) := by
    refine Nat.mul_le_mul_left 4 ?_
    refine Nat.le_trans (Nat.mul_le_mul (Nat.le_of_lt hx2) (Nat.le_of_lt t2)) ?_
    rw [show 18446744073709551616 * (2 ^ 128 * DN p) = DN p * (2 ^ 64 * 340282366920938463463374607431768211456) from by generalize DN p = D; omega]
    exact Nat.mul_le_mul_left _ (Nat.mul_le_mul_right _ hs2)
  have hle : 2 * dX d p ≤ dQ p := by
    have : 2 * dX d p * (4 * (DN p * (2 ^ s * 340282366920938463463374607431768211456))) ≤ dQ p * (4 * (DN p * (2 ^ s * 340282366920938463463374607431768211456))) := by
      rw [Nat.mul_assoc 2, hX]
      calc 2 * (2 * (dQ p * (d * 2 ^ (64 - b) * AN p))) = dQ p * (4 * (d * 2 ^ (64 - b) * AN p)) := by
            generalize d * 2 ^ (64 - b) * AN p = nn
            rw [← Nat.mul_assoc 2 2, Nat.mul_left_comm]
        _ ≤ _ := Nat.mul_le_mul_left _ hlt
    exact Nat.le_of_mul_le_mul_right this q2
  refine ⟨dQ_pos p, by decide, .inl rfl, .inr ⟨?_, fun h => by omega⟩⟩
  have v1 : V (0 + 1) = 1 := by decide
  rw [v1, V_zero]
  omega
end Go.Proofs.YtckaoeloofbklaaGreatDoor
