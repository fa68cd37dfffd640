/- Joined texts: Vk Vm Pc Uk Uh Ui Uj. Each begins with its own remark. -/
import Derived.Test.YtckaoeloofbklaaGreatDoorZf
import Derived.Deep.RegionHeld
import Derived.Outline
import Derived.Laws.BytesArg
import Derived.Test.YtckaoeloofbklaaGreatDoorZb
import Derived.Test.YtckaoeloofbklaaGreatDoorZa
import Derived.Laws.FloatBits
import Derived.WalkLawsBesides

/- A number's shortest digits as a text: ftoa64 (printed by gen_ftoa15.py). -/
namespace Go.Proofs.YtckaoeloofbklaaGreatDoor
open Go Go.RowKit Go.Sort Go.Lib

def z32 : Array Value := #[.int .u8 0, .int .u8 0, .int .u8 0, .int .u8 0, .int .u8 0, .int .u8 0, .int .u8 0, .int .u8 0, .int .u8 0, .int .u8 0, .int .u8 0, .int .u8 0, .int .u8 0, .int .u8 0, .int .u8 0, .int .u8 0, .int .u8 0, .int .u8 0, .int .u8 0, .int .u8 0, .int .u8 0, .int .u8 0, .int .u8 0, .int .u8 0, .int .u8 0, .int .u8 0, .int .u8 0, .int .u8 0, .int .u8 0, .int .u8 0, .int .u8 0, .int .u8 0]
theorem z32_at (i : Nat) (h : i < 32) : z32[i]? = some (.int .u8 0) := by
  have e : z32 = Array.replicate 32 (.int .u8 0) := rfl
  rw [e, Array.getElem?_replicate, if_pos h]

/-- the text of digits d times ten to the power p -/
def dpB (d : Nat) (p : Int) : List UInt8 :=
  match sig d with
  | [] => []
  | x0 :: xs => x0 :: ((if 0 < xs.length then 46 :: xs else []) ++ 101 :: expB ((nDigits d : Nat) + p - 1))

theorem bits_and_2047 (b xf : Nat) (_hb : b < 9223372036854775808) (h : b / 4503599627370496 = xf) (h2 : xf ≤ 2047) : bits BinOp.and IntKind.i64 ((b : Int) / 4503599627370496) 2047 = (xf : Int) := by
  have h3 : (b : Int) / 4503599627370496 = (xf : Int) := by omega
  rw [h3]
  have := bits_mask .i64 63 (by decide) (fun n h0 h1 => by rw [IntKind.wrap_i64]; omega) 11 (by decide) (xf : Int) (by omega) (by omega)
  have h4 : ((2 : Int) ^ 11 - 1) = 2047 := by decide
  rw [h4] at this
  rw [this]
  have h5 : ((2 : Int) ^ 11) = 2048 := by decide
  rw [h5]; omega
theorem bits_and_frac (b : Nat) (hb : b < 9223372036854775808) : bits BinOp.and IntKind.u64 (b : Int) 4503599627370495 = ((b % 4503599627370496 : Nat) : Int) := by
  have := bits_and_u64_nat b 4503599627370495 (by omega) (by omega)
  rw [show (4503599627370495 : Nat) = 2 ^ 52 - 1 from rfl, Nat.and_two_pow_sub_one_eq_mod] at this
  exact this
theorem bits_or_top (m : Nat) (hm : m < 4503599627370496) : bits BinOp.or IntKind.u64 (m : Int) 4503599627370496 = ((m + 4503599627370496 : Nat) : Int) := by
  have := bits_or_u64_nat m 4503599627370496 (by omega) (by omega)
  have h2 : m ||| 4503599627370496 = m + 4503599627370496 := by
    have := Nat.two_pow_add_eq_or_of_lt (i := 52) hm 1
    rw [Nat.or_comm, Nat.add_comm]
    simpa using this.symm
  rw [h2] at this
  exact this

theorem below_putRow (w : World) (B blk off : Nat) (d : Array UInt8) : B ≤ blk → Below B w (putRow encB w blk off d) := fun hB =>
  ⟨rfl, rfl, rfl, by simp, fun k hk => by
    unfold putRow mapBlock
    simp only [Array.getElem?_modify]
    rw [if_neg (by omega)]⟩

set_option maxRecDepth 100000 in
set_option maxHeartbeats 1000000 in
theorem ftoa_nor (base : Nat) (b xf mt mant s M : Nat) (E : Int) (v : Value) (w : World) (hg : Glob w) (hrow : Row base (fun _ => False) w w v []) (hbl : b < 9223372036854775808)
    (hxf : b / 4503599627370496 = xf) (hmt : b % 4503599627370496 = mt) (hx1 : 1 ≤ xf) (hx2 : xf ≤ 2046) (hma : mt + 4503599627370496 = mant) (hsl : Lib.bitLen mant ≤ 64) (hs : 64 - Lib.bitLen mant = s) (hM : mant * 2 ^ s = M)
    (hM1 : 9223372036854775808 ≤ M) (hM2 : M < 18446744073709551616) (hE : (xf : Int) + -1023 - (s : Int) - 52 = E) (hE1 : -1137 ≤ E) (hE2 : E ≤ 1000) (h0 : M % 2 ^ zN E = 0) :
    Calls Tryz.prog 176 #[v, .float .f64 b, .int .u8 101, .int .i64 (-1)] w (EPost base (fun _ => False) w (dpB (shortN M E).1 (shortN M E).2)) := by
  skip
  have hneg : ((b : Int) / 9223372036854775808 != 0) = false := by simp; omega
  have hand := bits_and_2047 b xf hbl hxf (by omega)
  have hand2 := bits_and_frac b hbl
  rw [hmt] at hand2
  have hor := bits_or_top mt (by omega)
  rw [hma] at hor
  have he1 : ((xf : Int) == 2047) = false := by simp; omega
  have he2 : ((xf : Int) == 0) = false := by simp; omega
  have he3 : ((mant : Int) == 0) = false := by simp; omega
  have he4 : (mant == 0) = false := by simp; omega
  have he5 : ¬ mant = 0 := by omega
  have hb0 : Lib.bitLen (mant : Int).toNat = Lib.bitLen mant := by simp
  have hs' : (64 : Int) - (Lib.bitLen mant : Int) = (s : Int) := by omega
  have hsh : IntKind.u64.wrap ((mant : Int) * 2 ^ s) = (M : Int) := by
    rw [show ((mant : Int) * 2 ^ s) = ((mant * 2 ^ s : Nat) : Int) from by push_cast; rfl, hM, IntKind.wrap_u64]; omega
  have HLEN := Lib.hid (fun (W : World) => Tryz.bits_Len64 (mant : Int) W (by omega) (by omega))
  have hfb := run_sbits b
  obtain ⟨hd1, hd2, hp1, hp2⟩ := short_bounds M E hM1 hM2 h0 hE1 hE2
  have HSH := Lib.hid (fun (W : World) (h : Glob W) => short_any M E W h hM1 hM2 h0 hE1 hE2)
  generalize shortN M E = dp at *
  obtain ⟨d, p⟩ := dp
  simp only at hd1 hd2 hp1 hp2 HSH ⊢
  obtain ⟨x0, xs, hsig⟩ := sig_head d hd1
  have hnd := nDigits_le d hd1 (by omega)
  have hnd1 := nDigits_pos d
  obtain ⟨kk, hkk, htk⟩ := sig_take d
  have hld := decDigits_length d
  have hxl : xs.length ≤ 19 := by
    have := congrArg List.length htk
    rw [hsig, List.length_cons, List.length_take] at this
    omega
  have HDP : Hid (dpB d p = x0 :: ((if 0 < xs.length then 46 :: xs else []) ++ 101 :: expB ((nDigits d : Nat) + p - 1))) := Lib.hid (by unfold dpB; rw [hsig])
  have HSIG := Lib.hid hsig
  obtain ⟨X, hX'⟩ : ∃ X : Int, X = ((nDigits d : Nat) : Int) + p - 1 := ⟨_, rfl⟩
  have hX : ((nDigits d : Nat) : Int) + p = X + 1 := by omega
  rw [← hX'] at HDP
  have hX1 : -399 < X ∧ X < 399 := by omega
  clear hX'
  have HTK := Lib.hid htk
  have HLD := Lib.hid hld
  have HROW := Lib.hid hrow
  have HG := Lib.hid hg
  generalize dpB d p = RES at *
  clear hxf hmt hma hM hs hrow hg hsig htk hld hkk h0
  go_enter Tryz.func176, Tryz.ntmps176
  go_wp2_with fail
  go_quiet (fail)
  go_wp2_with fail
  skip
  refine (HLEN.out _).mono ?_
  rintro e w1 ⟨rfl, rfl⟩
  rw [hb0]
  go_wp2_with fail
  have hbw : Below w.heap.size w ((w.drewN nq).alloc (.cells #[.int .u8 0, .int .u8 0, .int .u8 0, .int .u8 0, .int .u8 0, .int .u8 0, .int .u8 0, .int .u8 0, .int .u8 0, .int .u8 0, .int .u8 0, .int .u8 0, .int .u8 0, .int .u8 0, .int .u8 0, .int .u8 0, .int .u8 0, .int .u8 0, .int .u8 0, .int .u8 0, .int .u8 0, .int .u8 0, .int .u8 0, .int .u8 0, .int .u8 0, .int .u8 0, .int .u8 0, .int .u8 0, .int .u8 0, .int .u8 0, .int .u8 0, .int .u8 0] 215)) := (bDrewN (Below.refl _ _) nq).alloc (Nat.le_refl _) _
  have hbuf : ((w.drewN nq).alloc (.cells #[.int .u8 0, .int .u8 0, .int .u8 0, .int .u8 0, .int .u8 0, .int .u8 0, .int .u8 0, .int .u8 0, .int .u8 0, .int .u8 0, .int .u8 0, .int .u8 0, .int .u8 0, .int .u8 0, .int .u8 0, .int .u8 0, .int .u8 0, .int .u8 0, .int .u8 0, .int .u8 0, .int .u8 0, .int .u8 0, .int .u8 0, .int .u8 0, .int .u8 0, .int .u8 0, .int .u8 0, .int .u8 0, .int .u8 0, .int .u8 0, .int .u8 0, .int .u8 0] 215)).heap[w.heap.size]? = some (.cells z32 215 (0, 0)) := heap_alloc_new (w.drewN nq) _
  have hsz : ((w.drewN nq).alloc (.cells #[.int .u8 0, .int .u8 0, .int .u8 0, .int .u8 0, .int .u8 0, .int .u8 0, .int .u8 0, .int .u8 0, .int .u8 0, .int .u8 0, .int .u8 0, .int .u8 0, .int .u8 0, .int .u8 0, .int .u8 0, .int .u8 0, .int .u8 0, .int .u8 0, .int .u8 0, .int .u8 0, .int .u8 0, .int .u8 0, .int .u8 0, .int .u8 0, .int .u8 0, .int .u8 0, .int .u8 0, .int .u8 0, .int .u8 0, .int .u8 0, .int .u8 0, .int .u8 0] 215)).heap.size = w.heap.size + 1 := by simp
  generalize (w.drewN nq).alloc (.cells #[.int .u8 0, .int .u8 0, .int .u8 0, .int .u8 0, .int .u8 0, .int .u8 0, .int .u8 0, .int .u8 0, .int .u8 0, .int .u8 0, .int .u8 0, .int .u8 0, .int .u8 0, .int .u8 0, .int .u8 0, .int .u8 0, .int .u8 0, .int .u8 0, .int .u8 0, .int .u8 0, .int .u8 0, .int .u8 0, .int .u8 0, .int .u8 0, .int .u8 0, .int .u8 0, .int .u8 0, .int .u8 0, .int .u8 0, .int .u8 0, .int .u8 0, .int .u8 0] 215) = W1 at *
  refine (HSH.out W1 (HG.out.below HG.out.lt hbw)).mono ?_
  rintro e w2 ⟨rfl, hb2⟩
  have hbw2 := hbw.trans (hb2.mono (by omega))
  have hbuf2 := (hb2.block w.heap.size (by omega)).trans hbuf
  have hsz2 := hb2.size
  have HB2 := Lib.hid hbuf2
  have HBW2 := Lib.hid hbw2
  clear hbw hbuf hb2 hbuf2 hbw2
  go_wp2_with fail
  have hH : Holds encB w2.drew w.heap.size 0 (Array.replicate (nDigits d) (0 : UInt8)) := fun j hj => by
    rw [Array.size_replicate] at hj
    rw [Nat.zero_add]
    have hq : w2.drew.heap[w.heap.size]? = some (.cells z32 215 (0, 0)) := HB2.out
    refine ⟨?_, by simp [World.frozen?, hq]⟩
    rw [cell_of_row w2.drew w.heap.size j _ _ _ hq, z32_at j (by omega), getElem!_pos _ j (by simpa using hj)]
    simp [encB]
  have hst := setDigits_any w.heap.size d 32 p w2.drew (by show _ < w2.heap.size; omega) hd1 (by omega) (by omega) (by omega) hnd (by omega) (by omega) hH
  rw [hX, HSIG.out, List.length_cons, show ((xs.length + 1 : Nat) : Int) = (xs.length : Int) + 1 from by push_cast; rfl] at hst
  have HST := Lib.hid hst
  clear hst
  clear hH
  have HND := Lib.hid (Tryz.internal_strconv_numDigits d hd1 (by omega) w2.drew (HG.out.below HG.out.lt HBW2.out.drew).u10)
  go_region_held (fun _ => True)
    (first | trivial)
    (first
      | (go_at_call 93; refine HND.out.mono ?_; rintro e w' ⟨rfl, rfl⟩)
      | (go_at_call 212; refine HST.out.mono ?_; rintro e w4 ⟨rfl, n4, v4, dk, hw4', hfm'⟩; have HW4 := Lib.hid hw4'; have HFM := Lib.hid hfm'; clear hw4' hfm'))
  have hmx : max (xs.length : Int) 0 = (xs.length : Int) := by omega
  have hmx2 : max ((xs.length : Int) + 1 - 1) 0 = (xs.length : Int) := by omega
  go_wp2_with fail
  have hw4 := HW4.out
  have hfm := HFM.out
  have hbw4 : Below w.heap.size w w4 := by
    rw [hw4]
    refine bDrewN ?_ n4
    exact HBW2.out.drew.trans (below_putRow _ _ _ _ _ (Nat.le_refl _))
  have hcell4 : ∀ j u, (x0 :: xs)[j]? = some u → w4.cell? ⟨w.heap.size, j, Option.none⟩ = some (encB u) := fun j u hu => by
    have hj : j < (x0 :: xs).length := (List.getElem?_eq_some_iff.1 hu).1
    rw [← HSIG.out, HTK.out] at hu
    rw [List.getElem?_take] at hu
    split at hu
    · have hj2 : j < (decDigits d).length := (List.getElem?_eq_some_iff.1 hu).1
      have hj3 : j < nDigits d := by have := HLD.out; omega
      have e1 := row_is_numeral hfm j hj2
      rw [List.getElem?_eq_getElem hj2, e1] at hu
      obtain rfl := Option.some.inj hu
      have hH0 : Holds encB w2.drew w.heap.size 0 (Array.replicate (nDigits d) (0 : UInt8)) := fun j hj => by
        rw [Array.size_replicate] at hj
        rw [Nat.zero_add]
        have hq : w2.drew.heap[w.heap.size]? = some (.cells z32 215 (0, 0)) := HB2.out
        refine ⟨?_, by simp [World.frozen?, hq]⟩
        rw [cell_of_row w2.drew w.heap.size j _ _ _ hq, z32_at j (by omega), getElem!_pos _ j (by simpa using hj)]
        simp [encB]
      have := cell?_putRow encB w2.drew w.heap.size 0 _ dk hH0 (by rw [hfm.size, Array.size_replicate]) j (by rw [hfm.size]; exact hj3)
      rw [Nat.zero_add] at this
      rw [hw4]
      exact this
    · cases hu
  have hrow4 : Row base (fun k => k = w.heap.size) w4 w4 v [] := by
    have hr := HROW.out
    have hg := hr.go hbw4
    refine ⟨hg.own, fun k hk e => ?_, fun _ _ => rfl, fun k hk => ?_, Below.refl _ _, Nat.le_trans hr.ble hbw4.size⟩
    · subst hk
      have := (hr.own.lt _ e).2
      omega
    · subst hk
      have := hbw4.size
      have hz : w4.heap.size = w2.heap.size := by rw [hw4]; simp
      omega
  have HFE := Lib.hid (fmtE_any base w.heap.size (fun k => k = w.heap.size) x0 xs X v 32 w4 w4 hrow4 rfl (by omega) (by omega) (by omega) (by omega) (by omega) hcell4)
  have HBW4 := Lib.hid hbw4
  clear hw4 hfm hcell4 hrow4 hbw4
  refine HFE.out.mono ?_
  rintro e w5 ⟨v5, rfl, hr5⟩
  have HR5 := Lib.hid hr5
  clear hr5
  go_wp2_with fail
  go_ret
  have hr := HROW.out
  rw [HDP.out]
  exact ⟨v5, rfl, HR5.out.own, fun _ h => h.elim, fun _ h => h.elim, fun _ h => h.elim, (HBW4.out.mono hr.ble).trans HR5.out.below, hr.ble⟩

set_option maxRecDepth 100000 in
set_option maxHeartbeats 1000000 in
theorem ftoa_sub (base : Nat) (b mant s M : Nat) (E : Int) (v : Value) (w : World) (hg : Glob w) (hrow : Row base (fun _ => False) w w v []) (hbl : b < 9223372036854775808)
    (hma : b = mant) (hb1 : 1 ≤ mant) (hb2 : mant < 4503599627370496) (hsl : Lib.bitLen mant ≤ 64) (hs : 64 - Lib.bitLen mant = s) (hM : mant * 2 ^ s = M)
    (hM1 : 9223372036854775808 ≤ M) (hM2 : M < 18446744073709551616) (hE : -1022 - (s : Int) - 52 = E) (hE1 : -1137 ≤ E) (hE2 : E ≤ 1000) (h0 : M % 2 ^ zN E = 0) :
    Calls Tryz.prog 176 #[v, .float .f64 b, .int .u8 101, .int .i64 (-1)] w (EPost base (fun _ => False) w (dpB (shortN M E).1 (shortN M E).2)) := by
  subst hma
  have hneg : ((b : Int) / 9223372036854775808 != 0) = false := by simp; omega
  have hand : bits BinOp.and IntKind.i64 ((b : Int) / 4503599627370496) 2047 = 0 := bits_and_2047 b 0 hbl (by omega) (by omega)
  have hand2 := bits_and_frac b hbl
  rw [Nat.mod_eq_of_lt (by omega)] at hand2
  skip
  skip
  skip
  skip
  have he3 : ((b : Int) == 0) = false := by simp; omega
  have he4 : (b == 0) = false := by simp; omega
  have he5 : ¬ b = 0 := by omega
  have hb0 : Lib.bitLen (b : Int).toNat = Lib.bitLen b := by simp
  have hs' : (64 : Int) - (Lib.bitLen b : Int) = (s : Int) := by omega
  have hsh : IntKind.u64.wrap ((b : Int) * 2 ^ s) = (M : Int) := by
    rw [show ((b : Int) * 2 ^ s) = ((b * 2 ^ s : Nat) : Int) from by push_cast; rfl, hM, IntKind.wrap_u64]; omega
  have HLEN := Lib.hid (fun (W : World) => Tryz.bits_Len64 (b : Int) W (by omega) (by omega))
  have hfb := run_sbits b
  obtain ⟨hd1, hd2, hp1, hp2⟩ := short_bounds M E hM1 hM2 h0 hE1 hE2
  have HSH := Lib.hid (fun (W : World) (h : Glob W) => short_any M E W h hM1 hM2 h0 hE1 hE2)
  generalize shortN M E = dp at *
  obtain ⟨d, p⟩ := dp
  simp only at hd1 hd2 hp1 hp2 HSH ⊢
  obtain ⟨x0, xs, hsig⟩ := sig_head d hd1
  have hnd := nDigits_le d hd1 (by omega)
  have hnd1 := nDigits_pos d
  obtain ⟨kk, hkk, htk⟩ := sig_take d
  have hld := decDigits_length d
  have hxl : xs.length ≤ 19 := by
    have := congrArg List.length htk
    rw [hsig, List.length_cons, List.length_take] at this
    omega
  have HDP : Hid (dpB d p = x0 :: ((if 0 < xs.length then 46 :: xs else []) ++ 101 :: expB ((nDigits d : Nat) + p - 1))) := Lib.hid (by unfold dpB; rw [hsig])
  have HSIG := Lib.hid hsig
  obtain ⟨X, hX'⟩ : ∃ X : Int, X = ((nDigits d : Nat) : Int) + p - 1 := ⟨_, rfl⟩
  have hX : ((nDigits d : Nat) : Int) + p = X + 1 := by omega
  rw [← hX'] at HDP
  have hX1 : -399 < X ∧ X < 399 := by omega
  clear hX'
  have HTK := Lib.hid htk
  have HLD := Lib.hid hld
  have HROW := Lib.hid hrow
  have HG := Lib.hid hg
  generalize dpB d p = RES at *
  clear hM hs hrow hg hsig htk hld hkk h0
  go_enter Tryz.func176, Tryz.ntmps176
  go_wp2_with fail
  go_quiet (fail)
  go_wp2_with fail
  skip
  refine (HLEN.out _).mono ?_
  rintro e w1 ⟨rfl, rfl⟩
  rw [hb0]
  go_wp2_with fail
  have hbw : Below w.heap.size w ((w.drewN nq).alloc (.cells #[.int .u8 0, .int .u8 0, .int .u8 0, .int .u8 0, .int .u8 0, .int .u8 0, .int .u8 0, .int .u8 0, .int .u8 0, .int .u8 0, .int .u8 0, .int .u8 0, .int .u8 0, .int .u8 0, .int .u8 0, .int .u8 0, .int .u8 0, .int .u8 0, .int .u8 0, .int .u8 0, .int .u8 0, .int .u8 0, .int .u8 0, .int .u8 0, .int .u8 0, .int .u8 0, .int .u8 0, .int .u8 0, .int .u8 0, .int .u8 0, .int .u8 0, .int .u8 0] 215)) := (bDrewN (Below.refl _ _) nq).alloc (Nat.le_refl _) _
  have hbuf : ((w.drewN nq).alloc (.cells #[.int .u8 0, .int .u8 0, .int .u8 0, .int .u8 0, .int .u8 0, .int .u8 0, .int .u8 0, .int .u8 0, .int .u8 0, .int .u8 0, .int .u8 0, .int .u8 0, .int .u8 0, .int .u8 0, .int .u8 0, .int .u8 0, .int .u8 0, .int .u8 0, .int .u8 0, .int .u8 0, .int .u8 0, .int .u8 0, .int .u8 0, .int .u8 0, .int .u8 0, .int .u8 0, .int .u8 0, .int .u8 0, .int .u8 0, .int .u8 0, .int .u8 0, .int .u8 0] 215)).heap[w.heap.size]? = some (.cells z32 215 (0, 0)) := heap_alloc_new (w.drewN nq) _
  have hsz : ((w.drewN nq).alloc (.cells #[.int .u8 0, .int .u8 0, .int .u8 0, .int .u8 0, .int .u8 0, .int .u8 0, .int .u8 0, .int .u8 0, .int .u8 0, .int .u8 0, .int .u8 0, .int .u8 0, .int .u8 0, .int .u8 0, .int .u8 0, .int .u8 0, .int .u8 0, .int .u8 0, .int .u8 0, .int .u8 0, .int .u8 0, .int .u8 0, .int .u8 0, .int .u8 0, .int .u8 0, .int .u8 0, .int .u8 0, .int .u8 0, .int .u8 0, .int .u8 0, .int .u8 0, .int .u8 0] 215)).heap.size = w.heap.size + 1 := by simp
  generalize (w.drewN nq).alloc (.cells #[.int .u8 0, .int .u8 0, .int .u8 0, .int .u8 0, .int .u8 0, .int .u8 0, .int .u8 0, .int .u8 0, .int .u8 0, .int .u8 0, .int .u8 0, .int .u8 0, .int .u8 0, .int .u8 0, .int .u8 0, .int .u8 0, .int .u8 0, .int .u8 0, .int .u8 0, .int .u8 0, .int .u8 0, .int .u8 0, .int .u8 0, .int .u8 0, .int .u8 0, .int .u8 0, .int .u8 0, .int .u8 0, .int .u8 0, .int .u8 0, .int .u8 0, .int .u8 0] 215) = W1 at *
  refine (HSH.out W1 (HG.out.below HG.out.lt hbw)).mono ?_
  rintro e w2 ⟨rfl, hb2⟩
  have hbw2 := hbw.trans (hb2.mono (by omega))
  have hbuf2 := (hb2.block w.heap.size (by omega)).trans hbuf
  have hsz2 := hb2.size
  have HB2 := Lib.hid hbuf2
  have HBW2 := Lib.hid hbw2
  clear hbw hbuf hb2 hbuf2 hbw2
  go_wp2_with fail
  have hH : Holds encB w2.drew w.heap.size 0 (Array.replicate (nDigits d) (0 : UInt8)) := fun j hj => by
    rw [Array.size_replicate] at hj
    rw [Nat.zero_add]
    have hq : w2.drew.heap[w.heap.size]? = some (.cells z32 215 (0, 0)) := HB2.out
    refine ⟨?_, by simp [World.frozen?, hq]⟩
    rw [cell_of_row w2.drew w.heap.size j _ _ _ hq, z32_at j (by omega), getElem!_pos _ j (by simpa using hj)]
    simp [encB]
  have hst := setDigits_any w.heap.size d 32 p w2.drew (by show _ < w2.heap.size; omega) hd1 (by omega) (by omega) (by omega) hnd (by omega) (by omega) hH
  rw [hX, HSIG.out, List.length_cons, show ((xs.length + 1 : Nat) : Int) = (xs.length : Int) + 1 from by push_cast; rfl] at hst
  have HST := Lib.hid hst
  clear hst
  clear hH
  have HND := Lib.hid (Tryz.internal_strconv_numDigits d hd1 (by omega) w2.drew (HG.out.below HG.out.lt HBW2.out.drew).u10)
  go_region_held (fun _ => True)
    (first | trivial)
    (first
      | (go_at_call 93; refine HND.out.mono ?_; rintro e w' ⟨rfl, rfl⟩)
      | (go_at_call 212; refine HST.out.mono ?_; rintro e w4 ⟨rfl, n4, v4, dk, hw4', hfm'⟩; have HW4 := Lib.hid hw4'; have HFM := Lib.hid hfm'; clear hw4' hfm'))
  have hmx : max (xs.length : Int) 0 = (xs.length : Int) := by omega
  have hmx2 : max ((xs.length : Int) + 1 - 1) 0 = (xs.length : Int) := by omega
  go_wp2_with fail
  have hw4 := HW4.out
  have hfm := HFM.out
  have hbw4 : Below w.heap.size w w4 := by
    rw [hw4]
    refine bDrewN ?_ n4
    exact HBW2.out.drew.trans (below_putRow _ _ _ _ _ (Nat.le_refl _))
  have hcell4 : ∀ j u, (x0 :: xs)[j]? = some u → w4.cell? ⟨w.heap.size, j, Option.none⟩ = some (encB u) := fun j u hu => by
    have hj : j < (x0 :: xs).length := (List.getElem?_eq_some_iff.1 hu).1
    rw [← HSIG.out, HTK.out] at hu
    rw [List.getElem?_take] at hu
    split at hu
    · have hj2 : j < (decDigits d).length := (List.getElem?_eq_some_iff.1 hu).1
      have hj3 : j < nDigits d := by have := HLD.out; omega
      have e1 := row_is_numeral hfm j hj2
      rw [List.getElem?_eq_getElem hj2, e1] at hu
      obtain rfl := Option.some.inj hu
      have hH0 : Holds encB w2.drew w.heap.size 0 (Array.replicate (nDigits d) (0 : UInt8)) := fun j hj => by
        rw [Array.size_replicate] at hj
        rw [Nat.zero_add]
        have hq : w2.drew.heap[w.heap.size]? = some (.cells z32 215 (0, 0)) := HB2.out
        refine ⟨?_, by simp [World.frozen?, hq]⟩
        rw [cell_of_row w2.drew w.heap.size j _ _ _ hq, z32_at j (by omega), getElem!_pos _ j (by simpa using hj)]
        simp [encB]
      have := cell?_putRow encB w2.drew w.heap.size 0 _ dk hH0 (by rw [hfm.size, Array.size_replicate]) j (by rw [hfm.size]; exact hj3)
      rw [Nat.zero_add] at this
      rw [hw4]
      exact this
    · cases hu
  have hrow4 : Row base (fun k => k = w.heap.size) w4 w4 v [] := by
    have hr := HROW.out
    have hg := hr.go hbw4
    refine ⟨hg.own, fun k hk e => ?_, fun _ _ => rfl, fun k hk => ?_, Below.refl _ _, Nat.le_trans hr.ble hbw4.size⟩
    · subst hk
      have := (hr.own.lt _ e).2
      omega
    · subst hk
      have := hbw4.size
      have hz : w4.heap.size = w2.heap.size := by rw [hw4]; simp
      omega
  have HFE := Lib.hid (fmtE_any base w.heap.size (fun k => k = w.heap.size) x0 xs X v 32 w4 w4 hrow4 rfl (by omega) (by omega) (by omega) (by omega) (by omega) hcell4)
  have HBW4 := Lib.hid hbw4
  clear hw4 hfm hcell4 hrow4 hbw4
  refine HFE.out.mono ?_
  rintro e w5 ⟨v5, rfl, hr5⟩
  have HR5 := Lib.hid hr5
  clear hr5
  go_wp2_with fail
  go_ret
  have hr := HROW.out
  rw [HDP.out]
  exact ⟨v5, rfl, HR5.out.own, fun _ h => h.elim, fun _ h => h.elim, fun _ h => h.elim, (HBW4.out.mono hr.ble).trans HR5.out.below, hr.ble⟩
end Go.Proofs.YtckaoeloofbklaaGreatDoor

/- The shortest text of a number, as the library has it: FormatFloat. -/
namespace Go.Proofs.YtckaoeloofbklaaGreatDoor
open Go Go.RowKit Go.Sort Go.Lib

def mtN (b : Nat) : Nat := if b < 4503599627370496 then b else b % 4503599627370496 + 4503599627370496
def sN (b : Nat) : Nat := 64 - Lib.bitLen (mtN b)
def MN (b : Nat) : Nat := mtN b * 2 ^ sN b
def EN (b : Nat) : Int := (if b < 4503599627370496 then -1022 else ((b / 4503599627370496 : Nat) : Int) + -1023) - (sN b : Int) - 52
def fmtB (b : Nat) : List UInt8 := dpB (shortN (MN b) (EN b)).1 (shortN (MN b) (EN b)).2

theorem bitLen_bounds (x : Nat) (h1 : 1 ≤ x) (h2 : x < 18446744073709551616) : 1 ≤ Lib.bitLen x ∧ 2 ^ (Lib.bitLen x - 1) ≤ x ∧ x < 2 ^ Lib.bitLen x := Lib.bitLenAux_bounds 64 x h2 (by omega)

theorem bitLen_le (x k : Nat) (h1 : 1 ≤ x) (h2 : x < 18446744073709551616) (h : x < 2 ^ k) : Lib.bitLen x ≤ k := by
  obtain ⟨b1, b2, _⟩ := bitLen_bounds x h1 h2
  have h3 := Nat.lt_of_le_of_lt b2 h
  have := (Nat.pow_lt_pow_iff_right (by decide)).1 h3
  omega
theorem bitLen_gt (x k : Nat) (h1 : 1 ≤ x) (h2 : x < 18446744073709551616) (h : 2 ^ k ≤ x) : k < Lib.bitLen x := by
  obtain ⟨_, _, b3⟩ := bitLen_bounds x h1 h2
  have h3 := Nat.lt_of_le_of_lt h b3
  exact (Nat.pow_lt_pow_iff_right (by decide)).1 h3

/-- a number whose highest bit is the 64th -/
theorem norm_bounds (x : Nat) (h1 : 1 ≤ x) (h2 : x < 18446744073709551616) : 9223372036854775808 ≤ x * 2 ^ (64 - Lib.bitLen x) ∧ x * 2 ^ (64 - Lib.bitLen x) < 18446744073709551616 := by
  obtain ⟨b1, b2, b3⟩ := bitLen_bounds x h1 h2
  have b4 := bitLen_le x 64 h1 h2 h2
  have e1 : 2 ^ (Lib.bitLen x - 1) * 2 ^ (64 - Lib.bitLen x) = 2 ^ 63 := by rw [← Nat.pow_add]; congr 1; omega
  have e2 : 2 ^ Lib.bitLen x * 2 ^ (64 - Lib.bitLen x) = 2 ^ 64 := by rw [← Nat.pow_add]; congr 1; omega
  constructor
  · have := Nat.mul_le_mul_right (2 ^ (64 - Lib.bitLen x)) b2
    rw [e1] at this
    exact this
  · have := (Nat.mul_lt_mul_right (Nat.two_pow_pos (64 - Lib.bitLen x))).2 b3
    rw [e2] at this
    exact this

theorem ftoa_any (base b : Nat) (v : Value) (w : World) (hg : Glob w) (hrow : Row base (fun _ => False) w w v []) (hb1 : 0 < b) (hb2 : b < 9218868437227405312) :
    Calls Tryz.prog 176 #[v, .float .f64 b, .int .u8 101, .int .i64 (-1)] w (EPost base (fun _ => False) w (fmtB b)) := by
  unfold fmtB
  by_cases hs : b < 4503599627370496
  · have hm : mtN b = b := by unfold mtN; rw [if_pos hs]
    have hL := bitLen_le b 52 hb1 (by omega) hs
    obtain ⟨hM1, hM2⟩ := norm_bounds b hb1 (by omega)
    obtain ⟨hL1, _, _⟩ := bitLen_bounds b hb1 (by omega)
    have hE : EN b = -1074 - ((64 - Lib.bitLen b : Nat) : Int) := by unfold EN sN; rw [if_pos hs, hm]; omega
    have hz : zN (EN b) = 64 - Lib.bitLen b := by unfold zN; rw [hE, if_neg (by omega)]; omega
    have hM : b * 2 ^ (64 - Lib.bitLen b) = MN b := by unfold MN sN; rw [hm]
    rw [hM] at hM1 hM2
    exact ftoa_sub base b b (64 - Lib.bitLen b) (MN b) (EN b) v w hg hrow (by omega) rfl hb1 hs (by omega) rfl hM hM1 hM2 (by rw [hE]; omega) (by omega) (by omega) (by rw [hz, ← hM]; exact Nat.mul_mod_left _ _)
  · have hm : mtN b = b % 4503599627370496 + 4503599627370496 := by unfold mtN; rw [if_neg hs]
    have hr := Nat.mod_lt b (show 0 < 4503599627370496 by decide)
    have hL1 := bitLen_le (b % 4503599627370496 + 4503599627370496) 53 (by omega) (by omega) (by omega)
    have hL2 := bitLen_gt (b % 4503599627370496 + 4503599627370496) 52 (by omega) (by omega) (by omega)
    obtain ⟨hM1, hM2⟩ := norm_bounds (b % 4503599627370496 + 4503599627370496) (by omega) (by omega)
    have hL : Lib.bitLen (b % 4503599627370496 + 4503599627370496) = 53 := by omega
    have hM : (b % 4503599627370496 + 4503599627370496) * 2 ^ (64 - Lib.bitLen (b % 4503599627370496 + 4503599627370496)) = MN b := by unfold MN sN; rw [hm]
    rw [hM] at hM1 hM2
    have hE : EN b = ((b / 4503599627370496 : Nat) : Int) - 1086 := by unfold EN sN; rw [if_neg hs, hm, hL]; omega
    have hz : zN (EN b) = 11 := by unfold zN; rw [hE, if_pos (by omega)]
    exact ftoa_nor base b _ _ _ 11 (MN b) (EN b) v w hg hrow (by omega) rfl rfl (by omega) (by omega) rfl (by omega) (by rw [hL]) (by rw [← hM, hL]) hM1 hM2 (by rw [hE]; omega) (by omega) (by omega) (by rw [hz, ← hM, hL]; exact Nat.mul_mod_left _ _)
end Go.Proofs.YtckaoeloofbklaaGreatDoor

/- pack64. -/
namespace Go.Proofs.YtckaoeloofbklaaGreatDoor
open Go Go.RowKit

theorem and52_low (m : Nat) (h : m < 4503599627370496) : m &&& 4503599627370496 = 0 := by
  refine Nat.eq_of_testBit_eq fun i => ?_
  rw [Nat.testBit_and, show (4503599627370496 : Nat) = 2 ^ 52 from by decide, Nat.testBit_two_pow, Nat.zero_testBit]
  by_cases hi : 52 = i
  · subst hi; rw [Nat.testBit_lt_two_pow (by exact h)]; rfl
  · rw [decide_eq_false hi, Bool.and_false]
theorem and63_low (m : Nat) (h : m < 9223372036854775808) : m &&& 9223372036854775808 = 0 := by
  refine Nat.eq_of_testBit_eq fun i => ?_
  rw [Nat.testBit_and, show (9223372036854775808 : Nat) = 2 ^ 63 from by decide, Nat.testBit_two_pow, Nat.zero_testBit]
  by_cases hi : 63 = i
  · subst hi; rw [Nat.testBit_lt_two_pow (by exact h)]; rfl
  · rw [decide_eq_false hi, Bool.and_false]
theorem pack_low (m : Nat) (e : Int) (w : World) (hm : m < 4503599627370496) :
    Calls Tryz.prog 268 #[.int .u64 m, .int .i64 e] w fun e' w' => e' = .returned (.tuple #[.float .f64 m, .nilIface]) ∧ w' = w := by
  have hb := run_sfrom m
  have ha : bits .and .u64 (m : Int) 4503599627370496 = 0 := by
    have h := u64_and_nat m 4503599627370496 (by omega) (by decide)
    rw [show ((4503599627370496 : Nat) : Int) = 4503599627370496 from rfl] at h
    rw [h, and52_low m hm]; rfl
  go_enter Tryz.func268, Tryz.ntmps268
  go_wp2_with fail
  refine bodyPost_ret (v := .tuple #[.float .f64 m, .nilIface]) (by simp [results, Tryz.results268, go_sem]) rfl ⟨rfl, rfl⟩

theorem and52_high (m : Nat) (h : m < 9007199254740992) (h2 : 4503599627370496 ≤ m) : m &&& 4503599627370496 = 4503599627370496 := by
  refine Nat.eq_of_testBit_eq fun i => ?_
  rw [Nat.testBit_and, show (4503599627370496 : Nat) = 2 ^ 52 from by decide, Nat.testBit_two_pow]
  by_cases hi : 52 = i
  · subst hi
    rw [decide_eq_true rfl, Bool.and_true, Nat.testBit_eq_decide_div_mod_eq, decide_eq_true_eq]
    have : m / 2 ^ 52 = 1 := Nat.div_eq_of_lt_le (by omega) (by omega)
    rw [this]
  · rw [decide_eq_false hi, Bool.and_false]

set_option maxRecDepth 100000 in
set_option maxHeartbeats 1000000 in
theorem pack_inf (m : Nat) (e : Int) (w : World) (hm : m < 9007199254740992) (hm2 : 4503599627370496 ≤ m) (he : 972 ≤ e) (_he2 : e ≤ 5000) :
    Calls Tryz.prog 268 #[.int .u64 m, .int .i64 e] w fun e' w' => e' = .returned (.tuple #[.float .f64 9218868437227405312, .iface 174 (.int .i64 1)]) ∧ w' = w := by
  have hb : ∀ W : World, (callFunc 257 #[.int .u64 9218868437227405312]).run Tryz.prog W = .ok (.value (.float .f64 9218868437227405312)) W := run_sfrom 9218868437227405312
  have ha : bits .and .u64 (m : Int) 4503599627370496 = 4503599627370496 := by
    have h := u64_and_nat m 4503599627370496 (by omega) (by decide)
    rw [show ((4503599627370496 : Nat) : Int) = 4503599627370496 from rfl] at h
    rw [h, and52_high m hm hm2]; rfl
  have ha2 : bits .and .u64 (m : Int) 9223372036854775808 = 0 := by
    have h := u64_and_nat m 9223372036854775808 (by omega) (by decide)
    rw [show ((9223372036854775808 : Nat) : Int) = 9223372036854775808 from rfl] at h
    rw [h, and63_low m (by omega)]; rfl
  have ho : bits .or .u64 0 9218868437227405312 = 9218868437227405312 := by decide +kernel
  go_enter Tryz.func268, Tryz.ntmps268
  go_wp2_with fail
  refine bodyPost_ret (v := .tuple #[.float .f64 9218868437227405312, .iface 174 (.int .i64 1)]) (by simp [results, Tryz.results268, go_sem]) rfl ⟨rfl, rfl⟩

theorem or_parts (f k : Nat) (hf : f < 4503599627370496) : f ||| (k * 4503599627370496) = k * 4503599627370496 + f := by
  rw [Nat.or_comm, show (4503599627370496 : Nat) = 2 ^ 52 from by decide, Nat.mul_comm k]
  exact (Nat.two_pow_add_eq_or_of_lt (by exact hf) k).symm

theorem not52 (m : Nat) (h : m < 9007199254740992) (h2 : 4503599627370496 ≤ m) : m &&& (18446744073709551615 - 4503599627370496) = m - 4503599627370496 := by
  have h3 : (m &&& (18446744073709551615 - 4503599627370496)) % 2 ^ 52 = m - 4503599627370496 := by
    rw [Nat.and_mod_two_pow, show (18446744073709551615 - 4503599627370496) % 2 ^ 52 = 2 ^ 52 - 1 from by decide, Nat.and_two_pow_sub_one_eq_mod]
    omega
  have h4 : (m &&& (18446744073709551615 - 4503599627370496)) / 2 ^ 52 = 0 := by
    rw [Nat.and_div_two_pow, show m / 2 ^ 52 = 1 from Nat.div_eq_of_lt_le (by omega) (by omega)]
    decide
  have h5 := Nat.div_add_mod (m &&& (18446744073709551615 - 4503599627370496)) (2 ^ 52)
  rw [h3, h4] at h5
  omega

set_option maxRecDepth 100000 in
set_option maxHeartbeats 1000000 in
theorem pack_mid (m : Nat) (k : Nat) (w : World) (hm : m < 9007199254740992) (hm2 : 4503599627370496 ≤ m) (hk1 : 1 ≤ k) (hk2 : k < 2047) :
    Calls Tryz.prog 268 #[.int .u64 m, .int .i64 ((k : Int) - 1075)] w fun e' w' => e' = .returned (.tuple #[.float .f64 (k * 4503599627370496 + (m - 4503599627370496)), .nilIface]) ∧ w' = w := by
  have hb := run_sfrom (k * 4503599627370496 + (m - 4503599627370496))
  have ha : bits .and .u64 (m : Int) 4503599627370496 = 4503599627370496 := by
    have h := u64_and_nat m 4503599627370496 (by omega) (by decide)
    rw [show ((4503599627370496 : Nat) : Int) = 4503599627370496 from rfl] at h
    rw [h, and52_high m hm hm2]; rfl
  have hn : bits .andNot .u64 (m : Int) 4503599627370496 = ((m - 4503599627370496 : Nat) : Int) := by
    have h := u64_andNot_nat m 4503599627370496 (by omega) (by decide)
    rw [show ((4503599627370496 : Nat) : Int) = 4503599627370496 from rfl] at h
    rw [h, not52 m hm hm2]
  have hk : (1075 : Int) + ((k : Int) - 1075) = k := by omega
  have ho : bits .or .u64 ((m - 4503599627370496 : Nat) : Int) ((k : Int) * 4503599627370496) = ((k * 4503599627370496 + (m - 4503599627370496) : Nat) : Int) := by
    have h := bits_or_u64_nat (m - 4503599627370496) (k * 4503599627370496) (by omega) (by omega)
    rw [or_parts _ k (by omega)] at h
    exact h
  have hlt : ((k : Int) - 1075 < 972) := by omega
  generalize k * 4503599627370496 + (m - 4503599627370496) = R at *
  generalize m - 4503599627370496 = f at *
  go_enter Tryz.func268, Tryz.ntmps268
  go_wp2_with fail
  refine bodyPost_ret (v := .tuple #[.float .f64 R, .nilIface]) (by simp [results, Tryz.results268, go_sem]) rfl ⟨rfl, rfl⟩
end Go.Proofs.YtckaoeloofbklaaGreatDoor

/- What parseFloat64 computes is the nearest float (plain). -/
namespace Go.Proofs.YtckaoeloofbklaaGreatDoor
set_option exponentiation.threshold 2000

/-- no power of ten is too near below a power of two -/
def gapOK (p : Int) : Bool := decide (AN p * 2 ^ 54 ≤ (2 ^ 54 - 1) * (2 ^ 128 * DN p))
def gapAll : Nat → Int → Bool
  | 0, _ => true
  | n + 1, p => gapOK p && gapAll n (p + 1)
theorem gapAll_get : ∀ (n : Nat) (p : Int), gapAll n p = true → ∀ k : Nat, k < n → gapOK (p + k) = true
  | 0, _, _, _, h => by omega
  | n + 1, p, h, 0, _ => by
    simp only [gapAll, Bool.and_eq_true] at h
    simpa using h.1
  | n + 1, p, h, k + 1, hk => by
    simp only [gapAll, Bool.and_eq_true] at h
    have := gapAll_get n (p + 1) h.2 k (by omega)
    rwa [show p + 1 + (k : Int) = p + ((k + 1 : Nat) : Int) from by push_cast; omega] at this
theorem gap_all : gapAll 696 (-348) = true := by decide +kernel
theorem gap_ok (p : Int) (h1 : -348 ≤ p) (h2 : p ≤ 347) : AN p * 2 ^ 54 ≤ (2 ^ 54 - 1) * (2 ^ 128 * DN p) := by
  have := gapAll_get _ _ gap_all (p + 348).toNat (by omega)
  rw [show -348 + ((p + 348).toNat : Int) = p from by omega] at this
  exact of_decide_eq_true this

theorem val_ac (d P Q t1 t2 t3 t4 t5 t6 W : Nat) (h : t1 * 4 * t2 * t3 * W = t4 * t5 * t6) : 2 * (d * P * t1) * (4 * (Q * t2 * (t3 * W))) = 2 * (Q * (d * t4 * (P * t5) * t6)) := by
  have h1 : 2 * (d * P * t1) * (4 * (Q * t2 * (t3 * W))) = 2 * d * P * Q * (t1 * 4 * t2 * t3 * W) := by ac_rfl
  have h2 : 2 * (Q * (d * t4 * (P * t5) * t6)) = 2 * d * P * Q * (t4 * t5 * t6) := by ac_rfl
  rw [h1, h2, h]
theorem val_eq (d P Q a1 a2 k s E : Nat) (h : 1204 + a2 + s = k + a1 + E) : 2 * (d * P * 2 ^ 1074) * (4 * (Q * 2 ^ a2 * (2 ^ s * 340282366920938463463374607431768211456))) = 2 * (Q * (d * 2 ^ k * (P * 2 ^ a1) * 2 ^ E)) := by
  refine val_ac d P Q _ _ _ _ _ _ _ ?_
  rw [show (4 : Nat) = 2 ^ 2 from rfl, show 340282366920938463463374607431768211456 = 2 ^ 128 from by decide, ← Nat.pow_add, ← Nat.pow_add, ← Nat.pow_add, ← Nat.pow_add, ← Nat.pow_add, ← Nat.pow_add]
  congr 1
  omega

/-- from the unrounded number to the nearest rung -/
def mOf (n G : Nat) : Nat := n / G + upG n G

theorem up_le (n G : Nat) : upG n G ≤ 1 := by unfold upG; split <;> (try split) <;> omega

theorem div_bounds (n G a b : Nat) (hG : 0 < G) (h1 : a * G ≤ n) (h2 : n < b * G) : a ≤ n / G ∧ n / G < b :=
  ⟨(Nat.le_div_iff_mul_le hG).2 h1, (Nat.div_lt_iff_lt_mul hG).2 h2⟩

/-- above halfway to 2^53 the library shifts; the rung is the same -/
theorem rung_of {X Q n G E : Nat} (hq : 0 < Q) (hG : 0 < G) (hX : X * G = 2 * (Q * (n * 2 ^ E))) (hlo : E = 0 ∨ 4503599627370496 * G ≤ n) (hhi : n < 18014398509481983 * G) :
    (2 * n < 18014398509481983 * G → mOf n G < 9007199254740992 ∧ (E = 0 ∨ 4503599627370496 ≤ mOf n G) ∧ Near X Q (min INF (E * BB + mOf n G))) ∧
    (18014398509481983 * G ≤ 2 * n → mOf n (2 * G) < 9007199254740992 ∧ 4503599627370496 ≤ mOf n (2 * G) ∧ Near X Q (min INF ((E + 1) * BB + mOf n (2 * G)))) := by
  have hdm := Nat.div_add_mod n G
  have hr := Nat.mod_lt n hG
  constructor
  · intro h
    have hlt : n < 9007199254740992 * G := by omega
    have hq2 := (Nat.div_lt_iff_lt_mul hG).2 hlt
    have hE : E = 0 ∨ 4503599627370496 ≤ n / G := hlo.imp id fun h => (Nat.le_div_iff_mul_le hG).2 h
    refine ⟨?_, hE.imp id fun h => Nat.le_trans h (Nat.le_add_right _ _), near_gap hq hG hX hq2 hE⟩
    unfold mOf
    have hu := up_le n G
    by_cases h1 : n / G = 9007199254740991
    · rw [h1] at hdm
      have : upG n G = 0 := by unfold upG; rw [if_pos (by omega)]
      omega
    · omega
  · intro h
    have hG2 : 0 < 2 * G := by omega
    have hdm2 := Nat.div_add_mod n (2 * G)
    have hr2 := Nat.mod_lt n hG2
    obtain ⟨b1, b2⟩ := div_bounds n (2 * G) 4503599627370495 9007199254740992 hG2 (by omega) (by omega)
    have hu := up_le n (2 * G)
    have hlt : mOf n (2 * G) < 9007199254740992 := by
      unfold mOf
      by_cases h1 : n / (2 * G) = 9007199254740991
      · rw [h1] at hdm2
        have : upG n (2 * G) = 0 := by unfold upG; rw [if_pos (by omega)]
        omega
      · omega
    by_cases h1 : n / (2 * G) = 4503599627370495
    · have hup : upG n (2 * G) = 1 := by
        rw [h1] at hdm2
        unfold upG; rw [if_neg (by omega), if_neg (by omega)]
      have hm : mOf n (2 * G) = 4503599627370496 := by unfold mOf; omega
      refine ⟨hlt, by omega, ?_⟩
      have hnlt : n < 9007199254740992 * G := by rw [h1] at hdm2; omega
      obtain ⟨c1, c2⟩ := div_bounds n G 9007199254740991 9007199254740992 hG (by omega) hnlt
      have h3 : n / G = 9007199254740991 := by omega
      have hn := near_gap hq hG hX (by unfold BB; omega) (.inr (by unfold BB; omega))
      have hup2 : upG n G = 1 := by
        have h4 : 2 * (n % G) ≥ G := by rw [h3] at hdm; omega
        unfold upG
        rw [if_neg (by omega)]
        split
        · rw [h3]
        · rfl
      rw [h3, hup2] at hn
      rw [hm]
      rwa [show (E + 1) * BB + 4503599627370496 = E * BB + (9007199254740991 + 1) by unfold BB; omega]
    · have hge : 4503599627370496 ≤ n / (2 * G) := by omega
      refine ⟨hlt, by unfold mOf; omega, ?_⟩
      exact near_gap hq hG2 (by rw [Nat.pow_succ, ← Nat.mul_assoc n, ← Nat.mul_assoc Q, Nat.mul_left_comm X 2 G, hX]; omega) b2 (.inr hge)

theorem third_lem (nn a dd T W : Nat) (k1 : nn < 18446744073709551616 * a) (hg : a * 2 ^ 54 ≤ (2 ^ 54 - 1) * (W * dd)) (k2 : dd * (2 ^ 8 * W) ≤ T) : nn < 18014398509481983 * (4 * T) := by
  have e : dd * (2 ^ 8 * W) = 256 * (W * dd) := by rw [show (2 : Nat) ^ 8 = 256 from rfl]; ac_rfl
  rw [e] at k2
  generalize W * dd = u at *
  omega
/-- what uscale gives for digits of 64 bits: the unrounded number, between its bounds -/
theorem parse_scale (p : Int) (h1 : -348 ≤ p) (h2 : p ≤ 347) (x hi lo s : Nat) (hx : x < 18446744073709551616) (hx2 : 9223372036854775808 ≤ x) (hlo : lo < 18446744073709551616) (hpm : pmN p + lo = hi * 18446744073709551616) (hs : 8 ≤ s) :
    uscN x hi lo (2 ^ s) = unr (x * AN p) (4 * (DN p * (2 ^ s * 340282366920938463463374607431768211456))) ∧ 0 < 4 * (DN p * (2 ^ s * 340282366920938463463374607431768211456)) ∧ x * AN p < 18014398509481983 * (4 * (DN p * (2 ^ s * 340282366920938463463374607431768211456))) ∧
    (s = 8 → 4503599627370496 * (4 * (DN p * (2 ^ s * 340282366920938463463374607431768211456))) ≤ x * AN p) := by
  have hD := DN_pos p
  obtain ⟨t1, t2⟩ := tab_bounds p h1 h2
  have hg := gap_ok p h1 h2
  obtain ⟨j, hj, hj2⟩ : ∃ j, 2 ^ s = 2 ^ 8 * j ∧ 0 < j := ⟨2 ^ (s - 8), by rw [← Nat.pow_add, show 8 + (s - 8) = s by omega], Nat.two_pow_pos _⟩
  have hG : 0 < 4 * (DN p * (2 ^ s * 340282366920938463463374607431768211456)) := Nat.mul_pos (by decide) (Nat.mul_pos hD (Nat.mul_pos (Nat.two_pow_pos s) (by decide)))
  refine ⟨?_, hG, ?_, ?_⟩
  · refine uscN_eq hx hlo hpm (pmN_lo p) (pmN_hi p) hD ?_ ?_
    · rw [hj]; omega
    · rw [hj]; exact clear_parse p h1 h2 j hj2 x hx hx2
  · have hA : 0 < AN p := Nat.lt_of_lt_of_le (Nat.mul_pos (by decide) hD) t1
    have k1 : x * AN p < 18446744073709551616 * AN p := (Nat.mul_lt_mul_right hA).2 hx
    have k2 : DN p * (2 ^ 8 * 340282366920938463463374607431768211456) ≤ DN p * (2 ^ s * 340282366920938463463374607431768211456) := Nat.mul_le_mul_left _ (Nat.mul_le_mul_right _ (by rw [hj]; exact Nat.le_mul_of_pos_right _ hj2))
    exact third_lem _ _ _ _ 340282366920938463463374607431768211456 k1 hg k2
  · intro h8
    subst h8
    have k1 := Nat.mul_le_mul hx2 t1
    have e : 9223372036854775808 * (2 ^ 127 * DN p) = 4503599627370496 * (4 * (DN p * (2 ^ 8 * 340282366920938463463374607431768211456))) := by
      generalize DN p = dd
      omega
    rw [← e]; exact k1

theorem or_half (u : Nat) : u / 2 ||| u % 2 = 2 * (u / 4) + (if u % 4 = 0 then 0 else 1) := by
  rcases (by omega : u % 2 = 0 ∨ u % 2 = 1) with h | h
  · rw [h, Nat.or_zero]; split <;> omega
  · have h2 := Nat.div_add_mod (u / 2 ||| 1) 2
    rw [Nat.or_div_two, Nat.or_mod_two_eq_one.2 (.inr rfl)] at h2
    rw [h, ← h2, if_neg (by omega)]
    simp
    omega

/-- of digits d and a power p: twice d times 10 to the p, in least parts, by twice .. -/
def dX (d : Nat) (p : Int) : Nat := 2 * (d * 10 ^ p.toNat * 2 ^ 1074)
def dQ (p : Int) : Nat := 10 ^ (-p).toNat
theorem dQ_pos (p : Int) : 0 < dQ p := Nat.pow_pos (by decide)

/-- the rung of what parseFloat64 computes -/
theorem parse_plain (p : Int) (h1 : -348 ≤ p) (h2 : p ≤ 347) (d b s E hi lo : Nat) (hb1 : 1 ≤ b) (hb2 : b ≤ 64) (hd1 : 2 ^ (b - 1) ≤ d) (hd2 : d < 2 ^ b) (hlo : lo < 18446744073709551616) (hpm : pmN p + lo = hi * 18446744073709551616)
    (hs8 : 8 ≤ s) (hsE : (s : Int) + 1013 + lpN p + b = E) (hE : E = 0 ∨ s = 8) :
    ∃ G n, 0 < G ∧ uscN (d * 2 ^ (64 - b)) hi lo (2 ^ s) = unr n G ∧ n < 18014398509481983 * G ∧ (64 ≤ s → Near (dX d p) (dQ p) 0) ∧
    (2 * n < 18014398509481983 * G → mOf n G < 9007199254740992 ∧ (E = 0 ∨ 4503599627370496 ≤ mOf n G) ∧ Near (dX d p) (dQ p) (min INF (E * BB + mOf n G))) ∧
    (18014398509481983 * G ≤ 2 * n → mOf n (2 * G) < 9007199254740992 ∧ 4503599627370496 ≤ mOf n (2 * G) ∧ Near (dX d p) (dQ p) (min INF ((E + 1) * BB + mOf n (2 * G)))) := by
  have hx1 : 9223372036854775808 ≤ d * 2 ^ (64 - b) := by
    rw [show 9223372036854775808 = 2 ^ (b - 1) * 2 ^ (64 - b) from by rw [← Nat.pow_add, show b - 1 + (64 - b) = 63 by omega]]
    exact Nat.mul_le_mul_right _ hd1
  have hx2 : d * 2 ^ (64 - b) < 18446744073709551616 := by
    rw [show 18446744073709551616 = 2 ^ b * 2 ^ (64 - b) from by rw [← Nat.pow_add, show b + (64 - b) = 64 by omega]]
    exact (Nat.mul_lt_mul_right (Nat.two_pow_pos _)).2 hd2
  obtain ⟨q1, q2, q3, q4⟩ := parse_scale p h1 h2 _ hi lo s hx2 hx1 hlo hpm hs8
  have hX : dX d p * (4 * (DN p * (2 ^ s * 340282366920938463463374607431768211456))) = 2 * (dQ p * (d * 2 ^ (64 - b) * AN p * 2 ^ E)) := by
    have := val_eq d (10 ^ p.toNat) (10 ^ (-p).toNat) (127 - lpN p).toNat (lpN p - 127).toNat (64 - b) s E (by omega)
    exact this
  have hr := rung_of (dQ_pos p) q2 hX (hE.imp id fun h => q4 h) q3
  refine ⟨_, _, q2, q1, q3, fun h64 => ?_, hr.1, hr.2⟩
  have hE0 : E = 0 := by omega
  rw [hE0, Nat.pow_zero, Nat.mul_one] at hX
  obtain ⟨t1, t2⟩ := tab_bounds p h1 h2
  have hD := DN_pos p
  have hs2 : 2 ^ 64 ≤ 2 ^ s := Nat.pow_le_pow_right (by decide) h64
  have hlt : 4 * (d * 2 ^ (64 - b) * AN p) ≤ 4 * (DN p * (2 ^ s * 340282366920938463463374607431768211456)) := by
    refine Nat.mul_le_mul_left 4 ?_
    refine Nat.le_trans (Nat.mul_le_mul (Nat.le_of_lt hx2) (Nat.le_of_lt t2)) ?_
    rw [show 18446744073709551616 * (2 ^ 128 * DN p) = DN p * (2 ^ 64 * 340282366920938463463374607431768211456) from by generalize DN p = D; omega]
    exact Nat.mul_le_mul_left _ (Nat.mul_le_mul_right _ hs2)
  have hle : 2 * dX d p ≤ dQ p := by
    have : 2 * dX d p * (4 * (DN p * (2 ^ s * 340282366920938463463374607431768211456))) ≤ dQ p * (4 * (DN p * (2 ^ s * 340282366920938463463374607431768211456))) := by
      rw [Nat.mul_assoc 2, hX]
      calc 2 * (2 * (dQ p * (d * 2 ^ (64 - b) * AN p))) = dQ p * (4 * (d * 2 ^ (64 - b) * AN p)) := by
            generalize d * 2 ^ (64 - b) * AN p = nn
            rw [← Nat.mul_assoc 2 2, Nat.mul_left_comm]
        _ ≤ _ := Nat.mul_le_mul_left _ hlt
    exact Nat.le_of_mul_le_mul_right this q2
  refine ⟨dQ_pos p, by decide, .inl rfl, .inr ⟨?_, fun h => by omega⟩⟩
  have v1 : V (0 + 1) = 1 := by decide
  rw [v1, V_zero]
  omega
end Go.Proofs.YtckaoeloofbklaaGreatDoor

/- What floats are, and their order. -/
namespace Go.Proofs.YtckaoeloofbklaaGreatDoor
open Go Ieee

/-- a word's sign, and its rung -/
def ngB (x : Nat) : Bool := decide (9223372036854775808 ≤ x)
def ru (x : Nat) : Nat := x % 9223372036854775808
def sv (x : Nat) : Int := if 9223372036854775808 ≤ x then -(V (ru x) : Int) else (V (ru x) : Int)

theorem d_sw : double.signWeight = 9223372036854775808 := by decide
theorem d_bi : double.binade = 4503599627370496 := by decide
theorem d_in : double.infRung = 9218868437227405312 := by decide
theorem d_lp : double.leastPlace = -1074 := by decide

theorem ng_is (x : Nat) (h : x < 18446744073709551616) : (x / 9223372036854775808 % 2 == 1) = ngB x := by
  unfold ngB
  by_cases h1 : 9223372036854775808 ≤ x
  · rw [decide_eq_true h1, beq_iff_eq]; omega
  · rw [decide_eq_false h1, beq_eq_false_iff_ne]; omega

theorem read_fin (x : Nat) (h : x < 18446744073709551616) (hr : ru x < 9218868437227405312) : ∃ (m : Nat) (e : Nat), double.read x = .number (ngB x) m ((e : Int) - 1074) ∧ m * 2 ^ e = V (ru x) ∧ (e = 0 ∨ 4503599627370496 ≤ m) ∧ m < 9007199254740992 ∧ ru x = e * 4503599627370496 + m := by
  unfold Format.read
  simp only [d_sw, d_bi, d_in, d_lp, ng_is x h]
  rw [show x % 9223372036854775808 = ru x from rfl]
  by_cases h1 : ru x < 4503599627370496
  · refine ⟨ru x, 0, ?_, ?_, .inl rfl, by omega, by omega⟩
    · rw [if_pos h1]; rfl
    · unfold V BB; rw [if_pos h1]; omega
  · refine ⟨4503599627370496 + ru x % 4503599627370496, ru x / 4503599627370496 - 1, ?_, ?_, .inr (by omega), ?_, ?_⟩
    · rw [if_neg h1, if_pos hr]
      show Datum.number _ (4503599627370496 + ru x % 4503599627370496) (-1074 + ((ru x / 4503599627370496 - 1 : Nat) : Int)) = _
      congr 1
    · unfold V BB; rw [if_neg h1]
    · have := Nat.mod_lt (ru x) (show 0 < 4503599627370496 by decide); omega
    · omega

theorem read_inf (x : Nat) (h : x < 18446744073709551616) (hr : ru x = 9218868437227405312) : double.read x = .infinity (ngB x) := by
  unfold Format.read
  simp only [d_sw, d_bi, d_in, d_lp, ng_is x h]
  rw [show x % 9223372036854775808 = ru x from rfl]
  rw [if_neg (by omega), if_neg (by omega), if_pos hr]

theorem read_nan (x : Nat) (h : x < 18446744073709551616) (hr : 9218868437227405312 < ru x) : ∃ t, double.read x = .nan (ngB x) t := by
  unfold Format.read
  simp only [d_sw, d_bi, d_in, d_lp, ng_is x h]
  refine ⟨ru x - 9218868437227405312, ?_⟩
  rw [show x % 9223372036854775808 = ru x from rfl]
  rw [if_neg (by omega), if_neg (by omega), if_neg (by omega)]

theorem order_nan (x y : Nat) (hx : x < 18446744073709551616) (h : 9218868437227405312 < ru x) : double.order x y = none := by
  obtain ⟨t, ht⟩ := read_nan x hx h
  unfold Format.order
  rw [ht]
  cases double.read y <;> rfl

theorem signed_mul (s : Bool) (m k j : Nat) : signed s m k * (2 ^ j : Nat) = if s then -((m * 2 ^ (k + j) : Nat) : Int) else ((m * 2 ^ (k + j) : Nat) : Int) := by
  unfold signed
  rw [Nat.shiftLeft_eq]
  cases s
  · rw [if_neg (by decide), if_neg (by decide), ← Int.natCast_mul, Nat.mul_assoc, Nat.pow_add]
  · rw [if_pos rfl, if_pos rfl, Int.neg_mul, ← Int.natCast_mul, Nat.mul_assoc, Nat.pow_add]

theorem cmpI_lt {a b : Int} (h : a < b) : compare a b = .lt := by
  show compareOfLessAndEq a b = .lt
  unfold compareOfLessAndEq; rw [if_pos h]
theorem cmpI_eq {a b : Int} (h : a = b) : compare a b = .eq := by
  show compareOfLessAndEq a b = .eq
  unfold compareOfLessAndEq; rw [if_neg (show ¬ a < b by omega), if_pos h]
theorem cmpI_gt {a b : Int} (h : b < a) : compare a b = .gt := by
  show compareOfLessAndEq a b = .gt
  unfold compareOfLessAndEq; rw [if_neg (show ¬ a < b by omega), if_neg (show ¬ a = b by omega)]
theorem compare_mul (a b : Int) (k : Nat) (h : 0 < k) : compare a b = compare (a * k) (b * k) := by
  have hk : (0 : Int) < k := by omega
  rcases Int.lt_trichotomy a b with h1 | h1 | h1
  · have h2 : a * k < b * k := Int.mul_lt_mul_of_pos_right h1 hk
    rw [cmpI_lt h1, cmpI_lt h2]
  · subst h1; rw [cmpI_eq rfl, cmpI_eq rfl]
  · have h2 : b * k < a * k := Int.mul_lt_mul_of_pos_right h1 hk
    rw [cmpI_gt h1, cmpI_gt h2]

theorem sv_ng (x : Nat) : sv x = if ngB x then -(V (ru x) : Int) else (V (ru x) : Int) := by
  unfold sv ngB
  split <;> rename_i h
  · rw [decide_eq_true h]; rfl
  · rw [decide_eq_false h]; rfl

theorem order_any (x y : Nat) (hx : x < 18446744073709551616) (hy : y < 18446744073709551616) (h1 : ru x ≤ 9218868437227405312) (h2 : ru y ≤ 9218868437227405312) : double.order x y = some (compare (sv x) (sv y)) := by
  unfold Format.order
  rw [sv_ng, sv_ng]
  by_cases hx2 : ru x = 9218868437227405312
  · rw [read_inf x hx hx2]
    by_cases hy2 : ru y = 9218868437227405312
    · rw [read_inf y hy hy2, hx2, hy2]
      cases ngB x <;> cases ngB y <;> decide +kernel
    · obtain ⟨m, e, he, hm, _⟩ := read_fin y hy (by omega)
      rw [he]
      have hlt : V (ru y) < V (ru x) := V_mono (by omega)
      show some (if ngB x then Ordering.lt else .gt) = _
      cases ngB x
      · have : compare ((V (ru x) : Nat) : Int) (if ngB y then -((V (ru y) : Nat) : Int) else ((V (ru y) : Nat) : Int)) = .gt := cmpI_gt (by split <;> omega)
        simp [this]
      · have : compare (-((V (ru x) : Nat) : Int)) (if ngB y then -((V (ru y) : Nat) : Int) else ((V (ru y) : Nat) : Int)) = .lt := cmpI_lt (by split <;> omega)
        simp [this]
  · obtain ⟨m, e, he, hm, _⟩ := read_fin x hx (by omega)
    rw [he]
    by_cases hy2 : ru y = 9218868437227405312
    · rw [read_inf y hy hy2]
      have hlt : V (ru x) < V (ru y) := V_mono (by omega)
      show some (if ngB y then Ordering.gt else .lt) = _
      cases ngB y
      · have : compare (if ngB x then -((V (ru x) : Nat) : Int) else ((V (ru x) : Nat) : Int)) ((V (ru y) : Nat) : Int) = .lt := cmpI_lt (by split <;> omega)
        simp [this]
      · have : compare (if ngB x then -((V (ru x) : Nat) : Int) else ((V (ru x) : Nat) : Int)) (-((V (ru y) : Nat) : Int)) = .gt := cmpI_gt (by split <;> omega)
        simp [this]
    · obtain ⟨n, f, hf, hn, _⟩ := read_fin y hy (by omega)
      rw [hf]
      show some (compare (signed (ngB x) m ((e : Int) - 1074 - min ((e : Int) - 1074) ((f : Int) - 1074)).toNat) (signed (ngB y) n ((f : Int) - 1074 - min ((e : Int) - 1074) ((f : Int) - 1074)).toNat)) = _
      have e1 : ((e : Int) - 1074 - min ((e : Int) - 1074) ((f : Int) - 1074)).toNat = e - min e f := by omega
      have e2 : ((f : Int) - 1074 - min ((e : Int) - 1074) ((f : Int) - 1074)).toNat = f - min e f := by omega
      rw [e1, e2, compare_mul _ _ (2 ^ min e f) (Nat.two_pow_pos _), signed_mul, signed_mul, show e - min e f + min e f = e from by omega, show f - min e f + min e f = f from by omega, hm, hn]

theorem cmp_eq (a b : Int) : (some (compare a b) == some Ordering.eq) = decide (a = b) := by
  rcases Int.lt_trichotomy a b with h1 | h1 | h1
  · rw [cmpI_lt h1, decide_eq_false (by omega)]; rfl
  · rw [cmpI_eq h1, decide_eq_true h1]; rfl
  · rw [cmpI_gt h1, decide_eq_false (by omega)]; rfl
theorem cmp_lt (a b : Int) : (some (compare a b) == some Ordering.lt) = decide (a < b) := by
  rcases Int.lt_trichotomy a b with h1 | h1 | h1
  · rw [cmpI_lt h1, decide_eq_true h1]; rfl
  · rw [cmpI_eq h1, decide_eq_false (by omega)]; rfl
  · rw [cmpI_gt h1, decide_eq_false (by omega)]; rfl
theorem cmp_gt (a b : Int) : (some (compare a b) == some Ordering.gt) = decide (b < a) := by
  rcases Int.lt_trichotomy a b with h1 | h1 | h1
  · rw [cmpI_lt h1, decide_eq_false (by omega)]; rfl
  · rw [cmpI_eq h1, decide_eq_false (by omega)]; rfl
  · rw [cmpI_gt h1, decide_eq_true h1]; rfl

/-- the comparisons that Show makes -/
theorem f_self (x : Nat) (hx : x < 18446744073709551616) : (FloatKind.f64.format.order x x == some Ordering.eq) = decide (ru x ≤ 9218868437227405312) := by
  show (double.order x x == _) = _
  by_cases h : ru x ≤ 9218868437227405312
  · rw [order_any x x hx hx h h, cmp_eq, decide_eq_true rfl, decide_eq_true h]
  · rw [order_nan x x hx (by omega), decide_eq_false h]; rfl
theorem sv_zero (x : Nat) : sv x = 0 ↔ ru x = 0 := by
  have h1 : V (ru x) = 0 ↔ ru x = 0 := by
    constructor
    · intro h
      by_cases h0 : ru x = 0
      · exact h0
      · have := V_mono (show 0 < ru x by omega)
        rw [V_zero] at this; omega
    · intro h; rw [h]; rfl
  unfold sv
  split <;> omega
theorem f_zero (x : Nat) (hx : x < 18446744073709551616) (h : ru x ≤ 9218868437227405312) : (FloatKind.f64.format.order x 0 == some Ordering.eq) = decide (ru x = 0) := by
  show (double.order x 0 == _) = _
  rw [order_any x 0 hx (by decide) h (by decide), cmp_eq, show sv 0 = 0 from by decide +kernel]
  exact decide_eq_decide.2 (sv_zero x)
theorem f_gt_max (x : Nat) (hx : x < 18446744073709551616) (h : ru x ≤ 9218868437227405312) : (FloatKind.f64.format.order x 9218868437227405311 == some Ordering.gt) = (decide (ru x = 9218868437227405312) && !ngB x) := by
  show (double.order x 9218868437227405311 == _) = _
  rw [order_any x _ hx (by decide) h (by decide), cmp_gt, sv_ng, sv_ng, show ngB 9218868437227405311 = false from by decide, show ru 9218868437227405311 = 9218868437227405311 from by decide]
  have h0 : 0 ≤ (V (ru x) : Int) := by omega
  have h3 : V (ru x) = V 9218868437227405312 ∨ V (ru x) ≤ V 9218868437227405311 := by
    by_cases h4 : ru x = 9218868437227405312
    · rw [h4]; exact .inl rfl
    · exact .inr (V_le (by omega))
  have h5 : V 9218868437227405311 < V 9218868437227405312 := V_mono (by omega)
  have h6 : 0 < V 9218868437227405311 := by have := V_mono (show 0 < 9218868437227405311 by omega); rwa [V_zero] at this
  have h7 : ru x = 9218868437227405312 ↔ V (ru x) = V 9218868437227405312 := by
    constructor
    · intro h; rw [h]
    · intro h8
      by_cases h4 : ru x = 9218868437227405312
      · exact h4
      · have := V_mono (show ru x < 9218868437227405312 by omega); omega
  cases ngB x
  · simp only [Bool.false_eq_true, if_false, Bool.not_false, Bool.and_true]
    exact decide_eq_decide.2 ⟨fun h => by rw [h7]; omega, fun h => by rw [h7] at h; omega⟩
  · simp only [if_true, Bool.not_true, Bool.and_false, Bool.false_eq_true, if_false]
    exact decide_eq_false (by omega)
end Go.Proofs.YtckaoeloofbklaaGreatDoor

/- The nearest float to a whole number; what Trunc gives (plain). -/
namespace Go.Proofs.YtckaoeloofbklaaGreatDoor
open Go Ieee

theorem d_fb : double.fractionBits = 52 := rfl

theorem up_is (n d : Nat) : (decide (2 ^ d < 2 * (n % 2 ^ d)) || (2 ^ d == 2 * (n % 2 ^ d) && n / 2 ^ d % 2 == 1)).toNat = upG n (2 ^ d) := by
  unfold upG
  by_cases h1 : 2 * (n % 2 ^ d) < 2 ^ d
  · rw [if_pos h1, decide_eq_false (by omega), show (2 ^ d == 2 * (n % 2 ^ d)) = false from beq_eq_false_iff_ne.2 (by omega)]; rfl
  · rw [if_neg h1]
    by_cases h2 : 2 * (n % 2 ^ d) = 2 ^ d
    · rw [if_pos h2, h2, decide_eq_false (by omega), beq_self_eq_true]
      rcases Nat.mod_two_eq_zero_or_one (n / 2 ^ d) with h | h <;> rw [h] <;> rfl
    · rw [if_neg h2, decide_eq_true (by omega)]; rfl

theorem nearest_pos (s : Bool) (mag : Nat) (h : 0 < mag) : ∃ r, double.nearest s mag 0 = double.word s r ∧ Near (2 * (mag * 2 ^ 1074)) 1 r := by
  have hl : 2 ^ mag.log2 ≤ mag := Nat.log2_self_le (by omega)
  have hu : mag < 2 ^ (mag.log2 + 1) := Nat.lt_log2_self
  unfold Format.nearest
  rw [if_neg (by omega)]
  simp only [d_lp, d_bi, d_in, d_fb]
  obtain ⟨L, hlg⟩ : ∃ L, mag.log2 = L := ⟨_, rfl⟩
  rw [hlg] at hl hu
  rw [hlg]
  have hmax : max ((0 : Int) + (L : Int) - ((52 : Nat) : Int)) (-1074) = (L : Int) - 52 := by omega
  rw [hmax]
  refine ⟨_, rfl, ?_⟩
  by_cases hL : L ≤ 52
  · obtain ⟨k, hk⟩ : ∃ k, L + k = 52 := ⟨52 - L, by omega⟩
    rw [show (0 - ((L : Int) - 52)).toNat = k by omega, show ((L : Int) - 52 - 0).toNat = 0 by omega, show ((L : Int) - 52 - (-1074)).toNat = L + 1022 by omega]
    have hc : Toward.even.cut s (mag <<< k) 0 = mag * 2 ^ k := by
      unfold Toward.cut
      rw [show min 0 ((mag <<< k).log2 + 2) = 0 by omega]
      simp [Nat.shiftLeft_eq, Nat.mod_one]
    rw [hc]
    have p1 : 2 ^ L * 2 ^ k = 4503599627370496 := by rw [← Nat.pow_add, hk]
    have p2 : 2 ^ (L + 1) * 2 ^ k = 9007199254740992 := by rw [← Nat.pow_add, show L + 1 + k = 53 by omega]
    have b1 := Nat.mul_le_mul_right (2 ^ k) hl
    have b2 := (Nat.mul_lt_mul_right (Nat.two_pow_pos k)).2 hu
    rw [p1] at b1
    rw [p2] at b2
    have p3 : 2 ^ k * 2 ^ (L + 1022) = 2 ^ 1074 := by rw [← Nat.pow_add, show k + (L + 1022) = 1074 by omega]
    have hn := near_gap (X := 2 * (mag * 2 ^ 1074)) (Q := 1) (n := mag * 2 ^ k) (G := 1) (E := L + 1022) (by decide) (by decide) (by rw [Nat.mul_one, Nat.one_mul, Nat.mul_assoc mag, p3]) (by rw [Nat.div_one]; exact b2) (.inr (by rw [Nat.div_one]; exact b1))
    have hu0 : upG (mag * 2 ^ k) 1 = 0 := by unfold upG; rw [Nat.mod_one, if_pos (by decide)]
    rw [hu0, Nat.div_one, Nat.add_zero] at hn
    rw [Nat.min_comm]
    exact hn
  · obtain ⟨d, hd⟩ : ∃ d, L = 52 + d := ⟨L - 52, by omega⟩
    subst hd
    rw [show (0 - (((52 + d : Nat) : Int) - 52)).toNat = 0 by omega, show (((52 + d : Nat) : Int) - 52 - 0).toNat = d by omega, show (((52 + d : Nat) : Int) - 52 - (-1074)).toNat = d + 1074 by omega]
    have hc : Toward.even.cut s (mag <<< 0) d = mag / 2 ^ d + upG mag (2 ^ d) := by
      unfold Toward.cut
      rw [Nat.shiftLeft_zero, hlg, show min d (52 + d + 2) = d by omega, Nat.one_shiftLeft]
      show mag / 2 ^ d + _ = _
      rw [up_is]
    rw [hc]
    have b1 : 4503599627370496 ≤ mag / 2 ^ d := by
      rw [Nat.le_div_iff_mul_le (Nat.two_pow_pos d)]
      rw [Nat.pow_add] at hl
      exact hl
    have b2 : mag / 2 ^ d < 9007199254740992 := by
      rw [Nat.div_lt_iff_lt_mul (Nat.two_pow_pos d)]
      rw [show 52 + d + 1 = 53 + d by omega, Nat.pow_add] at hu
      exact hu
    have hn := near_gap (X := 2 * (mag * 2 ^ 1074)) (Q := 1) (n := mag) (G := 2 ^ d) (E := d + 1074) (by decide) (Nat.two_pow_pos d) (by rw [Nat.one_mul, Nat.pow_add, Nat.mul_assoc 2, Nat.mul_right_comm mag, Nat.mul_assoc mag]) b2 (.inr b1)
    rw [Nat.min_comm]
    exact hn

theorem nearest_is (s : Bool) (mag : Nat) : ∃ r, double.nearest s mag 0 = double.word s r ∧ Near (2 * (mag * 2 ^ 1074)) 1 r := by
  by_cases h : 0 < mag
  · exact nearest_pos s mag h
  · refine ⟨0, by unfold Format.nearest; rw [if_pos (by omega)], ?_⟩
    rw [show mag = 0 by omega]
    exact ⟨by decide, by decide, .inl rfl, .inr ⟨by omega, by omega⟩⟩
end Go.Proofs.YtckaoeloofbklaaGreatDoor

/- What Trunc gives, and the integer of a float (plain). -/
namespace Go.Proofs.YtckaoeloofbklaaGreatDoor
open Go Ieee
set_option exponentiation.threshold 2000

theorem near_self (r : Nat) (h : r ≤ INF) : Near (2 * V r) 1 r := by
  refine ⟨by decide, h, ?_, ?_⟩
  · by_cases h0 : r = 0
    · exact .inl h0
    · have := V_mono (show r - 1 < r by omega)
      exact .inr ⟨by omega, by omega⟩
  · by_cases h1 : r = INF
    · exact .inl h1
    · have := V_mono (show r < r + 1 by omega)
      exact .inr ⟨by omega, by omega⟩

theorem whole_rung (t : Nat) (h : t < 9007199254740992) : ∃ r, r ≤ INF ∧ V r = t * 2 ^ 1074 := by
  by_cases h0 : t = 0
  · exact ⟨0, by decide, by rw [h0, Nat.zero_mul]; rfl⟩
  · have hl : 2 ^ t.log2 ≤ t := Nat.log2_self_le h0
    have hu : t < 2 ^ (t.log2 + 1) := Nat.lt_log2_self
    generalize t.log2 = L at *
    have hL : L ≤ 52 := by
      rcases Nat.lt_or_ge L 53 with h1 | h1
      · omega
      · have := Nat.pow_le_pow_right (show 0 < 2 by decide) h1
        omega
    obtain ⟨k, hk⟩ : ∃ k, L + k = 52 := ⟨52 - L, by omega⟩
    have p1 : 2 ^ L * 2 ^ k = 4503599627370496 := by rw [← Nat.pow_add, hk]
    have p2 : 2 ^ (L + 1) * 2 ^ k = 9007199254740992 := by rw [← Nat.pow_add, show L + 1 + k = 53 by omega]
    have b1 := Nat.mul_le_mul_right (2 ^ k) hl
    have b2 := (Nat.mul_lt_mul_right (Nat.two_pow_pos k)).2 hu
    rw [p1] at b1
    rw [p2] at b2
    have p3 : 2 ^ k * 2 ^ (L + 1022) = 2 ^ 1074 := by rw [← Nat.pow_add, show k + (L + 1022) = 1074 by omega]
    refine ⟨(L + 1022) * BB + t * 2 ^ k, ?_, ?_⟩
    · unfold BB INF; omega
    · rw [V_at (L + 1022) (t * 2 ^ k) (by unfold BB; omega) (.inr b1), Nat.mul_assoc, p3]

end Go.Proofs.YtckaoeloofbklaaGreatDoor
