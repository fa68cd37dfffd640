/- Joined texts: Pt Pu Vs Vt Vu Pv Vw. Each begins with its own remark. -/
import Derived.Test.YtmhagigokgklaaaGreatDoorJj
import Derived.Deep.CutBlock
import Derived.Deep.DeepCutAuto
import Derived.Test.YtmhagigokgklaaaGreatDoorJe
import Derived.Test.YtmhagigokgklaaaGreatDoorJg
import Derived.Test.YtmhagigokgklaaaGreatDoorRows
import Derived.ProofKit
import Derived.LaidMore
import Derived.OpenShut
import Derived.Stop.Joined
import Derived.Deep.Slices
import Derived.Lib.LaidU8
import Derived.Handed
import Derived.Shelf.Vars
import Derived.Lay
import Derived.SevenTiedAt

/- num.Parse of the bases. -/
namespace Go.Proofs.YtmhagigokgklaaaGreatDoor
open Go Go.RowKit Go.Sort Go.Lib

theorem drop_two (l : List UInt8) : (⟨l.toArray⟩ : ByteArray).extract 2 (⟨l.toArray⟩ : ByteArray).size = ⟨(l.drop 2).toArray⟩ := by
  apply ByteArray.ext
  rw [ByteArray.data_extract]
  apply Array.toList_inj.1
  simp [List.extract_eq_take_drop]
  rw [List.take_of_length_le (by rw [List.length_drop, show (⟨l.toArray⟩ : ByteArray).size = l.length from rfl]; omega)]
theorem hex_cat (H : List UInt8) : (⟨#[48, 120]⟩ : ByteArray) ++ ⟨H.toArray⟩ ++ ⟨#[112, 48]⟩ = ⟨(48 :: 120 :: (H ++ [112, 48])).toArray⟩ := by
  apply ByteArray.ext
  rw [ByteArray.data_append, ByteArray.data_append]
  apply Array.toList_inj.1
  simp
theorem index_xob (c : Int) (W : World) (hc : c = 120 ∨ c = 111 ∨ c = 98) :
    Calls Tryz.prog 21 #[.string ⟨#[120, 111, 98]⟩, .int .u8 c] W fun e w' => ∃ j : Nat, e = .returned (.int .i64 j) ∧ w' = W := by
  refine (Tryz.strings_IndexByte ⟨#[120, 111, 98]⟩ c W).mono ?_
  rintro e w ⟨he, rfl⟩
  rw [show (⟨#[120, 111, 98]⟩ : ByteArray).data.toList = [120, 111, 98] from rfl] at he
  rcases hc with rfl | rfl | rfl
  · exact ⟨0, he, rfl⟩
  · exact ⟨1, he, rfl⟩
  · exact ⟨2, he, rfl⟩

/-- what Parse hands back of a text of a base -/
def HbPost (B : Nat) (rest : List UInt8) (neg : Bool) (w : World) (e : Ending) (w' : World) : Prop :=
  (HexOK B rest ∧ PaPost (2 * (bval B (noBars rest) * 2 ^ 1074)) 1 neg w e w') ∨
  (¬ HexOK B rest ∧ e = .returned (.tuple #[.int .u64 0, .int .i64 150]) ∧ Below w.heap.size w w')

def HexY (B : Nat) (rest : List UInt8) (ok : Bool) (H : ByteArray) : Prop :=
  (ok = true → HexOK B rest ∧ ∃ L : List UInt8, H = ⟨L.toArray⟩ ∧ (∀ x ∈ L, okD 16 x) ∧ dvl 16 L = bval B (noBars rest) ∧ L.length ≤ (noBars rest).length + 1 ∧ (noBars rest ≠ [] → L ≠ [])) ∧ (ok = false → ¬ HexOK B rest)

theorem bars_ne {l : List UInt8} (hne : l ≠ []) (h : barOK l = true) : noBars l ≠ [] := by
  cases l with
  | nil => exact absurd rfl hne
  | cons x t =>
    unfold barOK at h
    by_cases hx : x = 95
    · subst hx
      have : hasPrefix ((95 : UInt8) :: t) [95] = true := by
        show ([95] : List UInt8).isPrefixOf (95 :: t) = true
        simp [List.isPrefixOf]
      rw [this] at h
      exact absurd h (by simp)
    · unfold noBars
      rw [List.filter_cons, if_pos (by simpa using hx)]
      simp

set_option maxRecDepth 100000 in
set_option maxHeartbeats 4000000 in
theorem parse_hex (s : ByteArray) (neg : Bool) (x : UInt8) (rest : List UInt8) (c : Int) (B kk K : Nat) (w : World) (hG : Globs w) (hT : GlobT K w) (hs : s.data.toList = sgB neg ++ 48 :: x :: rest) (hne : rest ≠ []) (hlen : s.size ≤ 400)
    (hx : bits .or .u8 ((x.toNat : Nat) : Int) 32 = c) (hcB : (c = 120 ∧ B = 16 ∧ kk = 4) ∨ (c = 111 ∧ B = 8 ∧ kk = 3) ∨ (c = 98 ∧ B = 2 ∧ kk = 1)) :
    Calls Tryz.prog 11 #[.string s] w (HbPost B rest neg w) := by
  have hll : rest.length + 2 ≤ 400 := by
    have : s.size = s.data.toList.length := by simp
    rw [hs, List.length_append, List.length_cons, List.length_cons] at this
    omega
  have hr0 : 0 < rest.length := List.length_pos_iff.2 hne
  have HCP := Lib.hid (cutp_run s neg (48 :: x :: rest) w hs (fun _ => by simp))
  have HHX : Hid (∀ W : World, Globs W → GlobT K W → Calls Tryz.prog 22 #[.string ⟨rest.toArray⟩, .int .u8 c] W (HexPost B rest W)) := Lib.hid fun W h1 h2 => hexadecimal_any rest c B kk K W h1 h2 (by omega) hcB
  have HIX : Hid (∀ W : World, Calls Tryz.prog 21 #[.string ⟨#[120, 111, 98]⟩, .int .u8 c] W fun e w' => ∃ j : Nat, e = .returned (.int .i64 j) ∧ w' = W) := Lib.hid fun W => index_xob c W (by rcases hcB with h | h | h <;> omega)
  have h400 : decide ((400 : Int) < (s.size : Int)) = false := by rw [decide_eq_false_iff_not]; omega
  obtain ⟨T, hT0⟩ : ∃ T : ByteArray, T = ⟨(48 :: x :: rest).toArray⟩ := ⟨_, rfl⟩
  have htsz : T.size = rest.length + 2 := by rw [hT0]; rfl
  have hnan : (T.toList == [78, 97, 78]) = false := by rw [ByteArray.toList_eq, hT0]; rfl
  have hinf : (T.toList == [73, 110, 102, 105, 110, 105, 116, 121]) = false := by rw [ByteArray.toList_eq, hT0]; rfl
  have h2 : 2 < T.size := by omega
  have h2i : (2 : Int) ≤ (T.size : Int) := by omega
  have h1i : (1 : Int) < (T.size : Int) := by omega
  have h0s : 0 < T.size := by omega
  have h1s : 1 < T.size := by omega
  have t48 : (((T[0]'h0s).toNat : Int) == 48) = true := by subst hT0; rfl
  have tx : bits .or .u8 (((T[1]'h1s).toNat : Nat) : Int) 32 = c := by subst hT0; exact hx
  have hext : T.extract 2 T.size = ⟨rest.toArray⟩ := by rw [hT0, drop_two]; rfl
  have hle400 : T.size ≤ 400 := by omega
  rw [← hT0] at HCP
  have HLR := Lib.hid hll
  have HNE := Lib.hid hne
  have hGS := Lib.hid hG
  have hTS := Lib.hid hT
  clear hG hT hs hT0 hx hcB htsz hll hr0 hne
  go_enter Tryz.func11, Tryz.ntmps11
  go_wp2_with fail
  refine HCP.out.mono ?_
  rintro e w ⟨rfl, rfl⟩
  go_upto_region 10 with fail
  go_wp2_with (go_at_call 21; refine (HIX.out _).mono ?_; rintro e w ⟨j, rfl, rfl⟩)
  have HHY : Hid (∀ W : World, Below w.heap.size w W → Calls Tryz.prog 22 #[.string ⟨rest.toArray⟩, .int .u8 c] W fun e w' => ∃ (ok : Bool) (H : ByteArray), e = .returned (.tuple #[.string H, .bool ok]) ∧ Below w.heap.size w w' ∧ Hid (HexY B rest ok H)) := Lib.hid fun W hb => (HHX.out W (hGS.out.on hb) (hTS.out.on hb)).mono (by
    rintro e w2 (⟨hok, H, hH, hv, hlH, hnH, rfl, hb2⟩ | ⟨hno, rfl, hb2⟩)
    · exact ⟨true, ⟨H.toArray⟩, rfl, hb.trans (hb2.mono hb.size), Lib.hid ⟨fun _ => ⟨hok, H, rfl, hH, hv, hlH, hnH⟩, fun h => absurd h (by decide)⟩⟩
    · exact ⟨false, ⟨#[]⟩, rfl, hb.trans (hb2.mono hb.size), Lib.hid ⟨fun h => absurd h (by decide), fun _ => hno⟩⟩)
  clear HHX
  go_upto_region 12 with
    (go_region_with
      (first | (go_at_call 22; refine (HHY.out _ (by first | exact (Below.refl _ _).drew | exact bDrewN (Below.refl _ _) _ | exact Below.refl _ _)).mono ?_; rintro e w' ⟨ok, H, rfl, hb, hy⟩)))
  all_goals
    have HB1 := Lib.hid hb
    clear hb
    cases ok
    · have hno := hy.out.2 rfl
      have HNO := Lib.hid hno
      clear hno
      go_wp2_with fail
      refine bodyPost_ret (v := .tuple #[.int .u64 0, .int .i64 150]) (by simp [results, Tryz.results11, go_sem]) rfl (.inr ⟨HNO.out, rfl, HB1.out⟩)
    · obtain ⟨hok, L, rfl, hH, hv, hlH, hnH⟩ := hy.out.1 rfl
      have HV := Lib.hid hv
      have HOK := Lib.hid hok
      have hnb : (noBars rest).length ≤ rest.length := List.length_filter_le _ _
      have hHl : L.length ≤ 900 := by have := HLR.out; omega
      have HPF := Lib.hid (fun (W : World) (h : GlobT K W) => pfloat_hex L K W h hH (hnH (bars_ne HNE.out hok.1)) hHl)
      have hcat := hex_cat L
      have hHs : (⟨L.toArray⟩ : ByteArray).size ≤ 900 := hHl
      have hPs : (⟨(48 :: 120 :: (L ++ [112, 48])).toArray⟩ : ByteArray).size ≤ 1000 := by rw [ba_size]; simp; omega
      clear hok hH hnH hnb hHl hv hlH hy
      generalize (⟨(48 :: 120 :: (L ++ [112, 48])).toArray⟩ : ByteArray) = PT at *
      generalize (⟨L.toArray⟩ : ByteArray) = HB at *
      go_wp2_with fail
      refine (HPF.out _ (hTS.out.on HB1.out)).mono ?_
      rintro e w3 ⟨r, ev, hn, rfl, hb3⟩
      have HB3 : Hid (Below w.heap.size w w3) := Lib.hid (HB1.out.trans (hb3.mono HB1.out.size))
      have HN := Lib.hid hn
      have HCS := Lib.hid (fun (W : World) => run_copysign r W (near_lt63 hn))
      have hmb : ∀ W : World, (callFunc 27 #[.float .f64 r]).run Tryz.prog W = .ok (.value (.int .u64 r)) W := run_mbits r
      have hmb2 : ∀ W : World, (callFunc 27 #[.float .f64 (r + 9223372036854775808 : Nat)]).run Tryz.prog W = .ok (.value (.int .u64 (r + 9223372036854775808 : Nat))) W := run_mbits (r + 9223372036854775808)
      clear hb3 hn
      obtain ⟨R2, hR2⟩ : ∃ R2 : Nat, R2 = r + 9223372036854775808 := ⟨_, rfl⟩
      rw [← hR2] at HCS hmb2
      have HR2 := Lib.hid hR2
      clear hR2
      cases neg
      · go_wp2_with fail
        refine bodyPost_ret (v := .tuple #[.int .u64 r, .int .i64 0]) (by simp [results, Tryz.results11, go_sem]) rfl (.inl ⟨HOK.out, r, HV.out ▸ HN.out, rfl, HB3.out⟩)
      · go_wp2_with fail
        refine (HCS.out _).mono ?_
        rintro e w4 ⟨rfl, hw4⟩
        subst hw4
        go_wp2_with fail
        refine bodyPost_ret (v := .tuple #[.int .u64 R2, .int .i64 0]) (by simp [results, Tryz.results11, go_sem]) rfl (.inl ⟨HOK.out, r, HV.out ▸ HN.out, by rw [HR2.out]; rfl, HB3.out⟩)
end Go.Proofs.YtmhagigokgklaaaGreatDoor

/- num.Parse: what it refuses. -/
namespace Go.Proofs.YtmhagigokgklaaaGreatDoor
open Go Go.RowKit Go.Sort Go.Lib

/-- the letter of a base -/
def isBase (x : UInt8) : Bool := let c := bits .or .u8 ((x.toNat : Nat) : Int) 32; c == 120 || c == 111 || c == 98
/-- a text of a base: 0, its letter, and more -/
def hexB : List UInt8 → Bool
  | a :: x :: _ :: _ => a == 48 && isBase x
  | _ => false

theorem index_not (x : UInt8) (h : isBase x = false) : indexByte [120, 111, 98] (UInt8.ofNat (bits .or .u8 ((x.toNat : Nat) : Int) 32).toNat) = -1 := by
  have key : ∀ c : Fin 256, (let d := bits .or .u8 ((c.val : Nat) : Int) 32; d == 120 || d == 111 || d == 98) = false → indexByte [120, 111, 98] (UInt8.ofNat (bits .or .u8 ((c.val : Nat) : Int) 32).toNat) = -1 := by decide +kernel
  exact key ⟨x.toNat, x.toNat_lt⟩ h

theorem hexB_cons (l : List UInt8) (h : hexB l = false) (h2 : 2 < l.length) (h48 : l[0]'(by omega) = 48) : isBase (l[1]'(by omega)) = false := by
  match l, h, h2, h48 with
  | a :: x :: y :: t, hx, _, h48 =>
    have ha : a = 48 := h48
    subst ha
    exact hx
theorem hexB_not (T : ByteArray) (hx : hexB T.data.toList = false) (h : 2 < T.size) (h48 : (((T[0]'(Nat.lt_trans (by decide) h)).toNat : Int) == 48) = true) : isBase (T[1]'(Nat.lt_trans (by decide) h)) = false := by
  refine hexB_cons T.data.toList hx (by simpa using h) ?_
  rw [beq_iff_eq] at h48
  have h3 : (T[0]'(Nat.lt_trans (by decide) h)).toNat = 48 := by omega
  exact UInt8.toNat_inj.1 h3

set_option maxRecDepth 100000 in
set_option maxHeartbeats 4000000 in
theorem parse_refused (s : ByteArray) (neg : Bool) (l : List UInt8) (w : World) (hs : s.data.toList = sgB neg ++ l) (hl : neg = false → l.head? ≠ some 45) (hlen : s.size ≤ 400)
    (hnan0 : l ≠ [78, 97, 78]) (hinf0 : l ≠ [73, 110, 102, 105, 110, 105, 116, 121]) (hx : hexB l = false) (hd : decB l = false) :
    Calls Tryz.prog 11 #[.string s] w fun e w' => e = .returned (.tuple #[.int .u64 0, .int .i64 150]) ∧ Below w.heap.size w w' := by
  have hll : l.length ≤ 400 := by
    have : s.size = s.data.toList.length := by simp
    rw [hs, List.length_append] at this
    omega
  have HCP := Lib.hid (cutp_run s neg l w hs hl)
  have HDE : Hid (∀ W : World, Calls Tryz.prog 24 #[.string ⟨l.toArray⟩] W fun e w' => e = .returned (.bool false) ∧ Below W.heap.size W w') := Lib.hid fun W => by
    have := decimal_any ⟨l.toArray⟩ W (by rw [ba_size]; omega)
    rw [show (⟨l.toArray⟩ : ByteArray).data.toList = l from rfl, hd] at this
    exact this
  have h400 : decide ((400 : Int) < (s.size : Int)) = false := by rw [decide_eq_false_iff_not]; omega
  obtain ⟨T, hT0⟩ : ∃ T : ByteArray, T = ⟨l.toArray⟩ := ⟨_, rfl⟩
  have htsz : T.size = l.length := by rw [hT0]; rfl
  have hnan : (T.toList == [78, 97, 78]) = false := by rw [ByteArray.toList_eq, hT0]; simpa using hnan0
  have hinf : (T.toList == [73, 110, 102, 105, 110, 105, 116, 121]) = false := by rw [ByteArray.toList_eq, hT0]; simpa using hinf0
  have HIX : Hid (∀ (h : 2 < T.size) (W : World), (((T[0]'(Nat.lt_trans (by decide) h)).toNat : Int) == 48) = true → Calls Tryz.prog 21 #[.string ⟨#[120, 111, 98]⟩, .int .u8 (bits .or .u8 (((T[1]'(Nat.lt_trans (by decide) h)).toNat : Nat) : Int) 32)] W fun e w' => e = .returned (.int .i64 (-1)) ∧ w' = W) := Lib.hid fun h W h48 => by
    have hc : indexByte [120, 111, 98] (UInt8.ofNat (bits .or .u8 (((T[1]'(Nat.lt_trans (by decide) h)).toNat : Nat) : Int) 32).toNat) = -1 := by
      exact index_not _ (hexB_not T (by rw [hT0]; exact hx) h h48)
    have := Tryz.strings_IndexByte ⟨#[120, 111, 98]⟩ (bits .or .u8 (((T[1]'(Nat.lt_trans (by decide) h)).toNat : Nat) : Int) 32) W
    rw [show (⟨#[120, 111, 98]⟩ : ByteArray).data.toList = [120, 111, 98] from rfl] at this
    rw [show indexByte [120, 111, 98] (bits .or .u8 (((T[1]'(Nat.lt_trans (by decide) h)).toNat : Nat) : Int) 32).toNat.toUInt8 = -1 from hc] at this
    exact this
  rw [← hT0] at HCP HDE
  have hcases : T.size ≤ 2 ∨ (∃ h : 2 < T.size, (((T[0]'(Nat.lt_trans (by decide) h)).toNat : Int) == 48) = false) ∨ (∃ h : 2 < T.size, (((T[0]'(Nat.lt_trans (by decide) h)).toNat : Int) == 48) = true) := by
    by_cases h : 2 < T.size
    · right
      cases h2 : (((T[0]'(Nat.lt_trans (by decide) h)).toNat : Int) == 48)
      · exact .inl ⟨h, h2⟩
      · exact .inr ⟨h, h2⟩
    · left; omega
  clear hs hd hx hl hT0 hll hnan0 hinf0
  rcases hcases with h2 | ⟨h2, t48⟩ | ⟨h2, t48⟩
  all_goals
    have HLN := Lib.hid htsz
    clear htsz
    go_enter Tryz.func11, Tryz.ntmps11
    go_wp2_with fail
    refine HCP.out.mono ?_
    rintro e w ⟨rfl, rfl⟩
    go_wp2_with (go_at_call 21; refine (HIX.out (by omega) _ (by assumption)).mono ?_; rintro e w ⟨rfl, rfl⟩)
    refine (HDE.out _).mono ?_
    rintro e w1 ⟨rfl, hb1⟩
    have HB1 := Lib.hid hb1
    clear hb1
    go_wp2_with fail
    refine bodyPost_ret (v := .tuple #[.int .u64 0, .int .i64 150]) (by simp [results, Tryz.results11, go_sem]) rfl ⟨rfl, HB1.out⟩

end Go.Proofs.YtmhagigokgklaaaGreatDoor

/- num.OfInt, math.Trunc, num.Int. -/
namespace Go.Proofs.YtmhagigokgklaaaGreatDoor
open Go Go.RowKit

/-- the number that an integer is -/
def oiN (n : Int) : Nat := FloatKind.f64.nearest n

theorem ofint_any (n : Int) (w : World) :
    Calls Tryz.prog 17 #[.int .i64 n] w fun e w' => e = .returned (.int .u64 (oiN n)) ∧ w' = w := by
  have hb := run_mbits (oiN n)
  have hf : floatOfInt .f64 n = oiN n := rfl
  go_enter Tryz.func17, Tryz.ntmps17
  go_wp2_with fail
  go_ret
  exact ⟨rfl, rfl⟩

section
attribute [local irreducible] FloatKind.decode
theorem whole_num (x : Nat) (s : Bool) (m : Nat) (e : Int) (h : FloatKind.f64.decode x = .number s m e) : Extern.MathFloor.toIntegral "math.archTrunc" .zero #[.float .f64 x] = pure (.float .f64 (FloatKind.f64.encode ((Ieee.Datum.number s m e).integral .zero))) := by
  conv => lhs; whnf
  rw [h]
theorem whole_inf (x : Nat) (s : Bool) (h : FloatKind.f64.decode x = .infinity s) : Extern.MathFloor.toIntegral "math.archTrunc" .zero #[.float .f64 x] = pure (.float .f64 (FloatKind.f64.encode (.infinity s))) := by
  conv => lhs; whnf
  rw [h]
  rfl
theorem whole_nan (x : Nat) (s : Bool) (t : Nat) (w : World) (h : FloatKind.f64.decode x = .nan s t) : ∃ y w', (Extern.MathFloor.toIntegral "math.archTrunc" .zero #[.float .f64 x]).run Tryz.prog w = .ok (.float .f64 y) w' ∧ (w' = w ∨ w' = w.drew) := by
  conv => enter [1, y, 1, w', 1, 1, 2]; whnf
  rw [h]
  by_cases hq : FloatKind.f64.format.quiet t = t
  · refine ⟨x, w, ?_, .inl rfl⟩
    simp only [hq, if_true]
    rfl
  · simp only [hq, if_false]
    exact ⟨_, _, rfl, .inr rfl⟩
end

theorem run_trunc (x : Nat) (w : World) (hx : x < 18446744073709551616) (h : ru x ≤ 9218868437227405312) : (callFunc 80 #[.float .f64 x]).run Tryz.prog w = .ok (.value (.float .f64 (trN x))) w := by
  rw [run_callFunc_extern Tryz.func80 (e := Extern.MathFloor.toIntegral "math.archTrunc" .zero) (by kernel_rfl) (by kernel_rfl) (by kernel_rfl) (by rfl)]
  unfold trN
  by_cases h1 : ru x = 9218868437227405312
  · rw [whole_inf x _ (read_inf x hx h1), read_inf x hx h1]; rfl
  · obtain ⟨m, e, he, _⟩ := read_fin x hx (by omega)
    rw [whole_num x _ _ _ he, he]; rfl

theorem run_trunc_nan (x : Nat) (w : World) (hx : x < 18446744073709551616) (h : 9218868437227405312 < ru x) : ∃ y w', (callFunc 80 #[.float .f64 x]).run Tryz.prog w = .ok (.value (.float .f64 y)) w' ∧ (w' = w ∨ w' = w.drew) := by
  rw [run_callFunc_extern Tryz.func80 (e := Extern.MathFloor.toIntegral "math.archTrunc" .zero) (by kernel_rfl) (by kernel_rfl) (by kernel_rfl) (by rfl)]
  obtain ⟨t, ht⟩ := read_nan x hx h
  obtain ⟨y, w', h1, h2⟩ := whole_nan x _ t w ht
  exact ⟨y, w', by rw [h1]; rfl, h2⟩

set_option maxRecDepth 100000 in
theorem trunc_any (x : Nat) (w : World) (hx : x < 18446744073709551616) (h : ru x ≤ 9218868437227405312) :
    Calls Tryz.prog 46 #[.float .f64 x] w fun e w' => e = .returned (.float .f64 (trN x)) ∧ w' = w := by
  have hb := fun w => run_trunc x w hx h
  clear hx h
  generalize trN x = y at *
  go_enter Tryz.func46, Tryz.ntmps46
  go_wp2_with fail
  go_ret
  exact ⟨rfl, rfl⟩

set_option maxRecDepth 100000 in
theorem trunc_nan (x : Nat) (w : World) (hx : x < 18446744073709551616) (h : 9218868437227405312 < ru x) :
    Calls Tryz.prog 46 #[.float .f64 x] w fun e w' => (∃ y, e = .returned (.float .f64 y)) ∧ Below w.heap.size w w' := by
  obtain ⟨y, w', hb, hw⟩ := run_trunc_nan x w hx h
  have HB : Hid (Below w.heap.size w w') := Lib.hid (by
    rcases hw with rfl | rfl
    · exact Below.refl _ _
    · exact (Below.refl _ _).drew)
  clear hx h hw
  go_enter Tryz.func46, Tryz.ntmps46
  go_wp2_with fail
  go_ret
  exact ⟨⟨_, rfl⟩, HB.out⟩
end Go.Proofs.YtmhagigokgklaaaGreatDoor

/- num.Int. -/
namespace Go.Proofs.YtmhagigokgklaaaGreatDoor
open Go Go.RowKit
set_option exponentiation.threshold 2000

/-- the integer that a number is, if it is one -/
def intOK (x : Nat) : Prop := ru x < 9218868437227405312 ∧ V (ru x) % 2 ^ 1074 = 0 ∧ (if ngB x then FL (ru x) ≠ 0 ∧ FL (ru x) ≤ 9223372036854775808 else FL (ru x) < 9223372036854775808)
instance (x : Nat) : Decidable (intOK x) := by unfold intOK; infer_instance
def intV (x : Nat) : Int × Bool := if intOK x then ((if ngB x then -(FL (ru x) : Int) else (FL (ru x) : Int)), true) else (0, false)

set_option maxRecDepth 100000 in
set_option maxHeartbeats 1000000 in
/-- no whole number, or none at all -/
theorem int_stop1 (x : Nat) (w : World)
    (ht : Calls Tryz.prog 46 #[.float .f64 x] w fun e w' => (∃ y, e = .returned (.float .f64 y) ∧ (FloatKind.f64.format.order x y == some Ordering.eq) = false) ∧ Below w.heap.size w w') :
    Calls Tryz.prog 15 #[.int .u64 x] w fun e w' => e = .returned (.tuple #[.int .i64 0, .bool false]) ∧ Below w.heap.size w w' := by
  have hb := run_mfrom x
  have HT := Lib.hid ht
  clear ht
  go_enter Tryz.func15, Tryz.ntmps15
  go_wp2_with fail
  refine HT.out.mono ?_
  rintro e w5 ⟨⟨y, rfl, h1⟩, hb5⟩
  have h2 : (FloatKind.f64.format.order x y != some Ordering.eq) = true := by rw [bne, h1]; rfl
  have HB := Lib.hid hb5
  clear hb5
  go_wp2_with fail
  refine bodyPost_ret (v := .tuple #[.int .i64 0, .bool false]) (by simp [results, Tryz.results15, go_sem]) rfl ⟨rfl, HB.out⟩

set_option maxRecDepth 100000 in
set_option maxHeartbeats 1000000 in
/-- too far below -/
theorem int_stop2 (x y : Nat) (w : World)
    (ht : Calls Tryz.prog 46 #[.float .f64 x] w fun e w' => e = .returned (.float .f64 y) ∧ w' = w)
    (h1 : (FloatKind.f64.format.order x y == some Ordering.eq) = true)
    (h2 : (FloatKind.f64.format.order x 14114281232179134464 == some Ordering.lt) = true) :
    Calls Tryz.prog 15 #[.int .u64 x] w fun e w' => e = .returned (.tuple #[.int .i64 0, .bool false]) ∧ Below w.heap.size w w' := by
  have hb := run_mfrom x
  have HT := Lib.hid ht
  have h1' : (FloatKind.f64.format.order x y != some Ordering.eq) = false := by rw [bne, h1]; rfl
  clear ht
  go_enter Tryz.func15, Tryz.ntmps15
  go_wp2_with fail
  refine HT.out.mono ?_
  rintro e w5 ⟨rfl, rfl⟩
  go_wp2_with fail
  refine bodyPost_ret (v := .tuple #[.int .i64 0, .bool false]) (by simp [results, Tryz.results15, go_sem]) rfl ⟨rfl, Below.refl _ _⟩

set_option maxRecDepth 100000 in
set_option maxHeartbeats 1000000 in
/-- too far above -/
theorem int_stop3 (x y : Nat) (w : World)
    (ht : Calls Tryz.prog 46 #[.float .f64 x] w fun e w' => e = .returned (.float .f64 y) ∧ w' = w)
    (h1 : (FloatKind.f64.format.order x y == some Ordering.eq) = true)
    (h2 : (FloatKind.f64.format.order x 14114281232179134464 == some Ordering.lt) = false)
    (h3 : (FloatKind.f64.format.order x 4890909195324358656 == some Ordering.gt || FloatKind.f64.format.order x 4890909195324358656 == some Ordering.eq) = true) :
    Calls Tryz.prog 15 #[.int .u64 x] w fun e w' => e = .returned (.tuple #[.int .i64 0, .bool false]) ∧ Below w.heap.size w w' := by
  have hb := run_mfrom x
  have HT := Lib.hid ht
  have h1' : (FloatKind.f64.format.order x y != some Ordering.eq) = false := by rw [bne, h1]; rfl
  clear ht
  go_enter Tryz.func15, Tryz.ntmps15
  go_wp2_with fail
  refine HT.out.mono ?_
  rintro e w5 ⟨rfl, rfl⟩
  go_wp2_with fail
  refine bodyPost_ret (v := .tuple #[.int .i64 0, .bool false]) (by simp [results, Tryz.results15, go_sem]) rfl ⟨rfl, Below.refl _ _⟩

set_option maxRecDepth 100000 in
set_option maxHeartbeats 1000000 in
/-- nought with a sign -/
theorem int_stop4 (x y : Nat) (w : World) (hx : x < 18446744073709551616) (hn : ngB x = true)
    (ht : Calls Tryz.prog 46 #[.float .f64 x] w fun e w' => e = .returned (.float .f64 y) ∧ w' = w)
    (h1 : (FloatKind.f64.format.order x y == some Ordering.eq) = true)
    (h2 : (FloatKind.f64.format.order x 14114281232179134464 == some Ordering.lt) = false)
    (h3 : (FloatKind.f64.format.order x 4890909195324358656 == some Ordering.gt || FloatKind.f64.format.order x 4890909195324358656 == some Ordering.eq) = false)
    (h4 : (FloatKind.f64.format.order x 0 == some Ordering.eq) = true) :
    Calls Tryz.prog 15 #[.int .u64 x] w fun e w' => e = .returned (.tuple #[.int .i64 0, .bool false]) ∧ Below w.heap.size w w' := by
  have hb := run_mfrom x
  have HT := Lib.hid ht
  have HS := Lib.hid (signbit_any x w hx)
  rw [hn] at HS
  have h1' : (FloatKind.f64.format.order x y != some Ordering.eq) = false := by rw [bne, h1]; rfl
  clear ht hn hx
  go_enter Tryz.func15, Tryz.ntmps15
  go_wp2_with fail
  refine HT.out.mono ?_
  rintro e w5 ⟨rfl, rfl⟩
  go_wp2_with fail
  refine HS.out.mono ?_
  rintro e w5 ⟨rfl, rfl⟩
  go_wp2_with fail
  refine bodyPost_ret (v := .tuple #[.int .i64 0, .bool false]) (by simp [results, Tryz.results15, go_sem]) rfl ⟨rfl, Below.refl _ _⟩

set_option maxRecDepth 100000 in
set_option maxHeartbeats 1000000 in
/-- an integer -/
theorem int_go (x y : Nat) (n : Int) (w : World) (hx : x < 18446744073709551616)
    (ht : Calls Tryz.prog 46 #[.float .f64 x] w fun e w' => e = .returned (.float .f64 y) ∧ w' = w)
    (h1 : (FloatKind.f64.format.order x y == some Ordering.eq) = true)
    (h2 : (FloatKind.f64.format.order x 14114281232179134464 == some Ordering.lt) = false)
    (h3 : (FloatKind.f64.format.order x 4890909195324358656 == some Ordering.gt || FloatKind.f64.format.order x 4890909195324358656 == some Ordering.eq) = false)
    (h4 : ((FloatKind.f64.format.order x 0 == some Ordering.eq) && ngB x) = false)
    (h5 : floatToIntVal .f64 x .i64 = some n) :
    Calls Tryz.prog 15 #[.int .u64 x] w fun e w' => e = .returned (.tuple #[.int .i64 n, .bool true]) ∧ Below w.heap.size w w' := by
  have hb := run_mfrom x
  have HT := Lib.hid ht
  have HS := Lib.hid (signbit_any x w hx)
  have h1' : (FloatKind.f64.format.order x y != some Ordering.eq) = false := by rw [bne, h1]; rfl
  have hc : ∀ W : World, (convert 43 2 (.float .f64 x)).run Tryz.prog W = .ok (.int .i64 n) W := fun W => run_convert_float_int W _ _ .f64 .i64 x n (by rw [Tryz.underlying43]; rfl) Tryz.underlying2 h5
  clear ht hx h5
  cases hz : (FloatKind.f64.format.order x 0 == some Ordering.eq)
  · clear h4
    go_enter Tryz.func15, Tryz.ntmps15
    go_wp2_with fail
    refine HT.out.mono ?_
    rintro e w5 ⟨rfl, rfl⟩
    go_wp2_with fail
    refine bodyPost_ret (v := .tuple #[.int .i64 n, .bool true]) (by simp [results, Tryz.results15, go_sem]) rfl ⟨rfl, Below.refl _ _⟩
  · rw [hz, Bool.true_and] at h4
    rw [h4] at HS
    clear h4
    go_enter Tryz.func15, Tryz.ntmps15
    go_wp2_with fail
    refine HT.out.mono ?_
    rintro e w5 ⟨rfl, rfl⟩
    go_wp2_with fail
    refine HS.out.mono ?_
    rintro e w5 ⟨rfl, rfl⟩
    go_wp2_with fail
    refine bodyPost_ret (v := .tuple #[.int .i64 n, .bool true]) (by simp [results, Tryz.results15, go_sem]) rfl ⟨rfl, Below.refl _ _⟩
end Go.Proofs.YtmhagigokgklaaaGreatDoor

/- num.Int: what it gives. -/
namespace Go.Proofs.YtmhagigokgklaaaGreatDoor
open Go Go.RowKit Ieee
set_option exponentiation.threshold 2000

theorem v_far : V 4890909195324358656 = 9223372036854775808 * 2 ^ 1074 := by
  have h := V_at 1085 BB (by decide) (.inr (Nat.le_refl _))
  rw [show 1085 * BB + BB = 4890909195324358656 from by decide] at h
  rw [h]
  unfold BB
  rw [show (9223372036854775808 : Nat) = 4503599627370496 * 2 ^ 11 from by decide, Nat.mul_assoc, ← Nat.pow_add]

theorem f_lt_far (x : Nat) (hx : x < 18446744073709551616) (h : ru x ≤ 9218868437227405312) : (FloatKind.f64.format.order x 14114281232179134464 == some Ordering.lt) = (ngB x && decide (V 4890909195324358656 < V (ru x))) := by
  show (double.order x 14114281232179134464 == _) = _
  rw [order_any x _ hx (by decide) h (by decide), cmp_lt, sv_ng, sv_ng, show ngB 14114281232179134464 = true from by decide, show ru 14114281232179134464 = 4890909195324358656 from by decide]
  generalize V 4890909195324358656 = K
  cases ngB x
  · simp only [Bool.false_eq_true, if_false, if_true, Bool.false_and]
    exact decide_eq_false (by omega)
  · simp only [if_true, Bool.true_and]
    exact decide_eq_decide.2 ⟨fun h => by omega, fun h => by omega⟩

theorem f_ge_far (x : Nat) (hx : x < 18446744073709551616) (h : ru x ≤ 9218868437227405312) : (FloatKind.f64.format.order x 4890909195324358656 == some Ordering.gt || FloatKind.f64.format.order x 4890909195324358656 == some Ordering.eq) = (!ngB x && decide (V 4890909195324358656 ≤ V (ru x))) := by
  show (double.order x 4890909195324358656 == _ || double.order x 4890909195324358656 == _) = _
  rw [order_any x _ hx (by decide) h (by decide), cmp_gt, cmp_eq, sv_ng, sv_ng, show ngB 4890909195324358656 = false from by decide, show ru 4890909195324358656 = 4890909195324358656 from by decide]
  have hK : 0 < V 4890909195324358656 := by have := V_mono (show 0 < 4890909195324358656 by omega); rwa [V_zero] at this
  generalize V 4890909195324358656 = K at *
  cases ngB x
  · simp only [Bool.false_eq_true, if_false, Bool.not_false, Bool.true_and]
    rw [← Bool.decide_or]
    exact decide_eq_decide.2 ⟨fun h => by omega, fun h => by omega⟩
  · simp only [Bool.false_eq_true, if_false, if_true, Bool.not_true, Bool.false_and]
    rw [← Bool.decide_or]
    exact decide_eq_false (by omega)

theorem to_int (x : Nat) (hx : x < 18446744073709551616) (hr : ru x < 9218868437227405312) (h1 : ngB x = true → FL (ru x) ≤ 9223372036854775808) (h2 : ngB x = false → FL (ru x) < 9223372036854775808) :
    floatToIntVal .f64 x .i64 = some (if ngB x then -(FL (ru x) : Int) else (FL (ru x) : Int)) := by
  unfold floatToIntVal
  have e : (FloatKind.f64.decode x).toInt .zero = some (if ngB x then -(FL (ru x) : Int) else (FL (ru x) : Int)) := by
    show (double.read x).toInt .zero = _
    unfold Datum.toInt
    rw [integral_fin x hx hr]
    show some (signed (ngB x) (FL (ru x)) 0) = _
    unfold signed
    rw [Nat.shiftLeft_zero]
  rw [e]
  show (if IntKind.i64.min ≤ _ ∧ _ ≤ IntKind.i64.max then _ else _) = _
  have m1 : IntKind.i64.min = -9223372036854775808 := by decide
  have m2 : IntKind.i64.max = 9223372036854775807 := by decide
  rw [m1, m2, if_pos]
  cases hn : ngB x
  · have := h2 hn
    simp only [Bool.false_eq_true, if_false]; omega
  · have := h1 hn
    simp only [if_true]; omega

theorem fl_mul (r : Nat) (h : V r % 2 ^ 1074 = 0) : V r = FL r * 2 ^ 1074 := by
  unfold FL; exact (Nat.div_mul_cancel (Nat.dvd_of_mod_eq_zero h)).symm

/-- Int, at every number -/
theorem int_any (x : Nat) (w : World) (hx : x < 18446744073709551616) :
    Calls Tryz.prog 15 #[.int .u64 x] w fun e w' => e = .returned (.tuple #[.int .i64 (intV x).1, .bool (intV x).2]) ∧ Below w.heap.size w w' := by
  by_cases hnan : 9218868437227405312 < ru x
  · have hv : intV x = (0, false) := by unfold intV; rw [if_neg (fun h => by have := h.1; omega)]
    rw [hv]
    refine int_stop1 x w ((trunc_nan x w hx hnan).mono ?_)
    rintro e w' ⟨⟨y, rfl⟩, hb⟩
    exact ⟨⟨y, rfl, by show (double.order x y == _) = _; rw [order_nan x y hx hnan]; rfl⟩, hb⟩
  · by_cases hinf : ru x = 9218868437227405312
    · have hv : intV x = (0, false) := by unfold intV; rw [if_neg (fun h => by have := h.1; omega)]
      rw [hv]
      have ht := trunc_any x w hx (by omega)
      have hy : trN x = x := by
        have h1 : trN x = double.word (ngB x) INF := by
          unfold trN
          rw [read_inf x hx hinf]; rfl
        have h2 := word_is x hx
        rw [hinf] at h2
        rw [h1]
        exact h2
      rw [hy] at ht
      have h1 : (FloatKind.f64.format.order x x == some Ordering.eq) = true := by rw [f_self x hx, decide_eq_true (by omega)]
      have hlt : V 4890909195324358656 < V (ru x) := V_mono (by omega)
      cases hn : ngB x
      · exact int_stop3 x x w ht h1 (by rw [f_lt_far x hx (by omega), hn]; rfl) (by rw [f_ge_far x hx (by omega), hn, decide_eq_true (Nat.le_of_lt hlt)]; rfl)
      · exact int_stop2 x x w ht h1 (by rw [f_lt_far x hx (by omega), hn, decide_eq_true hlt]; rfl)
    · have hfin : ru x < 9218868437227405312 := by omega
      have ht := trunc_any x w hx (by omega)
      by_cases hw : V (ru x) % 2 ^ 1074 = 0
      · rw [tr_whole x hx hfin hw] at ht
        have h1 : (FloatKind.f64.format.order x x == some Ordering.eq) = true := by rw [f_self x hx, decide_eq_true (by omega)]
        have hm := fl_mul (ru x) hw
        have hK := v_far
        have hpos : 0 < 2 ^ 1074 := Nat.two_pow_pos 1074
        have c1 : V 4890909195324358656 < V (ru x) ↔ 9223372036854775808 < FL (ru x) := by rw [hm, hK]; exact Nat.mul_lt_mul_right hpos
        have c2 : V 4890909195324358656 ≤ V (ru x) ↔ 9223372036854775808 ≤ FL (ru x) := by rw [hm, hK]; exact Nat.mul_le_mul_right_iff hpos
        have c3 : ru x = 0 ↔ FL (ru x) = 0 := by
          constructor
          · intro h; rw [h]; unfold FL; rw [V_zero, Nat.zero_div]
          · intro h
            rw [h, Nat.zero_mul] at hm
            by_cases h0 : ru x = 0
            · exact h0
            · have := V_mono (show 0 < ru x by omega); omega
        clear hm hK hpos
        have k2 := f_lt_far x hx (by omega)
        have k3 := f_ge_far x hx (by omega)
        have k4 := f_zero x hx (by omega)
        cases hn : ngB x
        · rw [hn, Bool.false_and] at k2
          rw [hn, Bool.not_false, Bool.true_and] at k3
          by_cases hfar : 9223372036854775808 ≤ FL (ru x)
          · have hv : intV x = (0, false) := by
              unfold intV; rw [if_neg]
              rintro ⟨_, _, h⟩
              rw [hn] at h
              simp only [Bool.false_eq_true, if_false] at h; omega
            rw [hv]
            exact int_stop3 x x w ht h1 k2 (by rw [k3, decide_eq_true (c2.2 hfar)])
          · have hv : intV x = ((FL (ru x) : Int), true) := by
              unfold intV; rw [if_pos, hn]; · rfl
              refine ⟨hfin, hw, ?_⟩
              rw [hn]; simp only [Bool.false_eq_true, if_false]; omega
            rw [hv]
            have h5 := to_int x hx hfin (fun h => by rw [hn] at h; cases h) (fun _ => by omega)
            rw [hn] at h5
            exact int_go x x _ w hx ht h1 k2 (by rw [k3, decide_eq_false (fun h => hfar (c2.1 h))]) (by rw [hn, Bool.and_false]) h5
        · rw [hn, Bool.true_and] at k2
          rw [hn, Bool.not_true, Bool.false_and] at k3
          by_cases hfar : 9223372036854775808 < FL (ru x)
          · have hv : intV x = (0, false) := by
              unfold intV; rw [if_neg]
              rintro ⟨_, _, h⟩
              rw [hn] at h
              simp only [if_true] at h; omega
            rw [hv]
            exact int_stop2 x x w ht h1 (by rw [k2, decide_eq_true (c1.2 hfar)])
          · by_cases h0 : ru x = 0
            · have hv : intV x = (0, false) := by
                unfold intV; rw [if_neg]
                rintro ⟨_, _, h⟩
                rw [hn] at h
                simp only [if_true] at h
                exact h.1 (c3.1 h0)
              rw [hv]
              exact int_stop4 x x w hx hn ht h1 (by rw [k2, decide_eq_false (fun h => hfar (c1.1 h))]) k3 (by rw [k4, decide_eq_true h0])
            · have hv : intV x = (-(FL (ru x) : Int), true) := by
                unfold intV; rw [if_pos, hn]; · rfl
                refine ⟨hfin, hw, ?_⟩
                rw [hn]; simp only [if_true]
                exact ⟨fun h => h0 (c3.2 h), by omega⟩
              rw [hv]
              have h5 := to_int x hx hfin (fun _ => by omega) (fun h => by rw [hn] at h; cases h)
              rw [hn] at h5
              exact int_go x x _ w hx ht h1 (by rw [k2, decide_eq_false (fun h => hfar (c1.1 h))]) k3 (by rw [k4, decide_eq_false h0, Bool.false_and]) h5
      · have hv : intV x = (0, false) := by unfold intV; rw [if_neg (fun h => hw h.2.1)]
        rw [hv]
        obtain ⟨t1, t2, t3, t4⟩ := tr_part x hx hfin hw
        refine int_stop1 x w (ht.mono ?_)
        rintro e w' ⟨rfl, rfl⟩
        refine ⟨⟨_, rfl, ?_⟩, Below.refl _ _⟩
        show (double.order x (trN x) == _) = _
        rw [order_any x _ hx t1 (by omega) t2, cmp_eq, sv_ng, sv_ng, t3]
        refine decide_eq_false ?_
        cases ngB x
        · simp only [Bool.false_eq_true, if_false]; omega
        · simp only [if_true]; omega
end Go.Proofs.YtmhagigokgklaaaGreatDoor

/- works. -/
namespace Go.Proofs.YtmhagigokgklaaaGreatDoor
open Go Go.RowKit Go.Sort Go.Lib

set_option exponentiation.threshold 5000
theorem near_tenth : Near (dX 1 (-1)) (dQ (-1)) 4591870180066957722 :=
  ⟨by decide, by decide, by decide +kernel, by decide +kernel⟩
theorem near_31 : Near (2 * (31 * 2 ^ 1074)) 1 4629418941960159232 :=
  ⟨by decide, by decide, by decide +kernel, by decide +kernel⟩
theorem show_tenth : showB 4591870180066957722 = [48, 46, 49] := by decide +kernel
theorem show_31 : showB 4629418941960159232 = [51, 49] := by decide +kernel
theorem show_ninf : showB 18442240474082181120 = [45, 73, 110, 102, 105, 110, 105, 116, 121] := by decide +kernel
theorem show_100 : showB 4636737291354636288 = [49, 48, 48] := by decide +kernel
theorem show_least : showB 1 = [53, 101, 45, 51, 50, 52] := by decide +kernel
theorem show_nzero : showB 9223372036854775808 = [45, 48] := by decide +kernel
theorem oi_100 : oiN 100 = 4636737291354636288 := by decide +kernel
theorem int_100 : intV 4636737291354636288 = (100, true) := by decide +kernel
theorem dec_tenth : decB [48, 46, 49] = true := by decide +kernel
theorem dec_01 : decB [48, 49] = false := by decide +kernel

theorem is_tenth : DecIs [48, 46, 49] [48, 49] (-1) :=
  ⟨[48], [49], true, [48, 46, 49], ⟨rfl, by intro x hx; simp at hx; subst hx; exact ⟨by decide, by decide⟩, by intro x hx; simp at hx; subst hx; exact ⟨by decide, by decide⟩, by simp⟩, by simp, rfl, .inl ⟨by decide, rfl⟩⟩

theorem parse_1 (K : Nat) (w : World) (hG : Globs w) (hT : GlobT K w) :
    Calls Tryz.prog 11 #[.string ⟨#[48, 46, 49]⟩] w fun e w' => e = .returned (.tuple #[.int .u64 4591870180066957722, .int .i64 0]) ∧ Below w.heap.size w w' := by
  refine (parse_small ⟨#[48, 46, 49]⟩ false [48, 46, 49] [48, 49] (-1) K w hG hT rfl (by decide) dec_tenth is_tenth (by decide)).mono ?_
  rintro e w' ⟨r, hn, rfl, hb⟩
  have : r = 4591870180066957722 := near_unique hn near_tenth
  subst this
  exact ⟨rfl, hb⟩
theorem hexok_31 : HexOK 16 [49, 70] := ⟨by decide +kernel, by show ∀ x ∈ noBars [49, 70], 0 ≤ hexI x.toNat ∧ hexI x.toNat < ((16 : Nat) : Int); decide +kernel⟩
theorem parse_2 (K : Nat) (w : World) (hG : Globs w) (hT : GlobT K w) :
    Calls Tryz.prog 11 #[.string ⟨#[48, 120, 49, 70]⟩] w fun e w' => e = .returned (.tuple #[.int .u64 4629418941960159232, .int .i64 0]) ∧ Below w.heap.size w w' := by
  refine (parse_hex ⟨#[48, 120, 49, 70]⟩ false 120 [49, 70] 120 16 4 K w hG hT rfl (by simp) (by decide) (by decide +kernel) (.inl ⟨rfl, rfl, rfl⟩)).mono ?_
  rintro e w' (⟨_, r, hn, rfl, hb⟩ | ⟨h, _⟩)
  · have : r = 4629418941960159232 := near_unique hn near_31
    subst this
    exact ⟨rfl, hb⟩
  · exact absurd hexok_31 h
theorem parse_3 (w : World) :
    Calls Tryz.prog 11 #[.string ⟨#[45, 73, 110, 102, 105, 110, 105, 116, 121]⟩] w fun e w' => e = .returned (.tuple #[.int .u64 18442240474082181120, .int .i64 0]) ∧ Below w.heap.size w w' :=
  parse_inf _ true w rfl
theorem parse_4 (w : World) :
    Calls Tryz.prog 11 #[.string ⟨#[48, 49]⟩] w fun e w' => e = .returned (.tuple #[.int .u64 0, .int .i64 150]) ∧ Below w.heap.size w w' :=
  parse_refused _ false [48, 49] w rfl (fun _ => by decide) (by decide) (by decide) (by decide) rfl dec_01

set_option maxRecDepth 100000 in
set_option maxHeartbeats 4000000 in
theorem works_any (K : Nat) (w : World) (hG : Globs w) (hT : GlobT K w) :
    Calls Tryz.prog 10 #[] w fun e w' => e = .returned (.bool true) ∧ Below w.heap.size w w' := by
  have HG := Lib.hid hG
  have HT := Lib.hid hT
  have HS : Hid (∀ (x : Nat) (W : World), Below w.heap.size w W → x < 18446744073709551616 → Calls Tryz.prog 13 #[.int .u64 x] W fun e w' => e = .returned (.string ⟨(showB x).toArray⟩) ∧ Below w.heap.size w w') := Lib.hid fun x W hb hx =>
    (show_any x W (HG.out.on hb) hx).mono (by rintro e w' ⟨rfl, h⟩; exact ⟨rfl, hb.trans (h.mono hb.size)⟩)
  have h1 : ∀ W : World, Below w.heap.size w W → Calls Tryz.prog 13 #[.int .u64 4591870180066957722] W fun e w' => e = .returned (.string ⟨#[48, 46, 49]⟩) ∧ Below w.heap.size w w' := fun W hb => by
    have := HS.out 4591870180066957722 W hb (by decide)
    rw [show_tenth] at this; exact this
  have h2 : ∀ W : World, Below w.heap.size w W → Calls Tryz.prog 13 #[.int .u64 4629418941960159232] W fun e w' => e = .returned (.string ⟨#[51, 49]⟩) ∧ Below w.heap.size w w' := fun W hb => by
    have := HS.out 4629418941960159232 W hb (by decide)
    rw [show_31] at this; exact this
  have h3 : ∀ W : World, Below w.heap.size w W → Calls Tryz.prog 13 #[.int .u64 18442240474082181120] W fun e w' => e = .returned (.string ⟨#[45, 73, 110, 102, 105, 110, 105, 116, 121]⟩) ∧ Below w.heap.size w w' := fun W hb => by
    have := HS.out 18442240474082181120 W hb (by decide)
    rw [show_ninf] at this; exact this
  have h4 : ∀ W : World, Below w.heap.size w W → Calls Tryz.prog 13 #[.int .u64 4636737291354636288] W fun e w' => e = .returned (.string ⟨#[49, 48, 48]⟩) ∧ Below w.heap.size w w' := fun W hb => by
    have := HS.out 4636737291354636288 W hb (by decide)
    rw [show_100] at this; exact this
  have h5 : ∀ W : World, Below w.heap.size w W → Calls Tryz.prog 13 #[.int .u64 1] W fun e w' => e = .returned (.string ⟨#[53, 101, 45, 51, 50, 52]⟩) ∧ Below w.heap.size w w' := fun W hb => by
    have := HS.out 1 W hb (by decide)
    rw [show_least] at this; exact this
  have h6 : ∀ W : World, Below w.heap.size w W → Calls Tryz.prog 13 #[.int .u64 9223372036854775808] W fun e w' => e = .returned (.string ⟨#[45, 48]⟩) ∧ Below w.heap.size w w' := fun W hb => by
    have := HS.out 9223372036854775808 W hb (by decide)
    rw [show_nzero] at this; exact this
  have h7 : ∀ W : World, Calls Tryz.prog 17 #[.int .i64 100] W fun e w' => e = .returned (.int .u64 4636737291354636288) ∧ w' = W := fun W => by
    have := ofint_any 100 W
    rw [oi_100] at this; exact this
  have h8 : ∀ W : World, Below w.heap.size w W → Calls Tryz.prog 15 #[.int .u64 4636737291354636288] W fun e w' => e = .returned (.tuple #[.int .i64 100, .bool true]) ∧ Below w.heap.size w w' := fun W hb => by
    have := int_any 4636737291354636288 W (by decide)
    rw [int_100] at this
    exact this.mono (by rintro e w' ⟨rfl, h⟩; exact ⟨rfl, hb.trans (h.mono hb.size)⟩)
  have p1 : ∀ W : World, Below w.heap.size w W → Calls Tryz.prog 11 #[.string ⟨#[48, 46, 49]⟩] W fun e w' => e = .returned (.tuple #[.int .u64 4591870180066957722, .int .i64 0]) ∧ Below w.heap.size w w' := fun W hb =>
    (parse_1 K W (HG.out.on hb) (HT.out.on hb)).mono (by rintro e w' ⟨rfl, h⟩; exact ⟨rfl, hb.trans (h.mono hb.size)⟩)
  have p2 : ∀ W : World, Below w.heap.size w W → Calls Tryz.prog 11 #[.string ⟨#[48, 120, 49, 70]⟩] W fun e w' => e = .returned (.tuple #[.int .u64 4629418941960159232, .int .i64 0]) ∧ Below w.heap.size w w' := fun W hb =>
    (parse_2 K W (HG.out.on hb) (HT.out.on hb)).mono (by rintro e w' ⟨rfl, h⟩; exact ⟨rfl, hb.trans (h.mono hb.size)⟩)
  have p3 : ∀ W : World, Below w.heap.size w W → Calls Tryz.prog 11 #[.string ⟨#[45, 73, 110, 102, 105, 110, 105, 116, 121]⟩] W fun e w' => e = .returned (.tuple #[.int .u64 18442240474082181120, .int .i64 0]) ∧ Below w.heap.size w w' := fun W hb =>
    (parse_3 W).mono (by rintro e w' ⟨rfl, h⟩; exact ⟨rfl, hb.trans (h.mono hb.size)⟩)
  have p4 : ∀ W : World, Below w.heap.size w W → Calls Tryz.prog 11 #[.string ⟨#[48, 49]⟩] W fun e w' => e = .returned (.tuple #[.int .u64 0, .int .i64 150]) ∧ Below w.heap.size w w' := fun W hb =>
    (parse_4 W).mono (by rintro e w' ⟨rfl, h⟩; exact ⟨rfl, hb.trans (h.mono hb.size)⟩)
  have H1 := Lib.hid h1
  have H2 := Lib.hid h2
  have H3 := Lib.hid h3
  have H4 := Lib.hid h4
  have H5 := Lib.hid h5
  have H6 := Lib.hid h6
  have H7 := Lib.hid h7
  have H8 := Lib.hid h8
  have P1 := Lib.hid p1
  have P2 := Lib.hid p2
  have P3 := Lib.hid p3
  have P4 := Lib.hid p4
  clear h1 h2 h3 h4 h5 h6 h7 h8 p1 p2 p3 p4 hG hT
  have B0 := Below.refl w.heap.size w
  go_enter Tryz.func10, Tryz.ntmps10
  go_wp2_with fail
  refine (P1.out _ B0).mono ?_
  rintro e w1 ⟨rfl, B1⟩
  go_wp2_with fail
  refine (P2.out _ B1).mono ?_
  rintro e w2 ⟨rfl, B2⟩
  go_wp2_with fail
  refine (P3.out _ B2).mono ?_
  rintro e w3 ⟨rfl, B3⟩
  go_wp2_with fail
  refine (P4.out _ B3).mono ?_
  rintro e w4 ⟨rfl, B4⟩
  go_wp2_with fail
  refine (H7.out _).mono ?_
  rintro e w5 ⟨rfl, h5⟩
  subst h5
  go_wp2_with fail
  refine (H8.out _ B4).mono ?_
  rintro e w6 ⟨rfl, B6⟩
  go_wp2_with fail
  refine (H1.out _ B6).mono ?_
  rintro e w7 ⟨rfl, B7⟩
  go_wp2_with fail
  refine (H2.out _ B7).mono ?_
  rintro e w8 ⟨rfl, B8⟩
  go_wp2_with fail
  refine (H3.out _ B8).mono ?_
  rintro e w9 ⟨rfl, B9⟩
  go_wp2_with fail
  refine (H4.out _ B9).mono ?_
  rintro e wa ⟨rfl, Ba⟩
  go_wp2_with fail
  refine (H5.out _ Ba).mono ?_
  rintro e wb ⟨rfl, Bb⟩
  go_wp2_with fail
  refine (H6.out _ Bb).mono ?_
  rintro e wc ⟨rfl, Bc⟩
  go_wp2_with fail
  go_ret
  exact ⟨rfl, Bc⟩
end Go.Proofs.YtmhagigokgklaaaGreatDoor

/- From the rows' conditions to what the walks of num ask: the library's tables. -/
namespace Go.Proofs.YtmhagigokgklaaaGreatDoor
open Go Go.ChangeShapes Go.WideShapes Go.ChangeAt Go.RowKit Go.Lib Go.Deep

theorem own : ownKnob Tryz.prog.godebug = Option.none := by kernel_rfl
theorem laidOut : laidOutB Tryz.prog = true := by kernel_rfl

def laidL : List (String × DataW Unit) := Rows.numOrderRow.laid

/-- the variable's cells, and that they are such -/
theorem reads_at {W : World} (h : laidMet Tryz.prog laidL W) {n : String} {d : DataW Unit} (hm : (n, d) ∈ laidL) {g : Nat} {t : TypeId} (hg : Tryz.prog.globalNamed n = some g) (ht : (Tryz.prog.globals[g]?).map (·.type) = some t) :
    ∃ (cs : Array Value) (fuel : Nat) (p : List MemPlace), W.var? Tryz.prog n = some cs ∧ DataW.trod (fun _ => ()) Tryz.prog W 0 (fun _ => true) false fuel t cs.toList = some (d, p) := by
  obtain ⟨g', t', cs, fuel, p, hg', ht', hv, hd⟩ := laidMet.reads h hm
  obtain rfl := Option.some.inj (hg.symm.trans hg')
  obtain rfl := Option.some.inj (ht.symm.trans ht')
  exact ⟨cs, fuel, p, hv, hd⟩

theorem trod_float1 {W : World} {k : FloatKind} {t : TypeId} {fuel : Nat} {v : Value} {d : DataW Unit} {p : List MemPlace} {b : Nat} (ht : Tryz.prog.underlying t = some (.float k))
    (h : DataW.trod (fun _ => ()) Tryz.prog W 0 (fun _ => true) false fuel t [v] = some (d, p)) (hd : d = .lit (.float k b)) : v = .float k b := by
  cases fuel with
  | zero => simp [DataW.trod] at h
  | succ n =>
    unfold DataW.trod at h
    rw [ht] at h
    split at h <;> simp_all
theorem trod_iface1 {W : World} {ms : Array (String × TypeId)} {t : TypeId} {fuel : Nat} {cs : List Value} {nm : String} {d : DataW Unit} {p : List MemPlace} (ht : Tryz.prog.underlying t = some (.interface ms))
    (h : DataW.trod (fun _ => ()) Tryz.prog W 0 (fun _ => true) false fuel t cs = some (.iface nm d, p)) : ∃ te pe, cs = [.iface te pe] := by
  cases fuel with
  | zero => simp [DataW.trod] at h
  | succ n =>
    unfold DataW.trod at h
    rw [ht] at h
    split at h <;> simp_all

theorem g_deb : Tryz.prog.globalNamed "math/bits.deBruijn64tab" = some 16 := by kernel_rfl
theorem y_deb : (Tryz.prog.globals[16]?).map (·.type) = some 217 := by kernel_rfl
theorem g_f32 : Tryz.prog.globalNamed "internal/strconv.float32info" = some 8 := by kernel_rfl
theorem y_f32 : (Tryz.prog.globals[8]?).map (·.type) = some 172 := by kernel_rfl
theorem g_f64 : Tryz.prog.globalNamed "internal/strconv.float64info" = some 9 := by kernel_rfl
theorem y_f64 : (Tryz.prog.globals[9]?).map (·.type) = some 172 := by kernel_rfl
theorem g_opt : Tryz.prog.globalNamed "internal/strconv.optimize" = some 4 := by kernel_rfl
theorem y_opt : (Tryz.prog.globals[4]?).map (·.type) = some 4 := by kernel_rfl
theorem g_p10 : Tryz.prog.globalNamed "internal/strconv.float64pow10" = some 12 := by kernel_rfl
theorem y_p10 : (Tryz.prog.globals[12]?).map (·.type) = some 207 := by kernel_rfl
theorem y_u10 : (Tryz.prog.globals[7]?).map (·.type) = some 161 := by kernel_rfl
theorem g_rng : Tryz.prog.globalNamed "strconv.ErrRange" = some 3 := by kernel_rfl
theorem y_rng : (Tryz.prog.globals[3]?).map (·.type) = some 48 := by kernel_rfl
theorem g_pow : Tryz.prog.globalNamed "internal/strconv.pow10Tab" = some 13 := by kernel_rfl
theorem y_pow : (Tryz.prog.globals[13]?).map (·.type) = some 211 := by kernel_rfl

theorem c_deb : Tryz.prog.cellsOf 217 = 64 := by kernel_rfl
theorem c_u8 : Tryz.prog.cellsOf 5 = 1 := by kernel_rfl
theorem c_u64 : Tryz.prog.cellsOf 23 = 1 := by kernel_rfl
theorem c_f64 : Tryz.prog.cellsOf 43 = 1 := by kernel_rfl
theorem c_u10 : Tryz.prog.cellsOf 161 = 20 := by kernel_rfl
theorem c_128 : Tryz.prog.cellsOf 210 = 2 := by kernel_rfl
theorem c_inf : Tryz.prog.cellsOf 172 = 3 := by kernel_rfl
theorem c_uint : Tryz.prog.cellsOf 105 = 1 := by kernel_rfl
theorem c_int : Tryz.prog.cellsOf 3 = 1 := by kernel_rfl
def debL : List Int := [0, 1, 56, 2, 57, 49, 28, 3, 61, 58, 42, 50, 38, 29, 17, 4, 62, 47, 59, 36, 45, 43, 51, 22, 53, 39, 33, 30, 24, 18, 12, 5, 63, 55, 48, 27, 60, 41, 37, 16, 46, 35, 44, 21, 52, 32, 23, 11, 54, 26, 40, 15, 34, 20, 31, 10, 25, 14, 19, 9, 13, 8, 7, 6]
theorem d_deb : (Rows.laid_math_bits_deBruijn64tab : DataW Unit) = tabData .u8 debL := by kernel_rfl
theorem d_u10 : (Rows.laid_internal_strconv_uint64pow10 : DataW Unit) = tabData .u64 Lib.pow10Tab := by kernel_rfl
theorem d_p10 : (Rows.laid_internal_strconv_float64pow10 : DataW Unit) = .slice ((List.range 23).map fun k => .lit (.float .f64 (p10N k))) [] := by kernel_rfl

theorem plain_laid {W : World} (h : laidMetH Tryz.prog laidL W) : laidMet Tryz.prog laidL W := by
  rwa [MakeChecks.laidMetH_plain _ _ _ (by kernel_rfl)] at h

theorem deb_of {W : World} (h : laidMet Tryz.prog laidL W) : W.cell? ⟨16, 1, Option.none⟩ = some (.int .u8 1) ∧ W.cell? ⟨16, 15, Option.none⟩ = some (.int .u8 4) := by
  obtain ⟨cs, fuel, p, hv, hd⟩ := reads_at h (n := "math/bits.deBruijn64tab") (d := Rows.laid_math_bits_deBruijn64tab) (by simp [laidL, Rows.numOrderRow]) g_deb y_deb
  rw [d_deb] at hd
  have hcs := cells_of_tab Tryz.underlying217 Tryz.underlying5 c_u8 c_deb hd
  constructor
  · rw [World.var?_cell g_deb hv 1, ← Array.getElem?_toList, hcs]; rfl
  · rw [World.var?_cell g_deb hv 15, ← Array.getElem?_toList, hcs]; rfl
theorem u10_of {W : World} (h : laidMet Tryz.prog laidL W) : Lib.TabIs Tryz.prog W "internal/strconv.uint64pow10" .u64 Lib.pow10Tab := by
  obtain ⟨cs, fuel, p, hv, hd⟩ := reads_at h (n := "internal/strconv.uint64pow10") (d := Rows.laid_internal_strconv_uint64pow10) (by simp [laidL, Rows.numOrderRow]) u10_num y_u10
  rw [d_u10] at hd
  have hcs := cells_of_tab Tryz.underlying161 Tryz.underlying23 c_u64 c_u10 hd
  unfold Lib.TabIs
  rw [hv, ← hcs]
theorem inf_of {W : World} (h : laidMet Tryz.prog laidL W) : W.cell? ⟨9, 0, Option.none⟩ = some (.int .u64 52) ∧ W.cell? ⟨9, 1, Option.none⟩ = some (.int .u64 11) ∧ W.cell? ⟨9, 2, Option.none⟩ = some (.int .i64 (-1023)) := by
  obtain ⟨cs, fuel, p, hv, hd⟩ := reads_at h (n := "internal/strconv.float64info") (d := Rows.laid_internal_strconv_float64info) (by simp [laidL, Rows.numOrderRow]) g_f64 y_f64
  obtain ⟨xs, n, _, hx, hl, hxl, hall⟩ := DataW.trod_struct Tryz.underlying172 hd
  rw [c_inf] at hl
  have hx1 : xs.map (·.1) = [.lit (.int .u64 52), .lit (.int .u64 11), .lit (.int .i64 (-1023))] := by
    have := congrArg Prod.fst hx
    simpa [Rows.laid_internal_strconv_float64info] using this.symm
  have h0 := hall 0 _ rfl
  have h1 := hall 1 _ rfl
  have h2 := hall 2 _ rfl
  obtain ⟨c0, c1, c2, e⟩ : ∃ a b c, cs.toList = [a, b, c] := by
    match cs.toList, hl with
    | [a, b, c], _ => exact ⟨a, b, c, rfl⟩
  obtain ⟨x0, x1, x2, e2⟩ : ∃ a b c, xs = [a, b, c] := by
    match xs, hxl with
    | [a, b, c], _ => exact ⟨a, b, c, rfl⟩
  rw [e2] at hx1 h0 h1 h2
  rw [e] at h0 h1 h2
  simp only [List.map_cons, List.map_nil, List.cons.injEq, and_true] at hx1
  obtain ⟨p0, p1, p2⟩ := hx1
  replace h0 : DataW.trod (fun _ => ()) Tryz.prog W 0 (fun _ => true) false n 105 (List.take (Tryz.prog.cellsOf 105) [c0, c1, c2]) = some x0 := h0
  replace h1 : DataW.trod (fun _ => ()) Tryz.prog W 0 (fun _ => true) false n 105 (List.take (Tryz.prog.cellsOf 105) [c1, c2]) = some x1 := h1
  replace h2 : DataW.trod (fun _ => ()) Tryz.prog W 0 (fun _ => true) false n 3 (List.take (Tryz.prog.cellsOf 3) [c2]) = some x2 := h2
  rw [c_uint] at h0 h1
  rw [c_int] at h2
  obtain ⟨a0, q0, r0, _⟩ := DataW.trod_int Tryz.underlying105 h0
  obtain ⟨a1, q1, r1, _⟩ := DataW.trod_int Tryz.underlying105 h1
  obtain ⟨a2, q2, r2, _⟩ := DataW.trod_int Tryz.underlying3 h2
  rw [r0] at p0
  rw [r1] at p1
  rw [r2] at p2
  simp only [DataW.lit.injEq, Lit.int.injEq, true_and] at p0 p1 p2
  simp only [List.take_succ_cons, List.take_zero, List.cons.injEq, and_true] at q0 q1 q2
  subst p0 p1 p2 q0 q1 q2
  refine ⟨?_, ?_, ?_⟩
  · rw [World.var?_cell g_f64 hv 0, ← Array.getElem?_toList, e]; rfl
  · rw [World.var?_cell g_f64 hv 1, ← Array.getElem?_toList, e]; rfl
  · rw [World.var?_cell g_f64 hv 2, ← Array.getElem?_toList, e]; rfl
theorem opt_of {W : World} (h : laidMet Tryz.prog laidL W) : W.cell? ⟨4, 0, Option.none⟩ = some (.bool true) := by
  obtain ⟨cs, fuel, p, hv, hd⟩ := reads_at h (n := "internal/strconv.optimize") (d := Rows.laid_internal_strconv_optimize) (by simp [laidL, Rows.numOrderRow]) g_opt y_opt
  obtain ⟨b, hcs, hx⟩ := DataW.trod_bool Tryz.underlying4 hd
  have hb : b = true := by
    have := congrArg Prod.fst hx
    simpa [Rows.laid_internal_strconv_optimize] using this.symm
  rw [World.var?_cell g_opt hv 0, ← Array.getElem?_toList, hcs, hb]; rfl
theorem rng_of {W : World} (h : laidMet Tryz.prog laidL W) : ∃ te pe, W.cell? ⟨3, 0, Option.none⟩ = some (.iface te pe) := by
  obtain ⟨cs, fuel, p, hv, hd⟩ := reads_at h (n := "strconv.ErrRange") (d := Rows.laid_strconv_ErrRange) (by simp [laidL, Rows.numOrderRow]) g_rng y_rng
  obtain ⟨te, pe, hcs⟩ := trod_iface1 Tryz.underlying48 hd
  exact ⟨te, pe, by rw [World.var?_cell g_rng hv 0, ← Array.getElem?_toList, hcs]; rfl⟩
theorem block_of {W : World} {n : String} {g : Nat} {cs : Array Value} (hg : Tryz.prog.globalNamed n = some g) (hv : W.var? Tryz.prog n = some cs) : g < W.heap.size := by
  unfold World.var? at hv
  rw [hg] at hv
  simp only [Option.bind_some] at hv
  by_cases hlt : g < W.heap.size
  · exact hlt
  · rw [Array.getElem?_eq_none (by omega)] at hv
    exact absurd hv (by simp)
theorem p10_of {W : World} (h : laidMet Tryz.prog laidL W) : ∃ b o cap : Nat, b < W.heap.size ∧ W.cell? ⟨12, 0, Option.none⟩ = some (.slice (some ⟨b, o, Option.none⟩) 23 cap) ∧ ∀ k, k < 23 → W.cell? ⟨b, o + k, Option.none⟩ = some (.float .f64 (p10N k)) := by
  obtain ⟨cs, fuel, p, hv, hd⟩ := reads_at h (n := "internal/strconv.float64pow10") (d := Rows.laid_internal_strconv_float64pow10) (by simp [laidL, Rows.numOrderRow]) g_p10 y_p10
  rw [d_p10] at hd
  rcases open_slice1 Tryz.underlying207 c_f64 hd with ⟨_, hx⟩ | ⟨a, len, cap, m, n, Vv, D, Pl, hcs, _, hl, hm, hmm, hx, hi⟩
  · cases hx
  · have hx1 := congrArg Prod.fst hx
    simp only [DataW.slice.injEq] at hx1
    obtain ⟨hx2, _⟩ := hx1
    have hlen : len = 23 := by
      have := congrArg List.length hx2
      simpa using this.symm
    subst hlen
    have hD : ∀ k, k < 23 → D k = .lit (.float .f64 (p10N k)) := fun k hk => by
      have := congrArg (·[k]?) hx2
      simp only [List.getElem?_map, List.getElem?_range hk, Option.map_some, Option.some.injEq] at this
      exact this.symm
    have hm23 : 23 ≤ m := by rw [hmm]; split <;> omega
    obtain ⟨ab, ao, asp⟩ := a
    have hsp : asp = Option.none := by
      have h0 := (hi 0 (by omega)).1
      have e : (⟨ab, ao, asp⟩ : Addr).add 0 = ⟨ab, ao, asp⟩ := by unfold Addr.add; cases asp <;> simp
      rw [e] at h0
      exact cell_spot h0
    subst hsp
    have hc : ∀ k, k < 23 → W.cell? ⟨ab, ao + k, Option.none⟩ = some (.float .f64 (p10N k)) := fun k hk => by
      obtain ⟨h1, h2⟩ := hi k (by omega)
      have e : (⟨ab, ao, Option.none⟩ : Addr).add k = ⟨ab, ao + k, Option.none⟩ := by unfold Addr.add; simp
      rw [e] at h1
      rw [h1, trod_float1 Tryz.underlying43 h2 (hD k hk)]
    refine ⟨ab, ao, cap, ?_, ?_, hc⟩
    · have h0 := hc 0 (by decide)
      by_cases hlt : ab < W.heap.size
      · exact hlt
      · exfalso
        unfold World.cell? at h0
        simp only at h0
        rw [Array.getElem?_eq_none (by omega)] at h0
        exact absurd h0 (by simp)
    · rw [World.var?_cell g_p10 hv 0, ← Array.getElem?_toList, hcs]; rfl
theorem pow_of {W : World} (h : laidMet Tryz.prog laidL W) : ∀ i, i < 696 → W.cell? ⟨13, i * 2, Option.none⟩ = some (.int .u64 (hiN i)) ∧ W.cell? ⟨13, i * 2 + 1, Option.none⟩ = some (.int .u64 (loN i)) := by
  obtain ⟨cs, fuel, p, hv, hd⟩ := reads_at h (n := "internal/strconv.pow10Tab") (d := Rows.laid_internal_strconv_pow10Tab) (by simp [laidL, Rows.numOrderRow]) g_pow y_pow
  intro i hi
  unfold Rows.laid_internal_strconv_pow10Tab Go.Pinned.pow10Tab at hd
  obtain ⟨fuel', d, q, hdi, he⟩ := array_elem Tryz.underlying211 hd i hi
  have hlen : Go.Pinned.pow10Rows.length = 696 := by decide +kernel
  rw [List.getElem?_map, List.getElem?_eq_getElem (by omega), Option.map_some, Option.some.injEq] at hdi
  subst hdi
  rw [c_128] at he
  have hcs := ints_of_struct (zs := [((Go.Pinned.pow10Rows[i]'(by omega)).1 : Int), ((Go.Pinned.pow10Rows[i]'(by omega)).2 : Int)]) Tryz.underlying210 (fun j f hj => by
    match j, hj with
    | 0, hj => simp at hj; subst hj; exact ⟨Tryz.underlying23, rfl, c_u64⟩
    | 1, hj => simp at hj; subst hj; exact ⟨Tryz.underlying23, rfl, c_u64⟩
    | j + 2, hj => simp at hj) (by rw [c_128]; rfl) he
  have e0 := congrArg (·[0]?) hcs
  have e1 := congrArg (·[1]?) hcs
  simp only [List.getElem?_take, List.getElem?_drop] at e0 e1
  have hh : Go.Pinned.pow10Rows.getD i (0, 0) = Go.Pinned.pow10Rows[i]'(by omega) := by
    rw [List.getD_eq_getElem?_getD, List.getElem?_eq_getElem (by omega), Option.getD_some]
  unfold hiN loN
  rw [hh]
  constructor
  · rw [World.var?_cell g_pow hv (i * 2), ← Array.getElem?_toList]
    simpa using e0
  · rw [World.var?_cell g_pow hv (i * 2 + 1), ← Array.getElem?_toList]
    simpa using e1

theorem laid_place {W : World} : ∀ {l : List (String × DataW Unit)} {ps : List MemPlace}, DataW.LaidVars Tryz.prog W l ps → ∀ n d, (n, d) ∈ l → ∀ g cs, Tryz.prog.globalNamed n = some g → W.var? Tryz.prog n = some cs → 0 < cs.size → MemPlace.cell g 0 ∈ ps
  | [], _, _, _, _, hm, _, _, _, _, _ => by cases hm
  | (n', d') :: r, ps, h, n, d, hm, g, cs, hg, hv, h0 => by
    obtain ⟨g', t, cs', fuel, p, q, h1, h2, h3, h4, h5, rfl⟩ := h
    rcases List.mem_cons.1 hm with e | e
    · cases e
      obtain rfl := Option.some.inj (hg.symm.trans h1)
      obtain rfl := Option.some.inj (hv.symm.trans h3)
      rw [List.mem_append, List.mem_append]
      exact .inl (.inl (MemPlace.mem_row.2 ⟨0, h0, rfl⟩))
    · rw [List.mem_append]
      exact .inr (laid_place h5 n d e g cs hg hv h0)
theorem row_at {W : World} (h : laidMet Tryz.prog laidL W) {n : String} {d : DataW Unit} (hm : (n, d) ∈ laidL) {g : Nat} (hg : Tryz.prog.globalNamed n = some g) {cs : Array Value} (hv : W.var? Tryz.prog n = some cs) (h0 : 0 < cs.size) :
    ∃ c t, W.heap[g]? = some (.cells c t (0, 0)) := by
  obtain ⟨ps, hl, _, hall⟩ := h
  exact (hall g 0 (laid_place hl n d hm g cs hg hv h0)).1
theorem blk_of {W : World} (h : laidMet Tryz.prog laidL W) : ∃ (ca cb : Array Value) (ta tb : TypeId), W.heap[(8 : Nat)]? = some (.cells ca ta (0, 0)) ∧ W.heap[(9 : Nat)]? = some (.cells cb tb (0, 0)) := by
  have m1 : ("internal/strconv.float32info", Rows.laid_internal_strconv_float32info) ∈ laidL := by simp [laidL, Rows.numOrderRow]
  have m2 : ("internal/strconv.float64info", Rows.laid_internal_strconv_float64info) ∈ laidL := by simp [laidL, Rows.numOrderRow]
  obtain ⟨cs, fuel, p, hv, hd⟩ := reads_at h m1 g_f32 y_f32
  obtain ⟨cs2, fuel2, p2, hv2, hd2⟩ := reads_at h m2 g_f64 y_f64
  obtain ⟨xs, n, _, _, hl, _⟩ := DataW.trod_struct Tryz.underlying172 hd
  obtain ⟨xs2, n2, _, _, hl2, _⟩ := DataW.trod_struct Tryz.underlying172 hd2
  rw [c_inf] at hl hl2
  obtain ⟨ca, ta, ha⟩ := row_at h m1 g_f32 hv (by simp at hl; omega)
  obtain ⟨cb, tb, hb⟩ := row_at h m2 g_f64 hv2 (by simp at hl2; omega)
  exact ⟨ca, cb, ta, tb, ha, hb⟩
theorem heap_17 {W : World} (h : laidMet Tryz.prog laidL W) : 17 ≤ W.heap.size := by
  obtain ⟨cs, fuel, p, hv, hd⟩ := reads_at h (n := "math/bits.deBruijn64tab") (d := Rows.laid_math_bits_deBruijn64tab) (by simp [laidL, Rows.numOrderRow]) g_deb y_deb
  exact block_of g_deb hv

theorem glob_of_laid {W : World} (h : laidMetH Tryz.prog laidL W) (hsh : W.ShapedOpen Tryz.prog) : Globs W ∧ GlobT W.heap.size W := by
  have h' := plain_laid h
  refine ⟨⟨⟨heap_17 h', pow_of h', u10_of h', opt_of h'⟩, ?_⟩, ⟨heap_17 h', Nat.le_refl _, inf_of h', p10_of h', deb_of h', blk_of h', rng_of h'⟩⟩
  exact cell_of_shapedOpen_int (zero := #[.int .i64 0]) (t := 3) hsh (of_decide_eq_true (by kernel_rfl)) (by kernel_rfl) (by kernel_rfl) (by kernel_rfl) (by kernel_rfl) Tryz.underlying3

theorem laid_plain : (laidL.all fun x => x.2.handleName?.isNone) = true := by kernel_rfl
theorem all_met (os : Os) (args : Array Value) : laidMetH Tryz.prog laidL ((World.laidAll Tryz.prog os laidL).forCall (fun _ _ => 0) ⟨#[], args, []⟩).memory := by
  rw [MakeChecks.laidMetH_plain _ _ _ laid_plain]
  exact laidMet_laidAll _ (by kernel_rfl) (by kernel_rfl)

variable {H : Type} {enc : TypeId × Value → H}

/-- a law that reads laid variables, with the world's shape -/
theorem handed_laid {a : Assume} {C : Checked} {os : Os} {f : FuncId} {fn : Func} {s : ChangeSpec} {conds : List PathCond} {apart fresh handsOn again : Bool} {X : World → Array Value → Prop}
    (hX : ∀ (w w' : World) (args : Array Value), w.heap = w'.heap → X w args → X w' args)
    (own : ownKnob C.prog.godebug = none) (started : os.Started) (noInit : C.prog.inits.idxOf? f = none) (hfn : C.prog.funcs[f]? = some fn)
    (witness : ∃ (w : World) (tape : Tape) (i : Input), w.os = os ∧ (w.forCall tape i).Shaped C.prog ∧ i.vars = [] ∧ Input.okWide C.prog (w.forCall tape i) .any w.heap.size f i ∧
      ((s.pre enc C.prog fn conds apart (w.forCall tape i).memory i.args ∧ X (w.forCall tape i).memory i.args) ∧ sizedMet enc C.prog fn (OpenSpec.ofChange s) apart (w.forCall tape i).memory i.args) ∧ a.holds C.prog (lone (Frame.enter C.prog f i.args .normal) [] (w.forCall tape i)))
    (contract : ∀ (W : World) (base : Nat) (args : Array Value) (ds gs : List (DataW H)) (before : List MemPlace),
      (∀ (j : Nat) t v, fn.params[j]? = some t → args[j]? = some v → Value.okWide C.prog W .any base t v) →
      DataW.Whole enc C.prog fn.params.toList s.vars apart W args.toList ds gs before → X W args → W.ShapedOpen C.prog →
      Calls C.prog f args W fun e W' => ∃ v, e = .returned v ∧ s.post enc C.prog fn apart fresh handsOn again W args v W') :
    ReturnsInHanded a C os f .any (fun w args => (s.pre enc C.prog fn conds apart w args ∧ X w args) ∧ sizedMet enc C.prog fn (OpenSpec.ofChange s) apart w args) (s.post enc C.prog fn apart fresh handsOn again) := by
  refine returnsInHanded_of_calls own started noInit witness ?_
  intro w tape i _ hsh _ hok hpre _
  obtain ⟨_, _, _, fn', hfn', _, _, _, _, hval⟩ := hok
  obtain rfl : fn' = fn := Option.some.inj (hfn'.symm.trans hfn)
  obtain ⟨⟨⟨ds, gs, before, hw, _⟩, hx⟩, _⟩ := hpre
  refine (contract (w.forCall tape i) w.heap.size i.args ds gs before hval (DataW.Whole.of_heap (w' := w.forCall tape i) (by rfl) hw) (hX _ _ _ (by rfl) hx) hsh).mono fun e W' ⟨v, he, hp⟩ => ?_
  subst he
  exact ChangeSpec.post_blind hp
end Go.Proofs.YtmhagigokgklaaaGreatDoor
