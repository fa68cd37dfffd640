/- Joined texts: Ps Pt Pu Pv Qa Qb Qc. Each begins with its own remark. -/
import Derived.Test.YtmhagigokgklaaaGreatDoorJk
import Derived.Deep.CutBlock
import Derived.Deep.DeepCutAuto
import Derived.Test.YtmhagigokgklaaaGreatDoorJg
import Derived.Test.YtmhagigokgklaaaGreatDoorJf

/- ParseFloat of hexadecimal whole numbers. -/
namespace Go.Proofs.YtmhagigokgklaaaGreatDoor
open Go Go.RowKit Go.Sort Go.Lib
set_option exponentiation.threshold 5000

theorem or_one_is (a : Nat) : a ||| 1 = 2 * (a / 2) + 1 := by
  have h2 := Nat.div_add_mod (a ||| 1) 2
  rw [Nat.or_div_two, Nat.or_mod_two_eq_one.2 (.inr rfl)] at h2
  rw [← h2]
  simp
theorem unr_parted (a b J : Nat) (hb : b < 2 ^ J) : unr (a * 2 ^ J + b) (2 ^ (J + 2)) = if b = 0 then a else a ||| 1 := by
  have h4 : 2 ^ (J + 2) = 4 * 2 ^ J := by rw [Nat.pow_add, Nat.mul_comm]
  have hp := Nat.two_pow_pos J
  rw [h4, unr_four _ _ hp]
  have h1 : (a * 2 ^ J + b) % 2 ^ J = b := by rw [Nat.mul_comm, Nat.mul_add_mod, Nat.mod_eq_of_lt hb]
  have h2 : (a * 2 ^ J + b) / 2 ^ J = a := by rw [Nat.mul_comm, Nat.mul_add_div hp, Nat.div_eq_of_lt hb, Nat.add_zero]
  rw [h1, h2, or_one_is]

theorem dvl_pos_any (l : List UInt8) (h : ∀ x ∈ l, okD 16 x) : (l.any (· != 48)) = decide (dvl 16 l ≠ 0) := by
  revert h
  refine snoc_ind (P := fun l => (∀ x ∈ l, okD 16 x) → (l.any (· != 48)) = decide (dvl 16 l ≠ 0)) (fun _ => rfl) (fun l c ih h => ?_) l
  rw [List.any_append, ih (fun x hx => h x (List.mem_append_left _ hx)), dvl_snoc]
  have hc := h c (by simp)
  have key : (c != 48) = decide (dv c.toNat ≠ 0) := by
    rw [Bool.eq_iff_iff]
    simp only [bne_iff_ne, ne_eq, decide_eq_true_eq]
    have h3 : c = 48 ↔ c.toNat = 48 := ⟨fun h => by rw [h]; rfl, fun h => UInt8.toNat_inj.1 (by rw [h]; rfl)⟩
    rw [h3]
    unfold dv
    rcases hc with ⟨h1, h2⟩ | ⟨_, h1, h2⟩
    · rw [if_pos ⟨h1, h2⟩]; omega
    · rw [if_neg (by omega)]; omega
  simp only [List.any_cons, List.any_nil, Bool.or_false]
  rw [key, Bool.eq_iff_iff]
  simp only [Bool.or_eq_true, decide_eq_true_eq]
  omega

theorem dropZ_head (l : List UInt8) : dropZ l = [] ∨ ∃ x t, dropZ l = x :: t ∧ x ≠ 48 := by
  cases h : dropZ l with
  | nil => exact .inl rfl
  | cons x t =>
    refine .inr ⟨x, t, rfl, ?_⟩
    have := List.head?_dropWhile_not (p := (· == (48 : UInt8))) l
    unfold dropZ at h
    rw [h] at this
    simpa using this

theorem dvl_cons (b : Nat) (x : UInt8) (t : List UInt8) : dvl b (x :: t) = dv x.toNat * b ^ t.length + dvl b t := by
  have h := dvl_app b [x] t
  rw [show dvl b [x] = dv x.toNat from by simp [dvl]] at h
  exact h

/-- what readFloat holds of hexadecimal digits is what atofHex takes -/
theorem rf_in (H : List UInt8) (hH : ∀ x ∈ H, okD 16 x) (hlen : H.length ≤ 900) :
    (dvl 16 H = 0 ∧ (rfF 16 16 H).mant = 0 ∧ (rfF 16 16 H).tr = false ∧ rfHex (rfF 16 16 H) = 0) ∨
    ∃ J, HexIn (dvl 16 H) (rfF 16 16 H).mant J (rfF 16 16 H).tr ∧ rfHex (rfF 16 16 H) = (J : Int) := by
  obtain ⟨hi, _⟩ := rf_mant 16 16 H H [] false (by simp [mantT]) (fun x hx => okD_46 (hH x hx)) (by simp) (fun _ => rfl)
  rw [List.append_nil] at hi
  generalize rfF 16 16 H = s at *
  have hZ : ∀ x ∈ dropZ H, okD 16 x := fun x hx => hH x ((List.dropWhile_sublist _).subset hx)
  have hlz : (dropZ H).length ≤ 900 := Nat.le_trans (List.dropWhile_sublist _).length_le hlen
  have hN := dvl_dropZ 16 H
  have hmant := hi.mant
  have htr := hi.tr
  have hnd := hi.nd
  have hnm := hi.nm
  rcases dropZ_head H with h0 | ⟨x, t, hx, hx48⟩
  · left
    rw [h0] at hN hmant htr hnd hnm
    refine ⟨by rw [← hN]; rfl, by rw [hmant]; rfl, by rw [htr]; rfl, ?_⟩
    unfold rfHex
    rw [hmant]; rfl
  · right
    generalize dropZ H = Z at *
    have hA : ∀ x ∈ Z.take 16, dv x.toNat < 16 := fun x hx => okD_dv (by decide) (hZ x (List.mem_of_mem_take hx))
    have hB : ∀ x ∈ Z.drop 16, dv x.toNat < 16 := fun x hx => okD_dv (by decide) (hZ x (List.mem_of_mem_drop hx))
    have hlA := dvl_lt 16 (by decide) _ hA
    have hlB := dvl_lt 16 (by decide) _ hB
    have hsum := dvl_app 16 (Z.take 16) (Z.drop 16)
    rw [List.take_append_drop, hN] at hsum
    have hll : (Z.drop 16).length = Z.length - 16 := List.length_drop
    have hla : (Z.take 16).length = min 16 Z.length := List.length_take
    have hpw : ∀ k, 16 ^ k = 2 ^ (4 * k) := fun k => by rw [Nat.pow_mul]
    rw [hpw] at hsum hlB
    have hdx : 1 ≤ dv x.toNat := by
      have h3 : x.toNat ≠ 48 := fun h => hx48 (UInt8.toNat_inj.1 (by rw [h]; rfl))
      rcases hZ x (by rw [hx]; simp) with ⟨h1, h2⟩ | ⟨_, h1, h2⟩
      · unfold dv; rw [if_pos ⟨h1, h2⟩]; omega
      · unfold dv; rw [if_neg (by omega)]; omega
    have hlow : 16 ^ ((Z.take 16).length - 1) ≤ dvl 16 (Z.take 16) := by
      rw [hx, List.take_succ_cons, dvl_cons, List.length_cons, Nat.add_sub_cancel]
      have := Nat.mul_le_mul_right (16 ^ (List.take 15 t).length) hdx
      omega
    have htr2 := htr
    rw [dvl_pos_any _ (fun x hx => hZ x (List.mem_of_mem_drop hx))] at htr2
    have hmp : 1 ≤ s.mant := by
      rw [hmant]
      exact Nat.le_trans (Nat.pow_pos (by decide)) hlow
    refine ⟨4 * (Z.drop 16).length, ⟨?_, hmp, by omega, ?_, ?_⟩, ?_⟩
    · rw [hmant]
      have : 16 ^ (Z.take 16).length ≤ 16 ^ 16 := Nat.pow_le_pow_right (by decide) (by rw [hla]; omega)
      exact Nat.lt_of_lt_of_le hlA (Nat.le_trans this (by decide))
    · rw [hsum, unr_parted _ _ _ hlB, htr2, hmant]
      by_cases hb : dvl 16 (Z.drop 16) = 0
      · rw [if_pos hb, if_neg (by simp [hb])]
      · rw [if_neg hb, if_pos (by simp [hb])]
    · by_cases h16 : Z.length ≤ 16
      · left
        refine ⟨by omega, ?_⟩
        rw [htr, List.drop_eq_nil_of_le h16]; rfl
      · right
        rw [hmant]
        have : (Z.take 16).length - 1 = 15 := by rw [hla]; omega
        rw [this] at hlow
        exact Nat.le_trans (by decide) hlow
    · unfold rfHex
      rw [if_neg (by omega), hnd, hnm, hll]
      omega

set_option maxRecDepth 100000 in
set_option maxHeartbeats 4000000 in
theorem atof_hex_zero (st : ByteArray) (K : Nat) (w : World) (hg : GlobT K w) :
    Calls Tryz.prog 143 #[.string st, .pointer (some ⟨9, 0, Option.none⟩), .int .u64 0, .int .i64 0, .bool false, .bool false] w (HxPost 0 w) := by
  obtain ⟨i0, i1, i2⟩ := hg.inf
  obtain ⟨bca, bcb, bta, btb, k1, k2⟩ := hg.blk
  obtain ⟨j, hj, hjs⟩ := Option.map_eq_some_iff.1 info_size
  have heq : ∀ n : Nat, (binOp .eql 170 (.pointer (some ⟨9, 0, Option.none⟩)) (.pointer (some ⟨8, 0, Option.none⟩))).run Tryz.prog (w.drewN n) = .ok (.bool false) (w.drewN n) := fun n =>
    run_eql_ptr_other (w.drewN n) Tryz.underlying170 hj (by simpa using hjs) (by decide) k2 k1
  have hs : ∀ W : World, (callFunc 151 #[.int .u64 0]).run Tryz.prog W = .ok (.value (.float .f64 0)) W := run_sfrom 0
  have hb1 : bits .and .u64 0 3 = 0 := by decide +kernel
  have hb2 : bits .and .u64 0 1 = 0 := by decide +kernel
  have hb3 : bits .or .u64 0 0 = 0 := by decide +kernel
  have hb4 : bits .and .u64 0 4503599627370495 = 0 := by decide +kernel
  have hb5 : bits .and .i64 0 2047 = 0 := by decide +kernel
  have HN : Hid (Near (2 * (0 * 2 ^ 1074)) 1 0) := Lib.hid (zero_near 0)
  clear k1 k2 hj hjs
  go_enter Tryz.func143, Tryz.ntmps143
  go_upto_region 1 with fail
  go_quiet (fail)
  go_wp2_with fail
  go_loopg [2, 3] 0 (fun _ s2 s3 wr => ∃ n : Nat, s2 = .int .u64 0 ∧ s3 = .int .i64 52 ∧ wr = w.drewN n)
  case atStart => exact ⟨_, rfl, by go_num, rfl⟩
  case round =>
    obtain ⟨n, rfl, rfl, rfl⟩ := hrel
    go_wp2_with fail
    go_loopg [2, 3] 0 (fun _ s2 s3 wr => ∃ n : Nat, s2 = .int .u64 0 ∧ s3 = .int .i64 52 ∧ wr = w.drewN n)
    case atStart => exact ⟨_, rfl, rfl, rfl⟩
    case round =>
      obtain ⟨n, rfl, rfl, rfl⟩ := hrel
      go_wp2_with fail
      go_loopg [2, 3] 0 (fun _ s2 s3 wr => ∃ n : Nat, s2 = .int .u64 0 ∧ s3 = .int .i64 52 ∧ wr = w.drewN n)
      case atStart => exact ⟨_, rfl, rfl, rfl⟩
      case round =>
        obtain ⟨n, rfl, rfl, rfl⟩ := hrel
        go_upto_region 32 with fail
        go_quiet (fail)
        go_wp2_with fail
        refine bodyPost_ret (v := .tuple #[.float .f64 0, .nilIface]) (by simp [results, Tryz.results143, go_sem]) rfl ⟨0, HN.out, rfl, _, rfl⟩

theorem atof_hex_all (st : ByteArray) (H : List UInt8) (K : Nat) (w : World) (hg : GlobT K w) (hH : ∀ x ∈ H, okD 16 x) (hlen : H.length ≤ 900) :
    Calls Tryz.prog 143 #[.string st, .pointer (some ⟨9, 0, Option.none⟩), .int .u64 (rfF 16 16 H).mant, .int .i64 (rfHex (rfF 16 16 H)), .bool false, .bool (rfF 16 16 H).tr] w (HxPost (dvl 16 H) w) := by
  rcases rf_in H hH hlen with ⟨h1, h2, h3, h4⟩ | ⟨J, h1, h2⟩
  · rw [h1, h2, h3, h4]
    exact atof_hex_zero st K w hg
  · rw [h2]
    cases htr : (rfF 16 16 H).tr with
    | false => rw [htr] at h1; exact atof_hex_false st _ _ _ K w hg h1
    | true => rw [htr] at h1; exact atof_hex_true st _ _ _ K w hg h1

set_option maxRecDepth 100000 in
set_option maxHeartbeats 4000000 in
theorem atof64_hex (s : ByteArray) (H : List UInt8) (K : Nat) (w : World) (hT : GlobT K w) (hH : ∀ x ∈ H, okD 16 x) (hne : H ≠ []) (hlen : H.length ≤ 900) (hl : s.data.toList = 48 :: 120 :: (H ++ [112, 48])) :
    Calls Tryz.prog 117 #[.string s] w fun e w' => ∃ r, Near (2 * (dvl 16 H * 2 ^ 1074)) 1 r ∧ e = .returned (.tuple #[.float .f64 r, .int .i64 s.size, errV r]) ∧ Below w.heap.size w w' := by
  have hsz : s.size = H.length + 4 := by
    have : s.size = s.data.toList.length := by simp
    rw [this, hl]; simp
  have h0 : 0 < s.size := by omega
  have hb0 : s[0]'h0 = 48 := by
    show s.data.toList[0] = 48
    simp only [hl]; rfl
  have HSP := Lib.hid (special_no s w h0 (by omega) (.inr (by rw [hb0]; decide)))
  have HRF := Lib.hid (rf_hex s w (by omega) H hH hne hl)
  have HHX : Hid (∀ st : ByteArray, Calls Tryz.prog 143 #[.string st, .pointer (some ⟨9, 0, Option.none⟩), .int .u64 (rfF 16 16 H).mant, .int .i64 (rfHex (rfF 16 16 H)), .bool false, .bool (rfF 16 16 H).tr] w (HxPost (dvl 16 H) w)) := Lib.hid fun st => atof_hex_all st H K w hT hH hlen
  have hs1000 : s.size ≤ 1000 := by omega
  clear hb0 hl hH hsz
  generalize (rfF 16 16 H).mant = mant at *
  generalize (rfF 16 16 H).tr = tr at *
  generalize rfHex (rfF 16 16 H) = x at *
  go_enter Tryz.func117, Tryz.ntmps117
  go_wp2_with fail
  refine HSP.out.mono ?_
  rintro e w ⟨rfl, rfl⟩
  go_wp2_with fail
  refine HRF.out.mono ?_
  rintro e w ⟨rfl, rfl⟩
  go_wp2_with fail
  refine (HHX.out _).mono ?_
  rintro e w' ⟨r, hn, rfl, n, rfl⟩
  have HN := Lib.hid hn
  clear hn
  go_wp2_with fail
  refine bodyPost_ret (v := .tuple #[.float .f64 r, .int .i64 s.size, errV r]) (by simp [results, Tryz.results117, go_sem]) rfl ⟨r, HN.out, rfl, bDrewN (Below.refl _ _) n⟩

/-- ParseFloat of 0x, digits, p0 -/
theorem pfloat_hex (H : List UInt8) (K : Nat) (w : World) (hT : GlobT K w) (hH : ∀ x ∈ H, okD 16 x) (hne : H ≠ []) (hlen : H.length ≤ 900) :
    Calls Tryz.prog 23 #[.string ⟨(48 :: 120 :: (H ++ [112, 48])).toArray⟩, .int .i64 64] w (PlPost (2 * (dvl 16 H * 2 ^ 1074)) 1 w) := by
  refine pfloat_of _ _ _ K w hT (by rw [ba_size]; simp; omega) ?_
  exact atof64_hex _ H K w hT hH hne hlen rfl
end Go.Proofs.YtmhagigokgklaaaGreatDoor

/- num.Parse of the bases. -/
namespace Go.Proofs.YtmhagigokgklaaaGreatDoor
open Go Go.RowKit Go.Sort Go.Lib

theorem drop_two (l : List UInt8) : (⟨l.toArray⟩ : ByteArray).extract 2 (⟨l.toArray⟩ : ByteArray).size = ⟨(l.drop 2).toArray⟩ := by
  apply ByteArray.ext
  rw [ByteArray.data_extract]
  apply Array.toList_inj.1
  simp [List.extract_eq_take_drop]
  rw [List.take_of_length_le (by rw [List.length_drop, show (⟨l.toArray⟩ : ByteArray).size = l.length from rfl]; omega)]
theorem hex_cat (H : List UInt8) : (⟨#[48, 120]⟩ : ByteArray) ++ ⟨H.toArray⟩ ++ ⟨#[112, 48]⟩ = ⟨(48 :: 120 :: (H ++ [112, 48])).toArray⟩ := by
  apply ByteArray.ext
  rw [ByteArray.data_append, ByteArray.data_append]
  apply Array.toList_inj.1
  simp
theorem index_xob (c : Int) (W : World) (hc : c = 120 ∨ c = 111 ∨ c = 98) :
    Calls Tryz.prog 21 #[.string ⟨#[120, 111, 98]⟩, .int .u8 c] W fun e w' => ∃ j : Nat, e = .returned (.int .i64 j) ∧ w' = W := by
  refine (Tryz.strings_IndexByte ⟨#[120, 111, 98]⟩ c W).mono ?_
  rintro e w ⟨he, rfl⟩
  rw [show (⟨#[120, 111, 98]⟩ : ByteArray).data.toList = [120, 111, 98] from rfl] at he
  rcases hc with rfl | rfl | rfl
  · exact ⟨0, he, rfl⟩
  · exact ⟨1, he, rfl⟩
  · exact ⟨2, he, rfl⟩

/-- what Parse hands back of a text of a base -/
def HbPost (B : Nat) (rest : List UInt8) (neg : Bool) (w : World) (e : Ending) (w' : World) : Prop :=
  (HexOK B rest ∧ PaPost (2 * (bval B (noBars rest) * 2 ^ 1074)) 1 neg w e w') ∨
  (¬ HexOK B rest ∧ e = .returned (.tuple #[.int .u64 0, .int .i64 150]) ∧ Below w.heap.size w w')

def HexY (B : Nat) (rest : List UInt8) (ok : Bool) (H : ByteArray) : Prop :=
  (ok = true → HexOK B rest ∧ ∃ L : List UInt8, H = ⟨L.toArray⟩ ∧ (∀ x ∈ L, okD 16 x) ∧ dvl 16 L = bval B (noBars rest) ∧ L.length ≤ (noBars rest).length + 1 ∧ (noBars rest ≠ [] → L ≠ [])) ∧ (ok = false → ¬ HexOK B rest)

theorem bars_ne {l : List UInt8} (hne : l ≠ []) (h : barOK l = true) : noBars l ≠ [] := by
  cases l with
  | nil => exact absurd rfl hne
  | cons x t =>
    unfold barOK at h
    by_cases hx : x = 95
    · subst hx
      have : hasPrefix ((95 : UInt8) :: t) [95] = true := by
        show ([95] : List UInt8).isPrefixOf (95 :: t) = true
        simp [List.isPrefixOf]
      rw [this] at h
      exact absurd h (by simp)
    · unfold noBars
      rw [List.filter_cons, if_pos (by simpa using hx)]
      simp

set_option maxRecDepth 100000 in
set_option maxHeartbeats 4000000 in
theorem parse_hex (s : ByteArray) (neg : Bool) (x : UInt8) (rest : List UInt8) (c : Int) (B kk K : Nat) (w : World) (hG : Globs w) (hT : GlobT K w) (hs : s.data.toList = sgB neg ++ 48 :: x :: rest) (hne : rest ≠ []) (hlen : s.size ≤ 400)
    (hx : bits .or .u8 ((x.toNat : Nat) : Int) 32 = c) (hcB : (c = 120 ∧ B = 16 ∧ kk = 4) ∨ (c = 111 ∧ B = 8 ∧ kk = 3) ∨ (c = 98 ∧ B = 2 ∧ kk = 1)) :
    Calls Tryz.prog 11 #[.string s] w (HbPost B rest neg w) := by
  have hll : rest.length + 2 ≤ 400 := by
    have : s.size = s.data.toList.length := by simp
    rw [hs, List.length_append, List.length_cons, List.length_cons] at this
    omega
  have hr0 : 0 < rest.length := List.length_pos_iff.2 hne
  have HCP := Lib.hid (cutp_run s neg (48 :: x :: rest) w hs (fun _ => by simp))
  have HHX : Hid (∀ W : World, Globs W → GlobT K W → Calls Tryz.prog 22 #[.string ⟨rest.toArray⟩, .int .u8 c] W (HexPost B rest W)) := Lib.hid fun W h1 h2 => hexadecimal_any rest c B kk K W h1 h2 (by omega) hcB
  have HIX : Hid (∀ W : World, Calls Tryz.prog 21 #[.string ⟨#[120, 111, 98]⟩, .int .u8 c] W fun e w' => ∃ j : Nat, e = .returned (.int .i64 j) ∧ w' = W) := Lib.hid fun W => index_xob c W (by rcases hcB with h | h | h <;> omega)
  have h400 : decide ((400 : Int) < (s.size : Int)) = false := by rw [decide_eq_false_iff_not]; omega
  obtain ⟨T, hT0⟩ : ∃ T : ByteArray, T = ⟨(48 :: x :: rest).toArray⟩ := ⟨_, rfl⟩
  have htsz : T.size = rest.length + 2 := by rw [hT0]; rfl
  have hnan : (T.toList == [78, 97, 78]) = false := by rw [ByteArray.toList_eq, hT0]; rfl
  have hinf : (T.toList == [73, 110, 102, 105, 110, 105, 116, 121]) = false := by rw [ByteArray.toList_eq, hT0]; rfl
  have h2 : 2 < T.size := by omega
  have h2i : (2 : Int) ≤ (T.size : Int) := by omega
  have h1i : (1 : Int) < (T.size : Int) := by omega
  have h0s : 0 < T.size := by omega
  have h1s : 1 < T.size := by omega
  have t48 : (((T[0]'h0s).toNat : Int) == 48) = true := by subst hT0; rfl
  have tx : bits .or .u8 (((T[1]'h1s).toNat : Nat) : Int) 32 = c := by subst hT0; exact hx
  have hext : T.extract 2 T.size = ⟨rest.toArray⟩ := by rw [hT0, drop_two]; rfl
  have hle400 : T.size ≤ 400 := by omega
  rw [← hT0] at HCP
  have HLR := Lib.hid hll
  have HNE := Lib.hid hne
  have hGS := Lib.hid hG
  have hTS := Lib.hid hT
  clear hG hT hs hT0 hx hcB htsz hll hr0 hne
  go_enter Tryz.func11, Tryz.ntmps11
  go_wp2_with fail
  refine HCP.out.mono ?_
  rintro e w ⟨rfl, rfl⟩
  go_upto_region 10 with fail
  go_wp2_with (go_at_call 21; refine (HIX.out _).mono ?_; rintro e w ⟨j, rfl, rfl⟩)
  have HHY : Hid (∀ W : World, Below w.heap.size w W → Calls Tryz.prog 22 #[.string ⟨rest.toArray⟩, .int .u8 c] W fun e w' => ∃ (ok : Bool) (H : ByteArray), e = .returned (.tuple #[.string H, .bool ok]) ∧ Below w.heap.size w w' ∧ Hid (HexY B rest ok H)) := Lib.hid fun W hb => (HHX.out W (hGS.out.on hb) (hTS.out.on hb)).mono (by
    rintro e w2 (⟨hok, H, hH, hv, hlH, hnH, rfl, hb2⟩ | ⟨hno, rfl, hb2⟩)
    · exact ⟨true, ⟨H.toArray⟩, rfl, hb.trans (hb2.mono hb.size), Lib.hid ⟨fun _ => ⟨hok, H, rfl, hH, hv, hlH, hnH⟩, fun h => absurd h (by decide)⟩⟩
    · exact ⟨false, ⟨#[]⟩, rfl, hb.trans (hb2.mono hb.size), Lib.hid ⟨fun h => absurd h (by decide), fun _ => hno⟩⟩)
  clear HHX
  go_upto_region 12 with
    (go_region_with
      (first | (go_at_call 22; refine (HHY.out _ (by first | exact (Below.refl _ _).drew | exact bDrewN (Below.refl _ _) _ | exact Below.refl _ _)).mono ?_; rintro e w' ⟨ok, H, rfl, hb, hy⟩)))
  all_goals
    have HB1 := Lib.hid hb
    clear hb
    cases ok
    · have hno := hy.out.2 rfl
      have HNO := Lib.hid hno
      clear hno
      go_wp2_with fail
      refine bodyPost_ret (v := .tuple #[.int .u64 0, .int .i64 150]) (by simp [results, Tryz.results11, go_sem]) rfl (.inr ⟨HNO.out, rfl, HB1.out⟩)
    · obtain ⟨hok, L, rfl, hH, hv, hlH, hnH⟩ := hy.out.1 rfl
      have HV := Lib.hid hv
      have HOK := Lib.hid hok
      have hnb : (noBars rest).length ≤ rest.length := List.length_filter_le _ _
      have hHl : L.length ≤ 900 := by have := HLR.out; omega
      have HPF := Lib.hid (fun (W : World) (h : GlobT K W) => pfloat_hex L K W h hH (hnH (bars_ne HNE.out hok.1)) hHl)
      have hcat := hex_cat L
      have hHs : (⟨L.toArray⟩ : ByteArray).size ≤ 900 := hHl
      have hPs : (⟨(48 :: 120 :: (L ++ [112, 48])).toArray⟩ : ByteArray).size ≤ 1000 := by rw [ba_size]; simp; omega
      clear hok hH hnH hnb hHl hv hlH hy
      generalize (⟨(48 :: 120 :: (L ++ [112, 48])).toArray⟩ : ByteArray) = PT at *
      generalize (⟨L.toArray⟩ : ByteArray) = HB at *
      go_wp2_with fail
      refine (HPF.out _ (hTS.out.on HB1.out)).mono ?_
      rintro e w3 ⟨r, ev, hn, rfl, hb3⟩
      have HB3 : Hid (Below w.heap.size w w3) := Lib.hid (HB1.out.trans (hb3.mono HB1.out.size))
      have HN := Lib.hid hn
      have HCS := Lib.hid (fun (W : World) => run_copysign r W (near_lt63 hn))
      have hmb : ∀ W : World, (callFunc 27 #[.float .f64 r]).run Tryz.prog W = .ok (.value (.int .u64 r)) W := run_mbits r
      have hmb2 : ∀ W : World, (callFunc 27 #[.float .f64 (r + 9223372036854775808 : Nat)]).run Tryz.prog W = .ok (.value (.int .u64 (r + 9223372036854775808 : Nat))) W := run_mbits (r + 9223372036854775808)
      clear hb3 hn
      obtain ⟨R2, hR2⟩ : ∃ R2 : Nat, R2 = r + 9223372036854775808 := ⟨_, rfl⟩
      rw [← hR2] at HCS hmb2
      have HR2 := Lib.hid hR2
      clear hR2
      cases neg
      · go_wp2_with fail
        refine bodyPost_ret (v := .tuple #[.int .u64 r, .int .i64 0]) (by simp [results, Tryz.results11, go_sem]) rfl (.inl ⟨HOK.out, r, HV.out ▸ HN.out, rfl, HB3.out⟩)
      · go_wp2_with fail
        refine (HCS.out _).mono ?_
        rintro e w4 ⟨rfl, hw4⟩
        subst hw4
        go_wp2_with fail
        refine bodyPost_ret (v := .tuple #[.int .u64 R2, .int .i64 0]) (by simp [results, Tryz.results11, go_sem]) rfl (.inl ⟨HOK.out, r, HV.out ▸ HN.out, by rw [HR2.out]; rfl, HB3.out⟩)
end Go.Proofs.YtmhagigokgklaaaGreatDoor

/- num.Parse: what it refuses. -/
namespace Go.Proofs.YtmhagigokgklaaaGreatDoor
open Go Go.RowKit Go.Sort Go.Lib

/-- the letter of a base -/
def isBase (x : UInt8) : Bool := let c := bits .or .u8 ((x.toNat : Nat) : Int) 32; c == 120 || c == 111 || c == 98
/-- a text of a base: 0, its letter, and more -/
def hexB : List UInt8 → Bool
  | a :: x :: _ :: _ => a == 48 && isBase x
  | _ => false

theorem index_not (x : UInt8) (h : isBase x = false) : indexByte [120, 111, 98] (UInt8.ofNat (bits .or .u8 ((x.toNat : Nat) : Int) 32).toNat) = -1 := by
  have key : ∀ c : Fin 256, (let d := bits .or .u8 ((c.val : Nat) : Int) 32; d == 120 || d == 111 || d == 98) = false → indexByte [120, 111, 98] (UInt8.ofNat (bits .or .u8 ((c.val : Nat) : Int) 32).toNat) = -1 := by decide +kernel
  exact key ⟨x.toNat, x.toNat_lt⟩ h

theorem hexB_cons (l : List UInt8) (h : hexB l = false) (h2 : 2 < l.length) (h48 : l[0]'(by omega) = 48) : isBase (l[1]'(by omega)) = false := by
  match l, h, h2, h48 with
  | a :: x :: y :: t, hx, _, h48 =>
    have ha : a = 48 := h48
    subst ha
    exact hx
theorem hexB_not (T : ByteArray) (hx : hexB T.data.toList = false) (h : 2 < T.size) (h48 : (((T[0]'(Nat.lt_trans (by decide) h)).toNat : Int) == 48) = true) : isBase (T[1]'(Nat.lt_trans (by decide) h)) = false := by
  refine hexB_cons T.data.toList hx (by simpa using h) ?_
  rw [beq_iff_eq] at h48
  have h3 : (T[0]'(Nat.lt_trans (by decide) h)).toNat = 48 := by omega
  exact UInt8.toNat_inj.1 h3

set_option maxRecDepth 100000 in
set_option maxHeartbeats 4000000 in
theorem parse_refused (s : ByteArray) (neg : Bool) (l : List UInt8) (w : World) (hs : s.data.toList = sgB neg ++ l) (hl : neg = false → l.head? ≠ some 45) (hlen : s.size ≤ 400)
    (hnan0 : l ≠ [78, 97, 78]) (hinf0 : l ≠ [73, 110, 102, 105, 110, 105, 116, 121]) (hx : hexB l = false) (hd : decB l = false) :
    Calls Tryz.prog 11 #[.string s] w fun e w' => e = .returned (.tuple #[.int .u64 0, .int .i64 150]) ∧ Below w.heap.size w w' := by
  have hll : l.length ≤ 400 := by
    have : s.size = s.data.toList.length := by simp
    rw [hs, List.length_append] at this
    omega
  have HCP := Lib.hid (cutp_run s neg l w hs hl)
  have HDE : Hid (∀ W : World, Calls Tryz.prog 24 #[.string ⟨l.toArray⟩] W fun e w' => e = .returned (.bool false) ∧ Below W.heap.size W w') := Lib.hid fun W => by
    have := decimal_any ⟨l.toArray⟩ W (by rw [ba_size]; omega)
    rw [show (⟨l.toArray⟩ : ByteArray).data.toList = l from rfl, hd] at this
    exact this
  have h400 : decide ((400 : Int) < (s.size : Int)) = false := by rw [decide_eq_false_iff_not]; omega
  obtain ⟨T, hT0⟩ : ∃ T : ByteArray, T = ⟨l.toArray⟩ := ⟨_, rfl⟩
  have htsz : T.size = l.length := by rw [hT0]; rfl
  have hnan : (T.toList == [78, 97, 78]) = false := by rw [ByteArray.toList_eq, hT0]; simpa using hnan0
  have hinf : (T.toList == [73, 110, 102, 105, 110, 105, 116, 121]) = false := by rw [ByteArray.toList_eq, hT0]; simpa using hinf0
  have HIX : Hid (∀ (h : 2 < T.size) (W : World), (((T[0]'(Nat.lt_trans (by decide) h)).toNat : Int) == 48) = true → Calls Tryz.prog 21 #[.string ⟨#[120, 111, 98]⟩, .int .u8 (bits .or .u8 (((T[1]'(Nat.lt_trans (by decide) h)).toNat : Nat) : Int) 32)] W fun e w' => e = .returned (.int .i64 (-1)) ∧ w' = W) := Lib.hid fun h W h48 => by
    have hc : indexByte [120, 111, 98] (UInt8.ofNat (bits .or .u8 (((T[1]'(Nat.lt_trans (by decide) h)).toNat : Nat) : Int) 32).toNat) = -1 := by
      exact index_not _ (hexB_not T (by rw [hT0]; exact hx) h h48)
    have := Tryz.strings_IndexByte ⟨#[120, 111, 98]⟩ (bits .or .u8 (((T[1]'(Nat.lt_trans (by decide) h)).toNat : Nat) : Int) 32) W
    rw [show (⟨#[120, 111, 98]⟩ : ByteArray).data.toList = [120, 111, 98] from rfl] at this
    rw [show indexByte [120, 111, 98] (bits .or .u8 (((T[1]'(Nat.lt_trans (by decide) h)).toNat : Nat) : Int) 32).toNat.toUInt8 = -1 from hc] at this
    exact this
  rw [← hT0] at HCP HDE
  have hcases : T.size ≤ 2 ∨ (∃ h : 2 < T.size, (((T[0]'(Nat.lt_trans (by decide) h)).toNat : Int) == 48) = false) ∨ (∃ h : 2 < T.size, (((T[0]'(Nat.lt_trans (by decide) h)).toNat : Int) == 48) = true) := by
    by_cases h : 2 < T.size
    · right
      cases h2 : (((T[0]'(Nat.lt_trans (by decide) h)).toNat : Int) == 48)
      · exact .inl ⟨h, h2⟩
      · exact .inr ⟨h, h2⟩
    · left; omega
  clear hs hd hx hl hT0 hll hnan0 hinf0
  rcases hcases with h2 | ⟨h2, t48⟩ | ⟨h2, t48⟩
  all_goals
    have HLN := Lib.hid htsz
    clear htsz
    go_enter Tryz.func11, Tryz.ntmps11
    go_wp2_with fail
    refine HCP.out.mono ?_
    rintro e w ⟨rfl, rfl⟩
    go_wp2_with (go_at_call 21; refine (HIX.out (by omega) _ (by assumption)).mono ?_; rintro e w ⟨rfl, rfl⟩)
    refine (HDE.out _).mono ?_
    rintro e w1 ⟨rfl, hb1⟩
    have HB1 := Lib.hid hb1
    clear hb1
    go_wp2_with fail
    refine bodyPost_ret (v := .tuple #[.int .u64 0, .int .i64 150]) (by simp [results, Tryz.results11, go_sem]) rfl ⟨rfl, HB1.out⟩

set_option maxRecDepth 100000 in
set_option maxHeartbeats 4000000 in
/-- a text that is too long -/
theorem parse_longer (s : ByteArray) (w : World) (hlen : 400 < s.size) (hle : s.size ≤ 100000) :
    Calls Tryz.prog 11 #[.string s] w fun e w' => e = .returned (.tuple #[.int .u64 0, .int .i64 150]) ∧ Below w.heap.size w w' := by
  have HCP : Hid (∀ W : World, Calls Tryz.prog 19 #[.string s, .string ⟨#[45]⟩] W fun e w' => ∃ (t : ByteArray) (b : Bool), e = .returned (.tuple #[.string t, .bool b]) ∧ w' = W) := Lib.hid fun W => (Tryz.strings_CutPrefix s ⟨#[45]⟩ W).mono (by
    rintro e w ⟨h1, h2⟩
    exact ⟨_, _, h1, h2⟩)
  have h400 : decide ((400 : Int) < (s.size : Int)) = true := by rw [decide_eq_true_iff]; omega
  have h400i : (400 : Int) < (s.size : Int) := by omega
  go_enter Tryz.func11, Tryz.ntmps11
  go_wp2_with fail
  refine (HCP.out _).mono ?_
  rintro e w ⟨t, b, rfl, rfl⟩
  go_wp2_with fail
  refine bodyPost_ret (v := .tuple #[.int .u64 0, .int .i64 150]) (by simp [results, Tryz.results11, go_sem]) rfl ⟨rfl, Below.refl _ _⟩
end Go.Proofs.YtmhagigokgklaaaGreatDoor

/- works. -/
namespace Go.Proofs.YtmhagigokgklaaaGreatDoor
open Go Go.RowKit Go.Sort Go.Lib

set_option exponentiation.threshold 5000
theorem near_tenth : Near (dX 1 (-1)) (dQ (-1)) 4591870180066957722 :=
  ⟨by decide, by decide, by decide +kernel, by decide +kernel⟩
theorem near_31 : Near (2 * (31 * 2 ^ 1074)) 1 4629418941960159232 :=
  ⟨by decide, by decide, by decide +kernel, by decide +kernel⟩
theorem show_tenth : showB 4591870180066957722 = [48, 46, 49] := by decide +kernel
theorem show_31 : showB 4629418941960159232 = [51, 49] := by decide +kernel
theorem show_ninf : showB 18442240474082181120 = [45, 73, 110, 102, 105, 110, 105, 116, 121] := by decide +kernel
theorem show_100 : showB 4636737291354636288 = [49, 48, 48] := by decide +kernel
theorem show_least : showB 1 = [53, 101, 45, 51, 50, 52] := by decide +kernel
theorem show_nzero : showB 9223372036854775808 = [45, 48] := by decide +kernel
theorem oi_100 : oiN 100 = 4636737291354636288 := by decide +kernel
theorem int_100 : intV 4636737291354636288 = (100, true) := by decide +kernel
theorem dec_tenth : decB [48, 46, 49] = true := by decide +kernel
theorem dec_01 : decB [48, 49] = false := by decide +kernel

theorem is_tenth : DecIs [48, 46, 49] [48, 49] (-1) :=
  ⟨[48], [49], true, [48, 46, 49], ⟨rfl, by intro x hx; simp at hx; subst hx; exact ⟨by decide, by decide⟩, by intro x hx; simp at hx; subst hx; exact ⟨by decide, by decide⟩, by simp⟩, by simp, rfl, .inl ⟨by decide, rfl⟩⟩

theorem parse_1 (K : Nat) (w : World) (hG : Globs w) (hT : GlobT K w) :
    Calls Tryz.prog 11 #[.string ⟨#[48, 46, 49]⟩] w fun e w' => e = .returned (.tuple #[.int .u64 4591870180066957722, .int .i64 0]) ∧ Below w.heap.size w w' := by
  refine (parse_small ⟨#[48, 46, 49]⟩ false [48, 46, 49] [48, 49] (-1) K w hG hT rfl (by decide) dec_tenth is_tenth (by decide)).mono ?_
  rintro e w' ⟨r, hn, rfl, hb⟩
  have : r = 4591870180066957722 := near_unique hn near_tenth
  subst this
  exact ⟨rfl, hb⟩
theorem hexok_31 : HexOK 16 [49, 70] := ⟨by decide +kernel, by show ∀ x ∈ noBars [49, 70], 0 ≤ hexI x.toNat ∧ hexI x.toNat < ((16 : Nat) : Int); decide +kernel⟩
theorem parse_2 (K : Nat) (w : World) (hG : Globs w) (hT : GlobT K w) :
    Calls Tryz.prog 11 #[.string ⟨#[48, 120, 49, 70]⟩] w fun e w' => e = .returned (.tuple #[.int .u64 4629418941960159232, .int .i64 0]) ∧ Below w.heap.size w w' := by
  refine (parse_hex ⟨#[48, 120, 49, 70]⟩ false 120 [49, 70] 120 16 4 K w hG hT rfl (by simp) (by decide) (by decide +kernel) (.inl ⟨rfl, rfl, rfl⟩)).mono ?_
  rintro e w' (⟨_, r, hn, rfl, hb⟩ | ⟨h, _⟩)
  · have : r = 4629418941960159232 := near_unique hn near_31
    subst this
    exact ⟨rfl, hb⟩
  · exact absurd hexok_31 h
theorem parse_3 (w : World) :
    Calls Tryz.prog 11 #[.string ⟨#[45, 73, 110, 102, 105, 110, 105, 116, 121]⟩] w fun e w' => e = .returned (.tuple #[.int .u64 18442240474082181120, .int .i64 0]) ∧ Below w.heap.size w w' :=
  parse_inf _ true w rfl
theorem parse_4 (w : World) :
    Calls Tryz.prog 11 #[.string ⟨#[48, 49]⟩] w fun e w' => e = .returned (.tuple #[.int .u64 0, .int .i64 150]) ∧ Below w.heap.size w w' :=
  parse_refused _ false [48, 49] w rfl (fun _ => by decide) (by decide) (by decide) (by decide) rfl dec_01

set_option maxRecDepth 100000 in
set_option maxHeartbeats 4000000 in
theorem works_any (K : Nat) (w : World) (hG : Globs w) (hT : GlobT K w) :
    Calls Tryz.prog 10 #[] w fun e w' => e = .returned (.bool true) ∧ Below w.heap.size w w' := by
  have HG := Lib.hid hG
  have HT := Lib.hid hT
  have HS : Hid (∀ (x : Nat) (W : World), Below w.heap.size w W → x < 18446744073709551616 → Calls Tryz.prog 13 #[.int .u64 x] W fun e w' => e = .returned (.string ⟨(showB x).toArray⟩) ∧ Below w.heap.size w w') := Lib.hid fun x W hb hx =>
    (show_any x W (HG.out.on hb) hx).mono (by rintro e w' ⟨rfl, h⟩; exact ⟨rfl, hb.trans (h.mono hb.size)⟩)
  have h1 : ∀ W : World, Below w.heap.size w W → Calls Tryz.prog 13 #[.int .u64 4591870180066957722] W fun e w' => e = .returned (.string ⟨#[48, 46, 49]⟩) ∧ Below w.heap.size w w' := fun W hb => by
    have := HS.out 4591870180066957722 W hb (by decide)
    rw [show_tenth] at this; exact this
  have h2 : ∀ W : World, Below w.heap.size w W → Calls Tryz.prog 13 #[.int .u64 4629418941960159232] W fun e w' => e = .returned (.string ⟨#[51, 49]⟩) ∧ Below w.heap.size w w' := fun W hb => by
    have := HS.out 4629418941960159232 W hb (by decide)
    rw [show_31] at this; exact this
  have h3 : ∀ W : World, Below w.heap.size w W → Calls Tryz.prog 13 #[.int .u64 18442240474082181120] W fun e w' => e = .returned (.string ⟨#[45, 73, 110, 102, 105, 110, 105, 116, 121]⟩) ∧ Below w.heap.size w w' := fun W hb => by
    have := HS.out 18442240474082181120 W hb (by decide)
    rw [show_ninf] at this; exact this
  have h4 : ∀ W : World, Below w.heap.size w W → Calls Tryz.prog 13 #[.int .u64 4636737291354636288] W fun e w' => e = .returned (.string ⟨#[49, 48, 48]⟩) ∧ Below w.heap.size w w' := fun W hb => by
    have := HS.out 4636737291354636288 W hb (by decide)
    rw [show_100] at this; exact this
  have h5 : ∀ W : World, Below w.heap.size w W → Calls Tryz.prog 13 #[.int .u64 1] W fun e w' => e = .returned (.string ⟨#[53, 101, 45, 51, 50, 52]⟩) ∧ Below w.heap.size w w' := fun W hb => by
    have := HS.out 1 W hb (by decide)
    rw [show_least] at this; exact this
  have h6 : ∀ W : World, Below w.heap.size w W → Calls Tryz.prog 13 #[.int .u64 9223372036854775808] W fun e w' => e = .returned (.string ⟨#[45, 48]⟩) ∧ Below w.heap.size w w' := fun W hb => by
    have := HS.out 9223372036854775808 W hb (by decide)
    rw [show_nzero] at this; exact this
  have h7 : ∀ W : World, Calls Tryz.prog 17 #[.int .i64 100] W fun e w' => e = .returned (.int .u64 4636737291354636288) ∧ w' = W := fun W => by
    have := ofint_any 100 W
    rw [oi_100] at this; exact this
  have h8 : ∀ W : World, Below w.heap.size w W → Calls Tryz.prog 15 #[.int .u64 4636737291354636288] W fun e w' => e = .returned (.tuple #[.int .i64 100, .bool true]) ∧ Below w.heap.size w w' := fun W hb => by
    have := int_any 4636737291354636288 W (by decide)
    rw [int_100] at this
    exact this.mono (by rintro e w' ⟨rfl, h⟩; exact ⟨rfl, hb.trans (h.mono hb.size)⟩)
  have p1 : ∀ W : World, Below w.heap.size w W → Calls Tryz.prog 11 #[.string ⟨#[48, 46, 49]⟩] W fun e w' => e = .returned (.tuple #[.int .u64 4591870180066957722, .int .i64 0]) ∧ Below w.heap.size w w' := fun W hb =>
    (parse_1 K W (HG.out.on hb) (HT.out.on hb)).mono (by rintro e w' ⟨rfl, h⟩; exact ⟨rfl, hb.trans (h.mono hb.size)⟩)
  have p2 : ∀ W : World, Below w.heap.size w W → Calls Tryz.prog 11 #[.string ⟨#[48, 120, 49, 70]⟩] W fun e w' => e = .returned (.tuple #[.int .u64 4629418941960159232, .int .i64 0]) ∧ Below w.heap.size w w' := fun W hb =>
    (parse_2 K W (HG.out.on hb) (HT.out.on hb)).mono (by rintro e w' ⟨rfl, h⟩; exact ⟨rfl, hb.trans (h.mono hb.size)⟩)
  have p3 : ∀ W : World, Below w.heap.size w W → Calls Tryz.prog 11 #[.string ⟨#[45, 73, 110, 102, 105, 110, 105, 116, 121]⟩] W fun e w' => e = .returned (.tuple #[.int .u64 18442240474082181120, .int .i64 0]) ∧ Below w.heap.size w w' := fun W hb =>
    (parse_3 W).mono (by rintro e w' ⟨rfl, h⟩; exact ⟨rfl, hb.trans (h.mono hb.size)⟩)
  have p4 : ∀ W : World, Below w.heap.size w W → Calls Tryz.prog 11 #[.string ⟨#[48, 49]⟩] W fun e w' => e = .returned (.tuple #[.int .u64 0, .int .i64 150]) ∧ Below w.heap.size w w' := fun W hb =>
    (parse_4 W).mono (by rintro e w' ⟨rfl, h⟩; exact ⟨rfl, hb.trans (h.mono hb.size)⟩)
  have H1 := Lib.hid h1
  have H2 := Lib.hid h2
  have H3 := Lib.hid h3
  have H4 := Lib.hid h4
  have H5 := Lib.hid h5
  have H6 := Lib.hid h6
  have H7 := Lib.hid h7
  have H8 := Lib.hid h8
  have P1 := Lib.hid p1
  have P2 := Lib.hid p2
  have P3 := Lib.hid p3
  have P4 := Lib.hid p4
  clear h1 h2 h3 h4 h5 h6 h7 h8 p1 p2 p3 p4 hG hT
  have B0 := Below.refl w.heap.size w
  go_enter Tryz.func10, Tryz.ntmps10
  go_wp2_with fail
  refine (P1.out _ B0).mono ?_
  rintro e w1 ⟨rfl, B1⟩
  go_wp2_with fail
  refine (P2.out _ B1).mono ?_
  rintro e w2 ⟨rfl, B2⟩
  go_wp2_with fail
  refine (P3.out _ B2).mono ?_
  rintro e w3 ⟨rfl, B3⟩
  go_wp2_with fail
  refine (P4.out _ B3).mono ?_
  rintro e w4 ⟨rfl, B4⟩
  go_wp2_with fail
  refine (H7.out _).mono ?_
  rintro e w5 ⟨rfl, h5⟩
  subst h5
  go_wp2_with fail
  refine (H8.out _ B4).mono ?_
  rintro e w6 ⟨rfl, B6⟩
  go_wp2_with fail
  refine (H1.out _ B6).mono ?_
  rintro e w7 ⟨rfl, B7⟩
  go_wp2_with fail
  refine (H2.out _ B7).mono ?_
  rintro e w8 ⟨rfl, B8⟩
  go_wp2_with fail
  refine (H3.out _ B8).mono ?_
  rintro e w9 ⟨rfl, B9⟩
  go_wp2_with fail
  refine (H4.out _ B9).mono ?_
  rintro e wa ⟨rfl, Ba⟩
  go_wp2_with fail
  refine (H5.out _ Ba).mono ?_
  rintro e wb ⟨rfl, Bb⟩
  go_wp2_with fail
  refine (H6.out _ Bb).mono ?_
  rintro e wc ⟨rfl, Bc⟩
  go_wp2_with fail
  go_ret
  exact ⟨rfl, Bc⟩
end Go.Proofs.YtmhagigokgklaaaGreatDoor

/- NumOrder. -/
namespace Go.Proofs.YtmhagigokgklaaaGreatDoor
open Go Go.RowKit Go.Sort Go.Lib
set_option exponentiation.threshold 2000

theorem near_le {X Y Q r s : Nat} (hr : Near X Q r) (hs : Near Y Q s) (hXY : X ≤ Y) : r ≤ s := by
  rcases Nat.lt_or_ge s r with h | h
  · exfalso
    have h1 := hr.inf
    rcases hs.hi with h2 | ⟨h2, h3⟩
    · omega
    rcases hr.lo with h4 | ⟨h4, h5⟩
    · omega
    have h6 : V s + V (s + 1) ≤ V (r - 1) + V r := Nat.add_le_add (V_le (by omega)) (V_le (by omega))
    have h7 := Nat.mul_le_mul_left Q h6
    by_cases h8 : r = s + 1
    · subst h8
      rw [Nat.add_sub_cancel] at h4 h5
      rcases Nat.mod_two_eq_zero_or_one s with h9 | h9
      · have := h5 (by omega)
        omega
      · have := h3 h9
        omega
    · have h10 : V s + V (s + 1) < V (r - 1) + V r := Nat.add_lt_add_of_le_of_lt (V_le (by omega)) (V_mono (by omega))
      have := (Nat.mul_lt_mul_left hs.pos).2 h10
      omega
  · exact h

/-- an integer that is not negative -/
theorem oi_nat (m : Nat) : ∃ r, oiN (m : Int) = r ∧ Near (2 * (m * 2 ^ 1074)) 1 r := by
  obtain ⟨r, h1, h2⟩ := nearest_is false m
  rw [word_f] at h1
  refine ⟨r, ?_, h2⟩
  rw [← h1]
  show Ieee.double.nearest (decide ((m : Int) < 0)) (m : Int).natAbs 0 = _
  rw [decide_eq_false (by omega)]; rfl
theorem oi_le (m n : Nat) (h : m ≤ n) : oiN (m : Int) ≤ oiN (n : Int) := by
  obtain ⟨r, h1, h2⟩ := oi_nat m
  obtain ⟨s, h3, h4⟩ := oi_nat n
  rw [h1, h3]
  exact near_le h2 h4 (Nat.mul_le_mul_left 2 (Nat.mul_le_mul_right _ h))
theorem oi_lt (m : Nat) : oiN (m : Int) ≤ INF := by
  obtain ⟨r, h1, h2⟩ := oi_nat m
  rw [h1]; exact h2.inf
theorem int_le (x y : Nat) (hy : y ≤ INF) (h : x ≤ y) (h1 : (intV x).2 = true) (h2 : (intV y).2 = true) : (intV x).1 ≤ (intV y).1 := by
  unfold INF at hy
  have nx : ngB x = false := by unfold ngB; rw [decide_eq_false_iff_not]; omega
  have ny : ngB y = false := by unfold ngB; rw [decide_eq_false_iff_not]; omega
  have rx : ru x = x := Nat.mod_eq_of_lt (by omega)
  have ry : ru y = y := Nat.mod_eq_of_lt (by omega)
  unfold intV at *
  by_cases c1 : intOK x
  · by_cases c2 : intOK y
    · rw [if_pos c1, if_pos c2, nx, ny, rx, ry]
      show (FL x : Int) ≤ (FL y : Int)
      unfold FL
      have := Nat.div_le_div_right (c := 2 ^ 1074) (V_le h)
      omega
    · rw [if_neg c2] at h2; exact absurd h2 (by decide)
  · rw [if_neg c1] at h1; exact absurd h1 (by decide)

set_option maxRecDepth 100000 in
set_option maxHeartbeats 4000000 in
theorem order_walk (m n : Int) (K : Nat) (w : World) (hG : Globs w) (hT : GlobT K w) :
    Calls Tryz.prog 8 #[.int .i64 m, .int .i64 n] w fun e w' => e = .returned (.bool true) ∧ Below w.heap.size w w' := by
  have HW := Lib.hid (works_any K w hG hT)
  have HOI : Hid (∀ (k : Int) (W : World), Calls Tryz.prog 17 #[.int .i64 k] W fun e w' => e = .returned (.int .u64 (oiN k)) ∧ w' = W) := Lib.hid fun k W => ofint_any k W
  have HIN : Hid (∀ (x : Nat) (W : World), x < 18446744073709551616 → Calls Tryz.prog 15 #[.int .u64 x] W fun e w' => e = .returned (.tuple #[.int .i64 (intV x).1, .bool (intV x).2]) ∧ Below W.heap.size W w') := Lib.hid fun x W hx => int_any x W hx
  clear hG hT
  by_cases hneg : m < 0 ∨ n < 0
  · by_cases hm : m < 0
    · go_enter Tryz.func8, Tryz.ntmps8
      go_wp2_with fail
      refine HW.out.mono ?_
      rintro e w1 ⟨rfl, hb⟩
      go_wp2_with fail
      go_ret
      exact ⟨rfl, hb⟩
    · have hn : n < 0 := by omega
      go_enter Tryz.func8, Tryz.ntmps8
      go_wp2_with fail
      refine HW.out.mono ?_
      rintro e w1 ⟨rfl, hb⟩
      go_wp2_with fail
      go_ret
      exact ⟨rfl, hb⟩
  · have hm : ¬ m < 0 := fun h => hneg (.inl h)
    have hn : ¬ n < 0 := fun h => hneg (.inr h)
    clear hneg
    obtain ⟨a, rfl⟩ : ∃ a : Nat, m = a := ⟨m.toNat, by omega⟩
    obtain ⟨b, rfl⟩ : ∃ b : Nat, n = b := ⟨n.toNat, by omega⟩
    have la := oi_lt a
    have lb := oi_lt b
    have HLA : Hid (oiN a < 18446744073709551616) := Lib.hid (by unfold INF at la; omega)
    have HLB : Hid (oiN b < 18446744073709551616) := Lib.hid (by unfold INF at lb; omega)
    have HI1 := Lib.hid (fun W => HIN.out (oiN a) W HLA.out)
    have HI2 := Lib.hid (fun W => HIN.out (oiN b) W HLB.out)
    by_cases hab : a ≤ b
    · have hle := oi_le a b hab
      have hil := int_le _ _ lb hle
      have heq : ((b : Int) ≤ (a : Int)) → ¬ ((oiN a : Nat) : Int) < ((oiN b : Nat) : Int) := fun h => by
        have : a = b := by omega
        subst this; omega
      have hg1 : ¬ (((oiN b : Nat) : Int) < ((oiN a : Nat) : Int)) := by omega
      have O1 := Lib.hid (HOI.out a)
      have O2 := Lib.hid (HOI.out b)
      generalize oiN (a : Int) = x at *
      generalize oiN (b : Int) = y at *
      have hab1 : (a : Int) ≤ (b : Int) := by omega
      have hab2 : ¬ (b : Int) < (a : Int) := by omega
      rcases hix : intV x with ⟨x1, o1⟩
      rcases hiy : intV y with ⟨y1, o2⟩
      rw [hix] at hil HI1
      rw [hiy] at hil HI2
      clear hix hiy
      by_cases hba : (b : Int) ≤ (a : Int)
      · have h3 := heq hba
        clear heq hle la lb HLA HLB HIN HOI hab
        cases o1 <;> cases o2
        all_goals
          try (have hxy : x1 ≤ y1 := hil rfl rfl)
          clear hil
          go_enter Tryz.func8, Tryz.ntmps8
          go_wp2_with fail
          refine HW.out.mono ?_
          rintro e w1 ⟨rfl, hb1⟩
          have B1 := Lib.hid hb1
          clear hb1
          go_wp2_with fail
          refine (O1.out _).mono ?_
          rintro e w1 ⟨rfl, rfl⟩
          go_wp2_with fail
          refine (O2.out _).mono ?_
          rintro e w1 ⟨rfl, rfl⟩
          go_wp2_with fail
          refine (HI1.out _).mono ?_
          rintro e w2 ⟨rfl, hb2⟩
          have B2 := Lib.hid (B1.out.trans (hb2.mono B1.out.size))
          clear hb2
          go_wp2_with fail
          refine (HI2.out _).mono ?_
          rintro e w3 ⟨rfl, hb3⟩
          have B3 := Lib.hid (B2.out.trans (hb3.mono B2.out.size))
          clear hb3
          go_wp2_with fail
          go_ret
          exact ⟨rfl, B3.out⟩
      · clear heq hle la lb HLA HLB HIN HOI hab
        cases o1 <;> cases o2
        all_goals
          try (have hxy : x1 ≤ y1 := hil rfl rfl)
          clear hil
          go_enter Tryz.func8, Tryz.ntmps8
          go_wp2_with fail
          refine HW.out.mono ?_
          rintro e w1 ⟨rfl, hb1⟩
          have B1 := Lib.hid hb1
          clear hb1
          go_wp2_with fail
          refine (O1.out _).mono ?_
          rintro e w1 ⟨rfl, rfl⟩
          go_wp2_with fail
          refine (O2.out _).mono ?_
          rintro e w1 ⟨rfl, rfl⟩
          go_wp2_with fail
          refine (HI1.out _).mono ?_
          rintro e w2 ⟨rfl, hb2⟩
          have B2 := Lib.hid (B1.out.trans (hb2.mono B1.out.size))
          clear hb2
          go_wp2_with fail
          refine (HI2.out _).mono ?_
          rintro e w3 ⟨rfl, hb3⟩
          have B3 := Lib.hid (B2.out.trans (hb3.mono B2.out.size))
          clear hb3
          go_wp2_with fail
          go_ret
          exact ⟨rfl, B3.out⟩
    · have hle := oi_le b a (by omega)
      have hg1 : ¬ (((oiN a : Nat) : Int) < ((oiN b : Nat) : Int)) := by omega
      have O1 := Lib.hid (HOI.out a)
      have O2 := Lib.hid (HOI.out b)
      generalize oiN (a : Int) = x at *
      generalize oiN (b : Int) = y at *
      have hab1 : ¬ (a : Int) ≤ (b : Int) := by omega
      have hab2 : (b : Int) < (a : Int) := by omega
      have hab3 : (b : Int) ≤ (a : Int) := by omega
      rcases hix : intV x with ⟨x1, o1⟩
      rcases hiy : intV y with ⟨y1, o2⟩
      rw [hix] at HI1
      rw [hiy] at HI2
      clear hix hiy
      clear hle la lb HLA HLB HIN HOI hab
      cases o1 <;> cases o2
      all_goals
        go_enter Tryz.func8, Tryz.ntmps8
        go_wp2_with fail
        refine HW.out.mono ?_
        rintro e w1 ⟨rfl, hb1⟩
        have B1 := Lib.hid hb1
        clear hb1
        go_wp2_with fail
        refine (O1.out _).mono ?_
        rintro e w1 ⟨rfl, rfl⟩
        go_wp2_with fail
        refine (O2.out _).mono ?_
        rintro e w1 ⟨rfl, rfl⟩
        go_wp2_with fail
        refine (HI1.out _).mono ?_
        rintro e w2 ⟨rfl, hb2⟩
        have B2 := Lib.hid (B1.out.trans (hb2.mono B1.out.size))
        clear hb2
        go_wp2_with fail
        refine (HI2.out _).mono ?_
        rintro e w3 ⟨rfl, hb3⟩
        have B3 := Lib.hid (B2.out.trans (hb3.mono B2.out.size))
        clear hb3
        go_wp2_with fail
        go_ret
        exact ⟨rfl, B3.out⟩
end Go.Proofs.YtmhagigokgklaaaGreatDoor

/- The shortest digits: which digits lie in the interval of a number (plain). -/
namespace Go.Proofs.YtmhagigokgklaaaGreatDoor
open Go Go.RowKit
set_option exponentiation.threshold 3000

/-- a number's parts, and those of its neighbours, in small units -/
theorem me_val (a : Nat) (h1 : 0 < a) (h2 : a < 9218868437227405312) :
    V a * 2 ^ 64 = MN a * 2 ^ (EN a + 1138).toNat ∧ V (a + 1) * 2 ^ 64 = (MN a + 2 ^ zN (EN a)) * 2 ^ (EN a + 1138).toNat ∧
    (MN a ≠ 9223372036854775808 → 2 ^ zN (EN a) ≤ MN a ∧ V (a - 1) * 2 ^ 64 = (MN a - 2 ^ zN (EN a)) * 2 ^ (EN a + 1138).toNat) ∧ MN a / 2 ^ zN (EN a) % 2 = a % 2 := by
  by_cases hs : a < 4503599627370496
  · have hm : mtN a = a := by unfold mtN; rw [if_pos hs]
    obtain ⟨hL1, _, _⟩ := bitLen_bounds a h1 (by omega)
    have hL := bitLen_le a 52 h1 (by omega) hs
    obtain ⟨s, hsd, hs64⟩ : ∃ s, 64 - Lib.bitLen a = s ∧ s ≤ 63 := ⟨_, rfl, by omega⟩
    have hs12 : 12 ≤ s := by omega
    have hE : EN a = -1074 - (s : Int) := by unfold EN sN; rw [if_pos hs, hm, hsd]; omega
    have hz : zN (EN a) = s := by unfold zN; rw [hE, if_neg (by omega)]; omega
    have hM : MN a = a * 2 ^ s := by unfold MN sN; rw [hm, hsd]
    have hF : (EN a + 1138).toNat = 64 - s := by rw [hE]; omega
    have hp : 2 ^ s * 2 ^ (64 - s) = 2 ^ 64 := by rw [← Nat.pow_add, show s + (64 - s) = 64 by omega]
    have v0 : V a = a := by have := V_at 0 a (by unfold BB; omega) (.inl rfl); simpa using this
    have v1 : V (a + 1) = a + 1 := by have := V_at 0 (a + 1) (by unfold BB; omega) (.inl rfl); simpa using this
    have v2 : V (a - 1) = a - 1 := by have := V_at 0 (a - 1) (by unfold BB; omega) (.inl rfl); simpa using this
    have key : ∀ k, k * 2 ^ s * 2 ^ (64 - s) = k * 2 ^ 64 := fun k => by rw [Nat.mul_assoc, hp]
    rw [hz, hM, hF]
    refine ⟨by rw [v0, key], by rw [v1, show a * 2 ^ s + 2 ^ s = (a + 1) * 2 ^ s from by rw [Nat.add_mul, Nat.one_mul], key], fun _ => ⟨Nat.le_mul_of_pos_left _ h1, ?_⟩, by rw [Nat.mul_div_cancel _ (Nat.two_pow_pos s)]⟩
    rw [v2, show a * 2 ^ s - 2 ^ s = (a - 1) * 2 ^ s from by rw [Nat.sub_mul, Nat.one_mul], key]
  · have hm : mtN a = a % 4503599627370496 + 4503599627370496 := by unfold mtN; rw [if_neg hs]
    have hr := Nat.mod_lt a (show 0 < 4503599627370496 by decide)
    have hdm := Nat.div_add_mod a 4503599627370496
    have hL1 := bitLen_le (a % 4503599627370496 + 4503599627370496) 53 (by omega) (by omega) (by omega)
    have hL2 := bitLen_gt (a % 4503599627370496 + 4503599627370496) 52 (by omega) (by omega) (by omega)
    have hL : Lib.bitLen (a % 4503599627370496 + 4503599627370496) = 53 := by omega
    have hM : MN a = (a % 4503599627370496 + 4503599627370496) * 2 ^ 11 := by unfold MN sN; rw [hm, hL]
    have hE : EN a = ((a / 4503599627370496 : Nat) : Int) - 1086 := by unfold EN sN; rw [if_neg hs, hm, hL]; omega
    have hz : zN (EN a) = 11 := by unfold zN; rw [hE, if_pos (by omega)]
    obtain ⟨E, hEd⟩ : ∃ E, a / 4503599627370496 = E + 1 := ⟨a / 4503599627370496 - 1, by omega⟩
    have hF : (EN a + 1138).toNat = E + 53 := by rw [hE, hEd]; omega
    generalize a % 4503599627370496 = f at *
    have ha : a = E * BB + (f + BB) := by
      have key : ∀ B : Nat, B * (E + 1) + f = a → a = E * B + (f + B) := fun B h => by rw [← h, Nat.mul_add, Nat.mul_one, Nat.mul_comm]; omega
      rw [hEd] at hdm
      exact key _ hdm
    have hpar : (f + 4503599627370496) % 2 = a % 2 := by
      rw [hEd] at hdm
      clear ha hF hz hE hM hL hL1 hL2 hm
      omega
    have hfb : f < BB := hr
    have b0 : f + BB ≤ 2 * BB := by rw [Nat.two_mul]; exact Nat.add_le_add_right (Nat.le_of_lt hfb) _
    have b1 : f + BB + 1 ≤ 2 * BB := by rw [Nat.two_mul]; exact Nat.add_lt_add_right hfb BB
    have c0 : BB ≤ f + BB := Nat.le_add_left _ _
    have v0 : V a = (f + BB) * 2 ^ E := by rw [ha]; exact V_at E (f + BB) b0 (.inr c0)
    have v1 : V (a + 1) = (f + BB + 1) * 2 ^ E := by rw [ha, Nat.add_assoc (E * BB)]; exact V_at E (f + BB + 1) b1 (.inr (Nat.le_succ_of_le c0))
    have key : ∀ k, k * 2 ^ 11 * 2 ^ (E + 53) = k * 2 ^ E * 2 ^ 64 := fun k => by
      rw [Nat.mul_assoc, Nat.mul_assoc, ← Nat.pow_add, ← Nat.pow_add, show 11 + (E + 53) = E + 64 from by rw [Nat.add_comm, Nat.add_assoc]]
    have hM' : MN a = (f + BB) * 2 ^ 11 := hM
    rw [hz, hF]
    refine ⟨by rw [hM', v0, key], by rw [hM', v1, ← key, Nat.succ_mul (f + BB)], fun hne => ?_, ?_⟩
    · have hf0 : 0 < f := by
        rcases Nat.eq_zero_or_pos f with h | h
        · exact absurd (by rw [hM, h]) hne
        · exact h
      have hfp : 1 ≤ f + BB := Nat.le_trans hf0 (Nat.le_add_right _ _)
      have v2 : V (a - 1) = (f + BB - 1) * 2 ^ E := by
        rw [ha, Nat.add_sub_assoc hfp]
        exact V_at E (f + BB - 1) (Nat.le_trans (Nat.sub_le _ _) b0) (.inr (Nat.le_sub_one_of_lt (Nat.lt_add_of_pos_left hf0)))
      rw [hM']
      refine ⟨Nat.le_mul_of_pos_left _ hfp, ?_⟩
      rw [v2, ← key, Nat.sub_mul (f + BB), Nat.one_mul]
    · rw [hM, Nat.mul_div_cancel _ (by decide)]
      exact hpar

/-- the scaled unit -/
def GN (p e : Int) : Nat := 4 * (DN p * (2 ^ (ssN p e).toNat * 340282366920938463463374607431768211456))
theorem GN_pos (p e : Int) : 0 < GN p e := Nat.mul_pos (by decide) (Nat.mul_pos (DN_pos p) (Nat.mul_pos (Nat.two_pow_pos _) (by decide)))
theorem AN_pos (p : Int) : 0 < AN p := Nat.mul_pos (Nat.pow_pos (by decide)) (Nat.two_pow_pos _)

theorem sc_eq (p e : Int) (hs : 5 ≤ ssN p e) (he : -1138 ≤ e) (x d : Nat) :
    dQ (-p) * (x * 2 ^ (e + 1138).toNat) * 2 ^ (127 - lpN p).toNat = x * AN p * 2 ^ (e + 1138).toNat ∧ d * dQ p * 2 ^ 1138 * 2 ^ (127 - lpN p).toNat = d * GN p e * 2 ^ (e + 1138).toNat := by
  constructor
  · unfold dQ AN
    rw [Int.neg_neg]
    ac_rfl
  · have hW : (340282366920938463463374607431768211456 : Nat) = 2 ^ 128 := by decide
    have e1 : 2 ^ 1138 * 2 ^ (127 - lpN p).toNat = 4 * (2 ^ (lpN p - 127).toNat * (2 ^ (ssN p e).toNat * 340282366920938463463374607431768211456)) * 2 ^ (e + 1138).toNat := by
      rw [hW, show (4 : Nat) = 2 ^ 2 from rfl, ← Nat.pow_add, ← Nat.pow_add, ← Nat.pow_add, ← Nat.pow_add, ← Nat.pow_add]
      congr 1
      unfold ssN at *
      omega
    unfold GN dQ DN
    rw [Nat.mul_assoc (d * 10 ^ (-p).toNat), e1]
    ac_rfl
theorem sc_le (p e : Int) (hs : 5 ≤ ssN p e) (he : -1138 ≤ e) (x d : Nat) : dQ (-p) * (x * 2 ^ (e + 1138).toNat) ≤ d * dQ p * 2 ^ 1138 ↔ x * AN p ≤ d * GN p e := by
  obtain ⟨e1, e2⟩ := sc_eq p e hs he x d
  rw [← Nat.mul_le_mul_right_iff (Nat.two_pow_pos (127 - lpN p).toNat), e1, e2, Nat.mul_le_mul_right_iff (Nat.two_pow_pos _)]
theorem sc_ge (p e : Int) (hs : 5 ≤ ssN p e) (he : -1138 ≤ e) (x d : Nat) : d * dQ p * 2 ^ 1138 ≤ dQ (-p) * (x * 2 ^ (e + 1138).toNat) ↔ d * GN p e ≤ x * AN p := by
  obtain ⟨e1, e2⟩ := sc_eq p e hs he x d
  rw [← Nat.mul_le_mul_right_iff (Nat.two_pow_pos (127 - lpN p).toNat), e1, e2, Nat.mul_le_mul_right_iff (Nat.two_pow_pos _)]

/-- the scaled numbers are exact -/
theorem us_exact (p e : Int) (h1 : -348 ≤ p) (h2 : p ≤ 347) (hs : 5 ≤ ssN p e) (z : Nat) (hz : z < 2 ^ 55) (hlo : 2 ^ 54 - 4 ≤ z) : usN p e (512 * z) = unr (512 * z * AN p) (GN p e) := by
  obtain ⟨hhi, hlo', hrow⟩ := row_is p h1 h2
  obtain ⟨j, hj, hj2⟩ : ∃ j, 2 ^ (ssN p e).toNat = 2 ^ 5 * j ∧ 0 < j := ⟨2 ^ ((ssN p e).toNat - 5), by rw [← Nat.pow_add, show 5 + ((ssN p e).toNat - 5) = (ssN p e).toNat by omega], Nat.two_pow_pos _⟩
  unfold usN GN
  refine uscN_eq (by omega) hlo' hrow (pmN_lo p) (pmN_hi p) (DN_pos p) (by rw [hj]; omega) ?_
  rw [hj]
  exact clear_print p h1 h2 j hj2 z hz hlo
end Go.Proofs.YtmhagigokgklaaaGreatDoor

/- The shortest digits are read as their number, and no fewer digits are (plain). -/
namespace Go.Proofs.YtmhagigokgklaaaGreatDoor
open Go Go.RowKit
set_option exponentiation.threshold 3000

theorem dX_scale (d k : Nat) (q : Int) : dX (d * 10 ^ k) q * dQ (q + k) = dX d (q + k) * dQ q := by
  unfold dX dQ
  have h : 10 ^ k * 10 ^ q.toNat * 10 ^ (-(q + k)).toNat = 10 ^ (q + k).toNat * 10 ^ (-q).toNat := by
    rw [← Nat.pow_add, ← Nat.pow_add, ← Nat.pow_add]
    congr 1
    omega
  generalize 10 ^ k = t1 at *
  generalize 10 ^ q.toNat = t2 at *
  generalize 10 ^ (-(q + k)).toNat = t3 at *
  generalize 10 ^ (q + k).toNat = t4 at *
  generalize 10 ^ (-q).toNat = t5 at *
  generalize 2 ^ 1074 = W
  have e1 : 2 * (d * t1 * t2 * W) * t3 = 2 * (d * W) * (t1 * t2 * t3) := by ac_rfl
  have e2 : 2 * (d * t4 * W) * t5 = 2 * (d * W) * (t4 * t5) := by ac_rfl
  rw [e1, e2, h]
theorem near_up (d k a : Nat) (q : Int) (h : Near (dX (d * 10 ^ k) q) (dQ q) a) : Near (dX d (q + k)) (dQ (q + k)) a := near_ratio h (dQ_pos _) (dX_scale d k q)
theorem near_down (d k a : Nat) (q : Int) (h : Near (dX d (q + k)) (dQ (q + k)) a) : Near (dX (d * 10 ^ k) q) (dQ q) a := near_ratio h (dQ_pos _) (dX_scale d k q).symm

theorem cmp_of (p e : Int) (hs : 5 ≤ ssN p e) (he : -1138 ≤ e) (S x d : Nat) (hS : S * 2 ^ 63 = x * 2 ^ (e + 1138).toNat) :
    (dQ (-p) * S ≤ dX d (-p) ↔ x * AN p ≤ d * GN p e) ∧ (dX d (-p) ≤ dQ (-p) * S ↔ d * GN p e ≤ x * AN p) := by
  have e1 : dX d (-p) * 2 ^ 63 = d * dQ p * 2 ^ 1138 := by
    show 2 * (d * dQ p * 2 ^ 1074) * 2 ^ 63 = _
    rw [show (2 : Nat) ^ 1138 = 2 * 2 ^ 1074 * 2 ^ 63 from by decide +kernel]
    ac_rfl
  have e2 : dQ (-p) * S * 2 ^ 63 = dQ (-p) * (x * 2 ^ (e + 1138).toNat) := by rw [Nat.mul_assoc, hS]
  have hp : 0 < 2 ^ 63 := by decide
  constructor
  · rw [← Nat.mul_le_mul_right_iff hp, e1, e2, sc_le p e hs he]
  · rw [← Nat.mul_le_mul_right_iff hp, e1, e2, sc_ge p e hs he]

/-- digits d at a power lie in the interval of a number -/
theorem in_iff (a : Nat) (h1 : 0 < a) (h2 : a < 9218868437227405312) (hm : MN a ≠ 9223372036854775808) (p : Int) (hs : 5 ≤ ssN p (EN a)) (d : Nat) :
    Near (dX d (-p)) (dQ (-p)) a ↔
      ((MN a - 2 ^ (zN (EN a) - 1)) * AN p ≤ d * GN p (EN a) ∧ (a % 2 = 1 → (MN a - 2 ^ (zN (EN a) - 1)) * AN p < d * GN p (EN a))) ∧
      (d * GN p (EN a) ≤ (MN a + 2 ^ (zN (EN a) - 1)) * AN p ∧ (a % 2 = 1 → d * GN p (EN a) < (MN a + 2 ^ (zN (EN a) - 1)) * AN p)) := by
  obtain ⟨m1, m2, m3, m4, m5⟩ := me_ok a h1 h2
  obtain ⟨v0, v1, v2, _⟩ := me_val a h1 h2
  obtain ⟨v3, v4⟩ := v2 hm
  obtain ⟨hz1, hz2⟩ := zN_ge (EN a) m4
  have e1 : 2 ^ zN (EN a) = 2 * 2 ^ (zN (EN a) - 1) := by rw [← Nat.pow_succ', show (zN (EN a) - 1).succ = zN (EN a) from by omega]
  rw [e1] at v1 v3 v4
  have he : -1138 ≤ EN a := by omega
  generalize EN a = e at *
  generalize MN a = m at *
  generalize 2 ^ (zN e - 1) = h at *
  have s1 : (V a + V (a + 1)) * 2 ^ 63 = (m + h) * 2 ^ (e + 1138).toNat := by
    have : (V a + V (a + 1)) * 2 ^ 63 * 2 = (m + h) * 2 ^ (e + 1138).toNat * 2 := by
      rw [Nat.mul_assoc, show 2 ^ 63 * 2 = 2 ^ 64 from by decide, Nat.add_mul, v0, v1, ← Nat.add_mul, Nat.mul_right_comm]
      congr 1; omega
    exact Nat.eq_of_mul_eq_mul_right (by decide) this
  have s0 : (V (a - 1) + V a) * 2 ^ 63 = (m - h) * 2 ^ (e + 1138).toNat := by
    have : (V (a - 1) + V a) * 2 ^ 63 * 2 = (m - h) * 2 ^ (e + 1138).toNat * 2 := by
      rw [Nat.mul_assoc, show 2 ^ 63 * 2 = 2 ^ 64 from by decide, Nat.add_mul, v0, v4, ← Nat.add_mul, Nat.mul_right_comm]
      congr 1; omega
    exact Nat.eq_of_mul_eq_mul_right (by decide) this
  obtain ⟨c1, c2⟩ := cmp_of p e hs he _ _ d s0
  obtain ⟨c3, c4⟩ := cmp_of p e hs he _ _ d s1
  constructor
  · intro hn
    have hlo : _ := hn.lo.resolve_left (by omega)
    have hhi : _ := hn.hi.resolve_left (by unfold INF; omega)
    exact ⟨⟨c1.1 hlo.1, fun ho => Nat.lt_of_not_le fun hh => Nat.not_le.2 (hlo.2 ho) (c2.2 hh)⟩, ⟨c4.1 hhi.1, fun ho => Nat.lt_of_not_le fun hh => Nat.not_le.2 (hhi.2 ho) (c3.2 hh)⟩⟩
  · rintro ⟨⟨l1, l2⟩, ⟨u1, u2⟩⟩
    exact ⟨dQ_pos _, by unfold INF; omega, .inr ⟨c1.2 l1, fun ho => Nat.lt_of_not_le fun hh => Nat.not_le.2 (l2 ho) (c2.1 hh)⟩, .inr ⟨c4.2 u1, fun ho => Nat.lt_of_not_le fun hh => Nat.not_le.2 (u2 ho) (c3.1 hh)⟩⟩

/-- the interval, ten to the chosen power wide, is at least one and less than ten -/
def widOK (k : Int) : Bool := decide (dQ (-l10N k) * 2 ^ 1138 ≤ dQ (-(-l10N k)) * 2 ^ (k + 1138).toNat) && decide (dQ (-(-l10N k)) * 2 ^ (k + 1138).toNat < 10 * dQ (-l10N k) * 2 ^ 1138)
def widAll : Nat → Int → Bool
  | 0, _ => true
  | n + 1, k => widOK k && widAll n (k + 1)
theorem widAll_get : ∀ (n : Nat) (k : Int), widAll n k = true → ∀ i : Nat, i < n → widOK (k + i) = true
  | 0, _, _, _, h => by omega
  | n + 1, k, h, 0, _ => by
    simp only [widAll, Bool.and_eq_true] at h
    simpa using h.1
  | n + 1, k, h, i + 1, hi => by
    simp only [widAll, Bool.and_eq_true] at h
    have := widAll_get n (k + 1) h.2 i (by omega)
    rwa [show k + 1 + (i : Int) = k + ((i + 1 : Nat) : Int) from by push_cast; omega] at this
theorem wid_all : widAll 2090 (-1074) = true := by decide +kernel
theorem wid (e : Int) (h1 : -1137 ≤ e) (h2 : e ≤ 1000) : GN (ppN false e) e ≤ 2 ^ zN e * AN (ppN false e) ∧ 2 ^ zN e * AN (ppN false e) < 10 * GN (ppN false e) e := by
  have hk1 : -1074 ≤ e + zN e := by unfold zN; split <;> omega
  have hk2 : e + zN e ≤ 1011 := by unfold zN; split <;> omega
  have hw := widAll_get _ _ wid_all (e + zN e + 1074).toNat (by omega)
  rw [show -1074 + ((e + zN e + 1074).toNat : Int) = e + zN e from by omega] at hw
  simp only [widOK, Bool.and_eq_true, decide_eq_true_eq] at hw
  obtain ⟨w1, w2⟩ := hw
  have hpp : ppN false e = -l10N (e + zN e) := rfl
  rw [← hpp] at w1 w2
  have ok := (exp_ok e h1 h2).1
  simp only [expOK, Bool.and_eq_true, decide_eq_true_eq] at ok
  have hF : 2 ^ (e + zN e + 1138).toNat = 2 ^ zN e * 2 ^ (e + 1138).toNat := by
    rw [← Nat.pow_add]; congr 1; omega
  rw [hF] at w1 w2
  constructor
  · have := (sc_ge (ppN false e) e ok.1.2 (by omega) (2 ^ zN e) 1).1 (by rw [Nat.one_mul]; exact w1)
    rwa [Nat.one_mul] at this
  · refine Nat.lt_of_not_le fun hh => Nat.not_le.2 w2 ?_
    exact (sc_ge (ppN false e) e ok.1.2 (by omega) (2 ^ zN e) 10).2 hh
end Go.Proofs.YtmhagigokgklaaaGreatDoor
