/- Joined texts: Pr Pm Pn Po Pl. Each begins with its own remark. -/
import Derived.Test.YtmhagigokgklaaaGreatDoorJg
import Derived.Test.YtmhagigokgklaaaGreatDoorJh
import Derived.LaidEqlPtr
import Derived.Test.YtmhagigokgklaaaGreatDoorJf
import Derived.Deep.LoopGhost
import Derived.Lib.ConvBytes
import Derived.Lib.AtoiErrMem
import Derived.Laws.BitsAllLaws
import Derived.Lib.DecodeN
import Derived.Lib.MapLaws
import Derived.Test.YtmhagigokgklaaaGreatDoorJb
import Derived.Test.YtmhagigokgklaaaGreatDoorShelf

/- atofHex of whole numbers (printed by gen_hex15.py). -/
namespace Go.Proofs.YtmhagigokgklaaaGreatDoor
open Go Go.RowKit
set_option exponentiation.threshold 5000

/-- the rung of a number whose unrounded digits, at two places, are m -/
theorem hex_near (N k J m : Nat) (hm : m = unr (N * 2 ^ k) (2 ^ (J + 2))) (h1 : 18014398509481984 ≤ m) (h2 : m < 36028797018963968) (hk : k ≤ 1076 + J) :
    Near (2 * (N * 2 ^ 1074)) 1 (min INF ((1076 + J - k) * BB + (m + 1 + m / 4 % 2) / 4)) := by
  have hG : 0 < 2 ^ (J + 2) := Nat.two_pow_pos _
  have hf : N * 2 ^ k / 2 ^ (J + 2) = m / 4 := by rw [hm, unr_floor _ _ hG]
  have hr := unr_round (N * 2 ^ k) (2 ^ (J + 2)) hG
  rw [← hm] at hr
  rw [hr]
  refine near_gap (by decide) hG ?_ (by rw [hf]; unfold BB; omega) (.inr (by rw [hf]; unfold BB; omega))
  rw [Nat.one_mul, Nat.mul_assoc 2, Nat.mul_assoc N, ← Nat.pow_add, Nat.mul_assoc N, ← Nat.pow_add]
  congr 3
  omega

/-- one step to the right -/
theorem hex_step (n J m : Nat) (hm : m = unr n (2 ^ (J + 2))) : m / 2 ||| m % 2 = unr n (2 ^ (J + 1 + 2)) := by
  rw [or_half, hm, unr_half _ _ (Nat.two_pow_pos _)]
  rw [show J + 1 + 2 = (J + 2) + 1 from by omega, Nat.pow_succ' (n := J + 2)]

theorem hex_up (m q : Nat) (_hq : q = m / 4) : (m % 4 ||| q % 2 = 3 → (m + 1 + m / 4 % 2) / 4 = q + 1) ∧ (¬ (m % 4 ||| q % 2 = 3) → (m + 1 + m / 4 % 2) / 4 = q) := by
  subst _hq
  have h4 := Nat.div_add_mod m 4
  have h2 := Nat.mod_two_eq_zero_or_one (m / 4)
  have hl := Nat.mod_lt m (show 0 < 4 by decide)
  generalize m % 4 = a at *
  generalize m / 4 = b at *
  rcases h2 with h2 | h2 <;> rw [h2] <;> rcases (by omega : a = 0 ∨ a = 1 ∨ a = 2 ∨ a = 3) with h | h | h | h <;> subst h <;> constructor <;> intro hh <;> first | omega | exact absurd hh (by decide) | exact absurd (by decide) hh

set_option maxRecDepth 100000 in
/-- the last bits -/
theorem hex_bits (q T : Nat) (h1 : 4503599627370496 ≤ q) (h2 : q < 9007199254740992) (hT : T < 2048) :
    bits .and .u64 (q : Int) 4503599627370495 = ((q - 4503599627370496 : Nat) : Int) ∧ bits .and .i64 (T : Int) 2047 = (T : Int) ∧
    bits .or .u64 ((q - 4503599627370496 : Nat) : Int) ((T : Int) * 4503599627370496) = ((T * 4503599627370496 + (q - 4503599627370496) : Nat) : Int) := by
  refine ⟨?_, ?_, ?_⟩
  · have h := u64_and_nat q 4503599627370495 (by omega) (by decide)
    have h3 : q &&& 4503599627370495 = q - 4503599627370496 := by
      have h4 : q &&& 4503599627370495 = q % 4503599627370496 := Nat.and_two_pow_sub_one_eq_mod q 52
      rw [h4]; omega
    rw [h3] at h
    exact h
  · have h := bits_and_2047 (T * 4503599627370496) T (by omega) (by omega) (by omega)
    rw [show ((T * 4503599627370496 : Nat) : Int) / 4503599627370496 = T from by omega] at h
    exact h
  · have h := bits_or_u64_nat (q - 4503599627370496) (T * 4503599627370496) (by omega) (by omega)
    rw [or_parts _ T (by omega)] at h
    exact h

set_option maxRecDepth 100000 in
theorem hex_leaf (N k J m q qf T : Nat) (hm : m = unr (N * 2 ^ k) (2 ^ (J + 2))) (h1 : 18014398509481984 ≤ m) (h2 : m < 36028797018963968) (hk : k ≤ 1076 + J)
    (hq : (m + 1 + m / 4 % 2) / 4 = q) (hf1 : 4503599627370496 ≤ qf) (hf2 : qf < 9007199254740992) (hT : T * BB + qf = (1077 + J - k) * BB + q) :
    (T < 2047 → Near (2 * (N * 2 ^ 1074)) 1 (T * 4503599627370496 + (qf - 4503599627370496)) ∧ T * 4503599627370496 + (qf - 4503599627370496) ≠ INF) ∧ (¬ T < 2047 → Near (2 * (N * 2 ^ 1074)) 1 INF) := by
  have hn := hex_near N k J m hm h1 h2 hk
  rw [hq] at hn
  have he : (1076 + J - k) * BB + q = T * BB + (qf - BB) := by
    have : (1077 + J - k) * BB = (1076 + J - k) * BB + BB := by
      rw [show 1077 + J - k = (1076 + J - k) + 1 from by omega, Nat.add_mul, Nat.one_mul]
    have hbq : BB ≤ qf := hf1
    clear hm hn hq h1 h2 hf1 hf2
    generalize (1077 + J - k) * BB = a at *
    generalize (1076 + J - k) * BB = b at *
    generalize T * BB = c at *
    omega
  rw [he] at hn
  refine ⟨fun h => ?_, fun h => ?_⟩
  · have hlt : T * BB + (qf - BB) < INF := by
      unfold BB INF
      omega
    rw [Nat.min_eq_right (Nat.le_of_lt hlt)] at hn
    exact ⟨hn, Nat.ne_of_lt hlt⟩
  · rw [Nat.min_eq_left] at hn
    · exact hn
    · unfold BB INF
      omega

theorem info_size : (Tryz.prog.info? 172).map (fun i => i.size != 0) = some true := by kernel_rfl

/-- what is asked of the digits held and dropped -/
structure HexIn (N mant J : Nat) (tr : Bool) : Prop where
  lt : mant < 18446744073709551616
  pos : 1 ≤ mant
  le : J ≤ 4000
  val : (if tr = true then mant ||| 1 else mant) = unr N (2 ^ (J + 2))
  big : (J = 0 ∧ tr = false) ∨ 576460752303423488 ≤ mant

def HxPost (N : Nat) (w : World) (e : Ending) (w' : World) : Prop := ∃ r, Near (2 * (N * 2 ^ 1074)) 1 r ∧ e = .returned (.tuple #[.float .f64 r, errV r]) ∧ ∃ n, w' = w.drewN n

theorem hex_start (N mant J0 k m : Nat) (hval : mant = unr N (2 ^ (J0 + 2))) (hbig : J0 = 0 ∨ 576460752303423488 ≤ mant) (hm : m = mant * 2 ^ k) (hk : k = 0 ∨ m < 36028797018963968) :
    m = unr (N * 2 ^ k) (2 ^ (J0 + 2)) := by
  rcases hk with h | h
  · rw [hm, h, Nat.pow_zero, Nat.mul_one, Nat.mul_one]; exact hval
  · rcases hbig with h0 | h0
    · rw [h0] at hval ⊢
      have e : ∀ n, unr n (2 ^ (0 + 2)) = n := fun n => by unfold unr; split <;> omega
      rw [e] at hval ⊢
      rw [hm, hval]
    · exfalso
      have h2 : mant ≤ mant * 2 ^ k := Nat.le_mul_of_pos_right _ (Nat.two_pow_pos k)
      omega

set_option maxRecDepth 100000 in
set_option maxHeartbeats 4000000 in
theorem atof_hex_false (st : ByteArray) (N mant J0 K : Nat) (w : World) (hg : GlobT K w) (hin : HexIn N mant J0 false) :
    Calls Tryz.prog 143 #[.string st, .pointer (some ⟨9, 0, Option.none⟩), .int .u64 mant, .int .i64 J0, .bool false, .bool false] w (HxPost N w) := by
  obtain ⟨i0, i1, i2⟩ := hg.inf
  obtain ⟨bca, bcb, bta, btb, k1, k2⟩ := hg.blk
  obtain ⟨j, hj, hjs⟩ := Option.map_eq_some_iff.1 info_size
  have heq : ∀ n : Nat, (binOp .eql 170 (.pointer (some ⟨9, 0, Option.none⟩)) (.pointer (some ⟨8, 0, Option.none⟩))).run Tryz.prog (w.drewN n) = .ok (.bool false) (w.drewN n) := fun n =>
    run_eql_ptr_other (w.drewN n) Tryz.underlying170 hj (by simpa using hjs) (by decide) k2 k1
  clear k1 k2 hj hjs
  obtain ⟨hlt, hpos, hle, hval, hbig⟩ := hin
  have HVAL := Lib.hid hval
  clear hval
  go_enter Tryz.func143, Tryz.ntmps143
  go_upto_region 1 with fail
  go_quiet (fail)
  go_wp2_with fail
  go_loopg [2, 3] 54 (fun g s2 s3 wr => ∃ (k m n : Nat) (x : Int), k + g = 54 ∧ m = mant * 2 ^ k ∧ x = (J0 : Int) + 52 - k ∧ (k = 0 ∨ m < 36028797018963968) ∧ s2 = .int .u64 m ∧ s3 = .int .i64 x ∧ wr = w.drewN n)
  case atStart => exact ⟨0, mant, _, _, by omega, by omega, rfl, .inl rfl, rfl, by go_num, rfl⟩
  case round =>
    obtain ⟨k, m, n, x, hkg, hm, hx, hk, rfl, rfl, rfl⟩ := hrel
    have hmb : m < 18446744073709551616 := by
      rcases hk with hk | hk
      · rw [hm, hk, Nat.pow_zero, Nat.mul_one]; exact hlt
      · omega
    have hmp : 1 ≤ m := by rw [hm]; exact Nat.mul_pos hpos (Nat.two_pow_pos k)
    have hne : ((m : Int) != 0) = true := by rw [bne_iff_ne]; omega
    have hHM := Lib.hid hm
    by_cases hc : m < 18014398509481984
    · have hq : ((m : Int) / 18014398509481984 == 0) = true := by rw [beq_iff_eq]; omega
      have hk54 : k < 54 := by
        rcases Nat.lt_or_ge k 54 with h | h
        · exact h
        · exfalso
          have : k = 54 := by omega
          subst this
          have : 2 ^ 54 * 1 ≤ 2 ^ 54 * mant := Nat.mul_le_mul_left _ hpos
          rw [Nat.mul_comm] at hm
          omega
      have hm2 : m * 2 = mant * 2 ^ (k + 1) := by rw [hm, Nat.pow_succ, Nat.mul_assoc]
      have HM2 := Lib.hid hm2
      clear hm hm2 hk
      go_wp2_with fail
      go_roundg (gk - 1)
      case measure => omega
      case rel => exact ⟨k + 1, m * 2, _, x - 1, by omega, HM2.out, by omega, .inr (by omega), by go_num, by go_num, rfl⟩
    · have hq : ((m : Int) / 18014398509481984 == 0) = false := by rw [beq_eq_false_iff_ne]; omega
      have HXX := Lib.hid hx
      have HKK := Lib.hid hk
      clear hm
      have HM1 : Hid (m = unr (N * 2 ^ k) (2 ^ (J0 + 2))) := Lib.hid (hex_start N mant J0 k m HVAL.out (by omega) hHM.out HKK.out)
      generalize hm1 : m = m1 at *
      go_wp2_with fail
      go_loopg [2, 3] 9 (fun g s2 s3 wr => ∃ (J m n : Nat) (x : Int), J + g ≤ J0 + 9 ∧ g ≤ 9 ∧ m = unr (N * 2 ^ k) (2 ^ (J + 2)) ∧ x = (J : Int) + 52 - k ∧ 18014398509481984 ≤ m ∧ m < 36028797018963968 * 2 ^ g ∧ s2 = .int .u64 m ∧ s3 = .int .i64 x ∧ wr = w.drewN n)
      case atStart => exact ⟨J0, m1, _, x, by omega, by omega, HM1.out, hx, by omega, by omega, rfl, rfl, rfl⟩
      clear hq hne hk hx
      clear hmb hmp hc
      case round =>
        obtain ⟨J, m, n, x, hJ, hg9, hm, hx, hlo, hhi, rfl, rfl, rfl⟩ := hrel
        have HM := Lib.hid hm
        have hn4 : ((m : Nat) : Int) / 4 = ((m / 4 : Nat) : Int) := by omega
        by_cases hc2 : m < 36028797018963968
        · have hq2 : ((m : Int) / 36028797018963968 != 0) = false := by rw [bne_eq_false_iff_eq]; omega
          clear hm
          go_wp2_with fail
          go_loopg [2, 3] 0 (fun _ s2 s3 wr => ∃ n : Nat, s2 = .int .u64 m ∧ s3 = .int .i64 x ∧ wr = w.drewN n)
          case atStart => exact ⟨_, rfl, rfl, rfl⟩
          case round =>
            obtain ⟨n, rfl, rfl, rfl⟩ := hrel
            have hx0 : ¬ (x < -1024) := by omega
            have hm1 : (1 : Int) < (m : Int) := by omega
            have HUP := Lib.hid (hex_up m (m / 4) rfl)
            have ha1 : bits .and .u64 (m : Int) 3 = ((m % 4 : Nat) : Int) := by
              have h := u64_and_nat m 3 (by omega) (by decide)
              rw [Nat.and_two_pow_sub_one_eq_mod m 2] at h
              exact h
            have ha2 : bits .and .u64 ((m / 4 : Nat) : Int) 1 = ((m / 4 % 2 : Nat) : Int) := by
              have h := u64_and_nat (m / 4) 1 (by omega) (by decide)
              rw [Nat.and_two_pow_sub_one_eq_mod (m / 4) 1] at h
              exact h
            have ha3 := bits_or_u64_nat (m % 4) (m / 4 % 2) (by omega) (by omega)
            have hqlo : 4503599627370496 ≤ m / 4 := by omega
            have hqhi : m / 4 < 9007199254740992 := by omega
            obtain ⟨q, hq⟩ : ∃ q, m / 4 = q := ⟨_, rfl⟩
            have HQ := Lib.hid hq
            rw [hq] at HUP ha2 ha3 hqlo hqhi hn4
            clear hq
            generalize m % 4 = ra at *
            obtain ⟨rb, hrb⟩ : ∃ rb, q % 2 = rb := ⟨_, rfl⟩
            have HRB := Lib.hid hrb
            rw [hrb] at HUP ha2 ha3
            clear hrb
            generalize hrc : ra ||| rb = rc at *
            have HX := Lib.hid hx
            have hxk : k ≤ 54 := by omega
            have hxj : x = (J : Int) + 52 - k := hx
            clear hx hhi
            by_cases hup : rc = 3
            · have hb : ((rc : Int) == 3) = true := by rw [beq_iff_eq]; omega
              by_cases hfu : q + 1 = 9007199254740992
              · have hb2 : ((q : Int) + 1) = 9007199254740992 := by omega
                obtain ⟨qf, hqf⟩ : ∃ qf : Nat, qf = 4503599627370496 := ⟨_, rfl⟩
                have hq5 : (9007199254740992 : Int) / 2 = (qf : Int) := by omega
                have hT0 : x + 2 + 1 - -1023 = ((J + 1078 - k : Nat) : Int) := by omega
                have hT3 : (1023 : Int) + (x + 2 + 1) = ((J + 1078 - k : Nat) : Int) := by omega
                have HNR := Lib.hid (hex_leaf N k J m (q + 1) (qf) (J + 1078 - k) HM.out hlo hc2 (by omega) (by rw [HQ.out, HRB.out]; have := HUP.out; exact this.1 hup) (by omega) (by omega) (by unfold BB; omega))
                by_cases hT : J + 1078 - k < 2047
                · have hT1 : ¬ (1023 < x + 2 + 1) := by omega
                  obtain ⟨f1, f2, f3⟩ := hex_bits (qf) (J + 1078 - k) (by omega) (by omega) (by omega)
                  have HR := Lib.hid (HNR.out.1 hT)
                  have hf1 : ((qf : Nat) : Int) / 4503599627370496 = 1 := by omega
                  clear hxj hqf
                  have hs := run_sfrom ((J + 1078 - k) * 4503599627370496 + (qf - 4503599627370496))
                  generalize J + 1078 - k = T at *
                  generalize T * 4503599627370496 + (qf - 4503599627370496) = R at *
                  generalize qf - 4503599627370496 = fr at *
                  clear HM hJ
                  go_upto_region 32 with fail
                  go_quiet (fail)
                  go_wp2_with fail
                  refine bodyPost_ret (v := .tuple #[.float .f64 R, .nilIface]) (by simp [results, Tryz.results143, go_sem]) rfl ⟨R, HR.out.1, by rw [show errV R = .nilIface from if_neg HR.out.2], _, rfl⟩
                · have hT1 : 1023 < x + 2 + 1 := by omega
                  have HR := Lib.hid (HNR.out.2 hT)
                  have hf1 : ((qf : Nat) : Int) / 4503599627370496 = 1 := by omega
                  have hs : ∀ W : World, (callFunc 151 #[.int .u64 9218868437227405312]).run Tryz.prog W = .ok (.value (.float .f64 9218868437227405312)) W := run_sfrom 9218868437227405312
                  have ho : bits .or .u64 0 9218868437227405312 = 9218868437227405312 := by decide +kernel
                  have ha : bits .and .u64 4503599627370496 4503599627370495 = 0 := by decide +kernel
                  have ha2 : bits .and .i64 2047 2047 = 2047 := by decide +kernel
                  clear hxj hqf
                  go_upto_region 32 with fail
                  go_quiet (fail)
                  go_wp2_with fail
                  refine bodyPost_ret (v := .tuple #[.float .f64 9218868437227405312, .iface 111 (.int .i64 1)]) (by simp [results, Tryz.results143, go_sem]) rfl ⟨INF, HR.out, rfl, _, rfl⟩
              · skip
                obtain ⟨qf, hqf⟩ : ∃ qf : Nat, qf = q + 1 := ⟨_, rfl⟩
                have hq6 : (q : Int) + 1 = (qf : Int) := by omega
                have hb2 : ((qf : Int) == 9007199254740992) = false := by rw [beq_eq_false_iff_ne]; omega
                have hT0 : x + 2 - -1023 = ((J + 1077 - k : Nat) : Int) := by omega
                have hT3 : (1023 : Int) + (x + 2) = ((J + 1077 - k : Nat) : Int) := by omega
                have HNR := Lib.hid (hex_leaf N k J m (q + 1) (qf) (J + 1077 - k) HM.out hlo hc2 (by omega) (by rw [HQ.out, HRB.out]; have := HUP.out; exact this.1 hup) (by omega) (by omega) (by unfold BB; omega))
                by_cases hT : J + 1077 - k < 2047
                · have hT1 : ¬ (1023 < x + 2) := by omega
                  obtain ⟨f1, f2, f3⟩ := hex_bits (qf) (J + 1077 - k) (by omega) (by omega) (by omega)
                  have HR := Lib.hid (HNR.out.1 hT)
                  have hf1 : ((qf : Nat) : Int) / 4503599627370496 = 1 := by omega
                  clear hxj hqf
                  have hs := run_sfrom ((J + 1077 - k) * 4503599627370496 + (qf - 4503599627370496))
                  generalize J + 1077 - k = T at *
                  generalize T * 4503599627370496 + (qf - 4503599627370496) = R at *
                  generalize qf - 4503599627370496 = fr at *
                  clear HM hJ
                  go_upto_region 32 with fail
                  go_quiet (fail)
                  go_wp2_with fail
                  refine bodyPost_ret (v := .tuple #[.float .f64 R, .nilIface]) (by simp [results, Tryz.results143, go_sem]) rfl ⟨R, HR.out.1, by rw [show errV R = .nilIface from if_neg HR.out.2], _, rfl⟩
                · have hT1 : 1023 < x + 2 := by omega
                  have HR := Lib.hid (HNR.out.2 hT)
                  have hf1 : ((qf : Nat) : Int) / 4503599627370496 = 1 := by omega
                  have hs : ∀ W : World, (callFunc 151 #[.int .u64 9218868437227405312]).run Tryz.prog W = .ok (.value (.float .f64 9218868437227405312)) W := run_sfrom 9218868437227405312
                  have ho : bits .or .u64 0 9218868437227405312 = 9218868437227405312 := by decide +kernel
                  have ha : bits .and .u64 4503599627370496 4503599627370495 = 0 := by decide +kernel
                  have ha2 : bits .and .i64 2047 2047 = 2047 := by decide +kernel
                  clear hxj hqf
                  go_upto_region 32 with fail
                  go_quiet (fail)
                  go_wp2_with fail
                  refine bodyPost_ret (v := .tuple #[.float .f64 9218868437227405312, .iface 111 (.int .i64 1)]) (by simp [results, Tryz.results143, go_sem]) rfl ⟨INF, HR.out, rfl, _, rfl⟩
            · have hb : ((rc : Int) == 3) = false := by rw [beq_eq_false_iff_ne]; omega
              have hT0 : x + 2 - -1023 = ((J + 1077 - k : Nat) : Int) := by omega
              have hT3 : (1023 : Int) + (x + 2) = ((J + 1077 - k : Nat) : Int) := by omega
              have HNR := Lib.hid (hex_leaf N k J m (q) (q) (J + 1077 - k) HM.out hlo hc2 (by omega) (by rw [HQ.out, HRB.out]; have := HUP.out; exact this.2 hup) (by omega) (by omega) (by unfold BB; omega))
              by_cases hT : J + 1077 - k < 2047
              · have hT1 : ¬ (1023 < x + 2) := by omega
                obtain ⟨f1, f2, f3⟩ := hex_bits (q) (J + 1077 - k) (by omega) (by omega) (by omega)
                have HR := Lib.hid (HNR.out.1 hT)
                have hf1 : ((q : Nat) : Int) / 4503599627370496 = 1 := by omega
                clear hxj
                have hs := run_sfrom ((J + 1077 - k) * 4503599627370496 + (q - 4503599627370496))
                generalize J + 1077 - k = T at *
                generalize T * 4503599627370496 + (q - 4503599627370496) = R at *
                generalize q - 4503599627370496 = fr at *
                clear HM hJ
                go_upto_region 32 with fail
                go_quiet (fail)
                go_wp2_with fail
                refine bodyPost_ret (v := .tuple #[.float .f64 R, .nilIface]) (by simp [results, Tryz.results143, go_sem]) rfl ⟨R, HR.out.1, by rw [show errV R = .nilIface from if_neg HR.out.2], _, rfl⟩
              · have hT1 : 1023 < x + 2 := by omega
                have HR := Lib.hid (HNR.out.2 hT)
                have hf1 : ((q : Nat) : Int) / 4503599627370496 = 1 := by omega
                have hs : ∀ W : World, (callFunc 151 #[.int .u64 9218868437227405312]).run Tryz.prog W = .ok (.value (.float .f64 9218868437227405312)) W := run_sfrom 9218868437227405312
                have ho : bits .or .u64 0 9218868437227405312 = 9218868437227405312 := by decide +kernel
                have ha : bits .and .u64 4503599627370496 4503599627370495 = 0 := by decide +kernel
                have ha2 : bits .and .i64 2047 2047 = 2047 := by decide +kernel
                clear hxj
                go_upto_region 32 with fail
                go_quiet (fail)
                go_wp2_with fail
                refine bodyPost_ret (v := .tuple #[.float .f64 9218868437227405312, .iface 111 (.int .i64 1)]) (by simp [results, Tryz.results143, go_sem]) rfl ⟨INF, HR.out, rfl, _, rfl⟩
        · have hq2 : ((m : Int) / 36028797018963968 != 0) = true := by rw [bne_iff_ne]; omega
          have HM3 := Lib.hid (hex_step _ _ _ hm)
          have hgp : 1 ≤ gk := by
            rcases Nat.eq_zero_or_pos gk with h | h
            · rw [h, Nat.pow_zero, Nat.mul_one] at hhi; omega
            · exact h
          have hmb : m < 18446744073709551616 := by
            have := Nat.mul_le_mul_left 36028797018963968 (Nat.pow_le_pow_right (show 0 < 2 by decide) (show gk ≤ 9 by omega))
            omega
          have ha1 : bits .and .u64 (m : Int) 1 = ((m % 2 : Nat) : Int) := by
            have h := u64_and_nat m 1 (by omega) (by decide)
            rw [Nat.and_two_pow_sub_one_eq_mod m 1] at h
            exact h
          have ha3 := bits_or_u64_nat (m / 2) (m % 2) (by omega) (by omega)
          have hoh := or_half m
          have hm3 : m / 2 ||| m % 2 < 36028797018963968 * 2 ^ (gk - 1) := by
            obtain ⟨g', rfl⟩ : ∃ g', gk = g' + 1 := ⟨gk - 1, by omega⟩
            rw [Nat.pow_succ] at hhi
            rw [Nat.add_sub_cancel, hoh]
            generalize 2 ^ g' = P at *
            split <;> omega
          have hm4 : 18014398509481984 ≤ m / 2 ||| m % 2 := by
            rw [hoh]; split <;> omega
          obtain ⟨mh, hmh⟩ : ∃ mh, m / 2 = mh := ⟨_, rfl⟩
          have hn2 : ((m : Nat) : Int) / 2 = (mh : Int) := by omega
          have hHM3 := HM3.out
          rw [hmh] at ha3 hm3 hm4 hHM3
          clear hmh HM3 hoh
          generalize m % 2 = ml at *
          generalize mh ||| ml = m2 at *
          have HM3 := Lib.hid hHM3
          clear hHM3
          have HHI := Lib.hid hhi
          have HM4 := Lib.hid hm3
          clear hhi hm3 hm
          go_wp2_with fail
          go_roundg (gk - 1)
          case measure => omega
          case rel => exact ⟨J + 1, m2, _, x + 1, by omega, by omega, HM3.out, by omega, hm4, HM4.out, by go_num, by go_num, rfl⟩
set_option maxRecDepth 100000 in
set_option maxHeartbeats 4000000 in
theorem atof_hex_true (st : ByteArray) (N mant J0 K : Nat) (w : World) (hg : GlobT K w) (hin : HexIn N mant J0 true) :
    Calls Tryz.prog 143 #[.string st, .pointer (some ⟨9, 0, Option.none⟩), .int .u64 mant, .int .i64 J0, .bool false, .bool true] w (HxPost N w) := by
  obtain ⟨i0, i1, i2⟩ := hg.inf
  obtain ⟨bca, bcb, bta, btb, k1, k2⟩ := hg.blk
  obtain ⟨j, hj, hjs⟩ := Option.map_eq_some_iff.1 info_size
  have heq : ∀ n : Nat, (binOp .eql 170 (.pointer (some ⟨9, 0, Option.none⟩)) (.pointer (some ⟨8, 0, Option.none⟩))).run Tryz.prog (w.drewN n) = .ok (.bool false) (w.drewN n) := fun n =>
    run_eql_ptr_other (w.drewN n) Tryz.underlying170 hj (by simpa using hjs) (by decide) k2 k1
  clear k1 k2 hj hjs
  obtain ⟨hlt, hpos, hle, hval, hbig⟩ := hin
  have HVAL := Lib.hid hval
  clear hval
  go_enter Tryz.func143, Tryz.ntmps143
  go_upto_region 1 with fail
  go_quiet (fail)
  go_wp2_with fail
  go_loopg [2, 3] 54 (fun g s2 s3 wr => ∃ (k m n : Nat) (x : Int), k + g = 54 ∧ m = mant * 2 ^ k ∧ x = (J0 : Int) + 52 - k ∧ (k = 0 ∨ m < 36028797018963968) ∧ s2 = .int .u64 m ∧ s3 = .int .i64 x ∧ wr = w.drewN n)
  case atStart => exact ⟨0, mant, _, _, by omega, by omega, rfl, .inl rfl, rfl, by go_num, rfl⟩
  case round =>
    obtain ⟨k, m, n, x, hkg, hm, hx, hk, rfl, rfl, rfl⟩ := hrel
    have hmb : m < 18446744073709551616 := by
      rcases hk with hk | hk
      · rw [hm, hk, Nat.pow_zero, Nat.mul_one]; exact hlt
      · omega
    have hmp : 1 ≤ m := by rw [hm]; exact Nat.mul_pos hpos (Nat.two_pow_pos k)
    have hne : ((m : Int) != 0) = true := by rw [bne_iff_ne]; omega
    have hHM := Lib.hid hm
    by_cases hc : m < 18014398509481984
    · have hq : ((m : Int) / 18014398509481984 == 0) = true := by rw [beq_iff_eq]; omega
      have hk54 : k < 54 := by
        rcases Nat.lt_or_ge k 54 with h | h
        · exact h
        · exfalso
          have : k = 54 := by omega
          subst this
          have : 2 ^ 54 * 1 ≤ 2 ^ 54 * mant := Nat.mul_le_mul_left _ hpos
          rw [Nat.mul_comm] at hm
          omega
      have hm2 : m * 2 = mant * 2 ^ (k + 1) := by rw [hm, Nat.pow_succ, Nat.mul_assoc]
      have HM2 := Lib.hid hm2
      clear hm hm2 hk
      go_wp2_with fail
      go_roundg (gk - 1)
      case measure => omega
      case rel => exact ⟨k + 1, m * 2, _, x - 1, by omega, HM2.out, by omega, .inr (by omega), by go_num, by go_num, rfl⟩
    · have hq : ((m : Int) / 18014398509481984 == 0) = false := by rw [beq_eq_false_iff_ne]; omega
      have HXX := Lib.hid hx
      have HKK := Lib.hid hk
      clear hm
      have hk0 : k = 0 := by
        rcases hk with h | h
        · exact h
        · exfalso
          have h1 := hHM.out
          have h2 : mant ≤ mant * 2 ^ k := Nat.le_mul_of_pos_right _ (Nat.two_pow_pos k)
          rw [← h1] at h2
          rcases hbig with ⟨_, hb⟩ | hb
          · simp at hb
          · omega
      obtain ⟨m1, hm1⟩ : ∃ m1, m ||| 1 = m1 := ⟨_, rfl⟩
      have ho : bits .or .u64 (m : Int) 1 = (m1 : Int) := by
        have h := bits_or_u64_nat m 1 hmb (by decide)
        rw [hm1] at h; exact h
      have HM1 : Hid (m1 = unr (N * 2 ^ k) (2 ^ (J0 + 2))) := Lib.hid (by rw [← hm1, hHM.out, hk0, Nat.pow_zero, Nat.mul_one, Nat.mul_one]; exact HVAL.out)
      have hlo1 : 18014398509481984 ≤ m1 := by
        have : m ≤ m ||| 1 := Nat.left_le_or
        omega
      have hhi1 : m1 < 18446744073709551616 := by
        rw [← hm1]; exact Nat.or_lt_two_pow (n := 64) hmb (by decide)
      clear hm1 hk0
      go_wp2_with fail
      go_loopg [2, 3] 9 (fun g s2 s3 wr => ∃ (J m n : Nat) (x : Int), J + g ≤ J0 + 9 ∧ g ≤ 9 ∧ m = unr (N * 2 ^ k) (2 ^ (J + 2)) ∧ x = (J : Int) + 52 - k ∧ 18014398509481984 ≤ m ∧ m < 36028797018963968 * 2 ^ g ∧ s2 = .int .u64 m ∧ s3 = .int .i64 x ∧ wr = w.drewN n)
      case atStart => exact ⟨J0, m1, _, x, by omega, by omega, HM1.out, hx, by omega, by omega, rfl, rfl, rfl⟩
      clear hq hne hk hx
      clear hmb hmp hc
      case round =>
        obtain ⟨J, m, n, x, hJ, hg9, hm, hx, hlo, hhi, rfl, rfl, rfl⟩ := hrel
        have HM := Lib.hid hm
        have hn4 : ((m : Nat) : Int) / 4 = ((m / 4 : Nat) : Int) := by omega
        by_cases hc2 : m < 36028797018963968
        · have hq2 : ((m : Int) / 36028797018963968 != 0) = false := by rw [bne_eq_false_iff_eq]; omega
          clear hm
          go_wp2_with fail
          go_loopg [2, 3] 0 (fun _ s2 s3 wr => ∃ n : Nat, s2 = .int .u64 m ∧ s3 = .int .i64 x ∧ wr = w.drewN n)
          case atStart => exact ⟨_, rfl, rfl, rfl⟩
          case round =>
            obtain ⟨n, rfl, rfl, rfl⟩ := hrel
            have hx0 : ¬ (x < -1024) := by omega
            have hm1 : (1 : Int) < (m : Int) := by omega
            have HUP := Lib.hid (hex_up m (m / 4) rfl)
            have ha1 : bits .and .u64 (m : Int) 3 = ((m % 4 : Nat) : Int) := by
              have h := u64_and_nat m 3 (by omega) (by decide)
              rw [Nat.and_two_pow_sub_one_eq_mod m 2] at h
              exact h
            have ha2 : bits .and .u64 ((m / 4 : Nat) : Int) 1 = ((m / 4 % 2 : Nat) : Int) := by
              have h := u64_and_nat (m / 4) 1 (by omega) (by decide)
              rw [Nat.and_two_pow_sub_one_eq_mod (m / 4) 1] at h
              exact h
            have ha3 := bits_or_u64_nat (m % 4) (m / 4 % 2) (by omega) (by omega)
            have hqlo : 4503599627370496 ≤ m / 4 := by omega
            have hqhi : m / 4 < 9007199254740992 := by omega
            obtain ⟨q, hq⟩ : ∃ q, m / 4 = q := ⟨_, rfl⟩
            have HQ := Lib.hid hq
            rw [hq] at HUP ha2 ha3 hqlo hqhi hn4
            clear hq
            generalize m % 4 = ra at *
            obtain ⟨rb, hrb⟩ : ∃ rb, q % 2 = rb := ⟨_, rfl⟩
            have HRB := Lib.hid hrb
            rw [hrb] at HUP ha2 ha3
            clear hrb
            generalize hrc : ra ||| rb = rc at *
            have HX := Lib.hid hx
            have hxk : k ≤ 54 := by omega
            have hxj : x = (J : Int) + 52 - k := hx
            clear hx hhi
            by_cases hup : rc = 3
            · have hb : ((rc : Int) == 3) = true := by rw [beq_iff_eq]; omega
              by_cases hfu : q + 1 = 9007199254740992
              · have hb2 : ((q : Int) + 1) = 9007199254740992 := by omega
                obtain ⟨qf, hqf⟩ : ∃ qf : Nat, qf = 4503599627370496 := ⟨_, rfl⟩
                have hq5 : (9007199254740992 : Int) / 2 = (qf : Int) := by omega
                have hT0 : x + 2 + 1 - -1023 = ((J + 1078 - k : Nat) : Int) := by omega
                have hT3 : (1023 : Int) + (x + 2 + 1) = ((J + 1078 - k : Nat) : Int) := by omega
                have HNR := Lib.hid (hex_leaf N k J m (q + 1) (qf) (J + 1078 - k) HM.out hlo hc2 (by omega) (by rw [HQ.out, HRB.out]; have := HUP.out; exact this.1 hup) (by omega) (by omega) (by unfold BB; omega))
                by_cases hT : J + 1078 - k < 2047
                · have hT1 : ¬ (1023 < x + 2 + 1) := by omega
                  obtain ⟨f1, f2, f3⟩ := hex_bits (qf) (J + 1078 - k) (by omega) (by omega) (by omega)
                  have HR := Lib.hid (HNR.out.1 hT)
                  have hf1 : ((qf : Nat) : Int) / 4503599627370496 = 1 := by omega
                  clear hxj hqf
                  have hs := run_sfrom ((J + 1078 - k) * 4503599627370496 + (qf - 4503599627370496))
                  generalize J + 1078 - k = T at *
                  generalize T * 4503599627370496 + (qf - 4503599627370496) = R at *
                  generalize qf - 4503599627370496 = fr at *
                  clear HM hJ
                  go_upto_region 32 with fail
                  go_quiet (fail)
                  go_wp2_with fail
                  refine bodyPost_ret (v := .tuple #[.float .f64 R, .nilIface]) (by simp [results, Tryz.results143, go_sem]) rfl ⟨R, HR.out.1, by rw [show errV R = .nilIface from if_neg HR.out.2], _, rfl⟩
                · have hT1 : 1023 < x + 2 + 1 := by omega
                  have HR := Lib.hid (HNR.out.2 hT)
                  have hf1 : ((qf : Nat) : Int) / 4503599627370496 = 1 := by omega
                  have hs : ∀ W : World, (callFunc 151 #[.int .u64 9218868437227405312]).run Tryz.prog W = .ok (.value (.float .f64 9218868437227405312)) W := run_sfrom 9218868437227405312
                  have ho : bits .or .u64 0 9218868437227405312 = 9218868437227405312 := by decide +kernel
                  have ha : bits .and .u64 4503599627370496 4503599627370495 = 0 := by decide +kernel
                  have ha2 : bits .and .i64 2047 2047 = 2047 := by decide +kernel
                  clear hxj hqf
                  go_upto_region 32 with fail
                  go_quiet (fail)
                  go_wp2_with fail
                  refine bodyPost_ret (v := .tuple #[.float .f64 9218868437227405312, .iface 111 (.int .i64 1)]) (by simp [results, Tryz.results143, go_sem]) rfl ⟨INF, HR.out, rfl, _, rfl⟩
              · skip
                obtain ⟨qf, hqf⟩ : ∃ qf : Nat, qf = q + 1 := ⟨_, rfl⟩
                have hq6 : (q : Int) + 1 = (qf : Int) := by omega
                have hb2 : ((qf : Int) == 9007199254740992) = false := by rw [beq_eq_false_iff_ne]; omega
                have hT0 : x + 2 - -1023 = ((J + 1077 - k : Nat) : Int) := by omega
                have hT3 : (1023 : Int) + (x + 2) = ((J + 1077 - k : Nat) : Int) := by omega
                have HNR := Lib.hid (hex_leaf N k J m (q + 1) (qf) (J + 1077 - k) HM.out hlo hc2 (by omega) (by rw [HQ.out, HRB.out]; have := HUP.out; exact this.1 hup) (by omega) (by omega) (by unfold BB; omega))
                by_cases hT : J + 1077 - k < 2047
                · have hT1 : ¬ (1023 < x + 2) := by omega
                  obtain ⟨f1, f2, f3⟩ := hex_bits (qf) (J + 1077 - k) (by omega) (by omega) (by omega)
                  have HR := Lib.hid (HNR.out.1 hT)
                  have hf1 : ((qf : Nat) : Int) / 4503599627370496 = 1 := by omega
                  clear hxj hqf
                  have hs := run_sfrom ((J + 1077 - k) * 4503599627370496 + (qf - 4503599627370496))
                  generalize J + 1077 - k = T at *
                  generalize T * 4503599627370496 + (qf - 4503599627370496) = R at *
                  generalize qf - 4503599627370496 = fr at *
                  clear HM hJ
                  go_upto_region 32 with fail
                  go_quiet (fail)
                  go_wp2_with fail
                  refine bodyPost_ret (v := .tuple #[.float .f64 R, .nilIface]) (by simp [results, Tryz.results143, go_sem]) rfl ⟨R, HR.out.1, by rw [show errV R = .nilIface from if_neg HR.out.2], _, rfl⟩
                · have hT1 : 1023 < x + 2 := by omega
                  have HR := Lib.hid (HNR.out.2 hT)
                  have hf1 : ((qf : Nat) : Int) / 4503599627370496 = 1 := by omega
                  have hs : ∀ W : World, (callFunc 151 #[.int .u64 9218868437227405312]).run Tryz.prog W = .ok (.value (.float .f64 9218868437227405312)) W := run_sfrom 9218868437227405312
                  have ho : bits .or .u64 0 9218868437227405312 = 9218868437227405312 := by decide +kernel
                  have ha : bits .and .u64 4503599627370496 4503599627370495 = 0 := by decide +kernel
                  have ha2 : bits .and .i64 2047 2047 = 2047 := by decide +kernel
                  clear hxj hqf
                  go_upto_region 32 with fail
                  go_quiet (fail)
                  go_wp2_with fail
                  refine bodyPost_ret (v := .tuple #[.float .f64 9218868437227405312, .iface 111 (.int .i64 1)]) (by simp [results, Tryz.results143, go_sem]) rfl ⟨INF, HR.out, rfl, _, rfl⟩
            · have hb : ((rc : Int) == 3) = false := by rw [beq_eq_false_iff_ne]; omega
              have hT0 : x + 2 - -1023 = ((J + 1077 - k : Nat) : Int) := by omega
              have hT3 : (1023 : Int) + (x + 2) = ((J + 1077 - k : Nat) : Int) := by omega
              have HNR := Lib.hid (hex_leaf N k J m (q) (q) (J + 1077 - k) HM.out hlo hc2 (by omega) (by rw [HQ.out, HRB.out]; have := HUP.out; exact this.2 hup) (by omega) (by omega) (by unfold BB; omega))
              by_cases hT : J + 1077 - k < 2047
              · have hT1 : ¬ (1023 < x + 2) := by omega
                obtain ⟨f1, f2, f3⟩ := hex_bits (q) (J + 1077 - k) (by omega) (by omega) (by omega)
                have HR := Lib.hid (HNR.out.1 hT)
                have hf1 : ((q : Nat) : Int) / 4503599627370496 = 1 := by omega
                clear hxj
                have hs := run_sfrom ((J + 1077 - k) * 4503599627370496 + (q - 4503599627370496))
                generalize J + 1077 - k = T at *
                generalize T * 4503599627370496 + (q - 4503599627370496) = R at *
                generalize q - 4503599627370496 = fr at *
                clear HM hJ
                go_upto_region 32 with fail
                go_quiet (fail)
                go_wp2_with fail
                refine bodyPost_ret (v := .tuple #[.float .f64 R, .nilIface]) (by simp [results, Tryz.results143, go_sem]) rfl ⟨R, HR.out.1, by rw [show errV R = .nilIface from if_neg HR.out.2], _, rfl⟩
              · have hT1 : 1023 < x + 2 := by omega
                have HR := Lib.hid (HNR.out.2 hT)
                have hf1 : ((q : Nat) : Int) / 4503599627370496 = 1 := by omega
                have hs : ∀ W : World, (callFunc 151 #[.int .u64 9218868437227405312]).run Tryz.prog W = .ok (.value (.float .f64 9218868437227405312)) W := run_sfrom 9218868437227405312
                have ho : bits .or .u64 0 9218868437227405312 = 9218868437227405312 := by decide +kernel
                have ha : bits .and .u64 4503599627370496 4503599627370495 = 0 := by decide +kernel
                have ha2 : bits .and .i64 2047 2047 = 2047 := by decide +kernel
                clear hxj
                go_upto_region 32 with fail
                go_quiet (fail)
                go_wp2_with fail
                refine bodyPost_ret (v := .tuple #[.float .f64 9218868437227405312, .iface 111 (.int .i64 1)]) (by simp [results, Tryz.results143, go_sem]) rfl ⟨INF, HR.out, rfl, _, rfl⟩
        · have hq2 : ((m : Int) / 36028797018963968 != 0) = true := by rw [bne_iff_ne]; omega
          have HM3 := Lib.hid (hex_step _ _ _ hm)
          have hgp : 1 ≤ gk := by
            rcases Nat.eq_zero_or_pos gk with h | h
            · rw [h, Nat.pow_zero, Nat.mul_one] at hhi; omega
            · exact h
          have hmb : m < 18446744073709551616 := by
            have := Nat.mul_le_mul_left 36028797018963968 (Nat.pow_le_pow_right (show 0 < 2 by decide) (show gk ≤ 9 by omega))
            omega
          have ha1 : bits .and .u64 (m : Int) 1 = ((m % 2 : Nat) : Int) := by
            have h := u64_and_nat m 1 (by omega) (by decide)
            rw [Nat.and_two_pow_sub_one_eq_mod m 1] at h
            exact h
          have ha3 := bits_or_u64_nat (m / 2) (m % 2) (by omega) (by omega)
          have hoh := or_half m
          have hm3 : m / 2 ||| m % 2 < 36028797018963968 * 2 ^ (gk - 1) := by
            obtain ⟨g', rfl⟩ : ∃ g', gk = g' + 1 := ⟨gk - 1, by omega⟩
            rw [Nat.pow_succ] at hhi
            rw [Nat.add_sub_cancel, hoh]
            generalize 2 ^ g' = P at *
            split <;> omega
          have hm4 : 18014398509481984 ≤ m / 2 ||| m % 2 := by
            rw [hoh]; split <;> omega
          obtain ⟨mh, hmh⟩ : ∃ mh, m / 2 = mh := ⟨_, rfl⟩
          have hn2 : ((m : Nat) : Int) / 2 = (mh : Int) := by omega
          have hHM3 := HM3.out
          rw [hmh] at ha3 hm3 hm4 hHM3
          clear hmh HM3 hoh
          generalize m % 2 = ml at *
          generalize mh ||| ml = m2 at *
          have HM3 := Lib.hid hHM3
          clear hHM3
          have HHI := Lib.hid hhi
          have HM4 := Lib.hid hm3
          clear hhi hm3 hm
          go_wp2_with fail
          go_roundg (gk - 1)
          case measure => omega
          case rel => exact ⟨J + 1, m2, _, x + 1, by omega, by omega, HM3.out, by omega, hm4, HM4.out, by go_num, by go_num, rfl⟩
end Go.Proofs.YtmhagigokgklaaaGreatDoor

/- FormatInt of base 2, FormatUint of base 16, of small numbers. -/
namespace Go.Proofs.YtmhagigokgklaaaGreatDoor
open Go Go.RowKit Go.Sort Go.Lib

/-- digits of the base 2 -/
def binD (u : Nat) : List UInt8 := if h : u < 2 then [UInt8.ofNat (48 + u)] else binD (u / 2) ++ [UInt8.ofNat (48 + u % 2)]
termination_by u
decreasing_by omega

set_option maxRecDepth 100000 in
set_option maxHeartbeats 4000000 in
theorem tz_2 (K : Nat) (w : World) (hT : GlobT K w) :
    Calls Tryz.prog 174 #[.int .u64 2] w fun e w' => e = .returned (.int .i64 1) ∧ w' = w := by
  obtain ⟨d1, d2⟩ := hT.deb
  have h1 : bits .and .u64 2 (IntKind.u64.wrap (-2)) = 2 := by decide +kernel
  have h2 : IntKind.u64.wrap (2 * 285870213051353865) = 571740426102707730 := by decide +kernel
  have h3 : (571740426102707730 : Int) / 288230376151711744 = 1 := by decide +kernel
  go_enter Tryz.func174, Tryz.ntmps174
  go_wp2_with fail
  go_ret
  exact ⟨rfl, rfl⟩
set_option maxRecDepth 100000 in
set_option maxHeartbeats 4000000 in
theorem tz_16 (K : Nat) (w : World) (hT : GlobT K w) :
    Calls Tryz.prog 174 #[.int .u64 16] w fun e w' => e = .returned (.int .i64 4) ∧ w' = w := by
  obtain ⟨d1, d2⟩ := hT.deb
  have h1 : bits .and .u64 16 (IntKind.u64.wrap (-16)) = 16 := by decide +kernel
  have h2 : IntKind.u64.wrap (16 * 285870213051353865) = 4573923408821661840 := by decide +kernel
  have h3 : (4573923408821661840 : Int) / 288230376151711744 = 15 := by decide +kernel
  go_enter Tryz.func174, Tryz.ntmps174
  go_wp2_with fail
  go_ret
  exact ⟨rfl, rfl⟩
theorem tzz_2 (K : Nat) (w : World) (hT : GlobT K w) :
    Calls Tryz.prog 140 #[.int .u64 2] w fun e w' => e = .returned (.int .i64 1) ∧ w' = w := by
  have HT := Lib.hid (tz_2 K w hT)
  go_enter Tryz.func140, Tryz.ntmps140
  go_wp2_with fail
  refine HT.out.mono ?_
  rintro e w ⟨rfl, rfl⟩
  go_wp2_with fail
  go_ret
  exact ⟨rfl, rfl⟩
theorem tzz_16 (K : Nat) (w : World) (hT : GlobT K w) :
    Calls Tryz.prog 140 #[.int .u64 16] w fun e w' => e = .returned (.int .i64 4) ∧ w' = w := by
  have HT := Lib.hid (tz_16 K w hT)
  go_enter Tryz.func140, Tryz.ntmps140
  go_wp2_with fail
  refine HT.out.mono ?_
  rintro e w ⟨rfl, rfl⟩
  go_wp2_with fail
  go_ret
  exact ⟨rfl, rfl⟩
theorem pow2_2 (w : World) : Calls Tryz.prog 139 #[.int .i64 2] w fun e w' => e = .returned (.bool true) ∧ w' = w := by
  have h1 : bits .and .i64 2 1 = 0 := by decide +kernel
  go_enter Tryz.func139, Tryz.ntmps139
  go_wp2_with fail
  go_ret
  exact ⟨rfl, rfl⟩
theorem pow2_16 (w : World) : Calls Tryz.prog 139 #[.int .i64 16] w fun e w' => e = .returned (.bool true) ∧ w' = w := by
  have h1 : bits .and .i64 16 15 = 0 := by decide +kernel
  go_enter Tryz.func139, Tryz.ntmps139
  go_wp2_with fail
  go_ret
  exact ⟨rfl, rfl⟩

def z65 : Array Value := Array.replicate 65 (.int .u8 0)
/-- the array that digits are written into, from its end -/
def BufAt (w : World) (g : Nat) (i : Nat) (l : List UInt8) : Prop := ∃ cur : Array Value, w.heap[g]? = some (.cells cur 162 (0, 0)) ∧ cur.size = 65 ∧ i + l.length = 65 ∧ cur.toList.drop i = l.map encB

theorem BufAt.put {w : World} {g i : Nat} {l : List UInt8} (h : BufAt w g (i + 1) l) (x : UInt8) : BufAt (w.setCell ⟨g, i, Option.none⟩ (.int .u8 (x.toNat : Int))) g i (x :: l) := by
  obtain ⟨cur, h1, h2, h3, h4⟩ := h
  refine ⟨_, setCell_heap h1 _, by simpa using h2, by rw [List.length_cons]; omega, ?_⟩
  have hlt : i < cur.toList.length := by simpa [h2] using (by omega : i < 65)
  rw [show (cur.setIfInBounds i (.int .u8 (x.toNat : Int))).toList = cur.toList.set i (.int .u8 (x.toNat : Int)) by simp, List.drop_eq_getElem_cons (by simpa using hlt), List.getElem_set_self, List.drop_set_of_lt (by omega), h4]
  rfl
theorem BufAt.text {w : World} {g i : Nat} {l : List UInt8} (h : BufAt w g i l) (c : Nat) : (convert 34 9 (.slice (some ⟨g, i, Option.none⟩) l.length c)).run Tryz.prog w = .ok (.string ⟨l.toArray⟩) w := by
  obtain ⟨cur, h1, h2, h3, h4⟩ := h
  rw [← strOf_map]
  refine run_convert_bytes_arg w _ _ Tryz.underlying34 Tryz.underlying5 g i l.length c (l.map fun x => (x.toNat : Int)) (by simp) (fun j hj => ?_) _ Tryz.underlying9
  rw [cell_of_row w g (i + j) _ _ _ h1]
  have h8 := congrArg (fun q : List Value => q[j]?) h4
  simp only [List.getElem?_drop, Array.getElem?_toList] at h8
  rw [h8]
  simp [encB, hj]
theorem BufAt.start (w : World) : BufAt (w.alloc (.cells z65 162)) w.heap.size 65 [] := ⟨z65, heap_alloc_new _ _, by simp [z65], rfl, by simp [z65]⟩
theorem BufAt.frozen {w : World} {g i : Nat} {l : List UInt8} (h : BufAt w g i l) (o : Nat) : w.frozen? ⟨g, o, Option.none⟩ = false := by
  obtain ⟨cur, h1, _⟩ := h
  simp [World.frozen?, h1]
theorem BufAt.cell {w : World} {g i : Nat} {l : List UInt8} (h : BufAt w g i l) (o : Nat) (ho : o < 65) : ∃ v, w.cell? ⟨g, o, Option.none⟩ = some v := by
  obtain ⟨cur, h1, h2, _⟩ := h
  rw [cell_of_row w g o _ _ _ h1, Array.getElem?_eq_getElem (by omega)]
  exact ⟨_, rfl⟩

def DG : ByteArray := ⟨#[48, 49, 50, 51, 52, 53, 54, 55, 56, 57, 97, 98, 99, 100, 101, 102, 103, 104, 105, 106, 107, 108, 109, 110, 111, 112, 113, 114, 115, 116, 117, 118, 119, 120, 121, 122]⟩
theorem z65_is : Tryz.zeroCells162 = z65 := by kernel_rfl

set_option maxRecDepth 100000 in
set_option maxHeartbeats 4000000 in
theorem fbits_16 (u : Nat) (K : Nat) (w : World) (hT : GlobT K w) (hu : u < 16) :
    Calls Tryz.prog 110 #[.slice Option.none 0 0, .int .u64 u, .int .i64 16, .bool false, .bool false] w fun e w' => ∃ h : u < DG.size, e = .returned (.tuple #[.slice Option.none 0 0, .string ⟨[DG[u]].toArray⟩]) ∧ Below w.heap.size w w' := by
  have HP := Lib.hid pow2_16
  have hal : Below w.heap.size w (w.alloc (.cells z65 162)) := (Below.refl _ _).alloc (Nat.le_refl _) _
  have HZ := Lib.hid (tzz_16 K _ (hT.on hal))
  have HAL := Lib.hid hal
  have HBS := Lib.hid (BufAt.start w)
  have hud : u < DG.size := Nat.lt_trans hu (by decide)
  clear hT hal
  go_enter Tryz.func110, Tryz.ntmps110
  go_wp2_with fail
  refine (HP.out _).mono ?_
  rintro e w1 ⟨rfl, hw⟩
  rw [z65_is] at hw
  subst hw
  go_wp2_with fail
  refine HZ.out.mono ?_
  rintro e w2 ⟨rfl, hw2⟩
  have hbs := HBS.out
  rw [← hw2] at hbs
  have HW2 := Lib.hid hw2
  obtain ⟨c64, hc64⟩ := hbs.cell 64 (by decide)
  have hf64 := hbs.frozen 64
  have HBS2 := Lib.hid hbs
  clear hw2 hbs
  go_wp2_with fail
  go_loopw [1, 13] (fun s1 s13 wr => s1 = .int .u64 u ∧ s13 = .int .i64 65 ∧ wr = w2) (fun _ _ _ => 0)
  case atStart => exact ⟨rfl, rfl, rfl⟩
  case round =>
    obtain ⟨rfl, rfl, rfl⟩ := hrel
    have hcv : (convert 34 9 (.slice (some ⟨w.heap.size, 64, Option.none⟩) 1 1)).run Tryz.prog (wr.setCell ⟨w.heap.size, 64, Option.none⟩ (.int .u8 ((((⟨#[48, 49, 50, 51, 52, 53, 54, 55, 56, 57, 97, 98, 99, 100, 101, 102, 103, 104, 105, 106, 107, 108, 109, 110, 111, 112, 113, 114, 115, 116, 117, 118, 119, 120, 121, 122]⟩ : ByteArray)[u]'hud).toNat : Nat) : Int))) = .ok (.string ⟨[DG[u]'hud].toArray⟩) (wr.setCell ⟨w.heap.size, 64, Option.none⟩ (.int .u8 ((((⟨#[48, 49, 50, 51, 52, 53, 54, 55, 56, 57, 97, 98, 99, 100, 101, 102, 103, 104, 105, 106, 107, 108, 109, 110, 111, 112, 113, 114, 115, 116, 117, 118, 119, 120, 121, 122]⟩ : ByteArray)[u]'hud).toNat : Nat) : Int))) := (HBS2.out.put (DG[u]'hud)).text 1
    have HBL : Hid (∀ v, Below w.heap.size w (wr.setCell ⟨w.heap.size, 64, Option.none⟩ v)) := Lib.hid fun v => by
      rw [HW2.out]
      exact HAL.out.setCell (p := ⟨w.heap.size, 64, Option.none⟩) (Nat.le_refl _) v
    obtain ⟨R, hR⟩ : ∃ R : ByteArray, R = ⟨[DG[u]'hud].toArray⟩ := ⟨_, rfl⟩
    rw [← hR] at hcv
    have HR := Lib.hid hR
    clear hR
    go_wp2_with fail
    erw [hcv]
    simp only [Result.andThen]
    rw [Oper.upon_value]
    go_wp2_with fail
    refine bodyPost_ret (v := .tuple #[.slice Option.none 0 0, .string R]) (by simp [results, Tryz.results110, go_sem]) rfl ⟨hud, by rw [HR.out], HBL.out _⟩

theorem addr_zero (b j : Nat) : Addr.add ⟨b, 0, Option.none⟩ j = ⟨b, j, Option.none⟩ := by unfold Addr.add; split <;> simp_all
theorem binD_lt (u : Nat) (h : u < 2) : binD u = [UInt8.ofNat (48 + u)] := by rw [binD, dif_pos h]
theorem binD_ge (u : Nat) (h : ¬ u < 2) : binD u = binD (u / 2) ++ [UInt8.ofNat (48 + u % 2)] := by rw [binD, dif_neg h]
theorem DG_bin (v : Nat) (h : v < 2) (h2 : v < DG.size) : DG[v] = UInt8.ofNat (48 + v) := by
  rcases (by omega : v = 0 ∨ v = 1) with rfl | rfl <;> rfl

set_option maxRecDepth 100000 in
set_option maxHeartbeats 4000000 in
theorem fbits_2 (u : Nat) (K : Nat) (w : World) (hT : GlobT K w) (hu1 : 1 ≤ u) (hu : u < 32) :
    Calls Tryz.prog 110 #[.slice Option.none 0 0, .int .u64 u, .int .i64 2, .bool false, .bool false] w fun e w' => e = .returned (.tuple #[.slice Option.none 0 0, .string ⟨(binD u).toArray⟩]) ∧ Below w.heap.size w w' := by
  have HP := Lib.hid pow2_2
  have hal : Below w.heap.size w (w.alloc (.cells z65 162)) := (Below.refl _ _).alloc (Nat.le_refl _) _
  have HZ := Lib.hid (tzz_2 K _ (hT.on hal))
  have HAL := Lib.hid hal
  have HBS := Lib.hid (BufAt.start w)
  clear hT hal
  go_enter Tryz.func110, Tryz.ntmps110
  go_wp2_with fail
  refine (HP.out _).mono ?_
  rintro e w1 ⟨rfl, hw⟩
  rw [z65_is] at hw
  subst hw
  go_wp2_with fail
  refine HZ.out.mono ?_
  rintro e w2 ⟨rfl, hw2⟩
  have hbs := HBS.out
  rw [← hw2] at hbs
  have HBS2 := Lib.hid hbs
  have HB2 : Hid (Below w.heap.size w w2) := Lib.hid (by rw [hw2]; exact HAL.out)
  clear hw2 hbs
  go_wp2_with fail
  go_loopw [1, 13] (fun s1 s13 wr => ∃ (v i : Nat) (l : List UInt8), s1 = .int .u64 v ∧ s13 = .int .i64 i ∧ BufAt wr w.heap.size i l ∧ Below w.heap.size w wr ∧ binD u = binD v ++ l.drop 0 ∧ 1 ≤ v ∧ v * 2 ^ l.length ≤ u) (fun s1 _ _ => (RowKit.intOf s1).toNat)
  case atStart => exact ⟨u, 65, [], rfl, rfl, HBS2.out, HB2.out, by simp, hu1, by simp⟩
  case round =>
    obtain ⟨v, i, l, rfl, rfl, hbuf, hbl, hbin, hv1, hvl⟩ := hrel
    rw [List.drop_zero] at hbin
    have hl5 : l.length < 5 := by
      refine (Nat.pow_lt_pow_iff_right (show 1 < 2 by decide)).1 ?_
      have : 1 * 2 ^ l.length ≤ v * 2 ^ l.length := Nat.mul_le_mul_right _ hv1
      omega
    have hil : i + l.length = 65 := by obtain ⟨_, _, _, h, _⟩ := hbuf; exact h
    obtain ⟨j, rfl⟩ : ∃ j, i = j + 1 := ⟨i - 1, by omega⟩
    have hj : 59 ≤ j := by omega
    have hj2 : j < 65 := by omega
    have hvu : v < 32 := by
      have : v * 1 ≤ v * 2 ^ l.length := Nat.mul_le_mul_left _ (Nat.two_pow_pos _)
      omega
    obtain ⟨cj, hcj⟩ := hbuf.cell j hj2
    have hfj := hbuf.frozen j
    have HBUF := Lib.hid hbuf
    have HBL := Lib.hid hbl
    have HBIN := Lib.hid hbin
    have HVL := Lib.hid hvl
    have hand := and_one_u64 (v : Int) (by omega) (by omega)
    clear hbuf hbl hbin hvl
    by_cases hv : v < 2
    · have hv' : decide ((2 : Int) ≤ (v : Int)) = false := by rw [decide_eq_false_iff_not]; omega
      clear hand
      have hud : v < DG.size := Nat.lt_trans hv (by decide)
      have hsl : ∀ W : World, (Instr.sliceAt 162 (.pointer (some ⟨w.heap.size, 0, Option.none⟩)) (some (.int .i64 j)) Option.none Option.none).run Tryz.prog W = .ok (.slice (some ⟨w.heap.size, j, Option.none⟩) (l.length + 1) (65 - j)) W := fun W => by
        have hz : (sizeOf (Tryz.prog.elem 162)).run Tryz.prog W = .ok 1 W := by kernel_rfl
        have hl65 : Tryz.prog.arrayLen 162 = 65 := by kernel_rfl
        rw [run_sliceAt_array_l W _ _ (by kernel_rfl) .i64 (j : Int) (by omega) (by rw [hl65]; omega), hz, hl65]
        show Result.ok (slicedAt ⟨w.heap.size, 0, Option.none⟩ (j : Int).toNat 65 65 1) W = _
        unfold slicedAt
        rw [Int.toNat_natCast, if_neg (by omega), addr_zero, Nat.mul_one, show 65 - j = l.length + 1 by omega]
      have hcv := (HBUF.out.put (DG[v]'hud)).text (65 - j)
      have hbin2 : DG[v]'hud :: l = binD u := by rw [HBIN.out, binD_lt v hv, DG_bin v hv hud]; rfl
      have hbl : (binD u).length = l.length + 1 := by rw [← hbin2]; rfl
      rw [hbin2, hbl] at hcv
      have HBL2 : Hid (∀ x, Below w.heap.size w (wr.setCell ⟨w.heap.size, j, Option.none⟩ x)) := Lib.hid fun x => HBL.out.setCell (p := ⟨w.heap.size, j, Option.none⟩) (Nat.le_refl _) x
      clear hbin2 hbl
      go_wp2_with fail
      erw [hcv]
      simp only [Result.andThen]
      rw [Oper.upon_value]
      go_wp2_with fail
      refine bodyPost_ret (v := .tuple #[.slice Option.none 0 0, .string ⟨(binD u).toArray⟩]) (by simp [results, Tryz.results110, go_sem]) rfl ⟨rfl, HBL2.out _⟩
    · have hv' : decide ((2 : Int) ≤ (v : Int)) = true := by rw [decide_eq_true_eq]; omega
      have hud : v % 2 < DG.size := Nat.lt_trans (Nat.mod_lt _ (by decide)) (by decide)
      have HNB := Lib.hid (HBUF.out.put (DG[v % 2]'hud))
      have HBL2 : Hid (∀ x, Below w.heap.size w (wr.setCell ⟨w.heap.size, j, Option.none⟩ x)) := Lib.hid fun x => HBL.out.setCell (p := ⟨w.heap.size, j, Option.none⟩) (Nat.le_refl _) x
      have HV := Lib.hid hv
      clear hv
      go_wp2_with fail
      refine ⟨⟨v / 2, j, DG[v % 2]'hud :: l, by go_num, rfl, HNB.out, HBL2.out _, ?_, ?_, ?_⟩, ?_⟩
      · rw [HBIN.out, binD_ge v HV.out, DG_bin _ (Nat.mod_lt _ (by decide)) hud, List.append_assoc]; rfl
      · have := HV.out; omega
      · have h1 := HVL.out
        rw [List.length_cons, Nat.pow_succ]
        refine Nat.le_trans ?_ h1
        rw [Nat.mul_comm (2 ^ l.length), ← Nat.mul_assoc]
        exact Nat.mul_le_mul_right _ (by omega)
      · have := HV.out; simp [RowKit.intOf]; omega

theorem fint_2 (u : Nat) (K : Nat) (w : World) (hT : GlobT K w) (hu1 : 1 ≤ u) (hu : u < 32) :
    Calls Tryz.prog 55 #[.int .i64 u, .int .i64 2] w fun e w' => e = .returned (.string ⟨(binD u).toArray⟩) ∧ Below w.heap.size w w' := by
  have HF := Lib.hid (fbits_2 u K w hT hu1 hu)
  have hlt : decide ((u : Int) < 0) = false := by rw [decide_eq_false_iff_not]; omega
  clear hT
  obtain ⟨R, hR⟩ : ∃ R : ByteArray, R = ⟨(binD u).toArray⟩ := ⟨_, rfl⟩
  rw [← hR] at HF ⊢
  clear hR
  have hin : Calls Tryz.prog 87 #[.int .i64 u, .int .i64 2] w fun e w' => e = .returned (.string R) ∧ Below w.heap.size w w' := by
    go_enter Tryz.func87, Tryz.ntmps87
    go_wp2_with fail
    refine HF.out.mono ?_
    rintro e w2 ⟨rfl, hb⟩
    have HB := Lib.hid hb
    clear hb
    go_wp2_with fail
    go_ret
    exact ⟨rfl, HB.out⟩
  have HIN := Lib.hid hin
  clear hin HF
  go_enter Tryz.func55, Tryz.ntmps55
  go_wp2_with fail
  refine HIN.out.mono ?_
  rintro e w2 ⟨rfl, hb⟩
  have HB := Lib.hid hb
  clear hb
  go_wp2_with fail
  go_ret
  exact ⟨rfl, HB.out⟩

theorem fuint_16 (u : Nat) (K : Nat) (w : World) (hT : GlobT K w) (hu : u < 16) :
    Calls Tryz.prog 60 #[.int .u64 u, .int .i64 16] w fun e w' => ∃ h : u < DG.size, e = .returned (.string ⟨[DG[u]].toArray⟩) ∧ Below w.heap.size w w' := by
  have HF := Lib.hid (fbits_16 u K w hT hu)
  clear hT
  have hud : u < DG.size := Nat.lt_trans hu (by decide)
  obtain ⟨R, hR⟩ : ∃ R : ByteArray, R = ⟨[DG[u]'hud].toArray⟩ := ⟨_, rfl⟩
  have HF2 : Hid (Calls Tryz.prog 110 #[.slice Option.none 0 0, .int .u64 u, .int .i64 16, .bool false, .bool false] w fun e w' => e = .returned (.tuple #[.slice Option.none 0 0, .string R]) ∧ Below w.heap.size w w') := Lib.hid (HF.out.mono fun e w' ⟨_, h1, h2⟩ => ⟨by rw [h1, hR], h2⟩)
  have HR := Lib.hid hR
  clear hR HF
  have hin : Calls Tryz.prog 92 #[.int .u64 u, .int .i64 16] w fun e w' => e = .returned (.string R) ∧ Below w.heap.size w w' := by
    go_enter Tryz.func92, Tryz.ntmps92
    go_wp2_with fail
    refine HF2.out.mono ?_
    rintro e w2 ⟨rfl, hb⟩
    have HB := Lib.hid hb
    clear hb
    go_wp2_with fail
    go_ret
    exact ⟨rfl, HB.out⟩
  have HIN := Lib.hid hin
  clear hin HF2
  go_enter Tryz.func60, Tryz.ntmps60
  go_wp2_with fail
  refine HIN.out.mono ?_
  rintro e w2 ⟨rfl, hb⟩
  have HB := Lib.hid hb
  clear hb
  go_wp2_with fail
  go_ret
  exact ⟨hud, by rw [HR.out]; rfl, HB.out⟩
end Go.Proofs.YtmhagigokgklaaaGreatDoor

/- ParseUint of base 2, of short texts. -/
namespace Go.Proofs.YtmhagigokgklaaaGreatDoor
open Go Go.RowKit Go.Sort Go.Lib

theorem dvl_take_snoc (b : Nat) (s : ByteArray) (k : Nat) (h : k < s.size) : dvl b (s.data.toList.take (k + 1)) = dvl b (s.data.toList.take k) * b + dv s[k].toNat := by
  have hl : k < s.data.toList.length := by simpa using h
  rw [List.take_succ_eq_append_getElem hl, dvl_snoc]
  rfl
theorem dvl2_lt (s : ByteArray) (hb : ∀ i (h : i < s.size), s[i].toNat = 48 ∨ s[i].toNat = 49) (k : Nat) (hk : k ≤ s.size) : dvl 2 (s.data.toList.take k) < 2 ^ k := by
  have h1 := dvl_lt 2 (by decide) (s.data.toList.take k) (fun x hx => by
    obtain ⟨i, hi, rfl⟩ := List.getElem_of_mem (List.mem_of_mem_take hx)
    have hi2 : i < s.size := by simpa using hi
    have := hb i hi2
    rw [show s.data.toList[i] = s[i] from rfl]
    unfold dv
    split <;> omega)
  have h2 : (s.data.toList.take k).length = k := by
    rw [List.length_take]
    have : s.data.toList.length = s.size := by simp
    omega
  rwa [h2] at h1

set_option maxRecDepth 100000 in
set_option maxHeartbeats 4000000 in
theorem puint_2 (s : ByteArray) (w : World) (h1 : 1 ≤ s.size) (h8 : s.size ≤ 8) (hb : ∀ i (h : i < s.size), s[i].toNat = 48 ∨ s[i].toNat = 49) :
    Calls Tryz.prog 91 #[.string s, .int .i64 2, .int .i64 8] w fun e w' => e = .returned (.tuple #[.int .u64 (dvl 2 s.data.toList : Nat), .nilIface]) ∧ Below w.heap.size w w' := by
  have hlen : s.data.toList.length = s.size := by simp
  have hn : s.toList.isEmpty = false := by
    rw [ByteArray.toList_eq]
    cases h : s.data.toList with
    | nil => rw [h] at hlen; simp at hlen; omega
    | cons x t => rfl
  have hcv := Go.Lib.run_convert_string_bytes (P := Tryz.prog) w 9 34 5 s Tryz.underlying9 Tryz.underlying34 Tryz.underlying5
  have hcell : ∀ j (h : j < s.size), (bytesWorld w 5 s).cell? ⟨w.heap.size, j, none⟩ = some (.int .u8 (s[j].toNat : Int)) := fun j h => by
    rw [bytesWorld_cell w _ s j h, List.getD_eq_getElem?_getD, List.getElem?_eq_getElem (by rw [hlen]; exact h)]
    rfl
  have HB := Lib.hid hb
  have HCELL := Lib.hid hcell
  have HBW := Lib.hid (bytesWorld_below w 5 s)
  have HLT := Lib.hid (fun k hk => dvl2_lt s hb k hk)
  generalize bytesWorld w 5 s = w2 at *
  clear hb hcell hlen
  go_enter Tryz.func91, Tryz.ntmps91
  go_wp2_with fail
  clear hcv
  go_loopg [12, 13, 101] s.size (fun g s12 s13 s101 wr => ∃ (k : Nat), k + g = s.size ∧ s12 = .bool false ∧ s13 = .int .u64 (dvl 2 (s.data.toList.take k) : Nat) ∧ s101 = .int .i64 k ∧ wr = w2)
  case atStart => exact ⟨0, by omega, rfl, rfl, rfl, rfl⟩
  case round =>
    obtain ⟨k, hkg, rfl, rfl, rfl, rfl⟩ := hrel
    by_cases hlt : k < s.size
    · have hc := HCELL.out k hlt
      have hb := HB.out k hlt
      have hn1 := HLT.out k (by omega)
      have hn2 := HLT.out (k + 1) (by omega)
      have HS := Lib.hid (dvl_take_snoc 2 s k hlt)
      have h128 : dvl 2 (s.data.toList.take k) < 128 := Nat.lt_of_lt_of_le hn1 (Nat.pow_le_pow_right (by decide) (show k ≤ 7 by omega))
      have h256 : dvl 2 (s.data.toList.take (k + 1)) < 256 := Nat.lt_of_lt_of_le hn2 (Nat.pow_le_pow_right (by decide) (show k + 1 ≤ 8 by omega))
      clear hn1 hn2
      obtain ⟨m, hme⟩ : ∃ m, dvl 2 (s.data.toList.take (k + 1)) = m := ⟨_, rfl⟩
      rw [hme] at HS h256
      have HME := Lib.hid hme
      clear hme
      generalize dvl 2 (s.data.toList.take k) = n at *
      have hm : m = n * 2 + (s[k].toNat - 48) := by
        rw [HS.out]
        congr 1
        unfold dv
        rw [if_pos (by omega)]
      have HM := Lib.hid hm
      have hd1 : (48 : Int) ≤ (s[k].toNat : Int) := by omega
      have hd2 : (s[k].toNat : Int) ≤ 57 := by omega
      have hd3 : (s[k].toNat : Int) - 48 ≤ 1 := by omega
      have t95 : ((s[k].toNat : Int) == 95) = false := by rw [beq_eq_false_iff_ne]; omega
      have hlt2 : decide ((2 : Int) ≤ (s[k].toNat : Int) - 48) = false := by rw [decide_eq_false_iff_not]; omega
      have htc : decide ((9223372036854775808 : Int) ≤ (n : Int)) = false := by rw [decide_eq_false_iff_not]; omega
      have htc2 : decide (9223372036854775808 ≤ n) = false := by rw [decide_eq_false_iff_not]; omega
      have hw1 : IntKind.u64.wrap ((n : Int) * 2) = (n : Int) * 2 := by rw [IntKind.wrap_u64]; omega
      have hw2 : IntKind.u64.wrap ((n : Int) * 2 + ((s[k].toNat : Int) - 48)) = (m : Int) := by rw [IntKind.wrap_u64]; omega
      have hw3 : decide ((m : Int) < (n : Int) * 2) = false := by rw [decide_eq_false_iff_not]; omega
      have hw4 : decide ((255 : Int) < (m : Int)) = false := by rw [decide_eq_false_iff_not]; omega
      have hw5 : decide (255 < m) = false := by rw [decide_eq_false_iff_not]; omega
      clear hm hb
      go_wp2_with fail
      go_roundg (gk - 1)
      case measure => omega
      case rel => exact ⟨k + 1, by omega, rfl, by rw [HME.out], by go_num, rfl⟩
    · have hks : k = s.size := by omega
      subst hks
      have hfull : s.data.toList.take s.size = s.data.toList := List.take_of_length_le (by simp)
      rw [hfull]
      clear hfull
      obtain ⟨R, hR⟩ : ∃ R, R = dvl 2 s.data.toList := ⟨_, rfl⟩
      rw [← hR]
      have HR := Lib.hid hR
      clear hR
      go_wp2_with fail
      refine bodyPost_ret (v := .tuple #[.int .u64 R, .nilIface]) (by simp [results, Tryz.results91, go_sem]) rfl ⟨by rw [HR.out], HBW.out⟩

theorem ppuint_2 (s : ByteArray) (w : World) (h1 : 1 ≤ s.size) (h8 : s.size ≤ 8) (hb : ∀ i (h : i < s.size), s[i].toNat = 48 ∨ s[i].toNat = 49) :
    Calls Tryz.prog 59 #[.string s, .int .i64 2, .int .i64 8] w fun e w' => e = .returned (.tuple #[.int .u64 (dvl 2 s.data.toList : Nat), .nilIface]) ∧ Below w.heap.size w w' := by
  have HP := Lib.hid (puint_2 s w h1 h8 hb)
  generalize dvl 2 s.data.toList = R at *
  clear hb
  go_enter Tryz.func59, Tryz.ntmps59
  go_wp2_with fail
  refine HP.out.mono ?_
  rintro e w2 ⟨rfl, hb⟩
  have HB := Lib.hid hb
  clear hb
  go_wp2_with fail
  refine bodyPost_ret (v := .tuple #[.int .u64 R, .nilIface]) (by simp [results, Tryz.results59, go_sem]) rfl ⟨rfl, HB.out⟩
end Go.Proofs.YtmhagigokgklaaaGreatDoor

/- text.Hex. -/
namespace Go.Proofs.YtmhagigokgklaaaGreatDoor
open Go Go.RowKit

/-- what a digit of the base 16 stands for -/
def hexI (n : Nat) : Int := if 48 ≤ n ∧ n ≤ 57 then (n : Int) - 48 else if 97 ≤ (n ||| 32) ∧ (n ||| 32) ≤ 102 then ((n ||| 32 : Nat) : Int) - 87 else -1

theorem or32_nat (n : Nat) (h : n < 2147483648) : bits .or .i32 (n : Int) 32 = ((n ||| 32 : Nat) : Int) := by
  have hx : n ||| 32 < 2 ^ 31 := Nat.or_lt_two_pow (by omega) (by omega)
  have h1 : (BitVec.ofInt 32 (n : Int)).toNat = n := by
    rw [BitVec.ofInt_natCast, BitVec.toNat_ofNat]; exact Nat.mod_eq_of_lt (by omega)
  show IntKind.i32.wrap ((BitVec.ofInt 32 (n : Int) ||| BitVec.ofInt 32 ((32 : Nat) : Int)).toNat : Int) = _
  rw [BitVec.toNat_or, h1, show (BitVec.ofInt 32 ((32 : Nat) : Int)).toNat = 32 from by decide, IntKind.wrap_i32]
  omega

theorem alpha_any (n : Nat) (w : World) (h : n < 2147483648) (b : Bool) (hb : b = decide (97 ≤ (n ||| 32) ∧ (n ||| 32) ≤ 122)) :
    Calls Tryz.prog 86 #[.int .i32 n] w fun e w' => e = .returned (.bool b) ∧ w' = w := by
  have ho := or32_nat n h
  generalize n ||| 32 = m at *
  by_cases h1 : 97 ≤ m
  · have h1' : (97 : Int) ≤ (m : Int) := by omega
    have hbb : b = decide (m ≤ 122) := by rw [hb]; congr 1; exact propext ⟨fun h => h.2, fun h => ⟨h1, h⟩⟩
    clear hb
    cases b
    · have h2 : decide ((m : Int) ≤ 122) = false := by rw [decide_eq_false_iff_not]; have := decide_eq_false_iff_not.1 hbb.symm; omega
      clear hbb
      go_enter Tryz.func86, Tryz.ntmps86
      go_wp2_with fail
      go_ret
      exact ⟨rfl, rfl⟩
    · have h2 : (m : Int) ≤ 122 := by have := of_decide_eq_true hbb.symm; omega
      clear hbb
      go_enter Tryz.func86, Tryz.ntmps86
      go_wp2_with fail
      go_ret
      exact ⟨ret_bool (by first | rfl | (simp; done) | (simp; omega)), rfl⟩
  · have h1' : decide ((97 : Int) ≤ (m : Int)) = false := by rw [decide_eq_false_iff_not]; omega
    have hbb : b = false := by rw [hb, decide_eq_false_iff_not]; omega
    subst hbb
    clear hb
    go_enter Tryz.func86, Tryz.ntmps86
    go_wp2_with fail
    go_ret
    exact ⟨ret_bool (by first | rfl | (simp; done) | (simp; omega)), rfl⟩

set_option maxRecDepth 100000 in
theorem hex_any (n : Nat) (w : World) (h : n < 2147483648) :
    Calls Tryz.prog 54 #[.int .i32 n] w fun e w' => e = .returned (.int .i64 (hexI n)) ∧ w' = w := by
  by_cases hd : 48 ≤ n ∧ n ≤ 57
  · have hv : hexI n = (n : Int) - 48 := if_pos hd
    rw [hv]
    have HD := Lib.hid (digit_yes n w (by omega) (by omega))
    obtain ⟨hd1, hd2⟩ := hd
    clear hv
    go_enter Tryz.func54, Tryz.ntmps54
    go_wp2_with fail
    refine HD.out.mono ?_
    rintro e w ⟨rfl, rfl⟩
    go_wp2_with fail
    go_ret
    exact ⟨rfl, rfl⟩
  · have HD := Lib.hid (digit_no n w (by omega))
    have ho := or32_nat n h
    have HA := Lib.hid (alpha_any n w h _ rfl)
    have hv : hexI n = if 97 ≤ (n ||| 32) ∧ (n ||| 32) ≤ 102 then ((n ||| 32 : Nat) : Int) - 87 else -1 := if_neg hd
    rw [hv]
    clear hv hd
    generalize n ||| 32 = m at *
    by_cases h1 : 97 ≤ m ∧ m ≤ 122
    · rw [decide_eq_true h1] at HA
      obtain ⟨h2, h3⟩ := h1
      by_cases h4 : m ≤ 102
      · have h4' : (m : Int) ≤ 102 := by omega
        rw [if_pos ⟨h2, h4⟩]
        have h2' : (97 : Int) ≤ (m : Int) := by omega
        go_enter Tryz.func54, Tryz.ntmps54
        go_wp2_with fail
        refine HD.out.mono ?_
        rintro e w ⟨rfl, rfl⟩
        go_wp2_with fail
        refine HA.out.mono ?_
        rintro e w ⟨rfl, rfl⟩
        go_wp2_with fail
        go_ret
        exact ⟨ret_int (by omega), rfl⟩
      · have h4' : decide ((m : Int) ≤ 102) = false := by rw [decide_eq_false_iff_not]; omega
        rw [if_neg (by omega)]
        go_enter Tryz.func54, Tryz.ntmps54
        go_wp2_with fail
        refine HD.out.mono ?_
        rintro e w ⟨rfl, rfl⟩
        go_wp2_with fail
        refine HA.out.mono ?_
        rintro e w ⟨rfl, rfl⟩
        go_wp2_with fail
        go_ret
        exact ⟨rfl, rfl⟩
    · rw [decide_eq_false h1] at HA
      rw [if_neg (by omega)]
      clear h1
      go_enter Tryz.func54, Tryz.ntmps54
      go_wp2_with fail
      refine HD.out.mono ?_
      rintro e w ⟨rfl, rfl⟩
      go_wp2_with fail
      refine HA.out.mono ?_
      rintro e w ⟨rfl, rfl⟩
      go_wp2_with fail
      go_ret
      exact ⟨rfl, rfl⟩

/-- a byte above 127 begins no code point below 128 -/
theorem decode_high (s : ByteArray) (pos : Nat) (h : pos < s.size) (hb : 128 ≤ s[pos].toNat) : 128 ≤ (Utf8.decode s pos).1 ∧ (Utf8.decode s pos).1 ≤ 1114111 := by
  rw [Lib.decode_at]
  have e : (s.get! pos).toNat = s[pos].toNat := by
    congr 1
    simp [ByteArray.get!, getElem!_pos, h]
    rfl
  rw [e]
  have h0 := s[pos].toNat_lt
  generalize s[pos].toNat = b0 at *
  generalize (s.get! (pos + 1)).toNat = b1
  generalize (s.get! (pos + 2)).toNat = b2
  generalize (s.get! (pos + 3)).toNat = b3
  rcases Lib.decodeN_shape (s.size - pos) b0 b1 b2 b3 with ⟨h1, _⟩ | ⟨_, _, _, h1, h2⟩ | ⟨h3, _, _, _, h1, _, h2⟩ | ⟨_, _, _, _, _, h1, h3, h2⟩ | h2
  · omega
  · rw [h2]; exact ⟨h1, by show b0 % 32 * 64 + b1 % 64 ≤ _; omega⟩
  · rw [h2]; exact ⟨by show 128 ≤ b0 % 16 * 4096 + b1 % 64 * 64 + b2 % 64; omega, by show b0 % 16 * 4096 + b1 % 64 * 64 + b2 % 64 ≤ _; omega⟩
  · rw [h2]; exact ⟨by show 128 ≤ b0 % 8 * 262144 + b1 % 64 * 4096 + b2 % 64 * 64 + b3 % 64; omega, h3⟩
  · rw [h2]; exact ⟨by decide, by decide⟩
theorem hexI_high (n : Nat) (h : 128 ≤ n) : hexI n = -1 := by
  unfold hexI
  have := Nat.left_le_or (n := n) (m := 32)
  rw [if_neg (by omega), if_neg (by omega)]
end Go.Proofs.YtmhagigokgklaaaGreatDoor

/- strings.Builder's WriteString (this seat's text of copyCheck has a place that the shelf's has not). -/
namespace Go.Proofs.YtmhagigokgklaaaGreatDoor
open Go Go.RowKit Go.Lib

set_option maxHeartbeats 1000000 in
set_option maxRecDepth 100000 in
theorem bcheck_used (b : Nat) (w : World) (h0 : w.cell? ⟨b, 0, none⟩ = some (.pointer (some ⟨b, 0, none⟩))) :
    Calls Tryz.prog 88 #[.pointer (some ⟨b, 0, none⟩)] w fun e w' => e = .returned (.tuple #[]) ∧ w' = w := by
  obtain ⟨j, hj, _⟩ := Option.map_eq_some_iff.1 Tryz.Builder_Extra_169.toX72.sizeBuilder
  go_enter Tryz.func88, Tryz.ntmps88
  go_wp2
  rw [Lib.run_neq_ptr_same w _ (by kernel_rfl) hj]
  go_wp2
  go_end0
  exact ⟨rfl, rfl⟩

set_option maxHeartbeats 1000000 in
set_option maxRecDepth 100000 in
theorem bcheck_fresh (b : Nat) (w : World) (h0 : w.cell? ⟨b, 0, none⟩ = some (.pointer none)) (hsh : w.shape? b = some (83, 2)) (hfz : w.frozen? ⟨b, 0, none⟩ = false) :
    Calls Tryz.prog 88 #[.pointer (some ⟨b, 0, none⟩)] w fun e w' => e = .returned (.tuple #[]) ∧ w' = w.setCell ⟨b, 0, none⟩ (.pointer (some ⟨b, 0, none⟩)) := by
  obtain ⟨j, hj, hjs⟩ := Option.map_eq_some_iff.1 Tryz.Builder_Extra_169.toX72.sizeBuilder
  go_enter Tryz.func88, Tryz.ntmps88
  go_wp2
  rw [Lib.run_to_unsafe w ⟨b, 0, none⟩ (by kernel_rfl) (by kernel_rfl) hj (by rw [hjs]; decide) hsh (Nat.zero_lt_succ 1)]
  simp only [Result.andThen]
  rw [Oper.upon_value]
  go_wp2
  rw [run_callFunc_extern Tryz.func111 (by kernel_rfl) (by kernel_rfl) (by kernel_rfl) (e := Extern.AbiNoEscape.same) (by kernel_rfl)]
  rw [Lib.run_noEscape]
  simp only [Result.andThen]
  rw [Oper.upon_value]
  go_wp2
  rw [Lib.run_from_unsafe w ⟨b, 0, none⟩ (by kernel_rfl) (by kernel_rfl) hj hsh Tryz.Builder_Extra_169.toX72.liesBuilder]
  simp only [Result.andThen]
  rw [Oper.upon_value]
  go_wp2
  go_end0
  exact ⟨rfl, rfl⟩

theorem bcheck (B b : Nat) (bs : List Value) (w : World) (h : Lib.IsBuilderF 83 5 B b bs w) :
    Calls Tryz.prog 88 #[.pointer (some ⟨b, 0, none⟩)] w fun e w' => e = .returned (.tuple #[]) ∧ (Lib.BuilderAtF 83 5 B b (.pointer (some ⟨b, 0, none⟩)) bs w' ∧ Below B w w' ∧ Lib.OthersKept 5 (some b) w w') := by
  rcases h with h | h
  · refine (bcheck_fresh b w h.cell0 h.shape h.frozen0).mono ?_
    rintro e w' ⟨rfl, rfl⟩
    exact ⟨rfl, h.used _, (Below.refl B w).setCell (p := ⟨b, 0, none⟩) h.1 _, (Lib.OthersKept.refl _ _ w).setCell ⟨b, 0, none⟩ rfl _⟩
  · refine (bcheck_used b w h.cell0).mono ?_
    rintro e w' ⟨rfl, rfl⟩
    exact ⟨rfl, h, Below.refl B _, Lib.OthersKept.refl _ _ _⟩

set_option maxHeartbeats 2000000 in
set_option maxRecDepth 100000 in
theorem bwrite (B b : Nat) (bs : List Value) (s : ByteArray) (w : World) (h : Lib.IsBuilderF 83 5 B b bs w) (hlen : bs.length + s.size ≤ 140737488355328) (hBw : B ≤ w.heap.size) :
    Calls Tryz.prog 56 #[.pointer (some ⟨b, 0, none⟩), .string s] w fun e w' => e = .returned (.tuple #[.int .i64 s.size, .nilIface]) ∧ (Lib.BuilderAtF 83 5 B b (.pointer (some ⟨b, 0, none⟩)) (bs ++ Lib.strCells s) w' ∧ Below B w w' ∧ Lib.OthersKept 5 (some b) w w') := by
  obtain ⟨i0, hi, hz0, hz1, hz2⟩ := info_parts Tryz.Builder_Extra_169.infoByte
  have hsl : Tryz.prog.underlying 34 = some (TypeDesc.slice 5) := by kernel_rfl
  have hst : Tryz.prog.underlying 9 = some TypeDesc.string := by kernel_rfl
  go_enter Tryz.func56, Tryz.ntmps56
  go_wp2_with fail
  refine (bcheck B b bs _ h).mono ?_
  rintro e w1 ⟨rfl, h1, hb1, hk1⟩
  obtain ⟨hB, v, hbk, hown, hne⟩ := h1
  have c0 : w1.cell? ⟨b, 0, none⟩ = some (.pointer (some ⟨b, 0, none⟩)) := by rw [Lib.cell_of_heap hbk]; rfl
  have c1 : w1.cell? ⟨b, 1, none⟩ = some v := by rw [Lib.cell_of_heap hbk]; rfl
  go_wp2_with (at_builtin; refine Lib.wpList_append_own_stringF _ rfl _ _ 34 9 rfl B 5 i0 hsl hst hi hz0 hz1 hz2 _ _ _ rfl hown s rfl ?c3 ?c4 ?c5 ?_)
  case c3 => unfold maxLen; omega
  case c4 => omega
  case c5 => have := hb1.size; omega
  intro v' w2 hown' hgrow _
  have hlt : b < w1.heap.size := by
    rcases Nat.lt_or_ge b w1.heap.size with h' | h'
    · exact h'
    · simp [Array.getElem?_eq_none h'] at hbk
  have hb2 : w2.heap[b]? = some (.cells #[.pointer (some ⟨b, 0, none⟩), v] 83 (0, 0)) := by
    rw [hgrow.block b hlt (fun e => hne e.symm)]
    exact hbk
  have d0 : w2.cell? ⟨b, 0, none⟩ = some (.pointer (some ⟨b, 0, none⟩)) := by rw [Lib.cell_of_heap hb2]; rfl
  have d1 : w2.cell? ⟨b, 1, none⟩ = some v := by rw [Lib.cell_of_heap hb2]; rfl
  have f1 : w2.frozen? ⟨b, 1, none⟩ = false := Lib.frozen_of_heap hb2 1
  obtain ⟨ao, n', cap, rfl⟩ : ∃ ao n' cap, v' = .slice ao n' cap := by
    rcases hown'.2 with ⟨hv, _⟩ | ⟨g, cap, cur, fz, hv, _⟩
    · exact ⟨_, _, _, hv⟩
    · exact ⟨_, _, _, hv⟩
  go_wp2
  go_ret2
  refine ⟨rfl, ?_, ?_, (hk1.grown hgrow (Lib.ownsRowF_kind hown)).setCell ⟨b, 1, none⟩ rfl _⟩
  · exact Lib.BuilderAtF.put (T := 83) (e := 5) hB hb2 (bs' := bs ++ Lib.strCells s) (by simpa [Lib.strCells_length] using hown') Tryz.Builder_Extra_169.neB5
  · exact (hb1.grown hgrow (by have := hb1.size; omega) (fun k hk => (hown.lt k hk).1)).setCell (p := ⟨b, 1, none⟩) hB _
end Go.Proofs.YtmhagigokgklaaaGreatDoor
