/- Joined texts: Mj. Each begins with its own remark. -/
import Derived.Test.YtmhagigokgklaaaGreatDoorJq
import Derived.Test.YtmhagigokgklaaaGreatDoorJf
import Derived.WalkMore

/- floatBits. -/
namespace Go.Proofs.YtmhagigokgklaaaGreatDoor
open Go Go.RowKit Go.Sort Go.Lib
set_option exponentiation.threshold 5000

/-- a scope whose labels stand behind all jumps to them -/
theorem wp_scope_hop {P : Program} {c : Code} {a : Act} {w : World} {Q : Exit → Act → World → Prop}
    (h : ∀ R : Exit → Act → World → Prop, Hid (∀ a w, Q .ret a w → R .ret a w) → Hid (∀ l rest a w, findLabel c l = some rest → rest.wp P (Exit.noGoto Q) a w → R (.goto l) a w) → c.wp P R a w) :
    (Code.scope c).wp P Q a w := by
  have h1 := h (fun e a w => match e with | .goto l => ∃ rest, findLabel c l = some rest ∧ rest.wp P (Exit.noGoto Q) a w | e => Q e a w) (Lib.hid fun a w h => h) (Lib.hid fun l rest a w h2 h3 => ⟨rest, h2, h3⟩)
  intro b k cs
  obtain ⟨e, a₁, w₁, hq, harr⟩ := h1 b (.inScope c :: k) cs
  cases e with
  | normal => exact ⟨.normal, a₁, w₁, hq, .head step_scope (Steps.trans harr (.one step_inScope))⟩
  | exit id => exact ⟨.exit id, a₁, w₁, hq, fun k' hk => .head step_scope (harr k' (by simp [exitTo, hk]))⟩
  | goto l =>
    obtain ⟨rest, hf, hr⟩ := hq
    have hg : gotoIn l (.inScope c :: k) = some (.code rest :: .inScope c :: k) := by simp [gotoIn, hf]
    obtain ⟨e₂, a₂, w₂, hq₂, harr₂⟩ := hr b (.inScope c :: k) cs
    cases e₂ with
    | normal => exact ⟨.normal, a₂, w₂, hq₂, .head step_scope (Steps.trans (harr _ hg) (Steps.trans harr₂ (.one step_inScope)))⟩
    | exit id => exact ⟨.exit id, a₂, w₂, hq₂, fun k' hk => .head step_scope (Steps.trans (harr _ hg) (harr₂ k' (by simp [exitTo, hk])))⟩
    | goto l => exact hq₂.elim
    | ret => exact ⟨_, a₂, w₂, hq₂, .of_steps (.head step_scope (harr _ hg)) harr₂⟩
    | panic ch => exact ⟨_, a₂, w₂, hq₂, .of_steps (.head step_scope (harr _ hg)) harr₂⟩
    | outgrown => exact ⟨_, a₂, w₂, hq₂, .of_steps (.head step_scope (harr _ hg)) harr₂⟩
  | ret => exact ⟨_, a₁, w₁, hq, .of_steps (.one step_scope) harr⟩
  | panic ch => exact ⟨_, a₁, w₁, hq, .of_steps (.one step_scope) harr⟩
  | outgrown => exact ⟨_, a₁, w₁, hq, .of_steps (.one step_scope) harr⟩

theorem ten_331 : 10 ^ 331 ≤ 2 ^ 1100 := by decide +kernel
theorem ten_310 : 10 ^ 310 ≤ 2 ^ 1030 := by decide +kernel
theorem two_1024 : 2 ^ 1024 ≤ 10 ^ 310 := by decide +kernel

theorem sz_of {l : List UInt8} (hg : Dg l) (dp p : Int) (hp : p = dp - l.length) (h1 : -330 ≤ dp) (h2 : dp ≤ 310) : ∃ F, Sz (dvl 10 l * 10 ^ p.toNat) (dQ p) F := by
  have hpos := hg.pos
  have hQ := dQ_pos p
  have hlo : dQ p ≤ dvl 10 l * 10 ^ p.toNat * 2 ^ 1100 := by
    refine Nat.le_trans ?_ (Nat.mul_le_mul_left _ ten_331)
    refine Nat.le_trans ?_ (Nat.mul_le_mul_right _ (Nat.mul_le_mul_right _ hg.lo))
    unfold dQ
    rw [← Nat.pow_add, ← Nat.pow_add]
    exact Nat.pow_le_pow_right (by decide) (by omega)
  have hhi : dvl 10 l * 10 ^ p.toNat < dQ p * 2 ^ 1030 := by
    refine Nat.lt_of_lt_of_le ((Nat.mul_lt_mul_right (Nat.pow_pos (by decide))).2 hg.hi) ?_
    refine Nat.le_trans ?_ (Nat.mul_le_mul_left _ ten_310)
    unfold dQ
    rw [← Nat.pow_add, ← Nat.pow_add]
    exact Nat.pow_le_pow_right (by decide) (by omega)
  generalize dvl 10 l * 10 ^ p.toNat = P at *
  generalize dQ p = Q at *
  obtain ⟨M, hM⟩ : ∃ M, P * 2 ^ 1500 / Q = M := ⟨_, rfl⟩
  have hM1 : 2 ^ 400 ≤ M := by
    rw [← hM, Nat.le_div_iff_mul_le hQ]
    have := Nat.mul_le_mul_right (2 ^ 400) hlo
    rw [Nat.mul_comm (2 ^ 400)]
    refine Nat.le_trans this (Nat.le_of_eq ?_)
    rw [Nat.mul_assoc, ← Nat.pow_add]
  have hM2 : M < 2 ^ 2530 := by
    rw [← hM, Nat.div_lt_iff_lt_mul hQ]
    have := (Nat.mul_lt_mul_right (Nat.two_pow_pos 1500)).2 hhi
    rw [Nat.mul_assoc, ← Nat.pow_add, Nat.mul_comm Q] at this
    exact this
  have hM0 : M ≠ 0 := by
    have := Nat.two_pow_pos 400
    omega
  have hL1 := Nat.log2_self_le hM0
  have hL2 := @Nat.lt_log2_self M
  obtain ⟨L, hL⟩ : ∃ L, Nat.log2 M = L := ⟨_, rfl⟩
  rw [hL] at hL1 hL2
  have hL3 : 400 < L + 1 := (Nat.pow_lt_pow_iff_right (by decide : 1 < 2)).1 (Nat.lt_of_le_of_lt hM1 hL2)
  have hL4 : L < 2530 := (Nat.pow_lt_pow_iff_right (by decide : 1 < 2)).1 (Nat.lt_of_le_of_lt hL1 hM2)
  have hq1 : Q * 2 ^ L ≤ P * 2 ^ 1500 := by
    rw [← hM, Nat.le_div_iff_mul_le hQ, Nat.mul_comm] at hL1
    exact hL1
  have hq2 : P * 2 ^ 1500 < Q * 2 ^ (L + 1) := by
    rw [← hM, Nat.div_lt_iff_lt_mul hQ, Nat.mul_comm (2 ^ (L + 1))] at hL2
    exact hL2
  refine ⟨2999 - L, hQ, ?_, ?_, by omega, by omega⟩
  · refine Nat.le_of_mul_le_mul_right (c := 2 ^ L) ?_ (Nat.two_pow_pos L)
    have h := Nat.mul_le_mul_right (2 ^ 1500) hq1
    have e1 : Q * 2 ^ 1500 * 2 ^ L = Q * 2 ^ L * 2 ^ 1500 := Nat.mul_right_comm _ _ _
    have e2 : P * 2 ^ (2999 - L + 1) * 2 ^ L = P * 2 ^ 1500 * 2 ^ 1500 := by
      rw [Nat.mul_assoc, Nat.mul_assoc, ← Nat.pow_add, ← Nat.pow_add]; congr 2; omega
    rw [e1, e2]; exact h
  · refine Nat.lt_of_mul_lt_mul_right (a := 2 ^ (L + 1)) ?_
    have h := (Nat.mul_lt_mul_right (Nat.two_pow_pos 1500)).2 hq2
    have e1 : Q * 2 ^ 1500 * 2 ^ (L + 1) = Q * 2 ^ (L + 1) * 2 ^ 1500 := Nat.mul_right_comm _ _ _
    have e2 : P * 2 ^ (2999 - L) * 2 ^ (L + 1) = P * 2 ^ 1500 * 2 ^ 1500 := by
      rw [Nat.mul_assoc, Nat.mul_assoc, ← Nat.pow_add, ← Nat.pow_add]; congr 2; omega
    rw [e1, e2]; exact h

theorem inf_F {d F : Nat} {p : Int} (z : Sz (d * 10 ^ p.toNat) (dQ p) F) (hF : F ≤ 475) : Near (dX d p) (dQ p) INF := by
  refine near_inf _ _ (dQ_pos p) ?_
  have h1 := z.lo
  unfold dX
  generalize d * 10 ^ p.toNat = P at *
  generalize dQ p = Q at *
  have h2 : P * 2 ^ (F + 1) ≤ P * 2 ^ 476 := Nat.mul_le_mul_left _ (Nat.pow_le_pow_right (by decide) (by omega))
  have h3 := Nat.le_trans h1 h2
  have h4 : Q * 2 ^ 1024 ≤ P := by
    refine Nat.le_of_mul_le_mul_right (c := 2 ^ 476) ?_ (Nat.two_pow_pos _)
    rw [Nat.mul_assoc, ← Nat.pow_add]; exact h3
  have e : Q * 2 ^ 2099 = 2 * (Q * 2 ^ 1024 * 2 ^ 1074) := by
    rw [Nat.mul_assoc Q, ← Nat.pow_add, show 2099 = 2098 + 1 by rfl, Nat.pow_succ, show 1024 + 1074 = 2098 by rfl]; ac_rfl
  rw [e]
  exact Nat.mul_le_mul_left 2 (Nat.mul_le_mul_right _ h4)

theorem far_inf2 {l : List UInt8} (hg : Dg l) (dp p : Int) (hp : p = dp - l.length) (h : 310 < dp) : Near (dX (dvl 10 l) p) (dQ p) INF := by
  refine near_inf _ _ (dQ_pos p) ?_
  have hpos := hg.pos
  have h1 : dQ p * 10 ^ 310 ≤ dvl 10 l * 10 ^ p.toNat := by
    refine Nat.le_trans ?_ (Nat.mul_le_mul_right _ hg.lo)
    unfold dQ
    rw [← Nat.pow_add, ← Nat.pow_add]
    exact Nat.pow_le_pow_right (by decide) (by omega)
  unfold dX
  generalize dvl 10 l * 10 ^ p.toNat = P at *
  generalize dQ p = Q at *
  have h4 : Q * 2 ^ 1024 ≤ P := Nat.le_trans (Nat.mul_le_mul_left _ two_1024) h1
  have e : Q * 2 ^ 2099 = 2 * (Q * 2 ^ 1024 * 2 ^ 1074) := by
    rw [Nat.mul_assoc Q, ← Nat.pow_add, show 2099 = 2098 + 1 by rfl, Nat.pow_succ, show 1024 + 1074 = 2098 by rfl]; ac_rfl
  rw [e]
  exact Nat.mul_le_mul_left 2 (Nat.mul_le_mul_right _ h4)

theorem exp_mask : ∀ e : Fin 2048, bits .and .i64 ((e.val : Nat) : Int) 2047 = ((e.val : Nat) : Int) := by decide +kernel
theorem exp_is (E : Nat) (h : E < 2048) : bits .and .i64 (E : Int) 2047 = (E : Int) := exp_mask ⟨E, h⟩
theorem and52 (m : Nat) (hm : m < 9007199254740992) : bits .and .u64 (m : Int) 4503599627370495 = ((m % 4503599627370496 : Nat) : Int) := by
  have h := u64_and_nat m 4503599627370495 (by omega) (by decide)
  rw [show ((4503599627370495 : Nat) : Int) = 4503599627370495 from rfl, show (4503599627370495 : Nat) = 2 ^ 52 - 1 from rfl, Nat.and_two_pow_sub_one_eq_mod] at h
  exact h
theorem fb_bits (fr E r : Nat) (hf : fr < 4503599627370496) (hE : E < 2047) (hr : r = E * 4503599627370496 + fr) : bits .or .u64 (fr : Int) ((E : Int) * 4503599627370496) = (r : Int) := by
  have h := bits_or_u64_nat fr (E * 4503599627370496) (by omega) (by omega)
  rw [or_parts fr E hf, ← hr] at h
  exact h
theorem fb_hi (m : Nat) (hm : m < 9007199254740992) (hm2 : 4503599627370496 ≤ m) : bits .and .u64 (m : Int) 4503599627370496 = 4503599627370496 := by
  have h := u64_and_nat m 4503599627370496 (by omega) (by decide)
  rw [show ((4503599627370496 : Nat) : Int) = 4503599627370496 from rfl] at h
  rw [h, and52_high m hm hm2]; rfl
theorem fb_lo (m : Nat) (hm : m < 4503599627370496) : bits .and .u64 (m : Int) 4503599627370496 = 0 := by
  have h := u64_and_nat m 4503599627370496 (by omega) (by decide)
  rw [show ((4503599627370496 : Nat) : Int) = 4503599627370496 from rfl] at h
  rw [h, and52_low m hm]; rfl

def ptN (j : Nat) : Nat := [1, 3, 6, 9, 13, 16, 19, 23, 26].getD j 0
theorem pt_all : ∀ j : Fin 9, 1 ≤ ptN j.val ∧ ptN j.val ≤ 26 ∧ (1 ≤ j.val → 2 ^ ptN j.val ≤ 10 ^ j.val) := by decide +kernel
theorem pt_27 : 2 ^ 27 ≤ 10 ^ 9 := by decide

/-- n steps to the left stay below one -/
theorem left_dp {l l' : List UInt8} {dp dp' : Int} {tr tr' : Bool} {n j : Nat} (hg : Dg l) (hc : Cut (dvl 10 l * 2 ^ n) (dp - l.length) tr l' dp' tr') (hj : dp = -(j : Int)) (h : 2 ^ n ≤ 10 ^ j) : dp' ≤ 0 := by
  have := hc.dp_le (l.length + j) (by
    rw [Nat.pow_add]
    exact Nat.mul_lt_mul_of_lt_of_le hg.hi h (Nat.pow_pos (by decide)))
  omega
theorem half_lt {l : List UInt8} (hg : Dg l) (c : UInt8) (t : List UInt8) (hl : l = c :: t) (hc : c.toNat < 53) : 2 * dvl 10 l < 10 ^ l.length := by
  have hd := hg.dig c (by rw [hl]; simp)
  have ht : dvl 10 t < 10 ^ t.length := dvl_lt 10 (by decide) t fun x hx => okD_dv (by decide) (.inl (hg.dig x (by rw [hl]; simp [hx])))
  have hdv : dv c.toNat = c.toNat - 48 := by unfold dv; exact if_pos hd
  rw [hl, dvl_head, List.length_cons, Nat.pow_succ]
  have := Nat.mul_le_mul_right (10 ^ t.length) (show dv c.toNat ≤ 4 by rw [hdv]; omega)
  omega
theorem half_ge {l : List UInt8} (hg : Dg l) (c : UInt8) (t : List UInt8) (hl : l = c :: t) (hc : 53 ≤ c.toNat) : 10 ^ l.length ≤ 2 * dvl 10 l := by
  have hd := hg.dig c (by rw [hl]; simp)
  have hdv : dv c.toNat = c.toNat - 48 := by unfold dv; exact if_pos hd
  rw [hl, dvl_head, List.length_cons, Nat.pow_succ]
  have := Nat.mul_le_mul_right (10 ^ t.length) (show 5 ≤ dv c.toNat by rw [hdv]; omega)
  omega
theorem av_half {l : List UInt8} (hg : Dg l) : (2 * dvl 10 l < 10 ^ l.length → 2 * av l 0 < 10 ^ 1500) ∧ (10 ^ l.length ≤ 2 * dvl 10 l → 10 ^ 1500 ≤ 2 * av l 0) := by
  have hlen := hg.len
  have e : (10 : Nat) ^ 1500 = 10 ^ l.length * 10 ^ (1500 + (0 : Int) - l.length).toNat := by rw [← Nat.pow_add]; congr 1; omega
  unfold av
  rw [e, ← Nat.mul_assoc]
  exact ⟨fun h => (Nat.mul_lt_mul_right (Nat.pow_pos (by decide))).2 h, fun h => Nat.mul_le_mul_right _ h⟩
theorem av_neg {l : List UInt8} (hg : Dg l) {dp : Int} (h1 : -700 ≤ dp) (h2 : dp < 0) : 2 * av l dp < 10 ^ 1500 := by
  have h3 := hg.avhi h1
  have h4 : 10 ^ (1500 + dp).toNat ≤ 10 ^ 1499 := Nat.pow_le_pow_right (by decide) (by omega)
  have h5 : (10 : Nat) ^ 1500 = 10 ^ 1499 * 10 := Nat.pow_succ 10 1499
  omega
theorem ip_dp {l : List UInt8} (hg : Dg l) (hl : ∃ t c, l = t ++ [c] ∧ c ≠ 48) {dp : Int} (h1 : -700 ≤ dp) (h : ipW l dp ≤ 2 * BB) : dp ≤ 20 := by
  rcases Int.lt_or_le 20 dp with h2 | h2
  · exfalso
    have h3 := hg.avlo h1
    have h4 : 10 ^ 1519 ≤ 10 ^ (1499 + dp).toNat := Nat.pow_le_pow_right (by decide) (by omega)
    have h5 := (av_split hg hl dp h1 false).1
    have h6 : 10 ^ 19 ≤ av l dp / 10 ^ 1500 := by
      rw [Nat.le_div_iff_mul_le (Nat.pow_pos (by decide)), ← Nat.pow_add]
      exact Nat.le_trans h4 h3
    rw [h5] at h6
    unfold BB at h
    omega
  · exact h2


set_option maxRecDepth 100000 in
set_option maxHeartbeats 8000000 in
theorem fbits_any (b K : Nat) (l : List UInt8) (dp p : Int) (w : World) (h : DecL w b l dp false) (hg : Dg l) (hC : GlobC K w) (hKb : K ≤ b) (hp : p = dp - l.length)
    (hI : w.cell? ⟨9, 0, Option.none⟩ = some (.int .u64 52) ∧ w.cell? ⟨9, 1, Option.none⟩ = some (.int .u64 11) ∧ w.cell? ⟨9, 2, Option.none⟩ = some (.int .i64 (-1023)))
    (hd1 : -1000000 ≤ dp) (hd2 : dp ≤ 1000000) :
    Calls Tryz.prog 149 #[.pointer (some ⟨b, 0, Option.none⟩), .pointer (some ⟨9, 0, Option.none⟩)] w fun e w' => ∃ r, Near (dX (dvl 10 l) p) (dQ p) r ∧ e = .returned (.tuple #[.int .u64 r, .bool (decide (r = INF))]) ∧ Below b w w' := by
  have HI := Lib.hid hI
  obtain ⟨i0, i1, i2⟩ := hI
  obtain ⟨c1, c2, c3, -⟩ := h.tail
  have hpos := hg.pos
  have hlen := h.le
  have hn0 : ((l.length : Int) == 0) = false := by rw [beq_eq_false_iff_ne]; omega
  have hn1 : ¬ l = [] := by rintro rfl; simp at hpos
  have hn2 : (l.length == 0) = false := by rw [beq_eq_false_iff_ne]; omega
  have k1 : bits .and .i64 2047 2047 = 2047 := by decide +kernel
  have k2 : bits .and .u64 0 4503599627370495 = 0 := by decide +kernel
  have k3 : bits .or .u64 0 9218868437227405312 = 9218868437227405312 := by decide +kernel
  have k4 : bits .and .i64 0 2047 = 0 := by decide +kernel
  have k5 : bits .or .u64 0 0 = 0 := by decide +kernel
  rcases (show 310 < dp ∨ dp < -330 ∨ (-330 ≤ dp ∧ dp ≤ 310) by omega) with h3 | h3 | ⟨h3, h4⟩
  · have HN := Lib.hid (far_inf2 hg dp p hp h3)
    clear h hg hC hp
    go_enter Tryz.func149, Tryz.ntmps149
    go_wp2_with fail
    refine wp_scope_hop fun R HRET HGO => ?_
    go_wp2_with fail
    go_step3
    refine HGO.out 1 _ _ _ rfl ?_
    go_wp2_with fail
    go_quiet (fail)
    go_wp2_with fail
    try go_step3
    go_wp2_with fail
    try (go_quiet (fail); go_wp2_with fail)
    try rw [Exit.noGoto_ret]
    refine bodyPost_ret (v := .tuple #[.int .u64 9218868437227405312, .bool true]) (by simp [results, Tryz.results149, go_sem]) rfl ⟨INF, HN.out, rfl, by first | exact Below.refl _ _ | exact bDrewN (Below.refl _ _) _⟩
  · have HN := Lib.hid (far_zero (dvl 10 l) l.length p hg.hi (by omega))
    have h3n : ¬ 310 < dp := by omega
    clear h hg hC hp
    go_enter Tryz.func149, Tryz.ntmps149
    go_wp2_with fail
    refine wp_scope_hop fun R HRET HGO => ?_
    go_wp2_with fail
    go_step3
    refine HGO.out 0 _ _ _ rfl ?_
    go_wp2_with fail
    try (go_quiet (fail); go_wp2_with fail)
    try go_step3
    go_wp2_with fail
    try (go_quiet (fail); go_wp2_with fail)
    try rw [Exit.noGoto_ret]
    refine bodyPost_ret (v := .tuple #[.int .u64 0, .bool false]) (by simp [results, Tryz.results149, go_sem]) rfl ⟨0, HN.out, by rw [show decide ((0 : Nat) = INF) = false from by decide] <;> rfl, by first | exact Below.refl _ _ | exact bDrewN (Below.refl _ _) _⟩
  · have h3n : ¬ 310 < dp := by omega
    have h4n : ¬ dp < -330 := by omega
    obtain ⟨F, hz⟩ := sz_of hg dp p hp h3 h4
    have hfirst := Sd.first hz hg hp rfl rfl h3 h4
    have HINF := Lib.hid (fun hF : F ≤ 475 => inf_F hz hF)
    have HNEAR := Lib.hid (fun (l' : List UInt8) (dp' : Int) (tr' : Bool) (hs : Sd (dvl 10 l * 10 ^ p.toNat) (dQ p) F (fEnd F) l' dp' tr') (hl : ∃ t c, l' = t ++ [c] ∧ c ≠ 48) => Sd.near hz hs hl)
    obtain ⟨P, hP⟩ : ∃ P, dvl 10 l * 10 ^ p.toNat = P := ⟨_, rfl⟩
    obtain ⟨Q, hQ⟩ : ∃ Q, dQ p = Q := ⟨_, rfl⟩
    obtain ⟨XX, hXX⟩ : ∃ XX, dX (dvl 10 l) p = XX := ⟨_, rfl⟩
    rw [hP] at HNEAR hz hfirst
    rw [hXX] at HNEAR HINF
    rw [hQ] at HNEAR HINF hz hfirst
    rw [hXX, hQ]
    have HZ := Lib.hid hz
    have HF := Lib.hid hfirst
    have HH := Lib.hid h
    have HC := Lib.hid hC
    have hF1 := hz.f1
    have hF2 := hz.f2
    have hK17 := hC.lt
    have HIN : Hid (∀ W : World, Below b w W → W.cell? ⟨9, 0, Option.none⟩ = some (.int .u64 52) ∧ W.cell? ⟨9, 1, Option.none⟩ = some (.int .u64 11) ∧ W.cell? ⟨9, 2, Option.none⟩ = some (.int .i64 (-1023))) := Lib.hid fun W hb => by
      have hg9 : 9 < b := Nat.lt_of_lt_of_le (by decide) (Nat.le_trans hK17 hKb)
      obtain ⟨x0, x1, x2⟩ := HI.out
      exact ⟨(hb.cell (p := ⟨9, 0, Option.none⟩) hg9).trans x0, (hb.cell (p := ⟨9, 1, Option.none⟩) hg9).trans x1, (hb.cell (p := ⟨9, 2, Option.none⟩) hg9).trans x2⟩
    clear h hg hC hp hz hfirst hP hQ hXX hK17
    go_enter Tryz.func149, Tryz.ntmps149
    go_wp2_with fail
    refine wp_scope_hop fun R HRET HGO => ?_
    go_wp2_with fail
    go_loopg [6, 8] 1500 (fun g s6 s8 wr => ∃ (f : Nat) (l : List UInt8) (dp : Int) (tr : Bool), f ≤ g ∧ f ≤ 1500 ∧ s6 = .int .i64 (1500 - (f : Int)) ∧ Sd P Q F f l dp tr ∧ DecL wr b l dp tr ∧ Below b w wr)
    case atStart => exact ⟨1500, l, dp, false, Nat.le_refl _, Nat.le_refl _, rfl, HF.out, HH.out, by first | exact Below.refl _ _ | exact bDrewN (Below.refl _ _) _⟩
    case round =>
      obtain ⟨f, l1, dp1, tr1, hfg, hf15, rfl, hs, hd, hb⟩ := hrel
      have HS := Lib.hid hs
      have HD := Lib.hid hd
      have HB := Lib.hid hb
      obtain ⟨d0, d1, d2, d3⟩ := hd.tail
      have hlo := hs.lo
      have hhi := hs.hi
      have hl8 := hs.dg.len
      have hl1 := hs.dg.pos
      have hbr := hd.lt
      clear c1 c2 c3
      by_cases hdp : 0 < dp1
      · have hFf := hs.past HZ.out (by omega)
        obtain ⟨j, rfl⟩ : ∃ j : Nat, dp1 = j := ⟨dp1.toNat, by omega⟩
        obtain ⟨gb, go, gcap, g1, g2, g3⟩ := ((HC.out.below hKb hb).pt)
        clear hs hd hb
        by_cases hj : 9 ≤ j
        · have hji : (9 : Int) ≤ (j : Int) := by omega
          obtain ⟨f', rfl⟩ : ∃ f', f = f' + 27 := ⟨f - 27, by omega⟩
          have HSH := Lib.hid (show ∀ m : Nat, Calls Tryz.prog 131 #[.pointer (some ⟨b, 0, Option.none⟩), .int .i64 (-27)] (wr.drewN m) (SdPost P Q F f' b j 27 (wr.drewN m)) from fun m => shift_right P Q F f' b 27 l1 j tr1 (wr.drewN m) HZ.out (HD.out.drewN m) HS.out (by decide) (by decide) (by omega) (by omega) (by omega))
          go_wp2_with fail
          repeat (go_quiet (fail); go_wp2_with fail)
          refine (HSH.out _).mono ?_
          rintro e w2 ⟨⟨v, rfl⟩, l2, dp2, tr2, a1, a2, a3, a4, a5, a6⟩
          have A1 := Lib.hid a1
          have A3 := Lib.hid a3
          have A4 := Lib.hid a4
          clear a1 a2 a3 a4
          go_wp2_with fail
          go_roundg (gk - 1)
          case measure => omega
          case rel => exact ⟨f', l2, dp2, tr2, by omega, by omega, by go_num, A1.out, A3.out, (bDrewN HB.out _).trans A4.out⟩
        · have hjn : ¬ (9 : Int) ≤ (j : Int) := by omega
          have g4 := g3 j (by omega)
          have hpt := pt_all ⟨j, by omega⟩
          have hpe : [1, 3, 6, 9, 13, 16, 19, 23, 26].getD j 0 = ptN j := rfl
          rw [hpe] at g4
          obtain ⟨n, hn⟩ : ∃ n, ptN j = n := ⟨_, rfl⟩
          simp only [hn] at hpt g4
          obtain ⟨hp1, hp2, -⟩ := hpt
          obtain ⟨f', rfl⟩ : ∃ f', f = f' + n := ⟨f - n, by omega⟩
          have HSH := Lib.hid (fun m : Nat => shift_right P Q F f' b n l1 j tr1 (wr.drewN m) HZ.out (HD.out.drewN m) HS.out hp1 (by omega) (by omega) (by omega) (by omega))
          have hj0 : (0 : Int) ≤ (j : Int) := by omega
          have hj9 : (j : Int) < 9 := by omega
          clear hn hpe g3
          go_wp2_with fail
          repeat (go_quiet (fail); go_wp2_with fail)
          refine (HSH.out _).mono ?_
          rintro e w2 ⟨⟨v, rfl⟩, l2, dp2, tr2, a1, a2, a3, a4, a5, a6⟩
          have A1 := Lib.hid a1
          have A3 := Lib.hid a3
          have A4 := Lib.hid a4
          clear a1 a2 a3 a4
          go_wp2_with fail
          go_roundg (gk - 1)
          case measure => omega
          case rel => exact ⟨f', l2, dp2, tr2, by omega, by omega, by go_num, A1.out, A3.out, (bDrewN HB.out _).trans A4.out⟩
      · have hdn : dp1 ≤ 0 := by omega
        have HDN := Lib.hid hdn
        clear hs hd hb
        go_wp2_with fail
        go_loopg [6, 9] F (fun g s6 s9 wr => ∃ (f : Nat) (l : List UInt8) (dp : Int) (tr : Bool), F ≤ f + g ∧ f ≤ 2700 ∧ dp ≤ 0 ∧ s6 = .int .i64 (1500 - (f : Int)) ∧ Sd P Q F f l dp tr ∧ DecL wr b l dp tr ∧ Below b w wr)
        case atStart => exact ⟨f, l1, dp1, tr1, by omega, by omega, HDN.out, rfl, HS.out, by first | exact HD.out | exact HD.out.drewN _, by first | exact HB.out | exact bDrewN HB.out _⟩
        case round =>
          clear HS HD HB HDN d0 d1 d2 d3 hlo hhi hl8 hl1 hbr hdp hdn hfg hf15
          obtain ⟨f, l2, dp2, tr2, hfg, hf27, hdn, rfl, hs, hd, hb⟩ := hrel
          have HS := Lib.hid hs
          have HD := Lib.hid hd
          have HB := Lib.hid hb
          have HG := Lib.hid hs.dg
          obtain ⟨d0, d1, d2, d3⟩ := hd.tail
          have hlo := hs.lo
          have hl8 := hs.dg.len
          have hl1 := hs.dg.pos
          have hbr := hd.lt
          have HCR := Lib.hid (HC.out.below hKb hb)
          rcases (show dp2 < 0 ∨ dp2 = 0 by omega) with hd0 | hd0
          · have hFf := hs.below HZ.out (av_neg hs.dg (by omega) hd0)
            obtain ⟨j, rfl⟩ : ∃ j : Nat, dp2 = -(j : Int) := ⟨(-dp2).toNat, by omega⟩
            obtain ⟨gb, go, gcap, g1, g2, g3⟩ := HCR.out.pt
            have hjn : - -(j : Int) = (j : Int) := by omega
            clear hs hd hb
            by_cases hj : 9 ≤ j
            · have hji : (9 : Int) ≤ (j : Int) := by omega
              have HSH := Lib.hid (show ∀ m : Nat, Calls Tryz.prog 131 #[.pointer (some ⟨b, 0, Option.none⟩), .int .i64 27] (wr.drewN m) (ShPost b (dvl 10 l2 * 2 ^ 27) (-(j : Int) - l2.length) tr2 (wr.drewN m)) from fun m => shift_left b 27 K l2 _ tr2 (wr.drewN m) (HD.out.drewN m) HG.out (HCR.out.below hKb (bDrewN (Below.refl b wr) m)) hKb (by decide) (by decide) (by omega) (by omega))
              go_wp2_with fail
              repeat (go_quiet (fail); go_wp2_with fail)
              refine (HSH.out _).mono ?_
              rintro e w2 ⟨⟨v, rfl⟩, l3, dp3, tr3, a1, a2, a3⟩
              have A1 := Lib.hid a1
              have A2 := Lib.hid a2
              have A3 := Lib.hid a3
              clear a1 a2 a3
              go_wp2_with fail
              go_roundg (gk - 1)
              case measure => omega
              case rel =>
                have hle := left_dp HG.out A1.out rfl (Nat.le_trans pt_27 (Nat.pow_le_pow_right (by decide) hj))
                exact ⟨f + 27, l3, dp3, tr3, by omega, by omega, hle, by go_num, HS.out.left HZ.out 27 A1.out (by omega), A2.out, (bDrewN HB.out _).trans A3.out⟩
            · have hjm : ¬ (9 : Int) ≤ (j : Int) := by omega
              have g4 := g3 j (by omega)
              have hpt := pt_all ⟨j, by omega⟩
              have hpe : [1, 3, 6, 9, 13, 16, 19, 23, 26].getD j 0 = ptN j := rfl
              rw [hpe] at g4
              obtain ⟨n, hn⟩ : ∃ n, ptN j = n := ⟨_, rfl⟩
              simp only [hn] at hpt g4
              obtain ⟨hp1, hp2, hp3⟩ := hpt
              have HP3 := Lib.hid (hp3 (by omega))
              have HSH := Lib.hid (fun m : Nat => shift_left b n K l2 _ tr2 (wr.drewN m) (HD.out.drewN m) HG.out (HCR.out.below hKb (bDrewN (Below.refl b wr) m)) hKb hp1 (by omega) (by omega) (by omega))
              have hj0 : (0 : Int) ≤ (j : Int) := by omega
              have hj9 : (j : Int) < 9 := by omega
              clear hn hpe g3 hp3
              go_wp2_with fail
              repeat (go_quiet (fail); go_wp2_with fail)
              refine (HSH.out _).mono ?_
              rintro e w2 ⟨⟨v, rfl⟩, l3, dp3, tr3, a1, a2, a3⟩
              have A1 := Lib.hid a1
              have A2 := Lib.hid a2
              have A3 := Lib.hid a3
              clear a1 a2 a3
              go_wp2_with fail
              go_roundg (gk - 1)
              case measure => omega
              case rel =>
                have hle := left_dp HG.out A1.out rfl HP3.out
                exact ⟨f + n, l3, dp3, tr3, by omega, by omega, hle, by go_num, HS.out.left HZ.out n A1.out (by omega), A2.out, (bDrewN HB.out _).trans A3.out⟩
          · subst hd0
            obtain ⟨c, u, hcu, hc48⟩ := hs.dg.hd
            have hcell := hd.cell 0 (by omega)
            have hc0 : l2[0]'(by omega) = c := by simp [hcu]
            rw [hc0] at hcell
            by_cases hc : c.toNat < 53
            · have hlt := half_lt hs.dg c u hcu hc
              have hFf := hs.below HZ.out ((av_half hs.dg).1 hlt)
              have HLT := Lib.hid hlt
              obtain ⟨gb, go, gcap, g1, g2, g3⟩ := HCR.out.pt
              have g4 := g3 0 (by decide)
              rw [Nat.add_zero] at g4
              replace g4 : wr.cell? ⟨gb, go, Option.none⟩ = some (.int .i64 1) := g4
              have HSH := Lib.hid (show ∀ m : Nat, Calls Tryz.prog 131 #[.pointer (some ⟨b, 0, Option.none⟩), .int .i64 1] (wr.drewN m) (ShPost b (dvl 10 l2 * 2 ^ 1) (0 - l2.length) tr2 (wr.drewN m)) from fun m => shift_left b 1 K l2 _ tr2 (wr.drewN m) (HD.out.drewN m) HG.out (HCR.out.below hKb (bDrewN (Below.refl b wr) m)) hKb (by decide) (by decide) (by omega) (by omega))
              have hci : (c.toNat : Int) < 53 := by omega
              clear hs hd hb hlt hcu g3 hc0
              go_wp2_with fail
              repeat (go_quiet (fail); go_wp2_with fail)
              refine (HSH.out _).mono ?_
              rintro e w2 ⟨⟨v, rfl⟩, l3, dp3, tr3, a1, a2, a3⟩
              have A1 := Lib.hid a1
              have A2 := Lib.hid a2
              have A3 := Lib.hid a3
              clear a1 a2 a3
              go_wp2_with fail
              go_roundg (gk - 1)
              case measure => omega
              case rel =>
                have hle := A1.out.dp_le l2.length (by have := HLT.out; rw [Nat.pow_one]; omega)
                exact ⟨f + 1, l3, dp3, tr3, by omega, by omega, by omega, by go_num, HS.out.left HZ.out 1 A1.out (by omega), A2.out, (bDrewN HB.out _).trans A3.out⟩
            · have hge := half_ge hs.dg c u hcu (by omega)
              have hav := hs.dg.avhi (dp := 0) (by decide)
              have hfF := hs.at_ HZ.out ((av_half hs.dg).2 hge) hav
              subst hfF
              have hci : ¬ (c.toNat : Int) < 53 := by omega
              clear hs hd hb hge hcu hc0 hav

              clear i0 i1 i2
              obtain ⟨i0, i1, i2⟩ := HIN.out wr HB.out
              obtain ⟨x, hx⟩ : ∃ x : Int, (1500 : Int) - (f : Int) - 1 = x := ⟨_, rfl⟩
              have HXE := Lib.hid hx
              have hx1 : -2000 ≤ x := by omega
              have hx2 : x ≤ 2000 := by omega
              go_upto_if 111 with fail
              go_cut [6] from 12 to 125 (fun s6 wx => ∃ (l3 : List UInt8) (dp3 : Int) (tr3 : Bool) (E1 : Nat), s6 = .int .i64 ((E1 : Int) - 1023) ∧ E1 = (2521 - f) + 1 ∧ Sd P Q f (min f 2521) l3 dp3 tr3 ∧ DecL wx b l3 dp3 tr3 ∧ Below b w wx ∧ -100 ≤ dp3 ∧ dp3 ≤ 0)
              case first =>
                by_cases hf : f ≤ 2521
                · have hxn : ¬ x < -1022 := by omega
                  go_wp2_with fail
                  go_meet
                  refine ⟨l2, 0, tr2, 2522 - f, by rw [show ((2522 - f : Nat) : Int) - 1023 = x by have := HXE.out; omega], by omega, ?_, by first | exact HD.out | exact HD.out.drewN _, by first | exact HB.out | exact bDrewN HB.out _, by decide, by decide⟩
                  rw [show min f 2521 = f by omega]
                  exact HS.out
                · have hxn : x < -1022 := by omega
                  obtain ⟨n, hn⟩ : ∃ n : Nat, f = 2521 + n := ⟨f - 2521, by omega⟩
                  have hnx : -1022 - x = (n : Int) := by omega
                  have HN2 := Lib.hid hn
                  have HSH := Lib.hid (fun m : Nat => shift_right P Q f 2521 b n l2 0 tr2 (wr.drewN m) HZ.out (HD.out.drewN m) (by rw [← hn]; exact HS.out) (by omega) (by omega) (by omega) (by omega) (by omega))
                  have hn90 : n ≤ 90 := by omega
                  have hxs : x + (n : Int) = -1022 := by omega
                  clear hn
                  go_wp2_with fail
                  refine (HSH.out 0).mono ?_
                  rintro e w2 ⟨⟨v, rfl⟩, l3, dp3, tr3, a1, a2, a3, a4, a5, a6⟩
                  have A1 := Lib.hid a1
                  have A3 := Lib.hid a3
                  have A4 := Lib.hid a4
                  clear a1 a2 a3 a4
                  go_wp2_with fail
                  go_meet
                  refine ⟨l3, dp3, tr3, 1, by go_num, by have := HN2.out; omega, ?_, A3.out, (bDrewN HB.out _).trans A4.out, by omega, by omega⟩
                  rw [show min f 2521 = 2521 by have := HN2.out; omega]
                  exact A1.out
              case rest =>
                clear i0 i1 i2 d0 d1 d2 d3 HS HD HB HG HCR hcell hlo hl8 hl1 hbr hci HXE hx hx1 hx2
                obtain ⟨l3, dp3, tr3, E1, rfl, hE1, hs, hd, hb, hdp3, hdp4⟩ := hcut
                have HS := Lib.hid hs
                have HD := Lib.hid hd
                have HB := Lib.hid hb
                have HG := Lib.hid hs.dg
                have HE1 := Lib.hid hE1
                obtain ⟨d0, d1, d2, d3⟩ := hd.tail
                obtain ⟨i0, i1, i2⟩ := HIN.out wc hb
                have hbr := hd.lt
                have hle1 : 1 ≤ E1 := by omega
                have hle2 : E1 ≤ 2100 := by omega
                have hE0 : (E1 : Int) - 1023 - -1023 = (E1 : Int) := by omega
                have hE0' : (E1 : Int) - 1023 + 1023 = (E1 : Int) := by omega
                clear hs hd hb hE1
                by_cases hov : 2047 ≤ E1
                · have hovi : (2047 : Int) ≤ (E1 : Int) := by omega
                  have HN3 := Lib.hid (HINF.out (by have := HE1.out; omega))
                  clear HINF HNEAR
                  go_wp2_with fail
                  repeat (go_quiet (fail); go_wp2_with fail)
                  go_step3
                  refine HGO.out 1 _ _ _ rfl ?_
                  go_wp2_with fail
                  go_quiet (fail)
                  go_wp2_with fail
                  try go_step3
                  go_wp2_with fail
                  try (go_quiet (fail); go_wp2_with fail)
                  try rw [Exit.noGoto_ret]
                  refine bodyPost_ret (v := .tuple #[.int .u64 9218868437227405312, .bool true]) (by simp [results, Tryz.results149, go_sem]) rfl ⟨INF, HN3.out, rfl, by first | exact HB.out | exact bDrewN HB.out _ | exact bDrewN (bDrewN HB.out _) _⟩
                · have hovn : ¬ (2047 : Int) ≤ (E1 : Int) := by omega
                  have HCR := Lib.hid (HC.out.below hKb HB.out)
                  have HSH := Lib.hid (show ∀ m : Nat, Calls Tryz.prog 131 #[.pointer (some ⟨b, 0, Option.none⟩), .int .i64 53] (wc.drewN m) (ShPost b (dvl 10 l3 * 2 ^ 53) (dp3 - l3.length) tr3 (wc.drewN m)) from fun m => shift_left b 53 K l3 _ tr3 (wc.drewN m) (HD.out.drewN m) HG.out (HCR.out.below hKb (bDrewN (Below.refl b wc) m)) hKb (by decide) (by decide) (by omega) (by omega))
                  go_wp2_with fail
                  repeat (go_quiet (fail); go_wp2_with fail)
                  refine (HSH.out _).mono ?_
                  rintro e w2 ⟨⟨v, rfl⟩, l4, dp4, tr4, a1, a2, a3⟩
                  have A1 := Lib.hid a1
                  have A2 := Lib.hid a2
                  have A3 := Lib.hid a3
                  have hdp5 : dp4 ≤ 310 := by
                    have := a1.dp_le (l3.length + 53) (by
                      rw [Nat.pow_add]
                      exact Nat.mul_lt_mul_of_lt_of_le HG.out.hi (Nat.pow_le_pow_left (by decide) 53) (Nat.pow_pos (by decide)))
                    omega
                  have hs4 := HS.out.left HZ.out 53 a1 hdp5
                  rw [show min f 2521 + 53 = fEnd f by unfold fEnd; split <;> omega] at hs4
                  obtain ⟨n1, n2, n3, n4⟩ := HNEAR.out l4 dp4 tr4 hs4 a1.last
                  have hs4lo := hs4.lo
                  have hlt20 := ip_dp a1.dg a1.last (dp := dp4) (by omega) (by omega)
                  have HRI := Lib.hid (fun m : Nat => rounded_any b l4 dp4 tr4 (w2.drewN m) (a2.drewN m) a1.dg.dig (by omega) hlt20 (by unfold BB at n2; omega))
                  obtain ⟨mm, hmm⟩ : ∃ mm, ipW l4 dp4 + (upR l4 dp4 tr4).toNat = mm := ⟨_, rfl⟩
                  rw [hmm] at n1 n2 n3 n4 HRI
                  have HN1 := Lib.hid n1
                  have HN3 := Lib.hid n3
                  have HN4 := Lib.hid n4
                  have hbel : Below b w w2 := by first | exact HB.out.trans a3 | exact (bDrewN HB.out _).trans a3
                  obtain ⟨i0, i1, i2⟩ := HIN.out w2 hbel
                  obtain ⟨d0, d1, d2, d3⟩ := a2.tail
                  have HBL := Lib.hid hbel
                  have hm2 : mm ≤ 9007199254740992 := n2
                  clear a1 a2 a3 hs4 n1 n2 n3 n4 hbel HSH
                  go_wp2_with fail
                  repeat (go_quiet (fail); go_wp2_with fail)
                  refine (HRI.out 0).mono ?_
                  rintro e w3 ⟨rfl, m3, rfl⟩
                  rw [World.drewN_zero]
                  clear HRI
                  by_cases hm9 : mm = 9007199254740992
                  · have hf25 : f ≤ 2521 := by
                      rcases Nat.lt_or_ge 2521 f with h | h
                      · have := HN4.out h; rw [hm9] at this; exact absurd this (by decide)
                      · exact h
                    subst hm9
                    have q1 : bits .and .u64 4503599627370496 4503599627370496 = 4503599627370496 := by decide +kernel
                    have q2 : bits .and .u64 4503599627370496 4503599627370495 = 0 := by decide +kernel
                    have hE2 : (E1 : Int) - 1023 + 1 - -1023 = ((E1 + 1 : Nat) : Int) := by omega
                    have hE2' : (E1 : Int) - 1023 + 1 + 1023 = ((E1 + 1 : Nat) : Int) := by omega
                    by_cases hov2 : 2046 ≤ E1
                    · have hN : Near XX Q INF := by
                        have h1 := HN1.out
                        have h2 := HE1.out
                        rw [Nat.min_eq_left (by unfold INF BB; omega)] at h1
                        exact h1
                      have HN5 := Lib.hid hN
                      have hovi : (2047 : Int) ≤ ((E1 + 1 : Nat) : Int) := by omega
                      clear hN
                      go_wp2_with fail
                      repeat (go_quiet (fail); go_wp2_with fail)
                      go_step3
                      refine HGO.out 1 _ _ _ rfl ?_
                      go_wp2_with fail
                      go_quiet (fail)
                      go_wp2_with fail
                      try go_step3
                      go_wp2_with fail
                      try (go_quiet (fail); go_wp2_with fail)
                      try rw [Exit.noGoto_ret]
                      refine bodyPost_ret (v := .tuple #[.int .u64 9218868437227405312, .bool true]) (by simp [results, Tryz.results149, go_sem]) rfl ⟨INF, HN5.out, rfl, by first | exact HBL.out | exact bDrewN HBL.out _ | exact bDrewN (bDrewN HBL.out _) _ | (simp only [World.drewN_drewN]; exact bDrewN HBL.out _)⟩
                    · obtain ⟨E2, hE2e⟩ : ∃ E2, E1 + 1 = E2 := ⟨_, rfl⟩
                      rw [hE2e] at hE2 hE2'
                      obtain ⟨r, hr⟩ : ∃ r, r = E2 * 4503599627370496 + 0 := ⟨_, rfl⟩
                      have hE2l : E2 < 2047 := by omega
                      have q3 := exp_is E2 (by omega)
                      have q4 : bits .or .u64 0 ((E2 : Int) * 4503599627370496) = (r : Int) := fb_bits 0 E2 r (by decide) hE2l hr
                      have hN : Near XX Q r ∧ r < 9218868437227405312 := by
                        have h1 := HN1.out
                        have h2 := HE1.out
                        have e : (2521 - f) * BB + 9007199254740992 = r := by unfold BB; rw [hr, ← hE2e, h2, show 2521 - f + 1 + 1 = (2521 - f) + 2 by omega, Nat.add_mul]
                        rw [e, Nat.min_eq_right (by unfold INF; omega)] at h1
                        exact ⟨h1, by omega⟩
                      have HN5 := Lib.hid hN.1
                      have HRL : Hid (decide (r = INF) = false) := Lib.hid (decide_eq_false (by have := hN.2; unfold INF; omega))
                      have hovi : ¬ (2047 : Int) ≤ (E2 : Int) := by omega
                      clear hN hr
                      go_wp2_with fail
                      repeat (go_quiet (fail); go_wp2_with fail)
                      go_step3
                      refine HGO.out 0 _ _ _ rfl ?_
                      go_wp2_with fail
                      try (go_quiet (fail); go_wp2_with fail)
                      try go_step3
                      go_wp2_with fail
                      try (go_quiet (fail); go_wp2_with fail)
                      try rw [Exit.noGoto_ret]
                      refine bodyPost_ret (v := .tuple #[.int .u64 r, .bool false]) (by simp [results, Tryz.results149, go_sem]) rfl ⟨r, HN5.out, by rw [HRL.out] <;> rfl, by first | exact HBL.out | exact bDrewN HBL.out _ | exact bDrewN (bDrewN HBL.out _) _ | (simp only [World.drewN_drewN]; exact bDrewN HBL.out _)⟩
                  · have hmn : ((mm : Int) == 9007199254740992) = false := by rw [beq_eq_false_iff_ne]; omega
                    have hml : mm < 9007199254740992 := by omega
                    have q1 := and52 mm hml
                    by_cases hge : 4503599627370496 ≤ mm
                    · have q2 := fb_hi mm hml hge
                      obtain ⟨fr, hfr⟩ : ∃ fr, mm % 4503599627370496 = fr := ⟨_, rfl⟩
                      rw [hfr] at q1
                      have hfl : fr < 4503599627370496 := by omega
                      obtain ⟨r, hr⟩ : ∃ r, r = E1 * 4503599627370496 + fr := ⟨_, rfl⟩
                      have q3 := exp_is E1 (by omega)
                      have q4 := fb_bits fr E1 r hfl (by omega) hr
                      have hN : Near XX Q r ∧ r < 9218868437227405312 := by
                        have h1 := HN1.out
                        have h2 := HE1.out
                        have e : (2521 - f) * BB + mm = r := by unfold BB; rw [hr, h2, Nat.add_mul]; omega
                        rw [e, Nat.min_eq_right (by unfold INF; omega)] at h1
                        exact ⟨h1, by omega⟩
                      have HN5 := Lib.hid hN.1
                      have HRL : Hid (decide (r = INF) = false) := Lib.hid (decide_eq_false (by have := hN.2; unfold INF; omega))
                      clear hN hr hfr
                      go_wp2_with fail
                      repeat (go_quiet (fail); go_wp2_with fail)
                      go_step3
                      refine HGO.out 0 _ _ _ rfl ?_
                      go_wp2_with fail
                      try (go_quiet (fail); go_wp2_with fail)
                      try go_step3
                      go_wp2_with fail
                      try (go_quiet (fail); go_wp2_with fail)
                      try rw [Exit.noGoto_ret]
                      refine bodyPost_ret (v := .tuple #[.int .u64 r, .bool false]) (by simp [results, Tryz.results149, go_sem]) rfl ⟨r, HN5.out, by rw [HRL.out] <;> rfl, by first | exact HBL.out | exact bDrewN HBL.out _ | exact bDrewN (bDrewN HBL.out _) _ | (simp only [World.drewN_drewN]; exact bDrewN HBL.out _)⟩
                    · have q2 := fb_lo mm (by omega)
                      rw [Nat.mod_eq_of_lt (by omega)] at q1
                      have q4 := fb_bits mm 0 mm (by omega) (by decide) (by omega)
                      have q5 : bits .or .u64 (mm : Int) 0 = (mm : Int) := q4
                      have hN : Near XX Q mm ∧ mm < 9218868437227405312 := by
                        have h1 := HN1.out
                        have h2 : 2521 < f := by
                          rcases Nat.lt_or_ge 2521 f with h | h
                          · exact h
                          · have := HN3.out h; unfold BB at this; omega
                        rw [show 2521 - f = 0 by omega, Nat.zero_mul, Nat.zero_add, Nat.min_eq_right (by unfold INF; omega)] at h1
                        exact ⟨h1, by omega⟩
                      have HN5 := Lib.hid hN.1
                      have HRL : Hid (decide (mm = INF) = false) := Lib.hid (decide_eq_false (by have := hN.2; unfold INF; omega))
                      clear hN
                      go_wp2_with fail
                      repeat (go_quiet (fail); go_wp2_with fail)
                      go_step3
                      refine HGO.out 0 _ _ _ rfl ?_
                      go_wp2_with fail
                      try (go_quiet (fail); go_wp2_with fail)
                      try go_step3
                      go_wp2_with fail
                      try (go_quiet (fail); go_wp2_with fail)
                      try rw [Exit.noGoto_ret]
                      refine bodyPost_ret (v := .tuple #[.int .u64 mm, .bool false]) (by simp [results, Tryz.results149, go_sem]) rfl ⟨mm, HN5.out, by rw [HRL.out] <;> rfl, by first | exact HBL.out | exact bDrewN HBL.out _ | exact bDrewN (bDrewN HBL.out _) _ | (simp only [World.drewN_drewN]; exact bDrewN HBL.out _)⟩
end Go.Proofs.YtmhagigokgklaaaGreatDoor
