/- Joined texts: Pk Qi Qd Qe Qf Qj Qk Jr. Each begins with its own remark. -/
import Derived.Test.YtckaoeloofbklaaGreatDoorZn
import Derived.Test.YtckaoeloofbklaaGreatDoorZm
import Derived.LaidEqlPtr
import Derived.Deep.CutBlock
import Derived.Deep.DeepCutAuto

/- num.Parse of decimal texts of at most 19 digits; what is refused, and what is no number. -/
namespace Go.Proofs.YtckaoeloofbklaaGreatDoor
open Go Go.RowKit Go.Sort Go.Lib

/-- l (with bars) is digits D times ten to the power p -/
def DecIs (l D : List UInt8) (p : Int) : Prop := ∃ W F dot M, MantF M W F dot ∧ W ++ F ≠ [] ∧ D = W ++ F ∧
  ((noBars l = M ∧ p = -(F.length : Int)) ∨ ∃ eb sg X, PowF (powT eb sg X) eb sg X ∧ X ≠ [] ∧ noBars l = M ++ powT eb sg X ∧ p = (exF X : Int) * sgZ sg - F.length)

/-- few digits are held whole -/
theorem rf_small (M W F : List UInt8) (dot : Bool) (h : MantF M W F dot) (h19 : (dropZ (W ++ F)).length ≤ 19) (x : Int) :
    (rfF 10 19 M).mant = dvl 10 (W ++ F) ∧ (rfF 10 19 M).tr = false ∧ (rfF 10 19 M).mant < 10 ^ 19 ∧ ((rfF 10 19 M).mant ≠ 0 → rfExp (rfF 10 19 M) x = x - F.length) := by
  obtain ⟨i, hd, he, _, _⟩ := rf_mant 10 19 M W F dot h.eq (fun x hx => dig_ne46 (h.w x hx)) (fun x hx => dig_ne46 (h.f x hx)) h.nodot
  have hall : ∀ x ∈ W ++ F, isDig x := fun x hx => (List.mem_append.1 hx).elim (h.w x) (h.f x)
  have hm : (rfF 10 19 M).mant = dvl 10 (dropZ (W ++ F)) := by rw [i.mant, List.take_of_length_le h19]
  refine ⟨by rw [hm, dvl_dropZ], by rw [i.tr, List.drop_eq_nil_of_le h19]; rfl, ?_, ?_⟩
  · rw [hm]
    refine Nat.lt_of_lt_of_le (dvl_lt 10 (by decide) _ fun x hx => okD_dv (by decide) (.inl (hall x ((List.dropWhile_sublist _).subset hx)))) (Nat.pow_le_pow_right (by decide) h19)
  · intro h0
    unfold rfExp
    rw [if_neg h0]
    have h1 := i.nd
    have h2 := i.nm
    omega

theorem ba_of (l : List UInt8) : (⟨l.toArray⟩ : ByteArray).data.toList = l := rfl
theorem ba_first (M R : List UInt8) (W F : List UInt8) (dot : Bool) (h : MantF M W F dot) (hne : W ++ F ≠ []) : ∃ h0 : 0 < (⟨(M ++ R).toArray⟩ : ByteArray).size, (⟨(M ++ R).toArray⟩ : ByteArray)[0].toNat = 46 ∨ (48 ≤ (⟨(M ++ R).toArray⟩ : ByteArray)[0].toNat ∧ (⟨(M ++ R).toArray⟩ : ByteArray)[0].toNat ≤ 57) := by
  have hmem := mant_mem 10 M W F dot h.eq (fun x hx => .inl (h.w x hx)) (fun x hx => .inl (h.f x hx))
  cases M with
  | nil =>
    exfalso
    have := h.eq
    unfold mantT at this
    cases W with
    | cons x t => simp at this
    | nil =>
      cases dot with
      | true => simp at this
      | false => rw [h.nodot rfl] at hne; simp at hne
  | cons x t =>
    have h0 : 0 < (⟨(x :: t ++ R).toArray⟩ : ByteArray).size := by rw [ba_size]; simp
    refine ⟨h0, ?_⟩
    have hx : (⟨(x :: t ++ R).toArray⟩ : ByteArray)[0] = x := rfl
    rw [hx]
    rcases hmem x (by simp) with h1 | h1 | h1
    · left; rw [h1]; rfl
    · exact .inr h1
    · exact absurd h1.1 (by decide)

/-- at nought the power does not matter -/
theorem near_pow {d : Nat} {p q : Int} {r : Nat} (h : Near (dX d p) (dQ p) r) (he : d ≠ 0 → p = q) : Near (dX d q) (dQ q) r := by
  by_cases h0 : d = 0
  · subst h0
    obtain rfl := near_unique h (zero_near p)
    exact zero_near q
  · rw [← he h0]; exact h

theorem noBars_len (l : List UInt8) : (noBars l).length ≤ l.length := List.length_filter_le _ _

theorem pfloat_small (l D : List UInt8) (p : Int) (K : Nat) (w : World) (hG : Globs w) (hT : GlobT K w) (hl : l.length ≤ 1000) (hi : DecIs l D p) (h19 : (dropZ D).length ≤ 19) :
    Calls Tryz.prog 122 #[.string ⟨(noBars l).toArray⟩, .int .i64 64] w (PlPost (dX (dvl 10 D) p) (dQ p) w) := by
  obtain ⟨W, F, dot, M, hM, hne, rfl, hx⟩ := hi
  have hnl := noBars_len l
  refine pfloat_of _ _ _ K w hT (by rw [ba_size]; omega) ?_
  rcases hx with ⟨h1, rfl⟩ | ⟨eb, sg, X, hp, hX, h1, rfl⟩
  · rw [h1] at hnl ⊢
    obtain ⟨e1, e2, e3, e4⟩ := rf_small M W F dot hM h19 0
    have hz := ba_first M [] W F dot hM hne
    rw [List.append_nil] at hz
    obtain ⟨h0, hb⟩ := hz
    have hrf := rf_plain ⟨M.toArray⟩ w (by rw [ba_size]; omega) W F dot (by rw [ba_of]; exact hM) hne
    rw [ba_of, e2] at hrf
    have := atof_dec ⟨M.toArray⟩ _ K _ w hG.glob hT h0 (by rw [ba_size]; omega) hb e3 hrf
    refine this.mono ?_
    rintro e w' ⟨r, hn, he, hb⟩
    refine ⟨r, ?_, he, hb⟩
    rw [e1] at hn e4
    exact near_pow hn fun h => by rw [e4 h, Int.zero_sub]
  · rw [h1] at hnl ⊢
    obtain ⟨e1, e2, e3, e4⟩ := rf_small M W F dot hM h19 ((exF X : Int) * sgZ sg)
    obtain ⟨h0, hb⟩ := ba_first M (powT eb sg X) W F dot hM hne
    have hrf := rf_pow ⟨(M ++ powT eb sg X).toArray⟩ w (by rw [ba_size]; omega) M W F dot eb sg X hM hne hp hX (ba_of _)
    rw [e2] at hrf
    have := atof_dec ⟨(M ++ powT eb sg X).toArray⟩ _ K _ w hG.glob hT h0 (by rw [ba_size]; omega) hb e3 hrf
    refine this.mono ?_
    rintro e w' ⟨r, hn, he, hb⟩
    refine ⟨r, ?_, he, hb⟩
    rw [e1] at hn e4
    exact near_pow hn fun h => e4 h

theorem parse_small (s : ByteArray) (neg : Bool) (l D : List UInt8) (p : Int) (K : Nat) (w : World) (hG : Globs w) (hT : GlobT K w) (hs : s.data.toList = sgB neg ++ l) (hlen : s.size ≤ 400) (hd : decB l = true) (hi : DecIs l D p) (h19 : (dropZ D).length ≤ 19) :
    Calls Tryz.prog 121 #[.string s] w (PaPost (dX (dvl 10 D) p) (dQ p) neg w) := by
  have hll : l.length ≤ 400 := by
    have : s.size = s.data.toList.length := by simp
    rw [hs, List.length_append] at this
    omega
  exact parse_dec s neg l _ _ K w hG hT hs hlen hd fun W hg ht => pfloat_small l D p K W hg ht (by omega) hi h19

set_option maxRecDepth 100000 in
set_option maxHeartbeats 4000000 in
theorem parse_nan (s : ByteArray) (neg : Bool) (w : World) (hs : s.data.toList = sgB neg ++ [78, 97, 78]) :
    Calls Tryz.prog 121 #[.string s] w fun e w' => e = .returned (.tuple #[.int .u64 9221120237041090560, .int .i64 0]) ∧ Below w.heap.size w w' := by
  have hsz : s.size ≤ 4 := by
    have : s.size = s.data.toList.length := by simp
    rw [this, hs]; cases neg <;> decide
  have HCP := Lib.hid (cutp_run s neg _ w hs (fun _ => by decide))
  have h400 : decide ((400 : Int) < (s.size : Int)) = false := by rw [decide_eq_false_iff_not]; omega
  clear hs
  go_enter Tryz.func121, Tryz.ntmps121
  go_wp2_with fail
  refine HCP.out.mono ?_
  rintro e w ⟨rfl, rfl⟩
  go_wp2_with fail
  refine bodyPost_ret (v := .tuple #[.int .u64 9221120237041090560, .int .i64 0]) (by simp [results, Tryz.results121, go_sem]) rfl ⟨rfl, Below.refl _ _⟩

theorem run_inf (w : World) : Calls Tryz.prog 159 #[.int .i64 1] w fun e w' => e = .returned (.float .f64 9218868437227405312) ∧ w' = w := by
  have hf : ∀ W : World, (callFunc 96 #[.int .u64 9218868437227405312]).run Tryz.prog W = .ok (.value (.float .f64 9218868437227405312)) W := run_mfrom 9218868437227405312
  go_enter Tryz.func159, Tryz.ntmps159
  go_wp2_with fail
  go_ret
  exact ⟨rfl, rfl⟩

set_option maxRecDepth 100000 in
set_option maxHeartbeats 4000000 in
theorem parse_inf (s : ByteArray) (neg : Bool) (w : World) (hs : s.data.toList = sgB neg ++ [73, 110, 102, 105, 110, 105, 116, 121]) :
    Calls Tryz.prog 121 #[.string s] w fun e w' => e = .returned (.tuple #[.int .u64 (9218868437227405312 + sgW neg : Nat), .int .i64 0]) ∧ Below w.heap.size w w' := by
  have hsz : s.size ≤ 9 := by
    have : s.size = s.data.toList.length := by simp
    rw [this, hs]; cases neg <;> decide
  have HCP := Lib.hid (cutp_run s neg _ w hs (fun _ => by decide))
  have HIN := Lib.hid run_inf
  have HCS : Hid (∀ W : World, Calls Tryz.prog 163 #[.float .f64 9218868437227405312, .float .f64 13830554455654793216] W fun e w' => e = .returned (.float .f64 18442240474082181120) ∧ w' = W) := Lib.hid fun W => run_copysign 9218868437227405312 W (by decide)
  have hmb : ∀ W : World, (callFunc 124 #[.float .f64 9218868437227405312]).run Tryz.prog W = .ok (.value (.int .u64 9218868437227405312)) W := run_mbits 9218868437227405312
  have hmb2 : ∀ W : World, (callFunc 124 #[.float .f64 18442240474082181120]).run Tryz.prog W = .ok (.value (.int .u64 18442240474082181120)) W := run_mbits 18442240474082181120
  have h400 : decide ((400 : Int) < (s.size : Int)) = false := by rw [decide_eq_false_iff_not]; omega
  clear hs
  cases neg
  · go_enter Tryz.func121, Tryz.ntmps121
    go_wp2_with fail
    refine HCP.out.mono ?_
    rintro e w ⟨rfl, rfl⟩
    go_wp2_with fail
    refine (HIN.out _).mono ?_
    rintro e w ⟨rfl, rfl⟩
    go_wp2_with fail
    refine bodyPost_ret (v := .tuple #[.int .u64 9218868437227405312, .int .i64 0]) (by simp [results, Tryz.results121, go_sem]) rfl ⟨rfl, Below.refl _ _⟩
  · go_enter Tryz.func121, Tryz.ntmps121
    go_wp2_with fail
    refine HCP.out.mono ?_
    rintro e w ⟨rfl, rfl⟩
    go_wp2_with fail
    refine (HIN.out _).mono ?_
    rintro e w ⟨rfl, rfl⟩
    go_wp2_with fail
    refine (HCS.out _).mono ?_
    rintro e w ⟨rfl, rfl⟩
    go_wp2_with fail
    refine bodyPost_ret (v := .tuple #[.int .u64 18442240474082181120, .int .i64 0]) (by simp [results, Tryz.results121, go_sem]) rfl ⟨rfl, Below.refl _ _⟩
end Go.Proofs.YtckaoeloofbklaaGreatDoor

/- num.Parse of texts whose digits behind the 19th are noughts. -/
namespace Go.Proofs.YtckaoeloofbklaaGreatDoor
open Go Go.RowKit Go.Sort Go.Lib

theorem dvl_nought (b : Nat) (l : List UInt8) (h : ∀ x ∈ l, x = 48) : dvl b l = 0 := by
  rw [List.eq_replicate_of_mem h]
  exact dvl_zeros b _

theorem rf_noughts (M W F : List UInt8) (dot : Bool) (h : MantF M W F dot) (hz : ∀ x ∈ (dropZ (W ++ F)).drop 19, x = 48) (x : Int) :
    ∃ k : Nat, dvl 10 (W ++ F) = (rfF 10 19 M).mant * 10 ^ k ∧ (rfF 10 19 M).tr = false ∧ (rfF 10 19 M).mant < 10 ^ 19 ∧ ((rfF 10 19 M).mant ≠ 0 → rfExp (rfF 10 19 M) x = x - F.length + k) := by
  obtain ⟨i, hd, he, _, _⟩ := rf_mant 10 19 M W F dot h.eq (fun x hx => dig_ne46 (h.w x hx)) (fun x hx => dig_ne46 (h.f x hx)) h.nodot
  have hall : ∀ x ∈ W ++ F, isDig x := fun x hx => (List.mem_append.1 hx).elim (h.w x) (h.f x)
  refine ⟨((dropZ (W ++ F)).drop 19).length, ?_, ?_, ?_, ?_⟩
  · rw [i.mant, ← dvl_dropZ 10 (W ++ F)]
    conv => lhs; rw [← List.take_append_drop 19 (dropZ (W ++ F)), dvl_app, dvl_nought 10 _ hz, Nat.add_zero]
  · rw [i.tr, List.any_eq_false]
    intro x hx
    rw [hz x hx]; decide
  · rw [i.mant]
    refine Nat.lt_of_lt_of_le (dvl_lt 10 (by decide) _ fun x hx => okD_dv (by decide) (.inl (hall x ((List.dropWhile_sublist _).subset (List.mem_of_mem_take hx))))) (Nat.pow_le_pow_right (by decide) ?_)
    rw [List.length_take]; exact Nat.min_le_left _ _
  · intro h0
    unfold rfExp
    rw [if_neg h0]
    have h1 := i.nd
    have h2 := i.nm
    rw [List.length_drop]
    omega

theorem near_pow2 {d k : Nat} {p q : Int} {r : Nat} (h : Near (dX d p) (dQ p) r) (he : d ≠ 0 → p = q + k) : Near (dX (d * 10 ^ k) q) (dQ q) r := by
  by_cases h0 : d = 0
  · subst h0
    rw [Nat.zero_mul]
    obtain rfl := near_unique h (zero_near p)
    exact zero_near q
  · rw [he h0] at h; exact near_down d k r q h

theorem pfloat_noughts (l D : List UInt8) (p : Int) (K : Nat) (w : World) (hG : Globs w) (hT : GlobT K w) (hl : l.length ≤ 1000) (hi : DecIs l D p) (hz : ∀ x ∈ (dropZ D).drop 19, x = 48) :
    Calls Tryz.prog 122 #[.string ⟨(noBars l).toArray⟩, .int .i64 64] w (PlPost (dX (dvl 10 D) p) (dQ p) w) := by
  obtain ⟨W, F, dot, M, hM, hne, rfl, hx⟩ := hi
  have hnl := noBars_len l
  refine pfloat_of _ _ _ K w hT (by rw [ba_size]; omega) ?_
  rcases hx with ⟨h1, rfl⟩ | ⟨eb, sg, X, hp, hX, h1, rfl⟩
  · rw [h1] at hnl ⊢
    obtain ⟨k, e1, e2, e3, e4⟩ := rf_noughts M W F dot hM hz 0
    have hz := ba_first M [] W F dot hM hne
    rw [List.append_nil] at hz
    obtain ⟨h0, hb⟩ := hz
    have hrf := rf_plain ⟨M.toArray⟩ w (by rw [ba_size]; omega) W F dot (by rw [ba_of]; exact hM) hne
    rw [ba_of, e2] at hrf
    have := atof_dec ⟨M.toArray⟩ _ K _ w hG.glob hT h0 (by rw [ba_size]; omega) hb e3 hrf
    refine this.mono ?_
    rintro e w' ⟨r, hn, he, hb⟩
    refine ⟨r, ?_, he, hb⟩
    rw [e1]
    exact near_pow2 hn fun h => by rw [e4 h, Int.zero_sub]
  · rw [h1] at hnl ⊢
    obtain ⟨k, e1, e2, e3, e4⟩ := rf_noughts M W F dot hM hz ((exF X : Int) * sgZ sg)
    obtain ⟨h0, hb⟩ := ba_first M (powT eb sg X) W F dot hM hne
    have hrf := rf_pow ⟨(M ++ powT eb sg X).toArray⟩ w (by rw [ba_size]; omega) M W F dot eb sg X hM hne hp hX (ba_of _)
    rw [e2] at hrf
    have := atof_dec ⟨(M ++ powT eb sg X).toArray⟩ _ K _ w hG.glob hT h0 (by rw [ba_size]; omega) hb e3 hrf
    refine this.mono ?_
    rintro e w' ⟨r, hn, he, hb⟩
    refine ⟨r, ?_, he, hb⟩
    rw [e1]
    exact near_pow2 hn fun h => e4 h

theorem parse_noughts (s : ByteArray) (neg : Bool) (l D : List UInt8) (p : Int) (K : Nat) (w : World) (hG : Globs w) (hT : GlobT K w) (hs : s.data.toList = sgB neg ++ l) (hlen : s.size ≤ 400) (hd : decB l = true) (hi : DecIs l D p) (hz : ∀ x ∈ (dropZ D).drop 19, x = 48) :
    Calls Tryz.prog 121 #[.string s] w (PaPost (dX (dvl 10 D) p) (dQ p) neg w) := by
  have hll : l.length ≤ 400 := by
    have : s.size = s.data.toList.length := by simp
    rw [hs, List.length_append] at this
    omega
  exact parse_dec s neg l _ _ K w hG hT hs hlen hd fun W hg ht => pfloat_noughts l D p K W hg ht (by omega) hi hz
end Go.Proofs.YtckaoeloofbklaaGreatDoor

/- The shortest digits of a number that is no power of two: they are read as it, and none that are fewer (plain). -/
namespace Go.Proofs.YtckaoeloofbklaaGreatDoor
open Go Go.RowKit Go.Lib
set_option exponentiation.threshold 3000

theorem nd_le : ∀ (k u : Nat), u < 10 ^ (k + 1) → nDigits u ≤ k + 1
  | 0, u, h => by rw [nDigits_small (by simpa using h)]; exact Nat.le_refl _
  | k + 1, u, h => by
    by_cases h2 : u < 10
    · rw [nDigits_small h2]; omega
    · rw [nDigits_big h2]
      have := nd_le k (u / 10) (by rw [Nat.div_lt_iff_lt_mul (by decide), ← Nat.pow_succ]; exact h)
      omega
theorem nd_ten (x : Nat) (h : 1 ≤ x) : nDigits (x * 10) = nDigits x + 1 := by
  rw [nDigits_big (by omega), Nat.mul_div_cancel _ (by decide)]
theorem nd_tens (x : Nat) (h : 1 ≤ x) : ∀ k, nDigits (x * 10 ^ k) = nDigits x + k
  | 0 => by rw [Nat.pow_zero, Nat.mul_one]; rfl
  | k + 1 => by
    rw [Nat.pow_succ, ← Nat.mul_assoc, nd_ten _ (Nat.mul_pos h (Nat.pow_pos (by decide))), nd_tens x h k]; omega

theorem sig_ten (d : Nat) (h : 1 ≤ d) : sig (d * 10) = sig d := by
  unfold sig
  have e : decDigits (d * 10) = decDigits d ++ [48] := by
    rw [decDigits, dif_neg (by omega), Nat.mul_div_cancel _ (by decide), Nat.mul_mod_left]; rfl
  rw [e]
  unfold trimZ
  rw [List.reverse_append]
  rfl
theorem sig_tens (d : Nat) (h : 1 ≤ d) : ∀ k, sig (d * 10 ^ k) = sig d
  | 0 => by rw [Nat.pow_zero, Nat.mul_one]
  | k + 1 => by rw [Nat.pow_succ, ← Nat.mul_assoc, sig_ten _ (Nat.mul_pos h (Nat.pow_pos (by decide))), sig_tens d h k]
theorem mid_le (n G f r u hA : Nat) (hn : n = G * f + r) (hu : u = f + (if 2 * r < G then 0 else if 2 * r = G then f % 2 else 1)) (hr : r < G) (hw : G ≤ 2 * hA) :
    (n - hA ≤ u * G ∧ u * G ≤ n + hA) ∧ ((G < 2 * hA ∨ r = 0) → 0 < hA → hA ≤ n → n - hA < u * G ∧ u * G < n + hA) := by
  subst hn hu
  split
  · rw [Nat.add_zero, Nat.mul_comm]
    generalize G * f = t
    omega
  · split
    · rcases Nat.mod_two_eq_zero_or_one f with h | h <;> rw [h]
      · rw [Nat.add_zero, Nat.mul_comm]
        generalize G * f = t
        omega
      · rw [Nat.add_mul, Nat.one_mul, Nat.mul_comm f]
        generalize G * f = t
        omega
    · rw [Nat.add_mul, Nat.one_mul, Nat.mul_comm f]
      generalize G * f = t
      omega

/-- a number times a power of ten, as two whole numbers -/
def NU (a : Nat) (j : Int) : Nat := V a * 10 ^ j.toNat
def DE (j : Int) : Nat := 2 ^ 1074 * 10 ^ (-j).toNat
theorem DE_pos (j : Int) : 0 < DE j := Nat.mul_pos (Nat.two_pow_pos _) (Nat.pow_pos (by decide))
theorem ratio_div {X D n G : Nat} (hD : 0 < D) (hG : 0 < G) (h : X * G = n * D) : X / D = n / G ∧ upG X D = upG n G := by
  have hf : X / D = n / G := by
    have h1 := Nat.div_add_mod n G
    have h2 := Nat.mod_lt n hG
    rw [Nat.div_eq_iff hD]
    constructor
    · refine Nat.le_of_mul_le_mul_right ?_ hG
      rw [h, Nat.mul_right_comm]
      exact Nat.mul_le_mul_right _ (Nat.div_mul_le_self n G)
    · refine Nat.le_sub_one_of_lt (Nat.lt_of_mul_lt_mul_right (a := G) ?_)
      rw [h, show (n / G * D + D) * G = (n / G * G + G) * D from by rw [Nat.add_mul, Nat.add_mul]; congr 1 <;> ac_rfl]
      refine (Nat.mul_lt_mul_right hD).2 ?_
      rw [Nat.mul_comm (n / G)]
      omega
  have hr : X % D * G = n % G * D := by
    have h1 := Nat.div_add_mod n G
    have h2 := Nat.div_add_mod X D
    rw [hf] at h2
    have e1 : (D * (n / G) + X % D) * G = (G * (n / G) + n % G) * D := by rw [h2, h1, h]
    rw [Nat.add_mul, Nat.add_mul, show D * (n / G) * G = G * (n / G) * D from by ac_rfl] at e1
    omega
  refine ⟨hf, ?_⟩
  have c1 : 2 * (X % D) < D ↔ 2 * (n % G) < G := by
    rw [← Nat.mul_lt_mul_right hG, Nat.mul_assoc, hr, ← Nat.mul_lt_mul_right (b := 2 * (n % G)) hD, Nat.mul_assoc, Nat.mul_comm G D]
  have c2 : 2 * (X % D) = D ↔ 2 * (n % G) = G := by
    rw [← Nat.mul_left_inj (Nat.ne_of_gt hG), Nat.mul_assoc, hr, ← Nat.mul_left_inj (a := D) (b := 2 * (n % G)) (Nat.ne_of_gt hD), Nat.mul_assoc, Nat.mul_comm G D]
  unfold upG
  rw [hf]
  simp only [c1, c2]
theorem top_small : ∀ a, a < 16 → 0 < a → MN a ≠ 9223372036854775808 → 10 * DE (ppN false (EN a)) ≤ NU a (ppN false (EN a)) := by decide +kernel
theorem ulp_room (a : Nat) (h : 16 ≤ a) : 10 * (V (a + 1) - V a) ≤ V a := by
  obtain ⟨E, m, rfl, h2, h3⟩ := V_parts a
  rw [V_succ E m h2 h3, V_at E m (Nat.le_of_lt h2) h3, ← Nat.sub_mul, ← Nat.mul_assoc]
  refine Nat.mul_le_mul_right _ ?_
  rcases h3 with h3 | h3
  · subst h3; omega
  · unfold BB at h3; omega

/-- the three scaled numbers of a number that is no power of two -/
structure ShIs (a : Nat) (p : Int) (dmin dmax u : Nat) : Prop where
  form : shN a = pick3 dmin dmax u p
  isin : ∀ d, Near (dX d (-p)) (dQ (-p)) a ↔ dmin ≤ d ∧ d ≤ dmax
  lo : dmin ≤ u
  hi : u ≤ dmax
  one : 1 ≤ dmin
  wide : dmax ≤ dmin + 9
  mid : u = NU a p / DE p + upG (NU a p) (DE p)
  top : 10 * DE p ≤ NU a p
  small : NU a p / DE p < 1152921504606846976

theorem sh_is (a : Nat) (h1 : 0 < a) (h2 : a < 9218868437227405312) (hm : MN a ≠ 9223372036854775808) : ∃ p dmin dmax u, ShIs a p dmin dmax u := by
  obtain ⟨m1, m2, m3, m4, m5⟩ := me_ok a h1 h2
  obtain ⟨vv0, vv1, v2, vpar⟩ := me_val a h1 h2
  obtain ⟨v3, _⟩ := v2 hm
  obtain ⟨hz1, hz2⟩ := zN_ge (EN a) m4
  obtain ⟨t1, t2, t3⟩ := top_room (MN a) (zN (EN a)) hz1 hz2 m2 m3
  have ok := (exp_ok (EN a) m4 m5).1
  simp only [expOK, Bool.and_eq_true, decide_eq_true_eq] at ok
  obtain ⟨⟨⟨o1, o2⟩, o3⟩, o4⟩ := ok
  obtain ⟨w1, w2⟩ := wid (EN a) m4 m5
  have hin := in_iff a h1 h2 hm (ppN false (EN a)) o3
  have e1 : 2 ^ zN (EN a) = 2 * 2 ^ (zN (EN a) - 1) := by rw [← Nat.pow_succ', show (zN (EN a) - 1).succ = zN (EN a) from by omega]
  have e2 : 2 ^ (zN (EN a) - 1) = 1024 * 2 ^ (zN (EN a) - 11) := by
    rw [show (1024 : Nat) = 2 ^ 10 from rfl, ← Nat.pow_add]; congr 1; omega
  have e3 : 9223372036854775808 = 2 ^ zN (EN a) * 2 ^ (63 - zN (EN a)) := by
    rw [← Nat.pow_add, show zN (EN a) + (63 - zN (EN a)) = 63 by omega]
  obtain ⟨c, hc⟩ : ∃ c, MN a = 2 ^ zN (EN a) * c := ⟨MN a / 2 ^ zN (EN a), by have := Nat.div_add_mod (MN a) (2 ^ zN (EN a)); omega⟩
  -- above the least power of two by a whole place
  have hge : 9223372036854775808 + 2 ^ zN (EN a) ≤ MN a := by
    rw [hc] at m1 hm ⊢
    rw [e3] at m1 hm ⊢
    rw [← Nat.mul_succ]
    refine Nat.mul_le_mul_left _ ?_
    have g1 := Nat.le_of_mul_le_mul_left m1 (Nat.two_pow_pos _)
    have g2 : c ≠ 2 ^ (63 - zN (EN a)) := fun h => hm (by rw [h])
    omega
  have hsk : skewB (MN a) (EN a) = false := by unfold skewB; rw [decide_eq_false hm]; rfl
  have hform : shN a = pick3 ((usN (ppN false (EN a)) (EN a) (MN a - 2 ^ (zN (EN a) - 1)) + a % 2 + 3) / 4) ((usN (ppN false (EN a)) (EN a) (MN a + 2 ^ (zN (EN a) - 1)) - a % 2) / 4)
      ((usN (ppN false (EN a)) (EN a) (MN a) + 1 + usN (ppN false (EN a)) (EN a) (MN a) / 4 % 2) / 4) (ppN false (EN a)) := by
    unfold shN shortN
    rw [hsk]
    simp only [Bool.false_eq_true, if_false]
    rw [vpar]
  have hG := GN_pos (ppN false (EN a)) (EN a)
  have hA := AN_pos (ppN false (EN a))
  have hNU : NU a (ppN false (EN a)) * GN (ppN false (EN a)) (EN a) = MN a * AN (ppN false (EN a)) * DE (ppN false (EN a)) := by
    obtain ⟨s1, s2⟩ := sc_eq (ppN false (EN a)) (EN a) o3 (by omega) (MN a) 1
    rw [← vv0] at s1
    rw [Nat.one_mul, Nat.one_mul] at s2
    unfold NU DE
    have d1 : dQ (-(ppN false (EN a))) = 10 ^ (ppN false (EN a)).toNat := by unfold dQ; rw [Int.neg_neg]
    have d2 : dQ (ppN false (EN a)) = 10 ^ (-(ppN false (EN a))).toNat := rfl
    rw [d1] at s1
    rw [d2] at s2
    have hT := Nat.two_pow_pos (EN a + 1138).toNat
    rw [show (2 : Nat) ^ 1138 = 2 ^ 1074 * 2 ^ 64 from by rw [← Nat.pow_add]] at s2
    generalize 2 ^ (EN a + 1138).toNat = T at *
    generalize 2 ^ (127 - lpN (ppN false (EN a))).toNat = K at *
    generalize 10 ^ (ppN false (EN a)).toNat = P at *
    generalize 10 ^ (-(ppN false (EN a))).toNat = P' at *
    generalize GN (ppN false (EN a)) (EN a) = G at *
    generalize AN (ppN false (EN a)) = A at *
    generalize 2 ^ 1074 = W at *
    generalize 2 ^ 64 = Z at *
    refine Nat.eq_of_mul_eq_mul_right hT ?_
    rw [Nat.mul_assoc (V a * P), ← s2, show V a * P * (P' * (W * Z) * K) = P * (V a * Z) * K * (W * P') from by ac_rfl, s1]
    ac_rfl
  have htop : 10 * DE (ppN false (EN a)) ≤ NU a (ppN false (EN a)) := by
    by_cases h16 : a < 16
    · exact top_small a h16 h1 hm
    · have hr := ulp_room a (by omega)
      have hd : (V (a + 1) - V a) * 2 ^ 64 = 2 ^ zN (EN a) * 2 ^ (EN a + 1138).toNat := by
        rw [Nat.sub_mul, vv1, vv0, ← Nat.sub_mul, Nat.add_sub_cancel_left]
      have h10 : 10 * 2 ^ zN (EN a) ≤ MN a := by
        refine Nat.le_of_mul_le_mul_right ?_ (Nat.two_pow_pos (EN a + 1138).toNat)
        rw [Nat.mul_assoc, ← hd, ← vv0, ← Nat.mul_assoc]
        exact Nat.mul_le_mul_right _ hr
      refine Nat.le_of_mul_le_mul_right ?_ hG
      rw [hNU, Nat.mul_right_comm]
      refine Nat.mul_le_mul_right _ ?_
      refine Nat.le_trans (Nat.mul_le_mul_left 10 w1) ?_
      rw [← Nat.mul_assoc]
      exact Nat.mul_le_mul_right _ h10
  have hus := (us_bounds (ppN false (EN a)) (EN a) (MN a) (by omega) (by omega) o3 o4 m2).1
  clear vv0 vv1
  have u1 := us_exact (ppN false (EN a)) (EN a) (by omega) (by omega) o3
  generalize GN (ppN false (EN a)) (EN a) = G at *
  generalize AN (ppN false (EN a)) = A at *
  generalize ppN false (EN a) = p at *
  rw [e1] at w1 w2
  have x1 : usN p (EN a) (MN a - 2 ^ (zN (EN a) - 1)) = unr ((MN a - 2 ^ (zN (EN a) - 1)) * A) G := by
    obtain ⟨z, hz⟩ : ∃ z, MN a - 2 ^ (zN (EN a) - 1) = 512 * z := ⟨(MN a - 2 ^ (zN (EN a) - 1)) / 512, by rw [hc, e1, e2]; rw [show 2 * (1024 * 2 ^ (zN (EN a) - 11)) * c = 1024 * (2 * 2 ^ (zN (EN a) - 11) * c) from by ac_rfl]; omega⟩
    rw [hz]
    exact u1 z (by omega) (by omega)
  have x2 : usN p (EN a) (MN a + 2 ^ (zN (EN a) - 1)) = unr ((MN a + 2 ^ (zN (EN a) - 1)) * A) G := by
    obtain ⟨z, hz⟩ : ∃ z, MN a + 2 ^ (zN (EN a) - 1) = 512 * z := ⟨(MN a + 2 ^ (zN (EN a) - 1)) / 512, by rw [hc, e1, e2]; rw [show 2 * (1024 * 2 ^ (zN (EN a) - 11)) * c = 1024 * (2 * 2 ^ (zN (EN a) - 11) * c) from by ac_rfl]; omega⟩
    rw [hz]
    exact u1 z (by omega) (by omega)
  have x3 : usN p (EN a) (MN a) = unr (MN a * A) G := by
    obtain ⟨z, hz⟩ : ∃ z, MN a = 512 * z := ⟨MN a / 512, by rw [hc, e1, e2]; rw [show 2 * (1024 * 2 ^ (zN (EN a) - 11)) * c = 1024 * (2 * 2 ^ (zN (EN a) - 11) * c) from by ac_rfl]; omega⟩
    rw [hz]
    exact u1 z (by omega) (by omega)
  have hsm : MN a * A / G < 1152921504606846976 := by
    have hur := unr_round (MN a * A) G hG
    rw [← x3] at hur
    omega
  obtain ⟨hrf, hru⟩ := ratio_div (DE_pos p) hG hNU
  rw [x1, x2, x3, unr_round _ _ hG] at hform
  rw [e1] at hge
  clear u1 x1 x2 x3 o1 o2 o3 o4 hsk e3 vpar v3 v2 t1 t2 t3
  have hcc : MN a * A = 2 * (2 ^ (zN (EN a) - 1) * A) * c := by rw [hc, e1]; ac_rfl
  generalize 2 ^ (zN (EN a) - 1) = h at *
  have hle : h ≤ MN a := by omega
  have hmul1 : (MN a - h) * A = MN a * A - h * A := Nat.sub_mul _ _ _
  have hmul2 : (MN a + h) * A = MN a * A + h * A := Nat.add_mul _ _ _
  rw [Nat.mul_assoc] at w1 w2
  have hhA : h * A ≤ MN a * A := Nat.mul_le_mul_right _ hle
  have hh0 : 0 < h := by omega
  have hpos : 0 < h * A := Nat.mul_pos hh0 hA
  have hpos2 : 0 < (MN a - h) * A := Nat.mul_pos (by omega) hA
  have hdm := Nat.div_add_mod (MN a * A) G
  have hml := Nat.mod_lt (MN a * A) hG
  have hmid := mid_le (MN a * A) G (MN a * A / G) (MN a * A % G) (MN a * A / G + upG (MN a * A) G) (h * A) hdm.symm rfl hml w1
  have hstrict : G < 2 * (h * A) ∨ MN a * A % G = 0 := by
    rcases Nat.lt_or_ge G (2 * (h * A)) with g | g
    · exact .inl g
    · right
      have : 2 * (h * A) = G := by omega
      rw [hcc, this, Nat.mul_mod_right]
  have hst := hmid.2 hstrict hpos hhA
  rw [← hmul1, ← hmul2] at hmid hst
  have hGn : G ≤ (MN a + h) * A := by rw [hmul2]; omega
  have huIn : Near (dX (MN a * A / G + upG (MN a * A) G) (-p)) (dQ (-p)) a := (hin _).2 ⟨⟨hmid.1.1, fun _ => hst.1⟩, ⟨hmid.1.2, fun _ => hst.2⟩⟩
  have hiff : ∀ d, Near (dX d (-p)) (dQ (-p)) a ↔ (unr ((MN a - h) * A) G + a % 2 + 3) / 4 ≤ d ∧ d ≤ (unr ((MN a + h) * A) G - a % 2) / 4 := fun d => by
    rw [hin d]
    rcases Nat.mod_two_eq_zero_or_one a with ho | ho
    · rw [ho, Nat.add_zero, Nat.sub_zero, unr_ceil _ _ _ hG, unr_below _ _ _ hG]
      exact ⟨fun h => ⟨h.1.1, h.2.1⟩, fun h => ⟨⟨h.1, fun h => absurd h (by decide)⟩, ⟨h.2, fun h => absurd h (by decide)⟩⟩⟩
    · rw [ho, unr_above _ _ _ hG, unr_under _ _ _ hG hGn]
      exact ⟨fun h => ⟨h.1.2 rfl, h.2.2 rfl⟩, fun h => ⟨⟨Nat.le_of_lt h.1, fun _ => h.1⟩, ⟨Nat.le_of_lt h.2, fun _ => h.2⟩⟩⟩
  obtain ⟨lo, hi⟩ := (hiff _).1 huIn
  refine ⟨p, _, _, _, hform, hiff, lo, hi, ?_, ?_, by rw [hrf, hru], htop, by rw [hrf]; exact hsm⟩
  · have hn := (hin _).1 ((hiff _).2 ⟨Nat.le_refl _, Nat.le_trans lo hi⟩)
    rcases Nat.eq_zero_or_pos ((unr ((MN a - h) * A) G + a % 2 + 3) / 4) with g | g
    · rw [g, Nat.zero_mul] at hn
      omega
    · exact g
  · have n1 := (hin _).1 ((hiff _).2 ⟨Nat.le_refl _, Nat.le_trans lo hi⟩)
    have n2 := (hin _).1 ((hiff _).2 ⟨Nat.le_trans lo hi, Nat.le_refl _⟩)
    generalize (unr ((MN a - h) * A) G + a % 2 + 3) / 4 = dmin at *
    generalize (unr ((MN a + h) * A) G - a % 2) / 4 = dmax at *
    rcases Nat.lt_or_ge (dmin + 9) dmax with g | g
    · exfalso
      have g2 : (dmin + 10) * G ≤ dmax * G := Nat.mul_le_mul_right _ g
      rw [Nat.add_mul] at g2
      have a1 := n1.1.1
      have a2 := n2.2.1
      rw [hmul1] at a1
      rw [hmul2] at a2
      omega
    · exact g

/-- A: what is shown of it is read as it -/
theorem sh_near (a : Nat) (h1 : 0 < a) (h2 : a < 9218868437227405312) (hm : MN a ≠ 9223372036854775808) : Near (dX (shN a).1 (shN a).2) (dQ (shN a).2) a := by
  obtain ⟨p, dmin, dmax, u, hs⟩ := sh_is a h1 h2 hm
  rw [hs.form]
  unfold pick3
  split
  · rename_i h
    have := (hs.isin _).2 ⟨h, by omega⟩
    have e := near_up (dmax / 10) 1 a (-p) (by rwa [Nat.pow_one])
    rwa [show -p + ((1 : Nat) : Int) = -(p - 1) from by omega] at e
  · split
    · exact (hs.isin u).2 ⟨hs.lo, hs.hi⟩
    · have := hs.lo
      have := hs.hi
      exact (hs.isin dmin).2 ⟨Nat.le_refl _, by omega⟩

end Go.Proofs.YtckaoeloofbklaaGreatDoor

/- The shortest digits of powers of two are read as them (by the kernel, one by one). -/
namespace Go.Proofs.YtckaoeloofbklaaGreatDoor
open Go Go.RowKit Go.Lib
set_option exponentiation.threshold 3000

def nearB (X Q r : Nat) : Bool :=
  decide (0 < Q) && decide (r ≤ INF) && (decide (r = 0) || (decide (Q * (V (r - 1) + V r) ≤ X) && (decide (r % 2 ≠ 1) || decide (Q * (V (r - 1) + V r) < X)))) &&
    (decide (r = INF) || (decide (X ≤ Q * (V r + V (r + 1))) && (decide (r % 2 ≠ 1) || decide (X < Q * (V r + V (r + 1))))))
theorem nearB_is {X Q r : Nat} (h : nearB X Q r = true) : Near X Q r := by
  simp only [nearB, Bool.and_eq_true, Bool.or_eq_true, decide_eq_true_eq] at h
  obtain ⟨⟨⟨h1, h2⟩, h3⟩, h4⟩ := h
  refine ⟨h1, h2, h3.imp id fun h => ⟨h.1, fun ho => h.2.resolve_left (fun hh => hh ho)⟩, h4.imp id fun h => ⟨h.1, fun ho => h.2.resolve_left (fun hh => hh ho)⟩⟩
def okA (a : Nat) : Bool := let s := shN a; nearB (dX s.1 s.2) (dQ s.2) a
def lowAll : Nat → Nat → Bool
  | 0, _ => true
  | n + 1, a => okA a && lowAll n (2 * a)
def highAll : Nat → Nat → Bool
  | 0, _ => true
  | n + 1, a => okA a && highAll n (a + 4503599627370496)
theorem lowAll_get : ∀ (n a : Nat), lowAll n a = true → ∀ i, i < n → okA (a * 2 ^ i) = true
  | 0, _, _, i, h => by omega
  | n + 1, a, h, 0, _ => by
    simp only [lowAll, Bool.and_eq_true] at h
    simpa using h.1
  | n + 1, a, h, i + 1, hi => by
    simp only [lowAll, Bool.and_eq_true] at h
    have := lowAll_get n (2 * a) h.2 i (by omega)
    rwa [show 2 * a * 2 ^ i = a * 2 ^ (i + 1) from by rw [Nat.pow_succ]; ac_rfl] at this
theorem highAll_get : ∀ (n a : Nat), highAll n a = true → ∀ i, i < n → okA (a + i * 4503599627370496) = true
  | 0, _, _, i, h => by omega
  | n + 1, a, h, 0, _ => by
    simp only [highAll, Bool.and_eq_true] at h
    simpa using h.1
  | n + 1, a, h, i + 1, hi => by
    simp only [highAll, Bool.and_eq_true] at h
    have := highAll_get n (a + 4503599627370496) h.2 i (by omega)
    rwa [show a + 4503599627370496 + i * 4503599627370496 = a + (i + 1) * 4503599627370496 from by rw [Nat.add_mul, Nat.one_mul]; omega] at this
theorem low_all : lowAll 52 1 = true := by decide +kernel
theorem high_all : highAll 2046 4503599627370496 = true := by decide +kernel

theorem pow_rung (a : Nat) (h1 : 0 < a) (h2 : a < 9218868437227405312) (hm : MN a = 9223372036854775808) : (∃ i, i < 52 ∧ a = 1 * 2 ^ i) ∨ ∃ i, i < 2046 ∧ a = 4503599627370496 + i * 4503599627370496 := by
  by_cases hs : a < 4503599627370496
  · left
    have hmt : mtN a = a := by unfold mtN; rw [if_pos hs]
    obtain ⟨hL1, hL2, _⟩ := bitLen_bounds a h1 (by omega)
    have hL := bitLen_le a 52 h1 (by omega) hs
    have hM : MN a = a * 2 ^ (64 - Lib.bitLen a) := by unfold MN sN; rw [hmt]
    refine ⟨Lib.bitLen a - 1, by omega, ?_⟩
    rw [Nat.one_mul]
    rw [hM] at hm
    have e : 9223372036854775808 = 2 ^ (Lib.bitLen a - 1) * 2 ^ (64 - Lib.bitLen a) := by
      rw [← Nat.pow_add, show Lib.bitLen a - 1 + (64 - Lib.bitLen a) = 63 by omega]
    rw [e] at hm
    exact Nat.eq_of_mul_eq_mul_right (Nat.two_pow_pos _) hm
  · right
    have hmt : mtN a = a % 4503599627370496 + 4503599627370496 := by unfold mtN; rw [if_neg hs]
    have hr := Nat.mod_lt a (show 0 < 4503599627370496 by decide)
    have hL1 := bitLen_le (a % 4503599627370496 + 4503599627370496) 53 (by omega) (by omega) (by omega)
    have hL2 := bitLen_gt (a % 4503599627370496 + 4503599627370496) 52 (by omega) (by omega) (by omega)
    have hL : Lib.bitLen (a % 4503599627370496 + 4503599627370496) = 53 := by omega
    have hM : MN a = (a % 4503599627370496 + 4503599627370496) * 2 ^ 11 := by unfold MN sN; rw [hmt, hL]
    rw [hM] at hm
    have h0 : a % 4503599627370496 = 0 := by omega
    have hdm := Nat.div_add_mod a 4503599627370496
    exact ⟨a / 4503599627370496 - 1, by omega, by omega⟩

/-- what is shown of any number is read as it -/
theorem shown_near (a : Nat) (h1 : 0 < a) (h2 : a < 9218868437227405312) : Near (dX (shN a).1 (shN a).2) (dQ (shN a).2) a := by
  by_cases hm : MN a = 9223372036854775808
  · rcases pow_rung a h1 h2 hm with ⟨i, hi, rfl⟩ | ⟨i, hi, rfl⟩
    · exact nearB_is (lowAll_get _ _ low_all i hi)
    · exact nearB_is (highAll_get _ _ high_all i hi)
  · exact sh_near a h1 h2 hm
end Go.Proofs.YtckaoeloofbklaaGreatDoor

/- An integer of at most 53 bits is shown by its digits (plain). -/
namespace Go.Proofs.YtckaoeloofbklaaGreatDoor
open Go Go.RowKit Go.Lib
set_option exponentiation.threshold 3000

theorem strip_ex : ∀ N : Nat, 1 ≤ N → ∃ t j, N = t * 10 ^ j ∧ t % 10 ≠ 0 := by
  intro N
  induction N using Nat.strongRecOn with
  | _ N ih =>
    intro h
    by_cases h0 : N % 10 = 0
    · obtain ⟨t, j, h1, h2⟩ := ih (N / 10) (by omega) (by omega)
      exact ⟨t, j + 1, by rw [Nat.pow_succ, ← Nat.mul_assoc, ← h1]; omega, h2⟩
    · exact ⟨N, 0, by simp, h0⟩
theorem trimZ_last (l : List UInt8) (c : UInt8) (h : c ≠ 48) : trimZ (l ++ [c]) = l ++ [c] := by
  unfold trimZ
  rw [List.reverse_append, List.reverse_singleton, List.singleton_append, List.dropWhile_cons, if_neg (by simpa using h)]
  simp
theorem sig_odd (t : Nat) (h : t % 10 ≠ 0) : sig t = decDigits t := by
  unfold sig
  by_cases h1 : t < 10
  · rw [decDigits, dif_pos h1]
    exact trimZ_last [] _ (by
      have key : ∀ k : Fin 10, k.val ≠ 0 → UInt8.ofNat (48 + k.val) ≠ 48 := by decide +kernel
      exact key ⟨t, h1⟩ (by show t ≠ 0; omega))
  · rw [decDigits, dif_neg h1]
    exact trimZ_last _ _ (by
      have key : ∀ k : Fin 10, k.val ≠ 0 → UInt8.ofNat (48 + k.val) ≠ 48 := by decide +kernel
      exact key ⟨t % 10, by omega⟩ h)
end Go.Proofs.YtckaoeloofbklaaGreatDoor

/- What is shown of a number has the form of a decimal text, and is that number (plain). -/
namespace Go.Proofs.YtckaoeloofbklaaGreatDoor
open Go Go.RowKit Go.Lib

def foldS (q : Nat) (l : List UInt8) : Nat := l.foldl (fun q c => nextN q (clsN c.toNat)) q
theorem foldS_app (q : Nat) (l m : List UInt8) : foldS q (l ++ m) = foldS (foldS q l) m := by unfold foldS; rw [List.foldl_append]
theorem foldS_cons (q : Nat) (c : UInt8) (l : List UInt8) : foldS q (c :: l) = foldS (nextN q (clsN c.toNat)) l := rfl
theorem dig_class {c : UInt8} (h : isDig c) : clsN c.toNat = 1 ∨ clsN c.toNat = 2 := by
  unfold clsN
  obtain ⟨h1, h2⟩ := h
  split
  · exact .inl rfl
  · rw [if_pos ⟨h1, h2⟩]; exact .inr rfl
theorem dig_class2 {c : UInt8} (h : isDig c) (h0 : c ≠ 48) : clsN c.toNat = 2 := by
  unfold clsN
  obtain ⟨h1, h2⟩ := h
  rw [if_neg (fun hh => h0 (UInt8.toNat_inj.1 (by rw [hh]; rfl))), if_pos ⟨h1, h2⟩]
theorem foldS_digs (q : Nat) (h1 : nextN q 1 = q) (h2 : nextN q 2 = q) : ∀ l : List UInt8, (∀ x ∈ l, isDig x) → foldS q l = q
  | [], _ => rfl
  | c :: l, h => by
    rw [foldS_cons]
    have hc := dig_class (h c (by simp))
    have : nextN q (clsN c.toNat) = q := by rcases hc with g | g <;> rw [g] <;> assumption
    rw [this]
    exact foldS_digs q h1 h2 l fun x hx => h x (by simp [hx])
theorem foldS_digs1 (q q' : Nat) (g1 : nextN q 1 = q') (g2 : nextN q 2 = q') (h1 : nextN q' 1 = q') (h2 : nextN q' 2 = q') (l : List UInt8) (hne : l ≠ []) (h : ∀ x ∈ l, isDig x) : foldS q l = q' := by
  cases l with
  | nil => exact absurd rfl hne
  | cons c l =>
    rw [foldS_cons]
    have hc := dig_class (h c (by simp))
    have : nextN q (clsN c.toNat) = q' := by rcases hc with g | g <;> rw [g] <;> assumption
    rw [this]
    exact foldS_digs q' h1 h2 l fun x hx => h x (by simp [hx])

theorem dv_digit (k : Nat) (h : k < 10) : dv (UInt8.ofNat (48 + k)).toNat = k := by
  have key : ∀ k : Fin 10, dv (UInt8.ofNat (48 + k.val)).toNat = k.val := by decide +kernel
  exact key ⟨k, h⟩
theorem dvl_dec (u : Nat) : dvl 10 (decDigits u) = u := by
  induction u using Nat.strongRecOn with
  | _ u ih =>
    rw [decDigits]
    split
    · rename_i h; have := dv_digit u h; simp only [dvl, List.foldl_cons, List.foldl_nil, Nat.zero_mul, Nat.zero_add]; exact this
    · rename_i h
      rw [dvl_snoc, ih (u / 10) (by omega), dv_digit _ (by omega)]; omega
theorem ex_digit (k : Nat) (h : k < 10) : (UInt8.ofNat (48 + k)).toNat - 48 = k := by
  have key : ∀ k : Fin 10, (UInt8.ofNat (48 + k.val)).toNat - 48 = k.val := by decide +kernel
  exact key ⟨k, h⟩
theorem ex_dec (u : Nat) (hu : u < 100000) : exF (decDigits u) = u := by
  induction u using Nat.strongRecOn with
  | _ u ih =>
    rw [decDigits]
    split
    · rename_i h; have := ex_digit u h; simp only [exF, List.foldl_cons, List.foldl_nil]; rw [if_pos (by decide)]; omega
    · rename_i h
      rw [ex_snoc, ih (u / 10) (by omega) (by omega), if_pos (by omega), ex_digit _ (by omega)]; omega

theorem bars_digs (l : List UInt8) (h : ∀ x ∈ l, x ≠ 95) : noBars l = l := bars_none l h
theorem dig95 {x : UInt8} (h : isDig x) : x ≠ 95 := by rintro rfl; exact absurd h.2 (by decide)
theorem z48 (k : Nat) : ∀ x ∈ List.replicate k (48 : UInt8), x = 48 := fun _ hx => List.eq_of_mem_replicate hx

/-- the text of digits t (not a multiple of ten) at the power x -/
theorem placed_form (t : Nat) (x : Int) (ht : t % 10 ≠ 0) (h19 : nDigits t ≤ 19) (hx : (((nDigits t : Nat) : Int) + x - 1).natAbs < 1000) :
    decB (placedB (decDigits t) ((nDigits t : Nat) + x)) = true ∧ ∃ D y k, DecIs (placedB (decDigits t) ((nDigits t : Nat) + x)) D y ∧ (∀ c ∈ (dropZ D).drop 19, c = 48) ∧ dvl 10 D = t * 10 ^ k ∧ x = y + (k : Nat) := by
  have ht1 : 1 ≤ t := by omega
  obtain ⟨c0, l0, hS, hc0⟩ := dec_head t ht1
  have hdig : ∀ c ∈ decDigits t, isDig c := dec_digs t
  have hlen : (decDigits t).length = nDigits t := decDigits_length t
  have hv : dvl 10 (decDigits t) = t := dvl_dec t
  have hfold : foldS 1 (decDigits t) = 3 := by
    rw [hS, foldS_cons, dig_class2 (hdig c0 (by rw [hS]; simp)) hc0]
    exact foldS_digs 3 (by decide) (by decide) l0 fun c hc => hdig c (by rw [hS]; simp [hc])
  have hdz : ∀ R, dropZ (decDigits t ++ R) = decDigits t ++ R := fun R => by
    rw [hS]; unfold dropZ
    rw [List.cons_append, List.dropWhile_cons, if_neg (by simpa using hc0)]
  have hdz0 : dropZ (decDigits t) = decDigits t := by have := hdz []; rwa [List.append_nil] at this
  have hne : decDigits t ≠ [] := by rw [hS]; simp
  have hnd := nDigits_pos t
  generalize decDigits t = S at *
  have hz19 : S.drop 19 = [] := List.drop_eq_nil_of_le (by omega)
  have hdd : ∀ c ∈ (dropZ S).drop 19, c = 48 := fun c hc => by rw [hdz0, hz19] at hc; simp at hc
  unfold placedB
  split
  · -- a whole number
    rename_i h
    obtain ⟨k, hk⟩ : ∃ k : Nat, x = k := ⟨x.toNat, by omega⟩
    have e : (((nDigits t : Nat) : Int) + x - (S.length : Nat)).toNat = k := by omega
    rw [e]
    have hall : ∀ c ∈ S ++ List.replicate k 48, isDig c := fun c hc => (List.mem_append.1 hc).elim (hdig c) fun h => by rw [z48 k c h]; exact dig48
    refine ⟨?_, S ++ List.replicate k 48, 0, k, ⟨S ++ List.replicate k 48, [], false, _, mant_w hall, by simp [hne], by simp, .inl ⟨bars_digs _ fun c hc => dig95 (hall c hc), by simp⟩⟩, ?_, ?_, by omega⟩
    · show endB (foldS 1 _) = true
      rw [foldS_app, hfold, foldS_digs 3 (by decide) (by decide) _ fun c hc => by rw [z48 k c hc]; exact dig48]
      rfl
    · rw [hdz]
      intro c hc
      rw [List.drop_append, hz19, List.nil_append] at hc
      exact z48 k c (List.mem_of_mem_drop hc)
    · rw [dvl_app, hv, dvl_zeros, List.length_replicate, Nat.add_zero]
  · split
    · -- a point among the digits
      rename_i h
      obtain ⟨j, hj⟩ : ∃ j : Nat, ((nDigits t : Nat) : Int) + x = j := ⟨(((nDigits t : Nat) : Int) + x).toNat, by omega⟩
      rw [hj, Int.toNat_natCast]
      have hw : ∀ c ∈ S.take j, isDig c := fun c hc => hdig c (List.mem_of_mem_take hc)
      have hf : ∀ c ∈ S.drop j, isDig c := fun c hc => hdig c (List.mem_of_mem_drop hc)
      have hfne : S.drop j ≠ [] := by
        intro h2
        have := congrArg List.length h2
        rw [List.length_drop] at this
        simp at this
        omega
      refine ⟨?_, S, x, 0, ⟨S.take j, S.drop j, true, S.take j ++ 46 :: S.drop j, ⟨rfl, hw, hf, by simp⟩, by rw [List.take_append_drop]; exact hne, (List.take_append_drop j S).symm, .inl ⟨bars_digs _ fun c hc => ?_, ?_⟩⟩, hdd, by rw [hv, Nat.pow_zero, Nat.mul_one], by simp⟩
      · show endB (foldS 1 _) = true
        have h3 : foldS 1 (S.take j) = 3 := by
          obtain ⟨j', rfl⟩ : ∃ j', j = j' + 1 := ⟨j - 1, by omega⟩
          rw [hS, List.take_succ_cons, foldS_cons, dig_class2 (hdig c0 (by rw [hS]; simp)) hc0]
          exact foldS_digs 3 (by decide) (by decide) _ fun c hc => hdig c (by rw [hS]; exact List.mem_cons_of_mem _ (List.mem_of_mem_take hc))
        rw [foldS_app, h3, foldS_cons, show nextN 3 (clsN (46 : UInt8).toNat) = 12 from by decide, foldS_digs1 12 6 (by decide) (by decide) (by decide) (by decide) _ hfne hf]
        rfl
      · rcases List.mem_append.1 hc with h2 | h2
        · exact dig95 (hw c h2)
        · rcases List.mem_cons.1 h2 with h3 | h3
          · rw [h3]; decide
          · exact dig95 (hf c h3)
      · rw [List.length_drop]; omega
    · split
      · -- below one
        rename_i h
        obtain ⟨j, hj⟩ : ∃ j : Nat, -(((nDigits t : Nat) : Int) + x) = j := ⟨(-(((nDigits t : Nat) : Int) + x)).toNat, by omega⟩
        rw [hj, Int.toNat_natCast]
        have hall : ∀ c ∈ List.replicate j 48 ++ S, isDig c := fun c hc => (List.mem_append.1 hc).elim (fun h => by rw [z48 j c h]; exact dig48) (hdig c)
        refine ⟨?_, 48 :: (List.replicate j 48 ++ S), x, 0, ⟨[48], List.replicate j 48 ++ S, true, 48 :: 46 :: (List.replicate j 48 ++ S), ⟨rfl, fun c hc => by simp at hc; rw [hc]; exact dig48, hall, by simp⟩, by simp, rfl, .inl ⟨bars_digs _ fun c hc => ?_, ?_⟩⟩, ?_, ?_, by simp⟩
        · show endB (foldS 1 _) = true
          rw [foldS_cons, show nextN 1 (clsN (48 : UInt8).toNat) = 2 from by decide, foldS_cons, show nextN 2 (clsN (46 : UInt8).toNat) = 12 from by decide, foldS_digs1 12 6 (by decide) (by decide) (by decide) (by decide) _ (by simp [hne]) hall]
          rfl
        · rcases List.mem_cons.1 hc with h2 | h2
          · rw [h2]; decide
          · rcases List.mem_cons.1 h2 with h3 | h3
            · rw [h3]; decide
            · exact dig95 (hall c h3)
        · rw [List.length_append, List.length_replicate]; omega
        · have hd : dropZ (48 :: (List.replicate j 48 ++ S)) = S := by
            unfold dropZ at hdz0 ⊢
            rw [List.dropWhile_cons, if_pos (by decide), dropWhile_all _ _ _ (fun c hc => by rw [z48 j c hc]; rfl), hdz0]
          rw [hd, hz19]; simp
        · have e := dvl_app 10 (48 :: List.replicate j 48) S
          rw [show (48 : UInt8) :: List.replicate j 48 = List.replicate (j + 1) 48 from rfl, dvl_zeros, Nat.zero_mul, Nat.zero_add, hv] at e
          rw [Nat.pow_zero, Nat.mul_one]
          exact e
      · -- with a power
        rename_i g1 g2 g3
        obtain ⟨y, hy⟩ : ∃ y : Int, ((nDigits t : Nat) : Int) + x - 1 = y := ⟨_, rfl⟩
        rw [hy] at hx ⊢
        have hX : ∀ c ∈ decDigits y.natAbs, isDig c := dec_digs _
        have hXne : decDigits y.natAbs ≠ [] := by
          intro h2
          have := congrArg List.length h2
          rw [decDigits_length] at this
          have := nDigits_pos y.natAbs
          simp at *; omega
        obtain ⟨sgb, hsg, hsgc⟩ : ∃ sgb : UInt8, (if y < 0 then (45 : UInt8) else 43) = sgb ∧ (sgb = 43 ∨ sgb = 45) := by
          split
          · exact ⟨45, rfl, .inr rfl⟩
          · exact ⟨43, rfl, .inl rfl⟩
        have hpow : PowF (powT 101 [sgb] (decDigits y.natAbs)) 101 [sgb] (decDigits y.natAbs) := ⟨rfl, .inr rfl, by rcases hsgc with h | h <;> rw [h] <;> simp, hX⟩
        have htail : expS y = powT 101 [sgb] (decDigits y.natAbs) := by unfold expS powT; rw [hsg]; rfl
        have hval : (exF (decDigits y.natAbs) : Int) * sgZ [sgb] = y := by
          rw [ex_dec _ (by omega), ← hsg]
          unfold sgZ
          by_cases hneg : y < 0
          · rw [if_pos hneg, if_pos rfl]; omega
          · rw [if_neg hneg, if_neg (by decide)]; omega
        have hbt : ∀ c ∈ powT 101 [sgb] (decDigits y.natAbs), c ≠ 95 := fun c hc => by
          unfold powT at hc
          rcases List.mem_cons.1 hc with h | h
          · rw [h]; decide
          · rcases List.mem_append.1 h with h | h
            · simp at h; rw [h]; rcases hsgc with h | h <;> rw [h] <;> decide
            · exact dig95 (hX c h)
        have hft : ∀ q, nextN q 4 = 8 → foldS q (powT 101 [sgb] (decDigits y.natAbs)) = 10 := fun q hq => by
          unfold powT
          rw [foldS_cons, show clsN (101 : UInt8).toNat = 4 from by decide, hq, foldS_app]
          have h9 : foldS 8 [sgb] = 9 := by rcases hsgc with h | h <;> rw [h] <;> decide
          rw [h9]
          exact foldS_digs1 9 10 (by decide) (by decide) (by decide) (by decide) _ hXne hX
        rw [htail]
        by_cases h1 : 1 < S.length
        · rw [if_pos h1]
          have hw : ∀ c ∈ S.take 1, isDig c := fun c hc => hdig c (List.mem_of_mem_take hc)
          have hf : ∀ c ∈ S.drop 1, isDig c := fun c hc => hdig c (List.mem_of_mem_drop hc)
          have hfne : S.drop 1 ≠ [] := by
            intro h2
            have := congrArg List.length h2
            rw [List.length_drop] at this
            simp at this
            omega
          refine ⟨?_, S, x, 0, ⟨S.take 1, S.drop 1, true, S.take 1 ++ 46 :: S.drop 1, ⟨rfl, hw, hf, by simp⟩, by rw [List.take_append_drop]; exact hne, (List.take_append_drop 1 S).symm, .inr ⟨101, [sgb], decDigits y.natAbs, hpow, hXne, bars_digs _ fun c hc => ?_, ?_⟩⟩, hdd, by rw [hv, Nat.pow_zero, Nat.mul_one], by simp⟩
          · show endB (foldS 1 _) = true
            have h3 : foldS 1 (S.take 1) = 3 := by
              rw [hS, List.take_succ_cons, List.take_zero, foldS_cons, dig_class2 (hdig c0 (by rw [hS]; simp)) hc0]; rfl
            rw [foldS_app, foldS_app, h3, foldS_cons, show nextN 3 (clsN (46 : UInt8).toNat) = 12 from by decide, foldS_digs1 12 6 (by decide) (by decide) (by decide) (by decide) _ hfne hf, hft 6 (by decide)]
            rfl
          · rcases List.mem_append.1 hc with h2 | h2
            · rcases List.mem_append.1 h2 with h3 | h3
              · exact dig95 (hw c h3)
              · rcases List.mem_cons.1 h3 with h4 | h4
                · rw [h4]; decide
                · exact dig95 (hf c h4)
            · exact hbt c h2
          · rw [hval, List.length_drop]; omega
        · rw [if_neg h1]
          refine ⟨?_, S, x, 0, ⟨S, [], false, S, mant_w hdig, by simp [hne], by simp, .inr ⟨101, [sgb], decDigits y.natAbs, hpow, hXne, bars_digs _ fun c hc => ?_, ?_⟩⟩, hdd, by rw [hv, Nat.pow_zero, Nat.mul_one], by simp⟩
          · show endB (foldS 1 _) = true
            rw [foldS_app, hfold, hft 3 (by decide)]
            rfl
          · rcases List.mem_append.1 hc with h2 | h2
            · exact dig95 (hdig c h2)
            · exact hbt c h2
          · rw [hval, List.length_nil]; omega
end Go.Proofs.YtckaoeloofbklaaGreatDoor

/- What is shown of any number is read as that number; NumBack's walk. -/
namespace Go.Proofs.YtckaoeloofbklaaGreatDoor
open Go Go.RowKit Go.Sort Go.Lib

theorem placed_len2 (d : List UInt8) (p : Int) (h1 : d.length ≤ 20) (h2 : (p - 1).natAbs < 1000) : (placedB d p).length ≤ 100 := by
  have h4 : (decDigits (p - 1).natAbs).length ≤ 3 := by
    rw [decDigits_length]
    exact nd_le 2 _ (by omega)
  unfold placedB expS
  split
  · rw [List.length_append, List.length_replicate]; omega
  · split
    · rw [List.length_append, List.length_cons, List.length_take, List.length_drop]; omega
    · split
      · rw [List.length_cons, List.length_cons, List.length_append, List.length_replicate]; omega
      · rw [List.length_append, List.length_cons, List.length_cons]
        split
        · rw [List.length_append, List.length_cons, List.length_take, List.length_drop]; omega
        · omega

/-- what is shown of a finite number without a sign: its form, and its value -/
theorem shown_form (a : Nat) (h1 : 0 < a) (h2 : a < 9218868437227405312) :
    decB (showA a) = true ∧ (showA a).length ≤ 100 ∧ ∃ D y, DecIs (showA a) D y ∧ (∀ c ∈ (dropZ D).drop 19, c = 48) ∧ Near (dX (dvl 10 D) y) (dQ y) a := by
  obtain ⟨b1, b2, b3⟩ := sh_bounds a h1 h2
  have hA := shown_near a h1 h2
  obtain ⟨g1, g2, g3, g4, g5⟩ := me_ok a h1 h2
  obtain ⟨k1, k2, k3, k4⟩ := short_bounds (MN a) (EN a) g1 g2 g3 g4 g5
  have hlt : (shN a).1 < 10 ^ 19 := by
    have : (shN a).1 = (shortN (MN a) (EN a)).1 := rfl
    rw [this]
    omega
  have hsl := sig_len _ b1 b2
  unfold showA
  have hlen := placed_len2 (sig (shN a).1) ((nDigits (shN a).1 : Nat) + (shN a).2) hsl.2 b3
  generalize (shN a).1 = d at *
  generalize (shN a).2 = q at *
  obtain ⟨t, i, e1, e2⟩ := strip_ex d b1
  have ht0 : 1 ≤ t := by omega
  have hsig : sig d = decDigits t := by rw [e1, sig_tens t ht0, sig_odd t e2]
  have hnd : nDigits d = nDigits t + i := by rw [e1, nd_tens t ht0]
  have hp : ((nDigits d : Nat) : Int) + q = (nDigits t : Nat) + (q + i) := by rw [hnd]; push_cast; omega
  have h19 : nDigits t ≤ 19 := nd_le 18 _ (Nat.lt_of_le_of_lt (by rw [e1]; exact Nat.le_mul_of_pos_right _ (Nat.pow_pos (by decide))) hlt)
  rw [hp] at b3
  obtain ⟨f1, D, y, k, f2, f3, f4, f5⟩ := placed_form t (q + i) e2 h19 b3
  rw [← hp, ← hsig] at f1 f2
  refine ⟨f1, hlen, D, y, f2, f3, ?_⟩
  rw [f4]
  rw [e1] at hA
  have := near_up t i a q hA
  rw [f5] at this
  exact near_down t k a y this

def backN (x : Nat) : Nat := if 9218868437227405312 < ru x then 9221120237041090560 else x

theorem sg_of (x : Nat) : (if ngB x then [(45 : UInt8)] else []) = sgB (ngB x) := rfl
theorem ru_sg (x : Nat) (hx : x < 18446744073709551616) : ru x + sgW (ngB x) = x := by
  unfold ru ngB sgW
  by_cases h : 9223372036854775808 ≤ x
  · rw [decide_eq_true h, if_pos rfl]; omega
  · rw [decide_eq_false h, if_neg (by decide)]; omega

theorem parse_back (x K : Nat) (w : World) (hx : x < 18446744073709551616) (hG : Globs w) (hT : GlobT K w) :
    Calls Tryz.prog 121 #[.string ⟨(showB x).toArray⟩] w fun e w' => e = .returned (.tuple #[.int .u64 (backN x : Nat), .int .i64 0]) ∧ Below w.heap.size w w' := by
  unfold backN
  by_cases h1 : 9218868437227405312 < ru x
  · rw [show_nan_eq x h1, if_pos h1]
    exact parse_nan _ false w rfl
  · rw [if_neg h1]
    rw [show_sgn x (by omega), sg_of]
    have hsg := ru_sg x hx
    by_cases h2 : ru x = 9218868437227405312
    · rw [if_pos h2]
      have := parse_inf ⟨(sgB (ngB x) ++ infB).toArray⟩ (ngB x) w rfl
      rw [← h2, hsg] at this
      exact this
    · rw [if_neg h2]
      by_cases h3 : ru x = 0
      · rw [if_pos h3]
        have := parse_small ⟨(sgB (ngB x) ++ [48]).toArray⟩ (ngB x) [48] [48] 0 K w hG hT rfl (by cases ngB x <;> decide) (by decide +kernel) ⟨[48], [], false, [48], mant_w (fun c hc => by simp at hc; rw [hc]; exact dig48), by simp, rfl, .inl ⟨rfl, rfl⟩⟩ (by decide)
        refine this.mono ?_
        rintro e w' ⟨r, hn, rfl, hb⟩
        have h0 : dvl 10 [48] = 0 := by decide
        rw [h0] at hn
        obtain rfl := near_unique hn (zero_near 0)
        refine ⟨?_, hb⟩
        rw [h3] at hsg
        rw [hsg]
      · rw [if_neg h3]
        obtain ⟨f1, f2, D, y, f3, f4, f5⟩ := shown_form (ru x) (by omega) (by omega)
        have := parse_noughts ⟨(sgB (ngB x) ++ showA (ru x)).toArray⟩ (ngB x) (showA (ru x)) D y K w hG hT rfl (by rw [ba_size, List.length_append]; cases ngB x <;> simp [sgB] <;> omega) f1 f3 f4
        refine this.mono ?_
        rintro e w' ⟨r, hn, rfl, hb⟩
        obtain rfl := near_unique hn f5
        refine ⟨?_, hb⟩
        rw [hsg]
end Go.Proofs.YtckaoeloofbklaaGreatDoor

/- The reader: strings as values; the form of numbers. -/
namespace Go.Proofs.YtckaoeloofbklaaGreatDoor
open Go Go.RowKit Go.Lib

set_option maxRecDepth 100000 in
set_option maxHeartbeats 4000000 in
theorem textJ_any (r : Nat) (s : ByteArray) (t out t' : List UInt8) (d : Nat) (w : World) (h : Rd r s (34 :: t) d w) (h17 : 17 ≤ r) (hT : Lib.Utf8Tabs 0 1 w) (hs : Str decB8 enc t out t') :
    Calls Tryz.prog 50 #[.pointer (some ⟨r, 0, none⟩)] w (ValOk r s d w (jStr ⟨out.toArray⟩) t') := by
  have hal := h.alloc (.cells #[.int .u8 0, .bool false, .int .i64 0, .int .u64 0, .string ⟨#[]⟩, .slice none 0 0, .slice none 0 0] 27)
  have hnew := heap_alloc_new w (.cells #[.int .u8 0, .bool false, .int .i64 0, .int .u64 0, .string ⟨#[]⟩, .slice none 0 0, .slice none 0 0] 27)
  have hkr := (KR.refl r w).alloc (.cells #[.int .u8 0, .bool false, .int .i64 0, .int .u64 0, .string ⟨#[]⟩, .slice none 0 0, .slice none 0 0] 27)
  have hrl := h.lt
  have HR := Lib.hid (quoted_any r s t out t' d _ hal h17 (utabs_kept hT (hkr.low' h17 (by omega))) hs)
  have HN := Lib.hid hnew
  have HKR := Lib.hid hkr
  clear h hal hnew hkr
  go_enter Tryz.func50, Tryz.ntmps50
  go_wp2_with fail
  refine HR.out.mono ?_
  rintro e w1 ⟨rfl, hrd, hkr⟩
  have hn1 := (hkr.block w.heap.size (by simp) (by omega)).trans HN.out
  obtain ⟨n0, n1, n2, n3, n4, n5, n6⟩ := cell_agg7 hn1
  have q : ∀ j, w1.frozen? ⟨w.heap.size, j, none⟩ = false := fun j => froz_agg hn1 j
  have HRD := Lib.hid hrd
  have HK1 := Lib.hid hkr
  have HN1 := Lib.hid hn1
  clear hrd hkr hn1
  go_wp2_with fail
  show bodyPost _ _ _ _ _ (set7 w1 w.heap.size (.int .u8 5) (.bool false) (.int .i64 0) (.int .u64 0) (.string ⟨out.toArray⟩) (.slice none 0 0) (.slice none 0 0))
  have hF := seven_set HN1.out (.int .u8 5) (.bool false) (.int .i64 0) (.int .u64 0) (.string ⟨out.toArray⟩) (.slice none 0 0) (.slice none 0 0)
  have hok := fun e he => set7_ok (e := e) (k := 5) (b := false) (n := 0) (u := 0) (x := ⟨out.toArray⟩) (p := w.heap.size) he (HKR.out.trans HK1.out) HRD.out (Nat.le_refl _) hrl (.int .u8 5) (.bool false) (.int .i64 0) (.int .u64 0) (.string ⟨out.toArray⟩) (.slice none 0 0) (.slice none 0 0)
  unfold set7 at hok ⊢
  generalize ((((((w1.setCell ⟨w.heap.size, 0, none⟩ (.int .u8 5)).setCell ⟨w.heap.size, 1, none⟩ (.bool false)).setCell ⟨w.heap.size, 2, none⟩ (.int .i64 0)).setCell ⟨w.heap.size, 3, none⟩ (.int .u64 0)).setCell ⟨w.heap.size, 4, none⟩ (.string ⟨out.toArray⟩)).setCell ⟨w.heap.size, 5, none⟩ (.slice none 0 0)).setCell ⟨w.heap.size, 6, none⟩ (.slice none 0 0) = F at *
  obtain ⟨g0, g1, g2, g3, g4, g5, g6⟩ := cell_agg7 hF
  refine bodyPost_ret (v := atomV 5 false 0 0 ⟨out.toArray⟩) (by simp [results, Tryz.results50, go_sem, atomV, g0, g1, g2, g3, g4, g5, g6]) rfl ?_
  exact hok _ rfl

theorem digs_is : ∀ c : UInt8, (([48, 49, 50, 51, 52, 53, 54, 55, 56, 57] : List UInt8)).contains c = isDgB c := by
  intro c
  have key : ∀ c : Fin 256, (([48, 49, 50, 51, 52, 53, 54, 55, 56, 57] : List UInt8)).contains (UInt8.ofNat c.val) = isDgB (UInt8.ofNat c.val) := by decide +kernel
  have := key ⟨c.toNat, c.toNat_lt⟩
  simpa only [UInt8.ofNat_toNat] using this
theorem drop_digs : ∀ (D u : List UInt8), D.all isDgB = true → Ends isDgB u → (D ++ u).dropWhile isDgB = u
  | [], [], _, _ => rfl
  | [], c :: u, _, h => by
    have h : isDgB c = false := h
    rw [List.nil_append, List.dropWhile_cons, if_neg (by rw [h]; decide)]
  | c :: D, u, h, hu => by
    rw [List.all_cons, Bool.and_eq_true] at h
    rw [List.cons_append, List.dropWhile_cons, if_pos h.1]
    exact drop_digs D u h.2 hu
set_option maxRecDepth 100000 in
theorem digits_any (c : UInt8) (D u : List UInt8) (hc : isDgB c = true) (hD : D.all isDgB = true) (hu : Ends isDgB u) (w : World) :
    Calls Tryz.prog 116 #[.string ⟨(c :: D ++ u).toArray⟩] w fun e w' => e = .returned (.tuple #[.string ⟨u.toArray⟩, .bool true]) ∧ Below w.heap.size w w' := by
  have ht := trim_left ⟨(c :: D ++ u).toArray⟩ (⟨#[48, 49, 50, 51, 52, 53, 54, 55, 56, 57]⟩ : ByteArray) w (by decide) (by decide)
  rw [show (fun x => ((⟨#[48, 49, 50, 51, 52, 53, 54, 55, 56, 57]⟩ : ByteArray)).data.toList.contains x) = isDgB from funext digs_is] at ht
  rw [show (⟨(c :: D ++ u).toArray⟩ : ByteArray).data.toList = c :: D ++ u from rfl, drop_digs (c :: D) u (by rw [List.all_cons, hc, hD]; rfl) hu] at ht
  have HT := Lib.hid ht
  clear ht
  have hne : (u == c :: (D ++ u)) = false := by
    rw [beq_eq_false_iff_ne]
    intro e
    have := congrArg List.length e
    simp only [List.length_append, List.length_cons] at this
    omega
  go_enter Tryz.func116, Tryz.ntmps116
  go_wp2_with fail
  refine HT.out.mono ?_
  rintro e w1 ⟨rfl, hb⟩
  go_wp2_with fail
  go_ret2
  exact ⟨by simp, hb⟩

/-- a number's text behind its sign -/
structure NumT (l : List UInt8) (c : UInt8) (W fr ex : List UInt8) : Prop where
  eq : l = c :: W ++ (fr ++ ex)
  hc : isDgB c = true
  hw : W.all isDgB = true
  z : c = 48 → W = []
  fr : fr = [] ∨ ∃ x F, fr = 46 :: x :: F ∧ isDgB x = true ∧ F.all isDgB = true
  ex : ex = [] ∨ ∃ sg x X, ex = 101 :: sg :: x :: X ∧ (sg = 43 ∨ sg = 45) ∧ isDgB x = true ∧ X.all isDgB = true

theorem cut_no (l : List UInt8) (w : World) (h : ∀ t, l ≠ 46 :: t) : Calls Tryz.prog 117 #[.string ⟨l.toArray⟩, .string (⟨#[46]⟩ : ByteArray)] w fun e w' => e = .returned (.tuple #[.string ⟨l.toArray⟩, .bool false]) ∧ w' = w := by
  have := Tryz.strings_CutPrefix ⟨l.toArray⟩ (⟨#[46]⟩ : ByteArray) w
  rw [show (⟨l.toArray⟩ : ByteArray).data.toList = l from rfl, show ((⟨#[46]⟩ : ByteArray) : ByteArray).data.toList = [46] from rfl] at this
  have hp : Lib.hasPrefix l [46] = false := by
    cases l with
    | nil => rfl
    | cons c t =>
      have : c ≠ 46 := by rintro rfl; exact h t rfl
      have : ¬ (46 = c) := fun e => this e.symm
      simp [Lib.hasPrefix, List.isPrefixOf, this]
  have ht : Lib.trimPrefix l [46] = l := by simp [Lib.trimPrefix, hp]
  rwa [hp, ht] at this
theorem cut_yes (l : List UInt8) (w : World) : Calls Tryz.prog 117 #[.string ⟨(46 :: l).toArray⟩, .string (⟨#[46]⟩ : ByteArray)] w fun e w' => e = .returned (.tuple #[.string ⟨l.toArray⟩, .bool true]) ∧ w' = w := by
  have := Tryz.strings_CutPrefix ⟨(46 :: l).toArray⟩ (⟨#[46]⟩ : ByteArray) w
  rw [show (⟨(46 :: l).toArray⟩ : ByteArray).data.toList = 46 :: l from rfl, show ((⟨#[46]⟩ : ByteArray) : ByteArray).data.toList = [46] from rfl] at this
  have hp : Lib.hasPrefix (46 :: l) [46] = true := by simp [Lib.hasPrefix]
  have ht : Lib.trimPrefix (46 :: l) [46] = l := by simp [Lib.trimPrefix, hp]
  rwa [hp, ht] at this
theorem sign_any (sg : UInt8) (h : sg = 43 ∨ sg = 45) (W : World) : ∃ z : Int, 0 ≤ z ∧ Calls Tryz.prog 118 #[.string (⟨#[43, 45]⟩ : ByteArray), .int .u8 (sg.toNat : Int)] W fun e w' => e = .returned (.int .i64 z) ∧ w' = W := by
  refine ⟨_, ?_, Tryz.strings_IndexByte (⟨#[43, 45]⟩ : ByteArray) (sg.toNat : Int) W⟩
  rcases h with rfl | rfl <;> decide
theorem sl1 (c : UInt8) (t : List UInt8) (_h : (c :: t).length ≤ 1000000) : ∀ W, (Instr.slice 9 (.string ⟨(c :: t).toArray⟩) (some (.int .i64 1)) Option.none Option.none).run Tryz.prog W = .ok (.string ⟨t.toArray⟩) W := fun W => by
  have hs : (⟨(c :: t).toArray⟩ : ByteArray).size = (c :: t).length := rfl
  have := run_slice_string_l W 9 ⟨(c :: t).toArray⟩ Tryz.underlying9 .i64 1 (by decide) (by rw [hs, List.length_cons]; omega)
  have he : (⟨(c :: t).toArray⟩ : ByteArray).extract 1 (⟨(c :: t).toArray⟩ : ByteArray).size = ⟨t.toArray⟩ := by
    apply ByteArray.ext
    apply Array.toList_inj.1
    rw [ext_drop]
    rfl
  rw [show (Int.toNat 1) = 1 from rfl, he] at this
  exact this
set_option maxRecDepth 100000 in
set_option maxHeartbeats 8000000 in
theorem formed_any (ng : Bool) (l : List UInt8) (c : UInt8) (W fr ex : List UInt8) (h : NumT l c W fr ex) (w : World) (hl : l.length ≤ 100000) :
    Calls Tryz.prog 81 #[.string ⟨(sgB ng ++ l).toArray⟩] w fun e w' => e = .returned (.tuple #[.bool true, .bool (fr ++ ex).isEmpty]) ∧ Below w.heap.size w w' := by
  obtain ⟨rfl, hc, hw, hz, hf, he⟩ := h
  have h1 := Tryz.strings_TrimPrefix ⟨(sgB ng ++ (c :: W ++ (fr ++ ex))).toArray⟩ (⟨#[45]⟩ : ByteArray) w
  have htp : Lib.trimPrefix (sgB ng ++ (c :: W ++ (fr ++ ex))) ([45] : List UInt8) = c :: W ++ (fr ++ ex) := by
    cases ng
    · have hne : c ≠ 45 := by rintro rfl; revert hc; decide
      have : ¬ (45 = c) := fun e => hne e.symm
      simp [sgB, Lib.trimPrefix, Lib.hasPrefix, this]
    · simp [sgB, Lib.trimPrefix, Lib.hasPrefix]
  rw [show ((⟨#[45]⟩ : ByteArray) : ByteArray).data.toList = ([45] : List UInt8) from rfl, show (⟨(sgB ng ++ (c :: W ++ (fr ++ ex))).toArray⟩ : ByteArray).data.toList = sgB ng ++ (c :: W ++ (fr ++ ex)) from rfl, htp] at h1
  have hu : Ends isDgB (fr ++ ex) := by
    rcases hf with rfl | ⟨x, F, rfl, -⟩
    · rcases he with rfl | ⟨sg, x, X, rfl, -⟩
      · trivial
      · show isDgB 101 = false; decide
    · show isDgB 46 = false; decide
  have h2 := fun w => digits_any c W (fr ++ ex) hc hw hu w
  obtain ⟨S, hS⟩ : ∃ S : ByteArray, S = ⟨(c :: W ++ (fr ++ ex)).toArray⟩ := ⟨_, rfl⟩
  have hsz : S.size = W.length + 1 + (fr.length + ex.length) := by
    rw [hS]
    show (c :: W ++ (fr ++ ex)).length = _
    simp; omega
  have hlt : 0 < S.size := by omega
  have hget : S[0]'hlt = c := by subst hS; rfl
  rw [← hS] at h1
  simp only [← hS] at h2
  clear hS htp
  have H1 := Lib.hid h1
  have H2 := Lib.hid h2
  clear h1 h2
  have hlti : (0 : Int) < (S.size : Int) := by omega
  go_enter Tryz.func81, Tryz.ntmps81
  go_wp2_with fail
  refine H1.out.mono ?_
  rintro e w1 ⟨rfl, hww⟩
  subst hww
  have H2' := Lib.hid (H2.out w1)
  go_wp2_with fail
  refine H2'.out.mono ?_
  rintro e w2 ⟨rfl, hb2⟩
  go_upto_region 5 with fail
  · rename_i hq1 hq2
    have : c = 48 := UInt8.toNat_inj.1 (by show c.toNat = 48; omega)
    have hW := hz this
    subst hW
    exact absurd hq2 (by simp [wrap64])
  · clear hget hlt hlti hsz H1 H2 H2' hz hw
    have HB2 := Lib.hid hb2
    clear hb2
    rcases hf with rfl | ⟨x, F, rfl, hx, hF⟩
    · rcases he with rfl | ⟨sg, y, Y, rfl, hsg, hy, hY⟩
      · skip
        have H3 := Lib.hid (cut_no [] w2 (by intro t h; cases h))
        go_upto_region 6 with fail
        go_wp2_with fail
        refine H3.out.mono ?_
        rintro e w3 ⟨rfl, hww⟩
        replace hww := hww.symm
        subst hww
        go_wp2_with fail
        go_ret2
        exact ⟨by simp, HB2.out⟩
      · skip
        have H3 := Lib.hid (cut_no (101 :: sg :: y :: Y) w2 (by intro t h; cases h))
        go_upto_region 6 with fail
        go_wp2_with fail
        refine H3.out.mono ?_
        rintro e w3 ⟨rfl, hww⟩
        replace hww := hww.symm
        subst hww
        have hsl1 := sl1 101 (sg :: y :: Y) (by simp at hl ⊢; omega)
        have hsl2 := sl1 sg (y :: Y) (by simp at hl ⊢; omega)
        have hor : (bits .or .u8 ((((⟨(101 :: sg :: y :: Y).toArray⟩ : ByteArray)[0]'(Nat.succ_pos _)).toNat : Nat) : Int) 32 == 101) = true := by
          show (bits .or .u8 101 32 == 101) = true
          decide +kernel
        obtain ⟨z, hge, h5⟩ := sign_any sg hsg w2
        have H5 := Lib.hid h5
        clear h5
        have H6 := Lib.hid (digits_any y Y [] hy hY trivial w2)
        rw [List.append_nil] at H6
        go_wp2_with fail
        refine H5.out.mono ?_
        rintro e w5 ⟨rfl, hww⟩
        replace hww := hww.symm
        subst hww
        go_wp2_with fail
        refine H6.out.mono ?_
        rintro e w6 ⟨rfl, hb6⟩
        have HB6 := Lib.hid (HB2.out.trans (hb6.mono HB2.out.size))
        clear hb6
        go_wp2_with fail
        go_ret2
        exact ⟨by simp, HB6.out⟩
    · rcases he with rfl | ⟨sg, y, Y, rfl, hsg, hy, hY⟩
      · skip
        have H3 := Lib.hid (cut_yes (x :: F) w2)
        go_upto_region 6 with fail
        go_wp2_with fail
        refine H3.out.mono ?_
        rintro e w3 ⟨rfl, hww⟩
        replace hww := hww.symm
        subst hww
        have H4 := Lib.hid (digits_any x F [] hx hF trivial w2)
        rw [List.append_nil] at H4
        go_wp2_with fail
        refine H4.out.mono ?_
        rintro e w4 ⟨rfl, hb4⟩
        have HB4 := Lib.hid (HB2.out.trans (hb4.mono HB2.out.size))
        clear hb4
        go_wp2_with fail
        go_ret2
        exact ⟨by simp, HB4.out⟩
      · skip
        have H3 := Lib.hid (cut_yes (x :: F ++ (101 :: sg :: y :: Y)) w2)
        go_upto_region 6 with fail
        go_wp2_with fail
        refine H3.out.mono ?_
        rintro e w3 ⟨rfl, hww⟩
        replace hww := hww.symm
        subst hww
        have H4 := Lib.hid (digits_any x F (101 :: sg :: y :: Y) hx hF (show isDgB 101 = false by decide) w2)
        go_wp2_with fail
        refine H4.out.mono ?_
        rintro e w4 ⟨rfl, hb4⟩
        have HB4 := Lib.hid (HB2.out.trans (hb4.mono HB2.out.size))
        clear hb4
        have hsl1 := sl1 101 (sg :: y :: Y) (by simp at hl ⊢; omega)
        have hsl2 := sl1 sg (y :: Y) (by simp at hl ⊢; omega)
        have hor : (bits .or .u8 ((((⟨(101 :: sg :: y :: Y).toArray⟩ : ByteArray)[0]'(Nat.succ_pos _)).toNat : Nat) : Int) 32 == 101) = true := by
          show (bits .or .u8 101 32 == 101) = true
          decide +kernel
        obtain ⟨z, hge, h5⟩ := sign_any sg hsg w4
        have H5 := Lib.hid h5
        clear h5
        have H6 := Lib.hid (digits_any y Y [] hy hY trivial w4)
        rw [List.append_nil] at H6
        go_wp2_with fail
        refine H5.out.mono ?_
        rintro e w5 ⟨rfl, hww⟩
        replace hww := hww.symm
        subst hww
        go_wp2_with fail
        refine H6.out.mono ?_
        rintro e w6 ⟨rfl, hb6⟩
        have HB6 := Lib.hid (HB4.out.trans (hb6.mono HB4.out.size))
        clear hb6
        go_wp2_with fail
        go_ret2
        exact ⟨by simp, HB6.out⟩
  · clear hget hlt hlti hsz H1 H2 H2' hz hw
    have HB2 := Lib.hid hb2
    clear hb2
    rcases hf with rfl | ⟨x, F, rfl, hx, hF⟩
    · rcases he with rfl | ⟨sg, y, Y, rfl, hsg, hy, hY⟩
      · skip
        have H3 := Lib.hid (cut_no [] w2 (by intro t h; cases h))
        go_upto_region 6 with fail
        go_wp2_with fail
        refine H3.out.mono ?_
        rintro e w3 ⟨rfl, hww⟩
        replace hww := hww.symm
        subst hww
        go_wp2_with fail
        go_ret2
        exact ⟨by simp, HB2.out⟩
      · skip
        have H3 := Lib.hid (cut_no (101 :: sg :: y :: Y) w2 (by intro t h; cases h))
        go_upto_region 6 with fail
        go_wp2_with fail
        refine H3.out.mono ?_
        rintro e w3 ⟨rfl, hww⟩
        replace hww := hww.symm
        subst hww
        have hsl1 := sl1 101 (sg :: y :: Y) (by simp at hl ⊢; omega)
        have hsl2 := sl1 sg (y :: Y) (by simp at hl ⊢; omega)
        have hor : (bits .or .u8 ((((⟨(101 :: sg :: y :: Y).toArray⟩ : ByteArray)[0]'(Nat.succ_pos _)).toNat : Nat) : Int) 32 == 101) = true := by
          show (bits .or .u8 101 32 == 101) = true
          decide +kernel
        obtain ⟨z, hge, h5⟩ := sign_any sg hsg w2
        have H5 := Lib.hid h5
        clear h5
        have H6 := Lib.hid (digits_any y Y [] hy hY trivial w2)
        rw [List.append_nil] at H6
        go_wp2_with fail
        refine H5.out.mono ?_
        rintro e w5 ⟨rfl, hww⟩
        replace hww := hww.symm
        subst hww
        go_wp2_with fail
        refine H6.out.mono ?_
        rintro e w6 ⟨rfl, hb6⟩
        have HB6 := Lib.hid (HB2.out.trans (hb6.mono HB2.out.size))
        clear hb6
        go_wp2_with fail
        go_ret2
        exact ⟨by simp, HB6.out⟩
    · rcases he with rfl | ⟨sg, y, Y, rfl, hsg, hy, hY⟩
      · skip
        have H3 := Lib.hid (cut_yes (x :: F) w2)
        go_upto_region 6 with fail
        go_wp2_with fail
        refine H3.out.mono ?_
        rintro e w3 ⟨rfl, hww⟩
        replace hww := hww.symm
        subst hww
        have H4 := Lib.hid (digits_any x F [] hx hF trivial w2)
        rw [List.append_nil] at H4
        go_wp2_with fail
        refine H4.out.mono ?_
        rintro e w4 ⟨rfl, hb4⟩
        have HB4 := Lib.hid (HB2.out.trans (hb4.mono HB2.out.size))
        clear hb4
        go_wp2_with fail
        go_ret2
        exact ⟨by simp, HB4.out⟩
      · skip
        have H3 := Lib.hid (cut_yes (x :: F ++ (101 :: sg :: y :: Y)) w2)
        go_upto_region 6 with fail
        go_wp2_with fail
        refine H3.out.mono ?_
        rintro e w3 ⟨rfl, hww⟩
        replace hww := hww.symm
        subst hww
        have H4 := Lib.hid (digits_any x F (101 :: sg :: y :: Y) hx hF (show isDgB 101 = false by decide) w2)
        go_wp2_with fail
        refine H4.out.mono ?_
        rintro e w4 ⟨rfl, hb4⟩
        have HB4 := Lib.hid (HB2.out.trans (hb4.mono HB2.out.size))
        clear hb4
        have hsl1 := sl1 101 (sg :: y :: Y) (by simp at hl ⊢; omega)
        have hsl2 := sl1 sg (y :: Y) (by simp at hl ⊢; omega)
        have hor : (bits .or .u8 ((((⟨(101 :: sg :: y :: Y).toArray⟩ : ByteArray)[0]'(Nat.succ_pos _)).toNat : Nat) : Int) 32 == 101) = true := by
          show (bits .or .u8 101 32 == 101) = true
          decide +kernel
        obtain ⟨z, hge, h5⟩ := sign_any sg hsg w4
        have H5 := Lib.hid h5
        clear h5
        have H6 := Lib.hid (digits_any y Y [] hy hY trivial w4)
        rw [List.append_nil] at H6
        go_wp2_with fail
        refine H5.out.mono ?_
        rintro e w5 ⟨rfl, hww⟩
        replace hww := hww.symm
        subst hww
        go_wp2_with fail
        refine H6.out.mono ?_
        rintro e w6 ⟨rfl, hb6⟩
        have HB6 := Lib.hid (HB4.out.trans (hb6.mono HB4.out.size))
        clear hb6
        go_wp2_with fail
        go_ret2
        exact ⟨by simp, HB6.out⟩
end Go.Proofs.YtckaoeloofbklaaGreatDoor
