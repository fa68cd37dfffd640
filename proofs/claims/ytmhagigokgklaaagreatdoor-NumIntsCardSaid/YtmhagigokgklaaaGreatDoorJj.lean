/- Joined texts: Pj Pk Pm Pn Po Pl Pp. Each begins with its own remark. -/
import Derived.Test.YtmhagigokgklaaaGreatDoorJi
import Derived.Test.YtmhagigokgklaaaGreatDoorJg
import Derived.Test.YtmhagigokgklaaaGreatDoorJh
import Derived.Test.YtmhagigokgklaaaGreatDoorJf
import Derived.Deep.LoopGhost
import Derived.Lib.ConvBytes
import Derived.Lib.AtoiErrMem
import Derived.Laws.BitsAllLaws
import Derived.Lib.DecodeN
import Derived.Lib.MapLaws
import Derived.Test.YtmhagigokgklaaaGreatDoorJc
import Derived.Test.YtmhagigokgklaaaGreatDoorShelf
import Derived.Maps.OwnSet
import Derived.Maps.OwnOps

/- num.Parse but for its bases. -/
namespace Go.Proofs.YtmhagigokgklaaaGreatDoor
open Go Go.RowKit Go.Sort Go.Lib

theorem bars_none (l : List UInt8) (h : ∀ x ∈ l, x ≠ 95) : noBars l = l := by
  unfold noBars
  rw [List.filter_eq_self]
  intro x hx
  simpa using h x hx
theorem first_bar : ∀ l : List UInt8, (∀ x ∈ l, x ≠ 95) ∨ ∃ a b, l = a ++ 95 :: b ∧ ∀ x ∈ a, x ≠ 95
  | [] => .inl (by simp)
  | c :: l => by
    by_cases hc : c = 95
    · exact .inr ⟨[], l, by rw [hc]; rfl, by simp⟩
    · rcases first_bar l with h | ⟨a, b, h1, h2⟩
      · exact .inl (by intro x hx; rcases List.mem_cons.1 hx with h3 | h3; · rw [h3]; exact hc
                       · exact h x h3)
      · exact .inr ⟨c :: a, b, by rw [h1]; rfl, by intro x hx; rcases List.mem_cons.1 hx with h3 | h3; · rw [h3]; exact hc
                                                   · exact h2 x h3⟩
theorem replaceK_bars : ∀ (n : Nat) (l : List UInt8), l.length ≤ n → replaceK [95] [] (count l [95]) l = noBars l := by
  intro n
  induction n with
  | zero =>
    intro l hl
    have h0 : l = [] := List.length_eq_zero_iff.1 (by omega)
    subst h0
    rfl
  | succ n ih =>
    intro l hl
    rcases first_bar l with h | ⟨a, b, rfl, ha⟩
    · have hi : index l [95] = -1 := by rw [index_one, indexByte_not 95 l h]
      rw [count_miss hi, bars_none l h]; rfl
    · have hi : index (a ++ 95 :: b) [95] = (a.length : Nat) := by rw [index_one, indexByte_at 95 b a ha]
      have hc : count (a ++ 95 :: b) [95] = count b [95] + 1 := by
        rw [count_one, count_one, List.count_append, List.count_cons_self, List.count_eq_zero.2 (fun h => ha 95 h rfl)]; omega
      have hd : (a ++ 95 :: b).drop (a.length + [(95 : UInt8)].length) = b := by
        rw [show a ++ (95 : UInt8) :: b = (a ++ [95]) ++ b by simp]
        exact List.drop_left' (by simp)
      rw [hc, replaceK_hit _ _ _ _ _ hi, hd, ih b (by rw [List.length_append, List.length_cons] at hl; omega), List.take_left']
      · show a ++ [] ++ noBars b = noBars (a ++ 95 :: b)
        unfold noBars
        rw [List.filter_append, List.filter_cons, if_neg (by simp), List.append_nil]
        congr 1
        exact (bars_none a ha).symm
      · rfl
theorem replaceAll_bars (l : List UInt8) : replaceAll l [95] [] = noBars l := by
  unfold replaceAll replace replaceNum
  rw [if_neg (by decide), if_pos (.inl (by decide))]
  exact replaceK_bars _ l (Nat.le_refl _)

/-- bytes of decimal texts are of a class -/
theorem dec_class (l : List UInt8) (h : stN l ≠ 0) : ∀ x ∈ l, clsN x.toNat ≠ 0 := by
  revert h
  refine snoc_ind (P := fun l => stN l ≠ 0 → ∀ x ∈ l, clsN x.toNat ≠ 0) (fun _ x hx => by simp at hx) (fun l c ih h => ?_) l
  rw [stN_snoc] at h
  have h1 : stN l ≠ 0 := fun h2 => h (by rw [h2]; exact next_zero _ (cls_lt _))
  have h2 : clsN c.toNat ≠ 0 := fun h3 => h (by
    rw [h3]
    have key : ∀ q : Fin 13, nextN q.val 0 = 0 := by decide +kernel
    exact key ⟨_, stN_lt l⟩)
  intro x hx
  rcases List.mem_append.1 hx with h3 | h3
  · exact ih h1 x h3
  · rw [List.mem_singleton] at h3; rw [h3]; exact h2
theorem dec_st (l : List UInt8) (h : decB l = true) : stN l ≠ 0 := by
  intro h2
  unfold decB at h
  rw [h2] at h
  exact absurd h (by decide)
theorem dec_head1 (l : List UInt8) (h : decB l = true) : ∃ x t, l = x :: t ∧ x ≠ 45 := by
  cases l with
  | nil => exact absurd h (by decide)
  | cons x t =>
    refine ⟨x, t, rfl, ?_⟩
    rintro rfl
    have : stN (45 :: t) = 0 := by
      unfold stN
      rw [List.foldl_cons, show nextN 1 (clsN (45 : UInt8).toNat) = 0 from by decide]
      exact fold_zero t
    exact dec_st _ h this

theorem cls_low (c : Nat) (h : c < 256) (h1 : clsN c ≠ 0) : indexByte [120, 111, 98] (UInt8.ofNat (bits .or .u8 (c : Int) 32).toNat) = -1 := by
  have key : ∀ c : Fin 256, clsN c.val ≠ 0 → indexByte [120, 111, 98] (UInt8.ofNat (bits .or .u8 ((c.val : Nat) : Int) 32).toNat) = -1 := by decide +kernel
  exact key ⟨c, h⟩ h1

theorem run_copysign (r : Nat) (w : World) (h : r < 9223372036854775808) :
    Calls Tryz.prog 26 #[.float .f64 r, .float .f64 13830554455654793216] w fun e w' => e = .returned (.float .f64 (r + 9223372036854775808 : Nat)) ∧ w' = w := by
  have hb := run_mbits r
  have hb1 : ∀ W : World, (callFunc 27 #[.float .f64 13830554455654793216]).run Tryz.prog W = .ok (.value (.int .u64 13830554455654793216)) W := run_mbits 13830554455654793216
  have hf := run_mfrom (r + 9223372036854775808)
  have h1 : bits .andNot .u64 (r : Int) 9223372036854775808 = (r : Int) := by
    have h := u64_andNot_nat r 9223372036854775808 (by omega) (by decide)
    rw [show ((9223372036854775808 : Nat) : Int) = 9223372036854775808 from rfl] at h
    rw [h]
    congr 1
    have h3 : (r &&& (18446744073709551615 - 9223372036854775808)) = r := by
      rw [show 18446744073709551615 - 9223372036854775808 = 2 ^ 63 - 1 from by decide, Nat.and_two_pow_sub_one_eq_mod, Nat.mod_eq_of_lt (by omega)]
    exact h3
  have h2 : bits .and .u64 13830554455654793216 9223372036854775808 = 9223372036854775808 := by decide +kernel
  have h3 : bits .or .u64 (r : Int) 9223372036854775808 = ((r + 9223372036854775808 : Nat) : Int) := by
    have h := bits_or_u64_nat r 9223372036854775808 (by omega) (by decide)
    rw [show ((9223372036854775808 : Nat) : Int) = 9223372036854775808 from rfl] at h
    rw [h]
    congr 1
    rw [show (9223372036854775808 : Nat) = 2 ^ 63 * 1 from by decide, Nat.or_comm, ← Nat.two_pow_add_eq_or_of_lt (by omega)]
    omega
  generalize r + 9223372036854775808 = R at *
  go_enter Tryz.func26, Tryz.ntmps26
  go_wp2_with fail
  go_ret
  exact ⟨rfl, rfl⟩

/-- the sign's bytes -/
def sgB (neg : Bool) : List UInt8 := if neg then [45] else []
def sgW (neg : Bool) : Nat := if neg then 9223372036854775808 else 0
/-- what Parse hands back -/
def PaPost (X Q : Nat) (neg : Bool) (w : World) (e : Ending) (w' : World) : Prop := ∃ r, Near X Q r ∧ e = .returned (.tuple #[.int .u64 (r + sgW neg : Nat), .int .i64 0]) ∧ Below w.heap.size w w'

theorem cutp_run (s : ByteArray) (neg : Bool) (l : List UInt8) (w : World) (hs : s.data.toList = sgB neg ++ l) (hl : neg = false → l.head? ≠ some 45) :
    Calls Tryz.prog 19 #[.string s, .string ⟨#[45]⟩] w fun e w' => e = .returned (.tuple #[.string ⟨l.toArray⟩, .bool neg]) ∧ w' = w := by
  have h := Tryz.strings_CutPrefix s ⟨#[45]⟩ w
  have hp : hasPrefix s.data.toList (⟨#[45]⟩ : ByteArray).data.toList = neg := by
    rw [hs]
    cases neg with
    | true => rfl
    | false =>
      show hasPrefix l [45] = false
      cases l with
      | nil => rfl
      | cons x t =>
        have := hl rfl
        simp only [List.head?_cons, ne_eq, Option.some.injEq] at this
        show ([45] : List UInt8).isPrefixOf (x :: t) = false
        simp only [List.isPrefixOf, Bool.and_true]
        exact beq_eq_false_iff_ne.2 fun h => this h.symm
  have ht : trimPrefix s.data.toList (⟨#[45]⟩ : ByteArray).data.toList = l := by
    unfold trimPrefix
    rw [hp, hs]
    cases neg <;> rfl
  rw [hp, ht] at h
  exact h

theorem rep_run (l : List UInt8) (w : World) (hg : Globs w) (hl : l.length ≤ 1000) :
    Calls Tryz.prog 25 #[.string ⟨l.toArray⟩, .string ⟨#[95]⟩, .string ⟨#[]⟩] w fun e w' => e = .returned (.string ⟨(noBars l).toArray⟩) ∧ Below w.heap.size w w' := by
  obtain ⟨m, hm⟩ := hg.mlen
  refine (Tryz.strings_ReplaceAll ⟨l.toArray⟩ ⟨#[95]⟩ ⟨#[]⟩ m w (by rw [ba_size]; omega) hm (by decide) (by rw [ba_size, show (⟨#[]⟩ : ByteArray).size = 0 from rfl]; omega)).mono ?_
  rintro e w' ⟨he, hb⟩
  rw [show (⟨#[95]⟩ : ByteArray).data.toList = [95] from rfl, show (⟨#[]⟩ : ByteArray).data.toList = [] from rfl, replaceAll_bars] at he
  exact ⟨he, hb⟩

theorem near_lt63 {X Q r : Nat} (h : Near X Q r) : r < 9223372036854775808 := by
  have := h.inf
  unfold INF at this
  omega

set_option maxRecDepth 100000 in
set_option maxHeartbeats 4000000 in
theorem parse_dec (s : ByteArray) (neg : Bool) (l : List UInt8) (X Q K : Nat) (w : World) (hG : Globs w) (hT : GlobT K w) (hs : s.data.toList = sgB neg ++ l) (hlen : s.size ≤ 400) (hd : decB l = true)
    (hpf : ∀ W : World, Globs W → GlobT K W → Calls Tryz.prog 23 #[.string ⟨(noBars l).toArray⟩, .int .i64 64] W (PlPost X Q W)) :
    Calls Tryz.prog 11 #[.string s] w (PaPost X Q neg w) := by
  obtain ⟨x0, tl, hl0, hx0⟩ := dec_head1 l hd
  have hll : l.length ≤ 400 := by
    have : s.size = s.data.toList.length := by simp
    rw [hs, List.length_append] at this
    omega
  have hcl := dec_class l (dec_st l hd)
  have HCP := Lib.hid (cutp_run s neg l w hs (fun _ => by rw [hl0]; simpa using hx0))
  have HDE : Hid (∀ W : World, Calls Tryz.prog 24 #[.string ⟨l.toArray⟩] W fun e w' => e = .returned (.bool true) ∧ Below W.heap.size W w') := Lib.hid fun W => by
    have := decimal_any ⟨l.toArray⟩ W (by rw [ba_size]; omega)
    rw [show (⟨l.toArray⟩ : ByteArray).data.toList = l from rfl, hd] at this
    exact this
  have HRE := Lib.hid (fun (W : World) (h : Globs W) => rep_run l W h (by omega))
  have HPF := Lib.hid hpf
  have h400 : decide ((400 : Int) < (s.size : Int)) = false := by rw [decide_eq_false_iff_not]; omega
  have hnan0 : (l == [78, 97, 78]) = false := by
    rw [beq_eq_false_iff_ne]
    rintro rfl
    exact absurd (hcl 78 (by simp)) (by decide)
  have hinf0 : (l == [73, 110, 102, 105, 110, 105, 116, 121]) = false := by
    rw [beq_eq_false_iff_ne]
    rintro rfl
    exact absurd (hcl 73 (by simp)) (by decide)
  obtain ⟨T, hT0⟩ : ∃ T : ByteArray, T = ⟨l.toArray⟩ := ⟨_, rfl⟩
  have htsz : T.size = l.length := by rw [hT0]; rfl
  have hnan : (T.toList == [78, 97, 78]) = false := by rw [ByteArray.toList_eq, hT0]; exact hnan0
  have hinf : (T.toList == [73, 110, 102, 105, 110, 105, 116, 121]) = false := by rw [ByteArray.toList_eq, hT0]; exact hinf0
  have HIX : Hid (∀ (h : 1 < T.size) (W : World), Calls Tryz.prog 21 #[.string ⟨#[120, 111, 98]⟩, .int .u8 (bits .or .u8 ((T[1].toNat : Nat) : Int) 32)] W fun e w' => e = .returned (.int .i64 (-1)) ∧ w' = W) := Lib.hid fun h W => by
    have hc := cls_low T[1].toNat T[1].toNat_lt (hcl _ (by subst hT0; exact List.getElem_mem (l := l) (n := 1) (by rw [ba_size] at h; exact h)))
    have := Tryz.strings_IndexByte ⟨#[120, 111, 98]⟩ (bits .or .u8 ((T[1].toNat : Nat) : Int) 32) W
    rw [show (⟨#[120, 111, 98]⟩ : ByteArray).data.toList = [120, 111, 98] from rfl] at this
    rw [show indexByte [120, 111, 98] (bits .or .u8 ((T[1].toNat : Nat) : Int) 32).toNat.toUInt8 = -1 from hc] at this
    exact this
  rw [← hT0] at HCP HDE HRE
  have hGS := Lib.hid hG
  have hTS := Lib.hid hT
  have hcases : T.size ≤ 2 ∨ (∃ h : 2 < T.size, (((T[0]'(Nat.lt_trans (by decide) h)).toNat : Int) == 48) = false) ∨ (∃ h : 2 < T.size, (((T[0]'(Nat.lt_trans (by decide) h)).toNat : Int) == 48) = true) := by
    by_cases h : 2 < T.size
    · right
      cases h2 : (((T[0]'(Nat.lt_trans (by decide) h)).toNat : Int) == 48)
      · exact .inl ⟨h, h2⟩
      · exact .inr ⟨h, h2⟩
    · left; omega
  clear hG hT hpf hs hd hcl hl0 hT0 hll hnan0 hinf0
  rcases hcases with h2 | ⟨h2, t48⟩ | ⟨h2, t48⟩
  all_goals
    have HLN := Lib.hid htsz
    clear htsz
    go_enter Tryz.func11, Tryz.ntmps11
    go_wp2_with fail
    refine HCP.out.mono ?_
    rintro e w ⟨rfl, rfl⟩
    go_wp2_with (go_at_call 21; refine (HIX.out (by omega) _).mono ?_; rintro e w ⟨rfl, rfl⟩)
    refine (HDE.out _).mono ?_
    rintro e w1 ⟨rfl, hb1⟩
    have HB1 := Lib.hid hb1
    clear hb1
    go_wp2_with fail
    refine (HRE.out _ (hGS.out.on HB1.out)).mono ?_
    rintro e w2 ⟨rfl, hb2⟩
    have HB2 : Hid (Below w.heap.size w w2) := Lib.hid (HB1.out.trans (hb2.mono HB1.out.size))
    clear hb2
    go_wp2_with fail
    refine (HPF.out _ (hGS.out.on HB2.out) (hTS.out.on HB2.out)).mono ?_
    rintro e w3 ⟨r, ev, hn, rfl, hb3⟩
    have HB3 : Hid (Below w.heap.size w w3) := Lib.hid (HB2.out.trans (hb3.mono HB2.out.size))
    have HN := Lib.hid hn
    have HCS := Lib.hid (fun (W : World) => run_copysign r W (near_lt63 hn))
    have hmb : ∀ W : World, (callFunc 27 #[.float .f64 r]).run Tryz.prog W = .ok (.value (.int .u64 r)) W := run_mbits r
    have hmb2 : ∀ W : World, (callFunc 27 #[.float .f64 (r + 9223372036854775808 : Nat)]).run Tryz.prog W = .ok (.value (.int .u64 (r + 9223372036854775808 : Nat))) W := run_mbits (r + 9223372036854775808)
    clear hb3 hn
    obtain ⟨R2, hR2⟩ : ∃ R2 : Nat, R2 = r + 9223372036854775808 := ⟨_, rfl⟩
    rw [← hR2] at HCS hmb2
    have HR2 := Lib.hid hR2
    clear hR2
    cases neg
    · go_wp2_with fail
      refine bodyPost_ret (v := .tuple #[.int .u64 r, .int .i64 0]) (by simp [results, Tryz.results11, go_sem]) rfl ⟨r, HN.out, rfl, HB3.out⟩
    · go_wp2_with fail
      refine (HCS.out _).mono ?_
      rintro e w4 ⟨rfl, hw4⟩
      subst hw4
      go_wp2_with fail
      refine bodyPost_ret (v := .tuple #[.int .u64 R2, .int .i64 0]) (by simp [results, Tryz.results11, go_sem]) rfl ⟨r, HN.out, by rw [HR2.out]; rfl, HB3.out⟩
end Go.Proofs.YtmhagigokgklaaaGreatDoor

/- num.Parse of decimal texts of at most 19 digits; what is refused, and what is no number. -/
namespace Go.Proofs.YtmhagigokgklaaaGreatDoor
open Go Go.RowKit Go.Sort Go.Lib

/-- l (with bars) is digits D times ten to the power p -/
def DecIs (l D : List UInt8) (p : Int) : Prop := ∃ W F dot M, MantF M W F dot ∧ W ++ F ≠ [] ∧ D = W ++ F ∧
  ((noBars l = M ∧ p = -(F.length : Int)) ∨ ∃ eb sg X, PowF (powT eb sg X) eb sg X ∧ X ≠ [] ∧ noBars l = M ++ powT eb sg X ∧ p = (exF X : Int) * sgZ sg - F.length)

theorem decIs_of (l : List UInt8) (h : decB l = true) : ∃ D p, DecIs l D p := by
  obtain ⟨W, F, d, M, h1, h2, _, h3 | ⟨eb, sg, X, h4, h5, h6⟩⟩ := dec_form l h
  · exact ⟨_, _, W, F, d, M, h1, h2, rfl, .inl ⟨h3, rfl⟩⟩
  · exact ⟨_, _, W, F, d, M, h1, h2, rfl, .inr ⟨eb, sg, X, h4, h5, h6, rfl⟩⟩

/-- few digits are held whole -/
theorem rf_small (M W F : List UInt8) (dot : Bool) (h : MantF M W F dot) (h19 : (dropZ (W ++ F)).length ≤ 19) (x : Int) :
    (rfF 10 19 M).mant = dvl 10 (W ++ F) ∧ (rfF 10 19 M).tr = false ∧ (rfF 10 19 M).mant < 10 ^ 19 ∧ ((rfF 10 19 M).mant ≠ 0 → rfExp (rfF 10 19 M) x = x - F.length) := by
  obtain ⟨i, hd, he, _, _⟩ := rf_mant 10 19 M W F dot h.eq (fun x hx => dig_ne46 (h.w x hx)) (fun x hx => dig_ne46 (h.f x hx)) h.nodot
  have hall : ∀ x ∈ W ++ F, isDig x := fun x hx => (List.mem_append.1 hx).elim (h.w x) (h.f x)
  have hm : (rfF 10 19 M).mant = dvl 10 (dropZ (W ++ F)) := by rw [i.mant, List.take_of_length_le h19]
  refine ⟨by rw [hm, dvl_dropZ], by rw [i.tr, List.drop_eq_nil_of_le h19]; rfl, ?_, ?_⟩
  · rw [hm]
    refine Nat.lt_of_lt_of_le (dvl_lt 10 (by decide) _ fun x hx => okD_dv (by decide) (.inl (hall x ((List.dropWhile_sublist _).subset hx)))) (Nat.pow_le_pow_right (by decide) h19)
  · intro h0
    unfold rfExp
    rw [if_neg h0]
    have h1 := i.nd
    have h2 := i.nm
    omega

theorem ba_of (l : List UInt8) : (⟨l.toArray⟩ : ByteArray).data.toList = l := rfl
theorem ba_first (M R : List UInt8) (W F : List UInt8) (dot : Bool) (h : MantF M W F dot) (hne : W ++ F ≠ []) : ∃ h0 : 0 < (⟨(M ++ R).toArray⟩ : ByteArray).size, (⟨(M ++ R).toArray⟩ : ByteArray)[0].toNat = 46 ∨ (48 ≤ (⟨(M ++ R).toArray⟩ : ByteArray)[0].toNat ∧ (⟨(M ++ R).toArray⟩ : ByteArray)[0].toNat ≤ 57) := by
  have hmem := mant_mem 10 M W F dot h.eq (fun x hx => .inl (h.w x hx)) (fun x hx => .inl (h.f x hx))
  cases M with
  | nil =>
    exfalso
    have := h.eq
    unfold mantT at this
    cases W with
    | cons x t => simp at this
    | nil =>
      cases dot with
      | true => simp at this
      | false => rw [h.nodot rfl] at hne; simp at hne
  | cons x t =>
    have h0 : 0 < (⟨(x :: t ++ R).toArray⟩ : ByteArray).size := by rw [ba_size]; simp
    refine ⟨h0, ?_⟩
    have hx : (⟨(x :: t ++ R).toArray⟩ : ByteArray)[0] = x := rfl
    rw [hx]
    rcases hmem x (by simp) with h1 | h1 | h1
    · left; rw [h1]; rfl
    · exact .inr h1
    · exact absurd h1.1 (by decide)

/-- at nought the power does not matter -/
theorem near_pow {d : Nat} {p q : Int} {r : Nat} (h : Near (dX d p) (dQ p) r) (he : d ≠ 0 → p = q) : Near (dX d q) (dQ q) r := by
  by_cases h0 : d = 0
  · subst h0
    obtain rfl := near_unique h (zero_near p)
    exact zero_near q
  · rw [← he h0]; exact h

theorem noBars_len (l : List UInt8) : (noBars l).length ≤ l.length := List.length_filter_le _ _

theorem pfloat_small (l D : List UInt8) (p : Int) (K : Nat) (w : World) (hG : Globs w) (hT : GlobT K w) (hl : l.length ≤ 1000) (hi : DecIs l D p) (h19 : (dropZ D).length ≤ 19) :
    Calls Tryz.prog 23 #[.string ⟨(noBars l).toArray⟩, .int .i64 64] w (PlPost (dX (dvl 10 D) p) (dQ p) w) := by
  obtain ⟨W, F, dot, M, hM, hne, rfl, hx⟩ := hi
  have hnl := noBars_len l
  refine pfloat_of _ _ _ K w hT (by rw [ba_size]; omega) ?_
  rcases hx with ⟨h1, rfl⟩ | ⟨eb, sg, X, hp, hX, h1, rfl⟩
  · rw [h1] at hnl ⊢
    obtain ⟨e1, e2, e3, e4⟩ := rf_small M W F dot hM h19 0
    have hz := ba_first M [] W F dot hM hne
    rw [List.append_nil] at hz
    obtain ⟨h0, hb⟩ := hz
    have hrf := rf_plain ⟨M.toArray⟩ w (by rw [ba_size]; omega) W F dot (by rw [ba_of]; exact hM) hne
    rw [ba_of, e2] at hrf
    have := atof_dec ⟨M.toArray⟩ _ K _ w hG.glob hT h0 (by rw [ba_size]; omega) hb e3 hrf
    refine this.mono ?_
    rintro e w' ⟨r, hn, he, hb⟩
    refine ⟨r, ?_, he, hb⟩
    rw [e1] at hn e4
    exact near_pow hn fun h => by rw [e4 h, Int.zero_sub]
  · rw [h1] at hnl ⊢
    obtain ⟨e1, e2, e3, e4⟩ := rf_small M W F dot hM h19 ((exF X : Int) * sgZ sg)
    obtain ⟨h0, hb⟩ := ba_first M (powT eb sg X) W F dot hM hne
    have hrf := rf_pow ⟨(M ++ powT eb sg X).toArray⟩ w (by rw [ba_size]; omega) M W F dot eb sg X hM hne hp hX (ba_of _)
    rw [e2] at hrf
    have := atof_dec ⟨(M ++ powT eb sg X).toArray⟩ _ K _ w hG.glob hT h0 (by rw [ba_size]; omega) hb e3 hrf
    refine this.mono ?_
    rintro e w' ⟨r, hn, he, hb⟩
    refine ⟨r, ?_, he, hb⟩
    rw [e1] at hn e4
    exact near_pow hn fun h => e4 h

theorem parse_small (s : ByteArray) (neg : Bool) (l D : List UInt8) (p : Int) (K : Nat) (w : World) (hG : Globs w) (hT : GlobT K w) (hs : s.data.toList = sgB neg ++ l) (hlen : s.size ≤ 400) (hd : decB l = true) (hi : DecIs l D p) (h19 : (dropZ D).length ≤ 19) :
    Calls Tryz.prog 11 #[.string s] w (PaPost (dX (dvl 10 D) p) (dQ p) neg w) := by
  have hll : l.length ≤ 400 := by
    have : s.size = s.data.toList.length := by simp
    rw [hs, List.length_append] at this
    omega
  exact parse_dec s neg l _ _ K w hG hT hs hlen hd fun W hg ht => pfloat_small l D p K W hg ht (by omega) hi h19

/-- what is refused is refused so -/
def NoPost (w : World) (e : Ending) (w' : World) : Prop := e = .returned (.tuple #[.int .u64 0, .int .i64 150]) ∧ Below w.heap.size w w'

set_option maxRecDepth 100000 in
set_option maxHeartbeats 4000000 in
theorem parse_long (s : ByteArray) (w : World) (h : 400 < s.size) (_hs : s.size ≤ 281474976710656) :
    Calls Tryz.prog 11 #[.string s] w (NoPost w) := by
  have HCP := Lib.hid (Tryz.strings_CutPrefix s ⟨#[45]⟩ w)
  have h400 : (400 : Int) < (s.size : Int) := by omega
  go_enter Tryz.func11, Tryz.ntmps11
  go_wp2_with fail
  refine HCP.out.mono ?_
  rintro e w ⟨rfl, rfl⟩
  go_wp2_with fail
  refine bodyPost_ret (v := .tuple #[.int .u64 0, .int .i64 150]) (by simp [results, Tryz.results11, go_sem]) rfl ⟨rfl, Below.refl _ _⟩

set_option maxRecDepth 100000 in
set_option maxHeartbeats 4000000 in
theorem parse_nan (s : ByteArray) (neg : Bool) (w : World) (hs : s.data.toList = sgB neg ++ [78, 97, 78]) :
    Calls Tryz.prog 11 #[.string s] w fun e w' => e = .returned (.tuple #[.int .u64 9221120237041090560, .int .i64 0]) ∧ Below w.heap.size w w' := by
  have hsz : s.size ≤ 4 := by
    have : s.size = s.data.toList.length := by simp
    rw [this, hs]; cases neg <;> decide
  have HCP := Lib.hid (cutp_run s neg _ w hs (fun _ => by decide))
  have h400 : decide ((400 : Int) < (s.size : Int)) = false := by rw [decide_eq_false_iff_not]; omega
  clear hs
  go_enter Tryz.func11, Tryz.ntmps11
  go_wp2_with fail
  refine HCP.out.mono ?_
  rintro e w ⟨rfl, rfl⟩
  go_wp2_with fail
  refine bodyPost_ret (v := .tuple #[.int .u64 9221120237041090560, .int .i64 0]) (by simp [results, Tryz.results11, go_sem]) rfl ⟨rfl, Below.refl _ _⟩

theorem run_inf (w : World) : Calls Tryz.prog 20 #[.int .i64 1] w fun e w' => e = .returned (.float .f64 9218868437227405312) ∧ w' = w := by
  have hf : ∀ W : World, (callFunc 34 #[.int .u64 9218868437227405312]).run Tryz.prog W = .ok (.value (.float .f64 9218868437227405312)) W := run_mfrom 9218868437227405312
  go_enter Tryz.func20, Tryz.ntmps20
  go_wp2_with fail
  go_ret
  exact ⟨rfl, rfl⟩

set_option maxRecDepth 100000 in
set_option maxHeartbeats 4000000 in
theorem parse_inf (s : ByteArray) (neg : Bool) (w : World) (hs : s.data.toList = sgB neg ++ [73, 110, 102, 105, 110, 105, 116, 121]) :
    Calls Tryz.prog 11 #[.string s] w fun e w' => e = .returned (.tuple #[.int .u64 (9218868437227405312 + sgW neg : Nat), .int .i64 0]) ∧ Below w.heap.size w w' := by
  have hsz : s.size ≤ 9 := by
    have : s.size = s.data.toList.length := by simp
    rw [this, hs]; cases neg <;> decide
  have HCP := Lib.hid (cutp_run s neg _ w hs (fun _ => by decide))
  have HIN := Lib.hid run_inf
  have HCS : Hid (∀ W : World, Calls Tryz.prog 26 #[.float .f64 9218868437227405312, .float .f64 13830554455654793216] W fun e w' => e = .returned (.float .f64 18442240474082181120) ∧ w' = W) := Lib.hid fun W => run_copysign 9218868437227405312 W (by decide)
  have hmb : ∀ W : World, (callFunc 27 #[.float .f64 9218868437227405312]).run Tryz.prog W = .ok (.value (.int .u64 9218868437227405312)) W := run_mbits 9218868437227405312
  have hmb2 : ∀ W : World, (callFunc 27 #[.float .f64 18442240474082181120]).run Tryz.prog W = .ok (.value (.int .u64 18442240474082181120)) W := run_mbits 18442240474082181120
  have h400 : decide ((400 : Int) < (s.size : Int)) = false := by rw [decide_eq_false_iff_not]; omega
  clear hs
  cases neg
  · go_enter Tryz.func11, Tryz.ntmps11
    go_wp2_with fail
    refine HCP.out.mono ?_
    rintro e w ⟨rfl, rfl⟩
    go_wp2_with fail
    refine (HIN.out _).mono ?_
    rintro e w ⟨rfl, rfl⟩
    go_wp2_with fail
    refine bodyPost_ret (v := .tuple #[.int .u64 9218868437227405312, .int .i64 0]) (by simp [results, Tryz.results11, go_sem]) rfl ⟨rfl, Below.refl _ _⟩
  · go_enter Tryz.func11, Tryz.ntmps11
    go_wp2_with fail
    refine HCP.out.mono ?_
    rintro e w ⟨rfl, rfl⟩
    go_wp2_with fail
    refine (HIN.out _).mono ?_
    rintro e w ⟨rfl, rfl⟩
    go_wp2_with fail
    refine (HCS.out _).mono ?_
    rintro e w ⟨rfl, rfl⟩
    go_wp2_with fail
    refine bodyPost_ret (v := .tuple #[.int .u64 18442240474082181120, .int .i64 0]) (by simp [results, Tryz.results11, go_sem]) rfl ⟨rfl, Below.refl _ _⟩
end Go.Proofs.YtmhagigokgklaaaGreatDoor

/- FormatInt of base 2, FormatUint of base 16, of small numbers. -/
namespace Go.Proofs.YtmhagigokgklaaaGreatDoor
open Go Go.RowKit Go.Sort Go.Lib

/-- digits of the base 2 -/
def binD (u : Nat) : List UInt8 := if h : u < 2 then [UInt8.ofNat (48 + u)] else binD (u / 2) ++ [UInt8.ofNat (48 + u % 2)]
termination_by u
decreasing_by omega

set_option maxRecDepth 100000 in
set_option maxHeartbeats 4000000 in
theorem tz_2 (K : Nat) (w : World) (hT : GlobT K w) :
    Calls Tryz.prog 174 #[.int .u64 2] w fun e w' => e = .returned (.int .i64 1) ∧ w' = w := by
  obtain ⟨d1, d2⟩ := hT.deb
  have h1 : bits .and .u64 2 (IntKind.u64.wrap (-2)) = 2 := by decide +kernel
  have h2 : IntKind.u64.wrap (2 * 285870213051353865) = 571740426102707730 := by decide +kernel
  have h3 : (571740426102707730 : Int) / 288230376151711744 = 1 := by decide +kernel
  go_enter Tryz.func174, Tryz.ntmps174
  go_wp2_with fail
  go_ret
  exact ⟨rfl, rfl⟩
set_option maxRecDepth 100000 in
set_option maxHeartbeats 4000000 in
theorem tz_16 (K : Nat) (w : World) (hT : GlobT K w) :
    Calls Tryz.prog 174 #[.int .u64 16] w fun e w' => e = .returned (.int .i64 4) ∧ w' = w := by
  obtain ⟨d1, d2⟩ := hT.deb
  have h1 : bits .and .u64 16 (IntKind.u64.wrap (-16)) = 16 := by decide +kernel
  have h2 : IntKind.u64.wrap (16 * 285870213051353865) = 4573923408821661840 := by decide +kernel
  have h3 : (4573923408821661840 : Int) / 288230376151711744 = 15 := by decide +kernel
  go_enter Tryz.func174, Tryz.ntmps174
  go_wp2_with fail
  go_ret
  exact ⟨rfl, rfl⟩
theorem tzz_2 (K : Nat) (w : World) (hT : GlobT K w) :
    Calls Tryz.prog 140 #[.int .u64 2] w fun e w' => e = .returned (.int .i64 1) ∧ w' = w := by
  have HT := Lib.hid (tz_2 K w hT)
  go_enter Tryz.func140, Tryz.ntmps140
  go_wp2_with fail
  refine HT.out.mono ?_
  rintro e w ⟨rfl, rfl⟩
  go_wp2_with fail
  go_ret
  exact ⟨rfl, rfl⟩
theorem tzz_16 (K : Nat) (w : World) (hT : GlobT K w) :
    Calls Tryz.prog 140 #[.int .u64 16] w fun e w' => e = .returned (.int .i64 4) ∧ w' = w := by
  have HT := Lib.hid (tz_16 K w hT)
  go_enter Tryz.func140, Tryz.ntmps140
  go_wp2_with fail
  refine HT.out.mono ?_
  rintro e w ⟨rfl, rfl⟩
  go_wp2_with fail
  go_ret
  exact ⟨rfl, rfl⟩
theorem pow2_2 (w : World) : Calls Tryz.prog 139 #[.int .i64 2] w fun e w' => e = .returned (.bool true) ∧ w' = w := by
  have h1 : bits .and .i64 2 1 = 0 := by decide +kernel
  go_enter Tryz.func139, Tryz.ntmps139
  go_wp2_with fail
  go_ret
  exact ⟨rfl, rfl⟩
theorem pow2_16 (w : World) : Calls Tryz.prog 139 #[.int .i64 16] w fun e w' => e = .returned (.bool true) ∧ w' = w := by
  have h1 : bits .and .i64 16 15 = 0 := by decide +kernel
  go_enter Tryz.func139, Tryz.ntmps139
  go_wp2_with fail
  go_ret
  exact ⟨rfl, rfl⟩

def z65 : Array Value := Array.replicate 65 (.int .u8 0)
/-- the array that digits are written into, from its end -/
def BufAt (w : World) (g : Nat) (i : Nat) (l : List UInt8) : Prop := ∃ cur : Array Value, w.heap[g]? = some (.cells cur 162 (0, 0)) ∧ cur.size = 65 ∧ i + l.length = 65 ∧ cur.toList.drop i = l.map encB

theorem BufAt.put {w : World} {g i : Nat} {l : List UInt8} (h : BufAt w g (i + 1) l) (x : UInt8) : BufAt (w.setCell ⟨g, i, Option.none⟩ (.int .u8 (x.toNat : Int))) g i (x :: l) := by
  obtain ⟨cur, h1, h2, h3, h4⟩ := h
  refine ⟨_, setCell_heap h1 _, by simpa using h2, by rw [List.length_cons]; omega, ?_⟩
  have hlt : i < cur.toList.length := by simpa [h2] using (by omega : i < 65)
  rw [show (cur.setIfInBounds i (.int .u8 (x.toNat : Int))).toList = cur.toList.set i (.int .u8 (x.toNat : Int)) by simp, List.drop_eq_getElem_cons (by simpa using hlt), List.getElem_set_self, List.drop_set_of_lt (by omega), h4]
  rfl
theorem BufAt.text {w : World} {g i : Nat} {l : List UInt8} (h : BufAt w g i l) (c : Nat) : (convert 34 9 (.slice (some ⟨g, i, Option.none⟩) l.length c)).run Tryz.prog w = .ok (.string ⟨l.toArray⟩) w := by
  obtain ⟨cur, h1, h2, h3, h4⟩ := h
  rw [← strOf_map]
  refine run_convert_bytes_arg w _ _ Tryz.underlying34 Tryz.underlying5 g i l.length c (l.map fun x => (x.toNat : Int)) (by simp) (fun j hj => ?_) _ Tryz.underlying9
  rw [cell_of_row w g (i + j) _ _ _ h1]
  have h8 := congrArg (fun q : List Value => q[j]?) h4
  simp only [List.getElem?_drop, Array.getElem?_toList] at h8
  rw [h8]
  simp [encB, hj]
theorem BufAt.start (w : World) : BufAt (w.alloc (.cells z65 162)) w.heap.size 65 [] := ⟨z65, heap_alloc_new _ _, by simp [z65], rfl, by simp [z65]⟩
theorem BufAt.frozen {w : World} {g i : Nat} {l : List UInt8} (h : BufAt w g i l) (o : Nat) : w.frozen? ⟨g, o, Option.none⟩ = false := by
  obtain ⟨cur, h1, _⟩ := h
  simp [World.frozen?, h1]
theorem BufAt.cell {w : World} {g i : Nat} {l : List UInt8} (h : BufAt w g i l) (o : Nat) (ho : o < 65) : ∃ v, w.cell? ⟨g, o, Option.none⟩ = some v := by
  obtain ⟨cur, h1, h2, _⟩ := h
  rw [cell_of_row w g o _ _ _ h1, Array.getElem?_eq_getElem (by omega)]
  exact ⟨_, rfl⟩

def DG : ByteArray := ⟨#[48, 49, 50, 51, 52, 53, 54, 55, 56, 57, 97, 98, 99, 100, 101, 102, 103, 104, 105, 106, 107, 108, 109, 110, 111, 112, 113, 114, 115, 116, 117, 118, 119, 120, 121, 122]⟩
theorem z65_is : Tryz.zeroCells162 = z65 := by kernel_rfl

set_option maxRecDepth 100000 in
set_option maxHeartbeats 4000000 in
theorem fbits_16 (u : Nat) (K : Nat) (w : World) (hT : GlobT K w) (hu : u < 16) :
    Calls Tryz.prog 110 #[.slice Option.none 0 0, .int .u64 u, .int .i64 16, .bool false, .bool false] w fun e w' => ∃ h : u < DG.size, e = .returned (.tuple #[.slice Option.none 0 0, .string ⟨[DG[u]].toArray⟩]) ∧ Below w.heap.size w w' := by
  have HP := Lib.hid pow2_16
  have hal : Below w.heap.size w (w.alloc (.cells z65 162)) := (Below.refl _ _).alloc (Nat.le_refl _) _
  have HZ := Lib.hid (tzz_16 K _ (hT.on hal))
  have HAL := Lib.hid hal
  have HBS := Lib.hid (BufAt.start w)
  have hud : u < DG.size := Nat.lt_trans hu (by decide)
  clear hT hal
  go_enter Tryz.func110, Tryz.ntmps110
  go_wp2_with fail
  refine (HP.out _).mono ?_
  rintro e w1 ⟨rfl, hw⟩
  rw [z65_is] at hw
  subst hw
  go_wp2_with fail
  refine HZ.out.mono ?_
  rintro e w2 ⟨rfl, hw2⟩
  have hbs := HBS.out
  rw [← hw2] at hbs
  have HW2 := Lib.hid hw2
  obtain ⟨c64, hc64⟩ := hbs.cell 64 (by decide)
  have hf64 := hbs.frozen 64
  have HBS2 := Lib.hid hbs
  clear hw2 hbs
  go_wp2_with fail
  go_loopw [1, 13] (fun s1 s13 wr => s1 = .int .u64 u ∧ s13 = .int .i64 65 ∧ wr = w2) (fun _ _ _ => 0)
  case atStart => exact ⟨rfl, rfl, rfl⟩
  case round =>
    obtain ⟨rfl, rfl, rfl⟩ := hrel
    have hcv : (convert 34 9 (.slice (some ⟨w.heap.size, 64, Option.none⟩) 1 1)).run Tryz.prog (wr.setCell ⟨w.heap.size, 64, Option.none⟩ (.int .u8 ((((⟨#[48, 49, 50, 51, 52, 53, 54, 55, 56, 57, 97, 98, 99, 100, 101, 102, 103, 104, 105, 106, 107, 108, 109, 110, 111, 112, 113, 114, 115, 116, 117, 118, 119, 120, 121, 122]⟩ : ByteArray)[u]'hud).toNat : Nat) : Int))) = .ok (.string ⟨[DG[u]'hud].toArray⟩) (wr.setCell ⟨w.heap.size, 64, Option.none⟩ (.int .u8 ((((⟨#[48, 49, 50, 51, 52, 53, 54, 55, 56, 57, 97, 98, 99, 100, 101, 102, 103, 104, 105, 106, 107, 108, 109, 110, 111, 112, 113, 114, 115, 116, 117, 118, 119, 120, 121, 122]⟩ : ByteArray)[u]'hud).toNat : Nat) : Int))) := (HBS2.out.put (DG[u]'hud)).text 1
    have HBL : Hid (∀ v, Below w.heap.size w (wr.setCell ⟨w.heap.size, 64, Option.none⟩ v)) := Lib.hid fun v => by
      rw [HW2.out]
      exact HAL.out.setCell (p := ⟨w.heap.size, 64, Option.none⟩) (Nat.le_refl _) v
    obtain ⟨R, hR⟩ : ∃ R : ByteArray, R = ⟨[DG[u]'hud].toArray⟩ := ⟨_, rfl⟩
    rw [← hR] at hcv
    have HR := Lib.hid hR
    clear hR
    go_wp2_with fail
    erw [hcv]
    simp only [Result.andThen]
    rw [Oper.upon_value]
    go_wp2_with fail
    refine bodyPost_ret (v := .tuple #[.slice Option.none 0 0, .string R]) (by simp [results, Tryz.results110, go_sem]) rfl ⟨hud, by rw [HR.out], HBL.out _⟩

theorem addr_zero (b j : Nat) : Addr.add ⟨b, 0, Option.none⟩ j = ⟨b, j, Option.none⟩ := by unfold Addr.add; split <;> simp_all
theorem binD_lt (u : Nat) (h : u < 2) : binD u = [UInt8.ofNat (48 + u)] := by rw [binD, dif_pos h]
theorem binD_ge (u : Nat) (h : ¬ u < 2) : binD u = binD (u / 2) ++ [UInt8.ofNat (48 + u % 2)] := by rw [binD, dif_neg h]
theorem DG_bin (v : Nat) (h : v < 2) (h2 : v < DG.size) : DG[v] = UInt8.ofNat (48 + v) := by
  rcases (by omega : v = 0 ∨ v = 1) with rfl | rfl <;> rfl

set_option maxRecDepth 100000 in
set_option maxHeartbeats 4000000 in
theorem fbits_2 (u : Nat) (K : Nat) (w : World) (hT : GlobT K w) (hu1 : 1 ≤ u) (hu : u < 32) :
    Calls Tryz.prog 110 #[.slice Option.none 0 0, .int .u64 u, .int .i64 2, .bool false, .bool false] w fun e w' => e = .returned (.tuple #[.slice Option.none 0 0, .string ⟨(binD u).toArray⟩]) ∧ Below w.heap.size w w' := by
  have HP := Lib.hid pow2_2
  have hal : Below w.heap.size w (w.alloc (.cells z65 162)) := (Below.refl _ _).alloc (Nat.le_refl _) _
  have HZ := Lib.hid (tzz_2 K _ (hT.on hal))
  have HAL := Lib.hid hal
  have HBS := Lib.hid (BufAt.start w)
  clear hT hal
  go_enter Tryz.func110, Tryz.ntmps110
  go_wp2_with fail
  refine (HP.out _).mono ?_
  rintro e w1 ⟨rfl, hw⟩
  rw [z65_is] at hw
  subst hw
  go_wp2_with fail
  refine HZ.out.mono ?_
  rintro e w2 ⟨rfl, hw2⟩
  have hbs := HBS.out
  rw [← hw2] at hbs
  have HBS2 := Lib.hid hbs
  have HB2 : Hid (Below w.heap.size w w2) := Lib.hid (by rw [hw2]; exact HAL.out)
  clear hw2 hbs
  go_wp2_with fail
  go_loopw [1, 13] (fun s1 s13 wr => ∃ (v i : Nat) (l : List UInt8), s1 = .int .u64 v ∧ s13 = .int .i64 i ∧ BufAt wr w.heap.size i l ∧ Below w.heap.size w wr ∧ binD u = binD v ++ l.drop 0 ∧ 1 ≤ v ∧ v * 2 ^ l.length ≤ u) (fun s1 _ _ => (RowKit.intOf s1).toNat)
  case atStart => exact ⟨u, 65, [], rfl, rfl, HBS2.out, HB2.out, by simp, hu1, by simp⟩
  case round =>
    obtain ⟨v, i, l, rfl, rfl, hbuf, hbl, hbin, hv1, hvl⟩ := hrel
    rw [List.drop_zero] at hbin
    have hl5 : l.length < 5 := by
      refine (Nat.pow_lt_pow_iff_right (show 1 < 2 by decide)).1 ?_
      have : 1 * 2 ^ l.length ≤ v * 2 ^ l.length := Nat.mul_le_mul_right _ hv1
      omega
    have hil : i + l.length = 65 := by obtain ⟨_, _, _, h, _⟩ := hbuf; exact h
    obtain ⟨j, rfl⟩ : ∃ j, i = j + 1 := ⟨i - 1, by omega⟩
    have hj : 59 ≤ j := by omega
    have hj2 : j < 65 := by omega
    have hvu : v < 32 := by
      have : v * 1 ≤ v * 2 ^ l.length := Nat.mul_le_mul_left _ (Nat.two_pow_pos _)
      omega
    obtain ⟨cj, hcj⟩ := hbuf.cell j hj2
    have hfj := hbuf.frozen j
    have HBUF := Lib.hid hbuf
    have HBL := Lib.hid hbl
    have HBIN := Lib.hid hbin
    have HVL := Lib.hid hvl
    have hand := and_one_u64 (v : Int) (by omega) (by omega)
    clear hbuf hbl hbin hvl
    by_cases hv : v < 2
    · have hv' : decide ((2 : Int) ≤ (v : Int)) = false := by rw [decide_eq_false_iff_not]; omega
      clear hand
      have hud : v < DG.size := Nat.lt_trans hv (by decide)
      have hsl : ∀ W : World, (Instr.sliceAt 162 (.pointer (some ⟨w.heap.size, 0, Option.none⟩)) (some (.int .i64 j)) Option.none Option.none).run Tryz.prog W = .ok (.slice (some ⟨w.heap.size, j, Option.none⟩) (l.length + 1) (65 - j)) W := fun W => by
        have hz : (sizeOf (Tryz.prog.elem 162)).run Tryz.prog W = .ok 1 W := by kernel_rfl
        have hl65 : Tryz.prog.arrayLen 162 = 65 := by kernel_rfl
        rw [run_sliceAt_array_l W _ _ (by kernel_rfl) .i64 (j : Int) (by omega) (by rw [hl65]; omega), hz, hl65]
        show Result.ok (slicedAt ⟨w.heap.size, 0, Option.none⟩ (j : Int).toNat 65 65 1) W = _
        unfold slicedAt
        rw [Int.toNat_natCast, if_neg (by omega), addr_zero, Nat.mul_one, show 65 - j = l.length + 1 by omega]
      have hcv := (HBUF.out.put (DG[v]'hud)).text (65 - j)
      have hbin2 : DG[v]'hud :: l = binD u := by rw [HBIN.out, binD_lt v hv, DG_bin v hv hud]; rfl
      have hbl : (binD u).length = l.length + 1 := by rw [← hbin2]; rfl
      rw [hbin2, hbl] at hcv
      have HBL2 : Hid (∀ x, Below w.heap.size w (wr.setCell ⟨w.heap.size, j, Option.none⟩ x)) := Lib.hid fun x => HBL.out.setCell (p := ⟨w.heap.size, j, Option.none⟩) (Nat.le_refl _) x
      clear hbin2 hbl
      go_wp2_with fail
      erw [hcv]
      simp only [Result.andThen]
      rw [Oper.upon_value]
      go_wp2_with fail
      refine bodyPost_ret (v := .tuple #[.slice Option.none 0 0, .string ⟨(binD u).toArray⟩]) (by simp [results, Tryz.results110, go_sem]) rfl ⟨rfl, HBL2.out _⟩
    · have hv' : decide ((2 : Int) ≤ (v : Int)) = true := by rw [decide_eq_true_eq]; omega
      have hud : v % 2 < DG.size := Nat.lt_trans (Nat.mod_lt _ (by decide)) (by decide)
      have HNB := Lib.hid (HBUF.out.put (DG[v % 2]'hud))
      have HBL2 : Hid (∀ x, Below w.heap.size w (wr.setCell ⟨w.heap.size, j, Option.none⟩ x)) := Lib.hid fun x => HBL.out.setCell (p := ⟨w.heap.size, j, Option.none⟩) (Nat.le_refl _) x
      have HV := Lib.hid hv
      clear hv
      go_wp2_with fail
      refine ⟨⟨v / 2, j, DG[v % 2]'hud :: l, by go_num, rfl, HNB.out, HBL2.out _, ?_, ?_, ?_⟩, ?_⟩
      · rw [HBIN.out, binD_ge v HV.out, DG_bin _ (Nat.mod_lt _ (by decide)) hud, List.append_assoc]; rfl
      · have := HV.out; omega
      · have h1 := HVL.out
        rw [List.length_cons, Nat.pow_succ]
        refine Nat.le_trans ?_ h1
        rw [Nat.mul_comm (2 ^ l.length), ← Nat.mul_assoc]
        exact Nat.mul_le_mul_right _ (by omega)
      · have := HV.out; simp [RowKit.intOf]; omega

theorem fint_2 (u : Nat) (K : Nat) (w : World) (hT : GlobT K w) (hu1 : 1 ≤ u) (hu : u < 32) :
    Calls Tryz.prog 55 #[.int .i64 u, .int .i64 2] w fun e w' => e = .returned (.string ⟨(binD u).toArray⟩) ∧ Below w.heap.size w w' := by
  have HF := Lib.hid (fbits_2 u K w hT hu1 hu)
  have hlt : decide ((u : Int) < 0) = false := by rw [decide_eq_false_iff_not]; omega
  clear hT
  obtain ⟨R, hR⟩ : ∃ R : ByteArray, R = ⟨(binD u).toArray⟩ := ⟨_, rfl⟩
  rw [← hR] at HF ⊢
  clear hR
  have hin : Calls Tryz.prog 87 #[.int .i64 u, .int .i64 2] w fun e w' => e = .returned (.string R) ∧ Below w.heap.size w w' := by
    go_enter Tryz.func87, Tryz.ntmps87
    go_wp2_with fail
    refine HF.out.mono ?_
    rintro e w2 ⟨rfl, hb⟩
    have HB := Lib.hid hb
    clear hb
    go_wp2_with fail
    go_ret
    exact ⟨rfl, HB.out⟩
  have HIN := Lib.hid hin
  clear hin HF
  go_enter Tryz.func55, Tryz.ntmps55
  go_wp2_with fail
  refine HIN.out.mono ?_
  rintro e w2 ⟨rfl, hb⟩
  have HB := Lib.hid hb
  clear hb
  go_wp2_with fail
  go_ret
  exact ⟨rfl, HB.out⟩

theorem fuint_16 (u : Nat) (K : Nat) (w : World) (hT : GlobT K w) (hu : u < 16) :
    Calls Tryz.prog 60 #[.int .u64 u, .int .i64 16] w fun e w' => ∃ h : u < DG.size, e = .returned (.string ⟨[DG[u]].toArray⟩) ∧ Below w.heap.size w w' := by
  have HF := Lib.hid (fbits_16 u K w hT hu)
  clear hT
  have hud : u < DG.size := Nat.lt_trans hu (by decide)
  obtain ⟨R, hR⟩ : ∃ R : ByteArray, R = ⟨[DG[u]'hud].toArray⟩ := ⟨_, rfl⟩
  have HF2 : Hid (Calls Tryz.prog 110 #[.slice Option.none 0 0, .int .u64 u, .int .i64 16, .bool false, .bool false] w fun e w' => e = .returned (.tuple #[.slice Option.none 0 0, .string R]) ∧ Below w.heap.size w w') := Lib.hid (HF.out.mono fun e w' ⟨_, h1, h2⟩ => ⟨by rw [h1, hR], h2⟩)
  have HR := Lib.hid hR
  clear hR HF
  have hin : Calls Tryz.prog 92 #[.int .u64 u, .int .i64 16] w fun e w' => e = .returned (.string R) ∧ Below w.heap.size w w' := by
    go_enter Tryz.func92, Tryz.ntmps92
    go_wp2_with fail
    refine HF2.out.mono ?_
    rintro e w2 ⟨rfl, hb⟩
    have HB := Lib.hid hb
    clear hb
    go_wp2_with fail
    go_ret
    exact ⟨rfl, HB.out⟩
  have HIN := Lib.hid hin
  clear hin HF2
  go_enter Tryz.func60, Tryz.ntmps60
  go_wp2_with fail
  refine HIN.out.mono ?_
  rintro e w2 ⟨rfl, hb⟩
  have HB := Lib.hid hb
  clear hb
  go_wp2_with fail
  go_ret
  exact ⟨hud, by rw [HR.out]; rfl, HB.out⟩
end Go.Proofs.YtmhagigokgklaaaGreatDoor

/- ParseUint of base 2, of short texts. -/
namespace Go.Proofs.YtmhagigokgklaaaGreatDoor
open Go Go.RowKit Go.Sort Go.Lib

theorem dvl_take_snoc (b : Nat) (s : ByteArray) (k : Nat) (h : k < s.size) : dvl b (s.data.toList.take (k + 1)) = dvl b (s.data.toList.take k) * b + dv s[k].toNat := by
  have hl : k < s.data.toList.length := by simpa using h
  rw [List.take_succ_eq_append_getElem hl, dvl_snoc]
  rfl
theorem dvl2_lt (s : ByteArray) (hb : ∀ i (h : i < s.size), s[i].toNat = 48 ∨ s[i].toNat = 49) (k : Nat) (hk : k ≤ s.size) : dvl 2 (s.data.toList.take k) < 2 ^ k := by
  have h1 := dvl_lt 2 (by decide) (s.data.toList.take k) (fun x hx => by
    obtain ⟨i, hi, rfl⟩ := List.getElem_of_mem (List.mem_of_mem_take hx)
    have hi2 : i < s.size := by simpa using hi
    have := hb i hi2
    rw [show s.data.toList[i] = s[i] from rfl]
    unfold dv
    split <;> omega)
  have h2 : (s.data.toList.take k).length = k := by
    rw [List.length_take]
    have : s.data.toList.length = s.size := by simp
    omega
  rwa [h2] at h1

set_option maxRecDepth 100000 in
set_option maxHeartbeats 4000000 in
theorem puint_2 (s : ByteArray) (w : World) (h1 : 1 ≤ s.size) (h8 : s.size ≤ 8) (hb : ∀ i (h : i < s.size), s[i].toNat = 48 ∨ s[i].toNat = 49) :
    Calls Tryz.prog 91 #[.string s, .int .i64 2, .int .i64 8] w fun e w' => e = .returned (.tuple #[.int .u64 (dvl 2 s.data.toList : Nat), .nilIface]) ∧ Below w.heap.size w w' := by
  have hlen : s.data.toList.length = s.size := by simp
  have hn : s.toList.isEmpty = false := by
    rw [ByteArray.toList_eq]
    cases h : s.data.toList with
    | nil => rw [h] at hlen; simp at hlen; omega
    | cons x t => rfl
  have hcv := Go.Lib.run_convert_string_bytes (P := Tryz.prog) w 9 34 5 s Tryz.underlying9 Tryz.underlying34 Tryz.underlying5
  have hcell : ∀ j (h : j < s.size), (bytesWorld w 5 s).cell? ⟨w.heap.size, j, none⟩ = some (.int .u8 (s[j].toNat : Int)) := fun j h => by
    rw [bytesWorld_cell w _ s j h, List.getD_eq_getElem?_getD, List.getElem?_eq_getElem (by rw [hlen]; exact h)]
    rfl
  have HB := Lib.hid hb
  have HCELL := Lib.hid hcell
  have HBW := Lib.hid (bytesWorld_below w 5 s)
  have HLT := Lib.hid (fun k hk => dvl2_lt s hb k hk)
  generalize bytesWorld w 5 s = w2 at *
  clear hb hcell hlen
  go_enter Tryz.func91, Tryz.ntmps91
  go_wp2_with fail
  clear hcv
  go_loopg [12, 13, 101] s.size (fun g s12 s13 s101 wr => ∃ (k : Nat), k + g = s.size ∧ s12 = .bool false ∧ s13 = .int .u64 (dvl 2 (s.data.toList.take k) : Nat) ∧ s101 = .int .i64 k ∧ wr = w2)
  case atStart => exact ⟨0, by omega, rfl, rfl, rfl, rfl⟩
  case round =>
    obtain ⟨k, hkg, rfl, rfl, rfl, rfl⟩ := hrel
    by_cases hlt : k < s.size
    · have hc := HCELL.out k hlt
      have hb := HB.out k hlt
      have hn1 := HLT.out k (by omega)
      have hn2 := HLT.out (k + 1) (by omega)
      have HS := Lib.hid (dvl_take_snoc 2 s k hlt)
      have h128 : dvl 2 (s.data.toList.take k) < 128 := Nat.lt_of_lt_of_le hn1 (Nat.pow_le_pow_right (by decide) (show k ≤ 7 by omega))
      have h256 : dvl 2 (s.data.toList.take (k + 1)) < 256 := Nat.lt_of_lt_of_le hn2 (Nat.pow_le_pow_right (by decide) (show k + 1 ≤ 8 by omega))
      clear hn1 hn2
      obtain ⟨m, hme⟩ : ∃ m, dvl 2 (s.data.toList.take (k + 1)) = m := ⟨_, rfl⟩
      rw [hme] at HS h256
      have HME := Lib.hid hme
      clear hme
      generalize dvl 2 (s.data.toList.take k) = n at *
      have hm : m = n * 2 + (s[k].toNat - 48) := by
        rw [HS.out]
        congr 1
        unfold dv
        rw [if_pos (by omega)]
      have HM := Lib.hid hm
      have hd1 : (48 : Int) ≤ (s[k].toNat : Int) := by omega
      have hd2 : (s[k].toNat : Int) ≤ 57 := by omega
      have hd3 : (s[k].toNat : Int) - 48 ≤ 1 := by omega
      have t95 : ((s[k].toNat : Int) == 95) = false := by rw [beq_eq_false_iff_ne]; omega
      have hlt2 : decide ((2 : Int) ≤ (s[k].toNat : Int) - 48) = false := by rw [decide_eq_false_iff_not]; omega
      have htc : decide ((9223372036854775808 : Int) ≤ (n : Int)) = false := by rw [decide_eq_false_iff_not]; omega
      have htc2 : decide (9223372036854775808 ≤ n) = false := by rw [decide_eq_false_iff_not]; omega
      have hw1 : IntKind.u64.wrap ((n : Int) * 2) = (n : Int) * 2 := by rw [IntKind.wrap_u64]; omega
      have hw2 : IntKind.u64.wrap ((n : Int) * 2 + ((s[k].toNat : Int) - 48)) = (m : Int) := by rw [IntKind.wrap_u64]; omega
      have hw3 : decide ((m : Int) < (n : Int) * 2) = false := by rw [decide_eq_false_iff_not]; omega
      have hw4 : decide ((255 : Int) < (m : Int)) = false := by rw [decide_eq_false_iff_not]; omega
      have hw5 : decide (255 < m) = false := by rw [decide_eq_false_iff_not]; omega
      clear hm hb
      go_wp2_with fail
      go_roundg (gk - 1)
      case measure => omega
      case rel => exact ⟨k + 1, by omega, rfl, by rw [HME.out], by go_num, rfl⟩
    · have hks : k = s.size := by omega
      subst hks
      have hfull : s.data.toList.take s.size = s.data.toList := List.take_of_length_le (by simp)
      rw [hfull]
      clear hfull
      obtain ⟨R, hR⟩ : ∃ R, R = dvl 2 s.data.toList := ⟨_, rfl⟩
      rw [← hR]
      have HR := Lib.hid hR
      clear hR
      go_wp2_with fail
      refine bodyPost_ret (v := .tuple #[.int .u64 R, .nilIface]) (by simp [results, Tryz.results91, go_sem]) rfl ⟨by rw [HR.out], HBW.out⟩

theorem ppuint_2 (s : ByteArray) (w : World) (h1 : 1 ≤ s.size) (h8 : s.size ≤ 8) (hb : ∀ i (h : i < s.size), s[i].toNat = 48 ∨ s[i].toNat = 49) :
    Calls Tryz.prog 59 #[.string s, .int .i64 2, .int .i64 8] w fun e w' => e = .returned (.tuple #[.int .u64 (dvl 2 s.data.toList : Nat), .nilIface]) ∧ Below w.heap.size w w' := by
  have HP := Lib.hid (puint_2 s w h1 h8 hb)
  generalize dvl 2 s.data.toList = R at *
  clear hb
  go_enter Tryz.func59, Tryz.ntmps59
  go_wp2_with fail
  refine HP.out.mono ?_
  rintro e w2 ⟨rfl, hb⟩
  have HB := Lib.hid hb
  clear hb
  go_wp2_with fail
  refine bodyPost_ret (v := .tuple #[.int .u64 R, .nilIface]) (by simp [results, Tryz.results59, go_sem]) rfl ⟨rfl, HB.out⟩
end Go.Proofs.YtmhagigokgklaaaGreatDoor

/- text.Hex. -/
namespace Go.Proofs.YtmhagigokgklaaaGreatDoor
open Go Go.RowKit

/-- what a digit of the base 16 stands for -/
def hexI (n : Nat) : Int := if 48 ≤ n ∧ n ≤ 57 then (n : Int) - 48 else if 97 ≤ (n ||| 32) ∧ (n ||| 32) ≤ 102 then ((n ||| 32 : Nat) : Int) - 87 else -1

theorem or32_nat (n : Nat) (h : n < 2147483648) : bits .or .i32 (n : Int) 32 = ((n ||| 32 : Nat) : Int) := by
  have hx : n ||| 32 < 2 ^ 31 := Nat.or_lt_two_pow (by omega) (by omega)
  have h1 : (BitVec.ofInt 32 (n : Int)).toNat = n := by
    rw [BitVec.ofInt_natCast, BitVec.toNat_ofNat]; exact Nat.mod_eq_of_lt (by omega)
  show IntKind.i32.wrap ((BitVec.ofInt 32 (n : Int) ||| BitVec.ofInt 32 ((32 : Nat) : Int)).toNat : Int) = _
  rw [BitVec.toNat_or, h1, show (BitVec.ofInt 32 ((32 : Nat) : Int)).toNat = 32 from by decide, IntKind.wrap_i32]
  omega

theorem alpha_any (n : Nat) (w : World) (h : n < 2147483648) (b : Bool) (hb : b = decide (97 ≤ (n ||| 32) ∧ (n ||| 32) ≤ 122)) :
    Calls Tryz.prog 86 #[.int .i32 n] w fun e w' => e = .returned (.bool b) ∧ w' = w := by
  have ho := or32_nat n h
  generalize n ||| 32 = m at *
  by_cases h1 : 97 ≤ m
  · have h1' : (97 : Int) ≤ (m : Int) := by omega
    have hbb : b = decide (m ≤ 122) := by rw [hb]; congr 1; exact propext ⟨fun h => h.2, fun h => ⟨h1, h⟩⟩
    clear hb
    cases b
    · have h2 : decide ((m : Int) ≤ 122) = false := by rw [decide_eq_false_iff_not]; have := decide_eq_false_iff_not.1 hbb.symm; omega
      clear hbb
      go_enter Tryz.func86, Tryz.ntmps86
      go_wp2_with fail
      go_ret
      exact ⟨rfl, rfl⟩
    · have h2 : (m : Int) ≤ 122 := by have := of_decide_eq_true hbb.symm; omega
      clear hbb
      go_enter Tryz.func86, Tryz.ntmps86
      go_wp2_with fail
      go_ret
      exact ⟨ret_bool (by first | rfl | (simp; done) | (simp; omega)), rfl⟩
  · have h1' : decide ((97 : Int) ≤ (m : Int)) = false := by rw [decide_eq_false_iff_not]; omega
    have hbb : b = false := by rw [hb, decide_eq_false_iff_not]; omega
    subst hbb
    clear hb
    go_enter Tryz.func86, Tryz.ntmps86
    go_wp2_with fail
    go_ret
    exact ⟨ret_bool (by first | rfl | (simp; done) | (simp; omega)), rfl⟩

set_option maxRecDepth 100000 in
theorem hex_any (n : Nat) (w : World) (h : n < 2147483648) :
    Calls Tryz.prog 54 #[.int .i32 n] w fun e w' => e = .returned (.int .i64 (hexI n)) ∧ w' = w := by
  by_cases hd : 48 ≤ n ∧ n ≤ 57
  · have hv : hexI n = (n : Int) - 48 := if_pos hd
    rw [hv]
    have HD := Lib.hid (digit_yes n w (by omega) (by omega))
    obtain ⟨hd1, hd2⟩ := hd
    clear hv
    go_enter Tryz.func54, Tryz.ntmps54
    go_wp2_with fail
    refine HD.out.mono ?_
    rintro e w ⟨rfl, rfl⟩
    go_wp2_with fail
    go_ret
    exact ⟨rfl, rfl⟩
  · have HD := Lib.hid (digit_no n w (by omega))
    have ho := or32_nat n h
    have HA := Lib.hid (alpha_any n w h _ rfl)
    have hv : hexI n = if 97 ≤ (n ||| 32) ∧ (n ||| 32) ≤ 102 then ((n ||| 32 : Nat) : Int) - 87 else -1 := if_neg hd
    rw [hv]
    clear hv hd
    generalize n ||| 32 = m at *
    by_cases h1 : 97 ≤ m ∧ m ≤ 122
    · rw [decide_eq_true h1] at HA
      obtain ⟨h2, h3⟩ := h1
      by_cases h4 : m ≤ 102
      · have h4' : (m : Int) ≤ 102 := by omega
        rw [if_pos ⟨h2, h4⟩]
        have h2' : (97 : Int) ≤ (m : Int) := by omega
        go_enter Tryz.func54, Tryz.ntmps54
        go_wp2_with fail
        refine HD.out.mono ?_
        rintro e w ⟨rfl, rfl⟩
        go_wp2_with fail
        refine HA.out.mono ?_
        rintro e w ⟨rfl, rfl⟩
        go_wp2_with fail
        go_ret
        exact ⟨ret_int (by omega), rfl⟩
      · have h4' : decide ((m : Int) ≤ 102) = false := by rw [decide_eq_false_iff_not]; omega
        rw [if_neg (by omega)]
        go_enter Tryz.func54, Tryz.ntmps54
        go_wp2_with fail
        refine HD.out.mono ?_
        rintro e w ⟨rfl, rfl⟩
        go_wp2_with fail
        refine HA.out.mono ?_
        rintro e w ⟨rfl, rfl⟩
        go_wp2_with fail
        go_ret
        exact ⟨rfl, rfl⟩
    · rw [decide_eq_false h1] at HA
      rw [if_neg (by omega)]
      clear h1
      go_enter Tryz.func54, Tryz.ntmps54
      go_wp2_with fail
      refine HD.out.mono ?_
      rintro e w ⟨rfl, rfl⟩
      go_wp2_with fail
      refine HA.out.mono ?_
      rintro e w ⟨rfl, rfl⟩
      go_wp2_with fail
      go_ret
      exact ⟨rfl, rfl⟩

/-- a byte above 127 begins no code point below 128 -/
theorem decode_high (s : ByteArray) (pos : Nat) (h : pos < s.size) (hb : 128 ≤ s[pos].toNat) : 128 ≤ (Utf8.decode s pos).1 ∧ (Utf8.decode s pos).1 ≤ 1114111 := by
  rw [Lib.decode_at]
  have e : (s.get! pos).toNat = s[pos].toNat := by
    congr 1
    simp [ByteArray.get!, getElem!_pos, h]
    rfl
  rw [e]
  have h0 := s[pos].toNat_lt
  generalize s[pos].toNat = b0 at *
  generalize (s.get! (pos + 1)).toNat = b1
  generalize (s.get! (pos + 2)).toNat = b2
  generalize (s.get! (pos + 3)).toNat = b3
  rcases Lib.decodeN_shape (s.size - pos) b0 b1 b2 b3 with ⟨h1, _⟩ | ⟨_, _, _, h1, h2⟩ | ⟨h3, _, _, _, h1, _, h2⟩ | ⟨_, _, _, _, _, h1, h3, h2⟩ | h2
  · omega
  · rw [h2]; exact ⟨h1, by show b0 % 32 * 64 + b1 % 64 ≤ _; omega⟩
  · rw [h2]; exact ⟨by show 128 ≤ b0 % 16 * 4096 + b1 % 64 * 64 + b2 % 64; omega, by show b0 % 16 * 4096 + b1 % 64 * 64 + b2 % 64 ≤ _; omega⟩
  · rw [h2]; exact ⟨by show 128 ≤ b0 % 8 * 262144 + b1 % 64 * 4096 + b2 % 64 * 64 + b3 % 64; omega, h3⟩
  · rw [h2]; exact ⟨by decide, by decide⟩
theorem hexI_high (n : Nat) (h : 128 ≤ n) : hexI n = -1 := by
  unfold hexI
  have := Nat.left_le_or (n := n) (m := 32)
  rw [if_neg (by omega), if_neg (by omega)]
end Go.Proofs.YtmhagigokgklaaaGreatDoor

/- strings.Builder's WriteString (this seat's text of copyCheck has a place that the shelf's has not). -/
namespace Go.Proofs.YtmhagigokgklaaaGreatDoor
open Go Go.RowKit Go.Lib

set_option maxHeartbeats 1000000 in
set_option maxRecDepth 100000 in
theorem bcheck_used (b : Nat) (w : World) (h0 : w.cell? ⟨b, 0, none⟩ = some (.pointer (some ⟨b, 0, none⟩))) :
    Calls Tryz.prog 88 #[.pointer (some ⟨b, 0, none⟩)] w fun e w' => e = .returned (.tuple #[]) ∧ w' = w := by
  obtain ⟨j, hj, _⟩ := Option.map_eq_some_iff.1 Tryz.Builder_Extra_169.toX72.sizeBuilder
  go_enter Tryz.func88, Tryz.ntmps88
  go_wp2
  rw [Lib.run_neq_ptr_same w _ (by kernel_rfl) hj]
  go_wp2
  go_end0
  exact ⟨rfl, rfl⟩

set_option maxHeartbeats 1000000 in
set_option maxRecDepth 100000 in
theorem bcheck_fresh (b : Nat) (w : World) (h0 : w.cell? ⟨b, 0, none⟩ = some (.pointer none)) (hsh : w.shape? b = some (83, 2)) (hfz : w.frozen? ⟨b, 0, none⟩ = false) :
    Calls Tryz.prog 88 #[.pointer (some ⟨b, 0, none⟩)] w fun e w' => e = .returned (.tuple #[]) ∧ w' = w.setCell ⟨b, 0, none⟩ (.pointer (some ⟨b, 0, none⟩)) := by
  obtain ⟨j, hj, hjs⟩ := Option.map_eq_some_iff.1 Tryz.Builder_Extra_169.toX72.sizeBuilder
  go_enter Tryz.func88, Tryz.ntmps88
  go_wp2
  rw [Lib.run_to_unsafe w ⟨b, 0, none⟩ (by kernel_rfl) (by kernel_rfl) hj (by rw [hjs]; decide) hsh (Nat.zero_lt_succ 1)]
  simp only [Result.andThen]
  rw [Oper.upon_value]
  go_wp2
  rw [run_callFunc_extern Tryz.func111 (by kernel_rfl) (by kernel_rfl) (by kernel_rfl) (e := Extern.AbiNoEscape.same) (by kernel_rfl)]
  rw [Lib.run_noEscape]
  simp only [Result.andThen]
  rw [Oper.upon_value]
  go_wp2
  rw [Lib.run_from_unsafe w ⟨b, 0, none⟩ (by kernel_rfl) (by kernel_rfl) hj hsh Tryz.Builder_Extra_169.toX72.liesBuilder]
  simp only [Result.andThen]
  rw [Oper.upon_value]
  go_wp2
  go_end0
  exact ⟨rfl, rfl⟩

theorem bcheck (B b : Nat) (bs : List Value) (w : World) (h : Lib.IsBuilderF 83 5 B b bs w) :
    Calls Tryz.prog 88 #[.pointer (some ⟨b, 0, none⟩)] w fun e w' => e = .returned (.tuple #[]) ∧ (Lib.BuilderAtF 83 5 B b (.pointer (some ⟨b, 0, none⟩)) bs w' ∧ Below B w w' ∧ Lib.OthersKept 5 (some b) w w') := by
  rcases h with h | h
  · refine (bcheck_fresh b w h.cell0 h.shape h.frozen0).mono ?_
    rintro e w' ⟨rfl, rfl⟩
    exact ⟨rfl, h.used _, (Below.refl B w).setCell (p := ⟨b, 0, none⟩) h.1 _, (Lib.OthersKept.refl _ _ w).setCell ⟨b, 0, none⟩ rfl _⟩
  · refine (bcheck_used b w h.cell0).mono ?_
    rintro e w' ⟨rfl, rfl⟩
    exact ⟨rfl, h, Below.refl B _, Lib.OthersKept.refl _ _ _⟩

set_option maxHeartbeats 2000000 in
set_option maxRecDepth 100000 in
theorem bwrite (B b : Nat) (bs : List Value) (s : ByteArray) (w : World) (h : Lib.IsBuilderF 83 5 B b bs w) (hlen : bs.length + s.size ≤ 140737488355328) (hBw : B ≤ w.heap.size) :
    Calls Tryz.prog 56 #[.pointer (some ⟨b, 0, none⟩), .string s] w fun e w' => e = .returned (.tuple #[.int .i64 s.size, .nilIface]) ∧ (Lib.BuilderAtF 83 5 B b (.pointer (some ⟨b, 0, none⟩)) (bs ++ Lib.strCells s) w' ∧ Below B w w' ∧ Lib.OthersKept 5 (some b) w w') := by
  obtain ⟨i0, hi, hz0, hz1, hz2⟩ := info_parts Tryz.Builder_Extra_169.infoByte
  have hsl : Tryz.prog.underlying 34 = some (TypeDesc.slice 5) := by kernel_rfl
  have hst : Tryz.prog.underlying 9 = some TypeDesc.string := by kernel_rfl
  go_enter Tryz.func56, Tryz.ntmps56
  go_wp2_with fail
  refine (bcheck B b bs _ h).mono ?_
  rintro e w1 ⟨rfl, h1, hb1, hk1⟩
  obtain ⟨hB, v, hbk, hown, hne⟩ := h1
  have c0 : w1.cell? ⟨b, 0, none⟩ = some (.pointer (some ⟨b, 0, none⟩)) := by rw [Lib.cell_of_heap hbk]; rfl
  have c1 : w1.cell? ⟨b, 1, none⟩ = some v := by rw [Lib.cell_of_heap hbk]; rfl
  go_wp2_with (at_builtin; refine Lib.wpList_append_own_stringF _ rfl _ _ 34 9 rfl B 5 i0 hsl hst hi hz0 hz1 hz2 _ _ _ rfl hown s rfl ?c3 ?c4 ?c5 ?_)
  case c3 => unfold maxLen; omega
  case c4 => omega
  case c5 => have := hb1.size; omega
  intro v' w2 hown' hgrow _
  have hlt : b < w1.heap.size := by
    rcases Nat.lt_or_ge b w1.heap.size with h' | h'
    · exact h'
    · simp [Array.getElem?_eq_none h'] at hbk
  have hb2 : w2.heap[b]? = some (.cells #[.pointer (some ⟨b, 0, none⟩), v] 83 (0, 0)) := by
    rw [hgrow.block b hlt (fun e => hne e.symm)]
    exact hbk
  have d0 : w2.cell? ⟨b, 0, none⟩ = some (.pointer (some ⟨b, 0, none⟩)) := by rw [Lib.cell_of_heap hb2]; rfl
  have d1 : w2.cell? ⟨b, 1, none⟩ = some v := by rw [Lib.cell_of_heap hb2]; rfl
  have f1 : w2.frozen? ⟨b, 1, none⟩ = false := Lib.frozen_of_heap hb2 1
  obtain ⟨ao, n', cap, rfl⟩ : ∃ ao n' cap, v' = .slice ao n' cap := by
    rcases hown'.2 with ⟨hv, _⟩ | ⟨g, cap, cur, fz, hv, _⟩
    · exact ⟨_, _, _, hv⟩
    · exact ⟨_, _, _, hv⟩
  go_wp2
  go_ret2
  refine ⟨rfl, ?_, ?_, (hk1.grown hgrow (Lib.ownsRowF_kind hown)).setCell ⟨b, 1, none⟩ rfl _⟩
  · exact Lib.BuilderAtF.put (T := 83) (e := 5) hB hb2 (bs' := bs ++ Lib.strCells s) (by simpa [Lib.strCells_length] using hown') Tryz.Builder_Extra_169.neB5
  · exact (hb1.grown hgrow (by have := hb1.size; omega) (fun k hk => (hown.lt k hk).1)).setCell (p := ⟨b, 1, none⟩) hB _
end Go.Proofs.YtmhagigokgklaaaGreatDoor

/- What hexadecimal makes of digits (plain); its map; builders. -/
namespace Go.Proofs.YtmhagigokgklaaaGreatDoor
open Go Go.RowKit Go.Sort Go.Lib Go.Maps

theorem BuilderAtF.go {T e : TypeId} {B b : Nat} {p : Value} {bs : List Value} {w w' : World} (h : BuilderAtF T e B b p bs w) (hb : Below w.heap.size w w') : BuilderAtF T e B b p bs w' := by
  have hlt := h.lt
  obtain ⟨hB, v, hbk, hown, hne⟩ := h
  refine ⟨hB, v, (hb.block b hlt).trans hbk, ⟨hown.1, ?_⟩, hne⟩
  rcases hown.2 with hn | ⟨g, cap, cur, fz, hv, hbg, hg, rest⟩
  · exact .inl hn
  · have hgl : g < w.heap.size := (Array.getElem?_eq_some_iff.1 hg).1
    exact .inr ⟨g, cap, cur, fz, hv, hbg, (hb.block g hgl).trans hg, rest⟩
theorem IsBuilderF.go {T e : TypeId} {B b : Nat} {bs : List Value} {w w' : World} (h : IsBuilderF T e B b bs w) (hb : Below w.heap.size w w') : IsBuilderF T e B b bs w' :=
  h.elim (fun x => .inl (BuilderAtF.go x hb)) (fun x => .inr (BuilderAtF.go x hb))

/-- k digits of the base 2 -/
def bitsK : Nat → Nat → List UInt8
  | 0, _ => []
  | k + 1, v => bitsK k (v / 2) ++ [UInt8.ofNat (48 + v % 2)]
theorem bitsK_len : ∀ k v, (bitsK k v).length = k
  | 0, _ => rfl
  | k + 1, v => by rw [bitsK, List.length_append, bitsK_len k]; rfl
theorem dv_bit (v : Nat) : dv (UInt8.ofNat (48 + v % 2)).toNat = v % 2 := by
  rcases Nat.mod_two_eq_zero_or_one v with h | h <;> rw [h] <;> decide
theorem bitsK_val : ∀ k v, v < 2 ^ k → dvl 2 (bitsK k v) = v
  | 0, v, h => by simp at h; subst h; rfl
  | k + 1, v, h => by
    rw [bitsK, dvl_snoc, bitsK_val k (v / 2) (by rw [Nat.pow_succ] at h; omega), dv_bit]
    omega
theorem bitsK_bits : ∀ k v, ∀ x ∈ bitsK k v, x.toNat = 48 ∨ x.toNat = 49
  | 0, _, x, h => by simp [bitsK] at h
  | k + 1, v, x, h => by
    rw [bitsK] at h
    rcases List.mem_append.1 h with h1 | h1
    · exact bitsK_bits k _ x h1
    · rw [List.mem_singleton] at h1
      subst h1
      rcases Nat.mod_two_eq_zero_or_one v with h2 | h2 <;> rw [h2] <;> decide
theorem binD_ne (u : Nat) : binD u ≠ [] := by
  by_cases h : u < 2
  · rw [binD_lt u h]; simp
  · rw [binD_ge u h]; simp
theorem binD_drop : ∀ k v, v < 2 ^ k → (binD (v + 2 ^ k)).drop 1 = bitsK k v
  | 0, v, h => by
    simp at h; subst h
    rw [Nat.pow_zero, Nat.zero_add, binD_lt 1 (by decide)]; rfl
  | k + 1, v, h => by
    have hp : 0 < 2 ^ k := Nat.two_pow_pos k
    rw [Nat.pow_succ] at h ⊢
    rw [binD_ge _ (by omega), bitsK, ← binD_drop k (v / 2) (by omega), show (v + 2 ^ k * 2) / 2 = v / 2 + 2 ^ k by omega, show (v + 2 ^ k * 2) % 2 = v % 2 by omega]
    cases hb : binD (v / 2 + 2 ^ k) with
    | nil => exact absurd hb (binD_ne _)
    | cons x t => rfl

/-- a digit of the base B -/
def okB (B : Nat) (x : UInt8) : Prop := 0 ≤ hexI x.toNat ∧ hexI x.toNat < B
def bval (B : Nat) (l : List UInt8) : Nat := l.foldl (fun a c => a * B + (hexI c.toNat).toNat) 0
theorem bval_snoc (B : Nat) (l : List UInt8) (c : UInt8) : bval B (l ++ [c]) = bval B l * B + (hexI c.toNat).toNat := by
  unfold bval; rw [List.foldl_append]; rfl
/-- all digits of the base 2 -/
def bitsL (k : Nat) (l : List UInt8) : List UInt8 := l.flatMap fun x => bitsK k (hexI x.toNat).toNat
theorem bitsL_snoc (k : Nat) (l : List UInt8) (c : UInt8) : bitsL k (l ++ [c]) = bitsL k l ++ bitsK k (hexI c.toNat).toNat := by
  unfold bitsL; rw [List.flatMap_append]; simp
theorem bitsL_len (k : Nat) : ∀ l, (bitsL k l).length = k * l.length := by
  refine snoc_ind rfl fun l c ih => ?_
  rw [bitsL_snoc, List.length_append, ih, bitsK_len, List.length_append, List.length_singleton, Nat.mul_add]; omega
theorem bitsL_bits (k : Nat) (l : List UInt8) : ∀ x ∈ bitsL k l, x.toNat = 48 ∨ x.toNat = 49 := by
  intro x hx
  obtain ⟨y, _, hy⟩ := List.mem_flatMap.1 hx
  exact bitsK_bits _ _ x hy
theorem bitsL_val (k : Nat) : ∀ l, (∀ x ∈ l, okB (2 ^ k) x) → dvl 2 (bitsL k l) = bval (2 ^ k) l := by
  refine snoc_ind (fun _ => rfl) fun l c ih h => ?_
  have h1 := ih fun x hx => h x (List.mem_append_left _ hx)
  obtain ⟨h2, h3⟩ := h c (by simp)
  rw [bitsL_snoc, dvl_app, bitsK_len, h1, bitsK_val k _ (by omega), bval_snoc]

theorem dvl_zeros (b n : Nat) : dvl b (List.replicate n 48) = 0 := by
  induction n with
  | zero => rfl
  | succ n ih => rw [List.replicate_succ', dvl_snoc, ih]; simp [dv]
/-- with noughts ahead, up to a multiple of 4 -/
def padB (l : List UInt8) : List UInt8 := List.replicate ((4 - l.length % 4) % 4) 48 ++ l
theorem padB_val (b : Nat) (l : List UInt8) : dvl b (padB l) = dvl b l := by
  unfold padB
  rw [dvl_app, dvl_zeros]; omega
theorem padB_len (l : List UInt8) : (padB l).length % 4 = 0 ∧ (padB l).length ≤ l.length + 3 := by
  unfold padB
  rw [List.length_append, List.length_replicate]
  omega
theorem padB_bits (l : List UInt8) (h : ∀ x ∈ l, x.toNat = 48 ∨ x.toNat = 49) : ∀ x ∈ padB l, x.toNat = 48 ∨ x.toNat = 49 := by
  intro x hx
  rcases List.mem_append.1 hx with h1 | h1
  · rw [List.eq_of_mem_replicate h1]; left; decide
  · exact h x h1

theorem DG_dv : ∀ v : Fin 16, ∀ h : v.val < DG.size, dv (DG[v.val]'h).toNat = v.val ∧ (okD 16 (DG[v.val]'h)) := by
  intro v h
  have key : ∀ v : Fin 16, dv ([48, 49, 50, 51, 52, 53, 54, 55, 56, 57, 97, 98, 99, 100, 101, 102].getD v.val 0) = v.val ∧ ((48 ≤ [48, 49, 50, 51, 52, 53, 54, 55, 56, 57, 97, 98, 99, 100, 101, 102].getD v.val 0 ∧ [48, 49, 50, 51, 52, 53, 54, 55, 56, 57, 97, 98, 99, 100, 101, 102].getD v.val 0 ≤ 57) ∨ ((16 : Nat) = 16 ∧ 97 ≤ [48, 49, 50, 51, 52, 53, 54, 55, 56, 57, 97, 98, 99, 100, 101, 102].getD v.val 0 ∧ [48, 49, 50, 51, 52, 53, 54, 55, 56, 57, 97, 98, 99, 100, 101, 102].getD v.val 0 ≤ 102)) := by decide +kernel
  have e : (DG[v.val]'h).toNat = [48, 49, 50, 51, 52, 53, 54, 55, 56, 57, 97, 98, 99, 100, 101, 102].getD v.val 0 := by
    have k2 : ∀ v : Fin 16, ((DG.data.toList).getD v.val 0).toNat = [48, 49, 50, 51, 52, 53, 54, 55, 56, 57, 97, 98, 99, 100, 101, 102].getD v.val 0 := by decide +kernel
    rw [← k2 v, List.getD_eq_getElem?_getD, List.getElem?_eq_getElem (by simpa using h)]
    rfl
  rw [e]
  refine ⟨(key v).1, ?_⟩
  unfold okD isDig
  rw [e]
  exact (key v).2

/-- the map of letters -/
theorem map_base (w : World) (c : Int) (B : Int) (hcB : (c = 120 ∧ B = 16) ∨ (c = 111 ∧ B = 8) ∨ (c = 98 ∧ B = 2)) : ∃ w2 w3 w4 : World,
    (Instr.mapUpdate 79 (.map (some w.heap.size)) (.int .u8 120) (.int .i64 16)).run Tryz.prog (w.alloc (.map #[] 0)) = .ok () w2 ∧
    (Instr.mapUpdate 79 (.map (some w.heap.size)) (.int .u8 111) (.int .i64 8)).run Tryz.prog w2 = .ok () w3 ∧
    (Instr.mapUpdate 79 (.map (some w.heap.size)) (.int .u8 98) (.int .i64 2)).run Tryz.prog w3 = .ok () w4 ∧
    (Instr.lookup 79 (.map (some w.heap.size)) (.int .u8 c) false).run Tryz.prog w4 = .ok (.int .i64 B) w4 ∧ Below w.heap.size w w4 := by
  have K : Keyed Tryz.prog 5 := int_keyed Tryz.underlying5
  have ht : Tryz.prog.underlying 79 = some (.map 5 3) := Tryz.underlying79
  have he : Tryz.prog.underlying 3 = some (.int .i64) := Tryz.underlying3
  have h0 := World.ownsMap_made (H := Unit) w Tryz.prog 5 (plainElem Tryz.prog 3)
  obtain ⟨w2, r2, h2, t2⟩ := h0.store K ht (by decide) (keyOf_int_mk Tryz.underlying5 (q := .u8) (a := 120) (by decide)) (plainElem_int he (a := 16) (by decide))
  obtain ⟨w3, r3, h3, t3⟩ := h2.store K ht (by decide) (keyOf_int_mk Tryz.underlying5 (q := .u8) (a := 111) (by decide)) (plainElem_int he (a := 8) (by decide))
  obtain ⟨w4, r4, h4, t4⟩ := h3.store K ht (by decide) (keyOf_int_mk Tryz.underlying5 (q := .u8) (a := 98) (by decide)) (plainElem_int he (a := 2) (by decide))
  refine ⟨w2, w3, w4, r2, r3, r4, ?_, ?_⟩
  · have hz : (zeroValue 3).run Tryz.prog w4 = .ok (.int .i64 0) w4 := Tryz.zeroValue3 w4
    rcases hcB with ⟨rfl, rfl⟩ | ⟨rfl, rfl⟩ | ⟨rfl, rfl⟩
    · obtain ⟨x, hr, hx, _⟩ := h4.lookup_int K ht he hz (keyOf_int_mk Tryz.underlying5 (q := .u8) (a := 120) (by decide))
      have : x = 16 := by
        have e : ((((DataW.map (H := Unit) []).put (.int .u8 120) (.lit (.int .i64 16))).put (.int .u8 111) (.lit (.int .i64 8))).put (.int .u8 98) (.lit (.int .i64 2))).atKey (.int .u8 120) (.lit (.int .i64 0)) = .lit (.int .i64 16) := by rfl
        rw [e] at hx
        simpa using hx.symm
      subst this; exact hr
    · obtain ⟨x, hr, hx, _⟩ := h4.lookup_int K ht he hz (keyOf_int_mk Tryz.underlying5 (q := .u8) (a := 111) (by decide))
      have : x = 8 := by
        have e : ((((DataW.map (H := Unit) []).put (.int .u8 120) (.lit (.int .i64 16))).put (.int .u8 111) (.lit (.int .i64 8))).put (.int .u8 98) (.lit (.int .i64 2))).atKey (.int .u8 111) (.lit (.int .i64 0)) = .lit (.int .i64 8) := by rfl
        rw [e] at hx
        simpa using hx.symm
      subst this; exact hr
    · obtain ⟨x, hr, hx, _⟩ := h4.lookup_int K ht he hz (keyOf_int_mk Tryz.underlying5 (q := .u8) (a := 98) (by decide))
      have : x = 2 := by
        have e : ((((DataW.map (H := Unit) []).put (.int .u8 120) (.lit (.int .i64 16))).put (.int .u8 111) (.lit (.int .i64 8))).put (.int .u8 98) (.lit (.int .i64 2))).atKey (.int .u8 98) (.lit (.int .i64 0)) = .lit (.int .i64 2) := by rfl
        rw [e] at hx
        simpa using hx.symm
      subst this; exact hr
  · have b0 : Below w.heap.size w (w.alloc (.map #[] 0)) := (Below.refl _ _).alloc (Nat.le_refl _) _
    have b2 := b0.grown t2.grown b0.size (fun k hk => by cases hk; exact Nat.le_refl _)
    have b3 := b2.grown t3.grown b2.size (fun k hk => by cases hk; exact Nat.le_refl _)
    exact b3.grown t4.grown b3.size (fun k hk => by cases hk; exact Nat.le_refl _)
end Go.Proofs.YtmhagigokgklaaaGreatDoor
