/- Joined texts: Pj Pp Pk Pq Ps. Each begins with its own remark. -/
import Derived.Test.YtmhagigokgklaaaGreatDoorJg
import Derived.Test.YtmhagigokgklaaaGreatDoorJh
import Derived.Test.YtmhagigokgklaaaGreatDoorJi
import Derived.Maps.OwnSet
import Derived.Maps.OwnOps
import Derived.Deep.CutBlock
import Derived.Deep.DeepCutAuto

/- num.Parse but for its bases. -/
namespace Go.Proofs.YtmhagigokgklaaaGreatDoor
open Go Go.RowKit Go.Sort Go.Lib

theorem bars_none (l : List UInt8) (h : ∀ x ∈ l, x ≠ 95) : noBars l = l := by
  unfold noBars
  rw [List.filter_eq_self]
  intro x hx
  simpa using h x hx
theorem first_bar : ∀ l : List UInt8, (∀ x ∈ l, x ≠ 95) ∨ ∃ a b, l = a ++ 95 :: b ∧ ∀ x ∈ a, x ≠ 95
  | [] => .inl (by simp)
  | c :: l => by
    by_cases hc : c = 95
    · exact .inr ⟨[], l, by rw [hc]; rfl, by simp⟩
    · rcases first_bar l with h | ⟨a, b, h1, h2⟩
      · exact .inl (by intro x hx; rcases List.mem_cons.1 hx with h3 | h3; · rw [h3]; exact hc
                       · exact h x h3)
      · exact .inr ⟨c :: a, b, by rw [h1]; rfl, by intro x hx; rcases List.mem_cons.1 hx with h3 | h3; · rw [h3]; exact hc
                                                   · exact h2 x h3⟩
theorem replaceK_bars : ∀ (n : Nat) (l : List UInt8), l.length ≤ n → replaceK [95] [] (count l [95]) l = noBars l := by
  intro n
  induction n with
  | zero =>
    intro l hl
    have h0 : l = [] := List.length_eq_zero_iff.1 (by omega)
    subst h0
    rfl
  | succ n ih =>
    intro l hl
    rcases first_bar l with h | ⟨a, b, rfl, ha⟩
    · have hi : index l [95] = -1 := by rw [index_one, indexByte_not 95 l h]
      rw [count_miss hi, bars_none l h]; rfl
    · have hi : index (a ++ 95 :: b) [95] = (a.length : Nat) := by rw [index_one, indexByte_at 95 b a ha]
      have hc : count (a ++ 95 :: b) [95] = count b [95] + 1 := by
        rw [count_one, count_one, List.count_append, List.count_cons_self, List.count_eq_zero.2 (fun h => ha 95 h rfl)]; omega
      have hd : (a ++ 95 :: b).drop (a.length + [(95 : UInt8)].length) = b := by
        rw [show a ++ (95 : UInt8) :: b = (a ++ [95]) ++ b by simp]
        exact List.drop_left' (by simp)
      rw [hc, replaceK_hit _ _ _ _ _ hi, hd, ih b (by rw [List.length_append, List.length_cons] at hl; omega), List.take_left']
      · show a ++ [] ++ noBars b = noBars (a ++ 95 :: b)
        unfold noBars
        rw [List.filter_append, List.filter_cons, if_neg (by simp), List.append_nil]
        congr 1
        exact (bars_none a ha).symm
      · rfl
theorem replaceAll_bars (l : List UInt8) : replaceAll l [95] [] = noBars l := by
  unfold replaceAll replace replaceNum
  rw [if_neg (by decide), if_pos (.inl (by decide))]
  exact replaceK_bars _ l (Nat.le_refl _)

/-- bytes of decimal texts are of a class -/
theorem dec_class (l : List UInt8) (h : stN l ≠ 0) : ∀ x ∈ l, clsN x.toNat ≠ 0 := by
  revert h
  refine snoc_ind (P := fun l => stN l ≠ 0 → ∀ x ∈ l, clsN x.toNat ≠ 0) (fun _ x hx => by simp at hx) (fun l c ih h => ?_) l
  rw [stN_snoc] at h
  have h1 : stN l ≠ 0 := fun h2 => h (by rw [h2]; exact next_zero _ (cls_lt _))
  have h2 : clsN c.toNat ≠ 0 := fun h3 => h (by
    rw [h3]
    have key : ∀ q : Fin 13, nextN q.val 0 = 0 := by decide +kernel
    exact key ⟨_, stN_lt l⟩)
  intro x hx
  rcases List.mem_append.1 hx with h3 | h3
  · exact ih h1 x h3
  · rw [List.mem_singleton] at h3; rw [h3]; exact h2
theorem dec_st (l : List UInt8) (h : decB l = true) : stN l ≠ 0 := by
  intro h2
  unfold decB at h
  rw [h2] at h
  exact absurd h (by decide)
theorem dec_head1 (l : List UInt8) (h : decB l = true) : ∃ x t, l = x :: t ∧ x ≠ 45 := by
  cases l with
  | nil => exact absurd h (by decide)
  | cons x t =>
    refine ⟨x, t, rfl, ?_⟩
    rintro rfl
    have : stN (45 :: t) = 0 := by
      unfold stN
      rw [List.foldl_cons, show nextN 1 (clsN (45 : UInt8).toNat) = 0 from by decide]
      exact fold_zero t
    exact dec_st _ h this

theorem cls_low (c : Nat) (h : c < 256) (h1 : clsN c ≠ 0) : indexByte [120, 111, 98] (UInt8.ofNat (bits .or .u8 (c : Int) 32).toNat) = -1 := by
  have key : ∀ c : Fin 256, clsN c.val ≠ 0 → indexByte [120, 111, 98] (UInt8.ofNat (bits .or .u8 ((c.val : Nat) : Int) 32).toNat) = -1 := by decide +kernel
  exact key ⟨c, h⟩ h1

theorem run_copysign (r : Nat) (w : World) (h : r < 9223372036854775808) :
    Calls Tryz.prog 26 #[.float .f64 r, .float .f64 13830554455654793216] w fun e w' => e = .returned (.float .f64 (r + 9223372036854775808 : Nat)) ∧ w' = w := by
  have hb := run_mbits r
  have hb1 : ∀ W : World, (callFunc 27 #[.float .f64 13830554455654793216]).run Tryz.prog W = .ok (.value (.int .u64 13830554455654793216)) W := run_mbits 13830554455654793216
  have hf := run_mfrom (r + 9223372036854775808)
  have h1 : bits .andNot .u64 (r : Int) 9223372036854775808 = (r : Int) := by
    have h := u64_andNot_nat r 9223372036854775808 (by omega) (by decide)
    rw [show ((9223372036854775808 : Nat) : Int) = 9223372036854775808 from rfl] at h
    rw [h]
    congr 1
    have h3 : (r &&& (18446744073709551615 - 9223372036854775808)) = r := by
      rw [show 18446744073709551615 - 9223372036854775808 = 2 ^ 63 - 1 from by decide, Nat.and_two_pow_sub_one_eq_mod, Nat.mod_eq_of_lt (by omega)]
    exact h3
  have h2 : bits .and .u64 13830554455654793216 9223372036854775808 = 9223372036854775808 := by decide +kernel
  have h3 : bits .or .u64 (r : Int) 9223372036854775808 = ((r + 9223372036854775808 : Nat) : Int) := by
    have h := bits_or_u64_nat r 9223372036854775808 (by omega) (by decide)
    rw [show ((9223372036854775808 : Nat) : Int) = 9223372036854775808 from rfl] at h
    rw [h]
    congr 1
    rw [show (9223372036854775808 : Nat) = 2 ^ 63 * 1 from by decide, Nat.or_comm, ← Nat.two_pow_add_eq_or_of_lt (by omega)]
    omega
  generalize r + 9223372036854775808 = R at *
  go_enter Tryz.func26, Tryz.ntmps26
  go_wp2_with fail
  go_ret
  exact ⟨rfl, rfl⟩

/-- the sign's bytes -/
def sgB (neg : Bool) : List UInt8 := if neg then [45] else []
def sgW (neg : Bool) : Nat := if neg then 9223372036854775808 else 0
/-- what Parse hands back -/
def PaPost (X Q : Nat) (neg : Bool) (w : World) (e : Ending) (w' : World) : Prop := ∃ r, Near X Q r ∧ e = .returned (.tuple #[.int .u64 (r + sgW neg : Nat), .int .i64 0]) ∧ Below w.heap.size w w'

theorem cutp_run (s : ByteArray) (neg : Bool) (l : List UInt8) (w : World) (hs : s.data.toList = sgB neg ++ l) (hl : neg = false → l.head? ≠ some 45) :
    Calls Tryz.prog 19 #[.string s, .string ⟨#[45]⟩] w fun e w' => e = .returned (.tuple #[.string ⟨l.toArray⟩, .bool neg]) ∧ w' = w := by
  have h := Tryz.strings_CutPrefix s ⟨#[45]⟩ w
  have hp : hasPrefix s.data.toList (⟨#[45]⟩ : ByteArray).data.toList = neg := by
    rw [hs]
    cases neg with
    | true => rfl
    | false =>
      show hasPrefix l [45] = false
      cases l with
      | nil => rfl
      | cons x t =>
        have := hl rfl
        simp only [List.head?_cons, ne_eq, Option.some.injEq] at this
        show ([45] : List UInt8).isPrefixOf (x :: t) = false
        simp only [List.isPrefixOf, Bool.and_true]
        exact beq_eq_false_iff_ne.2 fun h => this h.symm
  have ht : trimPrefix s.data.toList (⟨#[45]⟩ : ByteArray).data.toList = l := by
    unfold trimPrefix
    rw [hp, hs]
    cases neg <;> rfl
  rw [hp, ht] at h
  exact h

theorem rep_run (l : List UInt8) (w : World) (hg : Globs w) (hl : l.length ≤ 1000) :
    Calls Tryz.prog 25 #[.string ⟨l.toArray⟩, .string ⟨#[95]⟩, .string ⟨#[]⟩] w fun e w' => e = .returned (.string ⟨(noBars l).toArray⟩) ∧ Below w.heap.size w w' := by
  obtain ⟨m, hm⟩ := hg.mlen
  refine (Tryz.strings_ReplaceAll ⟨l.toArray⟩ ⟨#[95]⟩ ⟨#[]⟩ m w (by rw [ba_size]; omega) hm (by decide) (by rw [ba_size, show (⟨#[]⟩ : ByteArray).size = 0 from rfl]; omega)).mono ?_
  rintro e w' ⟨he, hb⟩
  rw [show (⟨#[95]⟩ : ByteArray).data.toList = [95] from rfl, show (⟨#[]⟩ : ByteArray).data.toList = [] from rfl, replaceAll_bars] at he
  exact ⟨he, hb⟩

theorem near_lt63 {X Q r : Nat} (h : Near X Q r) : r < 9223372036854775808 := by
  have := h.inf
  unfold INF at this
  omega

set_option maxRecDepth 100000 in
set_option maxHeartbeats 4000000 in
theorem parse_dec (s : ByteArray) (neg : Bool) (l : List UInt8) (X Q K : Nat) (w : World) (hG : Globs w) (hT : GlobT K w) (hs : s.data.toList = sgB neg ++ l) (hlen : s.size ≤ 400) (hd : decB l = true)
    (hpf : ∀ W : World, Globs W → GlobT K W → Calls Tryz.prog 23 #[.string ⟨(noBars l).toArray⟩, .int .i64 64] W (PlPost X Q W)) :
    Calls Tryz.prog 11 #[.string s] w (PaPost X Q neg w) := by
  obtain ⟨x0, tl, hl0, hx0⟩ := dec_head1 l hd
  have hll : l.length ≤ 400 := by
    have : s.size = s.data.toList.length := by simp
    rw [hs, List.length_append] at this
    omega
  have hcl := dec_class l (dec_st l hd)
  have HCP := Lib.hid (cutp_run s neg l w hs (fun _ => by rw [hl0]; simpa using hx0))
  have HDE : Hid (∀ W : World, Calls Tryz.prog 24 #[.string ⟨l.toArray⟩] W fun e w' => e = .returned (.bool true) ∧ Below W.heap.size W w') := Lib.hid fun W => by
    have := decimal_any ⟨l.toArray⟩ W (by rw [ba_size]; omega)
    rw [show (⟨l.toArray⟩ : ByteArray).data.toList = l from rfl, hd] at this
    exact this
  have HRE := Lib.hid (fun (W : World) (h : Globs W) => rep_run l W h (by omega))
  have HPF := Lib.hid hpf
  have h400 : decide ((400 : Int) < (s.size : Int)) = false := by rw [decide_eq_false_iff_not]; omega
  have hnan0 : (l == [78, 97, 78]) = false := by
    rw [beq_eq_false_iff_ne]
    rintro rfl
    exact absurd (hcl 78 (by simp)) (by decide)
  have hinf0 : (l == [73, 110, 102, 105, 110, 105, 116, 121]) = false := by
    rw [beq_eq_false_iff_ne]
    rintro rfl
    exact absurd (hcl 73 (by simp)) (by decide)
  obtain ⟨T, hT0⟩ : ∃ T : ByteArray, T = ⟨l.toArray⟩ := ⟨_, rfl⟩
  have htsz : T.size = l.length := by rw [hT0]; rfl
  have hnan : (T.toList == [78, 97, 78]) = false := by rw [ByteArray.toList_eq, hT0]; exact hnan0
  have hinf : (T.toList == [73, 110, 102, 105, 110, 105, 116, 121]) = false := by rw [ByteArray.toList_eq, hT0]; exact hinf0
  have HIX : Hid (∀ (h : 1 < T.size) (W : World), Calls Tryz.prog 21 #[.string ⟨#[120, 111, 98]⟩, .int .u8 (bits .or .u8 ((T[1].toNat : Nat) : Int) 32)] W fun e w' => e = .returned (.int .i64 (-1)) ∧ w' = W) := Lib.hid fun h W => by
    have hc := cls_low T[1].toNat T[1].toNat_lt (hcl _ (by subst hT0; exact List.getElem_mem (l := l) (n := 1) (by rw [ba_size] at h; exact h)))
    have := Tryz.strings_IndexByte ⟨#[120, 111, 98]⟩ (bits .or .u8 ((T[1].toNat : Nat) : Int) 32) W
    rw [show (⟨#[120, 111, 98]⟩ : ByteArray).data.toList = [120, 111, 98] from rfl] at this
    rw [show indexByte [120, 111, 98] (bits .or .u8 ((T[1].toNat : Nat) : Int) 32).toNat.toUInt8 = -1 from hc] at this
    exact this
  rw [← hT0] at HCP HDE HRE
  have hGS := Lib.hid hG
  have hTS := Lib.hid hT
  have hcases : T.size ≤ 2 ∨ (∃ h : 2 < T.size, (((T[0]'(Nat.lt_trans (by decide) h)).toNat : Int) == 48) = false) ∨ (∃ h : 2 < T.size, (((T[0]'(Nat.lt_trans (by decide) h)).toNat : Int) == 48) = true) := by
    by_cases h : 2 < T.size
    · right
      cases h2 : (((T[0]'(Nat.lt_trans (by decide) h)).toNat : Int) == 48)
      · exact .inl ⟨h, h2⟩
      · exact .inr ⟨h, h2⟩
    · left; omega
  clear hG hT hpf hs hd hcl hl0 hT0 hll hnan0 hinf0
  rcases hcases with h2 | ⟨h2, t48⟩ | ⟨h2, t48⟩
  all_goals
    have HLN := Lib.hid htsz
    clear htsz
    go_enter Tryz.func11, Tryz.ntmps11
    go_wp2_with fail
    refine HCP.out.mono ?_
    rintro e w ⟨rfl, rfl⟩
    go_wp2_with (go_at_call 21; refine (HIX.out (by omega) _).mono ?_; rintro e w ⟨rfl, rfl⟩)
    refine (HDE.out _).mono ?_
    rintro e w1 ⟨rfl, hb1⟩
    have HB1 := Lib.hid hb1
    clear hb1
    go_wp2_with fail
    refine (HRE.out _ (hGS.out.on HB1.out)).mono ?_
    rintro e w2 ⟨rfl, hb2⟩
    have HB2 : Hid (Below w.heap.size w w2) := Lib.hid (HB1.out.trans (hb2.mono HB1.out.size))
    clear hb2
    go_wp2_with fail
    refine (HPF.out _ (hGS.out.on HB2.out) (hTS.out.on HB2.out)).mono ?_
    rintro e w3 ⟨r, ev, hn, rfl, hb3⟩
    have HB3 : Hid (Below w.heap.size w w3) := Lib.hid (HB2.out.trans (hb3.mono HB2.out.size))
    have HN := Lib.hid hn
    have HCS := Lib.hid (fun (W : World) => run_copysign r W (near_lt63 hn))
    have hmb : ∀ W : World, (callFunc 27 #[.float .f64 r]).run Tryz.prog W = .ok (.value (.int .u64 r)) W := run_mbits r
    have hmb2 : ∀ W : World, (callFunc 27 #[.float .f64 (r + 9223372036854775808 : Nat)]).run Tryz.prog W = .ok (.value (.int .u64 (r + 9223372036854775808 : Nat))) W := run_mbits (r + 9223372036854775808)
    clear hb3 hn
    obtain ⟨R2, hR2⟩ : ∃ R2 : Nat, R2 = r + 9223372036854775808 := ⟨_, rfl⟩
    rw [← hR2] at HCS hmb2
    have HR2 := Lib.hid hR2
    clear hR2
    cases neg
    · go_wp2_with fail
      refine bodyPost_ret (v := .tuple #[.int .u64 r, .int .i64 0]) (by simp [results, Tryz.results11, go_sem]) rfl ⟨r, HN.out, rfl, HB3.out⟩
    · go_wp2_with fail
      refine (HCS.out _).mono ?_
      rintro e w4 ⟨rfl, hw4⟩
      subst hw4
      go_wp2_with fail
      refine bodyPost_ret (v := .tuple #[.int .u64 R2, .int .i64 0]) (by simp [results, Tryz.results11, go_sem]) rfl ⟨r, HN.out, by rw [HR2.out]; rfl, HB3.out⟩
end Go.Proofs.YtmhagigokgklaaaGreatDoor

/- What hexadecimal makes of digits (plain); its map; builders. -/
namespace Go.Proofs.YtmhagigokgklaaaGreatDoor
open Go Go.RowKit Go.Sort Go.Lib Go.Maps

theorem BuilderAtF.go {T e : TypeId} {B b : Nat} {p : Value} {bs : List Value} {w w' : World} (h : BuilderAtF T e B b p bs w) (hb : Below w.heap.size w w') : BuilderAtF T e B b p bs w' := by
  have hlt := h.lt
  obtain ⟨hB, v, hbk, hown, hne⟩ := h
  refine ⟨hB, v, (hb.block b hlt).trans hbk, ⟨hown.1, ?_⟩, hne⟩
  rcases hown.2 with hn | ⟨g, cap, cur, fz, hv, hbg, hg, rest⟩
  · exact .inl hn
  · have hgl : g < w.heap.size := (Array.getElem?_eq_some_iff.1 hg).1
    exact .inr ⟨g, cap, cur, fz, hv, hbg, (hb.block g hgl).trans hg, rest⟩
theorem IsBuilderF.go {T e : TypeId} {B b : Nat} {bs : List Value} {w w' : World} (h : IsBuilderF T e B b bs w) (hb : Below w.heap.size w w') : IsBuilderF T e B b bs w' :=
  h.elim (fun x => .inl (BuilderAtF.go x hb)) (fun x => .inr (BuilderAtF.go x hb))

/-- k digits of the base 2 -/
def bitsK : Nat → Nat → List UInt8
  | 0, _ => []
  | k + 1, v => bitsK k (v / 2) ++ [UInt8.ofNat (48 + v % 2)]
theorem bitsK_len : ∀ k v, (bitsK k v).length = k
  | 0, _ => rfl
  | k + 1, v => by rw [bitsK, List.length_append, bitsK_len k]; rfl
theorem dv_bit (v : Nat) : dv (UInt8.ofNat (48 + v % 2)).toNat = v % 2 := by
  rcases Nat.mod_two_eq_zero_or_one v with h | h <;> rw [h] <;> decide
theorem bitsK_val : ∀ k v, v < 2 ^ k → dvl 2 (bitsK k v) = v
  | 0, v, h => by simp at h; subst h; rfl
  | k + 1, v, h => by
    rw [bitsK, dvl_snoc, bitsK_val k (v / 2) (by rw [Nat.pow_succ] at h; omega), dv_bit]
    omega
theorem bitsK_bits : ∀ k v, ∀ x ∈ bitsK k v, x.toNat = 48 ∨ x.toNat = 49
  | 0, _, x, h => by simp [bitsK] at h
  | k + 1, v, x, h => by
    rw [bitsK] at h
    rcases List.mem_append.1 h with h1 | h1
    · exact bitsK_bits k _ x h1
    · rw [List.mem_singleton] at h1
      subst h1
      rcases Nat.mod_two_eq_zero_or_one v with h2 | h2 <;> rw [h2] <;> decide
theorem binD_ne (u : Nat) : binD u ≠ [] := by
  by_cases h : u < 2
  · rw [binD_lt u h]; simp
  · rw [binD_ge u h]; simp
theorem binD_drop : ∀ k v, v < 2 ^ k → (binD (v + 2 ^ k)).drop 1 = bitsK k v
  | 0, v, h => by
    simp at h; subst h
    rw [Nat.pow_zero, Nat.zero_add, binD_lt 1 (by decide)]; rfl
  | k + 1, v, h => by
    have hp : 0 < 2 ^ k := Nat.two_pow_pos k
    rw [Nat.pow_succ] at h ⊢
    rw [binD_ge _ (by omega), bitsK, ← binD_drop k (v / 2) (by omega), show (v + 2 ^ k * 2) / 2 = v / 2 + 2 ^ k by omega, show (v + 2 ^ k * 2) % 2 = v % 2 by omega]
    cases hb : binD (v / 2 + 2 ^ k) with
    | nil => exact absurd hb (binD_ne _)
    | cons x t => rfl

/-- a digit of the base B -/
def okB (B : Nat) (x : UInt8) : Prop := 0 ≤ hexI x.toNat ∧ hexI x.toNat < B
def bval (B : Nat) (l : List UInt8) : Nat := l.foldl (fun a c => a * B + (hexI c.toNat).toNat) 0
theorem bval_snoc (B : Nat) (l : List UInt8) (c : UInt8) : bval B (l ++ [c]) = bval B l * B + (hexI c.toNat).toNat := by
  unfold bval; rw [List.foldl_append]; rfl
/-- all digits of the base 2 -/
def bitsL (k : Nat) (l : List UInt8) : List UInt8 := l.flatMap fun x => bitsK k (hexI x.toNat).toNat
theorem bitsL_snoc (k : Nat) (l : List UInt8) (c : UInt8) : bitsL k (l ++ [c]) = bitsL k l ++ bitsK k (hexI c.toNat).toNat := by
  unfold bitsL; rw [List.flatMap_append]; simp
theorem bitsL_len (k : Nat) : ∀ l, (bitsL k l).length = k * l.length := by
  refine snoc_ind rfl fun l c ih => ?_
  rw [bitsL_snoc, List.length_append, ih, bitsK_len, List.length_append, List.length_singleton, Nat.mul_add]; omega
theorem bitsL_bits (k : Nat) (l : List UInt8) : ∀ x ∈ bitsL k l, x.toNat = 48 ∨ x.toNat = 49 := by
  intro x hx
  obtain ⟨y, _, hy⟩ := List.mem_flatMap.1 hx
  exact bitsK_bits _ _ x hy
theorem bitsL_val (k : Nat) : ∀ l, (∀ x ∈ l, okB (2 ^ k) x) → dvl 2 (bitsL k l) = bval (2 ^ k) l := by
  refine snoc_ind (fun _ => rfl) fun l c ih h => ?_
  have h1 := ih fun x hx => h x (List.mem_append_left _ hx)
  obtain ⟨h2, h3⟩ := h c (by simp)
  rw [bitsL_snoc, dvl_app, bitsK_len, h1, bitsK_val k _ (by omega), bval_snoc]

theorem dvl_zeros (b n : Nat) : dvl b (List.replicate n 48) = 0 := by
  induction n with
  | zero => rfl
  | succ n ih => rw [List.replicate_succ', dvl_snoc, ih]; simp [dv]
/-- with noughts ahead, up to a multiple of 4 -/
def padB (l : List UInt8) : List UInt8 := List.replicate ((4 - l.length % 4) % 4) 48 ++ l
theorem padB_val (b : Nat) (l : List UInt8) : dvl b (padB l) = dvl b l := by
  unfold padB
  rw [dvl_app, dvl_zeros]; omega
theorem padB_len (l : List UInt8) : (padB l).length % 4 = 0 ∧ (padB l).length ≤ l.length + 3 := by
  unfold padB
  rw [List.length_append, List.length_replicate]
  omega
theorem padB_bits (l : List UInt8) (h : ∀ x ∈ l, x.toNat = 48 ∨ x.toNat = 49) : ∀ x ∈ padB l, x.toNat = 48 ∨ x.toNat = 49 := by
  intro x hx
  rcases List.mem_append.1 hx with h1 | h1
  · rw [List.eq_of_mem_replicate h1]; left; decide
  · exact h x h1

theorem DG_dv : ∀ v : Fin 16, ∀ h : v.val < DG.size, dv (DG[v.val]'h).toNat = v.val ∧ (okD 16 (DG[v.val]'h)) := by
  intro v h
  have key : ∀ v : Fin 16, dv ([48, 49, 50, 51, 52, 53, 54, 55, 56, 57, 97, 98, 99, 100, 101, 102].getD v.val 0) = v.val ∧ ((48 ≤ [48, 49, 50, 51, 52, 53, 54, 55, 56, 57, 97, 98, 99, 100, 101, 102].getD v.val 0 ∧ [48, 49, 50, 51, 52, 53, 54, 55, 56, 57, 97, 98, 99, 100, 101, 102].getD v.val 0 ≤ 57) ∨ ((16 : Nat) = 16 ∧ 97 ≤ [48, 49, 50, 51, 52, 53, 54, 55, 56, 57, 97, 98, 99, 100, 101, 102].getD v.val 0 ∧ [48, 49, 50, 51, 52, 53, 54, 55, 56, 57, 97, 98, 99, 100, 101, 102].getD v.val 0 ≤ 102)) := by decide +kernel
  have e : (DG[v.val]'h).toNat = [48, 49, 50, 51, 52, 53, 54, 55, 56, 57, 97, 98, 99, 100, 101, 102].getD v.val 0 := by
    have k2 : ∀ v : Fin 16, ((DG.data.toList).getD v.val 0).toNat = [48, 49, 50, 51, 52, 53, 54, 55, 56, 57, 97, 98, 99, 100, 101, 102].getD v.val 0 := by decide +kernel
    rw [← k2 v, List.getD_eq_getElem?_getD, List.getElem?_eq_getElem (by simpa using h)]
    rfl
  rw [e]
  refine ⟨(key v).1, ?_⟩
  unfold okD isDig
  rw [e]
  exact (key v).2

/-- the map of letters -/
theorem map_base (w : World) (c : Int) (B : Int) (hcB : (c = 120 ∧ B = 16) ∨ (c = 111 ∧ B = 8) ∨ (c = 98 ∧ B = 2)) : ∃ w2 w3 w4 : World,
    (Instr.mapUpdate 79 (.map (some w.heap.size)) (.int .u8 120) (.int .i64 16)).run Tryz.prog (w.alloc (.map #[] 0)) = .ok () w2 ∧
    (Instr.mapUpdate 79 (.map (some w.heap.size)) (.int .u8 111) (.int .i64 8)).run Tryz.prog w2 = .ok () w3 ∧
    (Instr.mapUpdate 79 (.map (some w.heap.size)) (.int .u8 98) (.int .i64 2)).run Tryz.prog w3 = .ok () w4 ∧
    (Instr.lookup 79 (.map (some w.heap.size)) (.int .u8 c) false).run Tryz.prog w4 = .ok (.int .i64 B) w4 ∧ Below w.heap.size w w4 := by
  have K : Keyed Tryz.prog 5 := int_keyed Tryz.underlying5
  have ht : Tryz.prog.underlying 79 = some (.map 5 3) := Tryz.underlying79
  have he : Tryz.prog.underlying 3 = some (.int .i64) := Tryz.underlying3
  have h0 := World.ownsMap_made (H := Unit) w Tryz.prog 5 (plainElem Tryz.prog 3)
  obtain ⟨w2, r2, h2, t2⟩ := h0.store K ht (by decide) (keyOf_int_mk Tryz.underlying5 (q := .u8) (a := 120) (by decide)) (plainElem_int he (a := 16) (by decide))
  obtain ⟨w3, r3, h3, t3⟩ := h2.store K ht (by decide) (keyOf_int_mk Tryz.underlying5 (q := .u8) (a := 111) (by decide)) (plainElem_int he (a := 8) (by decide))
  obtain ⟨w4, r4, h4, t4⟩ := h3.store K ht (by decide) (keyOf_int_mk Tryz.underlying5 (q := .u8) (a := 98) (by decide)) (plainElem_int he (a := 2) (by decide))
  refine ⟨w2, w3, w4, r2, r3, r4, ?_, ?_⟩
  · have hz : (zeroValue 3).run Tryz.prog w4 = .ok (.int .i64 0) w4 := Tryz.zeroValue3 w4
    rcases hcB with ⟨rfl, rfl⟩ | ⟨rfl, rfl⟩ | ⟨rfl, rfl⟩
    · obtain ⟨x, hr, hx, _⟩ := h4.lookup_int K ht he hz (keyOf_int_mk Tryz.underlying5 (q := .u8) (a := 120) (by decide))
      have : x = 16 := by
        have e : ((((DataW.map (H := Unit) []).put (.int .u8 120) (.lit (.int .i64 16))).put (.int .u8 111) (.lit (.int .i64 8))).put (.int .u8 98) (.lit (.int .i64 2))).atKey (.int .u8 120) (.lit (.int .i64 0)) = .lit (.int .i64 16) := by rfl
        rw [e] at hx
        simpa using hx.symm
      subst this; exact hr
    · obtain ⟨x, hr, hx, _⟩ := h4.lookup_int K ht he hz (keyOf_int_mk Tryz.underlying5 (q := .u8) (a := 111) (by decide))
      have : x = 8 := by
        have e : ((((DataW.map (H := Unit) []).put (.int .u8 120) (.lit (.int .i64 16))).put (.int .u8 111) (.lit (.int .i64 8))).put (.int .u8 98) (.lit (.int .i64 2))).atKey (.int .u8 111) (.lit (.int .i64 0)) = .lit (.int .i64 8) := by rfl
        rw [e] at hx
        simpa using hx.symm
      subst this; exact hr
    · obtain ⟨x, hr, hx, _⟩ := h4.lookup_int K ht he hz (keyOf_int_mk Tryz.underlying5 (q := .u8) (a := 98) (by decide))
      have : x = 2 := by
        have e : ((((DataW.map (H := Unit) []).put (.int .u8 120) (.lit (.int .i64 16))).put (.int .u8 111) (.lit (.int .i64 8))).put (.int .u8 98) (.lit (.int .i64 2))).atKey (.int .u8 98) (.lit (.int .i64 0)) = .lit (.int .i64 2) := by rfl
        rw [e] at hx
        simpa using hx.symm
      subst this; exact hr
  · have b0 : Below w.heap.size w (w.alloc (.map #[] 0)) := (Below.refl _ _).alloc (Nat.le_refl _) _
    have b2 := b0.grown t2.grown b0.size (fun k hk => by cases hk; exact Nat.le_refl _)
    have b3 := b2.grown t3.grown b2.size (fun k hk => by cases hk; exact Nat.le_refl _)
    exact b3.grown t4.grown b3.size (fun k hk => by cases hk; exact Nat.le_refl _)
end Go.Proofs.YtmhagigokgklaaaGreatDoor

/- num.Parse of decimal texts of at most 19 digits; what is refused, and what is no number. -/
namespace Go.Proofs.YtmhagigokgklaaaGreatDoor
open Go Go.RowKit Go.Sort Go.Lib

/-- l (with bars) is digits D times ten to the power p -/
def DecIs (l D : List UInt8) (p : Int) : Prop := ∃ W F dot M, MantF M W F dot ∧ W ++ F ≠ [] ∧ D = W ++ F ∧
  ((noBars l = M ∧ p = -(F.length : Int)) ∨ ∃ eb sg X, PowF (powT eb sg X) eb sg X ∧ X ≠ [] ∧ noBars l = M ++ powT eb sg X ∧ p = (exF X : Int) * sgZ sg - F.length)

/-- few digits are held whole -/
theorem rf_small (M W F : List UInt8) (dot : Bool) (h : MantF M W F dot) (h19 : (dropZ (W ++ F)).length ≤ 19) (x : Int) :
    (rfF 10 19 M).mant = dvl 10 (W ++ F) ∧ (rfF 10 19 M).tr = false ∧ (rfF 10 19 M).mant < 10 ^ 19 ∧ ((rfF 10 19 M).mant ≠ 0 → rfExp (rfF 10 19 M) x = x - F.length) := by
  obtain ⟨i, hd, he, _, _⟩ := rf_mant 10 19 M W F dot h.eq (fun x hx => dig_ne46 (h.w x hx)) (fun x hx => dig_ne46 (h.f x hx)) h.nodot
  have hall : ∀ x ∈ W ++ F, isDig x := fun x hx => (List.mem_append.1 hx).elim (h.w x) (h.f x)
  have hm : (rfF 10 19 M).mant = dvl 10 (dropZ (W ++ F)) := by rw [i.mant, List.take_of_length_le h19]
  refine ⟨by rw [hm, dvl_dropZ], by rw [i.tr, List.drop_eq_nil_of_le h19]; rfl, ?_, ?_⟩
  · rw [hm]
    refine Nat.lt_of_lt_of_le (dvl_lt 10 (by decide) _ fun x hx => okD_dv (by decide) (.inl (hall x ((List.dropWhile_sublist _).subset hx)))) (Nat.pow_le_pow_right (by decide) h19)
  · intro h0
    unfold rfExp
    rw [if_neg h0]
    have h1 := i.nd
    have h2 := i.nm
    omega

theorem ba_of (l : List UInt8) : (⟨l.toArray⟩ : ByteArray).data.toList = l := rfl
theorem ba_first (M R : List UInt8) (W F : List UInt8) (dot : Bool) (h : MantF M W F dot) (hne : W ++ F ≠ []) : ∃ h0 : 0 < (⟨(M ++ R).toArray⟩ : ByteArray).size, (⟨(M ++ R).toArray⟩ : ByteArray)[0].toNat = 46 ∨ (48 ≤ (⟨(M ++ R).toArray⟩ : ByteArray)[0].toNat ∧ (⟨(M ++ R).toArray⟩ : ByteArray)[0].toNat ≤ 57) := by
  have hmem := mant_mem 10 M W F dot h.eq (fun x hx => .inl (h.w x hx)) (fun x hx => .inl (h.f x hx))
  cases M with
  | nil =>
    exfalso
    have := h.eq
    unfold mantT at this
    cases W with
    | cons x t => simp at this
    | nil =>
      cases dot with
      | true => simp at this
      | false => rw [h.nodot rfl] at hne; simp at hne
  | cons x t =>
    have h0 : 0 < (⟨(x :: t ++ R).toArray⟩ : ByteArray).size := by rw [ba_size]; simp
    refine ⟨h0, ?_⟩
    have hx : (⟨(x :: t ++ R).toArray⟩ : ByteArray)[0] = x := rfl
    rw [hx]
    rcases hmem x (by simp) with h1 | h1 | h1
    · left; rw [h1]; rfl
    · exact .inr h1
    · exact absurd h1.1 (by decide)

/-- at nought the power does not matter -/
theorem near_pow {d : Nat} {p q : Int} {r : Nat} (h : Near (dX d p) (dQ p) r) (he : d ≠ 0 → p = q) : Near (dX d q) (dQ q) r := by
  by_cases h0 : d = 0
  · subst h0
    obtain rfl := near_unique h (zero_near p)
    exact zero_near q
  · rw [← he h0]; exact h

theorem noBars_len (l : List UInt8) : (noBars l).length ≤ l.length := List.length_filter_le _ _

theorem pfloat_small (l D : List UInt8) (p : Int) (K : Nat) (w : World) (hG : Globs w) (hT : GlobT K w) (hl : l.length ≤ 1000) (hi : DecIs l D p) (h19 : (dropZ D).length ≤ 19) :
    Calls Tryz.prog 23 #[.string ⟨(noBars l).toArray⟩, .int .i64 64] w (PlPost (dX (dvl 10 D) p) (dQ p) w) := by
  obtain ⟨W, F, dot, M, hM, hne, rfl, hx⟩ := hi
  have hnl := noBars_len l
  refine pfloat_of _ _ _ K w hT (by rw [ba_size]; omega) ?_
  rcases hx with ⟨h1, rfl⟩ | ⟨eb, sg, X, hp, hX, h1, rfl⟩
  · rw [h1] at hnl ⊢
    obtain ⟨e1, e2, e3, e4⟩ := rf_small M W F dot hM h19 0
    have hz := ba_first M [] W F dot hM hne
    rw [List.append_nil] at hz
    obtain ⟨h0, hb⟩ := hz
    have hrf := rf_plain ⟨M.toArray⟩ w (by rw [ba_size]; omega) W F dot (by rw [ba_of]; exact hM) hne
    rw [ba_of, e2] at hrf
    have := atof_dec ⟨M.toArray⟩ _ K _ w hG.glob hT h0 (by rw [ba_size]; omega) hb e3 hrf
    refine this.mono ?_
    rintro e w' ⟨r, hn, he, hb⟩
    refine ⟨r, ?_, he, hb⟩
    rw [e1] at hn e4
    exact near_pow hn fun h => by rw [e4 h, Int.zero_sub]
  · rw [h1] at hnl ⊢
    obtain ⟨e1, e2, e3, e4⟩ := rf_small M W F dot hM h19 ((exF X : Int) * sgZ sg)
    obtain ⟨h0, hb⟩ := ba_first M (powT eb sg X) W F dot hM hne
    have hrf := rf_pow ⟨(M ++ powT eb sg X).toArray⟩ w (by rw [ba_size]; omega) M W F dot eb sg X hM hne hp hX (ba_of _)
    rw [e2] at hrf
    have := atof_dec ⟨(M ++ powT eb sg X).toArray⟩ _ K _ w hG.glob hT h0 (by rw [ba_size]; omega) hb e3 hrf
    refine this.mono ?_
    rintro e w' ⟨r, hn, he, hb⟩
    refine ⟨r, ?_, he, hb⟩
    rw [e1] at hn e4
    exact near_pow hn fun h => e4 h

theorem parse_small (s : ByteArray) (neg : Bool) (l D : List UInt8) (p : Int) (K : Nat) (w : World) (hG : Globs w) (hT : GlobT K w) (hs : s.data.toList = sgB neg ++ l) (hlen : s.size ≤ 400) (hd : decB l = true) (hi : DecIs l D p) (h19 : (dropZ D).length ≤ 19) :
    Calls Tryz.prog 11 #[.string s] w (PaPost (dX (dvl 10 D) p) (dQ p) neg w) := by
  have hll : l.length ≤ 400 := by
    have : s.size = s.data.toList.length := by simp
    rw [hs, List.length_append] at this
    omega
  exact parse_dec s neg l _ _ K w hG hT hs hlen hd fun W hg ht => pfloat_small l D p K W hg ht (by omega) hi h19

/-- what is refused is refused so -/
def NoPost (w : World) (e : Ending) (w' : World) : Prop := e = .returned (.tuple #[.int .u64 0, .int .i64 150]) ∧ Below w.heap.size w w'

set_option maxRecDepth 100000 in
set_option maxHeartbeats 4000000 in
theorem parse_nan (s : ByteArray) (neg : Bool) (w : World) (hs : s.data.toList = sgB neg ++ [78, 97, 78]) :
    Calls Tryz.prog 11 #[.string s] w fun e w' => e = .returned (.tuple #[.int .u64 9221120237041090560, .int .i64 0]) ∧ Below w.heap.size w w' := by
  have hsz : s.size ≤ 4 := by
    have : s.size = s.data.toList.length := by simp
    rw [this, hs]; cases neg <;> decide
  have HCP := Lib.hid (cutp_run s neg _ w hs (fun _ => by decide))
  have h400 : decide ((400 : Int) < (s.size : Int)) = false := by rw [decide_eq_false_iff_not]; omega
  clear hs
  go_enter Tryz.func11, Tryz.ntmps11
  go_wp2_with fail
  refine HCP.out.mono ?_
  rintro e w ⟨rfl, rfl⟩
  go_wp2_with fail
  refine bodyPost_ret (v := .tuple #[.int .u64 9221120237041090560, .int .i64 0]) (by simp [results, Tryz.results11, go_sem]) rfl ⟨rfl, Below.refl _ _⟩

theorem run_inf (w : World) : Calls Tryz.prog 20 #[.int .i64 1] w fun e w' => e = .returned (.float .f64 9218868437227405312) ∧ w' = w := by
  have hf : ∀ W : World, (callFunc 34 #[.int .u64 9218868437227405312]).run Tryz.prog W = .ok (.value (.float .f64 9218868437227405312)) W := run_mfrom 9218868437227405312
  go_enter Tryz.func20, Tryz.ntmps20
  go_wp2_with fail
  go_ret
  exact ⟨rfl, rfl⟩

set_option maxRecDepth 100000 in
set_option maxHeartbeats 4000000 in
theorem parse_inf (s : ByteArray) (neg : Bool) (w : World) (hs : s.data.toList = sgB neg ++ [73, 110, 102, 105, 110, 105, 116, 121]) :
    Calls Tryz.prog 11 #[.string s] w fun e w' => e = .returned (.tuple #[.int .u64 (9218868437227405312 + sgW neg : Nat), .int .i64 0]) ∧ Below w.heap.size w w' := by
  have hsz : s.size ≤ 9 := by
    have : s.size = s.data.toList.length := by simp
    rw [this, hs]; cases neg <;> decide
  have HCP := Lib.hid (cutp_run s neg _ w hs (fun _ => by decide))
  have HIN := Lib.hid run_inf
  have HCS : Hid (∀ W : World, Calls Tryz.prog 26 #[.float .f64 9218868437227405312, .float .f64 13830554455654793216] W fun e w' => e = .returned (.float .f64 18442240474082181120) ∧ w' = W) := Lib.hid fun W => run_copysign 9218868437227405312 W (by decide)
  have hmb : ∀ W : World, (callFunc 27 #[.float .f64 9218868437227405312]).run Tryz.prog W = .ok (.value (.int .u64 9218868437227405312)) W := run_mbits 9218868437227405312
  have hmb2 : ∀ W : World, (callFunc 27 #[.float .f64 18442240474082181120]).run Tryz.prog W = .ok (.value (.int .u64 18442240474082181120)) W := run_mbits 18442240474082181120
  have h400 : decide ((400 : Int) < (s.size : Int)) = false := by rw [decide_eq_false_iff_not]; omega
  clear hs
  cases neg
  · go_enter Tryz.func11, Tryz.ntmps11
    go_wp2_with fail
    refine HCP.out.mono ?_
    rintro e w ⟨rfl, rfl⟩
    go_wp2_with fail
    refine (HIN.out _).mono ?_
    rintro e w ⟨rfl, rfl⟩
    go_wp2_with fail
    refine bodyPost_ret (v := .tuple #[.int .u64 9218868437227405312, .int .i64 0]) (by simp [results, Tryz.results11, go_sem]) rfl ⟨rfl, Below.refl _ _⟩
  · go_enter Tryz.func11, Tryz.ntmps11
    go_wp2_with fail
    refine HCP.out.mono ?_
    rintro e w ⟨rfl, rfl⟩
    go_wp2_with fail
    refine (HIN.out _).mono ?_
    rintro e w ⟨rfl, rfl⟩
    go_wp2_with fail
    refine (HCS.out _).mono ?_
    rintro e w ⟨rfl, rfl⟩
    go_wp2_with fail
    refine bodyPost_ret (v := .tuple #[.int .u64 18442240474082181120, .int .i64 0]) (by simp [results, Tryz.results11, go_sem]) rfl ⟨rfl, Below.refl _ _⟩
end Go.Proofs.YtmhagigokgklaaaGreatDoor

/- num.hexadecimal. -/
namespace Go.Proofs.YtmhagigokgklaaaGreatDoor
open Go Go.RowKit Go.Sort Go.Lib

/-- no bar at an end, no two -/
def barOK (l : List UInt8) : Bool := !(hasPrefix l [95] || hasSuffix l [95] || contains l [95, 95])
def HexOK (B : Nat) (l : List UInt8) : Prop := barOK l = true ∧ ∀ x ∈ noBars l, okB B x
/-- what hexadecimal hands back -/
def HexPost (B : Nat) (l : List UInt8) (w : World) (e : Ending) (w' : World) : Prop :=
  (HexOK B l ∧ ∃ H : List UInt8, (∀ x ∈ H, okD 16 x) ∧ dvl 16 H = bval B (noBars l) ∧ H.length ≤ (noBars l).length + 1 ∧ (noBars l ≠ [] → H ≠ []) ∧ e = .returned (.tuple #[.string ⟨H.toArray⟩, .bool true]) ∧ Below w.heap.size w w') ∨
  (¬ HexOK B l ∧ e = .returned (.tuple #[.string ⟨#[]⟩, .bool false]) ∧ Below w.heap.size w w')

theorem barOK_false {l : List UInt8} {B : Nat} (h : barOK l = false) : ¬ HexOK B l := fun h2 => by
  have := h2.1
  rw [h] at this
  exact absurd this (by decide)

/-- in the loop over the digits: the builder holds these bytes, the range stands at k -/
structure L2 (w5 : World) (L : List UInt8) (wr : World) : Prop where
  bu : IsBuilderF 83 5 w5.heap.size w5.heap.size (byteCells L) wr
  be : Below w5.heap.size w5 wr
  le : w5.heap.size < wr.heap.size
theorem L2.start (w5 : World) : L2 w5 [] (w5.alloc (.cells #[.pointer Option.none, .slice Option.none 0 0] 83)) :=
  ⟨IsBuilderF.of (fresh_isBuilder 83 5 w5), (Below.refl _ _).alloc (Nat.le_refl _) _, by simp⟩
theorem L2.go {w5 : World} {L : List UInt8} {wr w' : World} (h : L2 w5 L wr) (hb : Below wr.heap.size wr w') : L2 w5 L w' :=
  ⟨IsBuilderF.go h.bu hb, h.be.trans (hb.mono h.be.size), Nat.lt_of_lt_of_le h.le hb.size⟩
theorem L2.write {w5 : World} {L : List UInt8} {wr w' : World} (h : L2 w5 L wr) (s : ByteArray)
    (hw : BuilderAtF 83 5 w5.heap.size w5.heap.size (.pointer (some ⟨w5.heap.size, 0, Option.none⟩)) (byteCells L ++ strCells s) w') (hb : Below w5.heap.size wr w') : L2 w5 (L ++ s.data.toList) w' :=
  ⟨.inr (by rw [byteCells_append]; exact hw), h.be.trans hb, Nat.lt_of_lt_of_le h.le hb.size⟩
structure L1 (w5 : World) (tt : ByteArray) (k : Nat) (L : List UInt8) (wr : World) : Prop where
  it : wr.heap[w5.heap.size + 1]? = some (.stringIter tt k)
  bu : IsBuilderF 83 5 w5.heap.size w5.heap.size (byteCells L) wr
  be : Below w5.heap.size w5 wr
theorem L1.le {w5 : World} {tt : ByteArray} {k : Nat} {L : List UInt8} {wr : World} (h : L1 w5 tt k L wr) : w5.heap.size + 1 < wr.heap.size := (Array.getElem?_eq_some_iff.1 h.it).1
theorem L1.start (w5 : World) (tt : ByteArray) : L1 w5 tt 0 [] ((w5.alloc (.cells #[.pointer Option.none, .slice Option.none 0 0] 83)).iter tt 0) := by
  refine ⟨?_, ?_, ?_⟩
  · have := World.iter_heap (w5.alloc (.cells #[.pointer Option.none, .slice Option.none 0 0] 83)) tt 0
    simpa using this
  · exact (IsBuilderF.of (fresh_isBuilder 83 5 w5)).alloc _
  · exact ((Below.refl _ _).alloc (Nat.le_refl _) _).alloc (by simp) _
theorem L1.next {w5 : World} {tt : ByteArray} {k : Nat} {L : List UInt8} {wr : World} (h : L1 w5 tt k L wr) (j : Nat) : L1 w5 tt j L (wr.iterAt (w5.heap.size + 1) tt j) :=
  ⟨iterAt_heap _ _ _ _ _ h.it, h.bu.iterAt h.it j, below_iterAt h.be (by omega) _ _⟩
theorem L1.go {w5 : World} {tt : ByteArray} {k : Nat} {L : List UInt8} {wr w' : World} (h : L1 w5 tt k L wr) (hb : Below wr.heap.size wr w') : L1 w5 tt k L w' :=
  ⟨(hb.block _ h.le).trans h.it, IsBuilderF.go h.bu hb, h.be.trans (hb.mono h.be.size)⟩
theorem L1.write {w5 : World} {tt : ByteArray} {k : Nat} {L : List UInt8} {wr w' : World} (h : L1 w5 tt k L wr) (s : ByteArray)
    (hw : BuilderAtF 83 5 w5.heap.size w5.heap.size (.pointer (some ⟨w5.heap.size, 0, Option.none⟩)) (byteCells L ++ strCells s) w') (hb : Below w5.heap.size wr w') (ho : OthersKept 5 (some w5.heap.size) wr w') : L1 w5 tt k (L ++ s.data.toList) w' :=
  ⟨ho.iter h.it (by omega), .inr (by rw [byteCells_append]; exact hw), h.be.trans hb⟩

theorem drop_one (l : List UInt8) : (⟨l.toArray⟩ : ByteArray).extract 1 (⟨l.toArray⟩ : ByteArray).size = ⟨(l.drop 1).toArray⟩ := by
  apply ByteArray.ext
  rw [ByteArray.data_extract]
  apply Array.ext'
  rw [ba_size]
  cases l with
  | nil => rfl
  | cons x t => simp

set_option maxRecDepth 100000 in
set_option maxHeartbeats 4000000 in
theorem hexadecimal_any (l : List UInt8) (c : Int) (B kk K : Nat) (w : World) (hG : Globs w) (hT : GlobT K w) (hl : l.length ≤ 400) (hcB : (c = 120 ∧ B = 16 ∧ kk = 4) ∨ (c = 111 ∧ B = 8 ∧ kk = 3) ∨ (c = 98 ∧ B = 2 ∧ kk = 1)) :
    Calls Tryz.prog 22 #[.string ⟨l.toArray⟩, .int .u8 c] w (HexPost B l w) := by
  obtain ⟨w2, w3, w4, r2, r3, r4, r5, hb4⟩ := map_base w c B (by rcases hcB with h | h | h <;> omega)
  obtain ⟨m, hm⟩ := (hG.on hb4).mlen
  have r1 : (Instr.makeMap 79 Option.none).run Tryz.prog w = .ok (.map (some w.heap.size)) (w.alloc (.map #[] 0)) := by kernel_rfl
  have HPX := Lib.hid (Tryz.strings_HasPrefix ⟨l.toArray⟩ ⟨#[95]⟩ w4)
  have HSX := Lib.hid (Tryz.strings_HasSuffix ⟨l.toArray⟩ ⟨#[95]⟩ w4 (by rw [ba_size]; omega))
  have HCX := Lib.hid (Tryz.strings_Contains ⟨l.toArray⟩ ⟨#[95, 95]⟩ m w4 (by rw [ba_size]; omega) hm)
  rw [show (⟨l.toArray⟩ : ByteArray).data.toList = l from rfl, show (⟨#[95]⟩ : ByteArray).data.toList = [95] from rfl] at HPX HSX
  rw [show (⟨l.toArray⟩ : ByteArray).data.toList = l from rfl, show (⟨#[95, 95]⟩ : ByteArray).data.toList = [95, 95] from rfl] at HCX
  have HBO : Hid (barOK l = !(hasPrefix l [95] || hasSuffix l [95] || contains l [95, 95])) := Lib.hid rfl
  obtain ⟨p1, hp1⟩ : ∃ p1, hasPrefix l [95] = p1 := ⟨_, rfl⟩
  obtain ⟨p2, hp2⟩ : ∃ p2, hasSuffix l [95] = p2 := ⟨_, rfl⟩
  obtain ⟨p3, hp3⟩ : ∃ p3, contains l [95, 95] = p3 := ⟨_, rfl⟩
  rw [hp1] at HPX HBO
  rw [hp2] at HSX HBO
  rw [hp3] at HCX HBO
  have HRE := Lib.hid (rep_run l w4 (hG.on hb4) (by omega))
  obtain ⟨T0, hT0⟩ : ∃ T0 : ByteArray, T0 = ⟨l.toArray⟩ := ⟨_, rfl⟩
  rw [← hT0] at HPX HSX HCX HRE ⊢
  have HB4 := Lib.hid hb4
  have HGS := Lib.hid (hG.on hb4)
  have HTS := Lib.hid (hT.on hb4)
  clear hp1 hp2 hp3 hG hT hT0 hm hb4
  cases p1
  · cases p2
    · cases p3
      · obtain ⟨tt, htt⟩ : ∃ tt : ByteArray, tt = ⟨(noBars l).toArray⟩ := ⟨_, rfl⟩
        rw [← htt] at HRE
        have hts : tt.size = (noBars l).length := by rw [htt]; rfl
        have hnl := noBars_len l
        have HTT := Lib.hid htt
        have HTS2 := Lib.hid hts
        have hts400 : tt.size ≤ 400 := by omega
        have HBT : Hid (barOK l = true) := Lib.hid HBO.out
        clear htt hts hnl
        go_enter Tryz.func22, Tryz.ntmps22
        go_wp2_with (first
          | (go_at_call 51; refine HPX.out.mono ?_; rintro e w4 ⟨rfl, rfl⟩)
          | (go_at_call 52; refine HSX.out.mono ?_; rintro e w4 ⟨rfl, rfl⟩)
          | (go_at_call 53; refine HCX.out.mono ?_; rintro e w4 ⟨rfl, rfl⟩))
        refine HRE.out.mono ?_
        rintro e w5 ⟨rfl, hb5⟩
        have HB5 : Hid (Below w.heap.size w w5) := Lib.hid (HB4.out.trans (hb5.mono HB4.out.size))
        have HG5 := Lib.hid (HGS.out.on hb5)
        have HT5 := Lib.hid (HTS.out.on hb5)
        clear hb5
        go_wp2_with fail
        go_loopg [9, 10, 11] tt.size (fun g _ _ _ wr => ∃ k : Nat, k + g = tt.size ∧ (∀ x ∈ tt.data.toList.take k, okB B x) ∧ L1 w5 tt k (bitsL kk (tt.data.toList.take k)) wr)
        case atStart => exact ⟨0, by omega, by simp, by simpa [bitsL] using L1.start w5 tt⟩
        case round =>
          obtain ⟨k, hkg, hok, hL⟩ := hrel
          have HOK := Lib.hid hok
          have HL := Lib.hid hL
          have hit := hL.it
          clear hok hL
          by_cases hlt : k < tt.size
          · have hne1 := fun ty => run_next_any_at (P := Tryz.prog) wr (w5.heap.size + 1) tt k ty hit hlt
            clear hit
            by_cases hgood : tt[k].toNat < 128 ∧ okB B tt[k]
            · obtain ⟨hasc, hok1, hok2⟩ := hgood
              rw [decode_ascii tt k hlt hasc] at hne1
              simp only at hne1
              have HHX := Lib.hid (fun (W : World) => hex_any tt[k].toNat W (by omega))
              obtain ⟨v, hv⟩ : ∃ v : Nat, hexI tt[k].toNat = (v : Int) := ⟨(hexI tt[k].toNat).toNat, by omega⟩
              rw [hv] at HHX hok2
              have hvB : v < B := by omega
              have hB2 : 2 ≤ B ∧ B ≤ 16 := by rcases hcB with h | h | h <;> omega
              have hBk : B = 2 ^ kk := by rcases hcB with ⟨_, h1, h2⟩ | ⟨_, h1, h2⟩ | ⟨_, h1, h2⟩ <;> rw [h1, h2]
              have HBK := Lib.hid hBk
              have HV := Lib.hid hv
              have t0 : decide ((v : Int) < 0) = false := by rw [decide_eq_false_iff_not]; omega
              have t1 : decide ((B : Int) ≤ (v : Int)) = false := by rw [decide_eq_false_iff_not]; omega
              have t2 : decide (B ≤ v) = false := by rw [decide_eq_false_iff_not]; omega
              have HL2 := Lib.hid (HL.out.next (k + 1))
              generalize wr.iterAt (w5.heap.size + 1) tt (k + 1) = w6 at *
              clear hv hBk hok1 hok2
              go_wp2_with fail
              refine (HHX.out _).mono ?_
              rintro e w6 ⟨rfl, rfl⟩
              go_wp2_with fail
              rw [show ((v : Int) + (B : Int)) = ((v + B : Nat) : Int) from by push_cast; rfl]
              refine (fint_2 (v + B) K _ (HT5.out.on HL2.out.be) (by omega) (by omega)).mono ?_
              rintro e w7 ⟨rfl, hb7⟩
              have HL3 := Lib.hid (HL2.out.go hb7)
              clear hb7
              obtain ⟨Dd, hDd⟩ : ∃ Dd : ByteArray, Dd = ⟨(binD (v + B)).toArray⟩ := ⟨_, rfl⟩
              rw [← hDd]
              have hdsz : 1 ≤ Dd.size := by
                rw [hDd, ba_size]
                exact List.length_pos_iff.2 (binD_ne _)
              have HDX : Hid (Dd.extract 1 Dd.size = ⟨(bitsK kk v).toArray⟩) := Lib.hid (by
                rw [hDd, drop_one, HBK.out, binD_drop kk v (by rw [← HBK.out]; exact hvB)])
              clear hDd
              go_wp2_with fail
              rw [HDX.out]
              refine (bwrite _ _ _ ⟨(bitsK kk v).toArray⟩ w7 HL3.out.bu (by
                have e1 := bitsL_len kk (tt.data.toList.take k)
                have e2 : (tt.data.toList.take k).length ≤ k := List.length_take_le _ _
                have e3 := bitsK_len kk v
                have e4 : kk ≤ 4 := by rcases hcB with h | h | h <;> omega
                have e5 : kk * (tt.data.toList.take k).length ≤ 4 * k := Nat.mul_le_mul e4 e2
                rw [byteCells_length, e1, ba_size, e3]
                omega) (by have := HL3.out.le; omega)).mono ?_
              rintro e w8 ⟨rfl, hbw, hbb, hbo⟩
              have HL4 := Lib.hid (HL3.out.write _ hbw hbb hbo)
              clear hbw hbb hbo
              go_wp2_with fail
              go_roundg (tt.size - (k + 1))
              case measure => omega
              case rel =>
                have htk : tt.data.toList.take (k + 1) = tt.data.toList.take k ++ [tt[k]] := by
                  rw [List.take_succ_eq_append_getElem (by simpa using hlt)]; rfl
                refine ⟨k + 1, by omega, ?_, ?_⟩
                · intro x hx
                  rw [htk] at hx
                  rcases List.mem_append.1 hx with h1 | h1
                  · exact HOK.out x h1
                  · rw [List.mem_singleton] at h1
                    subst h1
                    exact ⟨by rw [HV.out]; omega, by rw [HV.out]; omega⟩
                · rw [htk, bitsL_snoc, HV.out]
                  exact HL4.out
            · have hbad : hexI tt[k].toNat < 0 ∨ (B : Int) ≤ hexI tt[k].toNat := by
                by_cases h1 : tt[k].toNat < 128
                · by_cases h2 : 0 ≤ hexI tt[k].toNat
                  · right
                    rcases Int.lt_or_le (hexI tt[k].toNat) B with h3 | h3
                    · exact absurd ⟨h1, h2, h3⟩ hgood
                    · exact h3
                  · left; omega
                · left; rw [hexI_high _ (by omega)]; decide
              have hnot : ¬ HexOK B l := fun h => by
                have hm := h.2 tt[k] (by rw [show noBars l = tt.data.toList from by rw [HTT.out]]; exact List.getElem_mem (by simpa using hlt))
                obtain ⟨h1, h2⟩ := hm
                omega
              obtain ⟨n, hn, hn2, hnb⟩ : ∃ n : Nat, (Utf8.decode tt k).1 = n ∧ n < 2147483648 ∧ (hexI n < 0 ∨ (B : Int) ≤ hexI n) := by
                by_cases h1 : tt[k].toNat < 128
                · rw [decode_ascii tt k hlt h1]
                  exact ⟨_, rfl, by omega, hbad⟩
                · have := decode_high tt k hlt (by omega)
                  exact ⟨_, rfl, by omega, .inl (by rw [hexI_high _ this.1]; decide)⟩
              rw [hn] at hne1
              have HHX := Lib.hid (fun (W : World) => hex_any n W hn2)
              have HL2 := Lib.hid (HL.out.next (k + (Utf8.decode tt k).2))
              generalize wr.iterAt (w5.heap.size + 1) tt (k + (Utf8.decode tt k).2) = w6 at *
              generalize hexI n = v at *
              have HNOT := Lib.hid hnot
              clear hn hbad hgood hnot
              rcases hnb with hv | hv
              · go_wp2_with fail
                refine (HHX.out _).mono ?_
                rintro e w6 ⟨rfl, rfl⟩
                go_wp2_with fail
                refine bodyPost_ret (v := .tuple #[.string ⟨#[]⟩, .bool false]) (by simp [results, Tryz.results22, go_sem]) rfl (.inr ⟨HNOT.out, rfl, HB5.out.trans (HL2.out.be.mono HB5.out.size)⟩)
              · have hv0 : decide (v < 0) = false := by rw [decide_eq_false_iff_not]; omega
                go_wp2_with fail
                refine (HHX.out _).mono ?_
                rintro e w6 ⟨rfl, rfl⟩
                go_wp2_with fail
                refine bodyPost_ret (v := .tuple #[.string ⟨#[]⟩, .bool false]) (by simp [results, Tryz.results22, go_sem]) rfl (.inr ⟨HNOT.out, rfl, HB5.out.trans (HL2.out.be.mono HB5.out.size)⟩)
          · have hne1 := fun ty => run_next_end_at (P := Tryz.prog) wr (w5.heap.size + 1) tt k ty hit hlt
            clear hit
            have hkt : k = tt.size := by omega
            subst hkt
            have hfull : tt.data.toList.take tt.size = tt.data.toList := List.take_of_length_le (by simp)
            have hL := HL.out
            have hok := HOK.out
            rw [hfull] at hL hok
            obtain ⟨P0, hP0⟩ : ∃ P0, P0 = bitsL kk tt.data.toList := ⟨_, rfl⟩
            rw [← hP0] at hL
            have hP0l : P0.length = kk * tt.size := by rw [hP0, bitsL_len]; simp
            have hkk4 : kk ≤ 4 ∧ 1 ≤ kk := by rcases hcB with h | h | h <;> omega
            have hP0m : P0.length ≤ 4 * tt.size := by rw [hP0l]; exact Nat.mul_le_mul hkk4.1 (Nat.le_refl _)
            have hP0n : tt.size ≤ P0.length := by rw [hP0l]; exact Nat.le_mul_of_pos_left _ hkk4.2
            have hbits : ∀ x ∈ P0, x.toNat = 48 ∨ x.toNat = 49 := by rw [hP0]; exact bitsL_bits _ _
            have hBk : B = 2 ^ kk := by rcases hcB with ⟨_, h1, h2⟩ | ⟨_, h1, h2⟩ | ⟨_, h1, h2⟩ <;> rw [h1, h2]
            have hval : dvl 2 P0 = bval B (noBars l) := by
              rw [hP0, hBk, show noBars l = tt.data.toList from by rw [HTT.out]]
              exact bitsL_val kk _ (by rw [← hBk]; exact hok)
            have hgood : HexOK B l := ⟨HBT.out, by rw [show noBars l = tt.data.toList from by rw [HTT.out]]; exact hok⟩
            have HBS := Lib.hid (Tryz.Builder_String_any_k w5.heap.size w5.heap.size P0 wr hL.bu (by have := hL.le; omega))
            have HLL := Lib.hid hL
            have HVAL := Lib.hid hval
            have HGOOD := Lib.hid hgood
            have HBITS := Lib.hid hbits
            have HTL := Lib.hid HTS2.out
            clear hfull hL hok hP0 hP0l hbits hBk hval hgood HOK HL hkg
            go_wp2_with fail
            refine HBS.out.mono ?_
            rintro e w9 ⟨rfl, _, hb9, _⟩
            have HB9 : Hid (Below w5.heap.size w5 w9) := Lib.hid (HLL.out.be.trans hb9)
            clear hb9
            obtain ⟨two, htwo⟩ : ∃ two : ByteArray, two = ⟨P0.toArray⟩ := ⟨_, rfl⟩
            rw [← htwo]
            have htwos : two.size = P0.length := by rw [htwo]; rfl
            have HTWO := Lib.hid htwo
            clear htwo
            go_wp2_with fail
            rw [show (-(((P0.length : Nat) : Int) % 4) % 4 : Int) = (((4 - P0.length % 4) % 4 : Nat) : Int) from by omega]
            have hzr := zeros_any ((4 - P0.length % 4) % 4 : Nat) w9 (by omega) (by omega)
            rw [Int.toNat_natCast] at hzr
            obtain ⟨Z0, hZ0⟩ : ∃ Z0 : ByteArray, Z0 = ⟨(List.replicate ((4 - P0.length % 4) % 4) 48).toArray⟩ := ⟨_, rfl⟩
            rw [← hZ0] at hzr
            have hT1l : (Z0 ++ two).data.toList = padB P0 := by
              rw [hZ0, HTWO.out]
              unfold padB
              simp
            have hz3 : Z0.size ≤ 3 := by rw [hZ0, ba_size, List.length_replicate]; omega
            have htw2 : two.size ≤ 1600 := by omega
            clear hZ0
            refine hzr.mono ?_
            clear hzr
            rintro e w10 ⟨rfl, hb10⟩
            have HB10 : Hid (Below w5.heap.size w5 w10) := Lib.hid (HB9.out.trans (hb10.mono HB9.out.size))
            clear hb10
            have hpl := padB_len P0
            have hpb := padB_bits P0 HBITS.out
            have hpv : dvl 2 (padB P0) = bval B (noBars l) := by rw [padB_val]; exact HVAL.out
            obtain ⟨P1, hP1⟩ : ∃ P1, P1 = padB P0 := ⟨_, rfl⟩
            rw [← hP1] at hT1l hpl hpb hpv
            obtain ⟨hpl1, hpl2⟩ := hpl
            have HT1 := Lib.hid hT1l
            have HPB := Lib.hid hpb
            have HPV := Lib.hid hpv
            have HG10 := Lib.hid (HG5.out.on HB10.out)
            have HT10 := Lib.hid (HT5.out.on HB10.out)
            have hP1g : P0.length ≤ P1.length := by rw [hP1]; unfold padB; rw [List.length_append]; omega
            clear hT1l hpb hpv hP1 htwos
            go_wp2_with fail
            go_loopg [12, 14, 15] (P1.length / 4) (fun g s12 _ _ wr' => ∃ (j : Nat) (T : ByteArray) (H : List UInt8), j + g = P1.length / 4 ∧ s12 = .string T ∧ T.data.toList = P1.drop (4 * j) ∧ (∀ x ∈ H, okD 16 x) ∧ dvl 16 H = dvl 2 (P1.take (4 * j)) ∧ H.length = j ∧ L2 w10 H wr')
            case atStart => exact ⟨0, Z0 ++ two, [], by omega, rfl, by simpa using HT1.out, by simp, by simp [dvl], rfl, L2.start w10⟩
            case round =>
              obtain ⟨j, T, H, hjg, rfl, hTl, hHd, hHv, hHl, hL2⟩ := hrel
              have hTs : T.size = P1.length - 4 * j := by
                have : T.size = T.data.toList.length := by simp
                rw [this, hTl, List.length_drop]
              have HTL := Lib.hid hTl
              have HHD := Lib.hid hHd
              have HHV := Lib.hid hHv
              have HL2 := Lib.hid hL2
              have HHL := Lib.hid hHl
              have HTS3 := Lib.hid hTs
              by_cases hj : 4 * j < P1.length
              · have h4 : 4 ≤ T.size := by omega
                have hne : T.toList.isEmpty = false := by
                  rw [ByteArray.toList_eq]
                  cases hh : T.data.toList with
                  | nil =>
                    exfalso
                    have h5 : T.size = T.data.toList.length := by simp
                    rw [hh, List.length_nil] at h5
                    omega
                  | cons x t => rfl
                have hne2 : ¬ T.toList = [] := by
                  intro hh; rw [hh] at hne; exact absurd hne (by decide)
                clear hTl hHd hHv hL2 hHl hTs
                have hS4 : (T.extract 0 4).data.toList = (P1.drop (4 * j)).take 4 := by
                  rw [ByteArray.data_extract, ← HTL.out]
                  simp
                have hE4 : (T.extract 4 T.size).data.toList = P1.drop (4 * (j + 1)) := by
                  rw [ByteArray.data_extract, Array.toList_extract, HTL.out]
                  have : T.size - 4 = (P1.drop (4 * j)).length - 4 := by rw [List.length_drop]; have := HTS3.out; omega
                  rw [List.extract_eq_take_drop, this, List.drop_drop, show 4 * j + 4 = 4 * (j + 1) by omega]
                  refine List.take_of_length_le ?_
                  rw [List.length_drop, List.length_drop]; omega
                have hS4s : (T.extract 0 4).size = 4 := by
                  have : (T.extract 0 4).size = (T.extract 0 4).data.toList.length := by simp
                  rw [this, hS4, List.length_take, List.length_drop]; omega
                have hS4b : ∀ i (h : i < (T.extract 0 4).size), (T.extract 0 4)[i].toNat = 48 ∨ (T.extract 0 4)[i].toNat = 49 := fun i h => by
                  have hm : (T.extract 0 4)[i] ∈ (T.extract 0 4).data.toList := List.getElem_mem (l := (T.extract 0 4).data.toList) (n := i) (by simpa using h)
                  rw [hS4] at hm
                  exact HPB.out _ (List.mem_of_mem_drop (List.mem_of_mem_take hm))
                have hvl := dvl2_lt _ hS4b 4 (by omega)
                rw [List.take_of_length_le (by rw [hS4, List.length_take]; omega)] at hvl
                have hPU := ppuint_2 (T.extract 0 4) wr (by omega) (by omega) hS4b
                have hTk : P1.take (4 * (j + 1)) = P1.take (4 * j) ++ (T.extract 0 4).data.toList := by
                  rw [hS4, show 4 * (j + 1) = 4 * j + 4 by omega, List.take_add]
                have hl4 : (T.extract 0 4).data.toList.length = 4 := by rw [← hS4s]; simp
                obtain ⟨v, hv⟩ : ∃ v, dvl 2 (T.extract 0 4).data.toList = v := ⟨_, rfl⟩
                rw [hv] at hvl hPU
                have HPU := Lib.hid hPU
                have HVV : Hid (dvl 2 (P1.take (4 * (j + 1))) = dvl 2 (P1.take (4 * j)) * 2 ^ 4 + v) := Lib.hid (by rw [hTk, dvl_app, hl4, hv])
                have HE4 := Lib.hid hE4
                clear hS4 hE4 hS4b hPU hTk hl4 hv
                go_wp2_with fail
                refine HPU.out.mono ?_
                rintro e w11 ⟨rfl, hb11⟩
                have HL3 := Lib.hid (HL2.out.go hb11)
                clear hb11
                go_wp2_with fail
                refine (fuint_16 v K _ (HT10.out.on HL3.out.be) (by omega)).mono ?_
                rintro e w12 ⟨hvd, rfl, hb12⟩
                have HL4 := Lib.hid (HL3.out.go hb12)
                clear hb12
                obtain ⟨D1, hD1⟩ : ∃ D1 : ByteArray, D1 = ⟨[DG[v]'hvd].toArray⟩ := ⟨_, rfl⟩
                rw [← hD1]
                have HD1 := Lib.hid hD1
                have hd1s : D1.size = 1 := by rw [hD1]; rfl
                clear hD1
                go_wp2_with fail
                refine (bwrite _ _ _ D1 _ HL4.out.bu (by rw [byteCells_length]; have := HHL.out; omega) (by have := HL4.out.le; omega)).mono ?_
                rintro e w13 ⟨rfl, hbw, hbb, hbo⟩
                have HL5 := Lib.hid (HL4.out.write _ hbw hbb)
                clear hbw hbb hbo
                go_wp2_with fail
                go_roundg (P1.length / 4 - (j + 1))
                case measure => omega
                case rel =>
                  obtain ⟨kd1, kd2⟩ := DG_dv ⟨v, by omega⟩ hvd
                  refine ⟨j + 1, T.extract 4 T.size, H ++ [DG[v]'hvd], by omega, rfl, HE4.out, ?_, ?_, by rw [List.length_append, HHL.out]; rfl, ?_⟩
                  · intro x hx
                    rcases List.mem_append.1 hx with h1 | h1
                    · exact HHD.out x h1
                    · rw [List.mem_singleton] at h1; subst h1; exact kd2
                  · rw [dvl_snoc, HHV.out, HVV.out, kd1]
                  · have := HL5.out
                    rw [HD1.out] at this
                    exact this
              · have hne : T.toList.isEmpty = true := by
                  rw [ByteArray.toList_eq, HTL.out, List.drop_eq_nil_of_le (by omega)]; rfl
                have hne2 : T.toList = [] := by
                  rw [ByteArray.toList_eq, HTL.out, List.drop_eq_nil_of_le (by omega)]
                have hHv2 : dvl 16 H = bval B (noBars l) := by
                  rw [hHv, List.take_of_length_le (by omega)]; exact HPV.out
                have HV2 := Lib.hid hHv2
                have hje : j = P1.length / 4 := by omega
                have HJE := Lib.hid hje
                have HBX := Lib.hid (Tryz.Builder_String_any_k w10.heap.size w10.heap.size H wr hL2.bu (by have := hL2.le; omega))
                have hHl2 : H.length ≤ (noBars l).length + 1 := by
                  have := HTS2.out
                  omega
                have HHL2 := Lib.hid hHl2
                have HHN : Hid (noBars l ≠ [] → H ≠ []) := Lib.hid fun hn hh => by
                  have h1 := List.length_pos_iff.2 hn
                  have h2 := HTS2.out
                  rw [hh, List.length_nil] at hHl
                  omega
                clear hTl hHd hHv hL2 hHl hTs hHv2 hje hjg hHl2
                go_wp2_with fail
                refine HBX.out.mono ?_
                rintro e w14 ⟨rfl, _, hb14, _⟩
                have HB14 : Hid (Below w.heap.size w w14) := Lib.hid ((HB5.out.trans (HB10.out.mono HB5.out.size)).trans ((HL2.out.be.trans hb14).mono (HB5.out.trans (HB10.out.mono HB5.out.size)).size))
                clear hb14
                obtain ⟨RH, hRH⟩ : ∃ RH : ByteArray, RH = ⟨H.toArray⟩ := ⟨_, rfl⟩
                rw [← hRH]
                have HRH := Lib.hid hRH
                clear hRH
                go_wp2_with fail
                refine bodyPost_ret (v := .tuple #[.string RH, .bool true]) (by simp [results, Tryz.results22, go_sem]) rfl (.inl ⟨HGOOD.out, H, HHD.out, HV2.out, HHL2.out, HHN.out, by rw [HRH.out], HB14.out⟩)
      · go_enter Tryz.func22, Tryz.ntmps22
        go_wp2_with (first
          | (go_at_call 51; refine HPX.out.mono ?_; rintro e w4 ⟨rfl, rfl⟩)
          | (go_at_call 52; refine HSX.out.mono ?_; rintro e w4 ⟨rfl, rfl⟩)
          | (go_at_call 53; refine HCX.out.mono ?_; rintro e w4 ⟨rfl, rfl⟩))
        refine bodyPost_ret (v := .tuple #[.string ⟨#[]⟩, .bool false]) (by simp [results, Tryz.results22, go_sem]) rfl (.inr ⟨barOK_false HBO.out, rfl, HB4.out⟩)
    · go_enter Tryz.func22, Tryz.ntmps22
      go_wp2_with (first
          | (go_at_call 51; refine HPX.out.mono ?_; rintro e w4 ⟨rfl, rfl⟩)
          | (go_at_call 52; refine HSX.out.mono ?_; rintro e w4 ⟨rfl, rfl⟩))
      refine bodyPost_ret (v := .tuple #[.string ⟨#[]⟩, .bool false]) (by simp [results, Tryz.results22, go_sem]) rfl (.inr ⟨barOK_false HBO.out, rfl, HB4.out⟩)
  · go_enter Tryz.func22, Tryz.ntmps22
    go_wp2_with fail
    refine HPX.out.mono ?_
    rintro e w4 ⟨rfl, rfl⟩
    go_wp2_with fail
    refine bodyPost_ret (v := .tuple #[.string ⟨#[]⟩, .bool false]) (by simp [results, Tryz.results22, go_sem]) rfl (.inr ⟨barOK_false HBO.out, rfl, HB4.out⟩)
end Go.Proofs.YtmhagigokgklaaaGreatDoor

/- ParseFloat of hexadecimal whole numbers. -/
namespace Go.Proofs.YtmhagigokgklaaaGreatDoor
open Go Go.RowKit Go.Sort Go.Lib
set_option exponentiation.threshold 5000

theorem or_one_is (a : Nat) : a ||| 1 = 2 * (a / 2) + 1 := by
  have h2 := Nat.div_add_mod (a ||| 1) 2
  rw [Nat.or_div_two, Nat.or_mod_two_eq_one.2 (.inr rfl)] at h2
  rw [← h2]
  simp
theorem unr_parted (a b J : Nat) (hb : b < 2 ^ J) : unr (a * 2 ^ J + b) (2 ^ (J + 2)) = if b = 0 then a else a ||| 1 := by
  have h4 : 2 ^ (J + 2) = 4 * 2 ^ J := by rw [Nat.pow_add, Nat.mul_comm]
  have hp := Nat.two_pow_pos J
  rw [h4, unr_four _ _ hp]
  have h1 : (a * 2 ^ J + b) % 2 ^ J = b := by rw [Nat.mul_comm, Nat.mul_add_mod, Nat.mod_eq_of_lt hb]
  have h2 : (a * 2 ^ J + b) / 2 ^ J = a := by rw [Nat.mul_comm, Nat.mul_add_div hp, Nat.div_eq_of_lt hb, Nat.add_zero]
  rw [h1, h2, or_one_is]

theorem dvl_pos_any (l : List UInt8) (h : ∀ x ∈ l, okD 16 x) : (l.any (· != 48)) = decide (dvl 16 l ≠ 0) := by
  revert h
  refine snoc_ind (P := fun l => (∀ x ∈ l, okD 16 x) → (l.any (· != 48)) = decide (dvl 16 l ≠ 0)) (fun _ => rfl) (fun l c ih h => ?_) l
  rw [List.any_append, ih (fun x hx => h x (List.mem_append_left _ hx)), dvl_snoc]
  have hc := h c (by simp)
  have key : (c != 48) = decide (dv c.toNat ≠ 0) := by
    rw [Bool.eq_iff_iff]
    simp only [bne_iff_ne, ne_eq, decide_eq_true_eq]
    have h3 : c = 48 ↔ c.toNat = 48 := ⟨fun h => by rw [h]; rfl, fun h => UInt8.toNat_inj.1 (by rw [h]; rfl)⟩
    rw [h3]
    unfold dv
    rcases hc with ⟨h1, h2⟩ | ⟨_, h1, h2⟩
    · rw [if_pos ⟨h1, h2⟩]; omega
    · rw [if_neg (by omega)]; omega
  simp only [List.any_cons, List.any_nil, Bool.or_false]
  rw [key, Bool.eq_iff_iff]
  simp only [Bool.or_eq_true, decide_eq_true_eq]
  omega

theorem dropZ_head (l : List UInt8) : dropZ l = [] ∨ ∃ x t, dropZ l = x :: t ∧ x ≠ 48 := by
  cases h : dropZ l with
  | nil => exact .inl rfl
  | cons x t =>
    refine .inr ⟨x, t, rfl, ?_⟩
    have := List.head?_dropWhile_not (p := (· == (48 : UInt8))) l
    unfold dropZ at h
    rw [h] at this
    simpa using this

theorem dvl_cons (b : Nat) (x : UInt8) (t : List UInt8) : dvl b (x :: t) = dv x.toNat * b ^ t.length + dvl b t := by
  have h := dvl_app b [x] t
  rw [show dvl b [x] = dv x.toNat from by simp [dvl]] at h
  exact h

/-- what readFloat holds of hexadecimal digits is what atofHex takes -/
theorem rf_in (H : List UInt8) (hH : ∀ x ∈ H, okD 16 x) (hlen : H.length ≤ 900) :
    (dvl 16 H = 0 ∧ (rfF 16 16 H).mant = 0 ∧ (rfF 16 16 H).tr = false ∧ rfHex (rfF 16 16 H) = 0) ∨
    ∃ J, HexIn (dvl 16 H) (rfF 16 16 H).mant J (rfF 16 16 H).tr ∧ rfHex (rfF 16 16 H) = (J : Int) := by
  obtain ⟨hi, _⟩ := rf_mant 16 16 H H [] false (by simp [mantT]) (fun x hx => okD_46 (hH x hx)) (by simp) (fun _ => rfl)
  rw [List.append_nil] at hi
  generalize rfF 16 16 H = s at *
  have hZ : ∀ x ∈ dropZ H, okD 16 x := fun x hx => hH x ((List.dropWhile_sublist _).subset hx)
  have hlz : (dropZ H).length ≤ 900 := Nat.le_trans (List.dropWhile_sublist _).length_le hlen
  have hN := dvl_dropZ 16 H
  have hmant := hi.mant
  have htr := hi.tr
  have hnd := hi.nd
  have hnm := hi.nm
  rcases dropZ_head H with h0 | ⟨x, t, hx, hx48⟩
  · left
    rw [h0] at hN hmant htr hnd hnm
    refine ⟨by rw [← hN]; rfl, by rw [hmant]; rfl, by rw [htr]; rfl, ?_⟩
    unfold rfHex
    rw [hmant]; rfl
  · right
    generalize dropZ H = Z at *
    have hA : ∀ x ∈ Z.take 16, dv x.toNat < 16 := fun x hx => okD_dv (by decide) (hZ x (List.mem_of_mem_take hx))
    have hB : ∀ x ∈ Z.drop 16, dv x.toNat < 16 := fun x hx => okD_dv (by decide) (hZ x (List.mem_of_mem_drop hx))
    have hlA := dvl_lt 16 (by decide) _ hA
    have hlB := dvl_lt 16 (by decide) _ hB
    have hsum := dvl_app 16 (Z.take 16) (Z.drop 16)
    rw [List.take_append_drop, hN] at hsum
    have hll : (Z.drop 16).length = Z.length - 16 := List.length_drop
    have hla : (Z.take 16).length = min 16 Z.length := List.length_take
    have hpw : ∀ k, 16 ^ k = 2 ^ (4 * k) := fun k => by rw [Nat.pow_mul]
    rw [hpw] at hsum hlB
    have hdx : 1 ≤ dv x.toNat := by
      have h3 : x.toNat ≠ 48 := fun h => hx48 (UInt8.toNat_inj.1 (by rw [h]; rfl))
      rcases hZ x (by rw [hx]; simp) with ⟨h1, h2⟩ | ⟨_, h1, h2⟩
      · unfold dv; rw [if_pos ⟨h1, h2⟩]; omega
      · unfold dv; rw [if_neg (by omega)]; omega
    have hlow : 16 ^ ((Z.take 16).length - 1) ≤ dvl 16 (Z.take 16) := by
      rw [hx, List.take_succ_cons, dvl_cons, List.length_cons, Nat.add_sub_cancel]
      have := Nat.mul_le_mul_right (16 ^ (List.take 15 t).length) hdx
      omega
    have htr2 := htr
    rw [dvl_pos_any _ (fun x hx => hZ x (List.mem_of_mem_drop hx))] at htr2
    have hmp : 1 ≤ s.mant := by
      rw [hmant]
      exact Nat.le_trans (Nat.pow_pos (by decide)) hlow
    refine ⟨4 * (Z.drop 16).length, ⟨?_, hmp, by omega, ?_, ?_⟩, ?_⟩
    · rw [hmant]
      have : 16 ^ (Z.take 16).length ≤ 16 ^ 16 := Nat.pow_le_pow_right (by decide) (by rw [hla]; omega)
      exact Nat.lt_of_lt_of_le hlA (Nat.le_trans this (by decide))
    · rw [hsum, unr_parted _ _ _ hlB, htr2, hmant]
      by_cases hb : dvl 16 (Z.drop 16) = 0
      · rw [if_pos hb, if_neg (by simp [hb])]
      · rw [if_neg hb, if_pos (by simp [hb])]
    · by_cases h16 : Z.length ≤ 16
      · left
        refine ⟨by omega, ?_⟩
        rw [htr, List.drop_eq_nil_of_le h16]; rfl
      · right
        rw [hmant]
        have : (Z.take 16).length - 1 = 15 := by rw [hla]; omega
        rw [this] at hlow
        exact Nat.le_trans (by decide) hlow
    · unfold rfHex
      rw [if_neg (by omega), hnd, hnm, hll]
      omega

set_option maxRecDepth 100000 in
set_option maxHeartbeats 4000000 in
theorem atof_hex_zero (st : ByteArray) (K : Nat) (w : World) (hg : GlobT K w) :
    Calls Tryz.prog 143 #[.string st, .pointer (some ⟨9, 0, Option.none⟩), .int .u64 0, .int .i64 0, .bool false, .bool false] w (HxPost 0 w) := by
  obtain ⟨i0, i1, i2⟩ := hg.inf
  obtain ⟨bca, bcb, bta, btb, k1, k2⟩ := hg.blk
  obtain ⟨j, hj, hjs⟩ := Option.map_eq_some_iff.1 info_size
  have heq : ∀ n : Nat, (binOp .eql 170 (.pointer (some ⟨9, 0, Option.none⟩)) (.pointer (some ⟨8, 0, Option.none⟩))).run Tryz.prog (w.drewN n) = .ok (.bool false) (w.drewN n) := fun n =>
    run_eql_ptr_other (w.drewN n) Tryz.underlying170 hj (by simpa using hjs) (by decide) k2 k1
  have hs : ∀ W : World, (callFunc 151 #[.int .u64 0]).run Tryz.prog W = .ok (.value (.float .f64 0)) W := run_sfrom 0
  have hb1 : bits .and .u64 0 3 = 0 := by decide +kernel
  have hb2 : bits .and .u64 0 1 = 0 := by decide +kernel
  have hb3 : bits .or .u64 0 0 = 0 := by decide +kernel
  have hb4 : bits .and .u64 0 4503599627370495 = 0 := by decide +kernel
  have hb5 : bits .and .i64 0 2047 = 0 := by decide +kernel
  have HN : Hid (Near (2 * (0 * 2 ^ 1074)) 1 0) := Lib.hid (zero_near 0)
  clear k1 k2 hj hjs
  go_enter Tryz.func143, Tryz.ntmps143
  go_upto_region 1 with fail
  go_quiet (fail)
  go_wp2_with fail
  go_loopg [2, 3] 0 (fun _ s2 s3 wr => ∃ n : Nat, s2 = .int .u64 0 ∧ s3 = .int .i64 52 ∧ wr = w.drewN n)
  case atStart => exact ⟨_, rfl, by go_num, rfl⟩
  case round =>
    obtain ⟨n, rfl, rfl, rfl⟩ := hrel
    go_wp2_with fail
    go_loopg [2, 3] 0 (fun _ s2 s3 wr => ∃ n : Nat, s2 = .int .u64 0 ∧ s3 = .int .i64 52 ∧ wr = w.drewN n)
    case atStart => exact ⟨_, rfl, rfl, rfl⟩
    case round =>
      obtain ⟨n, rfl, rfl, rfl⟩ := hrel
      go_wp2_with fail
      go_loopg [2, 3] 0 (fun _ s2 s3 wr => ∃ n : Nat, s2 = .int .u64 0 ∧ s3 = .int .i64 52 ∧ wr = w.drewN n)
      case atStart => exact ⟨_, rfl, rfl, rfl⟩
      case round =>
        obtain ⟨n, rfl, rfl, rfl⟩ := hrel
        go_upto_region 32 with fail
        go_quiet (fail)
        go_wp2_with fail
        refine bodyPost_ret (v := .tuple #[.float .f64 0, .nilIface]) (by simp [results, Tryz.results143, go_sem]) rfl ⟨0, HN.out, rfl, _, rfl⟩

theorem atof_hex_all (st : ByteArray) (H : List UInt8) (K : Nat) (w : World) (hg : GlobT K w) (hH : ∀ x ∈ H, okD 16 x) (hlen : H.length ≤ 900) :
    Calls Tryz.prog 143 #[.string st, .pointer (some ⟨9, 0, Option.none⟩), .int .u64 (rfF 16 16 H).mant, .int .i64 (rfHex (rfF 16 16 H)), .bool false, .bool (rfF 16 16 H).tr] w (HxPost (dvl 16 H) w) := by
  rcases rf_in H hH hlen with ⟨h1, h2, h3, h4⟩ | ⟨J, h1, h2⟩
  · rw [h1, h2, h3, h4]
    exact atof_hex_zero st K w hg
  · rw [h2]
    cases htr : (rfF 16 16 H).tr with
    | false => rw [htr] at h1; exact atof_hex_false st _ _ _ K w hg h1
    | true => rw [htr] at h1; exact atof_hex_true st _ _ _ K w hg h1

set_option maxRecDepth 100000 in
set_option maxHeartbeats 4000000 in
theorem atof64_hex (s : ByteArray) (H : List UInt8) (K : Nat) (w : World) (hT : GlobT K w) (hH : ∀ x ∈ H, okD 16 x) (hne : H ≠ []) (hlen : H.length ≤ 900) (hl : s.data.toList = 48 :: 120 :: (H ++ [112, 48])) :
    Calls Tryz.prog 117 #[.string s] w fun e w' => ∃ r, Near (2 * (dvl 16 H * 2 ^ 1074)) 1 r ∧ e = .returned (.tuple #[.float .f64 r, .int .i64 s.size, errV r]) ∧ Below w.heap.size w w' := by
  have hsz : s.size = H.length + 4 := by
    have : s.size = s.data.toList.length := by simp
    rw [this, hl]; simp
  have h0 : 0 < s.size := by omega
  have hb0 : s[0]'h0 = 48 := by
    show s.data.toList[0] = 48
    simp only [hl]; rfl
  have HSP := Lib.hid (special_no s w h0 (by omega) (.inr (by rw [hb0]; decide)))
  have HRF := Lib.hid (rf_hex s w (by omega) H hH hne hl)
  have HHX : Hid (∀ st : ByteArray, Calls Tryz.prog 143 #[.string st, .pointer (some ⟨9, 0, Option.none⟩), .int .u64 (rfF 16 16 H).mant, .int .i64 (rfHex (rfF 16 16 H)), .bool false, .bool (rfF 16 16 H).tr] w (HxPost (dvl 16 H) w)) := Lib.hid fun st => atof_hex_all st H K w hT hH hlen
  have hs1000 : s.size ≤ 1000 := by omega
  clear hb0 hl hH hsz
  generalize (rfF 16 16 H).mant = mant at *
  generalize (rfF 16 16 H).tr = tr at *
  generalize rfHex (rfF 16 16 H) = x at *
  go_enter Tryz.func117, Tryz.ntmps117
  go_wp2_with fail
  refine HSP.out.mono ?_
  rintro e w ⟨rfl, rfl⟩
  go_wp2_with fail
  refine HRF.out.mono ?_
  rintro e w ⟨rfl, rfl⟩
  go_wp2_with fail
  refine (HHX.out _).mono ?_
  rintro e w' ⟨r, hn, rfl, n, rfl⟩
  have HN := Lib.hid hn
  clear hn
  go_wp2_with fail
  refine bodyPost_ret (v := .tuple #[.float .f64 r, .int .i64 s.size, errV r]) (by simp [results, Tryz.results117, go_sem]) rfl ⟨r, HN.out, rfl, bDrewN (Below.refl _ _) n⟩

/-- ParseFloat of 0x, digits, p0 -/
theorem pfloat_hex (H : List UInt8) (K : Nat) (w : World) (hT : GlobT K w) (hH : ∀ x ∈ H, okD 16 x) (hne : H ≠ []) (hlen : H.length ≤ 900) :
    Calls Tryz.prog 23 #[.string ⟨(48 :: 120 :: (H ++ [112, 48])).toArray⟩, .int .i64 64] w (PlPost (2 * (dvl 16 H * 2 ^ 1074)) 1 w) := by
  refine pfloat_of _ _ _ K w hT (by rw [ba_size]; simp; omega) ?_
  exact atof64_hex _ H K w hT hH hne hlen rfl
end Go.Proofs.YtmhagigokgklaaaGreatDoor
