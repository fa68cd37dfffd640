/- Joined texts: Um Un Pg Pj Pp Pk Qd Qe Qf Qj Qk Kc Hd Kd. Each begins with its own remark. -/
import Derived.Test.YtckaoeloofbklaaGreatDoorWh
import Derived.OwnWalk
import Derived.Deep.RegionHeld
import Derived.Deep.QuietTactic
import Derived.BigQuiet
import Derived.Deep.DeepCutAuto
import Derived.Deep.LoopGhost
import Derived.WalkMore
import Derived.Deep.CutBlock
import Derived.Test.YtckaoeloofbklaaGreatDoorWg
import Derived.Lib.ConvBytes
import Derived.Lib.AtoiErrMem
import Derived.Test.YtckaoeloofbklaaGreatDoorWd
import Derived.Laws.BitsAllLaws
import Derived.Lib.DecodeN
import Derived.Lib.MapLaws
import Derived.Test.YtckaoeloofbklaaGreatDoorWc
import Derived.Maps.OwnSet
import Derived.Maps.OwnOps
import Derived.LaidEqlPtr
import Derived.Test.YtckaoeloofbklaaGreatDoorWe
set_option maxRecDepth 100000
set_option maxHeartbeats 4000000
namespace Go.Proofs.YtckaoeloofbklaaGreatDoor
open Go Go.RowKit
def mantT (W F : List UInt8) (dot : Bool) : List UInt8 := W ++ (if dot then 46 :: F else [])
def powT (eb : UInt8) (sg X : List UInt8) : List UInt8 := eb :: (sg ++ X)
structure MantF (t W F : List UInt8) (dot : Bool) : Prop where
 eq : t = mantT W F dot
 w : ∀ x ∈ W, isDig x
 f : ∀ x ∈ F, isDig x
 nodot : dot = false → F = []
structure PowF (t : List UInt8) (eb : UInt8) (sg X : List UInt8) : Prop where
 eq : t = powT eb sg X
 eb : eb.toNat = 69 ∨ eb.toNat = 101
 sg : sg = [] ∨ sg = [43] ∨ sg = [45]
 x : ∀ x ∈ X, isDig x
def noBars (l : List UInt8) : List UInt8 := l.filter (· != 95)
theorem dig48 : isDig 48 := ⟨by decide, by decide⟩
theorem mant_w {W : List UInt8} (h : ∀ x ∈ W, isDig x) : MantF W W [] false := ⟨by simp [mantT], h, by simp, fun _ => rfl⟩
theorem stN_snoc (l : List UInt8) (c : UInt8) : stN (l ++ [c]) = nextN (stN l) (clsN c.toNat) := by
 unfold stN; rw [List.foldl_append]; rfl
theorem stN_lt (l : List UInt8) : stN l < 13 := by
 rcases List.eq_nil_or_concat l with rfl | ⟨l', c, rfl⟩
 ·decide
 ·rw [List.concat_eq_append, stN_snoc]; exact next_lt _ _
theorem snoc_ind {P : List UInt8 → Prop} (h0 : P []) (h1 : ∀ l c, P l → P (l ++ [c])) : ∀ l, P l := by
 have : ∀ n, ∀ l : List UInt8, l.length = n → P l := by
  intro n
  induction n with
  | zero => intro l hl; rw [List.length_eq_zero_iff.1 hl]; exact h0
  | succ n ih =>
   intro l hl
   rcases List.eq_nil_or_concat l with rfl | ⟨l', c, rfl⟩
   ·simp at hl
   ·rw [List.concat_eq_append] at hl ⊢
    exact h1 l' c (ih l' (by simpa using hl))
 exact fun l => this _ l rfl
end Go.Proofs.YtckaoeloofbklaaGreatDoor
namespace Go.Proofs.YtckaoeloofbklaaGreatDoor
open Go Go.RowKit
def dv (c : Nat) : Nat := if 48 ≤ c ∧ c ≤ 57 then c - 48 else c - 87
def dvl (b : Nat) (l : List UInt8) : Nat := l.foldl (fun a c => a * b + dv c.toNat) 0
def dropZ (l : List UInt8) : List UInt8 := l.dropWhile (· == 48)
theorem dvl_snoc (b : Nat) (l : List UInt8) (c : UInt8) : dvl b (l ++ [c]) = dvl b l * b + dv c.toNat := by
 unfold dvl; rw [List.foldl_append]; rfl
theorem dvl_app (b : Nat) (l : List UInt8) : ∀ m : List UInt8, dvl b (l ++ m) = dvl b l * b ^ m.length + dvl b m := by
 refine snoc_ind (by simp [dvl]) fun m c ih => ?_
 rw [← List.append_assoc, dvl_snoc, ih, dvl_snoc, List.length_append, List.length_singleton, Nat.pow_succ, Nat.add_mul]
 rw [Nat.mul_assoc, Nat.add_assoc]
def exF (l : List UInt8) : Nat := l.foldl (fun e c => if e < 10000 then e * 10 + (c.toNat - 48) else e) 0
theorem ex_snoc (l : List UInt8) (c : UInt8) : exF (l ++ [c]) = if exF l < 10000 then exF l * 10 + (c.toNat - 48) else exF l := by
 unfold exF; rw [List.foldl_append]; rfl
theorem dvl_lt (b : Nat) (_hb : 0 < b) (l : List UInt8) (h : ∀ x ∈ l, dv x.toNat < b) : dvl b l < b ^ l.length := by
 revert h
 refine snoc_ind (P := fun l => (∀ x ∈ l, dv x.toNat < b) → dvl b l < b ^ l.length) (fun _ => by simp [dvl]) (fun l c ih h => ?_) l
 rw [dvl_snoc, List.length_append, List.length_singleton, Nat.pow_succ]
 have h1 := ih fun x hx => h x (List.mem_append_left _ hx)
 have h2 := h c (by simp)
 have h3 : (dvl b l + 1) * b ≤ b ^ l.length * b := Nat.mul_le_mul_right b h1
 rw [Nat.add_mul] at h3
 omega
def okD (b : Nat) (x : UInt8) : Prop := isDig x ∨ (b = 16 ∧ 97 ≤ x.toNat ∧ x.toNat ≤ 102)
theorem okD_dv {b : Nat} {x : UInt8} (hb : 10 ≤ b) (h : okD b x) : dv x.toNat < b := by
 unfold dv
 rcases h with h | ⟨h, h2, h3⟩
 ·unfold isDig at h; rw [if_pos h]; omega
 ·rw [if_neg (by omega)]; omega
end Go.Proofs.YtckaoeloofbklaaGreatDoor
namespace Go.Proofs.YtckaoeloofbklaaGreatDoor
open Go Go.RowKit
def sgZ (sg : List UInt8) : Int := if sg = [45] then -1 else 1
end Go.Proofs.YtckaoeloofbklaaGreatDoor
namespace Go.Proofs.YtckaoeloofbklaaGreatDoor
open Go Go.RowKit Go.Sort Go.Lib
theorem bars_none (l : List UInt8) (h : ∀ x ∈ l, x ≠ 95) : noBars l = l := by
 unfold noBars
 rw [List.filter_eq_self]
 intro x hx
 simpa using h x hx
theorem first_bar : ∀ l : List UInt8, (∀ x ∈ l, x ≠ 95) ∨ ∃ a b, l = a ++ 95 :: b ∧ ∀ x ∈ a, x ≠ 95
 | [] => .inl (by simp)
 | c :: l => by
   by_cases hc : c = 95
   · exact .inr ⟨[], l, by rw [hc]; rfl, by simp⟩
   · rcases first_bar l with h | ⟨a, b, h1, h2⟩
     · exact .inl (by intro x hx; rcases List.mem_cons.1 hx with h3 | h3; · rw [h3]; exact hc
                      · exact h x h3)
     · exact .inr ⟨c :: a, b, by rw [h1]; rfl, by intro x hx; rcases List.mem_cons.1 hx with h3 | h3; · rw [h3]; exact hc
                                                  · exact h2 x h3⟩
theorem replaceK_bars : ∀ (n : Nat) (l : List UInt8), l.length ≤ n → replaceK [95] [] (count l [95]) l = noBars l := by
 intro n
 induction n with
 | zero =>
  intro l hl
  have h0 : l = [] := List.length_eq_zero_iff.1 (by omega)
  subst h0
  rfl
 | succ n ih =>
  intro l hl
  rcases first_bar l with h | ⟨a, b, rfl, ha⟩
  ·have hi : index l [95] = -1 := by rw [index_one, indexByte_not 95 l h]
   rw [count_miss hi, bars_none l h]; rfl
  ·have hi : index (a ++ 95 :: b) [95] = (a.length : Nat) := by rw [index_one, indexByte_at 95 b a ha]
   have hc : count (a ++ 95 :: b) [95] = count b [95] + 1 := by
    rw [count_one, count_one, List.count_append, List.count_cons_self, List.count_eq_zero.2 (fun h => ha 95 h rfl)]; omega
   have hd : (a ++ 95 :: b).drop (a.length + [(95 : UInt8)].length) = b := by
    rw [show a ++ (95 : UInt8) :: b = (a ++ [95]) ++ b by simp]
    exact List.drop_left' (by simp)
   rw [hc, replaceK_hit _ _ _ _ _ hi, hd, ih b (by rw [List.length_append, List.length_cons] at hl; omega), List.take_left']
   ·show a ++ [] ++ noBars b = noBars (a ++ 95 :: b)
    unfold noBars
    rw [List.filter_append, List.filter_cons, if_neg (by simp), List.append_nil]
    congr 1
    exact (bars_none a ha).symm
   ·rfl
theorem replaceAll_bars (l : List UInt8) : replaceAll l [95] [] = noBars l := by
 unfold replaceAll replace replaceNum
 rw [if_neg (by decide), if_pos (.inl (by decide))]
 exact replaceK_bars _ l (Nat.le_refl _)
theorem dec_class (l : List UInt8) (h : stN l ≠ 0) : ∀ x ∈ l, clsN x.toNat ≠ 0 := by
 revert h
 refine snoc_ind (P := fun l => stN l ≠ 0 → ∀ x ∈ l, clsN x.toNat ≠ 0) (fun _ x hx => by simp at hx) (fun l c ih h => ?_) l
 rw [stN_snoc] at h
 have h1 : stN l ≠ 0 := fun h2 => h (by rw [h2]; exact next_zero _ (cls_lt _))
 have h2 : clsN c.toNat ≠ 0 := fun h3 => h (by
  rw [h3]
  have key : ∀ q : Fin 13, nextN q.val 0 = 0 := by decide +kernel
  exact key ⟨_, stN_lt l⟩)
 intro x hx
 rcases List.mem_append.1 hx with h3 | h3
 ·exact ih h1 x h3
 ·rw [List.mem_singleton] at h3; rw [h3]; exact h2
theorem dec_st (l : List UInt8) (h : decB l = true) : stN l ≠ 0 := by
 intro h2
 unfold decB at h
 rw [h2] at h
 exact absurd h (by decide)
theorem dec_head1 (l : List UInt8) (h : decB l = true) : ∃ x t, l = x :: t ∧ x ≠ 45 := by
 cases l with
 | nil => exact absurd h (by decide)
 | cons x t =>
  refine ⟨x, t, rfl, ?_⟩
  rintro rfl
  have : stN (45 :: t) = 0 := by
   unfold stN
   rw [List.foldl_cons, show nextN 1 (clsN (45 : UInt8).toNat) = 0 from by decide]
   exact fold_zero t
  exact dec_st _ h this
theorem cls_low (c : Nat) (h : c < 256) (h1 : clsN c ≠ 0) : indexByte [120, 111, 98] (UInt8.ofNat (bits .or .u8 (c : Int) 32).toNat) = -1 := by
 have key : ∀ c : Fin 256, clsN c.val ≠ 0 → indexByte [120, 111, 98] (UInt8.ofNat (bits .or .u8 ((c.val : Nat) : Int) 32).toNat) = -1 := by decide +kernel
 exact key ⟨c, h⟩ h1
theorem run_copysign (r : Nat) (w : World) (h : r < 9223372036854775808) :
  Calls Tryz.prog 163 #[.float .f64 r, .float .f64 13830554455654793216] w fun e w' => e = .returned (.float .f64 (r + 9223372036854775808 : Nat)) ∧ w' = w := by
 have hb := run_mbits r
 have hb1 : ∀ W : World, (callFunc 124 #[.float .f64 13830554455654793216]).run Tryz.prog W = .ok (.value (.int .u64 13830554455654793216)) W := run_mbits 13830554455654793216
 have hf := run_mfrom (r + 9223372036854775808)
 have h1 : bits .andNot .u64 (r : Int) 9223372036854775808 = (r : Int) := by
  have h := u64_andNot_nat r 9223372036854775808 (by omega) (by decide)
  rw [show ((9223372036854775808 : Nat) : Int) = 9223372036854775808 from rfl] at h
  rw [h]
  congr 1
  have h3 : (r &&& (18446744073709551615 - 9223372036854775808)) = r := by
   rw [show 18446744073709551615 - 9223372036854775808 = 2 ^ 63 - 1 from by decide, Nat.and_two_pow_sub_one_eq_mod, Nat.mod_eq_of_lt (by omega)]
  exact h3
 have h2 : bits .and .u64 13830554455654793216 9223372036854775808 = 9223372036854775808 := by decide +kernel
 have h3 : bits .or .u64 (r : Int) 9223372036854775808 = ((r + 9223372036854775808 : Nat) : Int) := by
  have h := bits_or_u64_nat r 9223372036854775808 (by omega) (by decide)
  rw [show ((9223372036854775808 : Nat) : Int) = 9223372036854775808 from rfl] at h
  rw [h]
  congr 1
  rw [show (9223372036854775808 : Nat) = 2 ^ 63 * 1 from by decide, Nat.or_comm, ← Nat.two_pow_add_eq_or_of_lt (by omega)]
  omega
 generalize r + 9223372036854775808 = R at *
 go_enter Tryz.func163, Tryz.ntmps163
 go_wp2_with fail
 go_ret
 exact ⟨rfl, rfl⟩
def sgB (neg : Bool) : List UInt8 := if neg then [45] else []
def sgW (neg : Bool) : Nat := if neg then 9223372036854775808 else 0
def PaPost (X Q : Nat) (neg : Bool) (w : World) (e : Ending) (w' : World) : Prop := ∃ r, Near X Q r ∧ e = .returned (.tuple #[.int .u64 (r + sgW neg : Nat), .int .i64 0]) ∧ Below w.heap.size w w'
theorem cutp_run (s : ByteArray) (neg : Bool) (l : List UInt8) (w : World) (hs : s.data.toList = sgB neg ++ l) (hl : neg = false → l.head? ≠ some 45) :
  Calls Tryz.prog 117 #[.string s, .string ⟨#[45]⟩] w fun e w' => e = .returned (.tuple #[.string ⟨l.toArray⟩, .bool neg]) ∧ w' = w := by
 have h := Tryz.strings_CutPrefix s ⟨#[45]⟩ w
 have hp : hasPrefix s.data.toList (⟨#[45]⟩ : ByteArray).data.toList = neg := by
  rw [hs]
  cases neg with
  | true => rfl
  | false =>
   show hasPrefix l [45] = false
   cases l with
   | nil => rfl
   | cons x t =>
    have := hl rfl
    simp only [List.head?_cons, ne_eq, Option.some.injEq] at this
    show ([45] : List UInt8).isPrefixOf (x :: t) = false
    simp only [List.isPrefixOf, Bool.and_true]
    exact beq_eq_false_iff_ne.2 fun h => this h.symm
 have ht : trimPrefix s.data.toList (⟨#[45]⟩ : ByteArray).data.toList = l := by
  unfold trimPrefix
  rw [hp, hs]
  cases neg <;> rfl
 rw [hp, ht] at h
 exact h
theorem rep_run (l : List UInt8) (w : World) (hg : Globs w) (hl : l.length ≤ 1000) :
  Calls Tryz.prog 162 #[.string ⟨l.toArray⟩, .string ⟨#[95]⟩, .string ⟨#[]⟩] w fun e w' => e = .returned (.string ⟨(noBars l).toArray⟩) ∧ Below w.heap.size w w' := by
 obtain ⟨m, hm⟩ := hg.mlen
 refine (Tryz.strings_ReplaceAll ⟨l.toArray⟩ ⟨#[95]⟩ ⟨#[]⟩ m w (by rw [ba_size]; omega) hm (by decide) (by rw [ba_size, show (⟨#[]⟩ : ByteArray).size = 0 from rfl]; omega)).mono ?_
 rintro e w' ⟨he, hb⟩
 rw [show (⟨#[95]⟩ : ByteArray).data.toList = [95] from rfl, show (⟨#[]⟩ : ByteArray).data.toList = [] from rfl, replaceAll_bars] at he
 exact ⟨he, hb⟩
theorem near_lt63 {X Q r : Nat} (h : Near X Q r) : r < 9223372036854775808 := by
 have := h.inf
 unfold INF at this
 omega
theorem parse_dec (s : ByteArray) (neg : Bool) (l : List UInt8) (X Q K : Nat) (w : World) (hG : Globs w) (hT : GlobT K w) (hs : s.data.toList = sgB neg ++ l) (hlen : s.size ≤ 400) (hd : decB l = true)
  (hpf : ∀ W : World, Globs W → GlobT K W → Calls Tryz.prog 122 #[.string ⟨(noBars l).toArray⟩, .int .i64 64] W (PlPost X Q W)) :
  Calls Tryz.prog 121 #[.string s] w (PaPost X Q neg w) := by
 obtain ⟨x0, tl, hl0, hx0⟩ := dec_head1 l hd
 have hll : l.length ≤ 400 := by
  have : s.size = s.data.toList.length := by simp
  rw [hs, List.length_append] at this
  omega
 have hcl := dec_class l (dec_st l hd)
 have HCP := Lib.hid (cutp_run s neg l w hs (fun _ => by rw [hl0]; simpa using hx0))
 have HDE : Hid (∀ W : World, Calls Tryz.prog 161 #[.string ⟨l.toArray⟩] W fun e w' => e = .returned (.bool true) ∧ Below W.heap.size W w') := Lib.hid fun W => by
  have := decimal_any ⟨l.toArray⟩ W (by rw [ba_size]; omega)
  rw [show (⟨l.toArray⟩ : ByteArray).data.toList = l from rfl, hd] at this
  exact this
 have HRE := Lib.hid (fun (W : World) (h : Globs W) => rep_run l W h (by omega))
 have HPF := Lib.hid hpf
 have h400 : decide ((400 : Int) < (s.size : Int)) = false := by rw [decide_eq_false_iff_not]; omega
 have hnan0 : (l == [78, 97, 78]) = false := by
  rw [beq_eq_false_iff_ne]
  rintro rfl
  exact absurd (hcl 78 (by simp)) (by decide)
 have hinf0 : (l == [73, 110, 102, 105, 110, 105, 116, 121]) = false := by
  rw [beq_eq_false_iff_ne]
  rintro rfl
  exact absurd (hcl 73 (by simp)) (by decide)
 obtain ⟨T, hT0⟩ : ∃ T : ByteArray, T = ⟨l.toArray⟩ := ⟨_, rfl⟩
 have htsz : T.size = l.length := by rw [hT0]; rfl
 have hnan : (T.toList == [78, 97, 78]) = false := by rw [ByteArray.toList_eq, hT0]; exact hnan0
 have hinf : (T.toList == [73, 110, 102, 105, 110, 105, 116, 121]) = false := by rw [ByteArray.toList_eq, hT0]; exact hinf0
 have HIX : Hid (∀ (h : 1 < T.size) (W : World), Calls Tryz.prog 118 #[.string ⟨#[120, 111, 98]⟩, .int .u8 (bits .or .u8 ((T[1].toNat : Nat) : Int) 32)] W fun e w' => e = .returned (.int .i64 (-1)) ∧ w' = W) := Lib.hid fun h W => by
  have hc := cls_low T[1].toNat T[1].toNat_lt (hcl _ (by subst hT0; exact List.getElem_mem (l := l) (n := 1) (by rw [ba_size] at h; exact h)))
  have := Tryz.strings_IndexByte ⟨#[120, 111, 98]⟩ (bits .or .u8 ((T[1].toNat : Nat) : Int) 32) W
  rw [show (⟨#[120, 111, 98]⟩ : ByteArray).data.toList = [120, 111, 98] from rfl] at this
  rw [show indexByte [120, 111, 98] (bits .or .u8 ((T[1].toNat : Nat) : Int) 32).toNat.toUInt8 = -1 from hc] at this
  exact this
 rw [← hT0] at HCP HDE HRE
 have hGS := Lib.hid hG
 have hTS := Lib.hid hT
 have hcases : T.size ≤ 2 ∨ (∃ h : 2 < T.size, (((T[0]'(Nat.lt_trans (by decide) h)).toNat : Int) == 48) = false) ∨ (∃ h : 2 < T.size, (((T[0]'(Nat.lt_trans (by decide) h)).toNat : Int) == 48) = true) := by
  by_cases h : 2 < T.size
  ·right
   cases h2 : (((T[0]'(Nat.lt_trans (by decide) h)).toNat : Int) == 48)
   ·exact .inl ⟨h, h2⟩
   ·exact .inr ⟨h, h2⟩
  ·left; omega
 clear hG hT hpf hs hd hcl hl0 hT0 hll hnan0 hinf0
 rcases hcases with h2 | ⟨h2, t48⟩ | ⟨h2, t48⟩
 all_goals
  have HLN := Lib.hid htsz
  clear htsz
  go_enter Tryz.func121, Tryz.ntmps121
  go_wp2_with fail
  refine HCP.out.mono ?_
  rintro e w ⟨rfl, rfl⟩
  go_wp2_with (go_at_call 118; refine (HIX.out (by omega) _).mono ?_; rintro e w ⟨rfl, rfl⟩)
  refine (HDE.out _).mono ?_
  rintro e w1 ⟨rfl, hb1⟩
  have HB1 := Lib.hid hb1
  clear hb1
  go_wp2_with fail
  refine (HRE.out _ (hGS.out.on HB1.out)).mono ?_
  rintro e w2 ⟨rfl, hb2⟩
  have HB2 : Hid (Below w.heap.size w w2) := Lib.hid (HB1.out.trans (hb2.mono HB1.out.size))
  clear hb2
  go_wp2_with fail
  refine (HPF.out _ (hGS.out.on HB2.out) (hTS.out.on HB2.out)).mono ?_
  rintro e w3 ⟨r, ev, hn, rfl, hb3⟩
  have HB3 : Hid (Below w.heap.size w w3) := Lib.hid (HB2.out.trans (hb3.mono HB2.out.size))
  have HN := Lib.hid hn
  have HCS := Lib.hid (fun (W : World) => run_copysign r W (near_lt63 hn))
  have hmb : ∀ W : World, (callFunc 124 #[.float .f64 r]).run Tryz.prog W = .ok (.value (.int .u64 r)) W := run_mbits r
  have hmb2 : ∀ W : World, (callFunc 124 #[.float .f64 (r + 9223372036854775808 : Nat)]).run Tryz.prog W = .ok (.value (.int .u64 (r + 9223372036854775808 : Nat))) W := run_mbits (r + 9223372036854775808)
  clear hb3 hn
  obtain ⟨R2, hR2⟩ : ∃ R2 : Nat, R2 = r + 9223372036854775808 := ⟨_, rfl⟩
  rw [← hR2] at HCS hmb2
  have HR2 := Lib.hid hR2
  clear hR2
  cases neg
  ·go_wp2_with fail
   refine bodyPost_ret (v := .tuple #[.int .u64 r, .int .i64 0]) (by simp [results, Tryz.results121, go_sem]) rfl ⟨r, HN.out, rfl, HB3.out⟩
  ·go_wp2_with fail
   refine (HCS.out _).mono ?_
   rintro e w4 ⟨rfl, hw4⟩
   subst hw4
   go_wp2_with fail
   refine bodyPost_ret (v := .tuple #[.int .u64 R2, .int .i64 0]) (by simp [results, Tryz.results121, go_sem]) rfl ⟨r, HN.out, by rw [HR2.out]; rfl, HB3.out⟩
end Go.Proofs.YtckaoeloofbklaaGreatDoor
namespace Go.Proofs.YtckaoeloofbklaaGreatDoor
open Go Go.RowKit Go.Sort Go.Lib Go.Maps
theorem dvl_zeros (b n : Nat) : dvl b (List.replicate n 48) = 0 := by
 induction n with
 | zero => rfl
 | succ n ih => rw [List.replicate_succ', dvl_snoc, ih]; simp [dv]
end Go.Proofs.YtckaoeloofbklaaGreatDoor
namespace Go.Proofs.YtckaoeloofbklaaGreatDoor
open Go Go.RowKit Go.Sort Go.Lib
def DecIs (l D : List UInt8) (p : Int) : Prop := ∃ W F dot M, MantF M W F dot ∧ W ++ F ≠ [] ∧ D = W ++ F ∧
 ((noBars l = M ∧ p = -(F.length : Int)) ∨ ∃ eb sg X, PowF (powT eb sg X) eb sg X ∧ X ≠ [] ∧ noBars l = M ++ powT eb sg X ∧ p = (exF X : Int) * sgZ sg - F.length)
end Go.Proofs.YtckaoeloofbklaaGreatDoor
namespace Go.Proofs.YtckaoeloofbklaaGreatDoor
open Go Go.RowKit Go.Lib
set_option exponentiation.threshold 3000
theorem nd_le : ∀ (k u : Nat), u < 10 ^ (k + 1) → nDigits u ≤ k + 1
 | 0, u, h => by rw [nDigits_small (by simpa using h)]; exact Nat.le_refl _
 | k + 1, u, h => by
  by_cases h2 : u < 10
  ·rw [nDigits_small h2]; omega
  ·rw [nDigits_big h2]
   have := nd_le k (u / 10) (by rw [Nat.div_lt_iff_lt_mul (by decide), ← Nat.pow_succ]; exact h)
   omega
theorem nd_ten (x : Nat) (h : 1 ≤ x) : nDigits (x * 10) = nDigits x + 1 := by
 rw [nDigits_big (by omega), Nat.mul_div_cancel _ (by decide)]
theorem nd_tens (x : Nat) (h : 1 ≤ x) : ∀ k, nDigits (x * 10 ^ k) = nDigits x + k
 | 0 => by rw [Nat.pow_zero, Nat.mul_one]; rfl
 | k + 1 => by
  rw [Nat.pow_succ, ← Nat.mul_assoc, nd_ten _ (Nat.mul_pos h (Nat.pow_pos (by decide))), nd_tens x h k]; omega
theorem sig_ten (d : Nat) (h : 1 ≤ d) : sig (d * 10) = sig d := by
 unfold sig
 have e : decDigits (d * 10) = decDigits d ++ [48] := by
  rw [decDigits, dif_neg (by omega), Nat.mul_div_cancel _ (by decide), Nat.mul_mod_left]; rfl
 rw [e]
 unfold trimZ
 rw [List.reverse_append]
 rfl
theorem sig_tens (d : Nat) (h : 1 ≤ d) : ∀ k, sig (d * 10 ^ k) = sig d
 | 0 => by rw [Nat.pow_zero, Nat.mul_one]
 | k + 1 => by rw [Nat.pow_succ, ← Nat.mul_assoc, sig_ten _ (Nat.mul_pos h (Nat.pow_pos (by decide))), sig_tens d h k]
theorem near_between {X Y Z Q a : Nat} (hx : Near X Q a) (hy : Near Y Q a) (h1 : X ≤ Z) (h2 : Z ≤ Y) : Near Z Q a := by
 refine ⟨hx.pos, hx.inf, ?_, ?_⟩
 ·rcases hx.lo with h | ⟨h, h'⟩
  ·exact .inl h
  ·exact .inr ⟨Nat.le_trans h h1, fun ho => Nat.lt_of_lt_of_le (h' ho) h1⟩
 ·rcases hy.hi with h | ⟨h, h'⟩
  ·exact .inl h
  ·exact .inr ⟨Nat.le_trans h2 h, fun ho => Nat.lt_of_le_of_lt h2 (h' ho)⟩
theorem dX_mono {d d' : Nat} (q : Int) (h : d ≤ d') : dX d q ≤ dX d' q := by
 unfold dX
 exact Nat.mul_le_mul_left 2 (Nat.mul_le_mul_right _ (Nat.mul_le_mul_right _ h))
theorem mid_le (n G f r u hA : Nat) (hn : n = G * f + r) (hu : u = f + (if 2 * r < G then 0 else if 2 * r = G then f % 2 else 1)) (hr : r < G) (hw : G ≤ 2 * hA) :
  (n - hA ≤ u * G ∧ u * G ≤ n + hA) ∧ ((G < 2 * hA ∨ r = 0) → 0 < hA → hA ≤ n → n - hA < u * G ∧ u * G < n + hA) := by
 subst hn hu
 split
 ·rw [Nat.add_zero, Nat.mul_comm]
  generalize G * f = t
  omega
 ·split
  ·rcases Nat.mod_two_eq_zero_or_one f with h | h <;> rw [h]
   ·rw [Nat.add_zero, Nat.mul_comm]
    generalize G * f = t
    omega
   ·rw [Nat.add_mul, Nat.one_mul, Nat.mul_comm f]
    generalize G * f = t
    omega
  ·rw [Nat.add_mul, Nat.one_mul, Nat.mul_comm f]
   generalize G * f = t
   omega
def NU (a : Nat) (j : Int) : Nat := V a * 10 ^ j.toNat
def DE (j : Int) : Nat := 2 ^ 1074 * 10 ^ (-j).toNat
theorem DE_pos (j : Int) : 0 < DE j := Nat.mul_pos (Nat.two_pow_pos _) (Nat.pow_pos (by decide))
theorem ratio_div {X D n G : Nat} (hD : 0 < D) (hG : 0 < G) (h : X * G = n * D) : X / D = n / G ∧ upG X D = upG n G := by
 have hf : X / D = n / G := by
  have h1 := Nat.div_add_mod n G
  have h2 := Nat.mod_lt n hG
  rw [Nat.div_eq_iff hD]
  constructor
  ·refine Nat.le_of_mul_le_mul_right ?_ hG
   rw [h, Nat.mul_right_comm]
   exact Nat.mul_le_mul_right _ (Nat.div_mul_le_self n G)
  ·refine Nat.le_sub_one_of_lt (Nat.lt_of_mul_lt_mul_right (a := G) ?_)
   rw [h, show (n / G * D + D) * G = (n / G * G + G) * D from by rw [Nat.add_mul, Nat.add_mul]; congr 1 <;> ac_rfl]
   refine (Nat.mul_lt_mul_right hD).2 ?_
   rw [Nat.mul_comm (n / G)]
   omega
 have hr : X % D * G = n % G * D := by
  have h1 := Nat.div_add_mod n G
  have h2 := Nat.div_add_mod X D
  rw [hf] at h2
  have e1 : (D * (n / G) + X % D) * G = (G * (n / G) + n % G) * D := by rw [h2, h1, h]
  rw [Nat.add_mul, Nat.add_mul, show D * (n / G) * G = G * (n / G) * D from by ac_rfl] at e1
  omega
 refine ⟨hf, ?_⟩
 have c1 : 2 * (X % D) < D ↔ 2 * (n % G) < G := by
  rw [← Nat.mul_lt_mul_right hG, Nat.mul_assoc, hr, ← Nat.mul_lt_mul_right (b := 2 * (n % G)) hD, Nat.mul_assoc, Nat.mul_comm G D]
 have c2 : 2 * (X % D) = D ↔ 2 * (n % G) = G := by
  rw [← Nat.mul_left_inj (Nat.ne_of_gt hG), Nat.mul_assoc, hr, ← Nat.mul_left_inj (a := D) (b := 2 * (n % G)) (Nat.ne_of_gt hD), Nat.mul_assoc, Nat.mul_comm G D]
 unfold upG
 rw [hf]
 simp only [c1, c2]
theorem top_small : ∀ a, a < 16 → 0 < a → MN a ≠ 9223372036854775808 → 10 * DE (ppN false (EN a)) ≤ NU a (ppN false (EN a)) := by decide +kernel
theorem ulp_room (a : Nat) (h : 16 ≤ a) : 10 * (V (a + 1) - V a) ≤ V a := by
 obtain ⟨E, m, rfl, h2, h3⟩ := V_parts a
 rw [V_succ E m h2 h3, V_at E m (Nat.le_of_lt h2) h3, ← Nat.sub_mul, ← Nat.mul_assoc]
 refine Nat.mul_le_mul_right _ ?_
 rcases h3 with h3 | h3
 ·subst h3; omega
 ·unfold BB at h3; omega
structure ShIs (a : Nat) (p : Int) (dmin dmax u : Nat) : Prop where
 form : shN a = pick3 dmin dmax u p
 isin : ∀ d, Near (dX d (-p)) (dQ (-p)) a ↔ dmin ≤ d ∧ d ≤ dmax
 lo : dmin ≤ u
 hi : u ≤ dmax
 one : 1 ≤ dmin
 wide : dmax ≤ dmin + 9
 mid : u = NU a p / DE p + upG (NU a p) (DE p)
 top : 10 * DE p ≤ NU a p
 small : NU a p / DE p < 1152921504606846976
theorem sh_is (a : Nat) (h1 : 0 < a) (h2 : a < 9218868437227405312) (hm : MN a ≠ 9223372036854775808) : ∃ p dmin dmax u, ShIs a p dmin dmax u := by
 obtain ⟨m1, m2, m3, m4, m5⟩ := me_ok a h1 h2
 obtain ⟨vv0, vv1, v2, vpar⟩ := me_val a h1 h2
 obtain ⟨v3, _⟩ := v2 hm
 obtain ⟨hz1, hz2⟩ := zN_ge (EN a) m4
 obtain ⟨t1, t2, t3⟩ := top_room (MN a) (zN (EN a)) hz1 hz2 m2 m3
 have ok := (exp_ok (EN a) m4 m5).1
 simp only [expOK, Bool.and_eq_true, decide_eq_true_eq] at ok
 obtain ⟨⟨⟨o1, o2⟩, o3⟩, o4⟩ := ok
 obtain ⟨w1, w2⟩ := wid (EN a) m4 m5
 have hin := in_iff a h1 h2 hm (ppN false (EN a)) o3
 have e1 : 2 ^ zN (EN a) = 2 * 2 ^ (zN (EN a) - 1) := by rw [← Nat.pow_succ', show (zN (EN a) - 1).succ = zN (EN a) from by omega]
 have e2 : 2 ^ (zN (EN a) - 1) = 1024 * 2 ^ (zN (EN a) - 11) := by
  rw [show (1024 : Nat) = 2 ^ 10 from rfl, ← Nat.pow_add]; congr 1; omega
 have e3 : 9223372036854775808 = 2 ^ zN (EN a) * 2 ^ (63 - zN (EN a)) := by
  rw [← Nat.pow_add, show zN (EN a) + (63 - zN (EN a)) = 63 by omega]
 obtain ⟨c, hc⟩ : ∃ c, MN a = 2 ^ zN (EN a) * c := ⟨MN a / 2 ^ zN (EN a), by have := Nat.div_add_mod (MN a) (2 ^ zN (EN a)); omega⟩
 have hge : 9223372036854775808 + 2 ^ zN (EN a) ≤ MN a := by
  rw [hc] at m1 hm ⊢
  rw [e3] at m1 hm ⊢
  rw [← Nat.mul_succ]
  refine Nat.mul_le_mul_left _ ?_
  have g1 := Nat.le_of_mul_le_mul_left m1 (Nat.two_pow_pos _)
  have g2 : c ≠ 2 ^ (63 - zN (EN a)) := fun h => hm (by rw [h])
  omega
 have hsk : skewB (MN a) (EN a) = false := by unfold skewB; rw [decide_eq_false hm]; rfl
 have hform : shN a = pick3 ((usN (ppN false (EN a)) (EN a) (MN a - 2 ^ (zN (EN a) - 1)) + a % 2 + 3) / 4) ((usN (ppN false (EN a)) (EN a) (MN a + 2 ^ (zN (EN a) - 1)) - a % 2) / 4)
   ((usN (ppN false (EN a)) (EN a) (MN a) + 1 + usN (ppN false (EN a)) (EN a) (MN a) / 4 % 2) / 4) (ppN false (EN a)) := by
  unfold shN shortN
  rw [hsk]
  simp only [Bool.false_eq_true, if_false]
  rw [vpar]
 have hG := GN_pos (ppN false (EN a)) (EN a)
 have hA := AN_pos (ppN false (EN a))
 have hNU : NU a (ppN false (EN a)) * GN (ppN false (EN a)) (EN a) = MN a * AN (ppN false (EN a)) * DE (ppN false (EN a)) := by
  obtain ⟨s1, s2⟩ := sc_eq (ppN false (EN a)) (EN a) o3 (by omega) (MN a) 1
  rw [← vv0] at s1
  rw [Nat.one_mul, Nat.one_mul] at s2
  unfold NU DE
  have d1 : dQ (-(ppN false (EN a))) = 10 ^ (ppN false (EN a)).toNat := by unfold dQ; rw [Int.neg_neg]
  have d2 : dQ (ppN false (EN a)) = 10 ^ (-(ppN false (EN a))).toNat := rfl
  rw [d1] at s1
  rw [d2] at s2
  have hT := Nat.two_pow_pos (EN a + 1138).toNat
  rw [show (2 : Nat) ^ 1138 = 2 ^ 1074 * 2 ^ 64 from by rw [← Nat.pow_add]] at s2
  generalize 2 ^ (EN a + 1138).toNat = T at *
  generalize 2 ^ (127 - lpN (ppN false (EN a))).toNat = K at *
  generalize 10 ^ (ppN false (EN a)).toNat = P at *
  generalize 10 ^ (-(ppN false (EN a))).toNat = P' at *
  generalize GN (ppN false (EN a)) (EN a) = G at *
  generalize AN (ppN false (EN a)) = A at *
  generalize 2 ^ 1074 = W at *
  generalize 2 ^ 64 = Z at *
  refine Nat.eq_of_mul_eq_mul_right hT ?_
  rw [Nat.mul_assoc (V a * P), ← s2, show V a * P * (P' * (W * Z) * K) = P * (V a * Z) * K * (W * P') from by ac_rfl, s1]
  ac_rfl
 have htop : 10 * DE (ppN false (EN a)) ≤ NU a (ppN false (EN a)) := by
  by_cases h16 : a < 16
  ·exact top_small a h16 h1 hm
  ·have hr := ulp_room a (by omega)
   have hd : (V (a + 1) - V a) * 2 ^ 64 = 2 ^ zN (EN a) * 2 ^ (EN a + 1138).toNat := by
    rw [Nat.sub_mul, vv1, vv0, ← Nat.sub_mul, Nat.add_sub_cancel_left]
   have h10 : 10 * 2 ^ zN (EN a) ≤ MN a := by
    refine Nat.le_of_mul_le_mul_right ?_ (Nat.two_pow_pos (EN a + 1138).toNat)
    rw [Nat.mul_assoc, ← hd, ← vv0, ← Nat.mul_assoc]
    exact Nat.mul_le_mul_right _ hr
   refine Nat.le_of_mul_le_mul_right ?_ hG
   rw [hNU, Nat.mul_right_comm]
   refine Nat.mul_le_mul_right _ ?_
   refine Nat.le_trans (Nat.mul_le_mul_left 10 w1) ?_
   rw [← Nat.mul_assoc]
   exact Nat.mul_le_mul_right _ h10
 have hus := (us_bounds (ppN false (EN a)) (EN a) (MN a) (by omega) (by omega) o3 o4 m2).1
 clear vv0 vv1
 have u1 := us_exact (ppN false (EN a)) (EN a) (by omega) (by omega) o3
 generalize GN (ppN false (EN a)) (EN a) = G at *
 generalize AN (ppN false (EN a)) = A at *
 generalize ppN false (EN a) = p at *
 rw [e1] at w1 w2
 have x1 : usN p (EN a) (MN a - 2 ^ (zN (EN a) - 1)) = unr ((MN a - 2 ^ (zN (EN a) - 1)) * A) G := by
  obtain ⟨z, hz⟩ : ∃ z, MN a - 2 ^ (zN (EN a) - 1) = 512 * z := ⟨(MN a - 2 ^ (zN (EN a) - 1)) / 512, by rw [hc, e1, e2]; rw [show 2 * (1024 * 2 ^ (zN (EN a) - 11)) * c = 1024 * (2 * 2 ^ (zN (EN a) - 11) * c) from by ac_rfl]; omega⟩
  rw [hz]
  exact u1 z (by omega) (by omega)
 have x2 : usN p (EN a) (MN a + 2 ^ (zN (EN a) - 1)) = unr ((MN a + 2 ^ (zN (EN a) - 1)) * A) G := by
  obtain ⟨z, hz⟩ : ∃ z, MN a + 2 ^ (zN (EN a) - 1) = 512 * z := ⟨(MN a + 2 ^ (zN (EN a) - 1)) / 512, by rw [hc, e1, e2]; rw [show 2 * (1024 * 2 ^ (zN (EN a) - 11)) * c = 1024 * (2 * 2 ^ (zN (EN a) - 11) * c) from by ac_rfl]; omega⟩
  rw [hz]
  exact u1 z (by omega) (by omega)
 have x3 : usN p (EN a) (MN a) = unr (MN a * A) G := by
  obtain ⟨z, hz⟩ : ∃ z, MN a = 512 * z := ⟨MN a / 512, by rw [hc, e1, e2]; rw [show 2 * (1024 * 2 ^ (zN (EN a) - 11)) * c = 1024 * (2 * 2 ^ (zN (EN a) - 11) * c) from by ac_rfl]; omega⟩
  rw [hz]
  exact u1 z (by omega) (by omega)
 have hsm : MN a * A / G < 1152921504606846976 := by
  have hur := unr_round (MN a * A) G hG
  rw [← x3] at hur
  omega
 obtain ⟨hrf, hru⟩ := ratio_div (DE_pos p) hG hNU
 rw [x1, x2, x3, unr_round _ _ hG] at hform
 rw [e1] at hge
 clear u1 x1 x2 x3 o1 o2 o3 o4 hsk e3 vpar v3 v2 t1 t2 t3
 have hcc : MN a * A = 2 * (2 ^ (zN (EN a) - 1) * A) * c := by rw [hc, e1]; ac_rfl
 generalize 2 ^ (zN (EN a) - 1) = h at *
 have hle : h ≤ MN a := by omega
 have hmul1 : (MN a - h) * A = MN a * A - h * A := Nat.sub_mul _ _ _
 have hmul2 : (MN a + h) * A = MN a * A + h * A := Nat.add_mul _ _ _
 rw [Nat.mul_assoc] at w1 w2
 have hhA : h * A ≤ MN a * A := Nat.mul_le_mul_right _ hle
 have hh0 : 0 < h := by omega
 have hpos : 0 < h * A := Nat.mul_pos hh0 hA
 have hpos2 : 0 < (MN a - h) * A := Nat.mul_pos (by omega) hA
 have hdm := Nat.div_add_mod (MN a * A) G
 have hml := Nat.mod_lt (MN a * A) hG
 have hmid := mid_le (MN a * A) G (MN a * A / G) (MN a * A % G) (MN a * A / G + upG (MN a * A) G) (h * A) hdm.symm rfl hml w1
 have hstrict : G < 2 * (h * A) ∨ MN a * A % G = 0 := by
  rcases Nat.lt_or_ge G (2 * (h * A)) with g | g
  ·exact .inl g
  ·right
   have : 2 * (h * A) = G := by omega
   rw [hcc, this, Nat.mul_mod_right]
 have hst := hmid.2 hstrict hpos hhA
 rw [← hmul1, ← hmul2] at hmid hst
 have hGn : G ≤ (MN a + h) * A := by rw [hmul2]; omega
 have huIn : Near (dX (MN a * A / G + upG (MN a * A) G) (-p)) (dQ (-p)) a := (hin _).2 ⟨⟨hmid.1.1, fun _ => hst.1⟩, ⟨hmid.1.2, fun _ => hst.2⟩⟩
 have hiff : ∀ d, Near (dX d (-p)) (dQ (-p)) a ↔ (unr ((MN a - h) * A) G + a % 2 + 3) / 4 ≤ d ∧ d ≤ (unr ((MN a + h) * A) G - a % 2) / 4 := fun d => by
  rw [hin d]
  rcases Nat.mod_two_eq_zero_or_one a with ho | ho
  ·rw [ho, Nat.add_zero, Nat.sub_zero, unr_ceil _ _ _ hG, unr_below _ _ _ hG]
   exact ⟨fun h => ⟨h.1.1, h.2.1⟩, fun h => ⟨⟨h.1, fun h => absurd h (by decide)⟩, ⟨h.2, fun h => absurd h (by decide)⟩⟩⟩
  ·rw [ho, unr_above _ _ _ hG, unr_under _ _ _ hG hGn]
   exact ⟨fun h => ⟨h.1.2 rfl, h.2.2 rfl⟩, fun h => ⟨⟨Nat.le_of_lt h.1, fun _ => h.1⟩, ⟨Nat.le_of_lt h.2, fun _ => h.2⟩⟩⟩
 obtain ⟨lo, hi⟩ := (hiff _).1 huIn
 refine ⟨p, _, _, _, hform, hiff, lo, hi, ?_, ?_, by rw [hrf, hru], htop, by rw [hrf]; exact hsm⟩
 ·have hn := (hin _).1 ((hiff _).2 ⟨Nat.le_refl _, Nat.le_trans lo hi⟩)
  rcases Nat.eq_zero_or_pos ((unr ((MN a - h) * A) G + a % 2 + 3) / 4) with g | g
  ·rw [g, Nat.zero_mul] at hn
   omega
  ·exact g
 ·have n1 := (hin _).1 ((hiff _).2 ⟨Nat.le_refl _, Nat.le_trans lo hi⟩)
  have n2 := (hin _).1 ((hiff _).2 ⟨Nat.le_trans lo hi, Nat.le_refl _⟩)
  generalize (unr ((MN a - h) * A) G + a % 2 + 3) / 4 = dmin at *
  generalize (unr ((MN a + h) * A) G - a % 2) / 4 = dmax at *
  rcases Nat.lt_or_ge (dmin + 9) dmax with g | g
  ·exfalso
   have g2 : (dmin + 10) * G ≤ dmax * G := Nat.mul_le_mul_right _ g
   rw [Nat.add_mul] at g2
   have a1 := n1.1.1
   have a2 := n2.2.1
   rw [hmul1] at a1
   rw [hmul2] at a2
   omega
  ·exact g
theorem sh_near (a : Nat) (h1 : 0 < a) (h2 : a < 9218868437227405312) (hm : MN a ≠ 9223372036854775808) : Near (dX (shN a).1 (shN a).2) (dQ (shN a).2) a := by
 obtain ⟨p, dmin, dmax, u, hs⟩ := sh_is a h1 h2 hm
 rw [hs.form]
 unfold pick3
 split
 ·rename_i h
  have := (hs.isin _).2 ⟨h, by omega⟩
  have e := near_up (dmax / 10) 1 a (-p) (by rwa [Nat.pow_one])
  rwa [show -p + ((1 : Nat) : Int) = -(p - 1) from by omega] at e
 ·split
  ·exact (hs.isin u).2 ⟨hs.lo, hs.hi⟩
  ·have := hs.lo
   have := hs.hi
   exact (hs.isin dmin).2 ⟨Nat.le_refl _, by omega⟩
end Go.Proofs.YtckaoeloofbklaaGreatDoor
namespace Go.Proofs.YtckaoeloofbklaaGreatDoor
open Go Go.RowKit Go.Lib
set_option exponentiation.threshold 3000
def nearB (X Q r : Nat) : Bool :=
 decide (0 < Q) && decide (r ≤ INF) && (decide (r = 0) || (decide (Q * (V (r - 1) + V r) ≤ X) && (decide (r % 2 ≠ 1) || decide (Q * (V (r - 1) + V r) < X)))) &&
  (decide (r = INF) || (decide (X ≤ Q * (V r + V (r + 1))) && (decide (r % 2 ≠ 1) || decide (X < Q * (V r + V (r + 1))))))
theorem nearB_is {X Q r : Nat} (h : nearB X Q r = true) : Near X Q r := by
 simp only [nearB, Bool.and_eq_true, Bool.or_eq_true, decide_eq_true_eq] at h
 obtain ⟨⟨⟨h1, h2⟩, h3⟩, h4⟩ := h
 refine ⟨h1, h2, h3.imp id fun h => ⟨h.1, fun ho => h.2.resolve_left (fun hh => hh ho)⟩, h4.imp id fun h => ⟨h.1, fun ho => h.2.resolve_left (fun hh => hh ho)⟩⟩
def okA (a : Nat) : Bool := let s := shN a; nearB (dX s.1 s.2) (dQ s.2) a
def lowAll : Nat → Nat → Bool
 | 0, _ => true
 | n + 1, a => okA a && lowAll n (2 * a)
def highAll : Nat → Nat → Bool
 | 0, _ => true
 | n + 1, a => okA a && highAll n (a + 4503599627370496)
theorem lowAll_get : ∀ (n a : Nat), lowAll n a = true → ∀ i, i < n → okA (a * 2 ^ i) = true
 | 0, _, _, i, h => by omega
 | n + 1, a, h, 0, _ => by
  simp only [lowAll, Bool.and_eq_true] at h
  simpa using h.1
 | n + 1, a, h, i + 1, hi => by
  simp only [lowAll, Bool.and_eq_true] at h
  have := lowAll_get n (2 * a) h.2 i (by omega)
  rwa [show 2 * a * 2 ^ i = a * 2 ^ (i + 1) from by rw [Nat.pow_succ]; ac_rfl] at this
theorem highAll_get : ∀ (n a : Nat), highAll n a = true → ∀ i, i < n → okA (a + i * 4503599627370496) = true
 | 0, _, _, i, h => by omega
 | n + 1, a, h, 0, _ => by
  simp only [highAll, Bool.and_eq_true] at h
  simpa using h.1
 | n + 1, a, h, i + 1, hi => by
  simp only [highAll, Bool.and_eq_true] at h
  have := highAll_get n (a + 4503599627370496) h.2 i (by omega)
  rwa [show a + 4503599627370496 + i * 4503599627370496 = a + (i + 1) * 4503599627370496 from by rw [Nat.add_mul, Nat.one_mul]; omega] at this
theorem low_all : lowAll 52 1 = true := by decide +kernel
theorem high_all : highAll 2046 4503599627370496 = true := by decide +kernel
theorem pow_rung (a : Nat) (h1 : 0 < a) (h2 : a < 9218868437227405312) (hm : MN a = 9223372036854775808) : (∃ i, i < 52 ∧ a = 1 * 2 ^ i) ∨ ∃ i, i < 2046 ∧ a = 4503599627370496 + i * 4503599627370496 := by
 by_cases hs : a < 4503599627370496
 ·left
  have hmt : mtN a = a := by unfold mtN; rw [if_pos hs]
  obtain ⟨hL1, hL2, _⟩ := bitLen_bounds a h1 (by omega)
  have hL := bitLen_le a 52 h1 (by omega) hs
  have hM : MN a = a * 2 ^ (64 - Lib.bitLen a) := by unfold MN sN; rw [hmt]
  refine ⟨Lib.bitLen a - 1, by omega, ?_⟩
  rw [Nat.one_mul]
  rw [hM] at hm
  have e : 9223372036854775808 = 2 ^ (Lib.bitLen a - 1) * 2 ^ (64 - Lib.bitLen a) := by
   rw [← Nat.pow_add, show Lib.bitLen a - 1 + (64 - Lib.bitLen a) = 63 by omega]
  rw [e] at hm
  exact Nat.eq_of_mul_eq_mul_right (Nat.two_pow_pos _) hm
 ·right
  have hmt : mtN a = a % 4503599627370496 + 4503599627370496 := by unfold mtN; rw [if_neg hs]
  have hr := Nat.mod_lt a (show 0 < 4503599627370496 by decide)
  have hL1 := bitLen_le (a % 4503599627370496 + 4503599627370496) 53 (by omega) (by omega) (by omega)
  have hL2 := bitLen_gt (a % 4503599627370496 + 4503599627370496) 52 (by omega) (by omega) (by omega)
  have hL : Lib.bitLen (a % 4503599627370496 + 4503599627370496) = 53 := by omega
  have hM : MN a = (a % 4503599627370496 + 4503599627370496) * 2 ^ 11 := by unfold MN sN; rw [hmt, hL]
  rw [hM] at hm
  have h0 : a % 4503599627370496 = 0 := by omega
  have hdm := Nat.div_add_mod a 4503599627370496
  exact ⟨a / 4503599627370496 - 1, by omega, by omega⟩
theorem shown_near (a : Nat) (h1 : 0 < a) (h2 : a < 9218868437227405312) : Near (dX (shN a).1 (shN a).2) (dQ (shN a).2) a := by
 by_cases hm : MN a = 9223372036854775808
 ·rcases pow_rung a h1 h2 hm with ⟨i, hi, rfl⟩ | ⟨i, hi, rfl⟩
  ·exact nearB_is (lowAll_get _ _ low_all i hi)
  ·exact nearB_is (highAll_get _ _ high_all i hi)
 ·exact sh_near a h1 h2 hm
end Go.Proofs.YtckaoeloofbklaaGreatDoor
namespace Go.Proofs.YtckaoeloofbklaaGreatDoor
open Go Go.RowKit Go.Lib
set_option exponentiation.threshold 3000
theorem strip_ex : ∀ N : Nat, 1 ≤ N → ∃ t j, N = t * 10 ^ j ∧ t % 10 ≠ 0 := by
 intro N
 induction N using Nat.strongRecOn with
 | _ N ih =>
  intro h
  by_cases h0 : N % 10 = 0
  ·obtain ⟨t, j, h1, h2⟩ := ih (N / 10) (by omega) (by omega)
   exact ⟨t, j + 1, by rw [Nat.pow_succ, ← Nat.mul_assoc, ← h1]; omega, h2⟩
  ·exact ⟨N, 0, by simp, h0⟩
theorem trimZ_last (l : List UInt8) (c : UInt8) (h : c ≠ 48) : trimZ (l ++ [c]) = l ++ [c] := by
 unfold trimZ
 rw [List.reverse_append, List.reverse_singleton, List.singleton_append, List.dropWhile_cons, if_neg (by simpa using h)]
 simp
theorem sig_odd (t : Nat) (h : t % 10 ≠ 0) : sig t = decDigits t := by
 unfold sig
 by_cases h1 : t < 10
 ·rw [decDigits, dif_pos h1]
  exact trimZ_last [] _ (by
   have key : ∀ k : Fin 10, k.val ≠ 0 → UInt8.ofNat (48 + k.val) ≠ 48 := by decide +kernel
   exact key ⟨t, h1⟩ (by show t ≠ 0; omega))
 ·rw [decDigits, dif_neg h1]
  exact trimZ_last _ _ (by
   have key : ∀ k : Fin 10, k.val ≠ 0 → UInt8.ofNat (48 + k.val) ≠ 48 := by decide +kernel
   exact key ⟨t % 10, by omega⟩ h)
theorem dec_tens (t : Nat) (h : 1 ≤ t) : ∀ j, decDigits (t * 10 ^ j) = decDigits t ++ List.replicate j 48
 | 0 => by simp
 | j + 1 => by
  have hp : 1 ≤ t * 10 ^ j := Nat.mul_pos h (Nat.pow_pos (by decide))
  rw [Nat.pow_succ, ← Nat.mul_assoc, decDigits, dif_neg (by omega), Nat.mul_div_cancel _ (by decide), Nat.mul_mod_left, dec_tens t h j, List.replicate_succ', List.append_assoc]
  rfl
end Go.Proofs.YtckaoeloofbklaaGreatDoor
namespace Go.Proofs.YtckaoeloofbklaaGreatDoor
open Go Go.RowKit Go.Lib
def foldS (q : Nat) (l : List UInt8) : Nat := l.foldl (fun q c => nextN q (clsN c.toNat)) q
theorem foldS_app (q : Nat) (l m : List UInt8) : foldS q (l ++ m) = foldS (foldS q l) m := by unfold foldS; rw [List.foldl_append]
theorem foldS_cons (q : Nat) (c : UInt8) (l : List UInt8) : foldS q (c :: l) = foldS (nextN q (clsN c.toNat)) l := rfl
theorem dig_class {c : UInt8} (h : isDig c) : clsN c.toNat = 1 ∨ clsN c.toNat = 2 := by
 unfold clsN
 obtain ⟨h1, h2⟩ := h
 split
 ·exact .inl rfl
 ·rw [if_pos ⟨h1, h2⟩]; exact .inr rfl
theorem dig_class2 {c : UInt8} (h : isDig c) (h0 : c ≠ 48) : clsN c.toNat = 2 := by
 unfold clsN
 obtain ⟨h1, h2⟩ := h
 rw [if_neg (fun hh => h0 (UInt8.toNat_inj.1 (by rw [hh]; rfl))), if_pos ⟨h1, h2⟩]
theorem foldS_digs (q : Nat) (h1 : nextN q 1 = q) (h2 : nextN q 2 = q) : ∀ l : List UInt8, (∀ x ∈ l, isDig x) → foldS q l = q
 | [], _ => rfl
 | c :: l, h => by
  rw [foldS_cons]
  have hc := dig_class (h c (by simp))
  have : nextN q (clsN c.toNat) = q := by rcases hc with g | g <;> rw [g] <;> assumption
  rw [this]
  exact foldS_digs q h1 h2 l fun x hx => h x (by simp [hx])
theorem foldS_digs1 (q q' : Nat) (g1 : nextN q 1 = q') (g2 : nextN q 2 = q') (h1 : nextN q' 1 = q') (h2 : nextN q' 2 = q') (l : List UInt8) (hne : l ≠ []) (h : ∀ x ∈ l, isDig x) : foldS q l = q' := by
 cases l with
 | nil => exact absurd rfl hne
 | cons c l =>
  rw [foldS_cons]
  have hc := dig_class (h c (by simp))
  have : nextN q (clsN c.toNat) = q' := by rcases hc with g | g <;> rw [g] <;> assumption
  rw [this]
  exact foldS_digs q' h1 h2 l fun x hx => h x (by simp [hx])
theorem dv_digit (k : Nat) (h : k < 10) : dv (UInt8.ofNat (48 + k)).toNat = k := by
 have key : ∀ k : Fin 10, dv (UInt8.ofNat (48 + k.val)).toNat = k.val := by decide +kernel
 exact key ⟨k, h⟩
theorem dvl_dec (u : Nat) : dvl 10 (decDigits u) = u := by
 induction u using Nat.strongRecOn with
 | _ u ih =>
  rw [decDigits]
  split
  ·rename_i h; have := dv_digit u h; simp only [dvl, List.foldl_cons, List.foldl_nil, Nat.zero_mul, Nat.zero_add]; exact this
  ·rename_i h
   rw [dvl_snoc, ih (u / 10) (by omega), dv_digit _ (by omega)]; omega
theorem ex_digit (k : Nat) (h : k < 10) : (UInt8.ofNat (48 + k)).toNat - 48 = k := by
 have key : ∀ k : Fin 10, (UInt8.ofNat (48 + k.val)).toNat - 48 = k.val := by decide +kernel
 exact key ⟨k, h⟩
theorem ex_dec (u : Nat) (hu : u < 100000) : exF (decDigits u) = u := by
 induction u using Nat.strongRecOn with
 | _ u ih =>
  rw [decDigits]
  split
  ·rename_i h; have := ex_digit u h; simp only [exF, List.foldl_cons, List.foldl_nil]; rw [if_pos (by decide)]; omega
  ·rename_i h
   rw [ex_snoc, ih (u / 10) (by omega) (by omega), if_pos (by omega), ex_digit _ (by omega)]; omega
theorem bars_digs (l : List UInt8) (h : ∀ x ∈ l, x ≠ 95) : noBars l = l := bars_none l h
theorem dig95 {x : UInt8} (h : isDig x) : x ≠ 95 := by rintro rfl; exact absurd h.2 (by decide)
theorem z48 (k : Nat) : ∀ x ∈ List.replicate k (48 : UInt8), x = 48 := fun _ hx => List.eq_of_mem_replicate hx
theorem placed_form (t : Nat) (x : Int) (ht : t % 10 ≠ 0) (h19 : nDigits t ≤ 19) (hx : (((nDigits t : Nat) : Int) + x - 1).natAbs < 1000) :
  decB (placedB (decDigits t) ((nDigits t : Nat) + x)) = true ∧ ∃ D y k, DecIs (placedB (decDigits t) ((nDigits t : Nat) + x)) D y ∧ (∀ c ∈ (dropZ D).drop 19, c = 48) ∧ dvl 10 D = t * 10 ^ k ∧ x = y + (k : Nat) := by
 have ht1 : 1 ≤ t := by omega
 obtain ⟨c0, l0, hS, hc0⟩ := dec_head t ht1
 have hdig : ∀ c ∈ decDigits t, isDig c := dec_digs t
 have hlen : (decDigits t).length = nDigits t := decDigits_length t
 have hv : dvl 10 (decDigits t) = t := dvl_dec t
 have hfold : foldS 1 (decDigits t) = 3 := by
  rw [hS, foldS_cons, dig_class2 (hdig c0 (by rw [hS]; simp)) hc0]
  exact foldS_digs 3 (by decide) (by decide) l0 fun c hc => hdig c (by rw [hS]; simp [hc])
 have hdz : ∀ R, dropZ (decDigits t ++ R) = decDigits t ++ R := fun R => by
  rw [hS]; unfold dropZ
  rw [List.cons_append, List.dropWhile_cons, if_neg (by simpa using hc0)]
 have hdz0 : dropZ (decDigits t) = decDigits t := by have := hdz []; rwa [List.append_nil] at this
 have hne : decDigits t ≠ [] := by rw [hS]; simp
 have hnd := nDigits_pos t
 generalize decDigits t = S at *
 have hz19 : S.drop 19 = [] := List.drop_eq_nil_of_le (by omega)
 have hdd : ∀ c ∈ (dropZ S).drop 19, c = 48 := fun c hc => by rw [hdz0, hz19] at hc; simp at hc
 unfold placedB
 split
 ·
  rename_i h
  obtain ⟨k, hk⟩ : ∃ k : Nat, x = k := ⟨x.toNat, by omega⟩
  have e : (((nDigits t : Nat) : Int) + x - (S.length : Nat)).toNat = k := by omega
  rw [e]
  have hall : ∀ c ∈ S ++ List.replicate k 48, isDig c := fun c hc => (List.mem_append.1 hc).elim (hdig c) fun h => by rw [z48 k c h]; exact dig48
  refine ⟨?_, S ++ List.replicate k 48, 0, k, ⟨S ++ List.replicate k 48, [], false, _, mant_w hall, by simp [hne], by simp, .inl ⟨bars_digs _ fun c hc => dig95 (hall c hc), by simp⟩⟩, ?_, ?_, by omega⟩
  ·show endB (foldS 1 _) = true
   rw [foldS_app, hfold, foldS_digs 3 (by decide) (by decide) _ fun c hc => by rw [z48 k c hc]; exact dig48]
   rfl
  ·rw [hdz]
   intro c hc
   rw [List.drop_append, hz19, List.nil_append] at hc
   exact z48 k c (List.mem_of_mem_drop hc)
  ·rw [dvl_app, hv, dvl_zeros, List.length_replicate, Nat.add_zero]
 ·split
  ·
   rename_i h
   obtain ⟨j, hj⟩ : ∃ j : Nat, ((nDigits t : Nat) : Int) + x = j := ⟨(((nDigits t : Nat) : Int) + x).toNat, by omega⟩
   rw [hj, Int.toNat_natCast]
   have hw : ∀ c ∈ S.take j, isDig c := fun c hc => hdig c (List.mem_of_mem_take hc)
   have hf : ∀ c ∈ S.drop j, isDig c := fun c hc => hdig c (List.mem_of_mem_drop hc)
   have hfne : S.drop j ≠ [] := by
    intro h2
    have := congrArg List.length h2
    rw [List.length_drop] at this
    simp at this
    omega
   refine ⟨?_, S, x, 0, ⟨S.take j, S.drop j, true, S.take j ++ 46 :: S.drop j, ⟨rfl, hw, hf, by simp⟩, by rw [List.take_append_drop]; exact hne, (List.take_append_drop j S).symm, .inl ⟨bars_digs _ fun c hc => ?_, ?_⟩⟩, hdd, by rw [hv, Nat.pow_zero, Nat.mul_one], by simp⟩
   ·show endB (foldS 1 _) = true
    have h3 : foldS 1 (S.take j) = 3 := by
     obtain ⟨j', rfl⟩ : ∃ j', j = j' + 1 := ⟨j - 1, by omega⟩
     rw [hS, List.take_succ_cons, foldS_cons, dig_class2 (hdig c0 (by rw [hS]; simp)) hc0]
     exact foldS_digs 3 (by decide) (by decide) _ fun c hc => hdig c (by rw [hS]; exact List.mem_cons_of_mem _ (List.mem_of_mem_take hc))
    rw [foldS_app, h3, foldS_cons, show nextN 3 (clsN (46 : UInt8).toNat) = 12 from by decide, foldS_digs1 12 6 (by decide) (by decide) (by decide) (by decide) _ hfne hf]
    rfl
   ·rcases List.mem_append.1 hc with h2 | h2
    ·exact dig95 (hw c h2)
    ·rcases List.mem_cons.1 h2 with h3 | h3
     ·rw [h3]; decide
     ·exact dig95 (hf c h3)
   ·rw [List.length_drop]; omega
  ·split
   ·
    rename_i h
    obtain ⟨j, hj⟩ : ∃ j : Nat, -(((nDigits t : Nat) : Int) + x) = j := ⟨(-(((nDigits t : Nat) : Int) + x)).toNat, by omega⟩
    rw [hj, Int.toNat_natCast]
    have hall : ∀ c ∈ List.replicate j 48 ++ S, isDig c := fun c hc => (List.mem_append.1 hc).elim (fun h => by rw [z48 j c h]; exact dig48) (hdig c)
    refine ⟨?_, 48 :: (List.replicate j 48 ++ S), x, 0, ⟨[48], List.replicate j 48 ++ S, true, 48 :: 46 :: (List.replicate j 48 ++ S), ⟨rfl, fun c hc => by simp at hc; rw [hc]; exact dig48, hall, by simp⟩, by simp, rfl, .inl ⟨bars_digs _ fun c hc => ?_, ?_⟩⟩, ?_, ?_, by simp⟩
    ·show endB (foldS 1 _) = true
     rw [foldS_cons, show nextN 1 (clsN (48 : UInt8).toNat) = 2 from by decide, foldS_cons, show nextN 2 (clsN (46 : UInt8).toNat) = 12 from by decide, foldS_digs1 12 6 (by decide) (by decide) (by decide) (by decide) _ (by simp [hne]) hall]
     rfl
    ·rcases List.mem_cons.1 hc with h2 | h2
     ·rw [h2]; decide
     ·rcases List.mem_cons.1 h2 with h3 | h3
      ·rw [h3]; decide
      ·exact dig95 (hall c h3)
    ·rw [List.length_append, List.length_replicate]; omega
    ·have hd : dropZ (48 :: (List.replicate j 48 ++ S)) = S := by
      unfold dropZ at hdz0 ⊢
      rw [List.dropWhile_cons, if_pos (by decide), dropWhile_all _ _ _ (fun c hc => by rw [z48 j c hc]; rfl), hdz0]
     rw [hd, hz19]; simp
    ·have e := dvl_app 10 (48 :: List.replicate j 48) S
     rw [show (48 : UInt8) :: List.replicate j 48 = List.replicate (j + 1) 48 from rfl, dvl_zeros, Nat.zero_mul, Nat.zero_add, hv] at e
     rw [Nat.pow_zero, Nat.mul_one]
     exact e
   ·
    rename_i g1 g2 g3
    obtain ⟨y, hy⟩ : ∃ y : Int, ((nDigits t : Nat) : Int) + x - 1 = y := ⟨_, rfl⟩
    rw [hy] at hx ⊢
    have hX : ∀ c ∈ decDigits y.natAbs, isDig c := dec_digs _
    have hXne : decDigits y.natAbs ≠ [] := by
     intro h2
     have := congrArg List.length h2
     rw [decDigits_length] at this
     have := nDigits_pos y.natAbs
     simp at *; omega
    obtain ⟨sgb, hsg, hsgc⟩ : ∃ sgb : UInt8, (if y < 0 then (45 : UInt8) else 43) = sgb ∧ (sgb = 43 ∨ sgb = 45) := by
     split
     ·exact ⟨45, rfl, .inr rfl⟩
     ·exact ⟨43, rfl, .inl rfl⟩
    have hpow : PowF (powT 101 [sgb] (decDigits y.natAbs)) 101 [sgb] (decDigits y.natAbs) := ⟨rfl, .inr rfl, by rcases hsgc with h | h <;> rw [h] <;> simp, hX⟩
    have htail : expS y = powT 101 [sgb] (decDigits y.natAbs) := by unfold expS powT; rw [hsg]; rfl
    have hval : (exF (decDigits y.natAbs) : Int) * sgZ [sgb] = y := by
     rw [ex_dec _ (by omega), ← hsg]
     unfold sgZ
     by_cases hneg : y < 0
     ·rw [if_pos hneg, if_pos rfl]; omega
     ·rw [if_neg hneg, if_neg (by decide)]; omega
    have hbt : ∀ c ∈ powT 101 [sgb] (decDigits y.natAbs), c ≠ 95 := fun c hc => by
     unfold powT at hc
     rcases List.mem_cons.1 hc with h | h
     ·rw [h]; decide
     ·rcases List.mem_append.1 h with h | h
      ·simp at h; rw [h]; rcases hsgc with h | h <;> rw [h] <;> decide
      ·exact dig95 (hX c h)
    have hft : ∀ q, nextN q 4 = 8 → foldS q (powT 101 [sgb] (decDigits y.natAbs)) = 10 := fun q hq => by
     unfold powT
     rw [foldS_cons, show clsN (101 : UInt8).toNat = 4 from by decide, hq, foldS_app]
     have h9 : foldS 8 [sgb] = 9 := by rcases hsgc with h | h <;> rw [h] <;> decide
     rw [h9]
     exact foldS_digs1 9 10 (by decide) (by decide) (by decide) (by decide) _ hXne hX
    rw [htail]
    by_cases h1 : 1 < S.length
    ·rw [if_pos h1]
     have hw : ∀ c ∈ S.take 1, isDig c := fun c hc => hdig c (List.mem_of_mem_take hc)
     have hf : ∀ c ∈ S.drop 1, isDig c := fun c hc => hdig c (List.mem_of_mem_drop hc)
     have hfne : S.drop 1 ≠ [] := by
      intro h2
      have := congrArg List.length h2
      rw [List.length_drop] at this
      simp at this
      omega
     refine ⟨?_, S, x, 0, ⟨S.take 1, S.drop 1, true, S.take 1 ++ 46 :: S.drop 1, ⟨rfl, hw, hf, by simp⟩, by rw [List.take_append_drop]; exact hne, (List.take_append_drop 1 S).symm, .inr ⟨101, [sgb], decDigits y.natAbs, hpow, hXne, bars_digs _ fun c hc => ?_, ?_⟩⟩, hdd, by rw [hv, Nat.pow_zero, Nat.mul_one], by simp⟩
     ·show endB (foldS 1 _) = true
      have h3 : foldS 1 (S.take 1) = 3 := by
       rw [hS, List.take_succ_cons, List.take_zero, foldS_cons, dig_class2 (hdig c0 (by rw [hS]; simp)) hc0]; rfl
      rw [foldS_app, foldS_app, h3, foldS_cons, show nextN 3 (clsN (46 : UInt8).toNat) = 12 from by decide, foldS_digs1 12 6 (by decide) (by decide) (by decide) (by decide) _ hfne hf, hft 6 (by decide)]
      rfl
     ·rcases List.mem_append.1 hc with h2 | h2
      ·rcases List.mem_append.1 h2 with h3 | h3
       ·exact dig95 (hw c h3)
       ·rcases List.mem_cons.1 h3 with h4 | h4
        ·rw [h4]; decide
        ·exact dig95 (hf c h4)
      ·exact hbt c h2
     ·rw [hval, List.length_drop]; omega
    ·rw [if_neg h1]
     refine ⟨?_, S, x, 0, ⟨S, [], false, S, mant_w hdig, by simp [hne], by simp, .inr ⟨101, [sgb], decDigits y.natAbs, hpow, hXne, bars_digs _ fun c hc => ?_, ?_⟩⟩, hdd, by rw [hv, Nat.pow_zero, Nat.mul_one], by simp⟩
     ·show endB (foldS 1 _) = true
      rw [foldS_app, hfold, hft 3 (by decide)]
      rfl
     ·rcases List.mem_append.1 hc with h2 | h2
      ·exact dig95 (hdig c h2)
      ·exact hbt c h2
     ·rw [hval, List.length_nil]; omega
end Go.Proofs.YtckaoeloofbklaaGreatDoor
namespace Go.Proofs.YtckaoeloofbklaaGreatDoor
open Go Go.RowKit Go.Sort Go.Lib
theorem placed_len2 (d : List UInt8) (p : Int) (h1 : d.length ≤ 20) (h2 : (p - 1).natAbs < 1000) : (placedB d p).length ≤ 100 := by
 have h4 : (decDigits (p - 1).natAbs).length ≤ 3 := by
  rw [decDigits_length]
  exact nd_le 2 _ (by omega)
 unfold placedB expS
 split
 ·rw [List.length_append, List.length_replicate]; omega
 ·split
  ·rw [List.length_append, List.length_cons, List.length_take, List.length_drop]; omega
  ·split
   ·rw [List.length_cons, List.length_cons, List.length_append, List.length_replicate]; omega
   ·rw [List.length_append, List.length_cons, List.length_cons]
    split
    ·rw [List.length_append, List.length_cons, List.length_take, List.length_drop]; omega
    ·omega
theorem shown_form (a : Nat) (h1 : 0 < a) (h2 : a < 9218868437227405312) :
  decB (showA a) = true ∧ (showA a).length ≤ 100 ∧ ∃ D y, DecIs (showA a) D y ∧ (∀ c ∈ (dropZ D).drop 19, c = 48) ∧ Near (dX (dvl 10 D) y) (dQ y) a := by
 obtain ⟨b1, b2, b3⟩ := sh_bounds a h1 h2
 have hA := shown_near a h1 h2
 obtain ⟨g1, g2, g3, g4, g5⟩ := me_ok a h1 h2
 obtain ⟨k1, k2, k3, k4⟩ := short_bounds (MN a) (EN a) g1 g2 g3 g4 g5
 have hlt : (shN a).1 < 10 ^ 19 := by
  have : (shN a).1 = (shortN (MN a) (EN a)).1 := rfl
  rw [this]
  omega
 have hsl := sig_len _ b1 b2
 unfold showA
 have hlen := placed_len2 (sig (shN a).1) ((nDigits (shN a).1 : Nat) + (shN a).2) hsl.2 b3
 generalize (shN a).1 = d at *
 generalize (shN a).2 = q at *
 obtain ⟨t, i, e1, e2⟩ := strip_ex d b1
 have ht0 : 1 ≤ t := by omega
 have hsig : sig d = decDigits t := by rw [e1, sig_tens t ht0, sig_odd t e2]
 have hnd : nDigits d = nDigits t + i := by rw [e1, nd_tens t ht0]
 have hp : ((nDigits d : Nat) : Int) + q = (nDigits t : Nat) + (q + i) := by rw [hnd]; push_cast; omega
 have h19 : nDigits t ≤ 19 := nd_le 18 _ (Nat.lt_of_le_of_lt (by rw [e1]; exact Nat.le_mul_of_pos_right _ (Nat.pow_pos (by decide))) hlt)
 rw [hp] at b3
 obtain ⟨f1, D, y, k, f2, f3, f4, f5⟩ := placed_form t (q + i) e2 h19 b3
 rw [← hp, ← hsig] at f1 f2
 refine ⟨f1, hlen, D, y, f2, f3, ?_⟩
 rw [f4]
 rw [e1] at hA
 have := near_up t i a q hA
 rw [f5] at this
 exact near_down t k a y this
theorem sg_of (x : Nat) : (if ngB x then [(45 : UInt8)] else []) = sgB (ngB x) := rfl
end Go.Proofs.YtckaoeloofbklaaGreatDoor
namespace Go.Proofs.YtckaoeloofbklaaGreatDoor
open Go Go.RowKit Go.Lib
def okC (c : UInt8) : Bool := isDgB c || c == 46 || c == 101 || c == 43 || c == 45
theorem dig_ok {c : UInt8} (h : isDig c) : isDgB c = true := by
 unfold isDgB
 exact decide_eq_true h
theorem dig_okC {c : UInt8} (h : isDig c) : okC c = true := by unfold okC; rw [dig_ok h]; rfl
theorem exp_okC (x : Int) : ∀ c ∈ expS x, okC c = true := by
 unfold expS
 intro c hc
 rcases List.mem_cons.1 hc with rfl | hc
 ·decide
 ·rcases List.mem_cons.1 hc with rfl | hc
  ·split <;> decide
  ·exact dig_okC (dec_digs _ c hc)
theorem placed_okC (d : List UInt8) (p : Int) (hd : ∀ c ∈ d, isDig c) : ∀ c ∈ placedB d p, okC c = true := by
 have hz : ∀ (k : Nat), ∀ c ∈ List.replicate k (48 : UInt8), okC c = true := fun k c hc => by rw [z48 k c hc]; decide
 unfold placedB
 intro c hc
 split at hc
 ·rcases List.mem_append.1 hc with h | h
  ·exact dig_okC (hd c h)
  ·exact hz _ c h
 ·split at hc
  ·rcases List.mem_append.1 hc with h | h
   ·exact dig_okC (hd c (List.mem_of_mem_take h))
   ·rcases List.mem_cons.1 h with rfl | h
    ·decide
    ·exact dig_okC (hd c (List.mem_of_mem_drop h))
  ·split at hc
   ·rcases List.mem_cons.1 hc with rfl | hc
    ·decide
    ·rcases List.mem_cons.1 hc with rfl | hc
     ·decide
     ·rcases List.mem_append.1 hc with h | h
      ·exact hz _ c h
      ·exact dig_okC (hd c h)
   ·rcases List.mem_append.1 hc with h | h
    ·split at h
     ·rcases List.mem_append.1 h with h | h
      ·exact dig_okC (hd c (List.mem_of_mem_take h))
      ·rcases List.mem_cons.1 h with rfl | h
       ·decide
       ·exact dig_okC (hd c (List.mem_of_mem_drop h))
     ·exact dig_okC (hd c h)
    ·exact exp_okC _ c h
theorem showA_okC (a : Nat) (h1 : 0 < a) (h2 : a < 9218868437227405312) : ∀ c ∈ showA a, okC c = true := by
 obtain ⟨b1, b2, b3⟩ := sh_bounds a h1 h2
 unfold showA
 obtain ⟨t, i, e1, e2⟩ := strip_ex (shN a).1 b1
 have ht0 : 1 ≤ t := by omega
 have hsig : sig (shN a).1 = decDigits t := by rw [e1, sig_tens t ht0, sig_odd t e2]
 rw [hsig]
 exact placed_okC _ _ (dec_digs t)
theorem ba_app (a b : List UInt8) : (⟨a.toArray⟩ : ByteArray) ++ ⟨b.toArray⟩ = ⟨(a ++ b).toArray⟩ := by
 apply ByteArray.ext
 simp [ByteArray.data_append]
def infU (u : Nat) : Bool := decide (9218868437227405312 ≤ ru u)
theorem showB_fin (u : Nat) (h : infU u = false) : showB u = sgB (ngB u) ++ (if ru u = 0 then [48] else showA (ru u)) := by
 have h := of_decide_eq_false h
 rw [show_sgn u (by omega), sg_of, if_neg (by omega)]
theorem showB_okC (u : Nat) (h : infU u = false) : ∀ c ∈ showB u, okC c = true := by
 rw [showB_fin u h]
 have h := of_decide_eq_false h
 intro c hc
 rcases List.mem_append.1 hc with hc | hc
 ·cases hn : ngB u <;> rw [hn] at hc <;> simp [sgB] at hc
  rw [hc]; decide
 ·split at hc
  ·simp at hc; rw [hc]; decide
  ·exact showA_okC _ (by omega) (by omega) c hc
theorem showB_len (u : Nat) : (showB u).length ≤ 101 := by
 by_cases h1 : 9218868437227405312 < ru u
 ·rw [show_nan_eq u h1]; decide
 ·by_cases h2 : ru u = 9218868437227405312
  ·rw [show_sgn u (by omega), sg_of, if_pos h2]
   cases ngB u <;> decide
  ·rw [showB_fin u (decide_eq_false (by omega))]
   rw [List.length_append]
   have : (sgB (ngB u)).length ≤ 1 := by cases ngB u <;> decide
   split
   ·simp; omega
   ·have := (shown_form (ru u) (by omega) (by omega)).2.1
    omega
def fltN (u : Nat) : List UInt8 := if infU u then [110, 117, 108, 108] else if (showB u).any (fun c => c == 46 || c == 101) then showB u else showB u ++ [46, 48]
theorem indexAny_any (m : List UInt8) : ∀ l : List UInt8, Lib.containsAny l m = l.any (m.contains ·)
 | [] => rfl
 | b :: l => by
  have ih := indexAny_any m l
  unfold Lib.containsAny at ih ⊢
  rw [List.any_cons, ← ih, Lib.indexAny]
  have := Lib.indexAny_ge m l
  cases hb : m.contains b with
  | true => simp
  | false =>
   simp only [Bool.false_or]
   by_cases hx : Lib.indexAny l m = -1
   ·simp [hx]
   ·have e : (Lib.indexAny l m == -1) = false := by simpa using hx
    simp [e]
    omega
theorem float_any (u : Nat) (w : World) (hg : Globs w) (hu : u < 18446744073709551616) :
  Calls Tryz.prog 46 #[.int .u64 u] w fun e w' => e = .returned (.string ⟨(fltN u).toArray⟩) ∧ Below w.heap.size w w' := by
 have hlen := showB_len u
 have h128 : ∀ (j : Nat) b, (showB u)[j]? = some b → b.toNat < 128 := by
  intro j b hj
  have hm := List.mem_of_getElem? hj
  cases hi : infU u with
  | false =>
   have := showB_okC u hi b hm
   have key : ∀ c : Fin 256, okC (UInt8.ofNat c.val) = true → c.val < 128 := by decide +kernel
   exact key ⟨b.toNat, b.toNat_lt⟩ (by simpa only [UInt8.ofNat_toNat] using this)
  | true =>
   have hi := of_decide_eq_true hi
   by_cases h1 : 9218868437227405312 < ru u
   ·rw [show_nan_eq u h1] at hm
    clear hj; revert b; decide
   ·rw [show_sgn u (by omega), sg_of, if_pos (by omega)] at hm
    clear hj
    revert hm
    cases ngB u <;> revert b <;> decide
 have HS := Lib.hid (show_any u w hg hu)
 have hca : ∀ (m : ByteArray) (W : World), m.size < 100 → (∀ (j : Nat) b, m.data.toList[j]? = some b → b.toNat < 128) → Calls Tryz.prog 70 #[.string ⟨(showB u).toArray⟩, .string m] W fun e w' => e = .returned (.bool ((showB u).any (m.data.toList.contains ·))) ∧ Below W.heap.size W w' := fun m W h1 h2 => by
  have := Tryz.strings_ContainsAny_laid ⟨(showB u).toArray⟩ m W (by show (showB u).length < _; omega) (by omega) h128 h2
  rw [indexAny_any] at this
  exact this
 have h3 : (showB u).any (((⟨#[78, 121]⟩ : ByteArray) : ByteArray).data.toList.contains ·) = infU u := by
  cases hi : infU u with
  | false =>
   rw [List.any_eq_false]
   intro c hc
   have := showB_okC u hi c hc
   have key : ∀ c : Fin 256, okC (UInt8.ofNat c.val) = true → ((⟨#[78, 121]⟩ : ByteArray) : ByteArray).data.toList.contains (UInt8.ofNat c.val) = false := by decide +kernel
   have := key ⟨c.toNat, c.toNat_lt⟩ (by simpa only [UInt8.ofNat_toNat] using this)
   simp only [UInt8.ofNat_toNat] at this
   rw [this]; decide
  | true =>
   have hi := of_decide_eq_true hi
   by_cases h1 : 9218868437227405312 < ru u
   ·rw [show_nan_eq u h1]; decide
   ·rw [show_sgn u (by omega), sg_of, if_pos (by omega)]
    cases ngB u <;> decide
 have h4 : (showB u).any (((⟨#[46, 101]⟩ : ByteArray) : ByteArray).data.toList.contains ·) = (showB u).any (fun c => c == 46 || c == 101) := by
  congr 1
  funext c
  have key : ∀ c : Fin 256, ((⟨#[46, 101]⟩ : ByteArray) : ByteArray).data.toList.contains (UInt8.ofNat c.val) = (UInt8.ofNat c.val == 46 || UInt8.ofNat c.val == 101) := by decide +kernel
  have := key ⟨c.toNat, c.toNat_lt⟩
  simpa only [UInt8.ofNat_toNat] using this
 have HN := Lib.hid (fun W => hca (⟨#[78, 121]⟩ : ByteArray) W (by decide) (by intro j b hj; have := List.mem_of_getElem? hj; clear hj; revert b; decide))
 have HE := Lib.hid (fun W => hca (⟨#[46, 101]⟩ : ByteArray) W (by decide) (by intro j b hj; have := List.mem_of_getElem? hj; clear hj; revert b; decide))
 rw [h3] at HN
 rw [h4] at HE
 clear hca h3 h4 h128
 have HL := Lib.hid (rfl : fltN u = fltN u)
 generalize hL : fltN u = L at HL ⊢
 replace HL := Lib.hid hL
 clear hL
 go_enter Tryz.func46, Tryz.ntmps46
 go_wp2_with fail
 refine HS.out.mono ?_
 rintro e w1 ⟨rfl, hb1⟩
 have HN1 := Lib.hid (HN.out w1)
 have HB1 := Lib.hid hb1
 clear hb1
 go_wp2_with fail
 refine HN1.out.mono ?_
 rintro e w2 ⟨rfl, hb2⟩
 have HE2 := Lib.hid (HE.out w2)
 have HB2 := Lib.hid (HB1.out.trans (hb2.mono HB1.out.size))
 clear hb2
 cases hi : infU u with
 | true =>
  go_wp2_with fail
  go_ret
  exact ⟨by rw [← HL.out]; unfold fltN; rw [if_pos hi]; rfl, HB2.out⟩
 | false =>
  go_wp2_with fail
  refine HE2.out.mono ?_
  rintro e w3 ⟨rfl, hb3⟩
  have HB3 := Lib.hid (HB2.out.trans (hb3.mono HB2.out.size))
  clear hb3
  cases ha : (showB u).any (fun c => c == 46 || c == 101) with
  | true =>
   go_wp2_with fail
   go_ret
   exact ⟨by rw [← HL.out]; unfold fltN; rw [if_neg (by rw [hi]; decide), if_pos ha]; rfl, HB3.out⟩
  | false =>
   go_wp2_with fail
   go_ret
   exact ⟨by rw [← HL.out]; unfold fltN; rw [if_neg (by rw [hi]; decide), if_neg (by rw [ha]; decide), ← ba_app]; rfl, HB3.out⟩
end Go.Proofs.YtckaoeloofbklaaGreatDoor
namespace Go.Proofs.YtckaoeloofbklaaGreatDoor
section
variable (intL fltL : Int → List UInt8)
mutual
def showJ : JV → List UInt8
 | .mk k b n u s ks vs =>
  if k = 1 then [110, 117, 108, 108]
  else if k = 2 then (if b then [116, 114, 117, 101] else [102, 97, 108, 115, 101])
  else if k = 3 then intL n
  else if k = 4 then fltL u
  else if k = 5 then quoL s.data.toList
  else if k = 7 then 123 :: (showT true ks vs).drop 1 ++ [125]
  else 91 :: (showT false ks vs).drop 1 ++ [93]
def showT : Bool → List ByteArray → List JV → List UInt8
 | _, _, [] => []
 | r, ks, v :: vs => 44 :: ((if r then quoL (ks.headD ⟨#[]⟩).data.toList ++ [58] else []) ++ showJ v) ++ showT r ks.tail vs
end
variable (inf : Int → Bool)
mutual
def normJ : JV → JV
 | .mk k b n u s ks vs => if k = 4 ∧ inf u = true then jNull else .mk k b n u ⟨(decB8 s.data.toList).toArray⟩ (ks.map fun k => ⟨(decB8 k.data.toList).toArray⟩) (normL vs)
def normL : List JV → List JV
 | [] => []
 | v :: l => normJ v :: normL l
end
mutual
def dupJ : JV → Bool
 | .mk _ _ _ _ _ ks vs => !decide (ks.map fun k => (⟨(decB8 k.data.toList).toArray⟩ : ByteArray)).Nodup || dupL vs
def dupL : List JV → Bool
 | [] => false
 | v :: l => dupJ v || dupL l
end
end
def markC (c : UInt8) : Bool := c == 91 || c == 93 || c == 123 || c == 125 || c == 44 || c == 58
end Go.Proofs.YtckaoeloofbklaaGreatDoor
namespace Go.Proofs.YtckaoeloofbklaaGreatDoor
open Go Go.RowKit Go.Lib
theorem ItAt.get {ok : Nat → Prop} {w : World} {q : Nat} : ∀ {vs : List JV} {off : Nat} {i : Nat} {x : JV}, ItAt ok w q off vs → vs[i]? = some x → ∃ V, Cells7 w q (off + 7 * i) V ∧ JAt ok w x V
 | [], _, _, _, _, h => by simp at h
 | v :: vs, off, 0, x, h, hx => by
  rw [ItAt] at h
  simp at hx
  subst hx
  simpa using h.1
 | v :: vs, off, i + 1, x, h, hx => by
  rw [ItAt] at h
  have := ItAt.get h.2 (i := i) (x := x) (by simpa using hx)
  rwa [show off + 7 * (i + 1) = off + 7 + 7 * i by omega]
section
variable (intL fltL : Int → List UInt8)
def showK (r : Bool) (ks : List ByteArray) (v : JV) : List UInt8 := (if r then quoL (ks.headD ⟨#[]⟩).data.toList ++ [58] else []) ++ showJ intL fltL v
theorem showT_cons (r : Bool) (ks : List ByteArray) (v : JV) (vs : List JV) : showT intL fltL r ks (v :: vs) = 44 :: showK intL fltL r ks v ++ showT intL fltL r ks.tail vs := by rw [showT]; rfl
theorem showT_snoc (r : Bool) (v : JV) : ∀ (vs : List JV) (ks : List ByteArray), showT intL fltL r ks (vs ++ [v]) = showT intL fltL r ks vs ++ 44 :: showK intL fltL r (ks.drop vs.length) v
 | [], ks => by rw [List.nil_append, showT_cons, showT, showT]; simp
 | u :: vs, ks => by
  rw [List.cons_append, showT_cons, showT_cons, showT_snoc r v vs ks.tail]
  simp [List.drop_tail]
theorem showT_step (r : Bool) (ks : List ByteArray) (vs : List JV) (i : Nat) (x : JV) (hx : vs[i]? = some x) :
  (showT intL fltL r ks (vs.take (i + 1))).drop 1 = (showT intL fltL r ks (vs.take i)).drop 1 ++ ((if i = 0 then [] else [44]) ++ showK intL fltL r (ks.drop i) x) := by
 obtain ⟨hi, hx'⟩ := List.getElem?_eq_some_iff.1 hx
 have ht : vs.take (i + 1) = vs.take i ++ [x] := by rw [List.take_add_one, hx]; rfl
 have hl : (vs.take i).length = i := by rw [List.length_take]; omega
 rw [ht, showT_snoc, hl]
 cases i with
 | zero => simp [showT]
 | succ i =>
  obtain ⟨u, us, hu⟩ : ∃ u us, vs.take (i + 1) = u :: us := by
   cases h : vs.take (i + 1) with
   | nil => rw [h] at hl; simp at hl
   | cons u us => exact ⟨u, us, rfl⟩
  rw [hu, showT_cons]
  simp
end
end Go.Proofs.YtckaoeloofbklaaGreatDoor
