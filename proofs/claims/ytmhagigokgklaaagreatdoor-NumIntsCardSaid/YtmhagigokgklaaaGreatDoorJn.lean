/- Joined texts: Ql Qm Sa. Each begins with its own remark. -/
import Derived.Test.YtmhagigokgklaaaGreatDoorJm
import Derived.Deep.LoopGhost
import Derived.Test.YtmhagigokgklaaaGreatDoorProg
import Derived.Below

/- Digits of a base, with bars and without (plain). -/
namespace Go.Proofs.YtmhagigokgklaaaGreatDoor
open Go Go.RowKit Go.Lib

/-- does a text begin and end without a bar, and has it no two bars in a row? p: a bar stands ahead, or nothing -/
def altB : Bool → List UInt8 → Bool
  | p, [] => !p
  | p, c :: l => if c = 95 then !p && altB true l else altB false l

theorem suf_cons (c : UInt8) (t : List UInt8) (h : t ≠ []) : hasSuffix (c :: t) [95] = hasSuffix t [95] := by
  unfold hasSuffix
  rw [Bool.eq_iff_iff, List.isSuffixOf_iff_suffix, List.isSuffixOf_iff_suffix, List.suffix_cons_iff]
  constructor
  · rintro (h1 | h1)
    · simp at h1; exact absurd h1.2.symm (by simpa using h)
    · exact h1
  · exact .inr
theorem contains_cons (c : UInt8) (t sub : List UInt8) : contains (c :: t) sub = (sub.isPrefixOf (c :: t) || contains t sub) := by
  unfold contains
  have hge := index_ge t sub
  conv => lhs; unfold index
  by_cases h0 : sub.isPrefixOf (c :: t) = true
  · rw [if_pos h0, h0, Bool.true_or]; rfl
  · rw [if_neg h0, Bool.eq_false_iff.2 h0, Bool.false_or]
    by_cases h1 : index t sub = -1
    · rw [h1]; rfl
    · rw [if_neg (by simpa using h1)]
      exact decide_eq_decide.2 (by omega)

theorem alt_bar : ∀ (l : List UInt8) (p : Bool), l ≠ [] → altB p l = !((p && hasPrefix l [95]) || hasSuffix l [95] || contains l [95, 95])
  | [], _, h => absurd rfl h
  | [c], p, _ => by
    unfold altB
    by_cases hc : c = 95
    · subst hc; cases p <;> decide
    · rw [if_neg hc]
      have h1 : hasPrefix [c] [95] = false := by
        show ([95] : List UInt8).isPrefixOf [c] = false
        simp [List.isPrefixOf, Ne.symm hc]
      have h2 : hasSuffix [c] [95] = false := by
        unfold hasSuffix
        rw [Bool.eq_false_iff]
        intro h
        rw [List.isSuffixOf_iff_suffix, List.suffix_cons_iff] at h
        rcases h with h | h
        · simp at h; exact hc h.symm
        · simp at h
      have h3 : contains [c] [95, 95] = false := by
        rw [contains_cons]
        simp [List.isPrefixOf, contains, index]
      rw [h1, h2, h3]
      cases p <;> rfl
  | c :: d :: t, p, _ => by
    rw [altB, suf_cons c (d :: t) (by simp), contains_cons]
    by_cases hc : c = 95
    · subst hc
      rw [if_pos rfl, alt_bar (d :: t) true (by simp)]
      have h1 : hasPrefix ((95 : UInt8) :: d :: t) [95] = true := by
        show ([95] : List UInt8).isPrefixOf (95 :: d :: t) = true
        simp [List.isPrefixOf]
      have h2 : ([95, 95] : List UInt8).isPrefixOf (95 :: d :: t) = hasPrefix (d :: t) [95] := by
        show _ = ([95] : List UInt8).isPrefixOf (d :: t)
        simp [List.isPrefixOf]
      rw [h1, h2]
      cases p <;> cases hasPrefix (d :: t) [95] <;> cases hasSuffix (d :: t) [95] <;> cases contains (d :: t) [95, 95] <;> rfl
    · rw [if_neg hc, alt_bar (d :: t) false (by simp)]
      have h1 : hasPrefix (c :: d :: t) [95] = false := by
        show ([95] : List UInt8).isPrefixOf (c :: d :: t) = false
        simp [List.isPrefixOf, Ne.symm hc]
      have h2 : ([95, 95] : List UInt8).isPrefixOf (c :: d :: t) = false := by
        simp [List.isPrefixOf, Ne.symm hc]
      rw [h1, h2]
      cases p <;> cases hasPrefix (d :: t) [95] <;> cases hasSuffix (d :: t) [95] <;> cases contains (d :: t) [95, 95] <;> rfl
theorem bar_alt (l : List UInt8) (h : l ≠ []) : barOK l = altB true l := by
  rw [alt_bar l true h]; unfold barOK; rw [Bool.true_and]

/-- a digit -/
def dc (k : Nat) : UInt8 := if k < 10 then UInt8.ofNat (48 + k) else UInt8.ofNat (87 + k)
theorem dc_all : ∀ k : Fin 16, hexI (dc k.val).toNat = (k.val : Int) ∧ dc k.val ≠ 95 := by decide +kernel
theorem dc_hex (k : Nat) (h : k < 16) : hexI (dc k).toNat = (k : Int) := (dc_all ⟨k, h⟩).1
theorem dc_bar (k : Nat) (h : k < 16) : dc k ≠ 95 := (dc_all ⟨k, h⟩).2

/-- the digits of a number to a base -/
def dB (B n : Nat) : List UInt8 := if _h : n < B ∨ B < 2 then [dc n] else dB B (n / B) ++ [dc (n % B)]
termination_by n
decreasing_by exact Nat.div_lt_self (by omega) (by omega)
theorem dB_lt {B n : Nat} (h : n < B) : dB B n = [dc n] := by rw [dB, dif_pos (.inl h)]
theorem dB_ge {B n : Nat} (h : B ≤ n) (h2 : 2 ≤ B) : dB B n = dB B (n / B) ++ [dc (n % B)] := by rw [dB, dif_neg (by omega)]
theorem dB_ne (B n : Nat) : dB B n ≠ [] := by
  rw [dB]; split <;> simp
theorem dB_mem (B : Nat) (hB : 2 ≤ B) (n : Nat) : ∀ x ∈ dB B n, ∃ k, k < B ∧ x = dc k := by
  induction n using Nat.strongRecOn with
  | _ n ih =>
    intro x hx
    by_cases h : n < B
    · rw [dB_lt h, List.mem_singleton] at hx; exact ⟨n, h, hx⟩
    · rw [dB_ge (by omega) hB] at hx
      rcases List.mem_append.1 hx with h1 | h1
      · exact ih (n / B) (Nat.div_lt_self (by omega) hB) x h1
      · rw [List.mem_singleton] at h1; exact ⟨n % B, Nat.mod_lt _ (by omega), h1⟩
theorem dB_len (B : Nat) (hB : 2 ≤ B) : ∀ (j n : Nat), n < 2 ^ (j + 1) → (dB B n).length ≤ j + 1
  | 0, n, h => by rw [dB_lt (by omega)]; simp
  | j + 1, n, h => by
    by_cases h1 : n < B
    · rw [dB_lt h1]; simp
    · rw [dB_ge (by omega) hB, List.length_append]
      have : n / B < 2 ^ (j + 1) := by
        refine Nat.lt_of_le_of_lt (Nat.div_le_div_left hB (by decide)) ?_
        rw [Nat.pow_succ] at h; omega
      have := dB_len B hB j (n / B) this
      rw [List.length_singleton]; omega
theorem dB_val (B : Nat) (h2 : 2 ≤ B) (h16 : B ≤ 16) (n : Nat) : bval B (dB B n) = n := by
  induction n using Nat.strongRecOn with
  | _ n ih =>
    by_cases h : n < B
    · rw [dB_lt h]
      unfold bval
      rw [List.foldl_cons, List.foldl_nil, dc_hex n (by omega)]; simp
    · rw [dB_ge (by omega) h2, bval_snoc, ih (n / B) (Nat.div_lt_self (by omega) h2), dc_hex _ (Nat.lt_of_lt_of_le (Nat.mod_lt _ (by omega)) h16), Int.toNat_natCast, Nat.mul_comm]
      exact Nat.div_add_mod n B
theorem dB_ten (n : Nat) : dB 10 n = decDigits n := by
  induction n using Nat.strongRecOn with
  | _ n ih =>
    rw [decDigits]
    by_cases h : n < 10
    · rw [dB_lt h, dif_pos h]; unfold dc; rw [if_pos h]
    · rw [dB_ge (by omega) (by decide), dif_neg h, ih (n / 10) (by omega)]; unfold dc; rw [if_pos (by omega)]

/-- with bars between -/
def barsL : List UInt8 → List UInt8
  | [] => []
  | [d] => [d]
  | d :: e :: l => d :: 95 :: barsL (e :: l)
theorem barsL_cons (d : UInt8) (l : List UInt8) (h : l ≠ []) : barsL (d :: l) = d :: 95 :: barsL l := by
  cases l with
  | nil => exact absurd rfl h
  | cons e t => rfl
theorem barsL_ne : ∀ l : List UInt8, l ≠ [] → barsL l ≠ []
  | [], h => absurd rfl h
  | [_], _ => by simp [barsL]
  | _ :: _ :: _, _ => by simp [barsL]
theorem barsL_len : ∀ l : List UInt8, (barsL l).length ≤ 2 * l.length
  | [] => by simp [barsL]
  | [_] => by simp [barsL]
  | d :: e :: l => by have := barsL_len (e :: l); simp only [barsL, List.length_cons] at *; omega
theorem barsL_no : ∀ l : List UInt8, (∀ x ∈ l, x ≠ 95) → noBars (barsL l) = l
  | [], _ => rfl
  | [d], h => by have := h d (by simp); unfold noBars barsL; rw [List.filter_cons, if_pos (by simpa using this)]; rfl
  | d :: e :: l, h => by
    have h1 := h d (by simp)
    have h2 := barsL_no (e :: l) fun x hx => h x (by simp [hx])
    unfold noBars at h2 ⊢
    rw [barsL, List.filter_cons, if_pos (by simpa using h1), List.filter_cons, if_neg (by decide), h2]
theorem barsL_alt : ∀ l : List UInt8, l ≠ [] → (∀ x ∈ l, x ≠ 95) → altB true (barsL l) = true
  | [], h, _ => absurd rfl h
  | [d], _, h => by have := h d (by simp); unfold barsL altB; rw [if_neg this]; rfl
  | d :: e :: l, _, h => by
    have h1 := h d (by simp)
    have h2 := barsL_alt (e :: l) (by simp) fun x hx => h x (by simp [hx])
    rw [barsL, altB, if_neg h1, altB, if_pos rfl, h2]; rfl
theorem plain_alt : ∀ l : List UInt8, (∀ x ∈ l, x ≠ 95) → altB false l = true
  | [], _ => rfl
  | c :: l, h => by rw [altB, if_neg (h c (by simp))]; exact plain_alt l fun x hx => h x (by simp [hx])
theorem plain_alt1 (l : List UInt8) (h0 : l ≠ []) (h : ∀ x ∈ l, x ≠ 95) : altB true l = true := by
  cases l with
  | nil => exact absurd rfl h0
  | cons c l => rw [altB, if_neg (h c (by simp))]; exact plain_alt l fun x hx => h x (by simp [hx])

/-- the digits gathered so far, and what is left -/
def BsRel (B N g k : Nat) (l : List UInt8) : Prop := (l = [] ∧ k = N ∧ g = N + 1) ∨ (l ≠ [] ∧ g = k ∧ dB B N = (if k = 0 then [] else dB B k) ++ l)
theorem bsrel_step (B N g k : Nat) (l : List UInt8) (hB : 2 ≤ B) (h : BsRel B N g k l) (hc : 0 < k ∨ l = []) : BsRel B N (k / B) (k / B) (dc (k % B) :: l) ∧ k / B < g := by
  have hd : dB B k = (if k / B = 0 then [] else dB B (k / B)) ++ [dc (k % B)] := by
    by_cases h : k < B
    · rw [dB_lt h, Nat.div_eq_of_lt h, if_pos rfl, Nat.mod_eq_of_lt h]; rfl
    · have : k / B ≠ 0 := by
        intro h0
        have := (Nat.div_eq_zero_iff (a := k) (b := B)).1 h0
        omega
      rw [dB_ge (by omega) hB, if_neg this]
  have hlt : 0 < k → k / B < k := fun hk => Nat.div_lt_self hk hB
  rcases h with ⟨rfl, rfl, rfl⟩ | ⟨h1, rfl, h2⟩
  · exact ⟨.inr ⟨by simp, rfl, hd⟩, by have := Nat.div_le_self k B; omega⟩
  · have hk : 0 < g := hc.resolve_right h1
    refine ⟨.inr ⟨by simp, rfl, ?_⟩, hlt hk⟩
    rw [h2, if_neg (by omega), hd, List.append_assoc]; rfl
theorem bsrel_end (B N g : Nat) (l : List UInt8) (h : BsRel B N g 0 l) (hl : l ≠ []) : l = dB B N := by
  rcases h with ⟨h1, _⟩ | ⟨_, _, h2⟩
  · exact absurd h1 hl
  · rw [if_pos rfl, List.nil_append] at h2; exact h2.symm
theorem bsrel_len (B N g k : Nat) (l : List UInt8) (h : BsRel B N g k l) : l.length ≤ (dB B N).length := by
  rcases h with ⟨h1, _⟩ | ⟨_, _, h2⟩
  · rw [h1]; exact Nat.zero_le _
  · rw [h2, List.length_append]; omega

/-- what Parse makes of the digits of a number: to the base 10 -/
theorem dec_noughts (n : Nat) : decB (barsL (decDigits n)) = true ∧ decB (decDigits n) = true := by
  by_cases h0 : n = 0
  · subst h0; exact ⟨by decide +kernel, by decide +kernel⟩
  obtain ⟨c0, l0, hS, hc0⟩ := dec_head n (by omega)
  have hd := dec_digs n
  rw [hS] at hd ⊢
  have h3 : ∀ (l : List UInt8), (∀ x ∈ l, isDig x) → foldS 3 (barsL l) = 3 := fun l => by
    induction l with
    | nil => intro _; rfl
    | cons d t ih =>
      intro h
      cases t with
      | nil => exact foldS_digs 3 (by decide) (by decide) [d] h
      | cons e t =>
        rw [barsL, foldS_cons, foldS_cons]
        have h1 : nextN 3 (clsN d.toNat) = 3 := by
          rcases dig_class (h d (by simp)) with g | g <;> rw [g] <;> decide
        have h2 := ih fun x hx => h x (by simp [hx])
        rw [h1, show nextN 3 (clsN (95 : UInt8).toNat) = 4 from by decide]
        have h4 : ∀ x ∈ e :: t, isDig x := fun x hx => h x (by simp [hx])
        cases t with
        | nil =>
          show foldS 4 [e] = 3
          rw [foldS_cons]
          rcases dig_class (h4 e (by simp)) with g | g <;> rw [g] <;> rfl
        | cons f t =>
          rw [barsL, foldS_cons] at h2 ⊢
          have h5 : nextN 4 (clsN e.toNat) = nextN 3 (clsN e.toNat) := by
            rcases dig_class (h4 e (by simp)) with g | g <;> rw [g] <;> decide
          rw [h5]; exact h2
  constructor
  · show endB (foldS 1 _) = true
    cases l0 with
    | nil =>
      show endB (foldS 1 [c0]) = true
      rw [foldS_cons, dig_class2 (hd c0 (by simp)) hc0]; rfl
    | cons e t =>
      have h1 := h3 (c0 :: e :: t) (fun x hx => hd x (by simpa using hx))
      rw [barsL, foldS_cons] at h1 ⊢
      rw [dig_class2 (hd c0 (by simp)) hc0] at h1 ⊢
      rw [show nextN 1 2 = nextN 3 2 from by decide, h1]; rfl
  · show endB (foldS 1 _) = true
    rw [foldS_cons, dig_class2 (hd c0 (by simp)) hc0]
    rw [show nextN 1 2 = 3 from by decide, foldS_digs 3 (by decide) (by decide) l0 fun x hx => hd x (by simp [hx])]; rfl

theorem dz_le (l : List UInt8) : (dropZ l).length ≤ l.length := (List.dropWhile_sublist _).length_le
theorem near_oi (n r : Nat) (h : Near (2 * (n * 2 ^ 1074)) 1 r) : r = oiN (n : Int) := by
  obtain ⟨s, h1, h2⟩ := oi_nat n
  rw [h1]; exact near_unique h h2

/-- what is handed back -/
def OiPost (n : Nat) (neg : Bool) (w : World) (e : Ending) (w' : World) : Prop := e = .returned (.tuple #[.int .u64 (oiN (n : Int) + sgW neg : Nat), .int .i64 0]) ∧ Below w.heap.size w w'

theorem parse_ten (n K : Nat) (w : World) (hG : Globs w) (hT : GlobT K w) (hn : n < 4294967296) (neg : Bool) (l : List UInt8) (hl : l = dB 10 n ∨ l = barsL (dB 10 n)) :
    Calls Tryz.prog 11 #[.string ⟨(sgB neg ++ l).toArray⟩] w (OiPost n neg w) := by
  have hlen := dB_len 10 (by decide) 31 n hn
  rw [dB_ten] at hl hlen
  have hb := barsL_len (decDigits n)
  have hd95 : ∀ x ∈ decDigits n, x ≠ 95 := fun x hx => dig95 (dec_digs n x hx)
  have h2 := dec_noughts n
  have hl2 : l.length ≤ 64 := by rcases hl with rfl | rfl <;> omega
  have hnb : noBars l = decDigits n := by
    rcases hl with rfl | rfl
    · exact bars_digs _ hd95
    · exact barsL_no _ hd95
  have hdec : decB l = true := by rcases hl with rfl | rfl; exact h2.2; exact h2.1
  have hne : decDigits n ≠ [] := by rw [← dB_ten]; exact dB_ne 10 n
  have h10 : (decDigits n).length ≤ 10 := by rw [decDigits_length]; exact nd_le 9 n (by omega)
  have := parse_small ⟨(sgB neg ++ l).toArray⟩ neg l (decDigits n) 0 K w hG hT rfl (by rw [ba_size, List.length_append]; cases neg <;> simp [sgB] <;> omega) hdec
    ⟨decDigits n, [], false, decDigits n, mant_w (dec_digs n), by simpa using hne, by simp, .inl ⟨hnb, rfl⟩⟩ (Nat.le_trans (dz_le _) (by omega))
  refine this.mono ?_
  rintro e w' ⟨r, hr, rfl, hb⟩
  rw [dvl_dec] at hr
  have e1 : dX n 0 = 2 * (n * 2 ^ 1074) := by unfold dX; rw [show (0 : Int).toNat = 0 from rfl, Nat.pow_zero, Nat.mul_one]
  have e2 : dQ 0 = 1 := rfl
  rw [e1, e2] at hr
  rw [near_oi n r hr]
  exact ⟨rfl, hb⟩

theorem parse_base (n K : Nat) (w : World) (hG : Globs w) (hT : GlobT K w) (hn : n < 4294967296) (neg : Bool) (x : UInt8) (c : Int) (B kk : Nat)
    (hx : bits .or .u8 ((x.toNat : Nat) : Int) 32 = c) (hcB : (c = 120 ∧ B = 16 ∧ kk = 4) ∨ (c = 111 ∧ B = 8 ∧ kk = 3) ∨ (c = 98 ∧ B = 2 ∧ kk = 1)) (l : List UInt8) (hl : l = dB B n ∨ l = barsL (dB B n)) :
    Calls Tryz.prog 11 #[.string ⟨(sgB neg ++ 48 :: x :: l).toArray⟩] w (OiPost n neg w) := by
  have hB : 2 ≤ B ∧ B ≤ 16 := by omega
  have hlen := dB_len B hB.1 31 n hn
  have hb := barsL_len (dB B n)
  have hd95 : ∀ x ∈ dB B n, x ≠ 95 := fun x hx => by
    obtain ⟨k, hk, rfl⟩ := dB_mem B hB.1 n x hx
    exact dc_bar k (by omega)
  have hl2 : l.length ≤ 64 := by rcases hl with rfl | rfl <;> omega
  have hne : l ≠ [] := by
    rcases hl with rfl | rfl
    · exact dB_ne B n
    · exact barsL_ne _ (dB_ne B n)
  have hnb : noBars l = dB B n := by
    rcases hl with rfl | rfl
    · exact bars_digs _ hd95
    · exact barsL_no _ hd95
  have hok : HexOK B l := by
    constructor
    · rw [bar_alt l hne]
      rcases hl with rfl | rfl
      · exact plain_alt1 _ (dB_ne B n) hd95
      · exact barsL_alt _ (dB_ne B n) hd95
    · rw [hnb]
      intro y hy
      obtain ⟨k, hk, rfl⟩ := dB_mem B hB.1 n y hy
      unfold okB
      rw [dc_hex k (by omega)]
      exact ⟨by omega, by omega⟩
  have := parse_hex ⟨(sgB neg ++ 48 :: x :: l).toArray⟩ neg x l c B kk K w hG hT rfl hne (by rw [ba_size, List.length_append, List.length_cons, List.length_cons]; cases neg <;> simp [sgB] <;> omega) hx hcB
  refine this.mono ?_
  rintro e w' (⟨_, r, hr, rfl, hb⟩ | ⟨h, _⟩)
  · rw [hnb, dB_val B hB.1 hB.2] at hr
    rw [near_oi n r hr]
    exact ⟨rfl, hb⟩
  · exact absurd hok h
end Go.Proofs.YtmhagigokgklaaaGreatDoor

/- NumBases, walked: it returns true (printed by gen_bases15.py). -/
namespace Go.Proofs.YtmhagigokgklaaaGreatDoor
open Go Go.RowKit Go.Sort Go.Lib

/-- the call's own tables: the bases in block B, the heads behind it -/
structure BsCells (B : Nat) (w : World) : Prop where
  le : B + 2 ≤ w.heap.size
  b0 : w.cell? ⟨B, 0, Option.none⟩ = some (.int .u32 10)
  b1 : w.cell? ⟨B, 1, Option.none⟩ = some (.int .u32 16)
  b2 : w.cell? ⟨B, 2, Option.none⟩ = some (.int .u32 8)
  b3 : w.cell? ⟨B, 3, Option.none⟩ = some (.int .u32 2)
  h0 : w.cell? ⟨B + 1, 0, Option.none⟩ = some (.string ⟨#[]⟩)
  h1 : w.cell? ⟨B + 1, 1, Option.none⟩ = some (.string ⟨#[48, 120]⟩)
  h2 : w.cell? ⟨B + 1, 2, Option.none⟩ = some (.string ⟨#[48, 111]⟩)
  h3 : w.cell? ⟨B + 1, 3, Option.none⟩ = some (.string ⟨#[48, 98]⟩)
theorem BsCells.go {B : Nat} {w w' : World} (h : BsCells B w) (hb : Below w.heap.size w w') : BsCells B w' :=
  have l0 : B < w.heap.size := Nat.lt_of_lt_of_le (by omega) h.le
  have l1 : B + 1 < w.heap.size := Nat.lt_of_lt_of_le (by omega) h.le
  ⟨Nat.le_trans h.le hb.size, (hb.cell (p := ⟨B, 0, Option.none⟩) l0).trans h.b0, (hb.cell (p := ⟨B, 1, Option.none⟩) l0).trans h.b1, (hb.cell (p := ⟨B, 2, Option.none⟩) l0).trans h.b2, (hb.cell (p := ⟨B, 3, Option.none⟩) l0).trans h.b3, (hb.cell (p := ⟨B + 1, 0, Option.none⟩) l1).trans h.h0, (hb.cell (p := ⟨B + 1, 1, Option.none⟩) l1).trans h.h1, (hb.cell (p := ⟨B + 1, 2, Option.none⟩) l1).trans h.h2, (hb.cell (p := ⟨B + 1, 3, Option.none⟩) l1).trans h.h3⟩
theorem BsCells.start (w : World) : BsCells w.heap.size ((w.alloc (.cells #[.int .u32 10, .int .u32 16, .int .u32 8, .int .u32 2] 37)).alloc (.cells #[.string ⟨#[]⟩, .string ⟨#[48, 120]⟩, .string ⟨#[48, 111]⟩, .string ⟨#[48, 98]⟩] 9)) := by
  have hb : Below (w.alloc (.cells #[.int .u32 10, .int .u32 16, .int .u32 8, .int .u32 2] 37)).heap.size (w.alloc (.cells #[.int .u32 10, .int .u32 16, .int .u32 8, .int .u32 2] 37)) ((w.alloc (.cells #[.int .u32 10, .int .u32 16, .int .u32 8, .int .u32 2] 37)).alloc (.cells #[.string ⟨#[]⟩, .string ⟨#[48, 120]⟩, .string ⟨#[48, 111]⟩, .string ⟨#[48, 98]⟩] 9)) := (Below.refl _ _).alloc (Nat.le_refl _) _
  have hs : (w.alloc (.cells #[.int .u32 10, .int .u32 16, .int .u32 8, .int .u32 2] 37)).heap.size = w.heap.size + 1 := by simp
  have l0 : w.heap.size < (w.alloc (.cells #[.int .u32 10, .int .u32 16, .int .u32 8, .int .u32 2] 37)).heap.size := by omega
  refine ⟨by simp, (hb.cell (p := ⟨w.heap.size, 0, Option.none⟩) l0).trans (World.cell?_alloc_new _ _ _ _), (hb.cell (p := ⟨w.heap.size, 1, Option.none⟩) l0).trans (World.cell?_alloc_new _ _ _ _), (hb.cell (p := ⟨w.heap.size, 2, Option.none⟩) l0).trans (World.cell?_alloc_new _ _ _ _), (hb.cell (p := ⟨w.heap.size, 3, Option.none⟩) l0).trans (World.cell?_alloc_new _ _ _ _), ?_, ?_, ?_, ?_⟩
  all_goals rw [← hs]; exact World.cell?_alloc_new _ _ _ _

set_option maxRecDepth 100000 in
theorem dg_slice (d : Nat) (h : d < 16) (W : World) : (Instr.slice 9 (.string ⟨#[48, 49, 50, 51, 52, 53, 54, 55, 56, 57, 97, 98, 99, 100, 101, 102]⟩) (some (.int .u32 (d : Int))) (some (.int .u32 ((d : Int) + 1))) Option.none).run Tryz.prog W = .ok (.string ⟨#[dc d]⟩) W := by
  have hd : d = 0 ∨ d = 1 ∨ d = 2 ∨ d = 3 ∨ d = 4 ∨ d = 5 ∨ d = 6 ∨ d = 7 ∨ d = 8 ∨ d = 9 ∨ d = 10 ∨ d = 11 ∨ d = 12 ∨ d = 13 ∨ d = 14 ∨ d = 15 := by omega
  rcases hd with rfl | rfl | rfl | rfl | rfl | rfl | rfl | rfl | rfl | rfl | rfl | rfl | rfl | rfl | rfl | rfl <;> rfl

theorem xor_add (x : Nat) (h : x < 2 ^ 63) : x ^^^ 2 ^ 63 = x + 2 ^ 63 := by
  refine Nat.eq_of_testBit_eq fun i => ?_
  rw [Nat.testBit_xor, Nat.testBit_two_pow, Nat.add_comm]
  rcases Nat.lt_trichotomy i 63 with g | g | g
  · rw [Nat.testBit_two_pow_add_gt g, decide_eq_false (show ¬ 63 = i by omega), Bool.xor_false]
  · subst g
    rw [Nat.testBit_two_pow_add_eq, decide_eq_true rfl, Bool.xor_true]
  · have h64 : 2 ^ 64 ≤ 2 ^ i := Nat.pow_le_pow_right (by decide) g
    rw [Nat.testBit_lt_two_pow (show x < 2 ^ i by omega), Nat.testBit_lt_two_pow (show 2 ^ 63 + x < 2 ^ i by omega), decide_eq_false (show ¬ 63 = i by omega)]; rfl
/-- a number with its sign turned -/
def flipN (x : Nat) : Nat := if x < 9223372036854775808 then x + 9223372036854775808 else x - 9223372036854775808
theorem flip_run (x : Nat) (hx : x < 18446744073709551616) : bits .xor .u64 (x : Int) 9223372036854775808 = ((flipN x : Nat) : Int) := by
  have h := bits_xor_u64_nat x 9223372036854775808 hx (by decide)
  rw [show ((9223372036854775808 : Nat) : Int) = 9223372036854775808 from rfl] at h
  rw [h]
  congr 1
  unfold flipN
  by_cases h1 : x < 9223372036854775808
  · rw [if_pos h1]
    have h2 : x ^^^ 2 ^ 63 = x + 2 ^ 63 := xor_add x (show x < 2 ^ 63 from h1)
    exact h2
  · rw [if_neg h1]
    obtain ⟨y, rfl⟩ : ∃ y, x = y + 2 ^ 63 := ⟨x - 2 ^ 63, by omega⟩
    have h2 : y ^^^ 2 ^ 63 = y + 2 ^ 63 := xor_add y (by omega)
    rw [← h2, Nat.xor_assoc, show (2 : Nat) ^ 63 ^^^ 9223372036854775808 = 0 from by decide, Nat.xor_zero, h2]
    omega
theorem flip_lt (x : Nat) (hx : x < 18446744073709551616) : flipN x < 18446744073709551616 := by unfold flipN; split <;> omega
theorem flip_ru (x : Nat) (hx : x < 18446744073709551616) : ru (flipN x) = ru x := by
  unfold flipN ru; split <;> omega
theorem flip_ng (x : Nat) (hx : x < 18446744073709551616) : ngB (flipN x) = !ngB x := by
  unfold flipN ngB
  by_cases h : x < 9223372036854775808
  · rw [if_pos h, decide_eq_true (show 9223372036854775808 ≤ x + 9223372036854775808 by omega), decide_eq_false (show ¬ 9223372036854775808 ≤ x by omega)]; rfl
  · rw [if_neg h, decide_eq_false (show ¬ 9223372036854775808 ≤ x - 9223372036854775808 by omega), decide_eq_true (show 9223372036854775808 ≤ x by omega)]; rfl
theorem show_len (x : Nat) : (showB x).length ≤ 101 := by
  by_cases h1 : 9218868437227405312 < ru x
  · rw [show_nan_eq x h1]; decide
  · rw [show_sgn x (by omega), sg_of, List.length_append]
    have : (sgB (ngB x)).length ≤ 1 := by cases ngB x <;> decide
    have h2 : (if ru x = 9218868437227405312 then infB else if ru x = 0 then [48] else showA (ru x)).length ≤ 100 := by
      split
      · decide
      · split
        · decide
        · exact (shown_form (ru x) (by omega) (by omega)).2.1
    omega
/-- what is shown of two numbers that differ by their sign -/
theorem flip_shown (x : Nat) (hx : x < 18446744073709551616) (h1 : ¬ 9218868437227405312 < ru x) : (ngB x = false ∧ showB (flipN x) = 45 :: showB x) ∨ (ngB x = true ∧ showB x = 45 :: showB (flipN x)) := by
  have e1 := show_sgn x (by omega)
  have e2 := show_sgn (flipN x) (by rw [flip_ru x hx]; omega)
  rw [flip_ru x hx, flip_ng x hx] at e2
  rw [sg_of] at e1
  generalize (if ru x = 9218868437227405312 then infB else if ru x = 0 then [48] else showA (ru x)) = T at *
  cases hn : ngB x
  · left
    rw [hn] at e1 e2
    exact ⟨rfl, by rw [e1, e2]; rfl⟩
  · right
    rw [hn] at e1 e2
    exact ⟨rfl, by rw [e1, e2]; rfl⟩
theorem cons45 (l : List UInt8) : (⟨#[45]⟩ : ByteArray) ++ ⟨l.toArray⟩ = ⟨(45 :: l).toArray⟩ := cons_str 45 l
theorem cons_ne (l m : List UInt8) (h : l.length < m.length) : ((⟨l.toArray⟩ : ByteArray).toList == (⟨m.toArray⟩ : ByteArray).toList) = false := by
  rw [ByteArray.toList_eq, ByteArray.toList_eq, beq_eq_false_iff_ne]
  intro he
  have : l = m := he
  rw [this] at h; omega

theorem cat2 (l m : List UInt8) : (⟨l.toArray⟩ : ByteArray) ++ ⟨m.toArray⟩ = ⟨(l ++ m).toArray⟩ := by
  apply ByteArray.ext
  rw [ByteArray.data_append]
  apply Array.toList_inj.1
  simp

set_option maxRecDepth 100000 in
set_option maxHeartbeats 16000000 in
theorem bases_walk (n a : Int) (K : Nat) (w : World) (hG : Globs w) (hT : GlobT K w) (hn : 0 ≤ n ∧ n ≤ 4294967295) (ha : 0 ≤ a ∧ a ≤ 18446744073709551615) :
    Calls Tryz.prog 9 #[.int .u32 n, .int .u64 a] w fun e w' => e = .returned (.bool true) ∧ Below w.heap.size w w' := by
  obtain ⟨N, rfl⟩ : ∃ N : Nat, n = N := ⟨n.toNat, by omega⟩
  obtain ⟨x, rfl⟩ : ∃ x : Nat, a = x := ⟨a.toNat, by omega⟩
  have hN : N < 4294967296 := by omega
  have hx : x < 18446744073709551616 := by omega
  clear hn ha
  have HW := Lib.hid (works_any K w hG hT)
  have HGS := Lib.hid hG
  have HTS := Lib.hid hT
  have HO : Hid (∀ W : World, Calls Tryz.prog 17 #[.int .i64 (N : Nat)] W fun e w' => e = .returned (.int .u64 (oiN (N : Int))) ∧ w' = W) := Lib.hid fun W => ofint_any N W
  have hoi : oiN (N : Int) ≤ INF := oi_lt N
  have hlenS : ∀ B, 2 ≤ B → (dB B N).length ≤ 32 := fun B hB => dB_len B hB 31 N hN
  have HLS := Lib.hid hlenS
  clear hlenS
  have HPB : Hid (∀ (neg : Bool) (W : World) (X : ByteArray) (l : List UInt8), Globs W → GlobT K W → (X = ⟨(sgB neg ++ l).toArray⟩) → (l = dB 10 N ∨ l = barsL (dB 10 N)) → Calls Tryz.prog 11 #[.string X] W fun e w' => e = .returned (.tuple #[.int .u64 (oiN (N : Int) + sgW neg : Nat), .int .i64 0]) ∧ Below W.heap.size W w') := Lib.hid (by
    rintro neg W X l h1 h2 rfl h4
    exact parse_ten N K W h1 h2 hN neg l h4)
  have HPX : Hid (∀ (neg : Bool) (W : World) (X : ByteArray) (l : List UInt8) (y : UInt8) (c : Int) (B kk : Nat), Globs W → GlobT K W → (X = ⟨(sgB neg ++ 48 :: y :: l).toArray⟩) → bits .or .u8 ((y.toNat : Nat) : Int) 32 = c → ((c = 120 ∧ B = 16 ∧ kk = 4) ∨ (c = 111 ∧ B = 8 ∧ kk = 3) ∨ (c = 98 ∧ B = 2 ∧ kk = 1)) → (l = dB B N ∨ l = barsL (dB B N)) → Calls Tryz.prog 11 #[.string X] W fun e w' => e = .returned (.tuple #[.int .u64 (oiN (N : Int) + sgW neg : Nat), .int .i64 0]) ∧ Below W.heap.size W w') := Lib.hid (by
    rintro neg W X l y c B kk h1 h2 rfl h3 h4 h5
    exact parse_base N K W h1 h2 hN neg y c B kk h3 h4 l h5)
  have HS1 : Hid (∀ W : World, Globs W → Calls Tryz.prog 13 #[.int .u64 (x : Nat)] W fun e w' => e = .returned (.string ⟨(showB x).toArray⟩) ∧ Below W.heap.size W w') := Lib.hid fun W h => show_any x W h hx
  have HS2 : Hid (∀ W : World, Globs W → Calls Tryz.prog 13 #[.int .u64 (flipN x : Nat)] W fun e w' => e = .returned (.string ⟨(showB (flipN x)).toArray⟩) ∧ Below W.heap.size W w') := Lib.hid fun W h => show_any (flipN x) W h (flip_lt x hx)
  have HFR := Lib.hid (flip_run x hx)
  have HNAN := Lib.hid (nan_text x)
  have HFS := Lib.hid (flip_shown x hx)
  have HFN : Hid (9218868437227405312 < ru x → showB (flipN x) = showB x) := Lib.hid fun h => by rw [show_nan_eq x h, show_nan_eq (flipN x) (by rw [flip_ru x hx]; exact h)]
  have HLX : Hid ((showB x).length ≤ 101 ∧ (showB (flipN x)).length ≤ 101) := Lib.hid ⟨show_len x, show_len (flipN x)⟩
  generalize flipN x = x2 at *
  obtain ⟨O, hO⟩ : ∃ O, oiN (N : Int) = O := ⟨_, rfl⟩
  rw [hO] at HO hoi HPB HPX
  have hO63 : O < 9223372036854775808 := by unfold INF at hoi; omega
  clear hO hoi hG hT
  have HX64 := Lib.hid hx
  clear hx
  go_enter Tryz.func9, Tryz.ntmps9
  go_wp2_with fail
  refine HW.out.mono ?_
  rintro e w1 ⟨rfl, hb1⟩
  have B1 := Lib.hid hb1
  clear hb1
  go_wp2_with fail
  refine (HO.out _).mono ?_
  rintro e w1 ⟨rfl, rfl⟩
  go_wp2_with fail
  go_loopg [9, 10, 11, 12, 13, 14, 15, 16, 17, 18, 19] 4 (fun g s9 _ _ _ _ _ _ _ _ _ _ wr => ∃ i : Nat, i + g = 4 ∧ s9 = .int .i64 i ∧ Below w.heap.size w wr ∧ BsCells w1.heap.size wr)
  case atStart =>
    exact ⟨0, rfl, rfl, (B1.out.alloc B1.out.size _).alloc (by have := B1.out.size; simp; omega) _, BsCells.start w1⟩
  case round =>
    obtain ⟨i, hi, rfl, hbw, hcs⟩ := hrel
    have HBW := Lib.hid hbw
    have HCS := Lib.hid hcs
    clear hbw hcs
    obtain ⟨wo, hwo⟩ : ∃ x, x = wr := ⟨_, rfl⟩
    subst hwo
    obtain ⟨go, hgo⟩ : ∃ x, x = gk := ⟨_, rfl⟩
    subst hgo
    have hcase : i = 0 ∨ i = 1 ∨ i = 2 ∨ i = 3 ∨ i = 4 := by omega
    rcases hcase with rfl | rfl | rfl | rfl | rfl
    · -- base 10
      have cb := HCS.out.b0
      have ch := HCS.out.h0
      have HGO : Hid (go = 4) := Lib.hid (by omega)
      clear hi
      go_wp2_with fail
      go_loopg [10, 11, 12, 13] (N + 1) (fun g s10 s11 s12 _ wi => ∃ (k : Nat) (l : List UInt8), BsRel 10 N g k l ∧ k < 4294967296 ∧ l.length ≤ 32 ∧ s10 = .string ⟨l.toArray⟩ ∧ s11 = .string ⟨(barsL l).toArray⟩ ∧ s12 = .int .u32 k ∧ wi = wo)
      case atStart => exact ⟨N, [], .inl ⟨rfl, rfl, rfl⟩, hN, by simp, rfl, rfl, rfl, rfl⟩
      case round =>
        obtain ⟨k, l, hr, hk, hl, rfl, rfl, rfl, rfl⟩ := hrel
        have HR := Lib.hid hr
        clear hr
        have hbl : (barsL l).length ≤ 64 := by have := barsL_len l; omega
        by_cases hc : 0 < k ∨ l = []
        · have hst := bsrel_step 10 N gk k l (by decide) HR.out hc
          obtain ⟨d, hd⟩ : ∃ d, k % 10 = d := ⟨_, rfl⟩
          obtain ⟨k', hk'⟩ : ∃ k', k / 10 = k' := ⟨_, rfl⟩
          have hdB : d < 10 := by omega
          have hd16 : d < 16 := by omega
          rw [hd, hk'] at hst
          have HST := Lib.hid hst
          have hkd1 : (k : Int) % 10 = (d : Int) := by omega
          have hkd1b : (k : Int).tmod 10 = (d : Int) := by rw [Int.tmod_eq_emod_of_nonneg (by omega)]; omega
          have hkd : (k : Int).tdiv 10 = (k' : Int) := by rw [Int.tdiv_eq_ediv_of_nonneg (by omega)]; omega
          have hkd2 : (k : Int) / 10 = (k' : Int) := by omega
          have hk'le : k' < 4294967296 := by omega
          have hext := fun W => dg_slice d hd16 W
          have HLEN : Hid ((dc d :: l).length ≤ 32) := Lib.hid (Nat.le_trans (bsrel_len _ _ _ _ _ HST.out.1) (HLS.out 10 (by decide)))
          obtain ⟨c, hcd⟩ : ∃ c, dc d = c := ⟨_, rfl⟩
          rw [hcd] at HST HLEN
          simp only [hcd] at hext
          have HCD := Lib.hid hcd
          have hcs := cons_str c l
          have hsz : (⟨l.toArray⟩ : ByteArray).size ≤ 32 := hl
          have hszb : (⟨(barsL l).toArray⟩ : ByteArray).size ≤ 64 := hbl
          clear hd hk' hst hcd
          by_cases hl0 : l = []
          · subst hl0
            have hcb : (⟨#[c]⟩ : ByteArray) ++ ⟨(barsL []).toArray⟩ = ⟨(barsL [c]).toArray⟩ := rfl
            clear hc
            rcases Nat.eq_zero_or_pos k with hk0 | hk0
            · obtain rfl : k' = 0 := by omega
              obtain rfl : d = 0 := by omega
              obtain rfl : c = 48 := HCD.out.symm
              subst hk0
              clear hkd1 hkd1b hkd hkd2 HCD
              go_wp2_with fail
              go_roundg 0
              case measure => exact HST.out.2
              case rel => exact ⟨0, [48], HST.out.1, hk'le, HLEN.out, rfl, rfl, rfl, rfl⟩
            · have hki : (0 : Int) < (k : Int) := by omega
              clear hk0
              go_wp2_with fail
              go_roundg k'
              case measure => exact HST.out.2
              case rel => exact ⟨k', [c], HST.out.1, hk'le, HLEN.out, rfl, rfl, rfl, rfl⟩
          · have hki : (0 : Int) < (k : Int) := by have := hc.resolve_right hl0; omega
            have hle : l.isEmpty = false := by cases l; exact absurd rfl hl0; rfl
            have hcb1 := cons_str 95 (barsL l)
            have hcb2 : (⟨#[c]⟩ : ByteArray) ++ ⟨(95 :: barsL l).toArray⟩ = ⟨(barsL (c :: l)).toArray⟩ := by rw [cons_str, barsL_cons c l hl0]
            have hszc : (⟨(95 :: barsL l).toArray⟩ : ByteArray).size ≤ 65 := by rw [ba_size, List.length_cons]; omega
            clear hc hl0
            go_wp2_with fail
            go_roundg k'
            case measure => exact HST.out.2
            case rel => exact ⟨k', c :: l, HST.out.1, hk'le, HLEN.out, rfl, rfl, rfl, rfl⟩
        · have hk0 : k = 0 := by omega
          have hl0 : l ≠ [] := fun h => hc (.inr h)
          subst hk0
          have hD := bsrel_end 10 N gk l HR.out hl0
          have hle : l.isEmpty = false := by cases l; exact absurd rfl hl0; rfl
          clear hc hl0 HR
          obtain ⟨T, hT⟩ : ∃ T : ByteArray, T = ⟨(barsL l).toArray⟩ := ⟨_, rfl⟩
          obtain ⟨S, hS⟩ : ∃ S : ByteArray, S = ⟨l.toArray⟩ := ⟨_, rfl⟩
          have HP1 : Hid (∀ W : World, Globs W → GlobT K W → Calls Tryz.prog 11 #[.string S] W fun e w' => e = .returned (.tuple #[.int .u64 O, .int .i64 0]) ∧ Below W.heap.size W w') := Lib.hid fun W h1 h2 => HPB.out false W S l h1 h2 hS (.inl hD)
          have HP2 : Hid (∀ W : World, Globs W → GlobT K W → Calls Tryz.prog 11 #[.string T] W fun e w' => e = .returned (.tuple #[.int .u64 O, .int .i64 0]) ∧ Below W.heap.size W w') := Lib.hid fun W h1 h2 => HPB.out false W T (barsL l) h1 h2 hT (.inr (by rw [hD]))
          obtain ⟨X3, hX3⟩ : ∃ X : ByteArray, X = ⟨(45 :: l).toArray⟩ := ⟨_, rfl⟩
          have hc1 : (⟨#[]⟩ : ByteArray) ++ S = S := by rw [hS]; exact cat2 [] l
          have hc2 : (⟨#[]⟩ : ByteArray) ++ T = T := by rw [hT]; exact cat2 [] _
          have hc3 : (⟨#[45]⟩ : ByteArray) ++ S = X3 := by rw [hS, hX3]; exact cat2 [45] l
          have hc45 : (⟨#[45]⟩ : ByteArray) ++ ⟨#[]⟩ = ⟨#[45]⟩ := rfl
          have HP3 : Hid (∀ W : World, Globs W → GlobT K W → Calls Tryz.prog 11 #[.string X3] W fun e w' => e = .returned (.tuple #[.int .u64 ((O : Int) + 9223372036854775808), .int .i64 0]) ∧ Below W.heap.size W w') := Lib.hid fun W h1 h2 => HPB.out true W X3 l h1 h2 hX3 (.inl hD)
          have hSs : S.size ≤ 32 := by rw [hS]; exact hl
          have hTs : T.size ≤ 64 := by rw [hT]; exact hbl
          have hSe : (S.toList == []) = false := by rw [hS, nil_list, decide_eq_false_iff_not]; rintro rfl; exact absurd hle (by decide)
          rw [← hS, ← hT]
          have HHS := Lib.hid hS
          have HHT := Lib.hid hT
          clear hD hle hS hT hl hbl hX3
          have ch2 := ch
          go_wp2_with fail
          refine (HP1.out _ (HGS.out.on HBW.out) (HTS.out.on HBW.out)).mono ?_
          rintro e w2 ⟨rfl, hb2⟩
          have B2 := Lib.hid (HBW.out.trans (hb2.mono HBW.out.size))
          have C2 := Lib.hid (HCS.out.go hb2)
          clear hb2
          have ch3 := C2.out.h0
          go_wp2_with fail
          refine (HP2.out _ (HGS.out.on B2.out) (HTS.out.on B2.out)).mono ?_
          rintro e w3 ⟨rfl, hb3⟩
          have B3 := Lib.hid (B2.out.trans (hb3.mono B2.out.size))
          have C3 := Lib.hid (C2.out.go hb3)
          clear hb3
          have ch4 := C3.out.h0
          go_wp2_with fail
          refine (HP3.out _ (HGS.out.on B3.out) (HTS.out.on B3.out)).mono ?_
          rintro e w4 ⟨rfl, hb4⟩
          have B4 := Lib.hid (B3.out.trans (hb4.mono B3.out.size))
          have C4 := Lib.hid (C3.out.go hb4)
          clear hb4
          go_wp2_with fail
          go_roundg 3
          case measure => have := HGO.out; omega
          case rel => exact ⟨1, rfl, by go_num, B4.out, C4.out⟩
    · -- base 16
      have cb := HCS.out.b1
      have ch := HCS.out.h1
      have HGO : Hid (go = 3) := Lib.hid (by omega)
      clear hi
      go_wp2_with fail
      go_loopg [10, 11, 12, 13] (N + 1) (fun g s10 s11 s12 _ wi => ∃ (k : Nat) (l : List UInt8), BsRel 16 N g k l ∧ k < 4294967296 ∧ l.length ≤ 32 ∧ s10 = .string ⟨l.toArray⟩ ∧ s11 = .string ⟨(barsL l).toArray⟩ ∧ s12 = .int .u32 k ∧ wi = wo)
      case atStart => exact ⟨N, [], .inl ⟨rfl, rfl, rfl⟩, hN, by simp, rfl, rfl, rfl, rfl⟩
      case round =>
        obtain ⟨k, l, hr, hk, hl, rfl, rfl, rfl, rfl⟩ := hrel
        have HR := Lib.hid hr
        clear hr
        have hbl : (barsL l).length ≤ 64 := by have := barsL_len l; omega
        by_cases hc : 0 < k ∨ l = []
        · have hst := bsrel_step 16 N gk k l (by decide) HR.out hc
          obtain ⟨d, hd⟩ : ∃ d, k % 16 = d := ⟨_, rfl⟩
          obtain ⟨k', hk'⟩ : ∃ k', k / 16 = k' := ⟨_, rfl⟩
          have hdB : d < 16 := by omega
          have hd16 : d < 16 := by omega
          rw [hd, hk'] at hst
          have HST := Lib.hid hst
          have hkd1 : (k : Int) % 16 = (d : Int) := by omega
          have hkd1b : (k : Int).tmod 16 = (d : Int) := by rw [Int.tmod_eq_emod_of_nonneg (by omega)]; omega
          have hkd : (k : Int).tdiv 16 = (k' : Int) := by rw [Int.tdiv_eq_ediv_of_nonneg (by omega)]; omega
          have hkd2 : (k : Int) / 16 = (k' : Int) := by omega
          have hk'le : k' < 4294967296 := by omega
          have hext := fun W => dg_slice d hd16 W
          have HLEN : Hid ((dc d :: l).length ≤ 32) := Lib.hid (Nat.le_trans (bsrel_len _ _ _ _ _ HST.out.1) (HLS.out 16 (by decide)))
          obtain ⟨c, hcd⟩ : ∃ c, dc d = c := ⟨_, rfl⟩
          rw [hcd] at HST HLEN
          simp only [hcd] at hext
          have HCD := Lib.hid hcd
          have hcs := cons_str c l
          have hsz : (⟨l.toArray⟩ : ByteArray).size ≤ 32 := hl
          have hszb : (⟨(barsL l).toArray⟩ : ByteArray).size ≤ 64 := hbl
          clear hd hk' hst hcd
          by_cases hl0 : l = []
          · subst hl0
            have hcb : (⟨#[c]⟩ : ByteArray) ++ ⟨(barsL []).toArray⟩ = ⟨(barsL [c]).toArray⟩ := rfl
            clear hc
            rcases Nat.eq_zero_or_pos k with hk0 | hk0
            · obtain rfl : k' = 0 := by omega
              obtain rfl : d = 0 := by omega
              obtain rfl : c = 48 := HCD.out.symm
              subst hk0
              clear hkd1 hkd1b hkd hkd2 HCD
              go_wp2_with fail
              go_roundg 0
              case measure => exact HST.out.2
              case rel => exact ⟨0, [48], HST.out.1, hk'le, HLEN.out, rfl, rfl, rfl, rfl⟩
            · have hki : (0 : Int) < (k : Int) := by omega
              clear hk0
              go_wp2_with fail
              go_roundg k'
              case measure => exact HST.out.2
              case rel => exact ⟨k', [c], HST.out.1, hk'le, HLEN.out, rfl, rfl, rfl, rfl⟩
          · have hki : (0 : Int) < (k : Int) := by have := hc.resolve_right hl0; omega
            have hle : l.isEmpty = false := by cases l; exact absurd rfl hl0; rfl
            have hcb1 := cons_str 95 (barsL l)
            have hcb2 : (⟨#[c]⟩ : ByteArray) ++ ⟨(95 :: barsL l).toArray⟩ = ⟨(barsL (c :: l)).toArray⟩ := by rw [cons_str, barsL_cons c l hl0]
            have hszc : (⟨(95 :: barsL l).toArray⟩ : ByteArray).size ≤ 65 := by rw [ba_size, List.length_cons]; omega
            clear hc hl0
            go_wp2_with fail
            go_roundg k'
            case measure => exact HST.out.2
            case rel => exact ⟨k', c :: l, HST.out.1, hk'le, HLEN.out, rfl, rfl, rfl, rfl⟩
        · have hk0 : k = 0 := by omega
          have hl0 : l ≠ [] := fun h => hc (.inr h)
          subst hk0
          have hD := bsrel_end 16 N gk l HR.out hl0
          have hle : l.isEmpty = false := by cases l; exact absurd rfl hl0; rfl
          clear hc hl0 HR
          obtain ⟨T, hT⟩ : ∃ T : ByteArray, T = ⟨(barsL l).toArray⟩ := ⟨_, rfl⟩
          obtain ⟨S, hS⟩ : ∃ S : ByteArray, S = ⟨l.toArray⟩ := ⟨_, rfl⟩
          obtain ⟨X1, hX1⟩ : ∃ X : ByteArray, X = ⟨(48 :: 120 :: l).toArray⟩ := ⟨_, rfl⟩
          obtain ⟨X2, hX2⟩ : ∃ X : ByteArray, X = ⟨(48 :: 120 :: barsL l).toArray⟩ := ⟨_, rfl⟩
          obtain ⟨X3, hX3⟩ : ∃ X : ByteArray, X = ⟨(45 :: 48 :: 120 :: l).toArray⟩ := ⟨_, rfl⟩
          have HP1 : Hid (∀ W : World, Globs W → GlobT K W → Calls Tryz.prog 11 #[.string X1] W fun e w' => e = .returned (.tuple #[.int .u64 O, .int .i64 0]) ∧ Below W.heap.size W w') := Lib.hid fun W h1 h2 => HPX.out false W X1 l 120 120 16 4 h1 h2 hX1 (by decide +kernel) (.inl ⟨rfl, rfl, rfl⟩) (.inl hD)
          have HP2 : Hid (∀ W : World, Globs W → GlobT K W → Calls Tryz.prog 11 #[.string X2] W fun e w' => e = .returned (.tuple #[.int .u64 O, .int .i64 0]) ∧ Below W.heap.size W w') := Lib.hid fun W h1 h2 => HPX.out false W X2 (barsL l) 120 120 16 4 h1 h2 hX2 (by decide +kernel) (.inl ⟨rfl, rfl, rfl⟩) (.inr (by rw [hD]))
          have hc1 : (⟨#[48, 120]⟩ : ByteArray) ++ S = X1 := by rw [hS, hX1]; exact cat2 [48, 120] l
          have hc2 : (⟨#[48, 120]⟩ : ByteArray) ++ T = X2 := by rw [hT, hX2]; exact cat2 [48, 120] _
          have hc3 : (⟨#[45, 48, 120]⟩ : ByteArray) ++ S = X3 := by rw [hS, hX3]; exact cat2 [45, 48, 120] l
          have hc45 : (⟨#[45]⟩ : ByteArray) ++ ⟨#[48, 120]⟩ = ⟨#[45, 48, 120]⟩ := rfl
          have HP3 : Hid (∀ W : World, Globs W → GlobT K W → Calls Tryz.prog 11 #[.string X3] W fun e w' => e = .returned (.tuple #[.int .u64 ((O : Int) + 9223372036854775808), .int .i64 0]) ∧ Below W.heap.size W w') := Lib.hid fun W h1 h2 => HPX.out true W X3 l 120 120 16 4 h1 h2 hX3 (by decide +kernel) (.inl ⟨rfl, rfl, rfl⟩) (.inl hD)
          have hSs : S.size ≤ 32 := by rw [hS]; exact hl
          have hTs : T.size ≤ 64 := by rw [hT]; exact hbl
          have hSe : (S.toList == []) = false := by rw [hS, nil_list, decide_eq_false_iff_not]; rintro rfl; exact absurd hle (by decide)
          rw [← hS, ← hT]
          have HHS := Lib.hid hS
          have HHT := Lib.hid hT
          clear hD hle hS hT hl hbl hX3 hX1 hX2
          have ch2 := ch
          go_wp2_with fail
          refine (HP1.out _ (HGS.out.on HBW.out) (HTS.out.on HBW.out)).mono ?_
          rintro e w2 ⟨rfl, hb2⟩
          have B2 := Lib.hid (HBW.out.trans (hb2.mono HBW.out.size))
          have C2 := Lib.hid (HCS.out.go hb2)
          clear hb2
          have ch3 := C2.out.h1
          go_wp2_with fail
          refine (HP2.out _ (HGS.out.on B2.out) (HTS.out.on B2.out)).mono ?_
          rintro e w3 ⟨rfl, hb3⟩
          have B3 := Lib.hid (B2.out.trans (hb3.mono B2.out.size))
          have C3 := Lib.hid (C2.out.go hb3)
          clear hb3
          have ch4 := C3.out.h1
          go_wp2_with fail
          refine (HP3.out _ (HGS.out.on B3.out) (HTS.out.on B3.out)).mono ?_
          rintro e w4 ⟨rfl, hb4⟩
          have B4 := Lib.hid (B3.out.trans (hb4.mono B3.out.size))
          have C4 := Lib.hid (C3.out.go hb4)
          clear hb4
          go_wp2_with fail
          go_roundg 2
          case measure => have := HGO.out; omega
          case rel => exact ⟨2, rfl, by go_num, B4.out, C4.out⟩
    · -- base 8
      have cb := HCS.out.b2
      have ch := HCS.out.h2
      have HGO : Hid (go = 2) := Lib.hid (by omega)
      clear hi
      go_wp2_with fail
      go_loopg [10, 11, 12, 13] (N + 1) (fun g s10 s11 s12 _ wi => ∃ (k : Nat) (l : List UInt8), BsRel 8 N g k l ∧ k < 4294967296 ∧ l.length ≤ 32 ∧ s10 = .string ⟨l.toArray⟩ ∧ s11 = .string ⟨(barsL l).toArray⟩ ∧ s12 = .int .u32 k ∧ wi = wo)
      case atStart => exact ⟨N, [], .inl ⟨rfl, rfl, rfl⟩, hN, by simp, rfl, rfl, rfl, rfl⟩
      case round =>
        obtain ⟨k, l, hr, hk, hl, rfl, rfl, rfl, rfl⟩ := hrel
        have HR := Lib.hid hr
        clear hr
        have hbl : (barsL l).length ≤ 64 := by have := barsL_len l; omega
        by_cases hc : 0 < k ∨ l = []
        · have hst := bsrel_step 8 N gk k l (by decide) HR.out hc
          obtain ⟨d, hd⟩ : ∃ d, k % 8 = d := ⟨_, rfl⟩
          obtain ⟨k', hk'⟩ : ∃ k', k / 8 = k' := ⟨_, rfl⟩
          have hdB : d < 8 := by omega
          have hd16 : d < 16 := by omega
          rw [hd, hk'] at hst
          have HST := Lib.hid hst
          have hkd1 : (k : Int) % 8 = (d : Int) := by omega
          have hkd1b : (k : Int).tmod 8 = (d : Int) := by rw [Int.tmod_eq_emod_of_nonneg (by omega)]; omega
          have hkd : (k : Int).tdiv 8 = (k' : Int) := by rw [Int.tdiv_eq_ediv_of_nonneg (by omega)]; omega
          have hkd2 : (k : Int) / 8 = (k' : Int) := by omega
          have hk'le : k' < 4294967296 := by omega
          have hext := fun W => dg_slice d hd16 W
          have HLEN : Hid ((dc d :: l).length ≤ 32) := Lib.hid (Nat.le_trans (bsrel_len _ _ _ _ _ HST.out.1) (HLS.out 8 (by decide)))
          obtain ⟨c, hcd⟩ : ∃ c, dc d = c := ⟨_, rfl⟩
          rw [hcd] at HST HLEN
          simp only [hcd] at hext
          have HCD := Lib.hid hcd
          have hcs := cons_str c l
          have hsz : (⟨l.toArray⟩ : ByteArray).size ≤ 32 := hl
          have hszb : (⟨(barsL l).toArray⟩ : ByteArray).size ≤ 64 := hbl
          clear hd hk' hst hcd
          by_cases hl0 : l = []
          · subst hl0
            have hcb : (⟨#[c]⟩ : ByteArray) ++ ⟨(barsL []).toArray⟩ = ⟨(barsL [c]).toArray⟩ := rfl
            clear hc
            rcases Nat.eq_zero_or_pos k with hk0 | hk0
            · obtain rfl : k' = 0 := by omega
              obtain rfl : d = 0 := by omega
              obtain rfl : c = 48 := HCD.out.symm
              subst hk0
              clear hkd1 hkd1b hkd hkd2 HCD
              go_wp2_with fail
              go_roundg 0
              case measure => exact HST.out.2
              case rel => exact ⟨0, [48], HST.out.1, hk'le, HLEN.out, rfl, rfl, rfl, rfl⟩
            · have hki : (0 : Int) < (k : Int) := by omega
              clear hk0
              go_wp2_with fail
              go_roundg k'
              case measure => exact HST.out.2
              case rel => exact ⟨k', [c], HST.out.1, hk'le, HLEN.out, rfl, rfl, rfl, rfl⟩
          · have hki : (0 : Int) < (k : Int) := by have := hc.resolve_right hl0; omega
            have hle : l.isEmpty = false := by cases l; exact absurd rfl hl0; rfl
            have hcb1 := cons_str 95 (barsL l)
            have hcb2 : (⟨#[c]⟩ : ByteArray) ++ ⟨(95 :: barsL l).toArray⟩ = ⟨(barsL (c :: l)).toArray⟩ := by rw [cons_str, barsL_cons c l hl0]
            have hszc : (⟨(95 :: barsL l).toArray⟩ : ByteArray).size ≤ 65 := by rw [ba_size, List.length_cons]; omega
            clear hc hl0
            go_wp2_with fail
            go_roundg k'
            case measure => exact HST.out.2
            case rel => exact ⟨k', c :: l, HST.out.1, hk'le, HLEN.out, rfl, rfl, rfl, rfl⟩
        · have hk0 : k = 0 := by omega
          have hl0 : l ≠ [] := fun h => hc (.inr h)
          subst hk0
          have hD := bsrel_end 8 N gk l HR.out hl0
          have hle : l.isEmpty = false := by cases l; exact absurd rfl hl0; rfl
          clear hc hl0 HR
          obtain ⟨T, hT⟩ : ∃ T : ByteArray, T = ⟨(barsL l).toArray⟩ := ⟨_, rfl⟩
          obtain ⟨S, hS⟩ : ∃ S : ByteArray, S = ⟨l.toArray⟩ := ⟨_, rfl⟩
          obtain ⟨X1, hX1⟩ : ∃ X : ByteArray, X = ⟨(48 :: 111 :: l).toArray⟩ := ⟨_, rfl⟩
          obtain ⟨X2, hX2⟩ : ∃ X : ByteArray, X = ⟨(48 :: 111 :: barsL l).toArray⟩ := ⟨_, rfl⟩
          obtain ⟨X3, hX3⟩ : ∃ X : ByteArray, X = ⟨(45 :: 48 :: 111 :: l).toArray⟩ := ⟨_, rfl⟩
          have HP1 : Hid (∀ W : World, Globs W → GlobT K W → Calls Tryz.prog 11 #[.string X1] W fun e w' => e = .returned (.tuple #[.int .u64 O, .int .i64 0]) ∧ Below W.heap.size W w') := Lib.hid fun W h1 h2 => HPX.out false W X1 l 111 111 8 3 h1 h2 hX1 (by decide +kernel) (.inr (.inl ⟨rfl, rfl, rfl⟩)) (.inl hD)
          have HP2 : Hid (∀ W : World, Globs W → GlobT K W → Calls Tryz.prog 11 #[.string X2] W fun e w' => e = .returned (.tuple #[.int .u64 O, .int .i64 0]) ∧ Below W.heap.size W w') := Lib.hid fun W h1 h2 => HPX.out false W X2 (barsL l) 111 111 8 3 h1 h2 hX2 (by decide +kernel) (.inr (.inl ⟨rfl, rfl, rfl⟩)) (.inr (by rw [hD]))
          have hc1 : (⟨#[48, 111]⟩ : ByteArray) ++ S = X1 := by rw [hS, hX1]; exact cat2 [48, 111] l
          have hc2 : (⟨#[48, 111]⟩ : ByteArray) ++ T = X2 := by rw [hT, hX2]; exact cat2 [48, 111] _
          have hc3 : (⟨#[45, 48, 111]⟩ : ByteArray) ++ S = X3 := by rw [hS, hX3]; exact cat2 [45, 48, 111] l
          have hc45 : (⟨#[45]⟩ : ByteArray) ++ ⟨#[48, 111]⟩ = ⟨#[45, 48, 111]⟩ := rfl
          have HP3 : Hid (∀ W : World, Globs W → GlobT K W → Calls Tryz.prog 11 #[.string X3] W fun e w' => e = .returned (.tuple #[.int .u64 ((O : Int) + 9223372036854775808), .int .i64 0]) ∧ Below W.heap.size W w') := Lib.hid fun W h1 h2 => HPX.out true W X3 l 111 111 8 3 h1 h2 hX3 (by decide +kernel) (.inr (.inl ⟨rfl, rfl, rfl⟩)) (.inl hD)
          have hSs : S.size ≤ 32 := by rw [hS]; exact hl
          have hTs : T.size ≤ 64 := by rw [hT]; exact hbl
          have hSe : (S.toList == []) = false := by rw [hS, nil_list, decide_eq_false_iff_not]; rintro rfl; exact absurd hle (by decide)
          rw [← hS, ← hT]
          have HHS := Lib.hid hS
          have HHT := Lib.hid hT
          clear hD hle hS hT hl hbl hX3 hX1 hX2
          have ch2 := ch
          go_wp2_with fail
          refine (HP1.out _ (HGS.out.on HBW.out) (HTS.out.on HBW.out)).mono ?_
          rintro e w2 ⟨rfl, hb2⟩
          have B2 := Lib.hid (HBW.out.trans (hb2.mono HBW.out.size))
          have C2 := Lib.hid (HCS.out.go hb2)
          clear hb2
          have ch3 := C2.out.h2
          go_wp2_with fail
          refine (HP2.out _ (HGS.out.on B2.out) (HTS.out.on B2.out)).mono ?_
          rintro e w3 ⟨rfl, hb3⟩
          have B3 := Lib.hid (B2.out.trans (hb3.mono B2.out.size))
          have C3 := Lib.hid (C2.out.go hb3)
          clear hb3
          have ch4 := C3.out.h2
          go_wp2_with fail
          refine (HP3.out _ (HGS.out.on B3.out) (HTS.out.on B3.out)).mono ?_
          rintro e w4 ⟨rfl, hb4⟩
          have B4 := Lib.hid (B3.out.trans (hb4.mono B3.out.size))
          have C4 := Lib.hid (C3.out.go hb4)
          clear hb4
          go_wp2_with fail
          go_roundg 1
          case measure => have := HGO.out; omega
          case rel => exact ⟨3, rfl, by go_num, B4.out, C4.out⟩
    · -- base 2
      have cb := HCS.out.b3
      have ch := HCS.out.h3
      have HGO : Hid (go = 1) := Lib.hid (by omega)
      clear hi
      go_wp2_with fail
      go_loopg [10, 11, 12, 13] (N + 1) (fun g s10 s11 s12 _ wi => ∃ (k : Nat) (l : List UInt8), BsRel 2 N g k l ∧ k < 4294967296 ∧ l.length ≤ 32 ∧ s10 = .string ⟨l.toArray⟩ ∧ s11 = .string ⟨(barsL l).toArray⟩ ∧ s12 = .int .u32 k ∧ wi = wo)
      case atStart => exact ⟨N, [], .inl ⟨rfl, rfl, rfl⟩, hN, by simp, rfl, rfl, rfl, rfl⟩
      case round =>
        obtain ⟨k, l, hr, hk, hl, rfl, rfl, rfl, rfl⟩ := hrel
        have HR := Lib.hid hr
        clear hr
        have hbl : (barsL l).length ≤ 64 := by have := barsL_len l; omega
        by_cases hc : 0 < k ∨ l = []
        · have hst := bsrel_step 2 N gk k l (by decide) HR.out hc
          obtain ⟨d, hd⟩ : ∃ d, k % 2 = d := ⟨_, rfl⟩
          obtain ⟨k', hk'⟩ : ∃ k', k / 2 = k' := ⟨_, rfl⟩
          have hdB : d < 2 := by omega
          have hd16 : d < 16 := by omega
          rw [hd, hk'] at hst
          have HST := Lib.hid hst
          have hkd1 : (k : Int) % 2 = (d : Int) := by omega
          have hkd1b : (k : Int).tmod 2 = (d : Int) := by rw [Int.tmod_eq_emod_of_nonneg (by omega)]; omega
          have hkd : (k : Int).tdiv 2 = (k' : Int) := by rw [Int.tdiv_eq_ediv_of_nonneg (by omega)]; omega
          have hkd2 : (k : Int) / 2 = (k' : Int) := by omega
          have hk'le : k' < 4294967296 := by omega
          have hext := fun W => dg_slice d hd16 W
          have HLEN : Hid ((dc d :: l).length ≤ 32) := Lib.hid (Nat.le_trans (bsrel_len _ _ _ _ _ HST.out.1) (HLS.out 2 (by decide)))
          obtain ⟨c, hcd⟩ : ∃ c, dc d = c := ⟨_, rfl⟩
          rw [hcd] at HST HLEN
          simp only [hcd] at hext
          have HCD := Lib.hid hcd
          have hcs := cons_str c l
          have hsz : (⟨l.toArray⟩ : ByteArray).size ≤ 32 := hl
          have hszb : (⟨(barsL l).toArray⟩ : ByteArray).size ≤ 64 := hbl
          clear hd hk' hst hcd
          by_cases hl0 : l = []
          · subst hl0
            have hcb : (⟨#[c]⟩ : ByteArray) ++ ⟨(barsL []).toArray⟩ = ⟨(barsL [c]).toArray⟩ := rfl
            clear hc
            rcases Nat.eq_zero_or_pos k with hk0 | hk0
            · obtain rfl : k' = 0 := by omega
              obtain rfl : d = 0 := by omega
              obtain rfl : c = 48 := HCD.out.symm
              subst hk0
              clear hkd1 hkd1b hkd hkd2 HCD
              go_wp2_with fail
              go_roundg 0
              case measure => exact HST.out.2
              case rel => exact ⟨0, [48], HST.out.1, hk'le, HLEN.out, rfl, rfl, rfl, rfl⟩
            · have hki : (0 : Int) < (k : Int) := by omega
              clear hk0
              go_wp2_with fail
              go_roundg k'
              case measure => exact HST.out.2
              case rel => exact ⟨k', [c], HST.out.1, hk'le, HLEN.out, rfl, rfl, rfl, rfl⟩
          · have hki : (0 : Int) < (k : Int) := by have := hc.resolve_right hl0; omega
            have hle : l.isEmpty = false := by cases l; exact absurd rfl hl0; rfl
            have hcb1 := cons_str 95 (barsL l)
            have hcb2 : (⟨#[c]⟩ : ByteArray) ++ ⟨(95 :: barsL l).toArray⟩ = ⟨(barsL (c :: l)).toArray⟩ := by rw [cons_str, barsL_cons c l hl0]
            have hszc : (⟨(95 :: barsL l).toArray⟩ : ByteArray).size ≤ 65 := by rw [ba_size, List.length_cons]; omega
            clear hc hl0
            go_wp2_with fail
            go_roundg k'
            case measure => exact HST.out.2
            case rel => exact ⟨k', c :: l, HST.out.1, hk'le, HLEN.out, rfl, rfl, rfl, rfl⟩
        · have hk0 : k = 0 := by omega
          have hl0 : l ≠ [] := fun h => hc (.inr h)
          subst hk0
          have hD := bsrel_end 2 N gk l HR.out hl0
          have hle : l.isEmpty = false := by cases l; exact absurd rfl hl0; rfl
          clear hc hl0 HR
          obtain ⟨T, hT⟩ : ∃ T : ByteArray, T = ⟨(barsL l).toArray⟩ := ⟨_, rfl⟩
          obtain ⟨S, hS⟩ : ∃ S : ByteArray, S = ⟨l.toArray⟩ := ⟨_, rfl⟩
          obtain ⟨X1, hX1⟩ : ∃ X : ByteArray, X = ⟨(48 :: 98 :: l).toArray⟩ := ⟨_, rfl⟩
          obtain ⟨X2, hX2⟩ : ∃ X : ByteArray, X = ⟨(48 :: 98 :: barsL l).toArray⟩ := ⟨_, rfl⟩
          obtain ⟨X3, hX3⟩ : ∃ X : ByteArray, X = ⟨(45 :: 48 :: 98 :: l).toArray⟩ := ⟨_, rfl⟩
          have HP1 : Hid (∀ W : World, Globs W → GlobT K W → Calls Tryz.prog 11 #[.string X1] W fun e w' => e = .returned (.tuple #[.int .u64 O, .int .i64 0]) ∧ Below W.heap.size W w') := Lib.hid fun W h1 h2 => HPX.out false W X1 l 98 98 2 1 h1 h2 hX1 (by decide +kernel) (.inr (.inr ⟨rfl, rfl, rfl⟩)) (.inl hD)
          have HP2 : Hid (∀ W : World, Globs W → GlobT K W → Calls Tryz.prog 11 #[.string X2] W fun e w' => e = .returned (.tuple #[.int .u64 O, .int .i64 0]) ∧ Below W.heap.size W w') := Lib.hid fun W h1 h2 => HPX.out false W X2 (barsL l) 98 98 2 1 h1 h2 hX2 (by decide +kernel) (.inr (.inr ⟨rfl, rfl, rfl⟩)) (.inr (by rw [hD]))
          have hc1 : (⟨#[48, 98]⟩ : ByteArray) ++ S = X1 := by rw [hS, hX1]; exact cat2 [48, 98] l
          have hc2 : (⟨#[48, 98]⟩ : ByteArray) ++ T = X2 := by rw [hT, hX2]; exact cat2 [48, 98] _
          have hc3 : (⟨#[45, 48, 98]⟩ : ByteArray) ++ S = X3 := by rw [hS, hX3]; exact cat2 [45, 48, 98] l
          have hc45 : (⟨#[45]⟩ : ByteArray) ++ ⟨#[48, 98]⟩ = ⟨#[45, 48, 98]⟩ := rfl
          have HP3 : Hid (∀ W : World, Globs W → GlobT K W → Calls Tryz.prog 11 #[.string X3] W fun e w' => e = .returned (.tuple #[.int .u64 ((O : Int) + 9223372036854775808), .int .i64 0]) ∧ Below W.heap.size W w') := Lib.hid fun W h1 h2 => HPX.out true W X3 l 98 98 2 1 h1 h2 hX3 (by decide +kernel) (.inr (.inr ⟨rfl, rfl, rfl⟩)) (.inl hD)
          have hSs : S.size ≤ 32 := by rw [hS]; exact hl
          have hTs : T.size ≤ 64 := by rw [hT]; exact hbl
          have hSe : (S.toList == []) = false := by rw [hS, nil_list, decide_eq_false_iff_not]; rintro rfl; exact absurd hle (by decide)
          rw [← hS, ← hT]
          have HHS := Lib.hid hS
          have HHT := Lib.hid hT
          clear hD hle hS hT hl hbl hX3 hX1 hX2
          have ch2 := ch
          go_wp2_with fail
          refine (HP1.out _ (HGS.out.on HBW.out) (HTS.out.on HBW.out)).mono ?_
          rintro e w2 ⟨rfl, hb2⟩
          have B2 := Lib.hid (HBW.out.trans (hb2.mono HBW.out.size))
          have C2 := Lib.hid (HCS.out.go hb2)
          clear hb2
          have ch3 := C2.out.h3
          go_wp2_with fail
          refine (HP2.out _ (HGS.out.on B2.out) (HTS.out.on B2.out)).mono ?_
          rintro e w3 ⟨rfl, hb3⟩
          have B3 := Lib.hid (B2.out.trans (hb3.mono B2.out.size))
          have C3 := Lib.hid (C2.out.go hb3)
          clear hb3
          have ch4 := C3.out.h3
          go_wp2_with fail
          refine (HP3.out _ (HGS.out.on B3.out) (HTS.out.on B3.out)).mono ?_
          rintro e w4 ⟨rfl, hb4⟩
          have B4 := Lib.hid (B3.out.trans (hb4.mono B3.out.size))
          have C4 := Lib.hid (C3.out.go hb4)
          clear hb4
          go_wp2_with fail
          go_roundg 0
          case measure => have := HGO.out; omega
          case rel => exact ⟨4, rfl, by go_num, B4.out, C4.out⟩
    · -- the end: what is shown of a number and of it with its sign turned
      have hfr := HFR.out
      have hlx := HLX.out
      by_cases hnn : 9218868437227405312 < ru x
      · have hnan := HNAN.out
        rw [decide_eq_true hnn] at hnan
        have he := HFN.out hnn
        rw [he] at HS2
        clear HFS HFN he hnn HNAN
        obtain ⟨hl1, hl2⟩ := hlx
        generalize (⟨(showB x).toArray⟩ : ByteArray) = S at *
        go_wp2_with fail
        refine (HS1.out _ (HGS.out.on HBW.out)).mono ?_
        rintro e w2 ⟨rfl, hb2⟩
        have B2 := Lib.hid (HBW.out.trans (hb2.mono HBW.out.size))
        clear hb2
        go_wp2_with fail
        refine (HS2.out _ (HGS.out.on B2.out)).mono ?_
        rintro e w3 ⟨rfl, hb3⟩
        have B3 := Lib.hid (B2.out.trans (hb3.mono B2.out.size))
        clear hb3
        go_wp2_with fail
        go_ret
        exact ⟨rfl, B3.out⟩
      · have hnan := HNAN.out
        rw [decide_eq_false hnn] at hnan
        obtain ⟨S1, hS1⟩ : ∃ S : ByteArray, S = ⟨(showB x).toArray⟩ := ⟨_, rfl⟩
        obtain ⟨S2, hS2⟩ : ∃ S : ByteArray, S = ⟨(showB x2).toArray⟩ := ⟨_, rfl⟩
        rw [← hS1] at HS1 hnan
        rw [← hS2] at HS2
        have hs1 : S1.size ≤ 101 := by rw [hS1]; exact hlx.1
        have hs2 : S2.size ≤ 101 := by rw [hS2]; exact hlx.2
        rcases HFS.out hnn with ⟨_, hf⟩ | ⟨_, hf⟩
        · have hc1 : (⟨#[45]⟩ : ByteArray) ++ S1 = S2 := by rw [hS1, hS2, hf]; exact cons45 _
          obtain ⟨X, hX⟩ : ∃ X : ByteArray, X = ⟨(45 :: 45 :: showB x).toArray⟩ := ⟨_, rfl⟩
          have hc2 : (⟨#[45]⟩ : ByteArray) ++ S2 = X := by rw [hS2, hX, hf]; exact cons45 _
          have hne : (S1.toList == X.toList) = false := by rw [hS1, hX]; exact cons_ne _ _ (by rw [List.length_cons, List.length_cons]; omega)
          clear HFS HFN hnn HNAN hf hX hlx HLX hS1 hS2
          go_wp2_with fail
          refine (HS1.out _ (HGS.out.on HBW.out)).mono ?_
          rintro e w2 ⟨rfl, hb2⟩
          have B2 := Lib.hid (HBW.out.trans (hb2.mono HBW.out.size))
          clear hb2
          go_wp2_with fail
          refine (HS2.out _ (HGS.out.on B2.out)).mono ?_
          rintro e w3 ⟨rfl, hb3⟩
          have B3 := Lib.hid (B2.out.trans (hb3.mono B2.out.size))
          clear hb3
          go_wp2_with fail
          go_ret
          exact ⟨rfl, B3.out⟩
        · have hc1 : (⟨#[45]⟩ : ByteArray) ++ S2 = S1 := by rw [hS1, hS2, hf]; exact cons45 _
          clear HFS HFN hnn HNAN hf hlx HLX hS1 hS2
          go_wp2_with fail
          refine (HS1.out _ (HGS.out.on HBW.out)).mono ?_
          rintro e w2 ⟨rfl, hb2⟩
          have B2 := Lib.hid (HBW.out.trans (hb2.mono HBW.out.size))
          clear hb2
          go_wp2_with fail
          refine (HS2.out _ (HGS.out.on B2.out)).mono ?_
          rintro e w3 ⟨rfl, hb3⟩
          have B3 := Lib.hid (B2.out.trans (hb3.mono B2.out.size))
          clear hb3
          go_wp2_with fail
          go_ret
          exact ⟨rfl, B3.out⟩
end Go.Proofs.YtmhagigokgklaaaGreatDoor

/- Whole numbers as bytes that begin with the least (plain). -/
namespace Go.Proofs.YtmhagigokgklaaaGreatDoor
open Go Go.RowKit

/-- the number that bytes are -/
def leV : List UInt8 → Nat
  | [] => 0
  | x :: l => x.toNat + 256 * leV l
/-- no nought above -/
def NormB (l : List UInt8) : Prop := l.getLast? ≠ some 0
def trimL (l : List UInt8) : List UInt8 := (l.reverse.dropWhile (· == 0)).reverse

theorem leV_app (l m : List UInt8) : leV (l ++ m) = leV l + 256 ^ l.length * leV m := by
  induction l with
  | nil => simp [leV]
  | cons x l ih =>
    rw [List.cons_append, leV, leV, ih, List.length_cons, Nat.pow_succ, Nat.mul_add, Nat.add_assoc, Nat.mul_comm (256 ^ l.length) 256, Nat.mul_assoc]
theorem leV_lt (l : List UInt8) : leV l < 256 ^ l.length := by
  induction l with
  | nil => simp [leV]
  | cons x l ih =>
    have := x.toNat_lt
    rw [leV, List.length_cons, Nat.pow_succ]
    omega
theorem leV_snoc (l : List UInt8) (x : UInt8) : leV (l ++ [x]) = leV l + 256 ^ l.length * x.toNat := by
  rw [leV_app]; simp [leV]
theorem leV_take_drop (l : List UInt8) (k : Nat) (h : k ≤ l.length) : leV l = leV (l.take k) + 256 ^ k * leV (l.drop k) := by
  conv => lhs; rw [← List.take_append_drop k l]
  rw [leV_app, List.length_take, Nat.min_eq_left h]
theorem leV_zeros (l : List UInt8) (h : ∀ x ∈ l, x = 0) : leV l = 0 := by
  induction l with
  | nil => rfl
  | cons x l ih =>
    rw [leV, ih fun y hy => h y (by simp [hy]), h x (by simp)]; rfl
theorem norm_ge (l : List UInt8) (h : NormB l) (h0 : l ≠ []) : 256 ^ (l.length - 1) ≤ leV l := by
  obtain ⟨m, x, rfl⟩ : ∃ m x, l = m ++ [x] := ⟨l.dropLast, l.getLast h0, (List.dropLast_concat_getLast h0).symm⟩
  have hx : x ≠ 0 := by
    intro hx
    apply h
    rw [List.getLast?_append, hx]; rfl
  have hx1 : 1 ≤ x.toNat := by
    rcases Nat.eq_zero_or_pos x.toNat with g | g
    · exact absurd (UInt8.toNat_inj.1 (by rw [g]; rfl)) hx
    · exact g
  rw [leV_snoc, List.length_append, List.length_singleton, Nat.add_sub_cancel]
  exact Nat.le_trans (Nat.le_mul_of_pos_right _ hx1) (Nat.le_add_left _ _)
theorem norm_zero (l : List UInt8) (h : NormB l) : leV l = 0 ↔ l = [] := by
  constructor
  · intro h0
    rcases Classical.em (l = []) with g | g
    · exact g
    · have := norm_ge l h g
      have := Nat.pow_pos (n := l.length - 1) (show 0 < 256 by decide)
      omega
  · rintro rfl; rfl
theorem norm_len (l : List UInt8) (h : NormB l) (K : Nat) (hK : leV l < 256 ^ K) : l.length ≤ K := by
  rcases Classical.em (l = []) with g | g
  · subst g; exact Nat.zero_le _
  · have h1 := norm_ge l h g
    have h2 := Nat.lt_of_le_of_lt h1 hK
    have := (Nat.pow_lt_pow_iff_right (a := 256) (by decide)).1 h2
    omega
theorem norm_lt (a b : List UInt8) (hb : NormB b) (h : a.length < b.length) : leV a < leV b := by
  have h1 := leV_lt a
  have h2 := norm_ge b hb (by rintro rfl; simp at h)
  exact Nat.lt_of_lt_of_le h1 (Nat.le_trans (Nat.pow_le_pow_right (by decide) (by omega)) h2)
/-- decided at place i, what stands above is alike -/
theorem cmp_at (a b : List UInt8) (i : Nat) (ha : i < a.length) (hb : i < b.length) (hl : a.length = b.length) (hd : a.drop (i + 1) = b.drop (i + 1)) (h : a[i].toNat < b[i].toNat) : leV a < leV b := by
  have ea := leV_take_drop a i (by omega)
  have eb := leV_take_drop b i (by omega)
  rw [List.drop_eq_getElem_cons ha, leV] at ea
  rw [List.drop_eq_getElem_cons hb, leV, ← hd] at eb
  have h1 := leV_lt (a.take i)
  rw [List.length_take, Nat.min_eq_left (by omega)] at h1
  rw [ea, eb]
  generalize 256 * leV (a.drop (i + 1)) = T
  have h2 : 256 ^ i * (a[i].toNat + T) + 256 ^ i ≤ 256 ^ i * (b[i].toNat + T) := by
    rw [← Nat.mul_succ]
    exact Nat.mul_le_mul_left _ (by omega)
  omega
theorem drop_eq (a b : List UInt8) (i : Nat) (ha : i < a.length) (hb : i < b.length) (hd : a.drop (i + 1) = b.drop (i + 1)) (h : a[i] = b[i]) : a.drop i = b.drop i := by
  rw [List.drop_eq_getElem_cons ha, List.drop_eq_getElem_cons hb, hd, h]

theorem trim_norm (l : List UInt8) : NormB (trimL l) := by
  unfold NormB trimL
  rw [List.getLast?_reverse]
  intro h
  cases hd : l.reverse.dropWhile (· == 0) with
  | nil => rw [hd] at h; simp at h
  | cons x t =>
    rw [hd] at h
    simp at h
    have := List.head?_dropWhile_not (p := fun x : UInt8 => x == 0) (l := l.reverse)
    rw [hd] at this
    simp at this
    exact this h
theorem trim_val (l : List UInt8) : leV (trimL l) = leV l := by
  unfold trimL
  have e : l.reverse = l.reverse.takeWhile (· == 0) ++ l.reverse.dropWhile (· == 0) := (List.takeWhile_append_dropWhile).symm
  have e2 : l = (l.reverse.dropWhile (· == 0)).reverse ++ (l.reverse.takeWhile (· == 0)).reverse := by
    rw [← List.reverse_append, ← e, List.reverse_reverse]
  conv => rhs; rw [e2, leV_app]
  rw [leV_zeros (l.reverse.takeWhile (· == 0)).reverse]
  · simp
  · intro x hx
    rw [List.mem_reverse] at hx
    have := List.all_eq_true.1 (List.all_takeWhile (p := fun x : UInt8 => x == 0) (l := l.reverse)) x hx
    simpa using this
theorem trim_take (l : List UInt8) (k : Nat) (hk : k ≤ l.length) (h : ∀ x ∈ l.drop k, x = 0) (h2 : k = 0 ∨ ∃ h : k - 1 < l.length, l[k - 1] ≠ 0) : trimL l = l.take k := by
  unfold trimL
  have e : l.reverse = (l.drop k).reverse ++ (l.take k).reverse := by rw [← List.reverse_append, List.take_append_drop]
  rw [e, List.dropWhile_append_of_pos (by intro x hx; rw [List.mem_reverse] at hx; simp [h x hx])]
  rcases h2 with rfl | ⟨h3, h4⟩
  · simp
  · have hk0 : k ≠ 0 ∨ k = 0 := by omega
    rcases hk0 with hk0 | rfl
    · have e3 : l.take k = l.take (k - 1) ++ [l[k - 1]] := by
        have := List.take_succ_eq_append_getElem h3
        rwa [show k - 1 + 1 = k by omega] at this
      rw [e3, List.reverse_append, List.reverse_singleton, List.singleton_append, List.dropWhile_cons, if_neg (by simpa using h4)]
      simp
    · simp
theorem trim_len (l : List UInt8) : (trimL l).length ≤ l.length := by
  unfold trimL
  rw [List.length_reverse]
  exact Nat.le_trans (List.dropWhile_sublist _).length_le (by simp)

/-- a bit of bytes -/
theorem leV_byte (l : List UInt8) (j : Nat) (h : j < l.length) : leV l / 256 ^ j % 256 = l[j].toNat := by
  have e := leV_take_drop l j (by omega)
  rw [List.drop_eq_getElem_cons h, leV] at e
  have h1 := leV_lt (l.take j)
  rw [List.length_take, Nat.min_eq_left (by omega)] at h1
  have h2 := l[j].toNat_lt
  rw [e, Nat.add_mul_div_left _ _ (Nat.pow_pos (by decide)), Nat.div_eq_of_lt h1, Nat.zero_add]
  omega
theorem leV_bit (l : List UInt8) (n : Nat) (h : n / 8 < l.length) : l[n / 8].toNat / 2 ^ (n % 8) % 2 = leV l / 2 ^ n % 2 := by
  have h1 := leV_byte l (n / 8) h
  have e : (2 : Nat) ^ n = 256 ^ (n / 8) * 2 ^ (n % 8) := by
    rw [show (256 : Nat) = 2 ^ 8 from by decide, ← Nat.pow_mul, ← Nat.pow_add]; congr 1; omega
  rw [e, ← Nat.div_div_eq_div_mul]
  generalize leV l / 256 ^ (n / 8) = X at *
  rw [← h1]
  have h8 : n % 8 < 8 := Nat.mod_lt _ (by decide)
  generalize n % 8 = k at *
  have hk : k = 0 ∨ k = 1 ∨ k = 2 ∨ k = 3 ∨ k = 4 ∨ k = 5 ∨ k = 6 ∨ k = 7 := by omega
  rcases hk with rfl | rfl | rfl | rfl | rfl | rfl | rfl | rfl <;> omega

/-- one step of a product -/
theorem times_step (o : List UInt8) (A m y T : Nat) (h : leV o + 256 ^ o.length * m = A) (hb : m + y = T) :
    leV (o ++ [UInt8.ofNat (T % 256)]) + 256 ^ (o.length + 1) * (T / 256) = A + 256 ^ o.length * y := by
  rw [leV_snoc, UInt8.toNat_ofNat', Nat.mod_eq_of_lt (show T % 256 < 2 ^ 8 by omega), Nat.pow_succ, ← h, Nat.mul_assoc, Nat.add_assoc, Nat.add_assoc, ← Nat.mul_add, ← Nat.mul_add, hb]
  congr 2
  omega
/-- one step of a difference -/
theorem minus_step (o : List UInt8) (A B P r x y r' : Nat) (P' : UInt8) (h : A + P * r = leV o + B) (hP : P = 256 ^ o.length) (hb : x + 256 * r' = P'.toNat + y + r) :
    A + P * x + 256 ^ (o.length + 1) * r' = leV (o ++ [P']) + (B + P * y) := by
  have h2 : 256 ^ (o.length + 1) * r' = P * (256 * r') := by rw [Nat.pow_succ, hP, Nat.mul_assoc]
  rw [leV_snoc, h2, ← hP]
  have h3 : P * x + P * (256 * r') = P * P'.toNat + P * y + P * r := by rw [← Nat.mul_add, ← Nat.mul_add, ← Nat.mul_add, hb]
  omega
theorem leV_take_succ (l : List UInt8) (k : Nat) (h : k < l.length) : leV (l.take (k + 1)) = leV (l.take k) + 256 ^ k * l[k].toNat := by
  rw [List.take_succ_eq_append_getElem h, leV_snoc, List.length_take, Nat.min_eq_left (by omega)]
end Go.Proofs.YtmhagigokgklaaaGreatDoor
