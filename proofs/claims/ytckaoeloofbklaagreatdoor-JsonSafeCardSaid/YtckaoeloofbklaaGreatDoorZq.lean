/- Joined texts: He Kj Kg Kh. Each begins with its own remark. -/
import Derived.Test.YtckaoeloofbklaaGreatDoorZp
import Derived.Test.YtckaoeloofbklaaGreatDoorZo
import Derived.Test.YtckaoeloofbklaaGreatDoorZd
import Derived.Maps.OwnOps
import Derived.Maps.Views
import Derived.Laws.StructEq
import Derived.BigQuiet

/- What a shown value, with blanks, is read as (plain). -/
namespace Go.Proofs.YtckaoeloofbklaaGreatDoor

theorem JV.ind {P : JV → Prop} (h : ∀ k b n u s ks vs, (∀ v ∈ vs, P v) → P (.mk k b n u s ks vs)) : ∀ v, P v
  | .mk k b n u s ks vs => h k b n u s ks vs fun v _ => JV.ind h v

theorem skip_blanks : ∀ (p t : List UInt8), p.all isBl = true → skipB (p ++ t) = skipB t
  | [], _, _ => rfl
  | c :: p, t, h => by
    rw [List.all_cons, Bool.and_eq_true] at h
    have := skip_blanks p t h.2
    unfold skipB at this ⊢
    rw [List.cons_append, List.dropWhile_cons, h.1, if_pos rfl, this]
theorem skip_at (c : UInt8) (t : List UInt8) (h : isBl c = false) : skipB (c :: t) = c :: t := by
  unfold skipB
  rw [List.dropWhile_cons, h]
  rfl
theorem skip_skip (t : List UInt8) : skipB (skipB t) = skipB t := by
  rcases e : skipB t with _ | ⟨c, l⟩
  · rfl
  · apply skip_at
    have := List.head_dropWhile_not isBl (l := t) (by unfold skipB at e; rw [e]; simp)
    unfold skipB at e
    simp only [e, List.head_cons] at this
    simpa using this

section
variable {N : List UInt8 → JV → Prop}
theorem val_atom {t : List UInt8} {o : Out JV} : ∀ n : Nat, Atom decB8 enc N (skipB t) o → Val decB8 enc N n t o.skip
  | 0, h => ⟨o, h, rfl⟩
  | _ + 1, h => ⟨o, .atom h, rfl⟩
theorem val_skip (t t' : List UInt8) (h : skipB t = skipB t') {o : Out JV} : ∀ n : Nat, Val decB8 enc N n t o → Val decB8 enc N n t' o
  | 0, ⟨o', h1, h2⟩ => ⟨o', by rw [← h]; exact h1, h2⟩
  | _ + 1, ⟨o', h1, h2⟩ => ⟨o', by rw [← h]; exact h1, h2⟩

/-- what may stand behind a value -/
def EndV : List UInt8 → Prop
  | [] => True
  | c :: _ => isBl c = true ∨ c = 44 ∨ c = 93 ∨ c = 125
theorem end_num {u : List UInt8} (h : EndV u) : Ends numC u ∧ Ends isAl u := by
  cases u with
  | nil => exact ⟨trivial, trivial⟩
  | cons c u =>
    have : ∀ c : Fin 256, (isBl (UInt8.ofNat c.val) = true ∨ UInt8.ofNat c.val = 44 ∨ UInt8.ofNat c.val = 93 ∨ UInt8.ofNat c.val = 125) → numC (UInt8.ofNat c.val) = false ∧ isAl (UInt8.ofNat c.val) = false := by decide +kernel
    have h1 := this ⟨c.toNat, c.toNat_lt⟩
    simp only [UInt8.ofNat_toNat] at h1
    exact h1 h
theorem numC_no (c : UInt8) (h : numC c = true) : markC c = false ∧ c ≠ 34 ∧ isBl c = false := by
  have : ∀ c : Fin 256, numC (UInt8.ofNat c.val) = true → markC (UInt8.ofNat c.val) = false ∧ UInt8.ofNat c.val ≠ 34 ∧ isBl (UInt8.ofNat c.val) = false := by decide +kernel
  have h1 := this ⟨c.toNat, c.toNat_lt⟩
  simp only [UInt8.ofNat_toNat] at h1
  exact h1 h

/-- a text that is a number's -/
def NumS (s : List UInt8) : Prop := ∃ c l, s = c :: l ∧ (c = 45 ∨ isDgB c = true) ∧ l.all numC = true
theorem NumS.all {s : List UInt8} (h : NumS s) : ∀ c ∈ s, numC c = true := by
  obtain ⟨c, l, rfl, hc, hl⟩ := h
  intro x hx
  rcases List.mem_cons.1 hx with rfl | hx
  · unfold numC
    rcases hc with rfl | hc
    · decide
    · rw [hc]; simp
  · exact List.all_eq_true.1 hl x hx
/-- how numbers are read -/
structure NumOK (N : List UInt8 → JV → Prop) (intL fltL : Int → List UInt8) (inf : Int → Bool) : Prop where
  int : ∀ n : Int, -9223372036854775808 ≤ n → n < 9223372036854775808 → N (intL n) (jInt n) ∧ NumS (intL n)
  flt : ∀ u : Int, 0 ≤ u → u < 18446744073709551616 → inf u = false → N (fltL u) (jFlt u) ∧ NumS (fltL u)
  nul : ∀ u : Int, 0 ≤ u → u < 18446744073709551616 → inf u = true → fltL u = [110, 117, 108, 108]
/-- are a value's numbers ones of 64 bits? -/
inductive Rng : JV → Prop
  | mk {k b n u s ks vs} (h1 : -9223372036854775808 ≤ n) (h2 : n < 9223372036854775808) (h3 : 0 ≤ u) (h4 : u < 18446744073709551616) (h : ∀ v ∈ vs, Rng v) : Rng (.mk k b n u s ks vs)

theorem formedL_mem : ∀ {l : List JV}, JV.formedL l = true → ∀ v ∈ l, v.formed = true
  | v :: l, h, x, hx => by
    rw [JV.formedL, Bool.and_eq_true] at h
    rcases List.mem_cons.1 hx with rfl | hx
    · exact h.1
    · exact formedL_mem h.2 x hx
theorem deepL_mem : ∀ {l : List JV} {n : Nat}, JV.deepL l ≤ n → ∀ v ∈ l, v.deep ≤ n
  | v :: l, n, h, x, hx => by
    rw [JV.deepL] at h
    rcases List.mem_cons.1 hx with rfl | hx
    · omega
    · exact deepL_mem (by omega) x hx
variable {intL fltL : Int → List UInt8} {inf : Int → Bool}
/-- the first byte of a value's text; that its marks are even -/
def Fst (s : List UInt8) : Prop := (∃ c l, s = c :: l ∧ isBl c = false ∧ c ≠ 93 ∧ c ≠ 125) ∧ inN false s = false
theorem inN_quoL (l s : List UInt8) : inN false (quoL l ++ s) = inN false s := by
  unfold quoL
  show inN true ((quoI l ++ [34]) ++ s) = _
  rw [in_append, in_append, in_none _ _ (quoI_ne l)]
  rfl
theorem inN_T (r : Bool) : ∀ (vs : List JV) (ks : List ByteArray), (∀ v ∈ vs, Fst (showJ intL fltL v)) → inN false (showT intL fltL r ks vs) = false
  | [], _, _ => by rw [showT]; rfl
  | v :: vs, ks, h => by
    rw [showT]
    show inN false (((if r then quoL (ks.headD ⟨#[]⟩).data.toList ++ [58] else []) ++ showJ intL fltL v) ++ showT intL fltL r ks.tail vs) = false
    cases r with
    | false => rw [if_neg (by decide), List.nil_append, in_append, (h v (by simp)).2, inN_T _ vs _ fun x hx => h x (by simp [hx])]
    | true =>
      rw [if_pos rfl, List.append_assoc, List.append_assoc, inN_quoL]
      show inN false (showJ intL fltL v ++ showT intL fltL true ks.tail vs) = false
      rw [in_append, (h v (by simp)).2, inN_T _ vs _ fun x hx => h x (by simp [hx])]
theorem inN_drop (s t : List UInt8) (h : ∀ x, s.take 1 = [x] → x = 44) : inN false (s.drop 1 ++ t) = inN false (s ++ t) := by
  cases s with
  | nil => rfl
  | cons c s =>
    have := h c rfl
    subst this
    rfl
theorem showT_head (r : Bool) (ks : List ByteArray) (vs : List JV) : ∀ x, (showT intL fltL r ks vs).take 1 = [x] → x = 44 := by
  intro x hx
  cases vs with
  | nil => rw [showT] at hx; cases hx
  | cons v vs =>
    rw [showT, List.cons_append, List.take_succ_cons, List.take_zero] at hx
    injection hx with h1
    exact h1.symm
theorem fst_num {s : List UInt8} (h : NumS s) : Fst s := by
  have ha := h.all
  have hc := fun c hc => numC_no c (ha c hc)
  refine ⟨?_, in_none _ _ fun c h => (hc c h).2.1⟩
  obtain ⟨c, l, rfl, h1, -⟩ := h
  refine ⟨c, l, rfl, (hc c (by simp)).2.2, ?_, ?_⟩
  · rintro rfl; have := (hc _ (List.mem_cons_self ..)).1; revert this; decide
  · rintro rfl; have := (hc _ (List.mem_cons_self ..)).1; revert this; decide
theorem fst_show (hN : NumOK N intL fltL inf) : ∀ v, Rng v → Fst (showJ intL fltL v) := by
  refine JV.ind fun k b n u s ks vs ih hr => ?_
  obtain ⟨h1, h2, h3, h4, h⟩ := hr
  rw [showJ]
  by_cases k1 : k = 1
  · rw [if_pos k1]; exact ⟨⟨110, _, rfl, by decide, by decide, by decide⟩, by decide⟩
  rw [if_neg k1]
  by_cases k2 : k = 2
  · rw [if_pos k2]
    cases b
    · exact ⟨⟨102, _, rfl, by decide, by decide, by decide⟩, by decide⟩
    · exact ⟨⟨116, _, rfl, by decide, by decide, by decide⟩, by decide⟩
  rw [if_neg k2]
  by_cases k3 : k = 3
  · rw [if_pos k3]; exact fst_num (hN.int n h1 h2).2
  rw [if_neg k3]
  by_cases k4 : k = 4
  · rw [if_pos k4]
    cases hi : inf u with
    | false => exact fst_num (hN.flt u h3 h4 hi).2
    | true => rw [hN.nul u h3 h4 hi]; exact ⟨⟨110, _, rfl, by decide, by decide, by decide⟩, by decide⟩
  rw [if_neg k4]
  by_cases k5 : k = 5
  · rw [if_pos k5]
    refine ⟨⟨34, _, rfl, by decide, by decide, by decide⟩, ?_⟩
    have := inN_quoL s.data.toList []
    rw [List.append_nil] at this
    rw [this]; rfl
  rw [if_neg k5]
  by_cases k7 : k = 7
  · rw [if_pos k7]
    refine ⟨⟨123, _, rfl, by decide, by decide, by decide⟩, ?_⟩
    show inN false ((showT intL fltL true ks vs).drop 1 ++ [125]) = false
    rw [inN_drop _ _ (showT_head _ _ _), in_append, inN_T _ _ _ fun v hv => ih v hv (h v hv)]
    rfl
  · rw [if_neg k7]
    refine ⟨⟨91, _, rfl, by decide, by decide, by decide⟩, ?_⟩
    show inN false ((showT intL fltL false ks vs).drop 1 ++ [93]) = false
    rw [inN_drop _ _ (showT_head _ _ _), in_append, inN_T _ _ _ fun v hv => ih v hv (h v hv)]
    rfl
end
end Go.Proofs.YtckaoeloofbklaaGreatDoor

/- Numbers: what is shown of them is read as them, in JSON (NumOK). -/
namespace Go.Proofs.YtckaoeloofbklaaGreatDoor
open Go Go.RowKit Go.Lib
set_option exponentiation.threshold 3000

/-! ### integers -/
theorem parseM_digs : ∀ (l : List UInt8) (acc : Nat), (∀ c ∈ l, isDig c) → l.foldl (fun a c => a * 10 + dv c.toNat) acc ≤ 9223372036854775808 → Lib.parseUintM (2 ^ 64 - 1) acc l = .ok (l.foldl (fun a c => a * 10 + dv c.toNat) acc)
  | [], acc, _, _ => rfl
  | c :: l, acc, hd, h => by
    have hc : 48 ≤ c.toNat ∧ c.toNat ≤ 57 := hd c (by simp)
    have hdv : dv c.toNat = c.toNat - 48 := by unfold dv; rw [if_pos hc]
    rw [List.foldl_cons] at h ⊢
    have mono : ∀ (l : List UInt8) (a : Nat), a ≤ l.foldl (fun a c => a * 10 + dv c.toNat) a := by
      intro l
      induction l with
      | nil => intro a; simp
      | cons c l ih => intro a; rw [List.foldl_cons]; exact Nat.le_trans (by omega) (ih _)
    have hm := mono l (acc * 10 + dv c.toNat)
    have h2 : (2 : Nat) ^ 64 - 1 = 18446744073709551615 := by decide
    rw [Lib.parseUintM, if_pos hc, if_neg (by omega), if_neg (by rw [h2]; omega), ← hdv]
    exact parseM_digs l _ (fun x hx => hd x (by simp [hx])) h
theorem parseU_dec (u : Nat) (h : u ≤ 9223372036854775808) : Lib.parseUintB 64 (decDigits u) = .ok u := by
  have hne : decDigits u ≠ [] := by
    intro h0
    have := congrArg List.length h0
    rw [decDigits_length] at this
    have := nDigits_pos u
    simp at *; omega
  have hv := dvl_dec u
  unfold dvl at hv
  rw [Lib.parseUintB, if_neg hne, parseM_digs _ _ (dec_digs u) (by rw [hv]; exact h), hv]
theorem dec_cons (u : Nat) : ∃ c W, decDigits u = c :: W ∧ isDig c ∧ (c = 48 → W = []) := by
  by_cases h0 : u = 0
  · subst h0; exact ⟨48, [], by decide +kernel, ⟨by decide, by decide⟩, fun _ => rfl⟩
  · obtain ⟨c, l, h1, h2⟩ := dec_head u (by omega)
    exact ⟨c, l, h1, dec_digs u c (by rw [h1]; simp), fun h => absurd h h2⟩
theorem parseI_itoa (n : Int) (h1 : -9223372036854775808 ≤ n) (h2 : n < 9223372036854775808) : Lib.parseIntB 64 (Lib.itoa n) = .ok n := by
  unfold Lib.itoa
  by_cases hn : n < 0
  · rw [if_pos hn]
    simp only [Lib.parseIntB]
    rw [if_pos (.inr (by decide)), parseU_dec _ (by omega)]
    dsimp only
    rw [if_neg (fun h => h.1 (by decide)), if_neg (fun h => by have := h.2; rw [show (2 : Nat) ^ (64 - 1) = 9223372036854775808 by decide] at this; omega), if_pos (by decide)]
    congr 1
    omega
  · rw [if_neg hn]
    obtain ⟨c, W, e, hc, _⟩ := dec_cons n.toNat
    have hp := parseU_dec n.toNat (by omega)
    rw [e] at hp ⊢
    obtain ⟨g1, g2⟩ := hc
    have k1 : ¬ (c.toNat = 43 ∨ c.toNat = 45) := by omega
    have k2 : ¬ c.toNat = 45 := by omega
    simp only [Lib.parseIntB]
    rw [if_neg k1, hp]
    dsimp only
    rw [if_neg (fun h => by have := h.2; rw [show (2 : Nat) ^ (64 - 1) = 9223372036854775808 by decide] at this; omega), if_neg (fun h => k2 h.1), if_neg k2]
    congr 1
    omega
theorem digs_all {l : List UInt8} (h : ∀ c ∈ l, isDig c) : l.all isDgB = true := List.all_eq_true.2 fun c hc => dig_ok (h c hc)
theorem numS_of (ng : Bool) {l : List UInt8} {c : UInt8} {W fr ex : List UInt8} (h : NumT l c W fr ex) : NumS (sgB ng ++ l) := by
  have hd : ∀ c, isDgB c = true → numC c = true := fun c h => by unfold numC; rw [h]; simp
  have hds : ∀ l : List UInt8, l.all isDgB = true → ∀ c ∈ l, numC c = true := fun l h c hc => hd c (List.all_eq_true.1 h c hc)
  have hall : ∀ x ∈ W ++ (fr ++ ex), numC x = true := by
    intro x hx
    rcases List.mem_append.1 hx with hx | hx
    · exact hds W h.hw x hx
    · rcases List.mem_append.1 hx with hx | hx
      · rcases h.fr with e | ⟨y, F, e, h1, h2⟩
        · rw [e] at hx; simp at hx
        · rw [e] at hx
          rcases List.mem_cons.1 hx with rfl | hx
          · decide
          · rcases List.mem_cons.1 hx with rfl | hx
            · exact hd _ h1
            · exact hds F h2 x hx
      · rcases h.ex with e | ⟨sg, y, X, e, h0, h1, h2⟩
        · rw [e] at hx; simp at hx
        · rw [e] at hx
          rcases List.mem_cons.1 hx with rfl | hx
          · decide
          · rcases List.mem_cons.1 hx with rfl | hx
            · rcases h0 with rfl | rfl <;> decide
            · rcases List.mem_cons.1 hx with rfl | hx
              · exact hd _ h1
              · exact hds X h2 x hx
  have e : l = c :: (W ++ (fr ++ ex)) := h.eq
  cases ng with
  | false => exact ⟨c, _, by rw [e]; rfl, .inr h.hc, List.all_eq_true.2 hall⟩
  | true => exact ⟨45, l, rfl, .inl rfl, List.all_eq_true.2 fun x hx => by
      rw [e] at hx
      rcases List.mem_cons.1 hx with rfl | hx
      · exact hd _ h.hc
      · exact hall x hx⟩
theorem int_ok (n : Int) (h1 : -9223372036854775808 ≤ n) (h2 : n < 9223372036854775808) : NJ (Lib.itoa n) (jInt n) ∧ NumS (Lib.itoa n) := by
  obtain ⟨c, W, e, hc, hz⟩ := dec_cons n.natAbs
  have hW : W.all isDgB = true := digs_all fun x hx => dec_digs n.natAbs x (by rw [e]; simp [hx])
  have hT : NumT (decDigits n.natAbs) c W [] [] := ⟨by rw [e]; simp, dig_ok hc, hW, hz, .inl rfl, .inl rfl⟩
  have ha : Lib.itoa n = sgB (decide (n < 0)) ++ decDigits n.natAbs := by
    unfold Lib.itoa
    by_cases hn : n < 0
    · rw [if_pos hn, decide_eq_true hn]; rfl
    · rw [if_neg hn, decide_eq_false hn, show n.toNat = n.natAbs by omega]; rfl
  have hl := itoa_len n h1 h2
  have hp := parseI_itoa n h1 h2
  refine ⟨.int (decide (n < 0)) _ c W ha hT ?_ ?_ hp, by rw [ha]; exact numS_of _ hT⟩
  · rw [ha, List.length_append] at hl; omega
  · intro h0
    rw [h0] at hp
    by_cases hn : n < 0
    · have : n = 0 := by
        have e1 : Lib.parseIntB 64 [45, 48] = .ok 0 := by decide +kernel
        rw [e1] at hp
        injection hp with hp
        exact hp.symm
      omega
    · rw [ha, decide_eq_false hn, e] at h0
      injection h0 with h0 _
      rw [h0] at hc
      exact absurd hc.1 (by decide)

/-! ### numbers with a point -/
theorem shown_split (a : Nat) (h1 : 0 < a) (h2 : a < 9218868437227405312) :
    ∃ (t : Nat) (x : Int), t % 10 ≠ 0 ∧ nDigits t ≤ 19 ∧ (((nDigits t : Nat) : Int) + x - 1).natAbs < 1000 ∧ showA a = placedB (decDigits t) ((nDigits t : Nat) + x) ∧ Near (dX t x) (dQ x) a := by
  obtain ⟨b1, b2, b3⟩ := sh_bounds a h1 h2
  have hA := shown_near a h1 h2
  obtain ⟨g1, g2, g3, g4, g5⟩ := me_ok a h1 h2
  obtain ⟨k1, k2, k3, k4⟩ := short_bounds (MN a) (EN a) g1 g2 g3 g4 g5
  have hlt : (shN a).1 < 10 ^ 19 := by
    have : (shN a).1 = (shortN (MN a) (EN a)).1 := rfl
    rw [this]
    omega
  unfold showA
  generalize (shN a).1 = d at *
  generalize (shN a).2 = q at *
  obtain ⟨t, i, e1, e2⟩ := strip_ex d b1
  have ht0 : 1 ≤ t := by omega
  have hsig : sig d = decDigits t := by rw [e1, sig_tens t ht0, sig_odd t e2]
  have hnd : nDigits d = nDigits t + i := by rw [e1, nd_tens t ht0]
  have hp : ((nDigits d : Nat) : Int) + q = (nDigits t : Nat) + (q + i) := by rw [hnd]; push_cast; omega
  have h19 : nDigits t ≤ 19 := nd_le 18 _ (Nat.lt_of_le_of_lt (by rw [e1]; exact Nat.le_mul_of_pos_right _ (Nat.pow_pos (by decide))) hlt)
  rw [hp] at b3
  refine ⟨t, q + i, e2, h19, b3, by rw [← hp, ← hsig], ?_⟩
  rw [e1] at hA
  exact near_up t i a q hA
/-- a shown number has a point or a power, or is whole -/
theorem placed_num (t : Nat) (x : Int) (ht : t % 10 ≠ 0) :
    (∃ k : Nat, x = (k : Int) ∧ placedB (decDigits t) ((nDigits t : Nat) + x) = decDigits t ++ List.replicate k 48) ∨
    ∃ c W fr ex, NumT (placedB (decDigits t) ((nDigits t : Nat) + x)) c W fr ex ∧ fr ++ ex ≠ [] := by
  have ht1 : 1 ≤ t := by omega
  obtain ⟨c0, l0, hS, hc0⟩ := dec_head t ht1
  have hdig : ∀ c ∈ decDigits t, isDig c := dec_digs t
  have hlen : (decDigits t).length = nDigits t := decDigits_length t
  have hnd := nDigits_pos t
  generalize decDigits t = S at *
  have hd0 : isDig c0 := hdig c0 (by rw [hS]; simp)
  unfold placedB
  split
  · rename_i h
    obtain ⟨k, hk⟩ : ∃ k : Nat, x = k := ⟨x.toNat, by omega⟩
    have e : (((nDigits t : Nat) : Int) + x - (S.length : Nat)).toNat = k := by omega
    rw [e]
    exact .inl ⟨k, hk, rfl⟩
  · refine .inr ?_
    split
    · rename_i h
      obtain ⟨j, hj⟩ : ∃ j : Nat, ((nDigits t : Nat) : Int) + x = j := ⟨(((nDigits t : Nat) : Int) + x).toNat, by omega⟩
      rw [hj, Int.toNat_natCast]
      obtain ⟨j', rfl⟩ : ∃ j', j = j' + 1 := ⟨j - 1, by omega⟩
      obtain ⟨f, F, hF⟩ : ∃ f F, S.drop (j' + 1) = f :: F := by
        cases e : S.drop (j' + 1) with
        | nil =>
          have := congrArg List.length e
          rw [List.length_drop] at this
          simp at this
          omega
        | cons f F => exact ⟨f, F, rfl⟩
      have hf : ∀ c ∈ f :: F, isDig c := fun c hc => hdig c (by rw [← hF] at hc; exact List.mem_of_mem_drop hc)
      refine ⟨c0, (l0.take j'), 46 :: f :: F, [], ⟨?_, dig_ok hd0, ?_, fun h => absurd h hc0, .inr ⟨f, F, rfl, dig_ok (hf f (by simp)), digs_all fun c hc => hf c (by simp [hc])⟩, .inl rfl⟩, by simp⟩
      · rw [hF, hS, List.take_succ_cons]; simp
      · exact digs_all fun c hc => hdig c (by rw [hS]; exact List.mem_cons_of_mem _ (List.mem_of_mem_take hc))
    · split
      · rename_i h
        obtain ⟨j, hj⟩ : ∃ j : Nat, -(((nDigits t : Nat) : Int) + x) = j := ⟨(-(((nDigits t : Nat) : Int) + x)).toNat, by omega⟩
        rw [hj, Int.toNat_natCast]
        have hall : ∀ c ∈ List.replicate j 48 ++ S, isDig c := fun c hc => (List.mem_append.1 hc).elim (fun h => by rw [z48 j c h]; exact dig48) (hdig c)
        obtain ⟨f, F, hF⟩ : ∃ f F, List.replicate j 48 ++ S = f :: F := by
          cases e : List.replicate j 48 ++ S with
          | nil => rw [hS] at e; simp at e
          | cons f F => exact ⟨f, F, rfl⟩
        rw [hF] at hall ⊢
        exact ⟨48, [], 46 :: f :: F, [], ⟨by simp, by decide, rfl, fun _ => rfl, .inr ⟨f, F, rfl, dig_ok (hall f (by simp)), digs_all fun c hc => hall c (by simp [hc])⟩, .inl rfl⟩, by simp⟩
      · generalize hy : ((nDigits t : Nat) : Int) + x - 1 = y
        obtain ⟨d, X, e, hd, -⟩ := dec_cons y.natAbs
        have hX : X.all isDgB = true := digs_all fun z hz => dec_digs y.natAbs z (by rw [e]; simp [hz])
        have hex : ∃ sg, expS y = 101 :: sg :: d :: X ∧ (sg = 43 ∨ sg = 45) := by
          unfold expS
          rw [e]
          by_cases hn : y < 0
          · rw [if_pos hn]; exact ⟨45, rfl, .inr rfl⟩
          · rw [if_neg hn]; exact ⟨43, rfl, .inl rfl⟩
        obtain ⟨sg, hex, hsg⟩ := hex
        rw [hex]
        by_cases h1 : 1 < S.length
        · rw [if_pos h1]
          obtain ⟨f, F, hF⟩ : ∃ f F, l0 = f :: F := by
            cases e : l0 with
            | nil => rw [hS, e] at h1; simp at h1
            | cons f F => exact ⟨f, F, rfl⟩
          have hf : ∀ c ∈ f :: F, isDig c := fun c hc => hdig c (by rw [hS, hF]; exact List.mem_cons_of_mem _ hc)
          refine ⟨c0, [], 46 :: f :: F, 101 :: sg :: d :: X, ⟨?_, dig_ok hd0, rfl, fun _ => rfl, .inr ⟨f, F, rfl, dig_ok (hf f (by simp)), digs_all fun c hc => hf c (by simp [hc])⟩, .inr ⟨sg, d, X, rfl, hsg, dig_ok hd, hX⟩⟩, by simp⟩
          rw [hS, hF]
          simp
        · rw [if_neg h1]
          have hl0 : l0 = [] := by
            rw [hS, List.length_cons] at h1
            exact List.eq_nil_of_length_eq_zero (by omega)
          refine ⟨c0, [], [], 101 :: sg :: d :: X, ⟨?_, dig_ok hd0, rfl, fun _ => rfl, .inl rfl, .inr ⟨sg, d, X, rfl, hsg, dig_ok hd, hX⟩⟩, by simp⟩
          rw [hS, hl0]
          rfl
theorem any_ext {ng : Bool} {l : List UInt8} {c : UInt8} {W fr ex : List UInt8} (h : NumT l c W fr ex) (hne : fr ++ ex ≠ []) : (sgB ng ++ l).any (fun c => c == 46 || c == 101) = true := by
  rw [List.any_eq_true]
  rcases h.fr with e | ⟨y, F, e, -⟩
  · rcases h.ex with e2 | ⟨sg, y, X, e2, -⟩
    · rw [e, e2] at hne; exact absurd rfl hne
    · exact ⟨101, by rw [h.eq, e, e2]; simp, by decide⟩
  · exact ⟨46, by rw [h.eq, e]; simp, by decide⟩
theorem any_digs {ng : Bool} {l : List UInt8} (h : ∀ c ∈ l, isDig c) : (sgB ng ++ l).any (fun c => c == 46 || c == 101) = false := by
  rw [List.any_eq_false]
  intro c hc
  rcases List.mem_append.1 hc with hc | hc
  · cases ng <;> simp [sgB] at hc
    rw [hc]; decide
  · obtain ⟨h1, h2⟩ := h c hc
    have e1 : c ≠ 46 := by rintro rfl; exact absurd h1 (by decide)
    have e2 : c ≠ 101 := by rintro rfl; exact absurd h2 (by decide)
    simp [e1, e2]
theorem back_fin {u : Nat} (h : infU u = false) : backN u = u := by
  have h := of_decide_eq_false h
  unfold backN
  rw [if_neg (by omega)]

/-- digits with '.0' behind -/
theorem dot_zero (D : List UInt8) (c : UInt8) (W : List UInt8) (e : D = c :: W) (hD : ∀ x ∈ D, isDig x) (hz : c = 48 → W = []) :
    NumT (D ++ [46, 48]) c W [46, 48] [] ∧ decB (D ++ [46, 48]) = true ∧ DecIs (D ++ [46, 48]) (D ++ [48]) (-1) := by
  refine ⟨⟨by rw [e]; simp, dig_ok (hD c (by rw [e]; simp)), digs_all fun x hx => hD x (by rw [e]; simp [hx]), hz, .inr ⟨48, [], rfl, by decide, rfl⟩, .inl rfl⟩, ?_, ?_⟩
  · show endB (foldS 1 (D ++ [46, 48])) = true
    have h3 : foldS 1 D = 3 ∨ foldS 1 D = 2 := by
      by_cases h0 : c = 48
      · rw [e, h0, hz h0]; exact .inr (by decide)
      · rw [e, foldS_cons, dig_class2 (hD c (by rw [e]; simp)) h0]
        exact .inl (foldS_digs 3 (by decide) (by decide) W fun x hx => hD x (by rw [e]; simp [hx]))
    rw [foldS_app]
    rcases h3 with h | h <;> rw [h] <;> decide
  · refine ⟨D, [48], true, D ++ [46, 48], ⟨rfl, hD, fun x hx => by simp at hx; rw [hx]; exact dig48, by simp⟩, by simp, rfl, .inl ⟨bars_digs _ fun x hx => ?_, rfl⟩⟩
    rcases List.mem_append.1 hx with h | h
    · exact dig95 (hD x h)
    · simp at h; rcases h with rfl | rfl <;> decide

set_option maxRecDepth 100000 in
theorem flt_ok (u : Nat) (hu : u < 18446744073709551616) (hi : infU u = false) : NJ (fltN u) (jFlt u) ∧ NumS (fltN u) := by
  have hb := showB_fin u hi
  have hl := showB_len u
  have hru : ru u < 9218868437227405312 := by have := of_decide_eq_false hi; omega
  have hsg := ru_sg u hu
  -- digits, whole
  have whole : ∀ (D : List UInt8) (c : UInt8) (W : List UInt8), showB u = sgB (ngB u) ++ D → D = c :: W → (∀ x ∈ D, isDig x) → (c = 48 → W = []) → (∀ x ∈ (dropZ (D ++ [48])).drop 19, x = 48) → Near (dX (dvl 10 D) 0) (dQ 0) (ru u) → NJ (fltN u) (jFlt u) ∧ NumS (fltN u) := by
    intro D c W h1 h2 h3 h4 h5 h6
    obtain ⟨k1, k2, k3⟩ := dot_zero D c W h2 h3 h4
    have hf : fltN u = sgB (ngB u) ++ (D ++ [46, 48]) := by
      unfold fltN
      rw [hi, if_neg (by decide), h1, any_digs h3, if_neg (by decide), List.append_assoc]
    have hlen : (sgB (ngB u) ++ (D ++ [46, 48])).length ≤ 103 := by
      rw [h1, List.length_append] at hl
      rw [List.length_append, List.length_append]
      simp only [List.length_cons, List.length_nil]
      omega
    rw [hf]
    refine ⟨.flt (ngB u) (D ++ [46, 48]) c W [46, 48] [] rfl k1 (by rw [List.length_append] at hlen; omega) (.inl (by simp)) hu hi ?_, numS_of _ k1⟩
    intro K w hG hT
    have hsz : (⟨(sgB (ngB u) ++ (D ++ [46, 48])).toArray⟩ : ByteArray).size ≤ 400 := by rw [ba_size]; omega
    have hp := parse_noughts ⟨(sgB (ngB u) ++ (D ++ [46, 48])).toArray⟩ (ngB u) (D ++ [46, 48]) (D ++ [48]) (-1) K w hG hT rfl hsz k2 k3 h5
    refine hp.mono ?_
    rintro e w' ⟨r, hn, rfl, hb⟩
    have hv : dvl 10 (D ++ [48]) = dvl 10 D * 10 ^ 1 := by rw [dvl_app]; simp [dvl, dv]
    rw [hv] at hn
    obtain rfl := near_unique hn (near_down (dvl 10 D) 1 (ru u) (-1) h6)
    rw [hsg]
    exact ⟨rfl, hb⟩
  by_cases h0 : ru u = 0
  · rw [if_pos h0] at hb
    refine whole [48] 48 [] hb rfl (fun x hx => by simp at hx; rw [hx]; exact dig48) (fun _ => rfl) (by decide) ?_
    rw [h0]
    exact zero_near 0
  · rw [if_neg h0] at hb
    obtain ⟨t, x, ht, h19, hx, hsh, hn⟩ := shown_split (ru u) (by omega) hru
    rcases placed_num t x ht with ⟨k, rfl, hp⟩ | ⟨c, W, fr, ex, hT, hne⟩
    · rw [hsh, hp] at hb
      obtain ⟨c0, l0, hS, hc0⟩ := dec_head t (by omega)
      have hall : ∀ c ∈ decDigits t ++ List.replicate k 48, isDig c := fun c hc => (List.mem_append.1 hc).elim (dec_digs t c) fun h => by rw [z48 k c h]; exact dig48
      refine whole (decDigits t ++ List.replicate k 48) c0 (l0 ++ List.replicate k 48) hb (by rw [hS]; rfl) hall (fun h => absurd h hc0) ?_ ?_
      · have hdz : dropZ (decDigits t ++ List.replicate k 48 ++ [48]) = decDigits t ++ List.replicate k 48 ++ [48] := by
          rw [hS]; unfold dropZ
          rw [List.cons_append, List.cons_append, List.dropWhile_cons, if_neg (by simpa using hc0)]
        rw [hdz, List.append_assoc, List.drop_append, List.drop_eq_nil_of_le (by rw [decDigits_length]; omega), List.nil_append]
        intro y hy
        rcases List.mem_append.1 (List.mem_of_mem_drop hy) with h | h
        · exact z48 k y h
        · simpa using h
      · have hv : dvl 10 (decDigits t ++ List.replicate k 48) = t * 10 ^ k := by rw [dvl_app, dvl_dec, dvl_zeros, List.length_replicate, Nat.add_zero]
        rw [hv]
        exact near_down t k (ru u) 0 (by rwa [Int.zero_add])
    · rw [← hsh] at hT
      have hf : fltN u = sgB (ngB u) ++ showA (ru u) := by
        unfold fltN
        rw [hi, if_neg (by decide), hb, any_ext hT hne, if_pos rfl]
      rw [hb] at hl
      have hpb := fun K w hG hW => parse_back u K w hu hG hW
      rw [hf]
      refine ⟨.flt (ngB u) (showA (ru u)) c W fr ex rfl hT (by rw [List.length_append] at hl; omega) (.inl hne) hu hi ?_, numS_of _ hT⟩
      intro K w hG hT
      have := hpb K w hG hT
      rwa [hb, back_fin hi] at this

def infI (u : Int) : Bool := infU u.toNat
theorem num_ok : NumOK NJ Lib.itoa fltI infI := by
  refine ⟨int_ok, fun u h1 h2 hi => ?_, fun u h1 h2 hi => ?_⟩
  · obtain ⟨m, rfl⟩ : ∃ m : Nat, u = (m : Int) := ⟨u.toNat, by omega⟩
    have := flt_ok m (by omega) (by unfold infI at hi; rwa [Int.toNat_natCast] at hi)
    unfold fltI
    rwa [Int.toNat_natCast]
  · unfold fltI fltN
    unfold infI at hi
    rw [hi, if_pos rfl]
end Go.Proofs.YtckaoeloofbklaaGreatDoor

/- json.twice: does a name stand twice in a list? Structs that are compared. -/
namespace Go.Proofs.YtckaoeloofbklaaGreatDoor
open Go Go.RowKit Go.Maps

def cntS (l : List ByteArray) (x : ByteArray) : Nat := l.countP fun y => decide (y = x)
theorem cntS_app (l : List ByteArray) (y x : ByteArray) : cntS (l ++ [y]) x = cntS l x + if y = x then 1 else 0 := by unfold cntS; rw [List.countP_append, List.countP_singleton]; simp
theorem cntS_le (l : List ByteArray) (x : ByteArray) : cntS l x ≤ l.length := List.countP_le_length

theorem lawT : Keyed Tryz.prog 9 := string_keyed Tryz.underlying9
theorem zeroT (w : World) : (zeroValue 3).run Tryz.prog w = .ok (.int .i64 0) w := by kernel_rfl

/-- a map that says how often each name stands in a list -/
def Cnt (D : DataW Unit) (l : List ByteArray) : Prop := IsMap D ∧ ∀ x : ByteArray, D.atKey (.string x.data.toList) (.lit (.int .i64 0)) = .lit (.int .i64 (cntS l x : Nat))
theorem Cnt.none : Cnt (.map []) [] := ⟨isMap_empty, fun x => by rfl⟩
theorem keyLitT (k : List UInt8) : WideAt.IsKeyLit (.string k) := by simp [WideAt.IsKeyLit]
theorem Cnt.put {D : DataW Unit} {l : List ByteArray} (h : Cnt D l) (x : ByteArray) (m : Nat) (hm : cntS l x = m) : Cnt (D.put (.string x.data.toList) (.lit (.int .i64 ((m : Int) + 1)))) (l ++ [x]) := by
  refine ⟨h.1.put _ _, fun y => ?_⟩
  rw [cntS_app]
  by_cases hy : x = y
  · subst hy
    rw [atKey_put_same h.1 (keyLitT _), hm, if_pos rfl]
    rfl
  · rw [atKey_put_other (fun e => hy (ByteArray.ext (Array.toList_inj.1 (by injection e with e; exact e.symm)))), h.2 y, if_neg hy]
    rfl

theorem wpList_look_cnt {P : Program} (hP : P = Tryz.prog) (w : World) {ops : Array Oper} {rest : List Oper} {o : Oper} {a : Act} {Q : Exit → Act → World → Prop} (hg : o.guard = Option.none) (m x : Operand) (hop : o.op = Op.lookup 158 m x false)
    (b n : Nat) (D : DataW Unit) (ws : List ByteArray) (hm : a.eval m = .map (some b)) (hown : w.ownsMap Tryz.prog 9 (plainElem Tryz.prog 3) b n D) (hc : Cnt D ws) (key : ByteArray) (hk : key.size ≤ maxLen) (hx : a.eval x = .string key) (c : Int) (hcn : (cntS ws key : Nat) = c)
    (hK : wpList P ops Q rest (a.put o.dst (.int .i64 c)) w) : wpList P ops Q (o :: rest) a w := by
  subst hP
  refine wpList_lookup_own_int w hg m x _ hop 9 3 .i64 lawT Tryz.underlying158 Tryz.underlying3 (zeroT w) b n D hm hown _ _ hx (WideMaps.keyOf_string_mk Tryz.underlying9 hk) ?_
  intro c' hat _
  rw [hc.2 key] at hat
  have e : c' = c := by
    simp only [DataW.lit.injEq, Lit.int.injEq, true_and] at hat
    rw [← hat, hcn]
  rw [e]
  exact hK

theorem mem_of_count {l : List ByteArray} {x : ByteArray} {m : Nat} (h : cntS l x = m) (hm : 1 ≤ m) : x ∈ l := by
  have : 0 < List.countP (fun y => decide (y = x)) l := by unfold cntS at h; omega
  obtain ⟨y, hy, h2⟩ := List.countP_pos_iff.1 this
  rwa [of_decide_eq_true h2] at hy
theorem count_of_mem {l : List ByteArray} {x : ByteArray} (h : x ∈ l) : 0 < cntS l x := List.countP_pos_iff.2 ⟨x, h, decide_eq_true rfl⟩

set_option maxRecDepth 100000 in
set_option maxHeartbeats 4000000 in
theorem twice_any (ok : Nat → Prop) (a : Option Addr) (c : Nat) (ks : List ByteArray) (w : World) (h : StrsAt ok w a ks) (hn : ks.length ≤ 35184372080000) (hs : ∀ k ∈ ks, k.size ≤ maxLen) :
    Calls Tryz.prog 85 #[.slice a ks.length c] w fun e w' => e = .returned (.bool (decide (¬ ks.Nodup))) ∧ Below w.heap.size w w' := by
  have hmm := @run_makeMap Tryz.prog
  have H := Lib.hid h
  have HS := Lib.hid hs
  clear h hs
  go_enter Tryz.func85, Tryz.ntmps85
  go_wp2_with fail
  go_loopg [2, 5, 9] ks.length (fun g s2 _ s9 wr => ∃ (k : Nat) (D : DataW Unit), k + g = ks.length ∧ s2 = .bool false ∧ s9 = .int .i64 k ∧ wr.ownsMap Tryz.prog 9 (plainElem Tryz.prog 3) w.heap.size k D ∧ Cnt D (ks.take k) ∧ (ks.take k).Nodup ∧ Below w.heap.size w wr)
  case atStart => exact ⟨0, _, by omega, rfl, rfl, World.ownsMap_made _ _ _ _, by rw [List.take_zero]; exact Cnt.none, by rw [List.take_zero]; exact List.nodup_nil, (Below.refl _ _).alloc (Nat.le_refl _) _⟩
  case round =>
    obtain ⟨k, D, hk, rfl, rfl, hown, hcnt, hnd, hb⟩ := hrel
    have HO := Lib.hid hown
    have HC := Lib.hid hcnt
    have HB := Lib.hid hb
    have HN := Lib.hid hnd
    clear hown hcnt hb hnd
    by_cases hlt : k < ks.length
    · obtain ⟨x, hx⟩ : ∃ x, ks[k]? = some x := ⟨_, List.getElem?_eq_getElem hlt⟩
      obtain ⟨b, off, ha, -, hbw, hcell⟩ := H.out.resolve_left (by rintro rfl; simp at hlt)
      have hxs := HS.out x (List.mem_of_getElem? hx)
      have c0 : wr.cell? ⟨b, off + k, none⟩ = some (.string x) := by rw [HB.out.cell (p := ⟨b, off + k, none⟩) hbw]; exact hcell k x hx
      have htk : ks.take (k + 1) = ks.take k ++ [x] := by rw [List.take_add_one, hx]; rfl
      have HTK := Lib.hid htk
      have HX := Lib.hid hx
      obtain ⟨m, hm⟩ : ∃ m, cntS (ks.take k) x = m := ⟨_, rfl⟩
      have hmk : m ≤ k := by rw [← hm]; exact Nat.le_trans (cntS_le _ _) (by rw [List.length_take]; exact Nat.min_le_left _ _)
      have HM := Lib.hid hm
      have hwf : (Lit.int .i64 ((m : Int) + 1)).wf = true := by
        simp only [Lit.wf, IntKind.min, IntKind.max, IntKind.signed, IntKind.bits]
        simp
        omega
      subst ha
      clear htk hm hcell hx
      go_wp2_with (first
        | (at_lookup; refine wpList_look_cnt rfl _ rfl _ _ rfl w.heap.size k D _ rfl HO.out HC.out x hxs rfl (m : Int) (congrArg Nat.cast HM.out) ?_)
        | (at_mapUpdate; refine wpList_mapUpdate_own _ rfl _ _ _ 158 rfl 9 3 lawT Tryz.underlying158 _ w.heap.size k D rfl HO.out (by unfold maxLen; omega) _ _ _ rfl rfl (WideMaps.keyOf_string_mk Tryz.underlying9 hxs) _ [] (plainElem_int Tryz.underlying3 hwf) ?_)
        | fail)
      intro w3 hown3 hgr3
      have hc3 := HC.out.put x m HM.out
      rw [← HTK.out] at hc3
      have hct : (cntS (ks.take (k + 1)) x : Nat) = ((m : Int) + 1) := by
        rw [HTK.out, cntS_app, HM.out, if_pos rfl]; rfl
      have HO3 := Lib.hid hown3
      have HC3 := Lib.hid hc3
      have HT3 := Lib.hid hct
      have HB3 := Lib.hid (HB.out.grown hgr3 HB.out.size (fun j hj => by cases hj; exact Nat.le_refl _))
      clear hown3 hc3 hct hgr3 c0
      rcases Nat.eq_zero_or_pos m with rfl | hm0
      · go_wp2_with (first | (at_lookup; refine wpList_look_cnt rfl _ rfl _ _ rfl w.heap.size (k + 1) _ _ rfl HO3.out HC3.out x hxs rfl _ HT3.out ?_) | fail)
        go_roundg (gk - 1)
        case measure => omega
        case rel =>
          refine ⟨k + 1, _, by omega, rfl, by go_num, HO3.out, HC3.out, ?_, HB3.out⟩
          rw [HTK.out, List.nodup_append]
          refine ⟨HN.out, by simp, fun y hy z hz => ?_⟩
          rw [List.mem_singleton] at hz
          subst hz
          rintro rfl
          have := count_of_mem hy
          rw [HM.out] at this
          omega
      · have hgt : (1 : Int) < (m : Int) + 1 := by omega
        go_wp2_with (first | (at_lookup; refine wpList_look_cnt rfl _ rfl _ _ rfl w.heap.size (k + 1) _ _ rfl HO3.out HC3.out x hxs rfl _ HT3.out ?_) | fail)
        go_ret
        refine ⟨congrArg (fun b => Ending.returned (.bool b)) (decide_eq_true ?_).symm, HB3.out⟩
        intro hnd
        have h1 : (ks.take (k + 1)).Nodup := hnd.sublist (List.take_sublist _ _)
        rw [HTK.out, List.nodup_append] at h1
        exact h1.2.2 x (mem_of_count HM.out hm0) x (by simp) rfl
    · obtain rfl : k = ks.length := by omega
      go_wp2_with fail
      go_ret
      refine ⟨congrArg (fun b => Ending.returned (.bool b)) (decide_eq_false ?_).symm, HB.out⟩
      have := HN.out
      rw [List.take_length] at this
      exact fun h => h this

/-- two structs of the four plain fields -/
theorem rest_eql (b b' : Bool) (n n' u u' : Int) (s s' : ByteArray) (W : World) : (binOp .eql 63 (.agg #[.bool b, .int .i64 n, .int .u64 u, .string s]) (.agg #[.bool b', .int .i64 n', .int .u64 u', .string s'])).run Tryz.prog W = .ok (.bool (decide (b = b' ∧ n = n' ∧ u = u' ∧ s = s'))) W := by
  have uB := Tryz.underlying4
  have uI := Tryz.underlying2
  have uU := Tryz.underlying23
  have uS := Tryz.underlying9
  have hS : Tryz.prog.underlying 63 = some (.struct (Tryz.prog.fieldsOf 63)) := by kernel_rfl
  have hp : Tryz.prog.stoodInHeld 63 = false := by kernel_rfl
  rw [run_eql_struct, show (10000 : Nat) = 9999 + 1 from rfl, run_equalIn_agg W 9999 63 _ _ hS hp]
  simp only [Program.fieldsOf, Tryz.underlying63]
  have hs : s.toList = s'.toList ↔ s = s' := by
    rw [ByteArray.toList_eq, ByteArray.toList_eq]
    exact ⟨fun h => ByteArray.ext (Array.toList_inj.1 h), fun h => by rw [h]⟩
  go_simp
  by_cases h1 : b = b' <;> by_cases h2 : n = n' <;> by_cases h3 : u = u' <;> by_cases h4 : s = s' <;> simp [h1, h2, h3, h4]
end Go.Proofs.YtckaoeloofbklaaGreatDoor

/- json.plain: has a value just the fields that its kind names? -/
namespace Go.Proofs.YtckaoeloofbklaaGreatDoor
open Go Go.RowKit Go.Lib

theorem cell_agg4 {w : World} {b : Nat} {x0 x1 x2 x3 : Value} {T : TypeId} {f : Nat × Nat} (h : w.heap[b]? = some (.cells #[x0, x1, x2, x3] T f)) :
    w.cell? ⟨b, 0, none⟩ = some x0 ∧ w.cell? ⟨b, 1, none⟩ = some x1 ∧ w.cell? ⟨b, 2, none⟩ = some x2 ∧ w.cell? ⟨b, 3, none⟩ = some x3 := by
  refine ⟨?_, ?_, ?_, ?_⟩ <;> simp [World.cell?, h]
theorem rbool {a b : Bool} (h : a = b) : Ending.returned (.bool a) = Ending.returned (.bool b) := by rw [h]
set_option maxRecDepth 100000 in
set_option maxHeartbeats 4000000 in
theorem plain_no (b : Bool) (n u : Int) (s : ByteArray) (ks : List ByteArray) (vs : List JV) (ka : Option Addr) (kc : Nat) (a : Option Addr) (c : Nat) (w : World) (k : Int) (_hk0 : 0 ≤ k) (_hk9 : k < 256) (hk : k ≠ 1 ∧ k ≠ 2 ∧ k ≠ 3 ∧ k ≠ 4 ∧ k ≠ 5 ∧ k ≠ 6 ∧ k ≠ 7) :
    Calls Tryz.prog 56 #[.agg #[.int .u8 k, .bool b, .int .i64 n, .int .u64 u, .string s, .slice ka ks.length kc, .slice a vs.length c]] w fun e w' => e = .returned (.bool (JV.plain (.mk k b n u s ks vs))) ∧ Below w.heap.size w w' := by
  have hbx := heap_alloc_new w (.cells #[.int .u8 k, .bool b, .int .i64 n, .int .u64 u, .string s, .slice ka ks.length kc, .slice a vs.length c] 27)
  have hbA : Below w.heap.size w (w.alloc (.cells #[.int .u8 k, .bool b, .int .i64 n, .int .u64 u, .string s, .slice ka ks.length kc, .slice a vs.length c] 27)) := (Below.refl _ _).alloc (Nat.le_refl _) _
  have hsA : (w.alloc (.cells #[.int .u8 k, .bool b, .int .i64 n, .int .u64 u, .string s, .slice ka ks.length kc, .slice a vs.length c] 27)).heap.size = w.heap.size + 1 := by simp
  obtain ⟨c0, c1, c2, c3, c4, c5, c6⟩ := cell_agg7 hbx
  have HBX := Lib.hid hbx
  have HBA := Lib.hid hbA
  clear hbx hbA
  obtain ⟨hk1, hk2, hk3, hk4, hk5, hk6, hk7⟩ := hk
  go_enter Tryz.func56, Tryz.ntmps56
  go_upto_region 1 with fail
  generalize w.alloc (.cells #[.int .u8 k, .bool b, .int .i64 n, .int .u64 u, .string s, .slice ka ks.length kc, .slice a vs.length c] 27) = wA at *
  go_upto_region 2 with fail
  have hX := heap_alloc_new wA (.cells #[.bool b, .int .i64 n, .int .u64 u, .string s] 63)
  have hXb : Below w.heap.size w (wA.alloc (.cells #[.bool b, .int .i64 n, .int .u64 u, .string s] 63)) := HBA.out.alloc HBA.out.size _
  have hXo := (heapJ_old wA (.cells #[.bool b, .int .i64 n, .int .u64 u, .string s] 63) w.heap.size (by omega)).trans HBX.out
  generalize wA.alloc (.cells #[.bool b, .int .i64 n, .int .u64 u, .string s] 63) = W1 at *
  clear c0 c1 c2 c3 c4 c5 c6
  obtain ⟨c0, c1, c2, c3, c4, c5, c6⟩ := cell_agg7 hXo
  rw [hsA] at hX
  obtain ⟨e0, e1, e2, e3⟩ := cell_agg4 hX
  have q : ∀ j, W1.frozen? ⟨w.heap.size + 1, j, none⟩ = false := fun j => froz_agg hX j
  have HXB := Lib.hid hXb
  clear hX hXb hXo
  have HP := Lib.hid (show JV.plain (.mk k b n u s ks vs) = false by simp only [JV.plain]; rw [if_neg hk1, if_neg hk2, if_neg hk3, if_neg hk4, if_neg hk5, if_neg hk6, if_neg hk7])
  go_wp2_with fail
  go_quiet (fail)
  go_wp2_with fail
  go_ret
  exact ⟨rbool HP.out.symm, bDrewN HXB.out _⟩

theorem plainv_1 (b : Bool) (n u : Int) (s : ByteArray) (ks : List ByteArray) (vs : List JV) : JV.plain (.mk 1 b n u s ks vs) = (decide (b = false ∧ n = 0 ∧ u = 0 ∧ s = ⟨#[]⟩) && decide (vs.length = 0) && decide (ks.length = 0)) := by
  rw [Bool.eq_iff_iff]
  simp [JV.plain] <;> grind

set_option maxRecDepth 100000 in
set_option maxHeartbeats 4000000 in
theorem plain_1 (b : Bool) (n u : Int) (s : ByteArray) (ks : List ByteArray) (vs : List JV) (ka : Option Addr) (kc : Nat) (a : Option Addr) (c : Nat) (w : World) :
    Calls Tryz.prog 56 #[.agg #[.int .u8 1, .bool b, .int .i64 n, .int .u64 u, .string s, .slice ka ks.length kc, .slice a vs.length c]] w fun e w' => e = .returned (.bool (JV.plain (.mk 1 b n u s ks vs))) ∧ Below w.heap.size w w' := by
  have hbx := heap_alloc_new w (.cells #[.int .u8 1, .bool b, .int .i64 n, .int .u64 u, .string s, .slice ka ks.length kc, .slice a vs.length c] 27)
  have hbA : Below w.heap.size w (w.alloc (.cells #[.int .u8 1, .bool b, .int .i64 n, .int .u64 u, .string s, .slice ka ks.length kc, .slice a vs.length c] 27)) := (Below.refl _ _).alloc (Nat.le_refl _) _
  have hsA : (w.alloc (.cells #[.int .u8 1, .bool b, .int .i64 n, .int .u64 u, .string s, .slice ka ks.length kc, .slice a vs.length c] 27)).heap.size = w.heap.size + 1 := by simp
  obtain ⟨c0, c1, c2, c3, c4, c5, c6⟩ := cell_agg7 hbx
  have HBX := Lib.hid hbx
  have HBA := Lib.hid hbA
  clear hbx hbA
  go_enter Tryz.func56, Tryz.ntmps56
  go_upto_region 1 with fail
  generalize w.alloc (.cells #[.int .u8 1, .bool b, .int .i64 n, .int .u64 u, .string s, .slice ka ks.length kc, .slice a vs.length c] 27) = wA at *
  go_upto_region 2 with fail
  have hX := heap_alloc_new wA (.cells #[.bool b, .int .i64 n, .int .u64 u, .string s] 63)
  have hXb : Below w.heap.size w (wA.alloc (.cells #[.bool b, .int .i64 n, .int .u64 u, .string s] 63)) := HBA.out.alloc HBA.out.size _
  have hXo := (heapJ_old wA (.cells #[.bool b, .int .i64 n, .int .u64 u, .string s] 63) w.heap.size (by omega)).trans HBX.out
  generalize wA.alloc (.cells #[.bool b, .int .i64 n, .int .u64 u, .string s] 63) = W1 at *
  clear c0 c1 c2 c3 c4 c5 c6
  obtain ⟨c0, c1, c2, c3, c4, c5, c6⟩ := cell_agg7 hXo
  rw [hsA] at hX
  obtain ⟨e0, e1, e2, e3⟩ := cell_agg4 hX
  have q : ∀ j, W1.frozen? ⟨w.heap.size + 1, j, none⟩ = false := fun j => froz_agg hX j
  have HXB := Lib.hid hXb
  clear hX hXb hXo
  obtain ⟨E, hE⟩ : ∃ E, E = decide (b = false ∧ n = 0 ∧ u = 0 ∧ s = ⟨#[]⟩) := ⟨_, rfl⟩
  have hre : ∀ W, (binOp .eql 63 (.agg #[.bool b, .int .i64 n, .int .u64 u, .string s]) (.agg #[.bool false, .int .i64 0, .int .u64 0, .string ⟨#[]⟩])).run Tryz.prog W = .ok (.bool E) W := fun W => by rw [rest_eql, hE] <;> simp
  have heg : Tryz.prog.eqGuardType Tryz.prog.depth 63 = false := by kernel_rfl
  have HP := Lib.hid (plainv_1 b n u s ks vs)
  rw [← hE] at HP
  clear hE
  cases E with
  | false =>
    go_wp2_with fail
    go_quiet (fail)
    go_wp2_with fail
    go_ret
    exact ⟨rbool (by rw [HP.out]; rfl), bDrewN HXB.out _⟩
  | true =>
    rcases Nat.eq_zero_or_pos vs.length with hv | hv
    · have hv1 : ((vs.length : Int) == 0) = true := by rw [beq_iff_eq]; omega
      have hv2 : (vs.length : Int) = 0 := by omega
      have HV := Lib.hid hv
      clear hv
      rcases Nat.eq_zero_or_pos ks.length with hq | hq
      · have hq1 : ((ks.length : Int) == 0) = true := by rw [beq_iff_eq]; omega
        have hq2 : (ks.length : Int) = 0 := by omega
        have HQ := Lib.hid hq
        clear hq
        go_wp2_with fail
        go_quiet (fail)
        go_wp2_with fail
        go_ret
        exact ⟨rbool (by rw [HP.out]; rw [decide_eq_true HV.out]; rw [decide_eq_true HQ.out]; rfl), bDrewN HXB.out _⟩
      · have hq1 : ((ks.length : Int) == 0) = false := by rw [beq_eq_false_iff_ne]; omega
        have hq2 : ¬ (ks.length : Int) = 0 := by omega
        have HQ := Lib.hid hq
        clear hq
        go_wp2_with fail
        go_quiet (fail)
        go_wp2_with fail
        go_ret
        exact ⟨rbool (by rw [HP.out]; rw [decide_eq_true HV.out]; rw [decide_eq_false (show ¬ ks.length = 0 by have := HQ.out; omega)]; rfl), bDrewN HXB.out _⟩
    · have hv1 : ((vs.length : Int) == 0) = false := by rw [beq_eq_false_iff_ne]; omega
      have hv2 : ¬ (vs.length : Int) = 0 := by omega
      have HV := Lib.hid hv
      clear hv
      go_wp2_with fail
      go_quiet (fail)
      go_wp2_with fail
      go_ret
      exact ⟨rbool (by rw [HP.out]; rw [decide_eq_false (show ¬ vs.length = 0 by have := HV.out; omega)]; rfl), bDrewN HXB.out _⟩

theorem plainv_2 (b : Bool) (n u : Int) (s : ByteArray) (ks : List ByteArray) (vs : List JV) : JV.plain (.mk 2 b n u s ks vs) = (decide (n = 0 ∧ u = 0 ∧ s = ⟨#[]⟩) && decide (vs.length = 0) && decide (ks.length = 0)) := by
  rw [Bool.eq_iff_iff]
  simp [JV.plain] <;> grind

set_option maxRecDepth 100000 in
set_option maxHeartbeats 4000000 in
theorem plain_2 (b : Bool) (n u : Int) (s : ByteArray) (ks : List ByteArray) (vs : List JV) (ka : Option Addr) (kc : Nat) (a : Option Addr) (c : Nat) (w : World) :
    Calls Tryz.prog 56 #[.agg #[.int .u8 2, .bool b, .int .i64 n, .int .u64 u, .string s, .slice ka ks.length kc, .slice a vs.length c]] w fun e w' => e = .returned (.bool (JV.plain (.mk 2 b n u s ks vs))) ∧ Below w.heap.size w w' := by
  have hbx := heap_alloc_new w (.cells #[.int .u8 2, .bool b, .int .i64 n, .int .u64 u, .string s, .slice ka ks.length kc, .slice a vs.length c] 27)
  have hbA : Below w.heap.size w (w.alloc (.cells #[.int .u8 2, .bool b, .int .i64 n, .int .u64 u, .string s, .slice ka ks.length kc, .slice a vs.length c] 27)) := (Below.refl _ _).alloc (Nat.le_refl _) _
  have hsA : (w.alloc (.cells #[.int .u8 2, .bool b, .int .i64 n, .int .u64 u, .string s, .slice ka ks.length kc, .slice a vs.length c] 27)).heap.size = w.heap.size + 1 := by simp
  obtain ⟨c0, c1, c2, c3, c4, c5, c6⟩ := cell_agg7 hbx
  have HBX := Lib.hid hbx
  have HBA := Lib.hid hbA
  clear hbx hbA
  go_enter Tryz.func56, Tryz.ntmps56
  go_upto_region 1 with fail
  generalize w.alloc (.cells #[.int .u8 2, .bool b, .int .i64 n, .int .u64 u, .string s, .slice ka ks.length kc, .slice a vs.length c] 27) = wA at *
  go_upto_region 2 with fail
  have hX := heap_alloc_new wA (.cells #[.bool b, .int .i64 n, .int .u64 u, .string s] 63)
  have hXb : Below w.heap.size w (wA.alloc (.cells #[.bool b, .int .i64 n, .int .u64 u, .string s] 63)) := HBA.out.alloc HBA.out.size _
  have hXo := (heapJ_old wA (.cells #[.bool b, .int .i64 n, .int .u64 u, .string s] 63) w.heap.size (by omega)).trans HBX.out
  generalize wA.alloc (.cells #[.bool b, .int .i64 n, .int .u64 u, .string s] 63) = W1 at *
  clear c0 c1 c2 c3 c4 c5 c6
  obtain ⟨c0, c1, c2, c3, c4, c5, c6⟩ := cell_agg7 hXo
  rw [hsA] at hX
  obtain ⟨e0, e1, e2, e3⟩ := cell_agg4 hX
  have q : ∀ j, W1.frozen? ⟨w.heap.size + 1, j, none⟩ = false := fun j => froz_agg hX j
  have HXB := Lib.hid hXb
  clear hX hXb hXo
  obtain ⟨E, hE⟩ : ∃ E, E = decide (n = 0 ∧ u = 0 ∧ s = ⟨#[]⟩) := ⟨_, rfl⟩
  have hre : ∀ W, (binOp .eql 63 (.agg #[.bool false, .int .i64 n, .int .u64 u, .string s]) (.agg #[.bool false, .int .i64 0, .int .u64 0, .string ⟨#[]⟩])).run Tryz.prog W = .ok (.bool E) W := fun W => by rw [rest_eql, hE] <;> simp
  have heg : Tryz.prog.eqGuardType Tryz.prog.depth 63 = false := by kernel_rfl
  have HP := Lib.hid (plainv_2 b n u s ks vs)
  rw [← hE] at HP
  clear hE
  cases E with
  | false =>
    go_wp2_with fail
    go_quiet (fail)
    go_wp2_with fail
    go_ret
    exact ⟨rbool (by rw [HP.out]; rfl), (bDrewN HXB.out _).setCell (p := ⟨w.heap.size + 1, 0, none⟩) (Nat.le_succ _) _⟩
  | true =>
    rcases Nat.eq_zero_or_pos vs.length with hv | hv
    · have hv1 : ((vs.length : Int) == 0) = true := by rw [beq_iff_eq]; omega
      have hv2 : (vs.length : Int) = 0 := by omega
      have HV := Lib.hid hv
      clear hv
      rcases Nat.eq_zero_or_pos ks.length with hq | hq
      · have hq1 : ((ks.length : Int) == 0) = true := by rw [beq_iff_eq]; omega
        have hq2 : (ks.length : Int) = 0 := by omega
        have HQ := Lib.hid hq
        clear hq
        go_wp2_with fail
        go_quiet (fail)
        go_wp2_with fail
        go_ret
        exact ⟨rbool (by rw [HP.out]; rw [decide_eq_true HV.out]; rw [decide_eq_true HQ.out]; rfl), (bDrewN HXB.out _).setCell (p := ⟨w.heap.size + 1, 0, none⟩) (Nat.le_succ _) _⟩
      · have hq1 : ((ks.length : Int) == 0) = false := by rw [beq_eq_false_iff_ne]; omega
        have hq2 : ¬ (ks.length : Int) = 0 := by omega
        have HQ := Lib.hid hq
        clear hq
        go_wp2_with fail
        go_quiet (fail)
        go_wp2_with fail
        go_ret
        exact ⟨rbool (by rw [HP.out]; rw [decide_eq_true HV.out]; rw [decide_eq_false (show ¬ ks.length = 0 by have := HQ.out; omega)]; rfl), (bDrewN HXB.out _).setCell (p := ⟨w.heap.size + 1, 0, none⟩) (Nat.le_succ _) _⟩
    · have hv1 : ((vs.length : Int) == 0) = false := by rw [beq_eq_false_iff_ne]; omega
      have hv2 : ¬ (vs.length : Int) = 0 := by omega
      have HV := Lib.hid hv
      clear hv
      go_wp2_with fail
      go_quiet (fail)
      go_wp2_with fail
      go_ret
      exact ⟨rbool (by rw [HP.out]; rw [decide_eq_false (show ¬ vs.length = 0 by have := HV.out; omega)]; rfl), (bDrewN HXB.out _).setCell (p := ⟨w.heap.size + 1, 0, none⟩) (Nat.le_succ _) _⟩

theorem plainv_3 (b : Bool) (n u : Int) (s : ByteArray) (ks : List ByteArray) (vs : List JV) : JV.plain (.mk 3 b n u s ks vs) = (decide (b = false ∧ u = 0 ∧ s = ⟨#[]⟩) && decide (vs.length = 0) && decide (ks.length = 0)) := by
  rw [Bool.eq_iff_iff]
  simp [JV.plain] <;> grind

set_option maxRecDepth 100000 in
set_option maxHeartbeats 4000000 in
theorem plain_3 (b : Bool) (n u : Int) (s : ByteArray) (ks : List ByteArray) (vs : List JV) (ka : Option Addr) (kc : Nat) (a : Option Addr) (c : Nat) (w : World) :
    Calls Tryz.prog 56 #[.agg #[.int .u8 3, .bool b, .int .i64 n, .int .u64 u, .string s, .slice ka ks.length kc, .slice a vs.length c]] w fun e w' => e = .returned (.bool (JV.plain (.mk 3 b n u s ks vs))) ∧ Below w.heap.size w w' := by
  have hbx := heap_alloc_new w (.cells #[.int .u8 3, .bool b, .int .i64 n, .int .u64 u, .string s, .slice ka ks.length kc, .slice a vs.length c] 27)
  have hbA : Below w.heap.size w (w.alloc (.cells #[.int .u8 3, .bool b, .int .i64 n, .int .u64 u, .string s, .slice ka ks.length kc, .slice a vs.length c] 27)) := (Below.refl _ _).alloc (Nat.le_refl _) _
  have hsA : (w.alloc (.cells #[.int .u8 3, .bool b, .int .i64 n, .int .u64 u, .string s, .slice ka ks.length kc, .slice a vs.length c] 27)).heap.size = w.heap.size + 1 := by simp
  obtain ⟨c0, c1, c2, c3, c4, c5, c6⟩ := cell_agg7 hbx
  have HBX := Lib.hid hbx
  have HBA := Lib.hid hbA
  clear hbx hbA
  go_enter Tryz.func56, Tryz.ntmps56
  go_upto_region 1 with fail
  generalize w.alloc (.cells #[.int .u8 3, .bool b, .int .i64 n, .int .u64 u, .string s, .slice ka ks.length kc, .slice a vs.length c] 27) = wA at *
  go_upto_region 2 with fail
  have hX := heap_alloc_new wA (.cells #[.bool b, .int .i64 n, .int .u64 u, .string s] 63)
  have hXb : Below w.heap.size w (wA.alloc (.cells #[.bool b, .int .i64 n, .int .u64 u, .string s] 63)) := HBA.out.alloc HBA.out.size _
  have hXo := (heapJ_old wA (.cells #[.bool b, .int .i64 n, .int .u64 u, .string s] 63) w.heap.size (by omega)).trans HBX.out
  generalize wA.alloc (.cells #[.bool b, .int .i64 n, .int .u64 u, .string s] 63) = W1 at *
  clear c0 c1 c2 c3 c4 c5 c6
  obtain ⟨c0, c1, c2, c3, c4, c5, c6⟩ := cell_agg7 hXo
  rw [hsA] at hX
  obtain ⟨e0, e1, e2, e3⟩ := cell_agg4 hX
  have q : ∀ j, W1.frozen? ⟨w.heap.size + 1, j, none⟩ = false := fun j => froz_agg hX j
  have HXB := Lib.hid hXb
  clear hX hXb hXo
  obtain ⟨E, hE⟩ : ∃ E, E = decide (b = false ∧ u = 0 ∧ s = ⟨#[]⟩) := ⟨_, rfl⟩
  have hre : ∀ W, (binOp .eql 63 (.agg #[.bool b, .int .i64 0, .int .u64 u, .string s]) (.agg #[.bool false, .int .i64 0, .int .u64 0, .string ⟨#[]⟩])).run Tryz.prog W = .ok (.bool E) W := fun W => by rw [rest_eql, hE] <;> simp
  have heg : Tryz.prog.eqGuardType Tryz.prog.depth 63 = false := by kernel_rfl
  have HP := Lib.hid (plainv_3 b n u s ks vs)
  rw [← hE] at HP
  clear hE
  cases E with
  | false =>
    go_wp2_with fail
    go_quiet (fail)
    go_wp2_with fail
    go_ret
    exact ⟨rbool (by rw [HP.out]; rfl), (bDrewN HXB.out _).setCell (p := ⟨w.heap.size + 1, 1, none⟩) (Nat.le_succ _) _⟩
  | true =>
    rcases Nat.eq_zero_or_pos vs.length with hv | hv
    · have hv1 : ((vs.length : Int) == 0) = true := by rw [beq_iff_eq]; omega
      have hv2 : (vs.length : Int) = 0 := by omega
      have HV := Lib.hid hv
      clear hv
      rcases Nat.eq_zero_or_pos ks.length with hq | hq
      · have hq1 : ((ks.length : Int) == 0) = true := by rw [beq_iff_eq]; omega
        have hq2 : (ks.length : Int) = 0 := by omega
        have HQ := Lib.hid hq
        clear hq
        go_wp2_with fail
        go_quiet (fail)
        go_wp2_with fail
        go_ret
        exact ⟨rbool (by rw [HP.out]; rw [decide_eq_true HV.out]; rw [decide_eq_true HQ.out]; rfl), (bDrewN HXB.out _).setCell (p := ⟨w.heap.size + 1, 1, none⟩) (Nat.le_succ _) _⟩
      · have hq1 : ((ks.length : Int) == 0) = false := by rw [beq_eq_false_iff_ne]; omega
        have hq2 : ¬ (ks.length : Int) = 0 := by omega
        have HQ := Lib.hid hq
        clear hq
        go_wp2_with fail
        go_quiet (fail)
        go_wp2_with fail
        go_ret
        exact ⟨rbool (by rw [HP.out]; rw [decide_eq_true HV.out]; rw [decide_eq_false (show ¬ ks.length = 0 by have := HQ.out; omega)]; rfl), (bDrewN HXB.out _).setCell (p := ⟨w.heap.size + 1, 1, none⟩) (Nat.le_succ _) _⟩
    · have hv1 : ((vs.length : Int) == 0) = false := by rw [beq_eq_false_iff_ne]; omega
      have hv2 : ¬ (vs.length : Int) = 0 := by omega
      have HV := Lib.hid hv
      clear hv
      go_wp2_with fail
      go_quiet (fail)
      go_wp2_with fail
      go_ret
      exact ⟨rbool (by rw [HP.out]; rw [decide_eq_false (show ¬ vs.length = 0 by have := HV.out; omega)]; rfl), (bDrewN HXB.out _).setCell (p := ⟨w.heap.size + 1, 1, none⟩) (Nat.le_succ _) _⟩

theorem plainv_4 (b : Bool) (n u : Int) (s : ByteArray) (ks : List ByteArray) (vs : List JV) : JV.plain (.mk 4 b n u s ks vs) = (decide (b = false ∧ n = 0 ∧ s = ⟨#[]⟩) && decide (vs.length = 0) && decide (ks.length = 0)) := by
  rw [Bool.eq_iff_iff]
  simp [JV.plain] <;> grind

set_option maxRecDepth 100000 in
set_option maxHeartbeats 4000000 in
theorem plain_4 (b : Bool) (n u : Int) (s : ByteArray) (ks : List ByteArray) (vs : List JV) (ka : Option Addr) (kc : Nat) (a : Option Addr) (c : Nat) (w : World) :
    Calls Tryz.prog 56 #[.agg #[.int .u8 4, .bool b, .int .i64 n, .int .u64 u, .string s, .slice ka ks.length kc, .slice a vs.length c]] w fun e w' => e = .returned (.bool (JV.plain (.mk 4 b n u s ks vs))) ∧ Below w.heap.size w w' := by
  have hbx := heap_alloc_new w (.cells #[.int .u8 4, .bool b, .int .i64 n, .int .u64 u, .string s, .slice ka ks.length kc, .slice a vs.length c] 27)
  have hbA : Below w.heap.size w (w.alloc (.cells #[.int .u8 4, .bool b, .int .i64 n, .int .u64 u, .string s, .slice ka ks.length kc, .slice a vs.length c] 27)) := (Below.refl _ _).alloc (Nat.le_refl _) _
  have hsA : (w.alloc (.cells #[.int .u8 4, .bool b, .int .i64 n, .int .u64 u, .string s, .slice ka ks.length kc, .slice a vs.length c] 27)).heap.size = w.heap.size + 1 := by simp
  obtain ⟨c0, c1, c2, c3, c4, c5, c6⟩ := cell_agg7 hbx
  have HBX := Lib.hid hbx
  have HBA := Lib.hid hbA
  clear hbx hbA
  go_enter Tryz.func56, Tryz.ntmps56
  go_upto_region 1 with fail
  generalize w.alloc (.cells #[.int .u8 4, .bool b, .int .i64 n, .int .u64 u, .string s, .slice ka ks.length kc, .slice a vs.length c] 27) = wA at *
  go_upto_region 2 with fail
  have hX := heap_alloc_new wA (.cells #[.bool b, .int .i64 n, .int .u64 u, .string s] 63)
  have hXb : Below w.heap.size w (wA.alloc (.cells #[.bool b, .int .i64 n, .int .u64 u, .string s] 63)) := HBA.out.alloc HBA.out.size _
  have hXo := (heapJ_old wA (.cells #[.bool b, .int .i64 n, .int .u64 u, .string s] 63) w.heap.size (by omega)).trans HBX.out
  generalize wA.alloc (.cells #[.bool b, .int .i64 n, .int .u64 u, .string s] 63) = W1 at *
  clear c0 c1 c2 c3 c4 c5 c6
  obtain ⟨c0, c1, c2, c3, c4, c5, c6⟩ := cell_agg7 hXo
  rw [hsA] at hX
  obtain ⟨e0, e1, e2, e3⟩ := cell_agg4 hX
  have q : ∀ j, W1.frozen? ⟨w.heap.size + 1, j, none⟩ = false := fun j => froz_agg hX j
  have HXB := Lib.hid hXb
  clear hX hXb hXo
  obtain ⟨E, hE⟩ : ∃ E, E = decide (b = false ∧ n = 0 ∧ s = ⟨#[]⟩) := ⟨_, rfl⟩
  have hre : ∀ W, (binOp .eql 63 (.agg #[.bool b, .int .i64 n, .int .u64 0, .string s]) (.agg #[.bool false, .int .i64 0, .int .u64 0, .string ⟨#[]⟩])).run Tryz.prog W = .ok (.bool E) W := fun W => by rw [rest_eql, hE] <;> simp
  have heg : Tryz.prog.eqGuardType Tryz.prog.depth 63 = false := by kernel_rfl
  have HP := Lib.hid (plainv_4 b n u s ks vs)
  rw [← hE] at HP
  clear hE
  cases E with
  | false =>
    go_wp2_with fail
    go_quiet (fail)
    go_wp2_with fail
    go_ret
    exact ⟨rbool (by rw [HP.out]; rfl), (bDrewN HXB.out _).setCell (p := ⟨w.heap.size + 1, 2, none⟩) (Nat.le_succ _) _⟩
  | true =>
    rcases Nat.eq_zero_or_pos vs.length with hv | hv
    · have hv1 : ((vs.length : Int) == 0) = true := by rw [beq_iff_eq]; omega
      have hv2 : (vs.length : Int) = 0 := by omega
      have HV := Lib.hid hv
      clear hv
      rcases Nat.eq_zero_or_pos ks.length with hq | hq
      · have hq1 : ((ks.length : Int) == 0) = true := by rw [beq_iff_eq]; omega
        have hq2 : (ks.length : Int) = 0 := by omega
        have HQ := Lib.hid hq
        clear hq
        go_wp2_with fail
        go_quiet (fail)
        go_wp2_with fail
        go_ret
        exact ⟨rbool (by rw [HP.out]; rw [decide_eq_true HV.out]; rw [decide_eq_true HQ.out]; rfl), (bDrewN HXB.out _).setCell (p := ⟨w.heap.size + 1, 2, none⟩) (Nat.le_succ _) _⟩
      · have hq1 : ((ks.length : Int) == 0) = false := by rw [beq_eq_false_iff_ne]; omega
        have hq2 : ¬ (ks.length : Int) = 0 := by omega
        have HQ := Lib.hid hq
        clear hq
        go_wp2_with fail
        go_quiet (fail)
        go_wp2_with fail
        go_ret
        exact ⟨rbool (by rw [HP.out]; rw [decide_eq_true HV.out]; rw [decide_eq_false (show ¬ ks.length = 0 by have := HQ.out; omega)]; rfl), (bDrewN HXB.out _).setCell (p := ⟨w.heap.size + 1, 2, none⟩) (Nat.le_succ _) _⟩
    · have hv1 : ((vs.length : Int) == 0) = false := by rw [beq_eq_false_iff_ne]; omega
      have hv2 : ¬ (vs.length : Int) = 0 := by omega
      have HV := Lib.hid hv
      clear hv
      go_wp2_with fail
      go_quiet (fail)
      go_wp2_with fail
      go_ret
      exact ⟨rbool (by rw [HP.out]; rw [decide_eq_false (show ¬ vs.length = 0 by have := HV.out; omega)]; rfl), (bDrewN HXB.out _).setCell (p := ⟨w.heap.size + 1, 2, none⟩) (Nat.le_succ _) _⟩

theorem plainv_5 (b : Bool) (n u : Int) (s : ByteArray) (ks : List ByteArray) (vs : List JV) : JV.plain (.mk 5 b n u s ks vs) = (decide (b = false ∧ n = 0 ∧ u = 0) && decide (vs.length = 0) && decide (ks.length = 0)) := by
  rw [Bool.eq_iff_iff]
  simp [JV.plain] <;> grind

set_option maxRecDepth 100000 in
set_option maxHeartbeats 4000000 in
theorem plain_5 (b : Bool) (n u : Int) (s : ByteArray) (ks : List ByteArray) (vs : List JV) (ka : Option Addr) (kc : Nat) (a : Option Addr) (c : Nat) (w : World) :
    Calls Tryz.prog 56 #[.agg #[.int .u8 5, .bool b, .int .i64 n, .int .u64 u, .string s, .slice ka ks.length kc, .slice a vs.length c]] w fun e w' => e = .returned (.bool (JV.plain (.mk 5 b n u s ks vs))) ∧ Below w.heap.size w w' := by
  have hbx := heap_alloc_new w (.cells #[.int .u8 5, .bool b, .int .i64 n, .int .u64 u, .string s, .slice ka ks.length kc, .slice a vs.length c] 27)
  have hbA : Below w.heap.size w (w.alloc (.cells #[.int .u8 5, .bool b, .int .i64 n, .int .u64 u, .string s, .slice ka ks.length kc, .slice a vs.length c] 27)) := (Below.refl _ _).alloc (Nat.le_refl _) _
  have hsA : (w.alloc (.cells #[.int .u8 5, .bool b, .int .i64 n, .int .u64 u, .string s, .slice ka ks.length kc, .slice a vs.length c] 27)).heap.size = w.heap.size + 1 := by simp
  obtain ⟨c0, c1, c2, c3, c4, c5, c6⟩ := cell_agg7 hbx
  have HBX := Lib.hid hbx
  have HBA := Lib.hid hbA
  clear hbx hbA
  go_enter Tryz.func56, Tryz.ntmps56
  go_upto_region 1 with fail
  generalize w.alloc (.cells #[.int .u8 5, .bool b, .int .i64 n, .int .u64 u, .string s, .slice ka ks.length kc, .slice a vs.length c] 27) = wA at *
  go_upto_region 2 with fail
  have hX := heap_alloc_new wA (.cells #[.bool b, .int .i64 n, .int .u64 u, .string s] 63)
  have hXb : Below w.heap.size w (wA.alloc (.cells #[.bool b, .int .i64 n, .int .u64 u, .string s] 63)) := HBA.out.alloc HBA.out.size _
  have hXo := (heapJ_old wA (.cells #[.bool b, .int .i64 n, .int .u64 u, .string s] 63) w.heap.size (by omega)).trans HBX.out
  generalize wA.alloc (.cells #[.bool b, .int .i64 n, .int .u64 u, .string s] 63) = W1 at *
  clear c0 c1 c2 c3 c4 c5 c6
  obtain ⟨c0, c1, c2, c3, c4, c5, c6⟩ := cell_agg7 hXo
  rw [hsA] at hX
  obtain ⟨e0, e1, e2, e3⟩ := cell_agg4 hX
  have q : ∀ j, W1.frozen? ⟨w.heap.size + 1, j, none⟩ = false := fun j => froz_agg hX j
  have HXB := Lib.hid hXb
  clear hX hXb hXo
  obtain ⟨E, hE⟩ : ∃ E, E = decide (b = false ∧ n = 0 ∧ u = 0) := ⟨_, rfl⟩
  have hre : ∀ W, (binOp .eql 63 (.agg #[.bool b, .int .i64 n, .int .u64 u, .string ⟨#[]⟩]) (.agg #[.bool false, .int .i64 0, .int .u64 0, .string ⟨#[]⟩])).run Tryz.prog W = .ok (.bool E) W := fun W => by rw [rest_eql, hE] <;> simp
  have heg : Tryz.prog.eqGuardType Tryz.prog.depth 63 = false := by kernel_rfl
  have HP := Lib.hid (plainv_5 b n u s ks vs)
  rw [← hE] at HP
  clear hE
  cases E with
  | false =>
    go_wp2_with fail
    go_quiet (fail)
    go_wp2_with fail
    go_ret
    exact ⟨rbool (by rw [HP.out]; rfl), (bDrewN HXB.out _).setCell (p := ⟨w.heap.size + 1, 3, none⟩) (Nat.le_succ _) _⟩
  | true =>
    rcases Nat.eq_zero_or_pos vs.length with hv | hv
    · have hv1 : ((vs.length : Int) == 0) = true := by rw [beq_iff_eq]; omega
      have hv2 : (vs.length : Int) = 0 := by omega
      have HV := Lib.hid hv
      clear hv
      rcases Nat.eq_zero_or_pos ks.length with hq | hq
      · have hq1 : ((ks.length : Int) == 0) = true := by rw [beq_iff_eq]; omega
        have hq2 : (ks.length : Int) = 0 := by omega
        have HQ := Lib.hid hq
        clear hq
        go_wp2_with fail
        go_quiet (fail)
        go_wp2_with fail
        go_ret
        exact ⟨rbool (by rw [HP.out]; rw [decide_eq_true HV.out]; rw [decide_eq_true HQ.out]; rfl), (bDrewN HXB.out _).setCell (p := ⟨w.heap.size + 1, 3, none⟩) (Nat.le_succ _) _⟩
      · have hq1 : ((ks.length : Int) == 0) = false := by rw [beq_eq_false_iff_ne]; omega
        have hq2 : ¬ (ks.length : Int) = 0 := by omega
        have HQ := Lib.hid hq
        clear hq
        go_wp2_with fail
        go_quiet (fail)
        go_wp2_with fail
        go_ret
        exact ⟨rbool (by rw [HP.out]; rw [decide_eq_true HV.out]; rw [decide_eq_false (show ¬ ks.length = 0 by have := HQ.out; omega)]; rfl), (bDrewN HXB.out _).setCell (p := ⟨w.heap.size + 1, 3, none⟩) (Nat.le_succ _) _⟩
    · have hv1 : ((vs.length : Int) == 0) = false := by rw [beq_eq_false_iff_ne]; omega
      have hv2 : ¬ (vs.length : Int) = 0 := by omega
      have HV := Lib.hid hv
      clear hv
      go_wp2_with fail
      go_quiet (fail)
      go_wp2_with fail
      go_ret
      exact ⟨rbool (by rw [HP.out]; rw [decide_eq_false (show ¬ vs.length = 0 by have := HV.out; omega)]; rfl), (bDrewN HXB.out _).setCell (p := ⟨w.heap.size + 1, 3, none⟩) (Nat.le_succ _) _⟩

theorem plainv_6 (b : Bool) (n u : Int) (s : ByteArray) (ks : List ByteArray) (vs : List JV) : JV.plain (.mk 6 b n u s ks vs) = (decide (b = false ∧ n = 0 ∧ u = 0 ∧ s = ⟨#[]⟩) && decide (ks.length = 0)) := by
  rw [Bool.eq_iff_iff]
  simp [JV.plain] <;> grind

set_option maxRecDepth 100000 in
set_option maxHeartbeats 4000000 in
theorem plain_6 (b : Bool) (n u : Int) (s : ByteArray) (ks : List ByteArray) (vs : List JV) (ka : Option Addr) (kc : Nat) (a : Option Addr) (c : Nat) (w : World) :
    Calls Tryz.prog 56 #[.agg #[.int .u8 6, .bool b, .int .i64 n, .int .u64 u, .string s, .slice ka ks.length kc, .slice a vs.length c]] w fun e w' => e = .returned (.bool (JV.plain (.mk 6 b n u s ks vs))) ∧ Below w.heap.size w w' := by
  have hbx := heap_alloc_new w (.cells #[.int .u8 6, .bool b, .int .i64 n, .int .u64 u, .string s, .slice ka ks.length kc, .slice a vs.length c] 27)
  have hbA : Below w.heap.size w (w.alloc (.cells #[.int .u8 6, .bool b, .int .i64 n, .int .u64 u, .string s, .slice ka ks.length kc, .slice a vs.length c] 27)) := (Below.refl _ _).alloc (Nat.le_refl _) _
  have hsA : (w.alloc (.cells #[.int .u8 6, .bool b, .int .i64 n, .int .u64 u, .string s, .slice ka ks.length kc, .slice a vs.length c] 27)).heap.size = w.heap.size + 1 := by simp
  obtain ⟨c0, c1, c2, c3, c4, c5, c6⟩ := cell_agg7 hbx
  have HBX := Lib.hid hbx
  have HBA := Lib.hid hbA
  clear hbx hbA
  go_enter Tryz.func56, Tryz.ntmps56
  go_upto_region 1 with fail
  generalize w.alloc (.cells #[.int .u8 6, .bool b, .int .i64 n, .int .u64 u, .string s, .slice ka ks.length kc, .slice a vs.length c] 27) = wA at *
  go_upto_region 2 with fail
  have hX := heap_alloc_new wA (.cells #[.bool b, .int .i64 n, .int .u64 u, .string s] 63)
  have hXb : Below w.heap.size w (wA.alloc (.cells #[.bool b, .int .i64 n, .int .u64 u, .string s] 63)) := HBA.out.alloc HBA.out.size _
  have hXo := (heapJ_old wA (.cells #[.bool b, .int .i64 n, .int .u64 u, .string s] 63) w.heap.size (by omega)).trans HBX.out
  generalize wA.alloc (.cells #[.bool b, .int .i64 n, .int .u64 u, .string s] 63) = W1 at *
  clear c0 c1 c2 c3 c4 c5 c6
  obtain ⟨c0, c1, c2, c3, c4, c5, c6⟩ := cell_agg7 hXo
  rw [hsA] at hX
  obtain ⟨e0, e1, e2, e3⟩ := cell_agg4 hX
  have q : ∀ j, W1.frozen? ⟨w.heap.size + 1, j, none⟩ = false := fun j => froz_agg hX j
  have HXB := Lib.hid hXb
  clear hX hXb hXo
  obtain ⟨E, hE⟩ : ∃ E, E = decide (b = false ∧ n = 0 ∧ u = 0 ∧ s = ⟨#[]⟩) := ⟨_, rfl⟩
  have hre : ∀ W, (binOp .eql 63 (.agg #[.bool b, .int .i64 n, .int .u64 u, .string s]) (.agg #[.bool false, .int .i64 0, .int .u64 0, .string ⟨#[]⟩])).run Tryz.prog W = .ok (.bool E) W := fun W => by rw [rest_eql, hE] <;> simp
  have heg : Tryz.prog.eqGuardType Tryz.prog.depth 63 = false := by kernel_rfl
  have HP := Lib.hid (plainv_6 b n u s ks vs)
  rw [← hE] at HP
  clear hE
  cases E with
  | false =>
    go_wp2_with fail
    go_quiet (fail)
    go_wp2_with fail
    go_ret
    exact ⟨rbool (by rw [HP.out]; rfl), bDrewN HXB.out _⟩
  | true =>
    rcases Nat.eq_zero_or_pos ks.length with hq | hq
    · have hq1 : ((ks.length : Int) == 0) = true := by rw [beq_iff_eq]; omega
      have hq2 : (ks.length : Int) = 0 := by omega
      have HQ := Lib.hid hq
      clear hq
      go_wp2_with fail
      go_quiet (fail)
      go_wp2_with fail
      go_ret
      exact ⟨rbool (by rw [HP.out]; rw [decide_eq_true HQ.out]; rfl), bDrewN HXB.out _⟩
    · have hq1 : ((ks.length : Int) == 0) = false := by rw [beq_eq_false_iff_ne]; omega
      have hq2 : ¬ (ks.length : Int) = 0 := by omega
      have HQ := Lib.hid hq
      clear hq
      go_wp2_with fail
      go_quiet (fail)
      go_wp2_with fail
      go_ret
      exact ⟨rbool (by rw [HP.out]; rw [decide_eq_false (show ¬ ks.length = 0 by have := HQ.out; omega)]; rfl), bDrewN HXB.out _⟩

theorem plainv_7 (b : Bool) (n u : Int) (s : ByteArray) (ks : List ByteArray) (vs : List JV) : JV.plain (.mk 7 b n u s ks vs) = (decide (b = false ∧ n = 0 ∧ u = 0 ∧ s = ⟨#[]⟩) && decide (vs.length = ks.length) && decide ks.Nodup) := by
  rw [Bool.eq_iff_iff]
  simp [JV.plain] <;> grind

set_option maxRecDepth 100000 in
set_option maxHeartbeats 4000000 in
theorem plain_7 (b : Bool) (n u : Int) (s : ByteArray) (ks : List ByteArray) (vs : List JV) (ka : Option Addr) (kc : Nat) (a : Option Addr) (c : Nat) (w : World) (ok : Nat → Prop) (hks : StrsAt ok w ka ks) (hkn : ks.length ≤ 35184372080000) (hs : ∀ k ∈ ks, k.size ≤ maxLen) :
    Calls Tryz.prog 56 #[.agg #[.int .u8 7, .bool b, .int .i64 n, .int .u64 u, .string s, .slice ka ks.length kc, .slice a vs.length c]] w fun e w' => e = .returned (.bool (JV.plain (.mk 7 b n u s ks vs))) ∧ Below w.heap.size w w' := by
  have hbx := heap_alloc_new w (.cells #[.int .u8 7, .bool b, .int .i64 n, .int .u64 u, .string s, .slice ka ks.length kc, .slice a vs.length c] 27)
  have hbA : Below w.heap.size w (w.alloc (.cells #[.int .u8 7, .bool b, .int .i64 n, .int .u64 u, .string s, .slice ka ks.length kc, .slice a vs.length c] 27)) := (Below.refl _ _).alloc (Nat.le_refl _) _
  have hsA : (w.alloc (.cells #[.int .u8 7, .bool b, .int .i64 n, .int .u64 u, .string s, .slice ka ks.length kc, .slice a vs.length c] 27)).heap.size = w.heap.size + 1 := by simp
  obtain ⟨c0, c1, c2, c3, c4, c5, c6⟩ := cell_agg7 hbx
  have HBX := Lib.hid hbx
  have HBA := Lib.hid hbA
  clear hbx hbA
  have HKS := Lib.hid hks
  have HSS := Lib.hid hs
  clear hks hs
  go_enter Tryz.func56, Tryz.ntmps56
  go_upto_region 1 with fail
  generalize w.alloc (.cells #[.int .u8 7, .bool b, .int .i64 n, .int .u64 u, .string s, .slice ka ks.length kc, .slice a vs.length c] 27) = wA at *
  go_upto_region 2 with fail
  have hX := heap_alloc_new wA (.cells #[.bool b, .int .i64 n, .int .u64 u, .string s] 63)
  have hXb : Below w.heap.size w (wA.alloc (.cells #[.bool b, .int .i64 n, .int .u64 u, .string s] 63)) := HBA.out.alloc HBA.out.size _
  have hXo := (heapJ_old wA (.cells #[.bool b, .int .i64 n, .int .u64 u, .string s] 63) w.heap.size (by omega)).trans HBX.out
  generalize wA.alloc (.cells #[.bool b, .int .i64 n, .int .u64 u, .string s] 63) = W1 at *
  clear c0 c1 c2 c3 c4 c5 c6
  obtain ⟨c0, c1, c2, c3, c4, c5, c6⟩ := cell_agg7 hXo
  rw [hsA] at hX
  obtain ⟨e0, e1, e2, e3⟩ := cell_agg4 hX
  have q : ∀ j, W1.frozen? ⟨w.heap.size + 1, j, none⟩ = false := fun j => froz_agg hX j
  have HXB := Lib.hid hXb
  have HX := Lib.hid hX
  clear hX hXb hXo
  obtain ⟨E, hE⟩ : ∃ E, E = decide (b = false ∧ n = 0 ∧ u = 0 ∧ s = ⟨#[]⟩) := ⟨_, rfl⟩
  have hre : ∀ W, (binOp .eql 63 (.agg #[.bool b, .int .i64 n, .int .u64 u, .string s]) (.agg #[.bool false, .int .i64 0, .int .u64 0, .string ⟨#[]⟩])).run Tryz.prog W = .ok (.bool E) W := fun W => by rw [rest_eql, hE] <;> simp
  have heg : Tryz.prog.eqGuardType Tryz.prog.depth 63 = false := by kernel_rfl
  have HP := Lib.hid (plainv_7 b n u s ks vs)
  rw [← hE] at HP
  clear hE
  have hlt1 : w.heap.size + 1 < W1.heap.size := (Array.getElem?_eq_some_iff.1 HX.out).1
  have HTW := Lib.hid (fun nq => twice_any (fun _ => True) ka kc ks (W1.drewN nq) (HKS.out.kept (fun i _ hi => ⟨HXB.out.block i hi, trivial⟩)) hkn HSS.out)
  rcases Nat.lt_or_ge vs.length ks.length with hv | hv
  · have HV := Lib.hid (show ¬ vs.length = ks.length by omega)
    have hv1 : ((vs.length : Int) == (ks.length : Int)) = false := by rw [beq_eq_false_iff_ne]; omega
    have hv2 : ((vs.length : Int) != (ks.length : Int)) = true := by rw [bne, hv1]; rfl
    have hv3 : ¬ (vs.length : Int) = (ks.length : Int) := by omega
    clear hv
    go_wp2_with fail
    go_quiet (fail)
    go_wp2_with fail
    go_ret
    exact ⟨rbool (by rw [HP.out, decide_eq_false HV.out, Bool.and_false, Bool.false_and]), bDrewN HXB.out _⟩
  · rcases Nat.lt_or_ge ks.length vs.length with hq | hq
    · have HV := Lib.hid (show ¬ vs.length = ks.length by omega)
      have hv1 : ((vs.length : Int) == (ks.length : Int)) = false := by rw [beq_eq_false_iff_ne]; omega
      have hv2 : ((vs.length : Int) != (ks.length : Int)) = true := by rw [bne, hv1]; rfl
      have hv3 : ¬ (vs.length : Int) = (ks.length : Int) := by omega
      clear hv hq
      go_wp2_with fail
      go_quiet (fail)
      go_wp2_with fail
      go_ret
      exact ⟨rbool (by rw [HP.out, decide_eq_false HV.out, Bool.and_false, Bool.false_and]), bDrewN HXB.out _⟩
    · have HV := Lib.hid (show vs.length = ks.length by omega)
      have hv1 : ((vs.length : Int) == (ks.length : Int)) = true := by rw [beq_iff_eq]; omega
      have hv2 : ((vs.length : Int) != (ks.length : Int)) = false := by rw [bne, hv1]; rfl
      have hv3 : (vs.length : Int) = (ks.length : Int) := by omega
      clear hv hq
      go_wp2_with fail
      go_quiet (fail)
      go_wp2_with fail
      refine (HTW.out _).mono ?_
      rintro e w2 ⟨rfl, hb2⟩
      have hx2 := (hb2.block (w.heap.size + 1) hlt1).trans HX.out
      clear e0 e1 e2 e3 c0 c1 c2 c3 c4 c5 c6 q
      obtain ⟨e0, e1, e2, e3⟩ := cell_agg4 hx2
      have HB2 := Lib.hid ((bDrewN HXB.out _).trans (hb2.mono (Nat.le_trans (Nat.le_succ _) (Nat.le_of_lt hlt1))))
      clear hb2 hx2
      by_cases hnd : ks.Nodup
      · have HND := Lib.hid hnd
        have hd1 : decide (¬ ks.Nodup) = false := decide_eq_false (fun h => h hnd)
        simp only [hd1]
        clear hd1 hnd
        cases E with
        | false =>
          go_wp2_with fail
          go_ret
          exact ⟨rbool (by rw [HP.out]; rfl), HB2.out⟩
        | true =>
          go_wp2_with fail
          go_ret
          exact ⟨rbool (by rw [HP.out, decide_eq_true HV.out, decide_eq_true HND.out]; rfl), HB2.out⟩
      · have HND := Lib.hid hnd
        have hd1 : decide (¬ ks.Nodup) = true := decide_eq_true hnd
        simp only [hd1]
        clear hd1 hnd
        go_wp2_with fail
        go_ret
        exact ⟨rbool (by rw [HP.out, decide_eq_false HND.out, Bool.and_false]), HB2.out⟩

/-- json.plain of any value -/
theorem plain_any (ok : Nat → Prop) (v : JV) (V : Value) (w : World) (h : JAt ok w v V) (h0 : 0 ≤ v.kind ∧ v.kind < 256) (hs : ∀ k ∈ v.keys, k.size ≤ maxLen) :
    Calls Tryz.prog 56 #[V] w fun e w' => e = .returned (.bool v.plain) ∧ Below w.heap.size w w' := by
  obtain ⟨k, b, n, u, s, ks, vs⟩ := v
  simp only [JV.kind, JV.keys] at h0 hs
  rw [JAt] at h
  obtain ⟨ka, kc, a, c, rfl, hks, -, hkn, -⟩ := h
  by_cases k1 : k = 1
  · subst k1; exact plain_1 b n u s ks vs ka kc a c w
  by_cases k2 : k = 2
  · subst k2; exact plain_2 b n u s ks vs ka kc a c w
  by_cases k3 : k = 3
  · subst k3; exact plain_3 b n u s ks vs ka kc a c w
  by_cases k4 : k = 4
  · subst k4; exact plain_4 b n u s ks vs ka kc a c w
  by_cases k5 : k = 5
  · subst k5; exact plain_5 b n u s ks vs ka kc a c w
  by_cases k6 : k = 6
  · subst k6; exact plain_6 b n u s ks vs ka kc a c w
  by_cases k7 : k = 7
  · subst k7; exact plain_7 b n u s ks vs ka kc a c w ok hks hkn hs
  exact plain_no b n u s ks vs ka kc a c w k h0.1 h0.2 ⟨k1, k2, k3, k4, k5, k6, k7⟩
end Go.Proofs.YtckaoeloofbklaaGreatDoor
