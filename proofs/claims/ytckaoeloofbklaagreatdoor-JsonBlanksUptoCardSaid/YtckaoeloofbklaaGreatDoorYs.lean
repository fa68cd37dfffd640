/- Joined texts: Kj Kp Ko Kg. Each begins with its own remark. -/
import Derived.Test.YtckaoeloofbklaaGreatDoorYr
import Derived.Test.YtckaoeloofbklaaGreatDoorYl
import Derived.Test.YtckaoeloofbklaaGreatDoorYm
import Derived.Test.YtckaoeloofbklaaGreatDoorYk
import Derived.Maps.OwnOps
import Derived.Maps.Views
import Derived.Laws.StructEq
namespace Go.Proofs.YtckaoeloofbklaaGreatDoor
open Go Go.RowKit Go.Lib
set_option exponentiation.threshold 3000
theorem parseM_digs : ∀ (l : List UInt8) (acc : Nat), (∀ c ∈ l, isDig c) → l.foldl (fun a c => a * 10 + dv c.toNat) acc ≤ 9223372036854775808 → Lib.parseUintM (2 ^ 64 - 1) acc l = .ok (l.foldl (fun a c => a * 10 + dv c.toNat) acc)
  | [], acc, _, _ => rfl
  | c :: l, acc, hd, h => by
    have hc : 48 ≤ c.toNat ∧ c.toNat ≤ 57 := hd c (by simp)
    have hdv : dv c.toNat = c.toNat - 48 := by unfold dv; rw [if_pos hc]
    rw [List.foldl_cons] at h ⊢
    have mono : ∀ (l : List UInt8) (a : Nat), a ≤ l.foldl (fun a c => a * 10 + dv c.toNat) a := by
      intro l
      induction l with
      | nil => intro a; simp
      | cons c l ih => intro a; rw [List.foldl_cons]; exact Nat.le_trans (by omega) (ih _)
    have hm := mono l (acc * 10 + dv c.toNat)
    have h2 : (2 : Nat) ^ 64 - 1 = 18446744073709551615 := by decide
    rw [Lib.parseUintM, if_pos hc, if_neg (by omega), if_neg (by rw [h2]; omega), ← hdv]
    exact parseM_digs l _ (fun x hx => hd x (by simp [hx])) h
theorem parseU_dec (u : Nat) (h : u ≤ 9223372036854775808) : Lib.parseUintB 64 (decDigits u) = .ok u := by
  have hne : decDigits u ≠ [] := by
    intro h0
    have := congrArg List.length h0
    rw [decDigits_length] at this
    have := nDigits_pos u
    simp at *; omega
  have hv := dvl_dec u
  unfold dvl at hv
  rw [Lib.parseUintB, if_neg hne, parseM_digs _ _ (dec_digs u) (by rw [hv]; exact h), hv]
theorem dec_cons (u : Nat) : ∃ c W, decDigits u = c :: W ∧ isDig c ∧ (c = 48 → W = []) := by
  by_cases h0 : u = 0
  · subst h0; exact ⟨48, [], by decide +kernel, ⟨by decide, by decide⟩, fun _ => rfl⟩
  · obtain ⟨c, l, h1, h2⟩ := dec_head u (by omega)
    exact ⟨c, l, h1, dec_digs u c (by rw [h1]; simp), fun h => absurd h h2⟩
theorem parseI_itoa (n : Int) (h1 : -9223372036854775808 ≤ n) (h2 : n < 9223372036854775808) : Lib.parseIntB 64 (Lib.itoa n) = .ok n := by
  unfold Lib.itoa
  by_cases hn : n < 0
  · rw [if_pos hn]
    simp only [Lib.parseIntB]
    rw [if_pos (.inr (by decide)), parseU_dec _ (by omega)]
    dsimp only
    rw [if_neg (fun h => h.1 (by decide)), if_neg (fun h => by have := h.2; rw [show (2 : Nat) ^ (64 - 1) = 9223372036854775808 by decide] at this; omega), if_pos (by decide)]
    congr 1
    omega
  · rw [if_neg hn]
    obtain ⟨c, W, e, hc, _⟩ := dec_cons n.toNat
    have hp := parseU_dec n.toNat (by omega)
    rw [e] at hp ⊢
    obtain ⟨g1, g2⟩ := hc
    have k1 : ¬ (c.toNat = 43 ∨ c.toNat = 45) := by omega
    have k2 : ¬ c.toNat = 45 := by omega
    simp only [Lib.parseIntB]
    rw [if_neg k1, hp]
    dsimp only
    rw [if_neg (fun h => by have := h.2; rw [show (2 : Nat) ^ (64 - 1) = 9223372036854775808 by decide] at this; omega), if_neg (fun h => k2 h.1), if_neg k2]
    congr 1
    omega
theorem digs_all {l : List UInt8} (h : ∀ c ∈ l, isDig c) : l.all isDgB = true := List.all_eq_true.2 fun c hc => dig_ok (h c hc)
theorem numS_of (ng : Bool) {l : List UInt8} {c : UInt8} {W fr ex : List UInt8} (h : NumT l c W fr ex) : NumS (sgB ng ++ l) := by
  have hd : ∀ c, isDgB c = true → numC c = true := fun c h => by unfold numC; rw [h]; simp
  have hds : ∀ l : List UInt8, l.all isDgB = true → ∀ c ∈ l, numC c = true := fun l h c hc => hd c (List.all_eq_true.1 h c hc)
  have hall : ∀ x ∈ W ++ (fr ++ ex), numC x = true := by
    intro x hx
    rcases List.mem_append.1 hx with hx | hx
    · exact hds W h.hw x hx
    · rcases List.mem_append.1 hx with hx | hx
      · rcases h.fr with e | ⟨y, F, e, h1, h2⟩
        · rw [e] at hx; simp at hx
        · rw [e] at hx
          rcases List.mem_cons.1 hx with rfl | hx
          · decide
          · rcases List.mem_cons.1 hx with rfl | hx
            · exact hd _ h1
            · exact hds F h2 x hx
      · rcases h.ex with e | ⟨sg, y, X, e, h0, h1, h2⟩
        · rw [e] at hx; simp at hx
        · rw [e] at hx
          rcases List.mem_cons.1 hx with rfl | hx
          · decide
          · rcases List.mem_cons.1 hx with rfl | hx
            · rcases h0 with rfl | rfl <;> decide
            · rcases List.mem_cons.1 hx with rfl | hx
              · exact hd _ h1
              · exact hds X h2 x hx
  have e : l = c :: (W ++ (fr ++ ex)) := h.eq
  cases ng with
  | false => exact ⟨c, _, by rw [e]; rfl, .inr h.hc, List.all_eq_true.2 hall⟩
  | true => exact ⟨45, l, rfl, .inl rfl, List.all_eq_true.2 fun x hx => by
      rw [e] at hx
      rcases List.mem_cons.1 hx with rfl | hx
      · exact hd _ h.hc
      · exact hall x hx⟩
theorem int_ok (n : Int) (h1 : -9223372036854775808 ≤ n) (h2 : n < 9223372036854775808) : NJ (Lib.itoa n) (jInt n) ∧ NumS (Lib.itoa n) := by
  obtain ⟨c, W, e, hc, hz⟩ := dec_cons n.natAbs
  have hW : W.all isDgB = true := digs_all fun x hx => dec_digs n.natAbs x (by rw [e]; simp [hx])
  have hT : NumT (decDigits n.natAbs) c W [] [] := ⟨by rw [e]; simp, dig_ok hc, hW, hz, .inl rfl, .inl rfl⟩
  have ha : Lib.itoa n = sgB (decide (n < 0)) ++ decDigits n.natAbs := by
    unfold Lib.itoa
    by_cases hn : n < 0
    · rw [if_pos hn, decide_eq_true hn]; rfl
    · rw [if_neg hn, decide_eq_false hn, show n.toNat = n.natAbs by omega]; rfl
  have hl := itoa_len n h1 h2
  have hp := parseI_itoa n h1 h2
  refine ⟨.int (decide (n < 0)) _ c W ha hT ?_ ?_ hp, by rw [ha]; exact numS_of _ hT⟩
  · rw [ha, List.length_append] at hl; omega
  · intro h0
    rw [h0] at hp
    by_cases hn : n < 0
    · have : n = 0 := by
        have e1 : Lib.parseIntB 64 [45, 48] = .ok 0 := by decide +kernel
        rw [e1] at hp
        injection hp with hp
        exact hp.symm
      omega
    · rw [ha, decide_eq_false hn, e] at h0
      injection h0 with h0 _
      rw [h0] at hc
      exact absurd hc.1 (by decide)
theorem shown_split (a : Nat) (h1 : 0 < a) (h2 : a < 9218868437227405312) :
    ∃ (t : Nat) (x : Int), t % 10 ≠ 0 ∧ nDigits t ≤ 19 ∧ (((nDigits t : Nat) : Int) + x - 1).natAbs < 1000 ∧ showA a = placedB (decDigits t) ((nDigits t : Nat) + x) ∧ Near (dX t x) (dQ x) a := by
  obtain ⟨b1, b2, b3⟩ := sh_bounds a h1 h2
  have hA := shown_near a h1 h2
  obtain ⟨g1, g2, g3, g4, g5⟩ := me_ok a h1 h2
  obtain ⟨k1, k2, k3, k4⟩ := short_bounds (MN a) (EN a) g1 g2 g3 g4 g5
  have hlt : (shN a).1 < 10 ^ 19 := by
    have : (shN a).1 = (shortN (MN a) (EN a)).1 := rfl
    rw [this]
    omega
  unfold showA
  generalize (shN a).1 = d at *
  generalize (shN a).2 = q at *
  obtain ⟨t, i, e1, e2⟩ := strip_ex d b1
  have ht0 : 1 ≤ t := by omega
  have hsig : sig d = decDigits t := by rw [e1, sig_tens t ht0, sig_odd t e2]
  have hnd : nDigits d = nDigits t + i := by rw [e1, nd_tens t ht0]
  have hp : ((nDigits d : Nat) : Int) + q = (nDigits t : Nat) + (q + i) := by rw [hnd]; push_cast; omega
  have h19 : nDigits t ≤ 19 := nd_le 18 _ (Nat.lt_of_le_of_lt (by rw [e1]; exact Nat.le_mul_of_pos_right _ (Nat.pow_pos (by decide))) hlt)
  rw [hp] at b3
  refine ⟨t, q + i, e2, h19, b3, by rw [← hp, ← hsig], ?_⟩
  rw [e1] at hA
  exact near_up t i a q hA
theorem placed_num (t : Nat) (x : Int) (ht : t % 10 ≠ 0) :
    (∃ k : Nat, x = (k : Int) ∧ placedB (decDigits t) ((nDigits t : Nat) + x) = decDigits t ++ List.replicate k 48) ∨
    ∃ c W fr ex, NumT (placedB (decDigits t) ((nDigits t : Nat) + x)) c W fr ex ∧ fr ++ ex ≠ [] := by
  have ht1 : 1 ≤ t := by omega
  obtain ⟨c0, l0, hS, hc0⟩ := dec_head t ht1
  have hdig : ∀ c ∈ decDigits t, isDig c := dec_digs t
  have hlen : (decDigits t).length = nDigits t := decDigits_length t
  have hnd := nDigits_pos t
  generalize decDigits t = S at *
  have hd0 : isDig c0 := hdig c0 (by rw [hS]; simp)
  unfold placedB
  split
  · rename_i h
    obtain ⟨k, hk⟩ : ∃ k : Nat, x = k := ⟨x.toNat, by omega⟩
    have e : (((nDigits t : Nat) : Int) + x - (S.length : Nat)).toNat = k := by omega
    rw [e]
    exact .inl ⟨k, hk, rfl⟩
  · refine .inr ?_
    split
    · rename_i h
      obtain ⟨j, hj⟩ : ∃ j : Nat, ((nDigits t : Nat) : Int) + x = j := ⟨(((nDigits t : Nat) : Int) + x).toNat, by omega⟩
      rw [hj, Int.toNat_natCast]
      obtain ⟨j', rfl⟩ : ∃ j', j = j' + 1 := ⟨j - 1, by omega⟩
      obtain ⟨f, F, hF⟩ : ∃ f F, S.drop (j' + 1) = f :: F := by
        cases e : S.drop (j' + 1) with
        | nil =>
          have := congrArg List.length e
          rw [List.length_drop] at this
          simp at this
          omega
        | cons f F => exact ⟨f, F, rfl⟩
      have hf : ∀ c ∈ f :: F, isDig c := fun c hc => hdig c (by rw [← hF] at hc; exact List.mem_of_mem_drop hc)
      refine ⟨c0, (l0.take j'), 46 :: f :: F, [], ⟨?_, dig_ok hd0, ?_, fun h => absurd h hc0, .inr ⟨f, F, rfl, dig_ok (hf f (by simp)), digs_all fun c hc => hf c (by simp [hc])⟩, .inl rfl⟩, by simp⟩
      · rw [hF, hS, List.take_succ_cons]; simp
      · exact digs_all fun c hc => hdig c (by rw [hS]; exact List.mem_cons_of_mem _ (List.mem_of_mem_take hc))
    · split
      · rename_i h
        obtain ⟨j, hj⟩ : ∃ j : Nat, -(((nDigits t : Nat) : Int) + x) = j := ⟨(-(((nDigits t : Nat) : Int) + x)).toNat, by omega⟩
        rw [hj, Int.toNat_natCast]
        have hall : ∀ c ∈ List.replicate j 48 ++ S, isDig c := fun c hc => (List.mem_append.1 hc).elim (fun h => by rw [z48 j c h]; exact dig48) (hdig c)
        obtain ⟨f, F, hF⟩ : ∃ f F, List.replicate j 48 ++ S = f :: F := by
          cases e : List.replicate j 48 ++ S with
          | nil => rw [hS] at e; simp at e
          | cons f F => exact ⟨f, F, rfl⟩
        rw [hF] at hall ⊢
        exact ⟨48, [], 46 :: f :: F, [], ⟨by simp, by decide, rfl, fun _ => rfl, .inr ⟨f, F, rfl, dig_ok (hall f (by simp)), digs_all fun c hc => hall c (by simp [hc])⟩, .inl rfl⟩, by simp⟩
      · generalize hy : ((nDigits t : Nat) : Int) + x - 1 = y
        obtain ⟨d, X, e, hd, -⟩ := dec_cons y.natAbs
        have hX : X.all isDgB = true := digs_all fun z hz => dec_digs y.natAbs z (by rw [e]; simp [hz])
        have hex : ∃ sg, expS y = 101 :: sg :: d :: X ∧ (sg = 43 ∨ sg = 45) := by
          unfold expS
          rw [e]
          by_cases hn : y < 0
          · rw [if_pos hn]; exact ⟨45, rfl, .inr rfl⟩
          · rw [if_neg hn]; exact ⟨43, rfl, .inl rfl⟩
        obtain ⟨sg, hex, hsg⟩ := hex
        rw [hex]
        by_cases h1 : 1 < S.length
        · rw [if_pos h1]
          obtain ⟨f, F, hF⟩ : ∃ f F, l0 = f :: F := by
            cases e : l0 with
            | nil => rw [hS, e] at h1; simp at h1
            | cons f F => exact ⟨f, F, rfl⟩
          have hf : ∀ c ∈ f :: F, isDig c := fun c hc => hdig c (by rw [hS, hF]; exact List.mem_cons_of_mem _ hc)
          refine ⟨c0, [], 46 :: f :: F, 101 :: sg :: d :: X, ⟨?_, dig_ok hd0, rfl, fun _ => rfl, .inr ⟨f, F, rfl, dig_ok (hf f (by simp)), digs_all fun c hc => hf c (by simp [hc])⟩, .inr ⟨sg, d, X, rfl, hsg, dig_ok hd, hX⟩⟩, by simp⟩
          rw [hS, hF]
          simp
        · rw [if_neg h1]
          have hl0 : l0 = [] := by
            rw [hS, List.length_cons] at h1
            exact List.eq_nil_of_length_eq_zero (by omega)
          refine ⟨c0, [], [], 101 :: sg :: d :: X, ⟨?_, dig_ok hd0, rfl, fun _ => rfl, .inl rfl, .inr ⟨sg, d, X, rfl, hsg, dig_ok hd, hX⟩⟩, by simp⟩
          rw [hS, hl0]
          rfl
theorem any_ext {ng : Bool} {l : List UInt8} {c : UInt8} {W fr ex : List UInt8} (h : NumT l c W fr ex) (hne : fr ++ ex ≠ []) : (sgB ng ++ l).any (fun c => c == 46 || c == 101) = true := by
  rw [List.any_eq_true]
  rcases h.fr with e | ⟨y, F, e, -⟩
  · rcases h.ex with e2 | ⟨sg, y, X, e2, -⟩
    · rw [e, e2] at hne; exact absurd rfl hne
    · exact ⟨101, by rw [h.eq, e, e2]; simp, by decide⟩
  · exact ⟨46, by rw [h.eq, e]; simp, by decide⟩
theorem any_digs {ng : Bool} {l : List UInt8} (h : ∀ c ∈ l, isDig c) : (sgB ng ++ l).any (fun c => c == 46 || c == 101) = false := by
  rw [List.any_eq_false]
  intro c hc
  rcases List.mem_append.1 hc with hc | hc
  · cases ng <;> simp [sgB] at hc
    rw [hc]; decide
  · obtain ⟨h1, h2⟩ := h c hc
    have e1 : c ≠ 46 := by rintro rfl; exact absurd h1 (by decide)
    have e2 : c ≠ 101 := by rintro rfl; exact absurd h2 (by decide)
    simp [e1, e2]
theorem back_fin {u : Nat} (h : infU u = false) : backN u = u := by
  have h := of_decide_eq_false h
  unfold backN
  rw [if_neg (by omega)]
theorem dot_zero (D : List UInt8) (c : UInt8) (W : List UInt8) (e : D = c :: W) (hD : ∀ x ∈ D, isDig x) (hz : c = 48 → W = []) :
    NumT (D ++ [46, 48]) c W [46, 48] [] ∧ decB (D ++ [46, 48]) = true ∧ DecIs (D ++ [46, 48]) (D ++ [48]) (-1) := by
  refine ⟨⟨by rw [e]; simp, dig_ok (hD c (by rw [e]; simp)), digs_all fun x hx => hD x (by rw [e]; simp [hx]), hz, .inr ⟨48, [], rfl, by decide, rfl⟩, .inl rfl⟩, ?_, ?_⟩
  · show endB (foldS 1 (D ++ [46, 48])) = true
    have h3 : foldS 1 D = 3 ∨ foldS 1 D = 2 := by
      by_cases h0 : c = 48
      · rw [e, h0, hz h0]; exact .inr (by decide)
      · rw [e, foldS_cons, dig_class2 (hD c (by rw [e]; simp)) h0]
        exact .inl (foldS_digs 3 (by decide) (by decide) W fun x hx => hD x (by rw [e]; simp [hx]))
    rw [foldS_app]
    rcases h3 with h | h <;> rw [h] <;> decide
  · refine ⟨D, [48], true, D ++ [46, 48], ⟨rfl, hD, fun x hx => by simp at hx; rw [hx]; exact dig48, by simp⟩, by simp, rfl, .inl ⟨bars_digs _ fun x hx => ?_, rfl⟩⟩
    rcases List.mem_append.1 hx with h | h
    · exact dig95 (hD x h)
    · simp at h; rcases h with rfl | rfl <;> decide
set_option maxRecDepth 100000 in
theorem flt_ok (u : Nat) (hu : u < 18446744073709551616) (hi : infU u = false) : NJ (fltN u) (jFlt u) ∧ NumS (fltN u) := by
  have hb := showB_fin u hi
  have hl := showB_len u
  have hru : ru u < 9218868437227405312 := by have := of_decide_eq_false hi; omega
  have hsg := ru_sg u hu
  have whole : ∀ (D : List UInt8) (c : UInt8) (W : List UInt8), showB u = sgB (ngB u) ++ D → D = c :: W → (∀ x ∈ D, isDig x) → (c = 48 → W = []) → (∀ x ∈ (dropZ (D ++ [48])).drop 19, x = 48) → Near (dX (dvl 10 D) 0) (dQ 0) (ru u) → NJ (fltN u) (jFlt u) ∧ NumS (fltN u) := by
    intro D c W h1 h2 h3 h4 h5 h6
    obtain ⟨k1, k2, k3⟩ := dot_zero D c W h2 h3 h4
    have hf : fltN u = sgB (ngB u) ++ (D ++ [46, 48]) := by
      unfold fltN
      rw [hi, if_neg (by decide), h1, any_digs h3, if_neg (by decide), List.append_assoc]
    have hlen : (sgB (ngB u) ++ (D ++ [46, 48])).length ≤ 103 := by
      rw [h1, List.length_append] at hl
      rw [List.length_append, List.length_append]
      simp only [List.length_cons, List.length_nil]
      omega
    rw [hf]
    refine ⟨.flt (ngB u) (D ++ [46, 48]) c W [46, 48] [] rfl k1 (by rw [List.length_append] at hlen; omega) (.inl (by simp)) hu hi ?_, numS_of _ k1⟩
    intro K w hG hT
    have hsz : (⟨(sgB (ngB u) ++ (D ++ [46, 48])).toArray⟩ : ByteArray).size ≤ 400 := by rw [ba_size]; omega
    have hp := parse_noughts ⟨(sgB (ngB u) ++ (D ++ [46, 48])).toArray⟩ (ngB u) (D ++ [46, 48]) (D ++ [48]) (-1) K w hG hT rfl hsz k2 k3 h5
    refine hp.mono ?_
    rintro e w' ⟨r, hn, rfl, hb⟩
    have hv : dvl 10 (D ++ [48]) = dvl 10 D * 10 ^ 1 := by rw [dvl_app]; simp [dvl, dv]
    rw [hv] at hn
    obtain rfl := near_unique hn (near_down (dvl 10 D) 1 (ru u) (-1) h6)
    rw [hsg]
    exact ⟨rfl, hb⟩
  by_cases h0 : ru u = 0
  · rw [if_pos h0] at hb
    refine whole [48] 48 [] hb rfl (fun x hx => by simp at hx; rw [hx]; exact dig48) (fun _ => rfl) (by decide) ?_
    rw [h0]
    exact zero_near 0
  · rw [if_neg h0] at hb
    obtain ⟨t, x, ht, h19, hx, hsh, hn⟩ := shown_split (ru u) (by omega) hru
    rcases placed_num t x ht with ⟨k, rfl, hp⟩ | ⟨c, W, fr, ex, hT, hne⟩
    · rw [hsh, hp] at hb
      obtain ⟨c0, l0, hS, hc0⟩ := dec_head t (by omega)
      have hall : ∀ c ∈ decDigits t ++ List.replicate k 48, isDig c := fun c hc => (List.mem_append.1 hc).elim (dec_digs t c) fun h => by rw [z48 k c h]; exact dig48
      refine whole (decDigits t ++ List.replicate k 48) c0 (l0 ++ List.replicate k 48) hb (by rw [hS]; rfl) hall (fun h => absurd h hc0) ?_ ?_
      · have hdz : dropZ (decDigits t ++ List.replicate k 48 ++ [48]) = decDigits t ++ List.replicate k 48 ++ [48] := by
          rw [hS]; unfold dropZ
          rw [List.cons_append, List.cons_append, List.dropWhile_cons, if_neg (by simpa using hc0)]
        rw [hdz, List.append_assoc, List.drop_append, List.drop_eq_nil_of_le (by rw [decDigits_length]; omega), List.nil_append]
        intro y hy
        rcases List.mem_append.1 (List.mem_of_mem_drop hy) with h | h
        · exact z48 k y h
        · simpa using h
      · have hv : dvl 10 (decDigits t ++ List.replicate k 48) = t * 10 ^ k := by rw [dvl_app, dvl_dec, dvl_zeros, List.length_replicate, Nat.add_zero]
        rw [hv]
        exact near_down t k (ru u) 0 (by rwa [Int.zero_add])
    · rw [← hsh] at hT
      have hf : fltN u = sgB (ngB u) ++ showA (ru u) := by
        unfold fltN
        rw [hi, if_neg (by decide), hb, any_ext hT hne, if_pos rfl]
      rw [hb] at hl
      have hpb := fun K w hG hW => parse_back u K w hu hG hW
      rw [hf]
      refine ⟨.flt (ngB u) (showA (ru u)) c W fr ex rfl hT (by rw [List.length_append] at hl; omega) (.inl hne) hu hi ?_, numS_of _ hT⟩
      intro K w hG hT
      have := hpb K w hG hT
      rwa [hb, back_fin hi] at this
def infI (u : Int) : Bool := infU u.toNat
theorem num_ok : NumOK NJ Lib.itoa fltI infI := by
  refine ⟨int_ok, fun u h1 h2 hi => ?_, fun u h1 h2 hi => ?_⟩
  · obtain ⟨m, rfl⟩ : ∃ m : Nat, u = (m : Int) := ⟨u.toNat, by omega⟩
    have := flt_ok m (by omega) (by unfold infI at hi; rwa [Int.toNat_natCast] at hi)
    unfold fltI
    rwa [Int.toNat_natCast]
  · unfold fltI fltN
    unfold infI at hi
    rw [hi, if_pos rfl]
end Go.Proofs.YtckaoeloofbklaaGreatDoor
namespace Go.Proofs.YtckaoeloofbklaaGreatDoor
open Go Go.RowKit Go.Lib
theorem showT_len (r : Bool) : ∀ (vs : List JV) (ks : List ByteArray), (∀ v ∈ vs, (shJ v).length + 10 ≤ 200 * v.weigh) → (showT Lib.itoa fltI r ks vs).length ≤ 6 * (ks.map ByteArray.size).sum + 200 * JV.weighL vs
  | [], ks, _ => by rw [showT]; simp
  | v :: vs, ks, h => by
    have ih := showT_len r vs ks.tail fun x hx => h x (by simp [hx])
    have h1 := h v (by simp)
    unfold shJ at h1
    have hq := quoL_len (ks.headD ⟨#[]⟩).data.toList
    have hs : (ks.headD ⟨#[]⟩).data.toList.length + (ks.tail.map ByteArray.size).sum ≤ (ks.map ByteArray.size).sum := by
      cases ks with
      | nil => simp
      | cons k ks => simp
    rw [showT, JV.weighL, List.length_append, List.length_cons, List.length_append]
    cases r with
    | false => simp only [Bool.false_eq_true, if_false, List.length_nil]; omega
    | true => simp only [if_true, List.length_append, List.length_cons, List.length_nil]; omega
theorem show_len : ∀ v, Rng v → (shJ v).length + 10 ≤ 200 * v.weigh := by
  refine JV.ind fun k b n u s ks vs ih hr => ?_
  obtain ⟨h1, h2, h3, h4, h⟩ := hr
  have hT := fun r => showT_len r vs ks fun v hv => ih v hv (h v hv)
  unfold shJ
  rw [showJ, JV.weigh]
  have hd : ∀ l : List UInt8, (l.drop 1).length ≤ l.length := fun l => by rw [List.length_drop]; omega
  split
  · simp only [List.length_cons, List.length_nil]; omega
  · split
    · cases b <;> simp <;> omega
    · split
      · have := itoa_len n h1 h2; omega
      · split
        · have := fltN_len u.toNat
          unfold fltI
          omega
        · split
          · have := quoL_len s.data.toList
            have h0 : s.data.toList.length = s.size := by simp
            omega
          · split
            · have h1 := hT true
              have h2 := hd (showT Lib.itoa fltI true ks vs)
              simp only [List.length_cons, List.length_append, List.length_nil]
              omega
            · have h1 := hT false
              have h2 := hd (showT Lib.itoa fltI false ks vs)
              simp only [List.length_cons, List.length_append, List.length_nil]
              omega
end Go.Proofs.YtckaoeloofbklaaGreatDoor
namespace Go.Proofs.YtckaoeloofbklaaGreatDoor
open Go Go.RowKit Go.Lib
theorem weighL_snoc : ∀ (l : List JV) (x : JV), JV.weighL (l ++ [x]) = JV.weighL l + x.weigh
  | [], x => by simp [JV.weighL]
  | v :: l, x => by rw [List.cons_append, JV.weighL, JV.weighL, weighL_snoc l x]; omega
def keyS (l : List ByteArray) : Nat := (l.map ByteArray.size).sum
theorem keyS_snoc (l : List ByteArray) (x : ByteArray) : keyS (l ++ [x]) = keyS l + x.size := by simp [keyS]
inductive Loc : JV → Prop
  | mk {k b n u s ks vs} (h1 : s.size ≤ 140737488351232) (h2 : ∀ k ∈ ks, k.size ≤ 140737488351232) (h : ∀ v ∈ vs, Loc v) : Loc (.mk k b n u s ks vs)
def WeighOk (v : JV) : Prop := ∀ (ok : Nat → Prop) (V : Value) (w : World) (most : Nat), JAt ok w v V → Loc v → most ≤ 1125899906842624 →
  Calls Tryz.prog 21 #[V, .int .i64 (most : Int)] w fun e w' => (∃ r : Nat, e = .returned (.int .i64 (r : Int)) ∧ r ≤ most + 200000000000000 ∧ (r ≤ most → r = v.weigh)) ∧ Below w.heap.size w w'
set_option maxRecDepth 100000 in
set_option maxHeartbeats 4000000 in
theorem weigh_one (k : Int) (b : Bool) (n u : Int) (s : ByteArray) (ks : List ByteArray) (vs : List JV) (ih : ∀ x ∈ vs, WeighOk x) : WeighOk (.mk k b n u s ks vs) := by
  intro ok V w most hj hw hm
  have hwv : (JV.mk k b n u s ks vs).weigh = 1 + s.size + ks.length + keyS ks + JV.weighL vs := by rw [JV.weigh]; rfl
  rw [hwv]
  obtain ⟨hs0, hkl, hvl⟩ := hw
  rw [JAt] at hj
  obtain ⟨ka, kc, a, c, rfl, hks, hvs, hkn, hvn⟩ := hj
  have hbx := heap_alloc_new w (.cells #[.int .u8 k, .bool b, .int .i64 n, .int .u64 u, .string s, .slice ka ks.length kc, .slice a vs.length c] 27)
  have hbA : Below w.heap.size w (w.alloc (.cells #[.int .u8 k, .bool b, .int .i64 n, .int .u64 u, .string s, .slice ka ks.length kc, .slice a vs.length c] 27)) := (Below.refl _ _).alloc (Nat.le_refl _) _
  have hlA := (Array.getElem?_eq_some_iff.1 hbx).1
  have hbx0 := hbx
  obtain ⟨c0, c1, c2, c3, c4, c5, c6⟩ := cell_agg7 hbx0
  have HBX := Lib.hid hbx
  have HBA := Lib.hid hbA
  have HVS := Lib.hid hvs
  have HKS := Lib.hid hks
  have HIH := Lib.hid ih
  have HKL := Lib.hid hkl
  have HVL := Lib.hid hvl
  clear hbx hbA hvs hks ih hkl hvl hwv hbx0
  go_enter Tryz.func21, Tryz.ntmps21
  go_upto_region 1 with fail
  generalize w.alloc (.cells #[.int .u8 k, .bool b, .int .i64 n, .int .u64 u, .string s, .slice ka ks.length kc, .slice a vs.length c] 27) = wA at *
  go_wp2_with fail
  go_loopg [5, 6] ks.length (fun g s5 s6 wr => wr = wA ∧ ∃ i : Nat, i + g = ks.length ∧ s6 = .int .i64 i ∧ s5 = .int .i64 ((1 + s.size + ks.length + keyS (ks.take i) : Nat) : Int) ∧ 1 + s.size + ks.length + keyS (ks.take i) ≤ most + 200000000000000)
  case atStart => exact ⟨rfl, 0, by omega, rfl, by rw [List.take_zero]; simp [keyS], by rw [List.take_zero]; show _ + 0 ≤ _; omega⟩
  case round =>
    obtain ⟨hwr, i, hi, rfl, rfl, hmb⟩ := hrel
    have hwr2 := hwr.symm
    subst hwr2
    obtain ⟨m, hmm⟩ : ∃ m, m = 1 + s.size + ks.length + keyS (ks.take i) := ⟨_, rfl⟩
    have HM := Lib.hid hmm
    rw [← hmm] at hmb ⊢
    clear hmm
    by_cases hlt : i < ks.length ∧ m ≤ most
    · obtain ⟨hlt, hle⟩ := hlt
      obtain ⟨x, hx⟩ : ∃ x, ks[i]? = some x := ⟨_, List.getElem?_eq_getElem hlt⟩
      obtain ⟨kb, ko, ha, -, hkb, hkc⟩ := HKS.out.resolve_left (by rintro rfl; simp at hlt)
      have f0 : wA.cell? ⟨kb, ko + i, none⟩ = some (.string x) := by rw [HBA.out.cell (p := ⟨kb, ko + i, none⟩) hkb]; exact hkc i x hx
      have htk : ks.take (i + 1) = ks.take i ++ [x] := by rw [List.take_add_one, hx]; rfl
      have hk1 := keyS_snoc (ks.take i) x
      rw [← htk] at hk1
      have hxs := HKL.out x (List.mem_of_getElem? hx)
      have HK1 := Lib.hid hk1
      have hle2 : (m : Int) ≤ (most : Int) := by omega
      subst ha
      clear hkc HKS htk hk1 hx
      go_wp2_with fail
      go_roundg (gk - 1)
      case measure => omega
      case rel => exact ⟨rfl, i + 1, by omega, by go_num, by rw [HK1.out, HM.out]; simp; omega, by rw [HK1.out]; have := HM.out; omega⟩
    · rcases Nat.lt_or_ge i ks.length with hik | hik
      · have hmo : ¬ (m : Int) ≤ (most : Int) := by omega
        clear hlt
        go_wp2_with fail
        go_loopg [5, 7] vs.length (fun g s5 s7 w9w => ∃ (j r : Nat), j + g = vs.length ∧ s7 = .int .i64 j ∧ s5 = .int .i64 r ∧ m ≤ r ∧ r ≤ most + 200000000000000 ∧ (r ≤ most → i = ks.length ∧ r = m + JV.weighL (vs.take j)) ∧ Below wA.heap.size wA w9w)
        case atStart => exact ⟨0, m, by omega, rfl, rfl, Nat.le_refl _, hmb, fun h => ⟨by omega, by rw [List.take_zero]; simp [JV.weighL]⟩, Below.refl _ _⟩
        case round =>
          obtain ⟨j, r, hj, rfl, rfl, hmr, hrb, hr2, hbq⟩ := hrel
          have hbxq := (hbq.block w.heap.size hlA).trans HBX.out
          obtain ⟨c0, c1, c2, c3, c4, c5, c6⟩ := cell_agg7 hbxq
          have HR2 := Lib.hid hr2
          have HBQ := Lib.hid hbq
          clear hr2 hbq hbxq
          rcases Nat.lt_or_ge j vs.length with hjv | hjv
          · rcases Nat.lt_or_ge most r with hrm | hrm
            · have hrm2 : ¬ (r : Int) ≤ (most : Int) := by omega
              go_wp2_with fail
              go_ret
              exact ⟨⟨r, rfl, hrb, fun h => by omega⟩, HBA.out.trans (HBQ.out.mono HBA.out.size)⟩
            · exfalso; omega
          · obtain rfl : j = vs.length := by omega
            go_wp2_with fail
            go_ret
            refine ⟨⟨r, rfl, hrb, fun h => ?_⟩, HBA.out.trans (HBQ.out.mono HBA.out.size)⟩
            · obtain ⟨h1, h2⟩ := HR2.out h
              have h3 := HM.out
              rw [h1, List.take_length] at h3
              rw [List.take_length] at h2
              omega
      · clear hlt
        go_wp2_with fail
        go_loopg [5, 7] vs.length (fun g s5 s7 w9w => ∃ (j r : Nat), j + g = vs.length ∧ s7 = .int .i64 j ∧ s5 = .int .i64 r ∧ m ≤ r ∧ r ≤ most + 200000000000000 ∧ (r ≤ most → i = ks.length ∧ r = m + JV.weighL (vs.take j)) ∧ Below wA.heap.size wA w9w)
        case atStart => exact ⟨0, m, by omega, rfl, rfl, Nat.le_refl _, hmb, fun h => ⟨by omega, by rw [List.take_zero]; simp [JV.weighL]⟩, Below.refl _ _⟩
        case round =>
          obtain ⟨j, r, hj, rfl, rfl, hmr, hrb, hr2, hbq⟩ := hrel
          have hbxq := (hbq.block w.heap.size hlA).trans HBX.out
          obtain ⟨c0, c1, c2, c3, c4, c5, c6⟩ := cell_agg7 hbxq
          have HR2 := Lib.hid hr2
          have HBQ := Lib.hid hbq
          clear hr2 hbq hbxq
          rcases Nat.lt_or_ge j vs.length with hjv | hjv
          · rcases Nat.lt_or_ge most r with hrm | hrm
            · have hrm2 : ¬ (r : Int) ≤ (most : Int) := by omega
              go_wp2_with fail
              go_ret
              exact ⟨⟨r, rfl, hrb, fun h => by omega⟩, HBA.out.trans (HBQ.out.mono HBA.out.size)⟩
            · obtain ⟨x, hx⟩ : ∃ x, vs[j]? = some x := ⟨_, List.getElem?_eq_getElem hjv⟩
              obtain ⟨q, off, ha, hq, hqw, hit⟩ := HVS.out.resolve_left (by rintro rfl; simp at hjv)
              obtain ⟨V, h7, hja⟩ := hit.get hx
              obtain ⟨xk, xb, xn, xu, xs, xa, xm, xc, xa2, xm2, xc2, rfl, d0, d1, d2, d3, d4, d5, d6⟩ := it_cells h7 hja
              have hbw := HBA.out.trans (HBQ.out.mono HBA.out.size)
              have hkq : ∀ i : Nat, wr.cell? ⟨q, i, none⟩ = w.cell? ⟨q, i, none⟩ := fun i => hbw.cell (p := ⟨q, i, none⟩) hqw
              rw [← hkq, Nat.mul_comm 7 j] at d0 d1 d2 d3 d4 d5 d6
              have htk : vs.take (j + 1) = vs.take j ++ [x] := by rw [List.take_add_one, hx]; rfl
              have hk1 := weighL_snoc (vs.take j) x
              rw [← htk] at hk1
              obtain ⟨d, hd⟩ : ∃ d : Nat, d = most - r := ⟨_, rfl⟩
              have hJ := HIH.out x (List.mem_of_getElem? hx) (fun _ => True) _ wr d (hja.kept (fun i hi hi2 => ⟨hbw.block i hi2, trivial⟩)) (HVL.out x (List.mem_of_getElem? hx)) (by omega)
              rw [show ((d : Nat) : Int) = (most : Int) - (r : Int) by omega] at hJ
              have HJ := Lib.hid hJ
              have HK1 := Lib.hid hk1
              have hrm2 : (r : Int) ≤ (most : Int) := by omega
              have HD := Lib.hid hd
              subst ha
              clear hit h7 hja hkq HVS hx htk hk1 hJ hbw hd
              go_wp2_with fail
              refine HJ.out.mono ?_
              rintro e w9 ⟨⟨z, rfl, hz1, hz2⟩, hb9⟩
              have hzb : r + z ≤ most + 200000000000000 := by have := HD.out; omega
              have HZ := Lib.hid hz2
              have HB9 := Lib.hid (HBQ.out.trans (hb9.mono HBQ.out.size))
              clear hz1 hz2 hb9 c0 c1 c2 c3 c4 c5 c6 d0 d1 d2 d3 d4 d5 d6
              go_wp2_with fail
              go_roundg (gk - 1)
              case measure => omega
              case rel =>
                refine ⟨j + 1, r + z, by omega, by go_num, by go_num, by omega, hzb, fun h => ?_, HB9.out⟩
                · have h1 := HR2.out hrm
                  have h2 := HZ.out (by have := HD.out; omega)
                  rw [HK1.out]
                  exact ⟨h1.1, by omega⟩
          · obtain rfl : j = vs.length := by omega
            go_wp2_with fail
            go_ret
            refine ⟨⟨r, rfl, hrb, fun h => ?_⟩, HBA.out.trans (HBQ.out.mono HBA.out.size)⟩
            · obtain ⟨h1, h2⟩ := HR2.out h
              have h3 := HM.out
              rw [h1, List.take_length] at h3
              rw [List.take_length] at h2
              omega
theorem weigh_any : ∀ v, WeighOk v := JV.ind fun k b n u s ks vs ih => weigh_one k b n u s ks vs ih
set_option maxRecDepth 100000 in
set_option maxHeartbeats 4000000 in
theorem far_any (ok : Nat → Prop) (v : JV) (V : Value) (w : World) (h : JAt ok w v V) (hw : Loc v) :
    Calls Tryz.prog 8 #[V] w fun e w' => (∃ z : Bool, e = .returned (.bool z) ∧ (z = false → v.weigh ≤ 8192)) ∧ Below w.heap.size w w' := by
  have hjk := fun (W : World) (hW : Below w.heap.size w W) => h.kept (ok' := fun _ => True) (fun i _ hi => ⟨hW.block i hi, trivial⟩)
  obtain ⟨k, b, n, u, s, ks, vs⟩ := v
  have h0 := h
  rw [JAt] at h0
  obtain ⟨ka, kc, a, c, rfl, -⟩ := h0
  have hbx := heap_alloc_new w (.cells #[.int .u8 k, .bool b, .int .i64 n, .int .u64 u, .string s, .slice ka ks.length kc, .slice a vs.length c] 27)
  have hbA : Below w.heap.size w (w.alloc (.cells #[.int .u8 k, .bool b, .int .i64 n, .int .u64 u, .string s, .slice ka ks.length kc, .slice a vs.length c] 27)) := (Below.refl _ _).alloc (Nat.le_refl _) _
  obtain ⟨c0, c1, c2, c3, c4, c5, c6⟩ := cell_agg7 hbx
  have HL := Lib.hid (weigh_any _ _ _ _ 8192 (hjk _ hbA) hw (by decide))
  have HBA := Lib.hid hbA
  clear hbx hbA h hjk
  generalize JV.mk k b n u s ks vs = v at *
  go_enter Tryz.func8, Tryz.ntmps8
  go_wp2_with fail
  refine HL.out.mono ?_
  rintro e w1 ⟨⟨r, rfl, h1, h2⟩, hb1⟩
  have HB1 := Lib.hid (HBA.out.trans (hb1.mono HBA.out.size))
  have H2 := Lib.hid h2
  clear hb1 c0 c1 c2 c3 c4 c5 c6 h1 h2
  by_cases h8 : 8192 < r
  · go_wp2_with fail
    go_ret
    exact ⟨⟨_, rfl, fun h => absurd h (by simp; omega)⟩, HB1.out⟩
  · go_wp2_with fail
    go_ret
    exact ⟨⟨_, rfl, fun _ => by have := H2.out (by omega); omega⟩, HB1.out⟩
end Go.Proofs.YtckaoeloofbklaaGreatDoor
namespace Go.Proofs.YtckaoeloofbklaaGreatDoor
open Go Go.RowKit Go.Maps
def cntS (l : List ByteArray) (x : ByteArray) : Nat := l.countP fun y => decide (y = x)
theorem cntS_app (l : List ByteArray) (y x : ByteArray) : cntS (l ++ [y]) x = cntS l x + if y = x then 1 else 0 := by unfold cntS; rw [List.countP_append, List.countP_singleton]; simp
theorem cntS_le (l : List ByteArray) (x : ByteArray) : cntS l x ≤ l.length := List.countP_le_length
theorem lawT : Keyed Tryz.prog 9 := string_keyed Tryz.underlying9
theorem zeroT (w : World) : (zeroValue 3).run Tryz.prog w = .ok (.int .i64 0) w := by kernel_rfl
def Cnt (D : DataW Unit) (l : List ByteArray) : Prop := IsMap D ∧ ∀ x : ByteArray, D.atKey (.string x.data.toList) (.lit (.int .i64 0)) = .lit (.int .i64 (cntS l x : Nat))
theorem Cnt.none : Cnt (.map []) [] := ⟨isMap_empty, fun x => by rfl⟩
theorem keyLitT (k : List UInt8) : WideAt.IsKeyLit (.string k) := by simp [WideAt.IsKeyLit]
theorem Cnt.put {D : DataW Unit} {l : List ByteArray} (h : Cnt D l) (x : ByteArray) (m : Nat) (hm : cntS l x = m) : Cnt (D.put (.string x.data.toList) (.lit (.int .i64 ((m : Int) + 1)))) (l ++ [x]) := by
  refine ⟨h.1.put _ _, fun y => ?_⟩
  rw [cntS_app]
  by_cases hy : x = y
  · subst hy
    rw [atKey_put_same h.1 (keyLitT _), hm, if_pos rfl]
    rfl
  · rw [atKey_put_other (fun e => hy (ByteArray.ext (Array.toList_inj.1 (by injection e with e; exact e.symm)))), h.2 y, if_neg hy]
    rfl
theorem wpList_look_cnt {P : Program} (hP : P = Tryz.prog) (w : World) {ops : Array Oper} {rest : List Oper} {o : Oper} {a : Act} {Q : Exit → Act → World → Prop} (hg : o.guard = Option.none) (m x : Operand) (hop : o.op = Op.lookup 158 m x false)
    (b n : Nat) (D : DataW Unit) (ws : List ByteArray) (hm : a.eval m = .map (some b)) (hown : w.ownsMap Tryz.prog 9 (plainElem Tryz.prog 3) b n D) (hc : Cnt D ws) (key : ByteArray) (hk : key.size ≤ maxLen) (hx : a.eval x = .string key) (c : Int) (hcn : (cntS ws key : Nat) = c)
    (hK : wpList P ops Q rest (a.put o.dst (.int .i64 c)) w) : wpList P ops Q (o :: rest) a w := by
  subst hP
  refine wpList_lookup_own_int w hg m x _ hop 9 3 .i64 lawT Tryz.underlying158 Tryz.underlying3 (zeroT w) b n D hm hown _ _ hx (WideMaps.keyOf_string_mk Tryz.underlying9 hk) ?_
  intro c' hat _
  rw [hc.2 key] at hat
  have e : c' = c := by
    simp only [DataW.lit.injEq, Lit.int.injEq, true_and] at hat
    rw [← hat, hcn]
  rw [e]
  exact hK
theorem mem_of_count {l : List ByteArray} {x : ByteArray} {m : Nat} (h : cntS l x = m) (hm : 1 ≤ m) : x ∈ l := by
  have : 0 < List.countP (fun y => decide (y = x)) l := by unfold cntS at h; omega
  obtain ⟨y, hy, h2⟩ := List.countP_pos_iff.1 this
  rwa [of_decide_eq_true h2] at hy
theorem count_of_mem {l : List ByteArray} {x : ByteArray} (h : x ∈ l) : 0 < cntS l x := List.countP_pos_iff.2 ⟨x, h, decide_eq_true rfl⟩
set_option maxRecDepth 100000 in
set_option maxHeartbeats 4000000 in
theorem twice_any (ok : Nat → Prop) (a : Option Addr) (c : Nat) (ks : List ByteArray) (w : World) (h : StrsAt ok w a ks) (hn : ks.length ≤ 35184372080000) (hs : ∀ k ∈ ks, k.size ≤ maxLen) :
    Calls Tryz.prog 85 #[.slice a ks.length c] w fun e w' => e = .returned (.bool (decide (¬ ks.Nodup))) ∧ Below w.heap.size w w' := by
  have hmm := @run_makeMap Tryz.prog
  have H := Lib.hid h
  have HS := Lib.hid hs
  clear h hs
  go_enter Tryz.func85, Tryz.ntmps85
  go_wp2_with fail
  go_loopg [2, 5, 9] ks.length (fun g s2 _ s9 wr => ∃ (k : Nat) (D : DataW Unit), k + g = ks.length ∧ s2 = .bool false ∧ s9 = .int .i64 k ∧ wr.ownsMap Tryz.prog 9 (plainElem Tryz.prog 3) w.heap.size k D ∧ Cnt D (ks.take k) ∧ (ks.take k).Nodup ∧ Below w.heap.size w wr)
  case atStart => exact ⟨0, _, by omega, rfl, rfl, World.ownsMap_made _ _ _ _, by rw [List.take_zero]; exact Cnt.none, by rw [List.take_zero]; exact List.nodup_nil, (Below.refl _ _).alloc (Nat.le_refl _) _⟩
  case round =>
    obtain ⟨k, D, hk, rfl, rfl, hown, hcnt, hnd, hb⟩ := hrel
    have HO := Lib.hid hown
    have HC := Lib.hid hcnt
    have HB := Lib.hid hb
    have HN := Lib.hid hnd
    clear hown hcnt hb hnd
    by_cases hlt : k < ks.length
    · obtain ⟨x, hx⟩ : ∃ x, ks[k]? = some x := ⟨_, List.getElem?_eq_getElem hlt⟩
      obtain ⟨b, off, ha, -, hbw, hcell⟩ := H.out.resolve_left (by rintro rfl; simp at hlt)
      have hxs := HS.out x (List.mem_of_getElem? hx)
      have c0 : wr.cell? ⟨b, off + k, none⟩ = some (.string x) := by rw [HB.out.cell (p := ⟨b, off + k, none⟩) hbw]; exact hcell k x hx
      have htk : ks.take (k + 1) = ks.take k ++ [x] := by rw [List.take_add_one, hx]; rfl
      have HTK := Lib.hid htk
      have HX := Lib.hid hx
      obtain ⟨m, hm⟩ : ∃ m, cntS (ks.take k) x = m := ⟨_, rfl⟩
      have hmk : m ≤ k := by rw [← hm]; exact Nat.le_trans (cntS_le _ _) (by rw [List.length_take]; exact Nat.min_le_left _ _)
      have HM := Lib.hid hm
      have hwf : (Lit.int .i64 ((m : Int) + 1)).wf = true := by
        simp only [Lit.wf, IntKind.min, IntKind.max, IntKind.signed, IntKind.bits]
        simp
        omega
      subst ha
      clear htk hm hcell hx
      go_wp2_with (first
        | (at_lookup; refine wpList_look_cnt rfl _ rfl _ _ rfl w.heap.size k D _ rfl HO.out HC.out x hxs rfl (m : Int) (congrArg Nat.cast HM.out) ?_)
        | (at_mapUpdate; refine wpList_mapUpdate_own _ rfl _ _ _ 158 rfl 9 3 lawT Tryz.underlying158 _ w.heap.size k D rfl HO.out (by unfold maxLen; omega) _ _ _ rfl rfl (WideMaps.keyOf_string_mk Tryz.underlying9 hxs) _ [] (plainElem_int Tryz.underlying3 hwf) ?_)
        | fail)
      intro w3 hown3 hgr3
      have hc3 := HC.out.put x m HM.out
      rw [← HTK.out] at hc3
      have hct : (cntS (ks.take (k + 1)) x : Nat) = ((m : Int) + 1) := by
        rw [HTK.out, cntS_app, HM.out, if_pos rfl]; rfl
      have HO3 := Lib.hid hown3
      have HC3 := Lib.hid hc3
      have HT3 := Lib.hid hct
      have HB3 := Lib.hid (HB.out.grown hgr3 HB.out.size (fun j hj => by cases hj; exact Nat.le_refl _))
      clear hown3 hc3 hct hgr3 c0
      rcases Nat.eq_zero_or_pos m with rfl | hm0
      · go_wp2_with (first | (at_lookup; refine wpList_look_cnt rfl _ rfl _ _ rfl w.heap.size (k + 1) _ _ rfl HO3.out HC3.out x hxs rfl _ HT3.out ?_) | fail)
        go_roundg (gk - 1)
        case measure => omega
        case rel =>
          refine ⟨k + 1, _, by omega, rfl, by go_num, HO3.out, HC3.out, ?_, HB3.out⟩
          rw [HTK.out, List.nodup_append]
          refine ⟨HN.out, by simp, fun y hy z hz => ?_⟩
          rw [List.mem_singleton] at hz
          subst hz
          rintro rfl
          have := count_of_mem hy
          rw [HM.out] at this
          omega
      · have hgt : (1 : Int) < (m : Int) + 1 := by omega
        go_wp2_with (first | (at_lookup; refine wpList_look_cnt rfl _ rfl _ _ rfl w.heap.size (k + 1) _ _ rfl HO3.out HC3.out x hxs rfl _ HT3.out ?_) | fail)
        go_ret
        refine ⟨congrArg (fun b => Ending.returned (.bool b)) (decide_eq_true ?_).symm, HB3.out⟩
        intro hnd
        have h1 : (ks.take (k + 1)).Nodup := hnd.sublist (List.take_sublist _ _)
        rw [HTK.out, List.nodup_append] at h1
        exact h1.2.2 x (mem_of_count HM.out hm0) x (by simp) rfl
    · obtain rfl : k = ks.length := by omega
      go_wp2_with fail
      go_ret
      refine ⟨congrArg (fun b => Ending.returned (.bool b)) (decide_eq_false ?_).symm, HB.out⟩
      have := HN.out
      rw [List.take_length] at this
      exact fun h => h this
theorem rest_eql (b b' : Bool) (n n' u u' : Int) (s s' : ByteArray) (W : World) : (binOp .eql 63 (.agg #[.bool b, .int .i64 n, .int .u64 u, .string s]) (.agg #[.bool b', .int .i64 n', .int .u64 u', .string s'])).run Tryz.prog W = .ok (.bool (decide (b = b' ∧ n = n' ∧ u = u' ∧ s = s'))) W := by
  have uB := Tryz.underlying4
  have uI := Tryz.underlying2
  have uU := Tryz.underlying23
  have uS := Tryz.underlying9
  have hS : Tryz.prog.underlying 63 = some (.struct (Tryz.prog.fieldsOf 63)) := by kernel_rfl
  have hp : Tryz.prog.stoodInHeld 63 = false := by kernel_rfl
  rw [run_eql_struct, show (10000 : Nat) = 9999 + 1 from rfl, run_equalIn_agg W 9999 63 _ _ hS hp]
  simp only [Program.fieldsOf, Tryz.underlying63]
  have hs : s.toList = s'.toList ↔ s = s' := by
    rw [ByteArray.toList_eq, ByteArray.toList_eq]
    exact ⟨fun h => ByteArray.ext (Array.toList_inj.1 h), fun h => by rw [h]⟩
  go_simp
  by_cases h1 : b = b' <;> by_cases h2 : n = n' <;> by_cases h3 : u = u' <;> by_cases h4 : s = s' <;> simp [h1, h2, h3, h4]
end Go.Proofs.YtckaoeloofbklaaGreatDoor
