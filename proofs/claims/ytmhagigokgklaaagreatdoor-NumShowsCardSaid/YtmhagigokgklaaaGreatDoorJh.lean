/- Joined texts: Um Un Pc Pd Pe. Each begins with its own remark. -/
import Derived.Test.YtmhagigokgklaaaGreatDoorJg
import Derived.Test.YtmhagigokgklaaaGreatDoorJc
import Derived.Test.YtmhagigokgklaaaGreatDoorJf
import Derived.OwnWalk
import Derived.Deep.RegionHeld
import Derived.Deep.QuietTactic
import Derived.BigQuiet
import Derived.Deep.DeepCutAuto
import Derived.Deep.LoopGhost
import Derived.WalkMore

/- The forms of decimal texts; what readFloat makes of their digits (plain). -/
namespace Go.Proofs.YtmhagigokgklaaaGreatDoor
open Go Go.RowKit

/-- the digits, with their point -/
def mantT (W F : List UInt8) (dot : Bool) : List UInt8 := W ++ (if dot then 46 :: F else [])
/-- the power -/
def powT (eb : UInt8) (sg X : List UInt8) : List UInt8 := eb :: (sg ++ X)
/-- t is digits W, a point and digits F or none -/
structure MantF (t W F : List UInt8) (dot : Bool) : Prop where
  eq : t = mantT W F dot
  w : ∀ x ∈ W, isDig x
  f : ∀ x ∈ F, isDig x
  nodot : dot = false → F = []
structure PowF (t : List UInt8) (eb : UInt8) (sg X : List UInt8) : Prop where
  eq : t = powT eb sg X
  eb : eb.toNat = 69 ∨ eb.toNat = 101
  sg : sg = [] ∨ sg = [43] ∨ sg = [45]
  x : ∀ x ∈ X, isDig x

def noBars (l : List UInt8) : List UInt8 := l.filter (· != 95)
theorem noBars_snoc (l : List UInt8) (c : UInt8) : noBars (l ++ [c]) = if c = 95 then noBars l else noBars l ++ [c] := by
  unfold noBars
  rw [List.filter_append]
  by_cases h : c = 95
  · rw [if_pos h, h]; simp
  · rw [if_neg h, List.filter_cons, if_pos (by simpa using h)]; rfl

/-- what a text is in each state (of what stands without bars) -/
def StInv (q : Nat) (t : List UInt8) : Prop :=
  match q with
  | 1 => t = []
  | 2 => t = [48]
  | 3 | 4 => MantF t t [] false ∧ t ≠ [] ∧ t.head? ≠ some 48
  | 5 => t = [46]
  | 6 | 7 => ∃ W F, MantF t W F true ∧ F ≠ [] ∧ (W.head? = some 48 → W = [48])
  | 8 => ∃ W F d eb M, MantF M W F d ∧ W ++ F ≠ [] ∧ (W.head? = some 48 → W = [48]) ∧ (eb.toNat = 69 ∨ eb.toNat = 101) ∧ t = M ++ [eb]
  | 9 => ∃ W F d eb M sg, MantF M W F d ∧ W ++ F ≠ [] ∧ (W.head? = some 48 → W = [48]) ∧ (eb.toNat = 69 ∨ eb.toNat = 101) ∧ (sg = [43] ∨ sg = [45]) ∧ t = M ++ eb :: sg
  | 10 | 11 => ∃ W F d eb M sg X, MantF M W F d ∧ W ++ F ≠ [] ∧ (W.head? = some 48 → W = [48]) ∧ PowF (powT eb sg X) eb sg X ∧ X ≠ [] ∧ t = M ++ powT eb sg X
  | 12 => ∃ W, MantF t W [] true ∧ W ≠ [] ∧ (W.head? = some 48 → W = [48])
  | _ => False

theorem dig_cls (c : UInt8) (h : clsN c.toNat = 2) : isDig c ∧ c ≠ 48 ∧ c ≠ 95 := by
  have h256 := c.toNat_lt
  unfold clsN at h
  have h1 : 48 < c.toNat ∧ c.toNat ≤ 57 := by
    by_cases h0 : c.toNat = 48
    · rw [if_pos h0] at h; omega
    · rw [if_neg h0] at h
      by_cases h1 : 48 ≤ c.toNat ∧ c.toNat ≤ 57
      · omega
      · rw [if_neg h1] at h
        repeat (split at h <;> try omega)
  refine ⟨⟨by omega, by omega⟩, ?_, ?_⟩ <;> (rintro rfl; revert h1; decide)
theorem cls_is (c : UInt8) : (clsN c.toNat = 0) ∨ (clsN c.toNat = 1 ∧ c = 48) ∨ (clsN c.toNat = 2 ∧ isDig c ∧ c ≠ 48 ∧ c ≠ 95) ∨ (clsN c.toNat = 3 ∧ c = 46) ∨ (clsN c.toNat = 4 ∧ (c.toNat = 69 ∨ c.toNat = 101) ∧ c ≠ 95) ∨ (clsN c.toNat = 5 ∧ (c = 43 ∨ c = 45)) ∨ (clsN c.toNat = 6 ∧ c = 95) := by
  have key : ∀ k : Fin 256, (clsN k.val = 0) ∨ (clsN k.val = 1 ∧ k.val = 48) ∨ (clsN k.val = 2 ∧ (48 ≤ k.val ∧ k.val ≤ 57) ∧ k.val ≠ 48 ∧ k.val ≠ 95) ∨ (clsN k.val = 3 ∧ k.val = 46) ∨ (clsN k.val = 4 ∧ (k.val = 69 ∨ k.val = 101) ∧ k.val ≠ 95) ∨ (clsN k.val = 5 ∧ (k.val = 43 ∨ k.val = 45)) ∨ (clsN k.val = 6 ∧ k.val = 95) := by decide +kernel
  have inj : ∀ n : Nat, n < 256 → c.toNat = n → c = UInt8.ofNat n := fun n hn h => by rw [← h, UInt8.ofNat_toNat]
  have ninj : ∀ n : Nat, n < 256 → c.toNat ≠ n → c ≠ UInt8.ofNat n := fun n hn h h2 => h (by rw [h2, UInt8.toNat_ofNat', Nat.mod_eq_of_lt (by omega)])
  rcases key ⟨c.toNat, c.toNat_lt⟩ with h | ⟨h, h2⟩ | ⟨h, h2, h3, h4⟩ | ⟨h, h2⟩ | ⟨h, h2, h3⟩ | ⟨h, h2 | h2⟩ | ⟨h, h2⟩
  · exact .inl h
  · exact .inr (.inl ⟨h, inj 48 (by decide) h2⟩)
  · exact .inr (.inr (.inl ⟨h, h2, ninj 48 (by decide) h3, ninj 95 (by decide) h4⟩))
  · exact .inr (.inr (.inr (.inl ⟨h, inj 46 (by decide) h2⟩)))
  · exact .inr (.inr (.inr (.inr (.inl ⟨h, h2, ninj 95 (by decide) h3⟩))))
  · exact .inr (.inr (.inr (.inr (.inr (.inl ⟨h, .inl (inj 43 (by decide) h2)⟩)))))
  · exact .inr (.inr (.inr (.inr (.inr (.inl ⟨h, .inr (inj 45 (by decide) h2)⟩)))))
  · exact .inr (.inr (.inr (.inr (.inr (.inr ⟨h, inj 95 (by decide) h2⟩)))))

theorem dig48 : isDig 48 := ⟨by decide, by decide⟩
theorem mant_w {W : List UInt8} (h : ∀ x ∈ W, isDig x) : MantF W W [] false := ⟨by simp [mantT], h, by simp, fun _ => rfl⟩
theorem all_snoc {W : List UInt8} {c : UInt8} (h : ∀ x ∈ W, isDig x) (hc : isDig c) : ∀ x ∈ W ++ [c], isDig x := by
  intro x hx
  rcases List.mem_append.1 hx with h1 | h1
  · exact h x h1
  · rw [List.mem_singleton] at h1; rw [h1]; exact hc
theorem mant_f {t W F : List UInt8} {c : UInt8} (h : MantF t W F true) (hc : isDig c) : MantF (t ++ [c]) W (F ++ [c]) true :=
  ⟨by rw [h.eq]; simp [mantT], h.w, all_snoc h.f hc, fun h => by simp at h⟩
theorem mant_dot {W : List UInt8} (h : ∀ x ∈ W, isDig x) : MantF (W ++ [46]) W [] true := ⟨by simp [mantT], h, by simp, fun _ => rfl⟩
theorem head_snoc {W : List UInt8} (c : UInt8) (h : W ≠ []) : (W ++ [c]).head? = W.head? := by
  cases W with
  | nil => exact absurd rfl h
  | cons x l => rfl
theorem pow_x {eb : UInt8} {sg X : List UInt8} {c : UInt8} (h : PowF (powT eb sg X) eb sg X) (hc : isDig c) : PowF (powT eb sg (X ++ [c])) eb sg (X ++ [c]) :=
  ⟨rfl, h.eb, h.sg, all_snoc h.x hc⟩
theorem pow_1 {eb : UInt8} {sg : List UInt8} {c : UInt8} (h : eb.toNat = 69 ∨ eb.toNat = 101) (h2 : sg = [] ∨ sg = [43] ∨ sg = [45]) (hc : isDig c) : PowF (powT eb sg [c]) eb sg [c] :=
  ⟨rfl, h, h2, fun x hx => by rw [List.mem_singleton] at hx; rw [hx]; exact hc⟩

/-- one byte on; every state but the bars' -/
theorem st_inv_step (q : Nat) (t : List UInt8) (c : UInt8) (h : StInv q t) (hq : q < 13) :
    nextN q (clsN c.toNat) = 0 ∨ StInv (nextN q (clsN c.toNat)) (if c = 95 then t else t ++ [c]) := by
  have h13 : q = 0 ∨ q = 1 ∨ q = 2 ∨ q = 3 ∨ q = 4 ∨ q = 5 ∨ q = 6 ∨ q = 7 ∨ q = 8 ∨ q = 9 ∨ q = 10 ∨ q = 11 ∨ q = 12 := by omega
  have hcl := cls_is c
  have e95 : c ≠ 95 → (if c = 95 then t else t ++ [c]) = t ++ [c] := fun h => if_neg h
  rcases h13 with rfl | rfl | rfl | rfl | rfl | rfl | rfl | rfl | rfl | rfl | rfl | rfl | rfl
  · exact h.elim
  · -- the beginning
    replace h : t = [] := h
    subst h
    rcases hcl with h1 | ⟨h1, rfl⟩ | ⟨h1, h2, h3, h4⟩ | ⟨h1, rfl⟩ | ⟨h1, h2, h3⟩ | ⟨h1, h2⟩ | ⟨h1, h2⟩ <;> rw [h1]
    · exact .inl rfl
    · exact .inr (show StInv 2 _ from rfl)
    · rw [e95 h4]
      have hw : ∀ x ∈ [c], isDig x := fun x hx => by rw [List.mem_singleton] at hx; rw [hx]; exact h2
      exact .inr (show StInv 3 [c] from ⟨mant_w hw, by simp, by simpa using h3⟩)
    · exact .inr (show StInv 5 _ from rfl)
    · exact .inl rfl
    · exact .inl rfl
    · exact .inl rfl
  · -- a nought
    replace h : t = [48] := h
    subst h
    have hw : ∀ x ∈ [(48 : UInt8)], isDig x := fun x hx => by rw [List.mem_singleton] at hx; rw [hx]; exact dig48
    rcases hcl with h1 | ⟨h1, rfl⟩ | ⟨h1, h2, h3, h4⟩ | ⟨h1, rfl⟩ | ⟨h1, h2, h3⟩ | ⟨h1, h2⟩ | ⟨h1, h2⟩ <;> rw [h1]
    · exact .inl rfl
    · exact .inl rfl
    · exact .inl rfl
    · exact .inr (show StInv 12 ([48] ++ [46]) from ⟨[48], mant_dot hw, by simp, fun _ => rfl⟩)
    · rw [e95 h3]
      exact .inr (show StInv 8 ([48] ++ [c]) from ⟨[48], [], false, c, [48], mant_w hw, by simp, fun _ => rfl, h2, rfl⟩)
    · exact .inl rfl
    · exact .inl rfl
  · -- digits
    obtain ⟨hm, hne, hh⟩ : MantF t t [] false ∧ t ≠ [] ∧ t.head? ≠ some 48 := h
    rcases hcl with h1 | ⟨h1, rfl⟩ | ⟨h1, h2, h3, h4⟩ | ⟨h1, rfl⟩ | ⟨h1, h2, h3⟩ | ⟨h1, h2⟩ | ⟨h1, rfl⟩ <;> rw [h1]
    · exact .inl rfl
    · exact .inr (show StInv 3 (t ++ [48]) from ⟨mant_w (all_snoc hm.w dig48), by simp, by rw [head_snoc _ hne]; exact hh⟩)
    · rw [e95 h4]
      exact .inr (show StInv 3 (t ++ [c]) from ⟨mant_w (all_snoc hm.w h2), by simp, by rw [head_snoc _ hne]; exact hh⟩)
    · exact .inr (show StInv 12 (t ++ [46]) from ⟨t, mant_dot hm.w, hne, fun h => absurd h hh⟩)
    · rw [e95 h3]
      exact .inr (show StInv 8 (t ++ [c]) from ⟨t, [], false, c, t, hm, by simpa using hne, fun h => absurd h hh, h2, rfl⟩)
    · exact .inl rfl
    · exact .inr (show StInv 4 t from ⟨hm, hne, hh⟩)
  · -- a bar in these
    obtain ⟨hm, hne, hh⟩ : MantF t t [] false ∧ t ≠ [] ∧ t.head? ≠ some 48 := h
    rcases hcl with h1 | ⟨h1, rfl⟩ | ⟨h1, h2, h3, h4⟩ | ⟨h1, rfl⟩ | ⟨h1, h2, h3⟩ | ⟨h1, h2⟩ | ⟨h1, rfl⟩ <;> rw [h1]
    · exact .inl rfl
    · exact .inr (show StInv 3 (t ++ [48]) from ⟨mant_w (all_snoc hm.w dig48), by simp, by rw [head_snoc _ hne]; exact hh⟩)
    · rw [e95 h4]
      exact .inr (show StInv 3 (t ++ [c]) from ⟨mant_w (all_snoc hm.w h2), by simp, by rw [head_snoc _ hne]; exact hh⟩)
    all_goals exact .inl rfl
  · -- a point ahead
    replace h : t = [46] := h
    subst h
    rcases hcl with h1 | ⟨h1, rfl⟩ | ⟨h1, h2, h3, h4⟩ | ⟨h1, rfl⟩ | ⟨h1, h2, h3⟩ | ⟨h1, h2⟩ | ⟨h1, rfl⟩ <;> rw [h1]
    · exact .inl rfl
    · exact .inr (show StInv 6 ([46] ++ [48]) from ⟨[], [48], mant_f (mant_dot (W := []) (by simp)) dig48, by simp, by simp⟩)
    · rw [e95 h4]
      exact .inr (show StInv 6 ([46] ++ [c]) from ⟨[], [c], mant_f (mant_dot (W := []) (by simp)) h2, by simp, by simp⟩)
    all_goals exact .inl rfl
  · -- digits behind a point
    obtain ⟨W, F, hm, hne, hh⟩ : ∃ W F, MantF t W F true ∧ F ≠ [] ∧ (W.head? = some 48 → W = [48]) := h
    rcases hcl with h1 | ⟨h1, rfl⟩ | ⟨h1, h2, h3, h4⟩ | ⟨h1, rfl⟩ | ⟨h1, h2, h3⟩ | ⟨h1, h2⟩ | ⟨h1, rfl⟩ <;> rw [h1]
    · exact .inl rfl
    · exact .inr (show StInv 6 (t ++ [48]) from ⟨W, F ++ [48], mant_f hm dig48, by simp, hh⟩)
    · rw [e95 h4]
      exact .inr (show StInv 6 (t ++ [c]) from ⟨W, F ++ [c], mant_f hm h2, by simp, hh⟩)
    · exact .inl rfl
    · rw [e95 h3]
      exact .inr (show StInv 8 (t ++ [c]) from ⟨W, F, true, c, t, hm, by simp [hne], hh, h2, rfl⟩)
    · exact .inl rfl
    · exact .inr (show StInv 7 t from ⟨W, F, hm, hne, hh⟩)
  · obtain ⟨W, F, hm, hne, hh⟩ : ∃ W F, MantF t W F true ∧ F ≠ [] ∧ (W.head? = some 48 → W = [48]) := h
    rcases hcl with h1 | ⟨h1, rfl⟩ | ⟨h1, h2, h3, h4⟩ | ⟨h1, rfl⟩ | ⟨h1, h2, h3⟩ | ⟨h1, h2⟩ | ⟨h1, rfl⟩ <;> rw [h1]
    · exact .inl rfl
    · exact .inr (show StInv 6 (t ++ [48]) from ⟨W, F ++ [48], mant_f hm dig48, by simp, hh⟩)
    · rw [e95 h4]
      exact .inr (show StInv 6 (t ++ [c]) from ⟨W, F ++ [c], mant_f hm h2, by simp, hh⟩)
    all_goals exact .inl rfl
  · -- a power's letter
    obtain ⟨W, F, d, eb, M, hm, hne, hh, he, rfl⟩ : ∃ (W F : List UInt8) (d : Bool) (eb : UInt8) (M : List UInt8), MantF M W F d ∧ W ++ F ≠ [] ∧ (W.head? = some 48 → W = [48]) ∧ (eb.toNat = 69 ∨ eb.toNat = 101) ∧ t = M ++ [eb] := h
    rcases hcl with h1 | ⟨h1, rfl⟩ | ⟨h1, h2, h3, h4⟩ | ⟨h1, rfl⟩ | ⟨h1, h2, h3⟩ | ⟨h1, h2⟩ | ⟨h1, rfl⟩ <;> rw [h1]
    · exact .inl rfl
    · exact .inr (show StInv 10 (M ++ [eb] ++ [48]) from ⟨W, F, d, eb, M, [], [48], hm, hne, hh, pow_1 he (.inl rfl) dig48, by simp, by simp [powT]⟩)
    · rw [e95 h4]
      exact .inr (show StInv 10 (M ++ [eb] ++ [c]) from ⟨W, F, d, eb, M, [], [c], hm, hne, hh, pow_1 he (.inl rfl) h2, by simp, by simp [powT]⟩)
    · exact .inl rfl
    · exact .inl rfl
    · rcases h2 with rfl | rfl
      · exact .inr (show StInv 9 (M ++ [eb] ++ [43]) from ⟨W, F, d, eb, M, [43], hm, hne, hh, he, .inl rfl, by simp⟩)
      · exact .inr (show StInv 9 (M ++ [eb] ++ [45]) from ⟨W, F, d, eb, M, [45], hm, hne, hh, he, .inr rfl, by simp⟩)
    · exact .inl rfl
  · -- its sign
    obtain ⟨W, F, d, eb, M, sg, hm, hne, hh, he, hs, rfl⟩ : ∃ (W F : List UInt8) (d : Bool) (eb : UInt8) (M sg : List UInt8), MantF M W F d ∧ W ++ F ≠ [] ∧ (W.head? = some 48 → W = [48]) ∧ (eb.toNat = 69 ∨ eb.toNat = 101) ∧ (sg = [43] ∨ sg = [45]) ∧ t = M ++ eb :: sg := h
    rcases hcl with h1 | ⟨h1, rfl⟩ | ⟨h1, h2, h3, h4⟩ | ⟨h1, rfl⟩ | ⟨h1, h2, h3⟩ | ⟨h1, h2⟩ | ⟨h1, rfl⟩ <;> rw [h1]
    · exact .inl rfl
    · exact .inr (show StInv 10 (M ++ eb :: sg ++ [48]) from ⟨W, F, d, eb, M, sg, [48], hm, hne, hh, pow_1 he (.inr hs) dig48, by simp, by simp [powT]⟩)
    · rw [e95 h4]
      exact .inr (show StInv 10 (M ++ eb :: sg ++ [c]) from ⟨W, F, d, eb, M, sg, [c], hm, hne, hh, pow_1 he (.inr hs) h2, by simp, by simp [powT]⟩)
    all_goals exact .inl rfl
  · -- its digits
    obtain ⟨W, F, d, eb, M, sg, X, hm, hne, hh, hp, hx, rfl⟩ : ∃ W F d eb M sg X, MantF M W F d ∧ W ++ F ≠ [] ∧ (W.head? = some 48 → W = [48]) ∧ PowF (powT eb sg X) eb sg X ∧ X ≠ [] ∧ t = M ++ powT eb sg X := h
    rcases hcl with h1 | ⟨h1, rfl⟩ | ⟨h1, h2, h3, h4⟩ | ⟨h1, rfl⟩ | ⟨h1, h2, h3⟩ | ⟨h1, h2⟩ | ⟨h1, rfl⟩ <;> rw [h1]
    · exact .inl rfl
    · exact .inr (show StInv 10 (M ++ powT eb sg X ++ [48]) from ⟨W, F, d, eb, M, sg, X ++ [48], hm, hne, hh, pow_x hp dig48, by simp, by simp [powT]⟩)
    · rw [e95 h4]
      exact .inr (show StInv 10 (M ++ powT eb sg X ++ [c]) from ⟨W, F, d, eb, M, sg, X ++ [c], hm, hne, hh, pow_x hp h2, by simp, by simp [powT]⟩)
    · exact .inl rfl
    · exact .inl rfl
    · exact .inl rfl
    · exact .inr (show StInv 11 (M ++ powT eb sg X) from ⟨W, F, d, eb, M, sg, X, hm, hne, hh, hp, hx, rfl⟩)
  · obtain ⟨W, F, d, eb, M, sg, X, hm, hne, hh, hp, hx, rfl⟩ : ∃ W F d eb M sg X, MantF M W F d ∧ W ++ F ≠ [] ∧ (W.head? = some 48 → W = [48]) ∧ PowF (powT eb sg X) eb sg X ∧ X ≠ [] ∧ t = M ++ powT eb sg X := h
    rcases hcl with h1 | ⟨h1, rfl⟩ | ⟨h1, h2, h3, h4⟩ | ⟨h1, rfl⟩ | ⟨h1, h2, h3⟩ | ⟨h1, h2⟩ | ⟨h1, rfl⟩ <;> rw [h1]
    · exact .inl rfl
    · exact .inr (show StInv 10 (M ++ powT eb sg X ++ [48]) from ⟨W, F, d, eb, M, sg, X ++ [48], hm, hne, hh, pow_x hp dig48, by simp, by simp [powT]⟩)
    · rw [e95 h4]
      exact .inr (show StInv 10 (M ++ powT eb sg X ++ [c]) from ⟨W, F, d, eb, M, sg, X ++ [c], hm, hne, hh, pow_x hp h2, by simp, by simp [powT]⟩)
    all_goals exact .inl rfl
  · -- a point behind digits
    obtain ⟨W, hm, hne, hh⟩ : ∃ W, MantF t W [] true ∧ W ≠ [] ∧ (W.head? = some 48 → W = [48]) := h
    rcases hcl with h1 | ⟨h1, rfl⟩ | ⟨h1, h2, h3, h4⟩ | ⟨h1, rfl⟩ | ⟨h1, h2, h3⟩ | ⟨h1, h2⟩ | ⟨h1, rfl⟩ <;> rw [h1]
    · exact .inl rfl
    · exact .inr (show StInv 6 (t ++ [48]) from ⟨W, [] ++ [48], mant_f hm dig48, by simp, hh⟩)
    · rw [e95 h4]
      exact .inr (show StInv 6 (t ++ [c]) from ⟨W, [] ++ [c], mant_f hm h2, by simp, hh⟩)
    · exact .inl rfl
    · rw [e95 h3]
      exact .inr (show StInv 8 (t ++ [c]) from ⟨W, [], true, c, t, hm, by simpa using hne, hh, h2, rfl⟩)
    · exact .inl rfl
    · exact .inl rfl

theorem stN_snoc (l : List UInt8) (c : UInt8) : stN (l ++ [c]) = nextN (stN l) (clsN c.toNat) := by
  unfold stN; rw [List.foldl_append]; rfl
theorem stN_lt (l : List UInt8) : stN l < 13 := by
  rcases List.eq_nil_or_concat l with rfl | ⟨l', c, rfl⟩
  · decide
  · rw [List.concat_eq_append, stN_snoc]; exact next_lt _ _
theorem snoc_ind {P : List UInt8 → Prop} (h0 : P []) (h1 : ∀ l c, P l → P (l ++ [c])) : ∀ l, P l := by
  have : ∀ n, ∀ l : List UInt8, l.length = n → P l := by
    intro n
    induction n with
    | zero => intro l hl; rw [List.length_eq_zero_iff.1 hl]; exact h0
    | succ n ih =>
      intro l hl
      rcases List.eq_nil_or_concat l with rfl | ⟨l', c, rfl⟩
      · simp at hl
      · rw [List.concat_eq_append] at hl ⊢
        exact h1 l' c (ih l' (by simpa using hl))
  exact fun l => this _ l rfl
theorem st_inv : ∀ l : List UInt8, stN l = 0 ∨ StInv (stN l) (noBars l) := by
  refine snoc_ind (.inr (show StInv 1 [] from rfl)) fun l c ih => ?_
  rw [stN_snoc, noBars_snoc]
  rcases ih with h | h
  · rw [h]; exact .inl (next_zero _ (cls_lt _))
  · exact st_inv_step _ _ c h (stN_lt l)

/-- a decimal number is digits with a point or none, and a power or none -/
theorem dec_form (l : List UInt8) (h : decB l = true) : ∃ W F d M, MantF M W F d ∧ W ++ F ≠ [] ∧ (W.head? = some 48 → W = [48]) ∧
    (noBars l = M ∨ ∃ eb sg X, PowF (powT eb sg X) eb sg X ∧ X ≠ [] ∧ noBars l = M ++ powT eb sg X) := by
  unfold decB endB at h
  simp only [Bool.or_eq_true, beq_iff_eq] at h
  have hi := st_inv l
  generalize noBars l = t at *
  rcases h with ((((h | h) | h) | h) | h) <;> rw [h] at hi
  · replace hi : t = [48] := hi.resolve_left (by decide)
    subst hi
    exact ⟨[48], [], false, [48], mant_w (fun x hx => by rw [List.mem_singleton] at hx; rw [hx]; exact dig48), by simp, fun _ => rfl, .inl rfl⟩
  · obtain ⟨hm, hne, hh⟩ : MantF t t [] false ∧ t ≠ [] ∧ t.head? ≠ some 48 := hi.resolve_left (by decide)
    exact ⟨t, [], false, t, hm, by simpa using hne, fun h => absurd h hh, .inl rfl⟩
  · obtain ⟨W, F, hm, hne, hh⟩ : ∃ W F, MantF t W F true ∧ F ≠ [] ∧ (W.head? = some 48 → W = [48]) := hi.resolve_left (by decide)
    exact ⟨W, F, true, t, hm, by simp [hne], hh, .inl rfl⟩
  · obtain ⟨W, F, d, eb, M, sg, X, hm, hne, hh, hp, hx, ht⟩ : ∃ W F d eb M sg X, MantF M W F d ∧ W ++ F ≠ [] ∧ (W.head? = some 48 → W = [48]) ∧ PowF (powT eb sg X) eb sg X ∧ X ≠ [] ∧ t = M ++ powT eb sg X := hi.resolve_left (by decide)
    exact ⟨W, F, d, M, hm, hne, hh, .inr ⟨eb, sg, X, hp, hx, ht⟩⟩
  · obtain ⟨W, hm, hne, hh⟩ : ∃ W, MantF t W [] true ∧ W ≠ [] ∧ (W.head? = some 48 → W = [48]) := hi.resolve_left (by decide)
    exact ⟨W, [], true, t, hm, by simpa using hne, hh, .inl rfl⟩
end Go.Proofs.YtmhagigokgklaaaGreatDoor

/- What readFloat makes of digits (plain). -/
namespace Go.Proofs.YtmhagigokgklaaaGreatDoor
open Go Go.RowKit

structure RF where
  nd : Nat
  nm : Nat
  mant : Nat
  dp : Int
  dot : Bool
  dig : Bool
  tr : Bool

def rf0 : RF := ⟨0, 0, 0, 0, false, false, false⟩
/-- a digit's value -/
def dv (c : Nat) : Nat := if 48 ≤ c ∧ c ≤ 57 then c - 48 else c - 87
/-- one byte on: a point, or a digit of the base (the letters small) -/
def rfStep (b mx : Nat) (s : RF) (c : UInt8) : RF :=
  if c = 46 then { s with dot := true, dp := s.nd }
  else if c = 48 ∧ s.nd = 0 then { s with dig := true, dp := s.dp - 1 }
  else if s.nm < mx then { s with dig := true, nd := s.nd + 1, nm := s.nm + 1, mant := s.mant * b + dv c.toNat }
  else { s with dig := true, nd := s.nd + 1, tr := s.tr || c != 48 }
def rfF (b mx : Nat) (l : List UInt8) : RF := l.foldl (rfStep b mx) rf0

theorem rf_snoc (b mx : Nat) (l : List UInt8) (c : UInt8) : rfF b mx (l ++ [c]) = rfStep b mx (rfF b mx l) c := by
  unfold rfF; rw [List.foldl_append]; rfl
theorem rf_take (b mx : Nat) (s : ByteArray) (k o : Nat) (h : o + k < s.size) : rfF b mx ((s.data.toList.drop o).take (k + 1)) = rfStep b mx (rfF b mx ((s.data.toList.drop o).take k)) (s[o + k]) := by
  have hl : k < (s.data.toList.drop o).length := by simp; omega
  rw [List.take_succ_eq_append_getElem hl, rf_snoc]
  congr 1
  simp
  rfl

/-- the value of digits -/
def dvl (b : Nat) (l : List UInt8) : Nat := l.foldl (fun a c => a * b + dv c.toNat) 0
def dropZ (l : List UInt8) : List UInt8 := l.dropWhile (· == 48)

theorem dvl_snoc (b : Nat) (l : List UInt8) (c : UInt8) : dvl b (l ++ [c]) = dvl b l * b + dv c.toNat := by
  unfold dvl; rw [List.foldl_append]; rfl
theorem dvl_app (b : Nat) (l : List UInt8) : ∀ m : List UInt8, dvl b (l ++ m) = dvl b l * b ^ m.length + dvl b m := by
  refine snoc_ind (by simp [dvl]) fun m c ih => ?_
  rw [← List.append_assoc, dvl_snoc, ih, dvl_snoc, List.length_append, List.length_singleton, Nat.pow_succ, Nat.add_mul]
  rw [Nat.mul_assoc, Nat.add_assoc]
theorem dropZ_snoc (l : List UInt8) (c : UInt8) : dropZ (l ++ [c]) = if c = 48 ∧ dropZ l = [] then [] else dropZ l ++ [c] := by
  unfold dropZ
  rw [List.dropWhile_append]
  by_cases h : List.dropWhile (· == 48) l = []
  · rw [h]
    by_cases hc : c = 48
    · subst hc; simp
    · simp [hc]
  · have : (List.dropWhile (· == 48) l).isEmpty = false := by simpa using h
    rw [this, if_neg (show ¬ (c = 48 ∧ _) from fun h2 => h h2.2)]
    simp
theorem dvl_dropZ (b : Nat) : ∀ l : List UInt8, dvl b (dropZ l) = dvl b l := by
  refine snoc_ind rfl fun l c ih => ?_
  rw [dropZ_snoc, dvl_snoc]
  split
  · rename_i h
    rw [h.2] at ih
    rw [← ih, h.1]
    simp [dvl, dv]
  · rw [dvl_snoc, ih]

/-- what is known of the state behind digits -/
structure RFinv (b mx : Nat) (D : List UInt8) (s : RF) : Prop where
  nd : s.nd = (dropZ D).length
  nm : s.nm = min mx (dropZ D).length
  mant : s.mant = dvl b ((dropZ D).take mx)
  tr : s.tr = ((dropZ D).drop mx).any (· != 48)
  dig : s.dig = !D.isEmpty

theorem rf_inv0 (b mx : Nat) : RFinv b mx [] rf0 := ⟨rfl, by simp [rf0, dropZ], by simp [rf0, dropZ, dvl], by simp [rf0, dropZ], rfl⟩
theorem rf_inv_dot (b mx : Nat) (D : List UInt8) (s : RF) (h : RFinv b mx D s) : RFinv b mx D (rfStep b mx s 46) ∧ (rfStep b mx s 46).dot = true ∧ (rfStep b mx s 46).dp = (rfStep b mx s 46).nd := by
  unfold rfStep
  rw [if_pos rfl]
  exact ⟨⟨h.nd, h.nm, h.mant, h.tr, h.dig⟩, rfl, rfl⟩
theorem rf_inv_step (b mx : Nat) (D : List UInt8) (s : RF) (c : UInt8) (h : RFinv b mx D s) (hc : c ≠ 46) :
    RFinv b mx (D ++ [c]) (rfStep b mx s c) ∧ (rfStep b mx s c).dot = s.dot ∧ (rfStep b mx s c).dp - (rfStep b mx s c).nd = s.dp - s.nd - 1 := by
  unfold rfStep
  rw [if_neg hc]
  have hemp : (!(D ++ [c]).isEmpty) = true := by simp
  by_cases h0 : c = 48 ∧ s.nd = 0
  · rw [if_pos h0]
    have hz : dropZ D = [] := List.length_eq_zero_iff.1 (by rw [← h.nd]; exact h0.2)
    have hd : dropZ (D ++ [c]) = [] := by rw [dropZ_snoc, if_pos ⟨h0.1, hz⟩]
    refine ⟨⟨?_, ?_, ?_, ?_, hemp.symm⟩, rfl, by show s.dp - 1 - s.nd = _; omega⟩
    · rw [hd]; exact h0.2
    · rw [hd]; show s.nm = _; rw [h.nm, hz]
    · rw [hd]; show s.mant = _; rw [h.mant, hz]
    · rw [hd]; show s.tr = _; rw [h.tr, hz]
  · rw [if_neg h0]
    have hd : dropZ (D ++ [c]) = dropZ D ++ [c] := by
      rw [dropZ_snoc, if_neg]
      rintro ⟨h1, h2⟩
      exact h0 ⟨h1, by rw [h.nd, h2]; rfl⟩
    by_cases hm : s.nm < mx
    · rw [if_pos hm]
      have hlt : (dropZ D).length < mx := by have := h.nm; omega
      refine ⟨⟨?_, ?_, ?_, ?_, hemp.symm⟩, rfl, by show s.dp - ((s.nd + 1 : Nat) : Int) = _; omega⟩
      · show s.nd + 1 = _; rw [hd, List.length_append, h.nd]; rfl
      · show s.nm + 1 = _; rw [hd, List.length_append, h.nm, List.length_singleton]; omega
      · show s.mant * b + dv c.toNat = _
        rw [hd, h.mant, List.take_of_length_le (by omega), List.take_of_length_le (by rw [List.length_append, List.length_singleton]; omega), dvl_snoc]
      · show s.tr = _
        rw [hd, h.tr, List.drop_eq_nil_of_le (by omega), List.drop_eq_nil_of_le (by rw [List.length_append, List.length_singleton]; omega)]
    · rw [if_neg hm]
      have hlt : mx ≤ (dropZ D).length := by have := h.nm; omega
      refine ⟨⟨?_, ?_, ?_, ?_, hemp.symm⟩, rfl, by show s.dp - ((s.nd + 1 : Nat) : Int) = _; omega⟩
      · show s.nd + 1 = _; rw [hd, List.length_append, h.nd]; rfl
      · show s.nm = _; rw [hd, List.length_append, h.nm]; omega
      · show s.mant = _
        rw [hd, h.mant, List.take_append_of_le_length hlt]
      · show (s.tr || c != 48) = _
        rw [hd, h.tr, List.drop_append_of_le_length hlt, List.any_append]
        simp

theorem rf_digits (b mx : Nat) (D : List UInt8) (s : RF) (h : RFinv b mx D s) : ∀ F : List UInt8, (∀ x ∈ F, x ≠ 46) →
    RFinv b mx (D ++ F) (F.foldl (rfStep b mx) s) ∧ (F.foldl (rfStep b mx) s).dot = s.dot ∧ (F.foldl (rfStep b mx) s).dp - (F.foldl (rfStep b mx) s).nd = s.dp - s.nd - F.length := by
  refine snoc_ind (fun _ => ⟨by simpa using h, rfl, by simp⟩) fun F c ih hF => ?_
  obtain ⟨i1, i2, i3⟩ := ih fun x hx => hF x (List.mem_append_left _ hx)
  rw [List.foldl_append, ← List.append_assoc]
  obtain ⟨k1, k2, k3⟩ := rf_inv_step b mx (D ++ F) _ c i1 (hF c (by simp))
  refine ⟨k1, k2.trans i2, ?_⟩
  show (rfStep b mx _ c).dp - ((rfStep b mx _ c).nd : Int) = _
  rw [k3, i3, List.length_append, List.length_singleton]
  push_cast
  omega

theorem dig_ne46 {x : UInt8} (h : isDig x) : x ≠ 46 := by rintro rfl; exact absurd h.1 (by decide)

/-- .. behind the digits of a number with a point or none -/
theorem rf_mant (b mx : Nat) (M W F : List UInt8) (dot : Bool) (hM : M = mantT W F dot) (hW : ∀ x ∈ W, x ≠ 46) (hF : ∀ x ∈ F, x ≠ 46) (hd : dot = false → F = []) :
    RFinv b mx (W ++ F) (rfF b mx M) ∧ (rfF b mx M).dot = dot ∧ ((if (rfF b mx M).dot then (rfF b mx M).dp else ((rfF b mx M).nd : Int)) - (rfF b mx M).nd = -(F.length : Int)) ∧ -(M.length : Int) ≤ (rfF b mx M).dp ∧ (rfF b mx M).dp ≤ M.length := by
  obtain ⟨i1, i2, i3⟩ := rf_digits b mx [] rf0 (rf_inv0 b mx) W hW
  rw [List.nil_append] at i1
  subst hM
  unfold rfF mantT
  rw [List.foldl_append]
  generalize W.foldl (rfStep b mx) rf0 = s1 at *
  have l1 : (dropZ W).length ≤ W.length := (List.dropWhile_sublist _).length_le
  have hz : (rf0.dp - (rf0.nd : Int)) = 0 := rfl
  have hn1 := i1.nd
  cases dot with
  | false =>
    rw [hd rfl]
    refine ⟨by simpa using i1, i2, ?_, ?_, ?_⟩
    · show (if s1.dot then s1.dp else (s1.nd : Int)) - (s1.nd : Int) = -((0 : Nat) : Int)
      rw [i2]; show (s1.nd : Int) - s1.nd = _; omega
    · show -((W ++ []).length : Int) ≤ s1.dp
      rw [List.append_nil]; omega
    · show s1.dp ≤ ((W ++ []).length : Int)
      rw [List.append_nil]; omega
  | true =>
    obtain ⟨j1, j2, j3⟩ := rf_inv_dot b mx W s1 i1
    show RFinv b mx (W ++ F) (F.foldl (rfStep b mx) (rfStep b mx s1 46)) ∧ _
    obtain ⟨k1, k2, k3⟩ := rf_digits b mx W _ j1 F hF
    have hn2 := j1.nd
    have hn3 := k1.nd
    have l2 : (dropZ (W ++ F)).length ≤ (W ++ F).length := (List.dropWhile_sublist _).length_le
    rw [List.length_append] at l2
    have hdt : (F.foldl (rfStep b mx) (rfStep b mx s1 46)).dot = true := k2.trans j2
    refine ⟨k1, hdt, ?_, ?_, ?_⟩
    · show (if (F.foldl (rfStep b mx) (rfStep b mx s1 46)).dot then (F.foldl (rfStep b mx) (rfStep b mx s1 46)).dp else _) - ((F.foldl (rfStep b mx) (rfStep b mx s1 46)).nd : Int) = _
      rw [hdt, if_pos rfl, k3, j3]; omega
    · show -((W ++ 46 :: F).length : Int) ≤ (F.foldl (rfStep b mx) (rfStep b mx s1 46)).dp
      rw [List.length_append, List.length_cons]; omega
    · show (F.foldl (rfStep b mx) (rfStep b mx s1 46)).dp ≤ ((W ++ 46 :: F).length : Int)
      rw [List.length_append, List.length_cons]; omega

/-- the power's digits, cut -/
def exF (l : List UInt8) : Nat := l.foldl (fun e c => if e < 10000 then e * 10 + (c.toNat - 48) else e) 0
theorem ex_snoc (l : List UInt8) (c : UInt8) : exF (l ++ [c]) = if exF l < 10000 then exF l * 10 + (c.toNat - 48) else exF l := by
  unfold exF; rw [List.foldl_append]; rfl
theorem ex_lt (l : List UInt8) (h : ∀ x ∈ l, isDig x) : exF l < 100000 := by
  revert h
  refine snoc_ind (P := fun l => (∀ x ∈ l, isDig x) → exF l < 100000) (fun _ => by decide) (fun l c ih h => ?_) l
  rw [ex_snoc]
  have h1 := ih fun x hx => h x (List.mem_append_left _ hx)
  have h2 := h c (by simp)
  unfold isDig at h2
  split <;> omega

theorem dvl_lt (b : Nat) (_hb : 0 < b) (l : List UInt8) (h : ∀ x ∈ l, dv x.toNat < b) : dvl b l < b ^ l.length := by
  revert h
  refine snoc_ind (P := fun l => (∀ x ∈ l, dv x.toNat < b) → dvl b l < b ^ l.length) (fun _ => by simp [dvl]) (fun l c ih h => ?_) l
  rw [dvl_snoc, List.length_append, List.length_singleton, Nat.pow_succ]
  have h1 := ih fun x hx => h x (List.mem_append_left _ hx)
  have h2 := h c (by simp)
  have h3 : (dvl b l + 1) * b ≤ b ^ l.length * b := Nat.mul_le_mul_right b h1
  rw [Nat.add_mul] at h3
  omega

/-- a digit of the base 10 or 16 -/
def okD (b : Nat) (x : UInt8) : Prop := isDig x ∨ (b = 16 ∧ 97 ≤ x.toNat ∧ x.toNat ≤ 102)
theorem okD_46 {b : Nat} {x : UInt8} (h : okD b x) : x ≠ 46 := by
  rintro rfl
  rcases h with h | h
  · exact absurd h.1 (by decide)
  · exact absurd h.2.1 (by decide)
theorem okD_dv {b : Nat} {x : UInt8} (hb : 10 ≤ b) (h : okD b x) : dv x.toNat < b := by
  unfold dv
  rcases h with h | ⟨h, h2, h3⟩
  · unfold isDig at h; rw [if_pos h]; omega
  · rw [if_neg (by omega)]; omega

/-- bounds behind digits and a point -/
theorem rf_bd (b mx : Nat) (_hb : 10 ≤ b) : ∀ l : List UInt8, (∀ x ∈ l, x = 46 ∨ okD b x) →
    (rfF b mx l).nd ≤ l.length ∧ (rfF b mx l).nm ≤ (rfF b mx l).nd ∧ (rfF b mx l).nm ≤ mx ∧ (rfF b mx l).mant < b ^ (rfF b mx l).nm ∧ -(l.length : Int) ≤ (rfF b mx l).dp ∧ (rfF b mx l).dp ≤ l.length := by
  refine snoc_ind (fun _ => by simp [rfF, rf0]) fun l c ih h => ?_
  obtain ⟨i1, i2, i3, i4, i5, i6⟩ := ih fun x hx => h x (List.mem_append_left _ hx)
  rw [rf_snoc, List.length_append, List.length_singleton]
  generalize rfF b mx l = s at *
  obtain ⟨nd, nm, mant, dp, dot, dig, tr⟩ := s
  simp only at i1 i2 i3 i4 i5 i6
  unfold rfStep
  simp only
  by_cases h46 : c = 46
  · rw [if_pos h46]
    exact ⟨by show nd ≤ _; omega, i2, i3, i4, by show -_ ≤ (nd : Int); omega, by show (nd : Int) ≤ _; omega⟩
  · rw [if_neg h46]
    have hd := okD_dv _hb ((h c (by simp)).resolve_left h46)
    by_cases h0 : c = 48 ∧ nd = 0
    · rw [if_pos h0]
      exact ⟨by show nd ≤ _; omega, i2, i3, i4, by show -_ ≤ dp - 1; push_cast; omega, by show dp - 1 ≤ _; push_cast; omega⟩
    · rw [if_neg h0]
      by_cases hm : nm < mx
      · rw [if_pos hm]
        refine ⟨by show nd + 1 ≤ _; omega, by show nm + 1 ≤ nd + 1; omega, hm, ?_, by show -_ ≤ dp; push_cast; omega, by show dp ≤ _; push_cast; omega⟩
        show mant * b + dv c.toNat < b ^ (nm + 1)
        rw [Nat.pow_succ]
        have h3 : (mant + 1) * b ≤ b ^ nm * b := Nat.mul_le_mul_right b i4
        rw [Nat.add_mul] at h3
        omega
      · rw [if_neg hm]
        exact ⟨by show nd + 1 ≤ _; omega, by show nm ≤ nd + 1; omega, i3, i4, by show -_ ≤ dp; push_cast; omega, by show dp ≤ _; push_cast; omega⟩

theorem mant_mem (b : Nat) (M W F : List UInt8) (dot : Bool) (hM : M = mantT W F dot) (hW : ∀ x ∈ W, okD b x) (hF : ∀ x ∈ F, okD b x) : ∀ x ∈ M, x = 46 ∨ okD b x := by
  subst hM
  intro x hx
  unfold mantT at hx
  rcases List.mem_append.1 hx with h | h
  · exact .inr (hW x h)
  · cases dot with
    | false => simp at h
    | true =>
      rcases List.mem_cons.1 h with h | h
      · exact .inl h
      · exact .inr (hF x h)

/-- where the point stands none stood before -/
theorem mant_point (b mx : Nat) (M W F : List UInt8) (dot : Bool) (hM : M = mantT W F dot) (hW : ∀ x ∈ W, okD b x) (hF : ∀ x ∈ F, okD b x) (k : Nat) (hk : k < M.length) (h : M[k] = 46) : (rfF b mx (M.take k)).dot = false := by
  subst hM
  unfold mantT at h hk ⊢
  by_cases h1 : k < W.length
  · rw [List.getElem_append_left h1] at h
    exact absurd h (okD_46 (hW _ (List.getElem_mem h1)))
  · by_cases h2 : k = W.length
    · rw [h2, List.take_left]
      exact (rf_digits b mx [] rf0 (rf_inv0 b mx) W fun x hx => okD_46 (hW x hx)).2.1
    · cases dot with
      | false => simp at hk; omega
      | true =>
        simp only [if_true] at h hk
        obtain ⟨j, hj⟩ : ∃ j, k = W.length + (j + 1) := ⟨k - W.length - 1, by omega⟩
        subst hj
        rw [List.getElem_append_right (by omega)] at h
        simp only [show W.length + (j + 1) - W.length = j + 1 by omega, List.getElem_cons_succ] at h
        exact absurd h (okD_46 (hF _ (List.getElem_mem _)))
end Go.Proofs.YtmhagigokgklaaaGreatDoor

/- pack64. -/
namespace Go.Proofs.YtmhagigokgklaaaGreatDoor
open Go Go.RowKit

theorem and52_low (m : Nat) (h : m < 4503599627370496) : m &&& 4503599627370496 = 0 := by
  refine Nat.eq_of_testBit_eq fun i => ?_
  rw [Nat.testBit_and, show (4503599627370496 : Nat) = 2 ^ 52 from by decide, Nat.testBit_two_pow, Nat.zero_testBit]
  by_cases hi : 52 = i
  · subst hi; rw [Nat.testBit_lt_two_pow (by exact h)]; rfl
  · rw [decide_eq_false hi, Bool.and_false]
theorem and63_low (m : Nat) (h : m < 9223372036854775808) : m &&& 9223372036854775808 = 0 := by
  refine Nat.eq_of_testBit_eq fun i => ?_
  rw [Nat.testBit_and, show (9223372036854775808 : Nat) = 2 ^ 63 from by decide, Nat.testBit_two_pow, Nat.zero_testBit]
  by_cases hi : 63 = i
  · subst hi; rw [Nat.testBit_lt_two_pow (by exact h)]; rfl
  · rw [decide_eq_false hi, Bool.and_false]
theorem pack_low (m : Nat) (e : Int) (w : World) (hm : m < 4503599627370496) :
    Calls Tryz.prog 180 #[.int .u64 m, .int .i64 e] w fun e' w' => e' = .returned (.tuple #[.float .f64 m, .nilIface]) ∧ w' = w := by
  have hb := run_sfrom m
  have ha : bits .and .u64 (m : Int) 4503599627370496 = 0 := by
    have h := u64_and_nat m 4503599627370496 (by omega) (by decide)
    rw [show ((4503599627370496 : Nat) : Int) = 4503599627370496 from rfl] at h
    rw [h, and52_low m hm]; rfl
  go_enter Tryz.func180, Tryz.ntmps180
  go_wp2_with fail
  refine bodyPost_ret (v := .tuple #[.float .f64 m, .nilIface]) (by simp [results, Tryz.results180, go_sem]) rfl ⟨rfl, rfl⟩

theorem and52_high (m : Nat) (h : m < 9007199254740992) (h2 : 4503599627370496 ≤ m) : m &&& 4503599627370496 = 4503599627370496 := by
  refine Nat.eq_of_testBit_eq fun i => ?_
  rw [Nat.testBit_and, show (4503599627370496 : Nat) = 2 ^ 52 from by decide, Nat.testBit_two_pow]
  by_cases hi : 52 = i
  · subst hi
    rw [decide_eq_true rfl, Bool.and_true, Nat.testBit_eq_decide_div_mod_eq, decide_eq_true_eq]
    have : m / 2 ^ 52 = 1 := Nat.div_eq_of_lt_le (by omega) (by omega)
    rw [this]
  · rw [decide_eq_false hi, Bool.and_false]

set_option maxRecDepth 100000 in
set_option maxHeartbeats 1000000 in
theorem pack_inf (m : Nat) (e : Int) (w : World) (hm : m < 9007199254740992) (hm2 : 4503599627370496 ≤ m) (he : 972 ≤ e) (_he2 : e ≤ 5000) :
    Calls Tryz.prog 180 #[.int .u64 m, .int .i64 e] w fun e' w' => e' = .returned (.tuple #[.float .f64 9218868437227405312, .iface 111 (.int .i64 1)]) ∧ w' = w := by
  have hb : ∀ W : World, (callFunc 151 #[.int .u64 9218868437227405312]).run Tryz.prog W = .ok (.value (.float .f64 9218868437227405312)) W := run_sfrom 9218868437227405312
  have ha : bits .and .u64 (m : Int) 4503599627370496 = 4503599627370496 := by
    have h := u64_and_nat m 4503599627370496 (by omega) (by decide)
    rw [show ((4503599627370496 : Nat) : Int) = 4503599627370496 from rfl] at h
    rw [h, and52_high m hm hm2]; rfl
  have ha2 : bits .and .u64 (m : Int) 9223372036854775808 = 0 := by
    have h := u64_and_nat m 9223372036854775808 (by omega) (by decide)
    rw [show ((9223372036854775808 : Nat) : Int) = 9223372036854775808 from rfl] at h
    rw [h, and63_low m (by omega)]; rfl
  have ho : bits .or .u64 0 9218868437227405312 = 9218868437227405312 := by decide +kernel
  go_enter Tryz.func180, Tryz.ntmps180
  go_wp2_with fail
  refine bodyPost_ret (v := .tuple #[.float .f64 9218868437227405312, .iface 111 (.int .i64 1)]) (by simp [results, Tryz.results180, go_sem]) rfl ⟨rfl, rfl⟩

theorem or_parts (f k : Nat) (hf : f < 4503599627370496) : f ||| (k * 4503599627370496) = k * 4503599627370496 + f := by
  rw [Nat.or_comm, show (4503599627370496 : Nat) = 2 ^ 52 from by decide, Nat.mul_comm k]
  exact (Nat.two_pow_add_eq_or_of_lt (by exact hf) k).symm

theorem not52 (m : Nat) (h : m < 9007199254740992) (h2 : 4503599627370496 ≤ m) : m &&& (18446744073709551615 - 4503599627370496) = m - 4503599627370496 := by
  have h3 : (m &&& (18446744073709551615 - 4503599627370496)) % 2 ^ 52 = m - 4503599627370496 := by
    rw [Nat.and_mod_two_pow, show (18446744073709551615 - 4503599627370496) % 2 ^ 52 = 2 ^ 52 - 1 from by decide, Nat.and_two_pow_sub_one_eq_mod]
    omega
  have h4 : (m &&& (18446744073709551615 - 4503599627370496)) / 2 ^ 52 = 0 := by
    rw [Nat.and_div_two_pow, show m / 2 ^ 52 = 1 from Nat.div_eq_of_lt_le (by omega) (by omega)]
    decide
  have h5 := Nat.div_add_mod (m &&& (18446744073709551615 - 4503599627370496)) (2 ^ 52)
  rw [h3, h4] at h5
  omega

set_option maxRecDepth 100000 in
set_option maxHeartbeats 1000000 in
theorem pack_mid (m : Nat) (k : Nat) (w : World) (hm : m < 9007199254740992) (hm2 : 4503599627370496 ≤ m) (hk1 : 1 ≤ k) (hk2 : k < 2047) :
    Calls Tryz.prog 180 #[.int .u64 m, .int .i64 ((k : Int) - 1075)] w fun e' w' => e' = .returned (.tuple #[.float .f64 (k * 4503599627370496 + (m - 4503599627370496)), .nilIface]) ∧ w' = w := by
  have hb := run_sfrom (k * 4503599627370496 + (m - 4503599627370496))
  have ha : bits .and .u64 (m : Int) 4503599627370496 = 4503599627370496 := by
    have h := u64_and_nat m 4503599627370496 (by omega) (by decide)
    rw [show ((4503599627370496 : Nat) : Int) = 4503599627370496 from rfl] at h
    rw [h, and52_high m hm hm2]; rfl
  have hn : bits .andNot .u64 (m : Int) 4503599627370496 = ((m - 4503599627370496 : Nat) : Int) := by
    have h := u64_andNot_nat m 4503599627370496 (by omega) (by decide)
    rw [show ((4503599627370496 : Nat) : Int) = 4503599627370496 from rfl] at h
    rw [h, not52 m hm hm2]
  have hk : (1075 : Int) + ((k : Int) - 1075) = k := by omega
  have ho : bits .or .u64 ((m - 4503599627370496 : Nat) : Int) ((k : Int) * 4503599627370496) = ((k * 4503599627370496 + (m - 4503599627370496) : Nat) : Int) := by
    have h := bits_or_u64_nat (m - 4503599627370496) (k * 4503599627370496) (by omega) (by omega)
    rw [or_parts _ k (by omega)] at h
    exact h
  have hlt : ((k : Int) - 1075 < 972) := by omega
  generalize k * 4503599627370496 + (m - 4503599627370496) = R at *
  generalize m - 4503599627370496 = f at *
  go_enter Tryz.func180, Tryz.ntmps180
  go_wp2_with fail
  refine bodyPost_ret (v := .tuple #[.float .f64 R, .nilIface]) (by simp [results, Tryz.results180, go_sem]) rfl ⟨rfl, rfl⟩
end Go.Proofs.YtmhagigokgklaaaGreatDoor

/- parseFloat64. -/
namespace Go.Proofs.YtmhagigokgklaaaGreatDoor
open Go Go.RowKit

/-- the error that comes with a rung -/
def errV (r : Nat) : Value := if r = INF then .iface 111 (.int .i64 1) else .nilIface

theorem pack_any (m : Nat) (E : Nat) (w : World) (hm : m < 9007199254740992) (hE : E = 0 ∨ 4503599627370496 ≤ m) (hE2 : E ≤ 4000) :
    Calls Tryz.prog 180 #[.int .u64 m, .int .i64 ((E : Int) - 1074)] w fun e' w' => e' = .returned (.tuple #[.float .f64 (min INF (E * BB + m)), errV (min INF (E * BB + m))]) ∧ w' = w := by
  by_cases h1 : m < 4503599627370496
  · have hE0 : E = 0 := by omega
    subst hE0
    have := pack_low m (((0 : Nat) : Int) - 1074) w h1
    have hr : min INF (0 * BB + m) = m := by unfold INF; omega
    rw [hr, show errV m = .nilIface from if_neg (by unfold INF; omega)]
    exact this
  · by_cases h2 : E < 2046
    · have := pack_mid m (E + 1) w hm (by omega) (by omega) (by omega)
      rw [show (((E + 1 : Nat) : Int) - 1075) = (E : Int) - 1074 by omega] at this
      have hr : min INF (E * BB + m) = (E + 1) * 4503599627370496 + (m - 4503599627370496) := by unfold INF BB; omega
      rw [hr, show errV ((E + 1) * 4503599627370496 + (m - 4503599627370496)) = .nilIface from if_neg (by unfold INF; omega)]
      exact this
    · have := pack_inf m ((E : Int) - 1074) w hm (by omega) (by omega) (by omega)
      have hr : min INF (E * BB + m) = INF := by unfold INF BB; omega
      rw [hr, show errV INF = .iface 111 (.int .i64 1) from if_pos rfl]
      exact this

/-- what is handed back: the nearest rung -/
def PfPost (d : Nat) (p : Int) (B : Nat) (w0 : World) (e : Ending) (w' : World) : Prop := ∃ r, Near (dX d p) (dQ p) r ∧ e = .returned (.tuple #[.float .f64 r, errV r]) ∧ Below B w0 w'

set_option maxRecDepth 100000 in
set_option maxHeartbeats 4000000 in
theorem pf_far (d b i s : Nat) (e : Int) (w : World) (hg : Glob w) (hd : d < 18446744073709551616) (hb : Lib.bitLen d = b) (hb1 : 1 ≤ b) (hb2 : b ≤ 64) (hi : i < 696)
    (he : min 1074 (53 - (b : Int) - lpN ((i : Int) - 348)) = e) (hs : -(e - (64 - (b : Int)) + lpN ((i : Int) - 348) + 3) = (s : Int)) (h64 : 64 ≤ s) :
    Calls Tryz.prog 153 #[.int .u64 d, .int .i64 ((i : Int) - 348), .int .u64 0] w fun e' w' => e' = .returned (.tuple #[.float .f64 0, .nilIface]) ∧ Below w.heap.size w w' := by
  have hlp : -1200 ≤ lpN ((i : Int) - 348) ∧ lpN ((i : Int) - 348) ≤ 1200 := by unfold lpN; omega
  have hga : Glob (w.alloc (.cells #[.int .u64 0, .int .u64 0, .int .i64 0] 190)) := hg.alloc _
  have hlt17 := hg.lt
  have HLEN := Lib.hid (fun (W : World) => Tryz.bits_Len64 (d : Int) W (by omega) (by omega))
  have hb0 : Lib.bitLen (d : Int).toNat = b := by simpa using hb
  have HB0 := Lib.hid hb0
  have hfb : ∀ W : World, (callFunc 151 #[.int .u64 0]).run Tryz.prog W = .ok (.value (.float .f64 0)) W := run_sfrom 0
  have hor : bits .or .u64 0 0 = 0 := by decide +kernel
  obtain ⟨LP, hLP⟩ : ∃ LP, lpN ((i : Int) - 348) = LP := ⟨_, rfl⟩
  have HL2 := Lib.hid (l2p_any ((i : Int) - 348) · (by omega) (by omega))
  rw [hLP] at HL2 he hs hlp
  have he1 : -5000 ≤ e := by omega
  have he2 : e ≤ 1074 := by omega
  have HPR := Lib.hid (prescale_at w.heap.size i (e - (64 - (b : Int))) LP 190 (.int .u64 0) (.int .u64 0) (.int .i64 0) (w.alloc (.cells #[.int .u64 0, .int .u64 0, .int .i64 0] 190)) hga (heap_alloc_new _ _) hlt17 hi (by omega) (by omega) (by omega) (by omega))
  rw [hs] at HPR
  have HE := Lib.hid he
  have h64' : (64 : Int) ≤ (s : Int) := by omega
  clear hga hlt17 hg hb hb0 hLP hs he h64
  go_enter Tryz.func153, Tryz.ntmps153
  go_wp2_with fail
  refine (HLEN.out _).mono ?_
  rintro e' w ⟨rfl, rfl⟩
  rw [HB0.out]
  go_wp2_with fail
  refine (HL2.out _).mono ?_
  rintro e' w' ⟨rfl, rfl⟩
  go_wp2_with fail
  rw [HE.out]
  refine HPR.out.mono ?_
  rintro e' w2 ⟨rfl, hc2, hb2', hz2⟩
  have k2 : w2.cell? ⟨w.heap.size, 2, Option.none⟩ = some (.int .i64 s) := cell_of_row w2 w.heap.size 2 _ _ _ hc2
  have hbw : Below w.heap.size w w2 := ((Below.refl _ _).alloc (Nat.le_refl _) _).trans hb2'
  have HBW := Lib.hid hbw
  clear hc2 hb2' hz2 hbw
  go_wp2_with fail
  refine bodyPost_ret (v := .tuple #[.float .f64 0, .nilIface]) (by simp [results, Tryz.results153, go_sem]) rfl ⟨rfl, HBW.out⟩

theorem u_or_low (U : Nat) : U ||| U % 2 = U := by
  rcases (by omega : U % 2 = 0 ∨ U % 2 = 1) with h | h
  · rw [h, Nat.or_zero]
  · rw [h]
    have h2 := Nat.div_add_mod (U ||| 1) 2
    rw [Nat.or_div_two, Nat.or_mod_two_eq_one.2 (.inr rfl)] at h2
    simp at h2
    omega

set_option maxRecDepth 100000 in
set_option maxHeartbeats 4000000 in
theorem pf_near (d b i s U m r : Nat) (ev : Value) (e k : Int) (sh : Bool) (w : World) (hg : Glob w) (hd : d < 18446744073709551616) (hb : Lib.bitLen d = b) (hb1 : 1 ≤ b) (hb2 : b ≤ 64) (hi : i < 696)
    (he : min 1074 (53 - (b : Int) - lpN ((i : Int) - 348)) = e) (hs : -(e - (64 - (b : Int)) + lpN ((i : Int) - 348) + 3) = (s : Int)) (h64 : s < 64)
    (hx : d * 2 ^ (64 - b) < 18446744073709551616) (hU : uscN (d * 2 ^ (64 - b)) (hiN i) (loN i) (2 ^ s) = U) (hUb : U < 4611686018427387904) (hsh : sh = decide (36028797018963966 ≤ U))
    (hm : m = ((if sh then 2 * (U / 4) + (if U % 4 = 0 then 0 else 1) else U) + 1 + (if sh then 2 * (U / 4) + (if U % 4 = 0 then 0 else 1) else U) / 4 % 2) / 4) (hk : k = -(e - (if sh then 1 else 0)))
    (hpk : ∀ W : World, Calls Tryz.prog 180 #[.int .u64 m, .int .i64 k] W fun e' w' => e' = .returned (.tuple #[.float .f64 r, ev]) ∧ w' = W) :
    Calls Tryz.prog 153 #[.int .u64 d, .int .i64 ((i : Int) - 348), .int .u64 0] w fun e' w' => e' = .returned (.tuple #[.float .f64 r, ev]) ∧ Below w.heap.size w w' := by
  have hlp : -1200 ≤ lpN ((i : Int) - 348) ∧ lpN ((i : Int) - 348) ≤ 1200 := by unfold lpN; omega
  have hga : Glob (w.alloc (.cells #[.int .u64 0, .int .u64 0, .int .i64 0] 190)) := hg.alloc _
  have hlt17 := hg.lt
  obtain ⟨hhi, hlo, hrow⟩ := row_is ((i : Int) - 348) (by omega) (by omega)
  rw [show ((i : Int) - 348 + 348).toNat = i from by omega] at hhi hlo hrow
  have hge : loN i ≤ hiN i * 18446744073709551616 := by omega
  have HUS := Lib.hid (fun (W : World) (b' : Nat) (c0 : W.cell? ⟨b', 0, Option.none⟩ = some (.int .u64 (hiN i))) (c1 : W.cell? ⟨b', 1, Option.none⟩ = some (.int .u64 (loN i))) (c2 : W.cell? ⟨b', 2, Option.none⟩ = some (.int .i64 s)) => uscale_at b' (d * 2 ^ (64 - b)) (hiN i) (loN i) s W hx hhi hlo hge h64 c0 c1 c2)
  rw [hU] at HUS
  have HLEN := Lib.hid (fun (W : World) => Tryz.bits_Len64 (d : Int) W (by omega) (by omega))
  have hb0 : Lib.bitLen (d : Int).toNat = b := by simpa using hb
  have HB0 := Lib.hid hb0
  obtain ⟨LP, hLP⟩ : ∃ LP, lpN ((i : Int) - 348) = LP := ⟨_, rfl⟩
  have HL2 := Lib.hid (l2p_any ((i : Int) - 348) · (by omega) (by omega))
  rw [hLP] at HL2 he hs hlp
  have he1 : -5000 ≤ e := by omega
  have he2 : e ≤ 1074 := by omega
  have HPR := Lib.hid (prescale_at w.heap.size i (e - (64 - (b : Int))) LP 190 (.int .u64 0) (.int .u64 0) (.int .i64 0) (w.alloc (.cells #[.int .u64 0, .int .u64 0, .int .i64 0] 190)) hga (heap_alloc_new _ _) hlt17 hi (by omega) (by omega) (by omega) (by omega))
  rw [hs] at HPR
  have HE := Lib.hid he
  have h64' : decide ((64 : Int) ≤ (s : Int)) = false := by rw [decide_eq_false_iff_not]; omega
  have hsx : IntKind.u64.wrap ((d : Int) * 2 ^ (64 - b)) = ((d * 2 ^ (64 - b) : Nat) : Int) := by
    rw [show ((d : Int) * 2 ^ (64 - b)) = ((d * 2 ^ (64 - b) : Nat) : Int) from by push_cast; rfl, IntKind.wrap_u64]; omega
  have hbs : ((64 : Int) - (b : Int)) = ((64 - b : Nat) : Int) := by omega
  have HBS := Lib.hid hbs
  have HB2 := Lib.hid (fun (x : Bool) (W : World) => b2i_any x W)
  have HUM : Hid (∀ W : World, Calls Tryz.prog 164 #[.int .u64 9007199254740992] W fun e w' => e = .returned (.int .u64 36028797018963966) ∧ W = w') := Lib.hid (fun W => unmin_any 9007199254740992 W (by decide) (by decide))
  have HPK := Lib.hid hpk
  have hx64 := hx
  obtain ⟨x, hxe⟩ : ∃ x, x = d * 2 ^ (64 - b) := ⟨_, rfl⟩
  rw [← hxe] at hsx HUS hx64
  have h8 : 36028797018963966 = 4 * 9007199254740992 - 2 := rfl
  have hand : bits .and .u64 (U : Int) 1 = (U : Int) % 2 := and_one_u64 (U : Int) (by omega) (by omega)
  have hoA : bits .or .u64 (U : Int) ((U : Int) % 2) = (U : Int) := by
    have := bits_or_u64_nat U (U % 2) (by omega) (by omega)
    rw [u_or_low] at this
    push_cast at this
    exact this
  have hoB : bits .or .u64 ((U : Int) / 2) ((U : Int) % 2) = ((2 * (U / 4) + (if U % 4 = 0 then 0 else 1) : Nat) : Int) := by
    have := bits_or_u64_nat (U / 2) (U % 2) (by omega) (by omega)
    rw [or_half] at this
    rw [← this]
    push_cast
    rfl
  have hU2 : 2 * (U / 4) + (if U % 4 = 0 then 0 else 1) < 4611686018427387904 := by split <;> omega
  obtain ⟨U2, hU2e⟩ : ∃ U2, U2 = 2 * (U / 4) + (if U % 4 = 0 then 0 else 1) := ⟨_, rfl⟩
  rw [← hU2e] at hoB hU2 hm
  have hgeq : decide ((36028797018963966 : Int) ≤ (U : Int)) = sh := by rw [hsh]; congr 1; exact propext ⟨fun h => by omega, fun h => by omega⟩
  have hmb : m < 4611686018427387904 := by rw [hm]; cases sh <;> simp only [if_true, if_false, Bool.false_eq_true] <;> omega
  have hor0 : bits .or .u64 0 (m : Int) = (m : Int) := by
    have := bits_or_u64_nat 0 m (by decide) (by omega)
    rw [Nat.zero_or] at this
    exact this
  have HM := Lib.hid hm
  have HK := Lib.hid hk
  clear hga hlt17 hg hb hb0 hLP hs he h64 hhi hlo hrow hge hx hxe hU hbs hpk hm hk hU2e hsh h8
  cases sh
  · simp only [if_false, Bool.false_eq_true] at HM HK
    go_enter Tryz.func153, Tryz.ntmps153
    go_wp2_with fail
    refine (HLEN.out _).mono ?_
    rintro e' w ⟨rfl, rfl⟩
    rw [HB0.out]
    go_wp2_with fail
    refine (HL2.out _).mono ?_
    rintro e' w' ⟨rfl, rfl⟩
    go_wp2_with fail
    rw [HE.out]
    refine HPR.out.mono ?_
    rintro e' w2 ⟨rfl, hc2, hb2', hz2⟩
    have k0 : w2.cell? ⟨w.heap.size, 0, Option.none⟩ = some (.int .u64 (hiN i)) := cell_of_row w2 w.heap.size 0 _ _ _ hc2
    have k1 : w2.cell? ⟨w.heap.size, 1, Option.none⟩ = some (.int .u64 (loN i)) := cell_of_row w2 w.heap.size 1 _ _ _ hc2
    have k2 : w2.cell? ⟨w.heap.size, 2, Option.none⟩ = some (.int .i64 s) := cell_of_row w2 w.heap.size 2 _ _ _ hc2
    have hbw : Below w.heap.size w w2 := ((Below.refl _ _).alloc (Nat.le_refl _) _).trans hb2'
    have HBW := Lib.hid hbw
    have HK0 := Lib.hid k0
    have HK1 := Lib.hid k1
    have HK2 := Lib.hid k2
    clear hc2 hb2' hz2 hbw k0 k1
    go_wp2_with fail
    refine (HUS.out w2 w.heap.size HK0.out HK1.out HK2.out).mono ?_
    rintro e' w3 ⟨rfl, n3, rfl⟩
    go_wp2_with fail
    refine (HUM.out _).mono ?_
    rintro e' w' ⟨rfl, rfl⟩
    go_wp2_with fail
    refine (HB2.out _ _).mono ?_
    rintro e' w' ⟨rfl, rfl⟩
    go_wp2_with fail
    refine (round_any U _ (by omega)).mono ?_
    rintro e' w' ⟨rfl, rfl⟩
    rw [← HM.out]
    go_wp2_with fail
    have HKE : Hid (-e = k) := Lib.hid (by have := HK.out; omega)
    rw [HKE.out]
    refine (HPK.out _).mono ?_
    rintro e' w4 ⟨rfl, hw4⟩
    subst hw4
    go_wp2_with fail
    refine bodyPost_ret (v := .tuple #[.float .f64 r, ev]) (by simp [results, Tryz.results153, go_sem]) rfl ⟨rfl, bDrewN HBW.out _⟩
  · simp only [if_true] at HM HK
    go_enter Tryz.func153, Tryz.ntmps153
    go_wp2_with fail
    refine (HLEN.out _).mono ?_
    rintro e' w ⟨rfl, rfl⟩
    rw [HB0.out]
    go_wp2_with fail
    refine (HL2.out _).mono ?_
    rintro e' w' ⟨rfl, rfl⟩
    go_wp2_with fail
    rw [HE.out]
    refine HPR.out.mono ?_
    rintro e' w2 ⟨rfl, hc2, hb2', hz2⟩
    have k0 : w2.cell? ⟨w.heap.size, 0, Option.none⟩ = some (.int .u64 (hiN i)) := cell_of_row w2 w.heap.size 0 _ _ _ hc2
    have k1 : w2.cell? ⟨w.heap.size, 1, Option.none⟩ = some (.int .u64 (loN i)) := cell_of_row w2 w.heap.size 1 _ _ _ hc2
    have k2 : w2.cell? ⟨w.heap.size, 2, Option.none⟩ = some (.int .i64 s) := cell_of_row w2 w.heap.size 2 _ _ _ hc2
    have hbw : Below w.heap.size w w2 := ((Below.refl _ _).alloc (Nat.le_refl _) _).trans hb2'
    have HBW := Lib.hid hbw
    have HK0 := Lib.hid k0
    have HK1 := Lib.hid k1
    have HK2 := Lib.hid k2
    clear hc2 hb2' hz2 hbw k0 k1
    go_wp2_with fail
    refine (HUS.out w2 w.heap.size HK0.out HK1.out HK2.out).mono ?_
    rintro e' w3 ⟨rfl, n3, rfl⟩
    go_wp2_with fail
    refine (HUM.out _).mono ?_
    rintro e' w' ⟨rfl, rfl⟩
    go_wp2_with fail
    refine (HB2.out _ _).mono ?_
    rintro e' w' ⟨rfl, rfl⟩
    go_wp2_with fail
    refine (round_any U2 _ (by omega)).mono ?_
    rintro e' w' ⟨rfl, rfl⟩
    rw [← HM.out]
    go_wp2_with fail
    have HKE : Hid (-(e - 1) = k) := Lib.hid (by have := HK.out; omega)
    rw [HKE.out]
    refine (HPK.out _).mono ?_
    rintro e' w4 ⟨rfl, hw4⟩
    subst hw4
    go_wp2_with fail
    refine bodyPost_ret (v := .tuple #[.float .f64 r, ev]) (by simp [results, Tryz.results153, go_sem]) rfl ⟨rfl, bDrewN HBW.out _⟩

theorem pf64_any (d : Nat) (p : Int) (w : World) (hg : Glob w) (h1 : 1 ≤ d) (h2 : d < 18446744073709551616) (hp1 : -348 ≤ p) (hp2 : p ≤ 347) :
    Calls Tryz.prog 153 #[.int .u64 d, .int .i64 p, .int .u64 0] w (PfPost d p w.heap.size w) := by
  obtain ⟨b1, b2, b3⟩ := bitLen_bounds d h1 h2
  have b4 := bitLen_le d 64 h1 h2 (by omega)
  obtain ⟨b, hb⟩ : ∃ b, Lib.bitLen d = b := ⟨_, rfl⟩
  rw [hb] at b1 b2 b3 b4
  obtain ⟨i, hi⟩ : ∃ i : Nat, p = (i : Int) - 348 := ⟨(p + 348).toNat, by omega⟩
  have hlp : -1200 ≤ lpN p ∧ lpN p ≤ 1200 := by unfold lpN; omega
  obtain ⟨e, he⟩ : ∃ e : Int, min 1074 (53 - (b : Int) - lpN p) = e := ⟨_, rfl⟩
  obtain ⟨s, hs⟩ : ∃ s : Nat, (s : Int) = 61 - b - e - lpN p := ⟨(61 - (b : Int) - e - lpN p).toNat, by omega⟩
  obtain ⟨E, hE⟩ : ∃ E : Nat, (E : Int) = 1074 - e := ⟨(1074 - e).toNat, by omega⟩
  obtain ⟨_, hlo, hrow⟩ := row_is p hp1 hp2
  rw [show (p + 348).toNat = i by omega] at hlo hrow
  obtain ⟨G, n, hG, hU, hn, hfar, hA, hB⟩ := parse_plain p hp1 hp2 d b s E (hiN i) (loN i) b1 b4 b2 b3 hlo hrow (by omega) (by omega) (by omega)
  have hsh : -(e - (64 - (b : Int)) + lpN p + 3) = (s : Int) := by omega
  by_cases h64 : 64 ≤ s
  · have := pf_far d b i s e w hg h2 hb b1 b4 (by omega) (by rw [← hi]; exact he) (by rw [← hi]; exact hsh) h64
    rw [← hi] at this
    exact this.mono fun e' w' ⟨h3, h4⟩ => ⟨0, hfar h64, h3, h4⟩
  · have hx2 : d * 2 ^ (64 - b) < 18446744073709551616 := by
      rw [show 18446744073709551616 = 2 ^ b * 2 ^ (64 - b) from by rw [← Nat.pow_add, show b + (64 - b) = 64 by omega]]
      exact (Nat.mul_lt_mul_right (Nat.two_pow_pos _)).2 b3
    have hfl := unr_floor n G hG
    have hq : n / G < 18014398509481983 := (Nat.div_lt_iff_lt_mul hG).2 hn
    have hat := unr_atleast n G 9007199254740992 hG (by decide)
    have hrd := unr_round n G hG
    have hha := unr_half n G hG
    have hrd2 := unr_round n (2 * G) (by omega)
    have hEE : E ≤ 3000 := by omega
    obtain ⟨U, hUe⟩ : ∃ U, unr n G = U := ⟨_, rfl⟩
    rw [hUe] at hU hfl hat hrd hha
    have hUb : U < 4611686018427387904 := by omega
    by_cases hsb : 36028797018963966 ≤ U
    · have hge : 18014398509481983 * G ≤ 2 * n := hat.1 hsb
      obtain ⟨m1, m2, m3⟩ := hB hge
      have := pf_near d b i s U (mOf n (2 * G)) _ _ e ((E + 1 : Nat) - 1074) true w hg h2 hb b1 b4 (by omega) (by rw [← hi]; exact he) (by rw [← hi]; exact hsh) (by omega) hx2 hU hUb (by rw [decide_eq_true hsb])
        (by simp only [if_true]; rw [hha, hrd2]; rfl) (by simp only [if_true]; omega) (fun W => pack_any (mOf n (2 * G)) (E + 1) W m1 (.inr m2) (by omega))
      rw [← hi] at this
      exact this.mono fun e' w' ⟨h3, h4⟩ => ⟨_, m3, h3, h4⟩
    · have hlt : 2 * n < 18014398509481983 * G := by
        rcases Nat.lt_or_ge (2 * n) (18014398509481983 * G) with h | h
        · exact h
        · exact absurd (hat.2 h) hsb
      obtain ⟨m1, m2, m3⟩ := hA hlt
      have := pf_near d b i s U (mOf n G) _ _ e ((E : Int) - 1074) false w hg h2 hb b1 b4 (by omega) (by rw [← hi]; exact he) (by rw [← hi]; exact hsh) (by omega) hx2 hU hUb (by rw [decide_eq_false hsb])
        (by simp only [if_false, Bool.false_eq_true]; rw [hrd]; rfl) (by simp only [if_false, Bool.false_eq_true]; omega) (fun W => pack_any (mOf n G) E W m1 m2 (by omega))
      rw [← hi] at this
      exact this.mono fun e' w' ⟨h3, h4⟩ => ⟨_, m3, h3, h4⟩
end Go.Proofs.YtmhagigokgklaaaGreatDoor

/- readFloat. -/
namespace Go.Proofs.YtmhagigokgklaaaGreatDoor
open Go Go.RowKit

theorem lower_any (c : Int) (w : World) :
    Calls Tryz.prog 114 #[.int .u8 c] w fun e w' => e = .returned (.int .u8 (bits .or .u8 c 32)) ∧ w' = w := by
  go_enter Tryz.func114, Tryz.ntmps114
  go_wp2
  go_ret
  exact ⟨rfl, rfl⟩

theorem low_x (c : Nat) (h : c < 256) (h1 : c ≠ 88) (h2 : c ≠ 120) : (bits .or .u8 (c : Int) 32 == 120) = false := by
  have key : ∀ c : Fin 256, c.val ≠ 88 → c.val ≠ 120 → (bits .or .u8 ((c.val : Nat) : Int) 32 == 120) = false := by decide +kernel
  exact key ⟨c, h⟩ h1 h2

/-- a text that is no hexadecimal one: what stands behind a nought -/
def NoHex (s : ByteArray) : Prop := ∀ j (h : j < s.size), s[j].toNat ≠ 88 ∧ s[j].toNat ≠ 120

theorem rf_next (b mx : Nat) (M : List UInt8) (k : Nat) (h : k < M.length) (st : RF) (hst : rfF b mx (M.take k) = st) : rfF b mx (M.take (k + 1)) = rfStep b mx st M[k] := by
  rw [List.take_succ_eq_append_getElem h, rf_snoc, hst]
theorem ba_get (s : ByteArray) (k : Nat) (_h : k < s.size) (h2 : k < s.data.toList.length) : s.data.toList[k] = s[k] := by
  rfl

/-- the power that readFloat gives -/
def rfExp (st : RF) (x : Int) : Int := if st.mant = 0 then 0 else (if st.dot then st.dp else (st.nd : Int)) + x - (st.nm : Int)
theorem rfExp_zero (nd nm mant : Nat) (dp : Int) (dt dg tr : Bool) (x : Int) (h : mant = 0) : rfExp ⟨nd, nm, mant, dp, dt, dg, tr⟩ x = 0 := if_pos h
theorem rfExp_dot (nd nm mant : Nat) (dp : Int) (dg tr : Bool) (x : Int) (h : mant ≠ 0) : rfExp ⟨nd, nm, mant, dp, true, dg, tr⟩ x = dp + x - (nm : Int) := if_neg h
theorem rfExp_nodot (nd nm mant : Nat) (dp : Int) (dg tr : Bool) (x : Int) (h : mant ≠ 0) : rfExp ⟨nd, nm, mant, dp, false, dg, tr⟩ x = (nd : Int) + x - (nm : Int) := if_neg h

set_option maxRecDepth 100000 in
set_option maxHeartbeats 4000000 in
theorem rf_plain (s : ByteArray) (w : World) (hs : s.size ≤ 1000) (W F : List UInt8) (dot : Bool) (hM : MantF s.data.toList W F dot) (hne : W ++ F ≠ []) :
    Calls Tryz.prog 142 #[.string s] w fun e w' => e = .returned (.tuple #[.int .u64 (rfF 10 19 s.data.toList).mant, .int .i64 (rfExp (rfF 10 19 s.data.toList) 0), .bool false, .bool (rfF 10 19 s.data.toList).tr, .bool false, .int .i64 s.size, .bool true]) ∧ w' = w := by
  have hlen : s.data.toList.length = s.size := by simp
  have hW : ∀ x ∈ W, okD 10 x := fun x hx => .inl (hM.w x hx)
  have hF : ∀ x ∈ F, okD 10 x := fun x hx => .inl (hM.f x hx)
  have hmem := mant_mem 10 _ W F dot hM.eq hW hF
  have hn0 : 0 < s.size := by
    rw [← hlen, hM.eq]
    unfold mantT
    rcases List.eq_nil_or_concat W with h | ⟨l, c, h⟩
    · subst h
      cases dot with
      | false => rw [hM.nodot rfl] at hne; simp at hne
      | true => simp
    · subst h; rw [List.concat_eq_append]; simp; omega
  have hbyte : ∀ j (h : j < s.size), s[j].toNat = 46 ∨ (48 ≤ s[j].toNat ∧ s[j].toNat ≤ 57) := fun j h => by
    rcases hmem _ (List.getElem_mem (by rw [hlen]; exact h) : s.data.toList[j] ∈ s.data.toList) with h1 | h1 | h1
    · left; rw [ba_get s j h] at h1; rw [h1]; rfl
    · right; rw [ba_get s j h] at h1; exact h1
    · exact absurd h1.1 (by decide)
  have hb0 := hbyte 0 hn0
  have hn1 : decide ((s.size : Int) ≤ 0) = false := by rw [decide_eq_false_iff_not]; omega
  have hn2 : decide (s.size = 0) = false := by rw [decide_eq_false_iff_not]; omega
  have hn3 : ¬ s.size = 0 := by omega
  have hc1 : ((s[0].toNat : Int) == 43) = false := by rw [beq_eq_false_iff_ne]; omega
  have hc2 : ((s[0].toNat : Int) == 45) = false := by rw [beq_eq_false_iff_ne]; omega
  have hx1 : ∀ h : 1 < s.size, (bits .or .u8 ((s[1].toNat : Nat) : Int) 32 == 120) = false := fun h => by
    have := hbyte 1 h
    exact low_x _ s[1].toNat_lt (by omega) (by omega)
  have HX1 := Lib.hid hx1
  have HBY := Lib.hid hbyte
  have HPT := Lib.hid (mant_point 10 19 s.data.toList W F dot hM.eq hW hF)
  have HMT := Lib.hid (rf_mant 10 19 s.data.toList W F dot hM.eq (fun x hx => dig_ne46 (hM.w x hx)) (fun x hx => dig_ne46 (hM.f x hx)) hM.nodot)
  have HMEM := Lib.hid hmem
  have HLEN := Lib.hid hlen
  have HNE := Lib.hid hne
  clear hM hne hlen hW hF hmem hx1 hbyte hb0
  go_enter Tryz.func142, Tryz.ntmps142
  go_wp2_with fail
  go_step3
  go_upto_region 12 with fail
  go_cut [54] from 36 to 54 (fun s54 wx => s54 = .bool false ∧ wx = w)
  case first =>
    by_cases h3 : 2 < s.size
    · have hx := HX1.out (by omega)
      cases h48 : ((s[0].toNat : Int) == 48)
      all_goals
        go_wp2_with (go_at_call 114; refine (lower_any _ _).mono ?_; rintro e w' ⟨rfl, rfl⟩)
        go_meet
        exact ⟨rfl, rfl⟩
    · go_wp2_with fail
      go_meet
      exact ⟨rfl, rfl⟩
  case rest =>
    obtain ⟨rfl, rfl⟩ := hcut
    clear hc1 hc2 HX1
    go_wp2_with fail
    go_step3
    go_wp2_with fail
    go_loopg [2, 5, 7, 9, 13, 14, 15, 16, 17] s.size (fun g s2 s5 s7 s9 s13 s14 s15 s16 s17 wr => ∃ (k nd nm mant : Nat) (dp : Int) (dt dg tr : Bool), k + g = s.size ∧ rfF 10 19 (s.data.toList.take k) = ⟨nd, nm, mant, dp, dt, dg, tr⟩ ∧ s2 = .int .u64 mant ∧ s5 = .bool tr ∧ s7 = .int .i64 k ∧ s9 = .bool false ∧ s13 = .bool dt ∧ s14 = .bool dg ∧ s15 = .int .i64 nd ∧ s16 = .int .i64 nm ∧ s17 = .int .i64 dp ∧ wr = wc)
    case atStart => exact ⟨0, 0, 0, 0, 0, false, false, false, by omega, rfl, rfl, rfl, rfl, rfl, rfl, rfl, rfl, rfl, rfl, rfl⟩
    case round =>
      obtain ⟨k, nd, nm, mant, dp, dt, dg, tr, hkg, hst, rfl, rfl, rfl, rfl, rfl, rfl, rfl, rfl, rfl, rfl⟩ := hrel
      have hbd := rf_bd 10 19 (by decide) (s.data.toList.take k) (fun x hx => HMEM.out x (List.mem_of_mem_take hx))
      rw [hst] at hbd
      simp only at hbd
      have hlk : (s.data.toList.take k).length ≤ k := List.length_take_le _ _
      obtain ⟨b1, b2, b3, b4, b5, b6⟩ := hbd
      have hnd : nd ≤ 1000 := by omega
      have hdp1 : -1000 ≤ dp := by omega
      have hdp2 : dp ≤ 1000 := by omega
      have HST := Lib.hid hst
      by_cases hlt : k < s.size
      · have hpt := HPT.out k (by rw [HLEN.out]; exact hlt)
        have hnx := rf_next 10 19 s.data.toList k (by rw [HLEN.out]; exact hlt) _ hst
        rw [ba_get s k hlt] at hpt hnx
        rw [hst] at hpt
        simp only at hpt
        have hby := HBY.out k hlt
        have HNX := Lib.hid hnx
        have HB4 := Lib.hid b4
        have HPK := Lib.hid hpt
        clear hst hnx b4 hpt b1 b2 b5 b6 hlk
        by_cases h46 : s[k].toNat = 46
        · have hd : dt = false := HPK.out (by rw [← UInt8.ofNat_toNat (x := s[k]), h46]; rfl)
          subst hd
          go_wp2_with fail
          go_roundg (gk - 1)
          case measure => omega
          case rel => exact ⟨k + 1, nd, nm, mant, (nd : Int), true, dg, tr, by omega, by rw [HNX.out, show s[k] = 46 from by rw [← UInt8.ofNat_toNat (x := s[k]), h46]; rfl]; rfl, rfl, rfl, by go_num, rfl, rfl, rfl, rfl, rfl, rfl, rfl⟩
        · have hdg : 48 ≤ s[k].toNat ∧ s[k].toNat ≤ 57 := hby.resolve_left h46
          have hd1 : (48 : Int) ≤ (s[k].toNat : Int) := by omega
          have hd2 : (s[k].toNat : Int) ≤ 57 := by omega
          have t95 : ((s[k].toNat : Int) == 95) = false := by rw [beq_eq_false_iff_ne]; omega
          have t46 : ((s[k].toNat : Int) == 46) = false := by rw [beq_eq_false_iff_ne]; omega
          have HC46 : Hid (s[k] ≠ 46) := Lib.hid fun h => h46 (by rw [h]; rfl)
          have HDV : Hid (dv s[k].toNat = s[k].toNat - 48) := Lib.hid (by unfold dv; rw [if_pos hdg])
          clear h46 hby hdg
          by_cases hz : s[k].toNat = 48 ∧ nd = 0
          · obtain ⟨hz1, rfl⟩ := hz
            have t48 : ((s[k].toNat : Int) == 48) = true := by rw [beq_iff_eq]; omega
            have HZ : Hid (s[k] = 48) := Lib.hid (by rw [← UInt8.ofNat_toNat (x := s[k]), hz1]; rfl)
            clear hz1
            go_wp2_with fail
            go_roundg (gk - 1)
            case measure => omega
            case rel => exact ⟨k + 1, 0, nm, mant, dp - 1, dt, true, tr, by omega, by rw [HNX.out]; unfold rfStep; rw [if_neg HC46.out, if_pos ⟨HZ.out, rfl⟩], rfl, rfl, by go_num, rfl, rfl, rfl, rfl, rfl, rfl, rfl⟩
          · have HZ : Hid (¬ (s[k] = 48 ∧ nd = 0)) := Lib.hid fun h => hz ⟨by rw [h.1]; rfl, h.2⟩
            have hzz : ((s[k].toNat : Int) == 48) = false ∨ ((s[k].toNat : Int) == 48) = true ∧ ((nd : Int) == 0) = false ∧ (nd == 0) = false ∧ ¬ nd = 0 := by
              by_cases h48 : s[k].toNat = 48
              · right; exact ⟨by rw [beq_iff_eq]; omega, by rw [beq_eq_false_iff_ne]; omega, by rw [beq_eq_false_iff_ne]; omega, by omega⟩
              · left; rw [beq_eq_false_iff_ne]; omega
            clear hz
            by_cases hm : nm < 19
            · have hm2 : mant < 1000000000000000000 := Nat.lt_of_lt_of_le HB4.out (Nat.pow_le_pow_right (by decide) (show nm ≤ 18 by omega))
              have tm : decide ((nm : Int) < 19) = true := by rw [decide_eq_true_eq]; omega
              rcases hzz with t48 | ⟨t48, tn, tn2, tn3⟩
              all_goals
                go_wp2_with fail
                go_roundg (gk - 1)
                case measure => omega
                case rel => exact ⟨k + 1, nd + 1, nm + 1, mant * 10 + dv s[k].toNat, dp, dt, true, tr, by omega, by rw [HNX.out]; unfold rfStep; rw [if_neg HC46.out, if_neg HZ.out, if_pos hm], by rw [HDV.out]; go_num, rfl, by go_num, rfl, rfl, rfl, by go_num, by go_num, rfl, rfl⟩
            · have tm : decide ((nm : Int) < 19) = false := by rw [decide_eq_false_iff_not]; omega
              rcases hzz with t48 | ⟨t48, tn, tn2, tn3⟩
              · have t48n : ((s[k].toNat : Int) != 48) = true := by rw [bne, t48]; rfl
                have HN : Hid ((s[k] != 48) = true) := Lib.hid (bne_iff_ne.2 fun h => by rw [h] at t48; exact absurd t48 (by decide))
                go_wp2_with fail
                go_roundg (gk - 1)
                case measure => omega
                case rel => exact ⟨k + 1, nd + 1, nm, mant, dp, dt, true, true, by omega, by rw [HNX.out]; unfold rfStep; rw [if_neg HC46.out, if_neg HZ.out, if_neg hm]; simp only [HN.out, Bool.or_true], rfl, rfl, by go_num, rfl, rfl, rfl, by go_num, rfl, rfl, rfl⟩
              · have t48n : ((s[k].toNat : Int) != 48) = false := by rw [bne, t48]; rfl
                have HN : Hid ((s[k] != 48) = false) := Lib.hid (by
                  rw [bne_eq_false_iff_eq]
                  have h := beq_iff_eq.1 t48
                  rw [← UInt8.ofNat_toNat (x := s[k]), show s[k].toNat = 48 by omega]; rfl)
                go_wp2_with fail
                go_roundg (gk - 1)
                case measure => omega
                case rel => exact ⟨k + 1, nd + 1, nm, mant, dp, dt, true, tr, by omega, by rw [HNX.out]; unfold rfStep; rw [if_neg HC46.out, if_neg HZ.out, if_neg hm]; simp only [HN.out, Bool.or_false], rfl, rfl, by go_num, rfl, rfl, rfl, by go_num, rfl, rfl, rfl⟩
      · have hke : k = s.size := by omega
        have hfull : s.data.toList.take k = s.data.toList := List.take_of_length_le (by rw [HLEN.out]; omega)
        rw [hfull] at hst
        have hmt := HMT.out
        rw [hst] at hmt
        obtain ⟨m1, m2, m3, m4, m5⟩ := hmt
        have hdg : dg = true := by
          have := m1.dig
          simp only at this
          rw [this]
          have := HNE.out
          simpa using this
        subst hdg hke
        have HS := Lib.hid hst
        have HEZ := Lib.hid (fun dt => rfExp_zero nd nm mant dp dt true tr 0)
        have HED := Lib.hid (rfExp_dot nd nm mant dp true tr 0)
        have HEN := Lib.hid (rfExp_nodot nd nm mant dp true tr 0)
        clear b4 b5 b6 hlk b1 m1 m2 m3 m4 m5 hst hfull HST
        by_cases hmz : mant = 0
        · have tz : ((mant : Int) != 0) = false := by rw [bne_eq_false_iff_eq]; omega
          have HMZ := Lib.hid hmz
          clear hmz
          cases dt
          all_goals
            go_wp2_with fail
            try rw [Exit.noGoto_ret]
            refine bodyPost_ret (v := .tuple #[.int .u64 mant, .int .i64 0, .bool false, .bool tr, .bool false, .int .i64 s.size, .bool true]) (by simp [results, Tryz.results142, go_sem]) rfl ⟨by rw [HS.out, HEZ.out _ HMZ.out], rfl⟩
        · have tz : ((mant : Int) != 0) = true := by rw [bne_iff_ne]; omega
          have HMZ := Lib.hid hmz
          clear hmz
          cases dt
          · go_wp2_with fail
            try rw [Exit.noGoto_ret]
            refine bodyPost_ret (v := .tuple #[.int .u64 mant, .int .i64 ((nd : Int) - (nm : Int)), .bool false, .bool tr, .bool false, .int .i64 s.size, .bool true]) (by simp [results, Tryz.results142, go_sem]) rfl ⟨by rw [HS.out, HEN.out HMZ.out, Int.add_zero], rfl⟩
          · go_wp2_with fail
            try rw [Exit.noGoto_ret]
            refine bodyPost_ret (v := .tuple #[.int .u64 mant, .int .i64 (dp - (nm : Int)), .bool false, .bool tr, .bool false, .int .i64 s.size, .bool true]) (by simp [results, Tryz.results142, go_sem]) rfl ⟨by rw [HS.out, HED.out HMZ.out, Int.add_zero], rfl⟩
end Go.Proofs.YtmhagigokgklaaaGreatDoor
