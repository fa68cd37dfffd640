/- Joined texts: Ua Ub Uc Ud Ue. Each begins with its own remark. -/
namespace Go.Proofs.YtckaoeloofbklaaGreatDoor
def BB : Nat := 4503599627370496
def INF : Nat := 9218868437227405312
def V (r : Nat) : Nat := if r < BB then r else (BB + r % BB) * 2 ^ (r / BB - 1)
theorem V_at (E m : Nat) (hm : m ≤ 2 * BB) (h : E = 0 ∨ BB ≤ m) : V (E * BB + m) = m * 2 ^ E := by
 unfold V
 by_cases h0 : E * BB + m < BB
 ·have hE : E = 0 := by
   rcases h with h | h
   ·exact h
   ·omega
  subst hE
  rw [if_pos h0]; simp
 ·rw [if_neg h0]
  by_cases h2 : m = 2 * BB
  ·subst h2
   have e1 : (E * BB + 2 * BB) % BB = 0 := by rw [← Nat.add_mul]; exact Nat.mul_mod_left _ _
   have e2 : (E * BB + 2 * BB) / BB = E + 2 := by rw [← Nat.add_mul]; exact Nat.mul_div_cancel _ (by decide)
   rw [e1, e2, show E + 2 - 1 = E + 1 from by omega, Nat.pow_succ]
   rw [Nat.add_zero, Nat.mul_comm (2 ^ E) 2, ← Nat.mul_assoc, Nat.mul_comm BB 2]
  ·by_cases hb : BB ≤ m
   ·have e1 : (E * BB + m) % BB = m - BB := by
     rw [show E * BB + m = (m - BB) + BB * (E + 1) from by rw [Nat.mul_add, Nat.mul_comm BB E]; omega, Nat.add_mul_mod_self_left]
     exact Nat.mod_eq_of_lt (by omega)
    have e2 : (E * BB + m) / BB = E + 1 := by
     rw [show E * BB + m = (m - BB) + BB * (E + 1) from by rw [Nat.mul_add, Nat.mul_comm BB E]; omega, Nat.add_mul_div_left _ _ (by decide), Nat.div_eq_of_lt (by omega)]
     omega
    rw [e1, e2, Nat.add_sub_cancel, show BB + (m - BB) = m from by omega]
   ·have hE : E = 0 := by omega
    subst hE
    omega
theorem V_parts (r : Nat) : ∃ E m, r = E * BB + m ∧ m < 2 * BB ∧ (E = 0 ∨ BB ≤ m) := by
 by_cases h : r < BB
 ·exact ⟨0, r, by omega, by omega, .inl rfl⟩
 ·refine ⟨r / BB - 1, r % BB + BB, ?_, ?_, .inr (by omega)⟩
  ·have h1 := Nat.div_add_mod r BB
   have h2 : 1 ≤ r / BB := (Nat.le_div_iff_mul_le (by decide)).2 (by omega)
   have h3 : (r / BB - 1) * BB + BB = BB * (r / BB) := by
    rw [← Nat.succ_mul, show (r / BB - 1).succ = r / BB from by omega, Nat.mul_comm]
   omega
  ·have := Nat.mod_lt r (show 0 < BB by decide)
   omega
theorem V_succ (E m : Nat) (hm : m < 2 * BB) (h : E = 0 ∨ BB ≤ m) : V (E * BB + m + 1) = (m + 1) * 2 ^ E := by
 have := V_at E (m + 1) (by omega) (by omega)
 rwa [← Nat.add_assoc] at this
theorem V_lt_succ (r : Nat) : V r < V (r + 1) := by
 obtain ⟨E, m, rfl, h1, h2⟩ := V_parts r
 rw [V_at E m (by omega) h2, V_succ E m h1 h2]
 exact (Nat.mul_lt_mul_right (Nat.two_pow_pos E)).2 (Nat.lt_succ_self m)
theorem V_mono {r s : Nat} (h : r < s) : V r < V s := by
 induction s with
 | zero => omega
 | succ s ih =>
  by_cases h1 : r = s
  ·rw [h1]; exact V_lt_succ s
  ·exact Nat.lt_trans (ih (by omega)) (V_lt_succ s)
theorem V_le {r s : Nat} (h : r ≤ s) : V r ≤ V s := by
 by_cases h1 : r = s
 ·rw [h1]; exact Nat.le_refl _
 ·exact Nat.le_of_lt (V_mono (by omega))
theorem V_zero : V 0 = 0 := rfl
structure Near (X Q r : Nat) : Prop where
 pos : 0 < Q
 inf : r ≤ INF
 lo : r = 0 ∨ (Q * (V (r - 1) + V r) ≤ X ∧ (r % 2 = 1 → Q * (V (r - 1) + V r) < X))
 hi : r = INF ∨ (X ≤ Q * (V r + V (r + 1)) ∧ (r % 2 = 1 → X < Q * (V r + V (r + 1))))
theorem near_not_lt {X Q r s : Nat} (hr : Near X Q r) (hs : Near X Q s) : ¬ r < s := by
 intro h
 have h1 := hs.inf
 rcases hr.hi with h2 | ⟨h2, h3⟩
 ·omega
 rcases hs.lo with h4 | ⟨h4, h5⟩
 ·omega
 have h6 : V r + V (r + 1) ≤ V (s - 1) + V s := Nat.add_le_add (V_le (by omega)) (V_le (by omega))
 have h7 := Nat.mul_le_mul_left Q h6
 by_cases h8 : s = r + 1
 ·subst h8
  rw [Nat.add_sub_cancel] at h4 h5
  rcases Nat.mod_two_eq_zero_or_one r with h9 | h9
  ·have := h5 (by omega)
   omega
  ·have := h3 h9
   omega
 ·have h10 : V r + V (r + 1) < V (s - 1) + V s := Nat.add_lt_add_of_le_of_lt (V_le (by omega)) (V_mono (by omega))
  have := (Nat.mul_lt_mul_left hr.pos).2 h10
  omega
theorem near_unique {X Q r s : Nat} (hr : Near X Q r) (hs : Near X Q s) : r = s := by
 have := near_not_lt hr hs
 have := near_not_lt hs hr
 omega
def upB (X Q m E : Nat) : Nat := if X < Q * ((2 * m + 1) * 2 ^ E) then 0 else if X = Q * ((2 * m + 1) * 2 ^ E) then m % 2 else 1
theorem near_of_floor {X Q E m : Nat} (hq : 0 < Q) (hm : m < 2 * BB) (h : E = 0 ∨ BB ≤ m) (lo : 2 * (Q * (m * 2 ^ E)) ≤ X) (hi : X < 2 * (Q * ((m + 1) * 2 ^ E))) :
  Near X Q (min INF (E * BB + m + upB X Q m E)) := by
 have v0 := V_at E m (by omega) h
 have v1 := V_succ E m hm h
 have hpar : (E * BB + m) % 2 = m % 2 := by
  rw [show E * BB + m = m + 2 * (E * 2251799813685248) from by rw [show BB = 2251799813685248 * 2 from by decide, ← Nat.mul_assoc]; omega, Nat.add_mul_mod_self_left]
 generalize hr : E * BB + m = r at *
 have hmid : Q * ((2 * m + 1) * 2 ^ E) = Q * (V r + V (r + 1)) := by
  rw [v0, v1, ← Nat.add_mul]; congr 2; omega
 have hlo2 : 2 * (Q * V r) ≤ X := by rw [v0]; exact lo
 have hhi2 : X < 2 * (Q * V (r + 1)) := by rw [v1]; exact hi
 have hsum : Q * (V r + V (r + 1)) = Q * V r + Q * V (r + 1) := Nat.mul_add _ _ _
 by_cases hinf : INF ≤ r
 ·rw [Nat.min_eq_left (by omega)]
  have h1 : Q * V INF ≤ Q * V r := Nat.mul_le_mul_left Q (V_le hinf)
  have h2 : Q * V (INF - 1) ≤ Q * V INF := Nat.mul_le_mul_left Q (V_le (by omega))
  refine ⟨hq, Nat.le_refl _, .inr ⟨?_, fun h => absurd h (by decide)⟩, .inl rfl⟩
  rw [Nat.mul_add]
  omega
 ·have hu : upB X Q m E ≤ 1 := by unfold upB; split; omega; split <;> omega
  rw [Nat.min_eq_right (by omega)]
  by_cases hup : upB X Q m E = 0
  ·rw [hup, Nat.add_zero]
   have hX : X ≤ Q * (V r + V (r + 1)) ∧ (r % 2 = 1 → X < Q * (V r + V (r + 1))) := by
    rw [← hmid]
    unfold upB at hup
    split at hup
    ·constructor <;> omega
    ·split at hup
     ·constructor <;> omega
     ·omega
   refine ⟨hq, by omega, ?_, .inr hX⟩
   by_cases h0 : r = 0
   ·exact .inl h0
   ·right
    have h3 : V (r - 1) < V r := V_mono (by omega)
    have h4 := (Nat.mul_lt_mul_left hq).2 h3
    rw [Nat.mul_add]
    constructor <;> omega
  ·have hu1 : upB X Q m E = 1 := by omega
   rw [hu1]
   have hX : Q * (V r + V (r + 1)) ≤ X ∧ ((r + 1) % 2 = 1 → Q * (V r + V (r + 1)) < X) := by
    rw [← hmid]
    unfold upB at hu1
    split at hu1
    ·omega
    ·split at hu1
     ·constructor <;> omega
     ·constructor <;> omega
   refine ⟨hq, by omega, .inr ⟨by rw [Nat.add_sub_cancel]; exact hX.1, fun h => by rw [Nat.add_sub_cancel]; exact hX.2 h⟩, ?_⟩
   by_cases h0 : r + 1 = INF
   ·exact .inl h0
   ·right
    have h3 : V (r + 1) < V (r + 1 + 1) := V_lt_succ _
    have h4 := (Nat.mul_lt_mul_left hq).2 h3
    rw [Nat.mul_add]
    constructor <;> omega
def upG (n G : Nat) : Nat := if 2 * (n % G) < G then 0 else if 2 * (n % G) = G then (n / G) % 2 else 1
theorem near_gap {X Q n G E : Nat} (hq : 0 < Q) (hG : 0 < G) (hX : X * G = 2 * (Q * (n * 2 ^ E))) (hm : n / G < 2 * BB) (h : E = 0 ∨ BB ≤ n / G) :
  Near X Q (min INF (E * BB + (n / G + upG n G))) := by
 have hdm := Nat.div_add_mod n G
 have hlt := Nat.mod_lt n hG
 have hQE : 0 < Q * 2 ^ E := Nat.mul_pos hq (Nat.two_pow_pos E)
 have hX2 : X * G = 2 * ((Q * 2 ^ E) * n) := by rw [hX, Nat.mul_comm n, ← Nat.mul_assoc Q]
 have key : ∀ a : Nat, (Q * 2 ^ E) * a * G = (Q * 2 ^ E) * (G * a) := fun a => by rw [Nat.mul_assoc, Nat.mul_comm a G]
 have k1 : ∀ a : Nat, Q * (a * 2 ^ E) = (Q * 2 ^ E) * a := fun a => by rw [Nat.mul_comm a, ← Nat.mul_assoc]
 have lo : 2 * (Q * (n / G * 2 ^ E)) ≤ X := by
  refine Nat.le_of_mul_le_mul_right ?_ hG
  rw [hX2, k1, Nat.mul_assoc 2, key]
  exact Nat.mul_le_mul_left 2 (Nat.mul_le_mul_left _ (by omega))
 have hi : X < 2 * (Q * ((n / G + 1) * 2 ^ E)) := by
  refine Nat.lt_of_mul_lt_mul_right (a := G) ?_
  rw [hX2, k1, Nat.mul_assoc 2, key]
  refine (Nat.mul_lt_mul_left (by decide : 0 < 2)).2 ((Nat.mul_lt_mul_left hQE).2 ?_)
  rw [Nat.mul_add]
  omega
 have hmid : ∀ c : Nat, Q * (c * 2 ^ E) * G = (Q * 2 ^ E) * (G * c) := fun c => by rw [k1, key]
 have e2 : X * G = (Q * 2 ^ E) * (2 * n) := by rw [hX2, ← Nat.mul_assoc, Nat.mul_comm 2, Nat.mul_assoc]
 have hcl : X < Q * ((2 * (n / G) + 1) * 2 ^ E) ↔ 2 * (n % G) < G := by
  rw [← Nat.mul_lt_mul_right hG, hmid, e2, Nat.mul_lt_mul_left hQE, Nat.mul_add, Nat.mul_left_comm]
  omega
 have hce : X = Q * ((2 * (n / G) + 1) * 2 ^ E) ↔ 2 * (n % G) = G := by
  rw [← Nat.mul_right_cancel_iff hG, hmid, e2, Nat.mul_right_inj (by omega), Nat.mul_add, Nat.mul_left_comm]
  omega
 have hu : upB X Q (n / G) E = upG n G := by
  unfold upB upG
  by_cases h1 : 2 * (n % G) < G
  ·rw [if_pos h1, if_pos (hcl.2 h1)]
  ·rw [if_neg h1, if_neg (fun h => h1 (hcl.1 h))]
   by_cases h2 : 2 * (n % G) = G
   ·rw [if_pos h2, if_pos (hce.2 h2)]
   ·rw [if_neg h2, if_neg (fun h => h2 (hce.1 h))]
 have := near_of_floor hq hm h lo hi
 rwa [hu, Nat.add_assoc] at this
theorem near_ratio {X Q X' Q' r : Nat} (h : Near X Q r) (hq : 0 < Q') (he : X * Q' = X' * Q) : Near X' Q' r := by
 have hq0 := h.pos
 have sw : ∀ S, Q * S * Q' = Q' * S * Q := fun S => by rw [Nat.mul_right_comm, Nat.mul_comm Q Q', Nat.mul_right_comm]
 have le1 : ∀ S, Q * S ≤ X ↔ Q' * S ≤ X' := fun S => by
  constructor
  ·intro h
   have := Nat.mul_le_mul_right Q' h
   rw [sw, he] at this
   exact Nat.le_of_mul_le_mul_right this hq0
  ·intro h
   have := Nat.mul_le_mul_right Q h
   rw [← sw, ← he] at this
   exact Nat.le_of_mul_le_mul_right this hq
 have lt1 : ∀ S, Q * S < X ↔ Q' * S < X' := fun S => by
  constructor
  ·intro h
   have := (Nat.mul_lt_mul_right hq).2 h
   rw [sw, he] at this
   exact Nat.lt_of_mul_lt_mul_right this
  ·intro h
   have := (Nat.mul_lt_mul_right hq0).2 h
   rw [← sw, ← he] at this
   exact Nat.lt_of_mul_lt_mul_right this
 refine ⟨hq, h.inf, h.lo.imp id fun ⟨a, b⟩ => ⟨(le1 _).1 a, fun c => (lt1 _).1 (b c)⟩, h.hi.imp id fun ⟨a, b⟩ => ⟨?_, fun c => ?_⟩⟩
 ·exact Nat.le_of_not_lt fun hn => absurd ((lt1 _).2 hn) (Nat.not_lt.2 a)
 ·exact Nat.lt_of_not_le fun hn => absurd ((le1 _).2 hn) (Nat.not_le.2 (b c))
end Go.Proofs.YtckaoeloofbklaaGreatDoor
namespace Go.Proofs.YtckaoeloofbklaaGreatDoor
def unr (n G : Nat) : Nat := 2 * (2 * n / G) + (if 2 * n % G = 0 then 0 else 1)
theorem unr_parts (n G : Nat) (hG : 0 < G) :
  unr n G = 4 * (n / G) + (if 2 * (n % G) < G then (if n % G = 0 then 0 else 1) else if 2 * (n % G) = G then 2 else 3) := by
 have hdm := Nat.div_add_mod n G
 have hlt := Nat.mod_lt n hG
 generalize n / G = f at *
 generalize n % G = r at *
 have e1 : 2 * n = 2 * r + G * (2 * f) := by rw [← hdm, Nat.mul_add, Nat.mul_left_comm]; omega
 have d1 : 2 * n / G = 2 * r / G + 2 * f := by rw [e1, Nat.add_mul_div_left _ _ hG]
 have m1 : 2 * n % G = 2 * r % G := by rw [e1, Nat.add_mul_mod_self_left]
 unfold unr
 rw [d1, m1]
 by_cases h1 : 2 * r < G
 ·rw [Nat.div_eq_of_lt h1, Nat.mod_eq_of_lt h1, if_pos h1]
  by_cases h2 : r = 0
  ·rw [if_pos h2, if_pos (by omega)]; omega
  ·rw [if_neg h2, if_neg (by omega)]; omega
 ·have h3 : 2 * r / G = 1 := by
   rw [Nat.div_eq_iff hG]; omega
  have h4 : 2 * r % G = 2 * r - G := by
   rw [Nat.mod_eq_sub_mod (by omega), Nat.mod_eq_of_lt (by omega)]
  rw [h3, h4, if_neg h1]
  by_cases h2 : 2 * r = G
  ·rw [if_pos h2, if_pos (by omega)]; omega
  ·rw [if_neg h2, if_neg (by omega)]; omega
theorem unr_floor (n G : Nat) (hG : 0 < G) : unr n G / 4 = n / G := by
 rw [unr_parts n G hG]
 split
 ·split <;> omega
 ·split <;> omega
theorem unr_round (n G : Nat) (hG : 0 < G) : (unr n G + 1 + unr n G / 4 % 2) / 4 = n / G + upG n G := by
 rw [unr_floor n G hG, unr_parts n G hG]
 unfold upG
 have := Nat.mod_two_eq_zero_or_one (n / G)
 by_cases h1 : 2 * (n % G) < G
 ·rw [if_pos h1, if_pos h1]
  split <;> omega
 ·rw [if_neg h1, if_neg h1]
  split <;> omega
theorem unr_ceil (n G d : Nat) (hG : 0 < G) : (unr n G + 3) / 4 ≤ d ↔ n ≤ d * G := by
 have hdm := Nat.div_add_mod n G
 have hlt := Nat.mod_lt n hG
 rw [unr_parts n G hG]
 generalize n / G = f at *
 generalize n % G = r at *
 have e : n ≤ d * G ↔ (if r = 0 then f ≤ d else f + 1 ≤ d) := by
  rw [← hdm]
  split
  ·rename_i h; subst h
   rw [Nat.add_zero, Nat.mul_comm, Nat.mul_le_mul_right_iff hG]
  ·constructor
   ·intro h
    have : G * f < G * d := by rw [Nat.mul_comm G d]; omega
    exact Nat.lt_of_mul_lt_mul_left this
   ·intro h
    have := Nat.mul_le_mul_left G h
    rw [Nat.mul_comm d G]
    rw [Nat.mul_add] at this
    omega
 rw [e]
 by_cases h1 : 2 * r < G
 ·rw [if_pos h1]
  by_cases h2 : r = 0
  ·rw [if_pos h2, if_pos h2]; omega
  ·rw [if_neg h2, if_neg h2]; omega
 ·rw [if_neg h1, if_neg (show ¬ r = 0 by omega)]
  split <;> omega
theorem unr_above (n G d : Nat) (hG : 0 < G) : (unr n G + 1 + 3) / 4 ≤ d ↔ n < d * G := by
 have hdm := Nat.div_add_mod n G
 have hlt := Nat.mod_lt n hG
 have e : n < d * G ↔ n / G + 1 ≤ d := by
  rw [Nat.succ_le_iff, Nat.div_lt_iff_lt_mul hG]
 rw [e, unr_parts n G hG]
 split
 ·split <;> omega
 ·split <;> omega
theorem unr_below (n G d : Nat) (hG : 0 < G) : d ≤ unr n G / 4 ↔ d * G ≤ n := by
 rw [unr_floor n G hG, Nat.le_div_iff_mul_le hG]
theorem unr_under (n G d : Nat) (hG : 0 < G) (hn : G ≤ n) : d ≤ (unr n G - 1) / 4 ↔ d * G < n := by
 have hdm := Nat.div_add_mod n G
 have hlt := Nat.mod_lt n hG
 have h1 : 1 ≤ n / G := (Nat.le_div_iff_mul_le hG).2 (by omega)
 rw [unr_parts n G hG]
 generalize n / G = f at *
 generalize n % G = r at *
 have e : d * G < n ↔ (if r = 0 then d + 1 ≤ f else d ≤ f) := by
  rw [← hdm]
  split
  ·rename_i h; subst h
   rw [Nat.add_zero, Nat.mul_comm, Nat.mul_lt_mul_left hG]
   omega
  ·constructor
   ·intro h
    have : G * d < G * (f + 1) := by rw [Nat.mul_comm G d, Nat.mul_add]; omega
    have := Nat.lt_of_mul_lt_mul_left this
    omega
   ·intro h
    have := Nat.mul_le_mul_left G h
    rw [Nat.mul_comm d G]
    omega
 rw [e]
 by_cases h2 : 2 * r < G
 ·rw [if_pos h2]
  by_cases h3 : r = 0
  ·rw [if_pos h3, if_pos h3]; omega
  ·rw [if_neg h3, if_neg h3]; omega
 ·rw [if_neg h2, if_neg (show ¬ r = 0 by omega)]
  split <;> omega
end Go.Proofs.YtckaoeloofbklaaGreatDoor
namespace Go.Proofs.YtckaoeloofbklaaGreatDoor
def uscN (x hi lo S : Nat) : Nat :=
 if x * hi / 18446744073709551616 % S = 0 then
  let H := if x * hi % 18446744073709551616 < x * lo / 18446744073709551616 then x * hi / 18446744073709551616 - 1 else x * hi / 18446744073709551616
  if 1 < (x * hi % 18446744073709551616 + 18446744073709551616 - x * lo / 18446744073709551616) % 18446744073709551616 then 2 * (H / S / 2) + 1 else H / S
 else 2 * (x * hi / 18446744073709551616 / S / 2) + 1
theorem unr_four (n G : Nat) (hG : 0 < G) : unr n (4 * G) = if n % G = 0 then n / G else 2 * (n / G / 2) + 1 := by
 have hdm := Nat.div_add_mod n G
 have hlt := Nat.mod_lt n hG
 have e1 : 2 * n / (4 * G) = n / G / 2 := by
  rw [show 4 * G = 2 * (G * 2) from by omega, Nat.mul_div_mul_left _ _ (by decide), Nat.div_div_eq_div_mul]
 have e2 : 2 * n % (4 * G) = 2 * (n % (G * 2)) := by
  rw [show 4 * G = 2 * (G * 2) from by omega, Nat.mul_mod_mul_left]
 have e3 : n % (G * 2) = n % G + G * (n / G % 2) := Nat.mod_mul
 unfold unr
 rw [e1, e2, e3]
 have h2 := Nat.mod_two_eq_zero_or_one (n / G)
 by_cases h : n % G = 0
 ·rw [if_pos h, h]
  rcases h2 with h3 | h3
  ·rw [h3]; simp; omega
  ·rw [h3, if_neg (by omega)]; omega
 ·rw [if_neg h, if_neg (by omega)]
def Clear (x pm A D S : Nat) : Prop := x * A % (D * (S * 340282366920938463463374607431768211456)) = 0 ∨ (18446744073709551616 < x * pm % (S * 340282366920938463463374607431768211456) ∧ x * pm % (S * 340282366920938463463374607431768211456) + 18446744073709551616 ≤ S * 340282366920938463463374607431768211456)
theorem uscN_eq {x hi lo pm A D S : Nat} (hx : x < 18446744073709551616) (hlo : lo < 18446744073709551616) (hpm : pm + lo = hi * 18446744073709551616) (hA1 : A ≤ pm * D) (hA2 : pm * D < A + D) (hD : 0 < D) (hS : 2 ≤ S)
  (hc : Clear x pm A D S) : uscN x hi lo S = unr (x * A) (4 * (D * (S * 340282366920938463463374607431768211456))) := by
 have hM : 0 < S * 340282366920938463463374607431768211456 := Nat.mul_pos (by omega) (by decide)
 rw [unr_four _ _ (Nat.mul_pos hD hM)]
 have p1 : x * pm + x * lo = x * hi * 18446744073709551616 := by rw [← Nat.mul_add, hpm, Nat.mul_assoc]
 have p2 := Nat.div_add_mod (x * hi) 18446744073709551616
 have p3 := Nat.div_add_mod (x * lo) 18446744073709551616
 have p4 := Nat.mod_lt (x * hi) (show 0 < 18446744073709551616 by decide)
 have p5 := Nat.mod_lt (x * lo) (show 0 < 18446744073709551616 by decide)
 have p6 : x * lo ≤ 18446744073709551615 * 18446744073709551615 := Nat.mul_le_mul (by omega) (by omega)
 have a1 : x * A ≤ x * pm * D := by rw [Nat.mul_assoc]; exact Nat.mul_le_mul_left x hA1
 have a2 : x * pm * D ≤ x * A + x * D := by
  rw [Nat.mul_assoc, ← Nat.mul_add]; exact Nat.mul_le_mul_left x (Nat.le_of_lt hA2)
 have a3 : 0 < x → x * pm * D < x * A + x * D := fun h => by
  rw [Nat.mul_assoc, ← Nat.mul_add]; exact (Nat.mul_lt_mul_left h).2 hA2
 have t1 := Nat.div_add_mod (x * pm) 340282366920938463463374607431768211456
 have t2 := Nat.mod_lt (x * pm) (show 0 < 18446744073709551616 * 18446744073709551616 by decide)
 have t3 := Nat.div_add_mod (x * pm / 340282366920938463463374607431768211456) S
 have t4 := Nat.mod_lt (x * pm / 340282366920938463463374607431768211456) (show 0 < S by omega)
 have u1 : x * pm / (S * 340282366920938463463374607431768211456) = x * pm / 340282366920938463463374607431768211456 / S := by rw [Nat.mul_comm S, Nat.div_div_eq_div_mul]
 have u2 : x * pm % (S * 340282366920938463463374607431768211456) = x * pm % 340282366920938463463374607431768211456 + 18446744073709551616 * 18446744073709551616 * (x * pm / 340282366920938463463374607431768211456 % S) := by rw [Nat.mul_comm S, Nat.mod_mul]
 have hdmM := Nat.div_add_mod (x * pm) (S * 340282366920938463463374607431768211456)
 unfold uscN
 rcases hc with hc | ⟨hc1, hc2⟩
 ·
  rw [if_pos hc]
  obtain ⟨K, hK⟩ := Nat.dvd_of_mod_eq_zero hc
  have hn : x * A / (D * (S * 340282366920938463463374607431768211456)) = K := by rw [hK]; exact Nat.mul_div_cancel_left _ (Nat.mul_pos hD hM)
  rw [hn]
  have k1 : K * S * 340282366920938463463374607431768211456 ≤ x * pm := by
   refine Nat.le_of_mul_le_mul_right ?_ hD
   refine Nat.le_trans (Nat.le_of_eq ?_) a1
   rw [hK, Nat.mul_assoc K, Nat.mul_comm _ D, Nat.mul_comm K, ← Nat.mul_assoc]
  have k2 : x * pm < K * S * 340282366920938463463374607431768211456 + 18446744073709551616 := by
   rcases Nat.eq_zero_or_pos x with h0 | h0
   ·rw [h0, Nat.zero_mul]; exact Nat.add_pos_right _ (Nat.pos_of_ne_zero (by decide))
   ·refine Nat.lt_of_mul_lt_mul_right (a := D) ?_
    refine Nat.lt_of_lt_of_le (a3 h0) ?_
    have e1 : x * A = K * S * 340282366920938463463374607431768211456 * D := by rw [hK, Nat.mul_assoc K, Nat.mul_comm K, Nat.mul_comm D, Nat.mul_right_comm]
    have e2 : (K * S * 340282366920938463463374607431768211456 + 18446744073709551616) * D = K * S * 340282366920938463463374607431768211456 * D + 18446744073709551616 * D := Nat.add_mul _ _ _
    have e3 : x * D ≤ 18446744073709551616 * D := Nat.mul_le_mul_right D (by omega)
    omega
  generalize hKS : K * S = k at *
  have hH : x * hi / 18446744073709551616 = k := by
   generalize x * pm = P at *
   generalize x * hi = Y at *
   generalize x * lo = Z at *
   clear a1 a2 a3 hK hn u1 u2 hdmM t1 t2 t3 t4
   generalize Y / 18446744073709551616 = H at *
   generalize Z / 18446744073709551616 = m2 at *
   omega
  have hSk : k % S = 0 := by rw [← hKS]; exact Nat.mul_mod_left _ _
  have hkS : k / S = K := by rw [← hKS]; exact Nat.mul_div_cancel _ (by omega)
  rw [hH, if_pos hSk]
  have hge : ¬ x * hi % 18446744073709551616 < x * lo / 18446744073709551616 := by
   rw [hH] at p2
   generalize x * pm = P at *
   generalize x * hi = Y at *
   generalize x * lo = Z at *
   clear a1 a2 a3 hK hn u1 u2 hdmM t1 t2 t3 t4
   generalize Z / 18446744073709551616 = m2 at *
   omega
  have hδ : ¬ 1 < (x * hi % 18446744073709551616 + 18446744073709551616 - x * lo / 18446744073709551616) % 18446744073709551616 := by
   have e : x * hi % 18446744073709551616 + 18446744073709551616 - x * lo / 18446744073709551616 = (x * hi % 18446744073709551616 - x * lo / 18446744073709551616) + 18446744073709551616 := by omega
   rw [e, Nat.add_mod_right]
   rw [hH] at p2
   generalize x * pm = P at *
   generalize x * hi = Y at *
   generalize x * lo = Z at *
   clear a1 a2 a3 hK hn u1 u2 hdmM t1 t2 t3 t4
   generalize Z / 18446744073709551616 = m2 at *
   omega
  simp only [if_neg hge, if_neg hδ]
  exact hkS
 ·
  have hx0 : 0 < x := by
   rcases Nat.eq_zero_or_pos x with h0 | h0
   ·subst h0; simp at hc1
   ·exact h0
  have n1 : x * A / (D * (S * 340282366920938463463374607431768211456)) = x * pm / 340282366920938463463374607431768211456 / S := by
   rw [← u1, Nat.div_eq_iff (Nat.mul_pos hD hM)]
   constructor
   ·have : x * pm / (S * 340282366920938463463374607431768211456) * (D * (S * 340282366920938463463374607431768211456)) + x * D ≤ x * pm * D := by
     have h1 : x * pm / (S * 340282366920938463463374607431768211456) * (D * (S * 340282366920938463463374607431768211456)) = (S * 340282366920938463463374607431768211456 * (x * pm / (S * 340282366920938463463374607431768211456))) * D := by
      rw [Nat.mul_comm D, ← Nat.mul_assoc, Nat.mul_comm (x * pm / _)]
     rw [h1, ← Nat.add_mul]
     exact Nat.mul_le_mul_right D (by omega)
    omega
   ·have : x * pm * D < (x * pm / (S * 340282366920938463463374607431768211456) + 1) * (D * (S * 340282366920938463463374607431768211456)) := by
     have h1 : (x * pm / (S * 340282366920938463463374607431768211456) + 1) * (D * (S * 340282366920938463463374607431768211456)) = (S * 340282366920938463463374607431768211456 * (x * pm / (S * 340282366920938463463374607431768211456)) + S * 340282366920938463463374607431768211456) * D := by
      rw [Nat.mul_comm D, ← Nat.mul_assoc, Nat.add_mul, Nat.one_mul, Nat.mul_comm (x * pm / _)]
     rw [h1]
     exact (Nat.mul_lt_mul_right hD).2 (by have := Nat.mod_lt (x * pm) hM; omega)
    have h2 : (x * pm / (S * 340282366920938463463374607431768211456) + 1) * (D * (S * 340282366920938463463374607431768211456)) = x * pm / (S * 340282366920938463463374607431768211456) * (D * (S * 340282366920938463463374607431768211456)) + D * (S * 340282366920938463463374607431768211456) := by rw [Nat.add_mul, Nat.one_mul]
    omega
  have n2 : ¬ x * A % (D * (S * 340282366920938463463374607431768211456)) = 0 := by
   intro h
   obtain ⟨K, hK⟩ := Nat.dvd_of_mod_eq_zero h
   have hK2 : x * A / (D * (S * 340282366920938463463374607431768211456)) = K := by rw [hK]; exact Nat.mul_div_cancel_left _ (Nat.mul_pos hD hM)
   rw [hK2, ← u1] at n1
   have : x * pm * D < (S * 340282366920938463463374607431768211456 * K + x) * D := by
    rw [Nat.add_mul]
    have : x * A = S * 340282366920938463463374607431768211456 * K * D := by rw [hK, Nat.mul_comm D, Nat.mul_right_comm]
    have := a3 hx0
    omega
   have := Nat.lt_of_mul_lt_mul_right this
   rw [n1] at this
   omega
  rw [if_neg n2, n1]
  rw [u2] at hc1 hc2
  clear a1 a2 a3 n1 n2 hdmM u1 u2
  generalize hP : x * pm = P at *
  generalize hY : x * hi = Y at *
  generalize hZ : x * lo = Z at *
  generalize hT : P / 340282366920938463463374607431768211456 = T at *
  generalize P % 340282366920938463463374607431768211456 = R at *
  generalize hH : Y / 18446744073709551616 = H at *
  generalize hm2 : Z / 18446744073709551616 = m2 at *
  generalize Y % 18446744073709551616 = mid at *
  generalize Z % 18446744073709551616 = low at *
  clear hP hY hZ hT hH hm2
  have hT2 : T = H ∨ T + 1 = H := by omega
  by_cases hHS : H % S = 0
  ·rw [if_pos hHS]
   by_cases hlt : mid < m2
   ·have hTH : T + 1 = H := by omega
    have hδ : 1 < (mid + 18446744073709551616 - m2) % 18446744073709551616 := by rw [Nat.mod_eq_of_lt (by omega)]; omega
    simp only [if_pos hlt, if_pos hδ]
    rw [show H - 1 = T from by omega]
   ·have hδe : (mid + 18446744073709551616 - m2) % 18446744073709551616 = mid - m2 := by
     rw [show mid + 18446744073709551616 - m2 = (mid - m2) + 18446744073709551616 from by omega, Nat.add_mod_right, Nat.mod_eq_of_lt (by omega)]
    simp only [if_neg hlt, hδe]
    by_cases hδ : 1 < mid - m2
    ·rw [if_pos hδ]
     have : T = H := by omega
     rw [this]
    ·exfalso
     rcases hT2 with h | h
     ·subst h
      rw [hHS] at hc1
      omega
     ·
      have hTS : T % S + 1 = S := by
       have h1 : (T + 1) % S = 0 := by rw [h]; exact hHS
       rcases Nat.lt_or_ge (T % S + 1) S with h2 | h2
       ·rw [Nat.add_mod, Nat.mod_eq_of_lt (show 1 < S by omega), Nat.mod_eq_of_lt h2] at h1
        omega
       ·omega
      generalize T % S = z at *
      omega
  ·rw [if_neg hHS]
   have hTS : T / S = H / S := by
    rcases hT2 with h | h
    ·rw [h]
    ·have h1 : (T + 1) % S ≠ 0 := by rw [h]; exact hHS
     rw [← h]
     have h2 : T % S + 1 < S := by
      rcases Nat.lt_or_ge (T % S + 1) S with h2 | h2
      ·exact h2
      ·exfalso
       have : T % S + 1 = S := by omega
       apply h1
       rw [← t3, Nat.add_assoc, this, ← Nat.mul_succ]
       exact Nat.mul_mod_right _ _
     rw [← t3, Nat.add_assoc, Nat.mul_add_div (by omega), Nat.mul_add_div (by omega), Nat.div_eq_of_lt t4, Nat.div_eq_of_lt h2]
   rw [hTS]
end Go.Proofs.YtckaoeloofbklaaGreatDoor
namespace Go.Proofs.YtckaoeloofbklaaGreatDoor
def certL (q M N zmin x0 : Nat) : Bool :=
 let r := x0 * q % M
 ((decide (18446744073709551616 * x0 < r * zmin) || (decide (18446744073709551616 < r) && decide (0 < zmin) && (decide (Nat.gcd x0 r = 1) || (decide (Nat.gcd (x0 / 2) (r / 2) = 1) && decide (2 * (x0 / 2) = x0) && decide (2 * (r / 2) = r) && decide (2 * (M / 2) = M) && decide (x0 / 2 * q % M = r / 2 + M / 2))))) && decide (x0 * 18446744073709551616 + r * N < M)) || (decide (18446744073709551616 * x0 < (M - r) * zmin) && decide (x0 * 18446744073709551616 + (M - r) * N < M))
theorem multiple' {a b z s : Nat} (h : Nat.gcd a b = 1) (hz : 0 < z) (he : a * s = z * b) : ∃ t, 0 < t ∧ z = t * a ∧ s = t * b := by
 obtain ⟨t, rfl⟩ : a ∣ z := Nat.Coprime.dvd_of_dvd_mul_right h ⟨s, he.symm⟩
 have ha : 0 < a := Nat.pos_of_mul_pos_right hz
 have ht : 0 < t := Nat.pos_of_mul_pos_left hz
 rw [Nat.mul_assoc] at he
 exact ⟨t, ht, Nat.mul_comm _ _, Nat.eq_of_mul_eq_mul_left ha he⟩
theorem multiple {a b z s : Nat} (h : Nat.gcd a b = 1) (hz : 0 < z) (he : a * s = z * b) : ∃ t, 0 < t ∧ s = t * b := by
 obtain ⟨t, h1, _, h2⟩ := multiple' h hz he
 exact ⟨t, h1, h2⟩
theorem lat {q M N zmin x0 : Nat} (hM : 0 < M) (h : certL q M N zmin x0 = true) {z : Nat} (hz : zmin ≤ z) (hzN : z < N) : 18446744073709551616 < z * q % M ∧ z * q % M + 18446744073709551616 ≤ M := by
 have hr := Nat.mod_lt (x0 * q) hM
 have hdr := Nat.div_add_mod (x0 * q) M
 have hs := Nat.mod_lt (z * q) hM
 have hds := Nat.div_add_mod (z * q) M
 have comm : z * (x0 * q) = x0 * (z * q) := Nat.mul_left_comm _ _ _
 generalize hk0 : x0 * q / M = k0 at *
 generalize hk : z * q / M = k at *
 unfold certL at h
 simp only [Bool.or_eq_true, Bool.and_eq_true, decide_eq_true_eq] at h
 generalize x0 * q % M = r at *
 generalize z * q % M = s at *
 have e1 : z * (x0 * q) = z * (M * k0) + z * r := by rw [← hdr, Nat.mul_add]
 have e2 : x0 * (z * q) = x0 * (M * k) + x0 * s := by rw [← hds, Nat.mul_add]
 have e3 : z * (M * k0) = M * (z * k0) := Nat.mul_left_comm _ _ _
 have e4 : x0 * (M * k) = M * (x0 * k) := Nat.mul_left_comm _ _ _
 have key : (M : Int) * ((z : Int) * k0 - x0 * k) = x0 * s - z * r := by
  have : ((M * (z * k0) + z * r : Nat) : Int) = ((M * (x0 * k) + x0 * s : Nat) : Int) := by rw [← e3, ← e4, ← e1, ← e2, comm]
  push_cast at this
  rw [Int.mul_sub]
  omega
 generalize ((z : Int) * k0 - x0 * k) = c at key
 have small : ∀ t : Int, (M : Int) * t < M → -(M : Int) < M * t → t = 0 := fun t h1 h2 => by
  have hM' : (0 : Int) < M := by omega
  have : t < 1 := Int.lt_of_mul_lt_mul_left (a := (M : Int)) (by rw [Int.mul_one]; exact h1) (by omega)
  have : -1 < t := Int.lt_of_mul_lt_mul_left (a := (M : Int)) (by rw [Int.mul_neg, Int.mul_one]; exact h2) (by omega)
  omega
 have hzr : ∀ a : Nat, z * a ≤ a * N := fun a => by rw [Nat.mul_comm]; exact Nat.mul_le_mul_left a (by omega)
 have hzl : ∀ a : Nat, a * zmin ≤ z * a := fun a => by rw [Nat.mul_comm z]; exact Nat.mul_le_mul_left a hz
 have zM : z * (M - r) = z * M - z * r := Nat.mul_sub _ _ _
 have zMr : z * r ≤ z * M := Nat.mul_le_mul_left z (by omega)
 have xM : x0 * (M - s) = x0 * M - x0 * s := Nat.mul_sub _ _ _
 have xMs : x0 * s ≤ x0 * M := Nat.mul_le_mul_left x0 (by omega)
 have keyZ : ∀ d : Int, (M : Int) * (c + d) = x0 * s - z * r + M * d := fun d => by rw [Int.mul_add, key]
 rcases h with ⟨h1, h2⟩ | ⟨h1, h2⟩
 ·
  have g1 := hzr r
  have g2 := hzl r
  have hz0 : 0 < z := by
   rcases h1 with h1 | h1
   ·rcases Nat.eq_zero_or_pos z with h | h
    ·subst h
     have : zmin = 0 := by omega
     subst this
     omega
    ·exact h
   ·omega
  have hr0 : 0 < r := by
   rcases h1 with h1 | h1
   ·rcases Nat.eq_zero_or_pos r with h | h
    ·subst h; omega
    ·exact h
   ·omega
  have hzr0 : 0 < z * r := Nat.mul_pos hz0 hr0
  constructor
  ·
   apply Nat.lt_of_not_le
   intro hs1
   have g3 : x0 * s ≤ x0 * 18446744073709551616 := Nat.mul_le_mul_left x0 hs1
   have hc : c = 0 := small c (by rw [key]; omega) (by rw [key]; omega)
   rw [hc, Int.mul_zero] at key
   rcases h1 with h1 | ⟨⟨h1, _⟩, h3⟩
   ·rw [Nat.mul_comm 18446744073709551616] at h1
    omega
   ·have he : x0 * s = z * r := by omega
    rcases h3 with h3 | ⟨⟨⟨⟨h3, h4⟩, h5⟩, h6⟩, h7⟩
    ·obtain ⟨t, ht, hs⟩ := multiple h3 hz0 he
     have : 1 * r ≤ t * r := Nat.mul_le_mul_right r ht
     omega
    ·generalize x0 / 2 = x1 at *
     generalize r / 2 = r1 at *
     generalize M / 2 = M1 at *
     have he1 : x1 * s = z * r1 := by
      rw [← h4, ← h5] at he
      have : 2 * (x1 * s) = 2 * (z * r1) := by rw [← Nat.mul_assoc, he, Nat.mul_left_comm]
      omega
     obtain ⟨t, ht, hs⟩ := multiple h3 hz0 he1
     obtain ⟨t', ht', hz'⟩ := multiple' h3 hz0 he1
     have h8 := Nat.div_add_mod (x1 * q) M
     rw [h7] at h8
     generalize x1 * q / M = k1 at h8
     have h9 : t = t' := by
      have hr1 : 0 < r1 := by omega
      exact Nat.eq_of_mul_eq_mul_right hr1 (hs.symm.trans hz'.2)
     subst h9
     have h10 : M * k + s = t * (M * k1) + t * r1 + t * M1 := by
      rw [hds, hz'.1, Nat.mul_assoc, ← h8, Nat.mul_add, Nat.mul_add, Nat.add_assoc]
     have h11 : M * k = t * (M * k1) + t * M1 := by omega
     have h12 : M1 * (2 * k) = M1 * (2 * (t * k1) + t) := by
      have e1 : M * k = M1 * (2 * k) := by rw [← h6, Nat.mul_comm 2, Nat.mul_assoc]
      have e2 : t * (M * k1) = M1 * (2 * (t * k1)) := by rw [← h6, Nat.mul_comm 2, Nat.mul_left_comm, Nat.mul_assoc]
      have e3 : t * M1 = M1 * t := Nat.mul_comm _ _
      rw [Nat.mul_add, ← e1, ← e2, ← e3, h11]
     have h13 := Nat.eq_of_mul_eq_mul_left (show 0 < M1 by omega) h12
     have : 2 * r1 ≤ t * r1 := Nat.mul_le_mul_right r1 (by omega)
     omega
  ·apply Nat.le_of_not_lt
   intro hs1
   have g3 : x0 * (M - s) ≤ x0 * 18446744073709551616 := Nat.mul_le_mul_left x0 (by omega)
   have k2 := keyZ (-(x0 : Int))
   have e5 : (M : Int) * (-(x0 : Int)) = -((x0 * M : Nat) : Int) := by push_cast; rw [Int.mul_neg, Int.mul_comm]
   rw [e5] at k2
   have hc : c + -(x0 : Int) = 0 := small _ (by rw [k2]; omega) (by rw [k2]; omega)
   rw [hc, Int.mul_zero] at k2
   omega
 ·have g1 := hzr (M - r)
  have g2 := hzl (M - r)
  constructor
  ·apply Nat.lt_of_not_le
   intro hs1
   have g3 : x0 * s ≤ x0 * 18446744073709551616 := Nat.mul_le_mul_left x0 hs1
   have k2 := keyZ (z : Int)
   have e5 : (M : Int) * (z : Int) = ((z * M : Nat) : Int) := by push_cast; rw [Int.mul_comm]
   rw [e5] at k2
   have hc : c + (z : Int) = 0 := small _ (by rw [k2]; omega) (by rw [k2]; omega)
   rw [hc, Int.mul_zero] at k2
   have : x0 * s = 0 ∧ z * r = z * M := by omega
   rw [Nat.mul_comm 18446744073709551616] at h1
   omega
  ·apply Nat.le_of_not_lt
   intro hs1
   have g3 : x0 * (M - s) ≤ x0 * 18446744073709551616 := Nat.mul_le_mul_left x0 (by omega)
   have k2 := keyZ ((z : Int) - x0)
   have e5 : (M : Int) * ((z : Int) - x0) = ((z * M : Nat) : Int) - ((x0 * M : Nat) : Int) := by push_cast; rw [Int.mul_sub, Int.mul_comm, Int.mul_comm (M : Int) x0]
   rw [e5] at k2
   have hc : c + ((z : Int) - x0) = 0 := small _ (by rw [k2]; omega) (by rw [k2]; omega)
   rw [hc, Int.mul_zero] at k2
   have : x0 * (M - s) = z * (M - r) := by omega
   rw [Nat.mul_comm 18446744073709551616] at h1
   omega
def certS (A D M g : Nat) : Bool := decide (A % 2 ^ g = 0) && decide (D * M % 2 ^ g = 0) && decide (D * (2 * 18446744073709551616) ≤ 2 ^ g)
theorem near_exact {x pm A D M M' g : Nat} (hM' : 0 < M') (hMM : M' % M = 0) (hx : x < 18446744073709551616) (hA1 : A ≤ pm * D) (hA2 : pm * D < A + D) (h : certS A D M g = true) (hn : x * pm % M' ≤ 18446744073709551616 ∨ M' < x * pm % M' + 18446744073709551616) : x * A % (D * M') = 0 := by
 unfold certS at h
 simp only [Bool.and_eq_true, decide_eq_true_eq] at h
 obtain ⟨⟨h1, h2⟩, h3⟩ := h
 have a1 : x * A ≤ x * pm * D := by rw [Nat.mul_assoc]; exact Nat.mul_le_mul_left x hA1
 have a2 : x * pm * D ≤ x * A + x * D := by
  rw [Nat.mul_assoc, ← Nat.mul_add]; exact Nat.mul_le_mul_left x (Nat.le_of_lt hA2)
 have a4 : x * D ≤ D * 18446744073709551616 := by rw [Nat.mul_comm]; exact Nat.mul_le_mul_left D (by omega)
 have hlt := Nat.mod_lt (x * pm) hM'
 have hdm := Nat.div_add_mod (x * pm) M'
 obtain ⟨a, ha⟩ := Nat.dvd_of_mod_eq_zero h1
 obtain ⟨m, hm⟩ := Nat.dvd_of_mod_eq_zero h2
 obtain ⟨j, hj⟩ := Nat.dvd_of_mod_eq_zero hMM
 have hD : 0 < D := by
  rcases Nat.eq_zero_or_pos D with h | h
  ·subst h; omega
  ·exact h
 obtain ⟨K, hK1, hK2⟩ : ∃ K, x * pm ≤ M' * K + 18446744073709551616 ∧ M' * K ≤ x * pm + 18446744073709551616 ∧ True := by
  rcases hn with h | h
  ·exact ⟨x * pm / M', by omega, by omega, trivial⟩
  ·refine ⟨x * pm / M' + 1, ?_, ?_, trivial⟩
   ·rw [Nat.mul_add]; omega
   ·rw [Nat.mul_add]; omega
 have hK2 := hK2.1
 have b1 : x * A = 2 ^ g * (a * x) := by rw [ha, Nat.mul_left_comm, Nat.mul_comm x]
 have b2 : D * M' * K = 2 ^ g * (m * j * K) := by rw [hj, ← Nat.mul_assoc D, hm, Nat.mul_assoc, Nat.mul_assoc, ← Nat.mul_assoc m]
 have c1 : x * pm * D ≤ D * M' * K + D * 18446744073709551616 := by
  have := Nat.mul_le_mul_right D hK1
  rw [Nat.add_mul, Nat.mul_comm (M' * K), ← Nat.mul_assoc, Nat.mul_comm 18446744073709551616] at this
  exact this
 have c2 : D * M' * K ≤ x * pm * D + D * 18446744073709551616 := by
  have := Nat.mul_le_mul_right D hK2
  rw [Nat.add_mul, Nat.mul_comm (M' * K), ← Nat.mul_assoc, Nat.mul_comm 18446744073709551616] at this
  exact this
 have heq : a * x = m * j * K := by
  have hg : 0 < 2 ^ g := Nat.two_pow_pos g
  have hDW : D * (2 * 18446744073709551616) = D * 18446744073709551616 + D * 18446744073709551616 := by rw [← Nat.mul_add, Nat.two_mul]
  rcases Nat.lt_trichotomy (a * x) (m * j * K) with h | h | h
  ·exfalso
   have := Nat.mul_le_mul_left (2 ^ g) (show a * x + 1 ≤ m * j * K from h)
   rw [← b2, Nat.mul_add, ← b1, Nat.mul_one] at this
   by_cases hx0 : x = 0
   ·subst hx0
    simp only [Nat.zero_mul] at *
    have hDW1 : D ≤ D * 18446744073709551616 := Nat.le_mul_of_pos_right D (by decide)
    omega
   ·have a3 : x * pm * D < x * A + x * D := by
     rw [Nat.mul_assoc, ← Nat.mul_add]; exact (Nat.mul_lt_mul_left (by omega)).2 hA2
    omega
  ·exact h
  ·exfalso
   have := Nat.mul_le_mul_left (2 ^ g) (show m * j * K + 1 ≤ a * x from h)
   rw [← b1, Nat.mul_add, ← b2, Nat.mul_one] at this
   have hDW1 : 0 < D * 18446744073709551616 := Nat.mul_pos hD (by decide)
   omega
 rw [b1, heq, ← b2]
 exact Nat.mul_mod_right _ _
end Go.Proofs.YtckaoeloofbklaaGreatDoor
namespace Go.Proofs.YtckaoeloofbklaaGreatDoor
def lpN (p : Int) : Int := p * 108853 / 32768
def AN (p : Int) : Nat := 10 ^ p.toNat * 2 ^ (127 - lpN p).toNat
def DN (p : Int) : Nat := 10 ^ (-p).toNat * 2 ^ (lpN p - 127).toNat
def pmN (p : Int) : Nat := (AN p + DN p - 1) / DN p
theorem DN_pos (p : Int) : 0 < DN p := Nat.mul_pos (Nat.pow_pos (by decide)) (Nat.two_pow_pos _)
theorem pmN_lo (p : Int) : AN p ≤ pmN p * DN p := by
 unfold pmN
 have h := Nat.div_add_mod (AN p + DN p - 1) (DN p)
 have h2 := Nat.mod_lt (AN p + DN p - 1) (DN_pos p)
 have h3 := DN_pos p
 rw [Nat.mul_comm] at h
 omega
theorem pmN_hi (p : Int) : pmN p * DN p < AN p + DN p := by
 unfold pmN
 have h := Nat.div_mul_le_self (AN p + DN p - 1) (DN p)
 have h3 := DN_pos p
 omega
def tabOK (p : Int) (c1 c2 : Nat) : Bool :=
 decide (2 ^ 127 * DN p ≤ AN p) && decide (AN p < 2 ^ 128 * DN p) &&
 if -27 ≤ p ∧ p ≤ 26 then certS (AN p) (DN p) (2 ^ 5 * 340282366920938463463374607431768211456) (65 + (-lpN p).toNat)
 else certL (pmN p) (2 ^ 8 * 340282366920938463463374607431768211456) 18446744073709551616 (2 ^ 63) c1 && certL (pmN p * 512) (2 ^ 5 * 340282366920938463463374607431768211456) (2 ^ 55) (2 ^ 54 - 4) c2
def tabAll : Int → List (Nat × Nat) → Bool
 | _, [] => true
 | p, c :: l => tabOK p c.1 c.2 && tabAll (p + 1) l
theorem tabAll_get : ∀ (l : List (Nat × Nat)) (p : Int), tabAll p l = true → ∀ k : Nat, k < l.length → ∃ c1 c2, tabOK (p + k) c1 c2 = true
 | [], _, _, _, h => by simp at h
 | c :: l, p, h, 0, _ => by
  simp only [tabAll, Bool.and_eq_true] at h
  exact ⟨c.1, c.2, by simpa using h.1⟩
 | c :: l, p, h, k + 1, hk => by
  simp only [tabAll, Bool.and_eq_true] at h
  obtain ⟨c1, c2, h1⟩ := tabAll_get l (p + 1) h.2 k (by simpa using hk)
  exact ⟨c1, c2, by rw [show p + ((k + 1 : Nat) : Int) = p + 1 + (k : Int) from by push_cast; omega]; exact h1⟩
end Go.Proofs.YtckaoeloofbklaaGreatDoor
