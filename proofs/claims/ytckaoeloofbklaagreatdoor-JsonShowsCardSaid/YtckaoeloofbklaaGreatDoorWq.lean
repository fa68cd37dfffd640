/- Joined texts: Oa Ob Oc Si. Each begins with its own remark. -/
import Derived.Test.YtckaoeloofbklaaGreatDoorWe
import Derived.Test.YtckaoeloofbklaaGreatDoorWb
import Derived.Laws.BytesArg
import Derived.Test.YtckaoeloofbklaaGreatDoorWo
import Derived.Test.YtckaoeloofbklaaGreatDoorWh
set_option maxRecDepth 100000
set_option maxHeartbeats 8000000
namespace Go.Proofs.YtckaoeloofbklaaGreatDoor
open Go Go.RowKit Go.Lib
theorem longR_any (c : Nat) (w : World) : Calls Tryz.prog 90 #[.int .u8 (c : Int)] w fun e w' => e = .returned (.int .i64 (longN c : Nat)) ∧ w' = w := by
 have hcs : c < 128 ∨ (128 ≤ c ∧ c < 194) ∨ (194 ≤ c ∧ c < 224) ∨ (224 ≤ c ∧ c < 240) ∨ (240 ≤ c ∧ c < 245) ∨ 245 ≤ c := by omega
 rcases hcs with h | h | h | h | h | h
 ·have hv : longN c = 1 := by unfold longN; rw [if_pos h]
  have g1 : (c : Int) < 128 := by omega
  rw [hv]
  go_enter Tryz.func90, Tryz.ntmps90
  go_wp2_with fail
  go_ret
  exact ⟨rfl, rfl⟩
 ·have hv : longN c = 0 := by unfold longN; rw [if_neg (by omega), if_neg (by omega), if_neg (by omega), if_neg (by omega)]
  have g1 : ¬ (c : Int) < 128 := by omega
  have g2 : ¬ (194 : Int) ≤ c := by omega
  have g3 : ¬ (224 : Int) ≤ c := by omega
  have g4 : ¬ (240 : Int) ≤ c := by omega
  rw [hv]
  go_enter Tryz.func90, Tryz.ntmps90
  go_wp2_with fail
  go_ret
  exact ⟨rfl, rfl⟩
 ·have hv : longN c = 2 := by unfold longN; rw [if_neg (by omega), if_pos (by omega)]
  have g1 : ¬ (c : Int) < 128 := by omega
  have g2 : (194 : Int) ≤ c := by omega
  have g3 : (c : Int) < 224 := by omega
  rw [hv]
  go_enter Tryz.func90, Tryz.ntmps90
  go_wp2_with fail
  go_ret
  exact ⟨rfl, rfl⟩
 ·have hv : longN c = 3 := by unfold longN; rw [if_neg (by omega), if_neg (by omega), if_pos (by omega)]
  have g1 : ¬ (c : Int) < 128 := by omega
  have g2 : (194 : Int) ≤ c := by omega
  have g3 : ¬ (c : Int) < 224 := by omega
  have g4 : (224 : Int) ≤ c := by omega
  have g5 : (c : Int) < 240 := by omega
  rw [hv]
  go_enter Tryz.func90, Tryz.ntmps90
  go_wp2_with fail
  go_ret
  exact ⟨rfl, rfl⟩
 ·have hv : longN c = 4 := by unfold longN; rw [if_neg (by omega), if_neg (by omega), if_neg (by omega), if_pos (by omega)]
  have g1 : ¬ (c : Int) < 128 := by omega
  have g2 : (194 : Int) ≤ c := by omega
  have g3 : ¬ (c : Int) < 224 := by omega
  have g4 : (224 : Int) ≤ c := by omega
  have g5 : ¬ (c : Int) < 240 := by omega
  have g6 : (240 : Int) ≤ c := by omega
  have g7 : (c : Int) < 245 := by omega
  rw [hv]
  go_enter Tryz.func90, Tryz.ntmps90
  go_wp2_with fail
  go_ret
  exact ⟨rfl, rfl⟩
 ·have hv : longN c = 0 := by unfold longN; rw [if_neg (by omega), if_neg (by omega), if_neg (by omega), if_neg (by omega)]
  have g1 : ¬ (c : Int) < 128 := by omega
  have g2 : (194 : Int) ≤ c := by omega
  have g3 : ¬ (c : Int) < 224 := by omega
  have g4 : (224 : Int) ≤ c := by omega
  have g5 : ¬ (c : Int) < 240 := by omega
  have g6 : (240 : Int) ≤ c := by omega
  have g7 : ¬ (c : Int) < 245 := by omega
  rw [hv]
  go_enter Tryz.func90, Tryz.ntmps90
  go_wp2_with fail
  go_ret
  exact ⟨rfl, rfl⟩
def LdOk (l : List UInt8) (n : Nat) : Prop := longN (l.getD 0 0).toNat = n ∧ ∀ i, 1 ≤ i → i < l.length → midN (l.getD i 0) = true
theorem hd_lt (c n : Nat) (h : longN c = n) (h2 : 2 ≤ n) : hdN c n < 64 ∧ (c : Int) - 256 + ((if n = 2 then 64 else if n = 3 then 32 else 16 : Nat) : Int) = (hdN c n : Nat) := by
 have h4 : n = 2 ∨ n = 3 ∨ n = 4 := by
  unfold longN at h
  repeat' split at h
  all_goals omega
 rcases h4 with rfl | rfl | rfl
 ·obtain ⟨g1, g2, _⟩ := u1_2 c h
  unfold hdN
  simp only [if_true]
  omega
 ·obtain ⟨g1, g2, _⟩ := u1_3 c h
  unfold hdN
  simp only [show ¬ (3 : Nat) = 2 by decide, if_false, if_true]
  omega
 ·obtain ⟨g1, g2, _⟩ := u1_4 c h
  unfold hdN
  simp only [show ¬ (4 : Nat) = 2 by decide, show ¬ (4 : Nat) = 3 by decide, if_false]
  omega
theorem bnd_lt (l : List UInt8) (n : Nat) (h : LdOk l n) (h2 : 2 ≤ n) : ∀ i, (bndI l n i).1 < 64 ^ i ∧ (bndI l n i).2 < 64 ^ i
 | 0 => by simp [bndI]
 | i + 1 => by
  have ih := bnd_lt l n h h2 i
  have hd := (hd_lt _ n h.1 h2).1
  unfold bndI
  by_cases h0 : i = 0
  ·subst h0
   simp only [if_true]
   omega
  ·rw [if_neg h0]
   split
   ·rename_i hi
    have hm := mid_is (h.2 i (by omega) hi)
    rw [Nat.pow_succ]
    omega
   ·rw [Nat.pow_succ]
    simp only
    omega
theorem at_get (b : ByteArray) (i : Nat) (h : i < b.size) : b[i] = b.data.toList.getD i 0 := by
 rw [List.getD_eq_getElem?_getD, List.getElem?_eq_getElem (show i < b.data.toList.length from h)]
 rfl
theorem cell_agg5 {w : World} {n : Nat} {v0 v1 v2 v3 v4 : Value} {t : TypeId} (h : w.heap[n]? = some (.cells #[v0, v1, v2, v3, v4] t (0, 0))) :
  w.cell? ⟨n, 0, none⟩ = some v0 ∧ w.cell? ⟨n, 1, none⟩ = some v1 ∧ w.cell? ⟨n, 2, none⟩ = some v2 ∧ w.cell? ⟨n, 3, none⟩ = some v3 ∧ w.cell? ⟨n, 4, none⟩ = some v4 :=
 ⟨by rw [cell_of_row w _ 0 _ _ _ h]; rfl, by rw [cell_of_row w _ 1 _ _ _ h]; rfl, by rw [cell_of_row w _ 2 _ _ _ h]; rfl, by rw [cell_of_row w _ 3 _ _ _ h]; rfl, by rw [cell_of_row w _ 4 _ _ _ h]; rfl⟩
theorem bounds_any (b : ByteArray) (n : Nat) (w : World) (h2 : 2 ≤ n) (h4 : n ≤ 4) (hb : 1 ≤ b.size) (hl : LdOk b.data.toList n) :
  Calls Tryz.prog 91 #[.string b, .int .i64 (n : Int)] w fun e w' => e = .returned (.tuple #[.int .i64 ((bndI b.data.toList n n).1 : Nat), .int .i64 ((bndI b.data.toList n n).2 : Nat)]) ∧ Below w.heap.size w w' := by
 obtain ⟨l, hle⟩ : ∃ l, l = b.data.toList := ⟨_, rfl⟩
 have hls : l.length = b.size := by rw [hle]; simp
 have hix : ∀ i (h : i < b.size), b[i] = l.getD i 0 := fun i h => by rw [hle]; exact at_get b i h
 rw [← hle] at hl ⊢
 have HL := Lib.hid hl
 have HIX := Lib.hid hix
 clear hle hix hl
 go_enter Tryz.func91, Tryz.ntmps91
 go_wp2_with fail
 go_loopg [6, 7, 8, 9, 10] n (fun g s6 s7 s8 _ _ wr => ∃ i : Nat, i + g = n ∧ s8 = .int .i64 i ∧ s6 = .int .i64 ((bndI l n i).1 : Nat) ∧ s7 = .int .i64 ((bndI l n i).2 : Nat) ∧ Below w.heap.size w wr)
 case atStart => exact ⟨0, by omega, rfl, rfl, rfl, Below.refl _ _⟩
 case round =>
  obtain ⟨i, hi, rfl, rfl, rfl, hbw⟩ := hrel
  have HBW := Lib.hid hbw
  clear hbw
  by_cases hin : i < n
  ·have hin2 : (i : Int) < (n : Int) := by omega
   have hlt := bnd_lt l n HL.out h2 i
   have hpw : 64 ^ i ≤ 262144 := Nat.le_trans (Nat.pow_le_pow_right (by decide) (show i ≤ 3 by omega)) (by decide)
   obtain ⟨X, hX⟩ : ∃ X, X = (bndI l n i).1 := ⟨_, rfl⟩
   obtain ⟨Y, hY⟩ : ∃ Y, Y = (bndI l n i).2 := ⟨_, rfl⟩
   rw [← hX, ← hY] at hlt ⊢
   have hXb : X ≤ 262144 := by omega
   have hYb : Y ≤ 262144 := by omega
   by_cases h0 : i = 0
   ·subst h0
    have hX0 : X = 0 := hX
    have hY0 : Y = 0 := hY
    have hd := hd_lt _ n HL.out.1 h2
    have hb1 : bndI l n 1 = (hdN (l.getD 0 0).toNat n, hdN (l.getD 0 0).toNat n) := rfl
    have h00 := HIX.out 0 hb
    generalize l.getD 0 0 = c at *
    generalize hdN c.toNat n = H at *
    obtain ⟨T, hT⟩ : ∃ T : Nat, T = if n = 2 then 64 else if n = 3 then 32 else 16 := ⟨_, rfl⟩
    rw [← hT] at hd
    obtain ⟨hd1, hd2⟩ := hd
    have hcl := c.toNat_lt
    have hTl : T ≤ 64 := by rw [hT]; split <;> (try split) <;> omega
    have hn1 := heap_alloc_new wr (.cells #[.int .i64 0, .int .i64 0, .int .i64 64, .int .i64 32, .int .i64 16] 3)
    have hcn : (wr.alloc (.cells #[.int .i64 0, .int .i64 0, .int .i64 64, .int .i64 32, .int .i64 16] 3)).cell? ⟨wr.heap.size, n, none⟩ = some (.int .i64 T) := by
     obtain ⟨x0, x1, x2, x3, x4⟩ := cell_agg5 hn1
     have : n = 2 ∨ n = 3 ∨ n = 4 := by omega
     rcases this with rfl | rfl | rfl
     ·rw [hT]; exact x2
     ·rw [hT]; exact x3
     ·rw [hT]; exact x4
    have hsz : (wr.alloc (.cells #[.int .i64 0, .int .i64 0, .int .i64 64, .int .i64 32, .int .i64 16] 3)).heap.size = wr.heap.size + 1 := by simp
    have HB1 := Lib.hid (HBW.out.alloc HBW.out.size (.cells #[.int .i64 0, .int .i64 0, .int .i64 64, .int .i64 32, .int .i64 16] 3))
    have HH := Lib.hid hb1
    have hn5 : (n : Int) < 5 := by omega
    subst hX0 hY0
    clear hX hY hlt hpw hT hn1 hb1
    go_wp2_with fail
    go_region
    go_wp2_with fail
    go_roundg (gk - 1)
    case measure => omega
    case rel => exact ⟨1, by omega, by go_num, by rw [HH.out], by rw [HH.out], HB1.out.drew⟩
   ·have e0 : ((i : Int) == 0) = false := by rw [beq_eq_false_iff_ne]; omega
    have g0 : ¬ (i : Int) = 0 := by omega
    by_cases hil : i < b.size
    ·have hil2 : (i : Int) < (b.size : Int) := by omega
     have hii := HIX.out i hil
     have hm := mid_is (HL.out.2 i (by omega) (by omega))
     have hs : bndI l n (i + 1) = ((bndI l n i).1 * 64 + ((l.getD i 0).toNat - 128), (bndI l n i).2 * 64 + ((l.getD i 0).toNat - 128)) := by
      conv => lhs; unfold bndI
      rw [if_neg h0, if_pos (by omega)]
     rw [← hX, ← hY] at hs
     generalize l.getD i 0 = c at *
     have HH := Lib.hid hs
     clear hX hY hlt hpw hs
     go_wp2_with fail
     go_roundg (gk - 1)
     case measure => omega
     case rel => exact ⟨i + 1, by omega, by go_num, by rw [HH.out]; go_num, by rw [HH.out]; go_num, HBW.out⟩
    ·have hil2 : ¬ (i : Int) < (b.size : Int) := by omega
     have hs : bndI l n (i + 1) = ((bndI l n i).1 * 64, (bndI l n i).2 * 64 + 63) := by
      conv => lhs; unfold bndI
      rw [if_neg h0, if_neg (by omega)]
     rw [← hX, ← hY] at hs
     have HH := Lib.hid hs
     clear hX hY hlt hpw hs
     go_wp2_with fail
     go_roundg (gk - 1)
     case measure => omega
     case rel => exact ⟨i + 1, by omega, by go_num, by rw [HH.out]; go_num, by rw [HH.out]; go_num, HBW.out⟩
  ·obtain rfl : i = n := by omega
   clear hin
   have hnn : ¬ (i : Int) < (i : Int) := by omega
   go_wp2_with fail
   go_ret2
   exact ⟨rfl, HBW.out⟩
theorem all_getD (l : List UInt8) (h : ∀ i, 1 ≤ i → i < l.length → midN (l.getD i 0) = true) : (l.drop 1).all midN = true := by
 rw [List.all_eq_true]
 intro x hx
 obtain ⟨j, hj, rfl⟩ := List.mem_iff_getElem.1 hx
 have hj2 : j + 1 < l.length := by simp at hj; omega
 have := h (j + 1) (by omega) hj2
 rw [List.getD_eq_getElem?_getD, List.getElem?_eq_getElem hj2] at this
 simp only [List.getElem_drop]
 have e : 1 + j = j + 1 := Nat.add_comm _ _
 simpa [e] using this
theorem all_getD_no (l : List UInt8) (i : Nat) (h1 : 1 ≤ i) (h2 : i < l.length) (h : midN (l.getD i 0) = false) : (l.drop 1).all midN = false := by
 rw [List.all_eq_false]
 refine ⟨l.getD i 0, ?_, by rw [h]; decide⟩
 rw [List.mem_iff_getElem]
 refine ⟨i - 1, by simp; omega, ?_⟩
 rw [List.getD_eq_getElem?_getD, List.getElem?_eq_getElem h2]
 simp only [List.getElem_drop, Option.getD_some]
 congr 1
 omega
theorem begins_any (b : ByteArray) (w : World) (hb : 1 ≤ b.size) (hbm : b.size ≤ 1000) :
  Calls Tryz.prog 89 #[.string b] w fun e w' => e = .returned (.bool (begN b.data.toList)) ∧ Below w.heap.size w w' := by
 obtain ⟨l, hle⟩ : ∃ l, l = b.data.toList := ⟨_, rfl⟩
 have hls : l.length = b.size := by rw [hle]; simp
 have hix : ∀ i (h : i < b.size), b[i] = l.getD i 0 := fun i h => by rw [hle]; exact at_get b i h
 have hbd := fun (n : Nat) (W : World) h2 h4 hl => bounds_any b n W h2 h4 hb hl
 rw [← hle] at hbd ⊢
 have HBD := Lib.hid hbd
 have HIX := Lib.hid hix
 have hl0 := longR_any (l.getD 0 0).toNat w
 have h00 := hix 0 hb
 obtain ⟨n, hn⟩ : ∃ n, n = longN (l.getD 0 0).toNat := ⟨_, rfl⟩
 have hn4 : n ≤ 4 := by rw [hn]; exact long_4 _
 rw [← hn] at hl0
 have hR : begN l = if n = 0 ∨ n < l.length then false else if !(l.drop 1).all midN then false else if n = 1 then true else hasN n (bndI l n n).1 (bndI l n n).2 := by
  unfold begN
  rw [← hn]
 generalize begN l = R at *
 have HR := Lib.hid hR
 have HN := Lib.hid hn
 have HL0 := Lib.hid hl0
 clear hle hix hbd hl0 hn hR
 obtain ⟨c0, hc0⟩ : ∃ c0, c0 = l.getD 0 0 := ⟨_, rfl⟩
 rw [← hc0] at h00 HL0
 have HC0 := Lib.hid hc0
 clear hc0
 go_enter Tryz.func89, Tryz.ntmps89
 go_wp2_with fail
 refine HL0.out.mono ?_
 rintro e w1 ⟨rfl, rfl⟩
 clear HL0
 by_cases h0 : n = 0
 ·subst h0
  have hr0 : R = false := by rw [HR.out, if_pos (.inl rfl)]
  subst hr0
  clear HR
  go_wp2_with fail
  go_ret
  exact ⟨rfl, Below.refl _ _⟩
 have e0 : ((n : Int) == 0) = false := by rw [beq_eq_false_iff_ne]; omega
 by_cases hlen : n < l.length
 ·have hlen2 : (n : Int) < (b.size : Int) := by omega
  have hr0 : R = false := by rw [HR.out, if_pos (.inr hlen)]
  subst hr0
  clear HR
  go_wp2_with fail
  go_ret
  exact ⟨rfl, Below.refl _ _⟩
 have hlen2 : ¬ (n : Int) < (b.size : Int) := by omega
 have hlen3 : ¬ n < b.size := by omega
 have hR2 := HR.out
 rw [if_neg (show ¬ (n = 0 ∨ n < l.length) by omega)] at hR2
 have HR2 := Lib.hid hR2
 clear hR2 HR
 go_wp2_with fail
 go_loopg [4] (b.size - 1) (fun g s4 wr => ∃ i : Nat, i + g = b.size ∧ s4 = .int .i64 i ∧ 1 ≤ i ∧ (∀ j, 1 ≤ j → j < i → midN (l.getD j 0) = true) ∧ wr = w1)
 case atStart => exact ⟨1, by omega, rfl, Nat.le_refl _, fun j h1 h2 => by omega, rfl⟩
 case round =>
  obtain ⟨i, hi, rfl, hi1, hm, rfl⟩ := hrel
  have HM := Lib.hid hm
  clear hm
  by_cases hil : i < b.size
  ·have hil2 : (i : Int) < (b.size : Int) := by omega
   have hii := HIX.out i hil
   cases hmi : midN (l.getD i 0) with
   | false =>
    have hR3 := HR2.out
    rw [all_getD_no l i hi1 (by omega) hmi] at hR3
    have hr := of_decide_eq_false hmi
    have hr0 : R = false := by rw [hR3]; rfl
    subst hr0
    clear hR3 HR2
    generalize l.getD i 0 = c at *
    by_cases h128 : c.toNat < 128
    ·have g1 : (c.toNat : Int) < 128 := by omega
     go_wp2_with fail
     go_ret
     exact ⟨rfl, Below.refl _ _⟩
    ·have g1 : ¬ (c.toNat : Int) < 128 := by omega
     have g2 : (191 : Int) < (c.toNat : Int) := by omega
     go_wp2_with fail
     go_ret
     exact ⟨rfl, Below.refl _ _⟩
   | true =>
    have HMI := Lib.hid hmi
    have hr := mid_is hmi
    clear hmi
    generalize hc : l.getD i 0 = c at *
    have HC := Lib.hid hc
    clear hc
    have g1 : ¬ (c.toNat : Int) < 128 := by omega
    have g2 : ¬ (191 : Int) < (c.toNat : Int) := by omega
    go_wp2_with fail
    go_roundg (gk - 1)
    case measure => omega
    case rel =>
     refine ⟨i + 1, by omega, by go_num, by omega, fun j h1 h2 => ?_, rfl⟩
     rcases Nat.lt_or_ge j i with g | g
     ·exact HM.out j h1 g
     ·obtain rfl : j = i := by omega
      rw [HC.out]; exact HMI.out
  ·have hil2 : ¬ (i : Int) < (b.size : Int) := by omega
   have hall := all_getD l fun j h1 h2 => HM.out j h1 (by omega)
   have hR3 := HR2.out
   rw [hall] at hR3
   simp only [Bool.not_true, Bool.false_eq_true, if_false] at hR3
   have HR3 := Lib.hid hR3
   clear hR3 HR2
   have hlo : LdOk l n := ⟨HN.out.symm, fun j h1 h2 => HM.out j h1 (by omega)⟩
   by_cases h1 : n = 1
   ·subst h1
    have hr0 : R = true := by rw [HR3.out, if_pos rfl]
    subst hr0
    clear hall hlo HR3
    go_wp2_with fail
    go_ret
    exact ⟨rfl, Below.refl _ _⟩
   ·have hR4 := HR3.out
    rw [if_neg h1] at hR4
    have HR4 := Lib.hid hR4
    clear hR4 HR3
    have e1 : ((n : Int) == 1) = false := by rw [beq_eq_false_iff_ne]; omega
    have HB := Lib.hid (HBD.out n wr (by omega) hn4 hlo)
    have hlt := bnd_lt l n hlo (by omega) n
    have hpw : 64 ^ n ≤ 16777216 := Nat.le_trans (Nat.pow_le_pow_right (by decide) hn4) (by decide)
    generalize (bndI l n n).1 = X at *
    generalize (bndI l n n).2 = Y at *
    have hXb : X ≤ 16777216 := by omega
    have hYb : Y ≤ 16777216 := by omega
    clear hall hlo hlt hpw HM HBD HIX HN HC0
    go_wp2_with fail
    refine HB.out.mono ?_
    rintro e w2 ⟨rfl, hb2⟩
    have HB2 := Lib.hid hb2
    clear HB hb2
    have hn1 := heap_alloc_new w2 (.cells #[.int .i64 0, .int .i64 0, .int .i64 128, .int .i64 2048, .int .i64 65536] 3)
    have hs1 : (w2.alloc (.cells #[.int .i64 0, .int .i64 0, .int .i64 128, .int .i64 2048, .int .i64 65536] 3)).heap.size = w2.heap.size + 1 := by simp
    have hn2 := heap_alloc_new (w2.alloc (.cells #[.int .i64 0, .int .i64 0, .int .i64 128, .int .i64 2048, .int .i64 65536] 3)) (.cells #[.int .i64 0, .int .i64 0, .int .i64 2047, .int .i64 65535, .int .i64 1114111] 3)
    rw [hs1] at hn2
    obtain ⟨x0, x1, x2, x3, x4⟩ := cell_agg5 hn1
    obtain ⟨y0, y1, y2, y3, y4⟩ := cell_agg5 hn2
    have HW2 := Lib.hid ((HB2.out.alloc HB2.out.size (.cells #[.int .i64 0, .int .i64 0, .int .i64 128, .int .i64 2048, .int .i64 65536] 3)).alloc (by have := HB2.out.size; omega) (.cells #[.int .i64 0, .int .i64 0, .int .i64 2047, .int .i64 65535, .int .i64 1114111] 3))
    clear hn1 hn2
    have hn3 : n = 2 ∨ n = 3 ∨ n = 4 := by omega
    rcases hn3 with rfl | rfl | rfl
    ·have hR5 := HR4.out
     rw [has2] at hR5
     have HR5 := Lib.hid hR5
     clear hR5 HR4
     go_wp2_with fail
     all_goals go_ret
     all_goals refine ⟨?_, HW2.out⟩
     all_goals rw [HR5.out]
     all_goals refine congrArg (fun z => Ending.returned (Value.bool z)) ?_
     all_goals have hx : max (X : Int) 128 = ((max X 128 : Nat) : Int) := by omega
     all_goals have hy : min (Y : Int) 2047 = ((min Y 2047 : Nat) : Int) := by omega
     all_goals simp only [hx, hy] at *
     all_goals generalize max X 128 = M at *
     all_goals generalize min Y 2047 = N at *
     all_goals first | (rw [decide_eq_decide]; omega) | (symm; rw [decide_eq_false_iff_not]; omega)
    ·have hR5 := HR4.out
     rw [has3] at hR5
     have HR5 := Lib.hid hR5
     clear hR5 HR4
     go_wp2_with fail
     all_goals go_ret
     all_goals refine ⟨?_, HW2.out⟩
     all_goals rw [HR5.out]
     all_goals refine congrArg (fun z => Ending.returned (Value.bool z)) ?_
     all_goals have hx : max (X : Int) 2048 = ((max X 2048 : Nat) : Int) := by omega
     all_goals have hy : min (Y : Int) 65535 = ((min Y 65535 : Nat) : Int) := by omega
     all_goals simp only [hx, hy] at *
     all_goals generalize max X 2048 = M at *
     all_goals generalize min Y 65535 = N at *
     all_goals first | (rw [decide_eq_decide]; omega) | (symm; rw [decide_eq_false_iff_not]; omega)
    ·have hR5 := HR4.out
     rw [has4] at hR5
     have HR5 := Lib.hid hR5
     clear hR5 HR4
     go_wp2_with fail
     all_goals go_ret
     all_goals refine ⟨?_, HW2.out⟩
     all_goals rw [HR5.out]
     all_goals refine congrArg (fun z => Ending.returned (Value.bool z)) ?_
     all_goals have hx : max (X : Int) 65536 = ((max X 65536 : Nat) : Int) := by omega
     all_goals have hy : min (Y : Int) 1114111 = ((min Y 1114111 : Nat) : Int) := by omega
     all_goals simp only [hx, hy] at *
     all_goals generalize max X 65536 = M at *
     all_goals generalize min Y 1114111 = N at *
     all_goals first | (rw [decide_eq_decide]; omega) | (symm; rw [decide_eq_false_iff_not]; omega)
end Go.Proofs.YtckaoeloofbklaaGreatDoor
namespace Go.Proofs.YtckaoeloofbklaaGreatDoor
open Go Go.RowKit Go.Lib
def ptR (L : List UInt8) : Nat := if (pieceN L).2 then (Go.Lib.decodeL L).1 else 65533
theorem ptR_scal (c : UInt8) (t : List UInt8) : Scal (ptR (c :: t)) := by
 have h := pts_scals (c :: t) (ptR (c :: t))
 rw [pts_cons] at h
 exact h (List.mem_cons.2 (.inl rfl))
theorem scal_le {r : Nat} (h : Scal r) : r ≤ 1114111 := by unfold Scal at h; omega
theorem most_ge : ∀ (L : List UInt8) (g n : Nat), n ≤ mostI L g n
 | _, 0, _ => Nat.le_refl _
 | L, g + 1, n => by
  unfold mostI
  split
  ·exact Nat.le_of_succ_le (most_ge L g (n + 1))
  ·exact Nat.le_refl _
theorem most_beg : ∀ (L : List UInt8) (g n : Nat), mostI L g n = n ∨ (mostI L g n ≤ L.length ∧ begN (L.take (mostI L g n)) = true)
 | _, 0, _ => .inl rfl
 | L, g + 1, n => by
  unfold mostI
  split
  ·rename_i h
   rcases most_beg L g (n + 1) with e | e
   ·rw [e]; exact .inr h
   ·exact .inr e
  ·exact .inl rfl
theorem most_ok (c : UInt8) (t : List UInt8) (m : Nat) (h : mostN (c :: t) = m) (h0 : m ≠ 0) : m ≤ t.length + 1 ∧ m ≤ longN c.toNat ∧ (m = longN c.toNat → LdOk ((c :: t).take m) m) := by
 have hb := most_beg (c :: t) 4 0
 have e : mostI (c :: t) 4 0 = m := h
 rw [e] at hb
 obtain ⟨h1, h2⟩ := hb.resolve_left h0
 obtain ⟨k, rfl⟩ : ∃ k, m = k + 1 := ⟨m - 1, by omega⟩
 rw [List.length_cons] at h1
 rw [List.take_succ_cons] at h2
 have hlen : (t.take k).length = k := by rw [List.length_take]; omega
 unfold begN at h2
 simp only [List.getD_cons_zero, List.length_cons, hlen] at h2
 by_cases hc : longN c.toNat = 0 ∨ longN c.toNat < k + 1
 ·rw [if_pos hc] at h2; cases h2
 ·rw [if_neg hc] at h2
  refine ⟨h1, by omega, fun hk => ?_⟩
  rw [List.take_succ_cons]
  refine ⟨by rw [List.getD_cons_zero]; exact hk.symm, fun i hi1 hi2 => ?_⟩
  by_cases ha : (((c :: t.take k).drop 1).all midN) = true
  ·obtain ⟨j, rfl⟩ : ∃ j, i = j + 1 := ⟨i - 1, by omega⟩
   rw [List.length_cons] at hi2
   have hj : j < (t.take k).length := by omega
   rw [List.drop_one, List.tail_cons, List.all_eq_true] at ha
   have := ha _ (List.getElem_mem hj)
   rw [List.getD_eq_getElem?_getD, List.getElem?_cons_succ, List.getElem?_eq_getElem hj]
   exact this
  ·rw [Bool.not_eq_true] at ha
   rw [ha] at h2
   cases h2
theorem piece_most (c : UInt8) (t : List UInt8) (m : Nat) (h : mostN (c :: t) = m) :
  (m = 0 → pieceN (c :: t) = (1, false) ∧ ptR (c :: t) = 65533) ∧ (m ≠ 0 → m < longN c.toNat → pieceN (c :: t) = (m, false) ∧ ptR (c :: t) = 65533) ∧
  (m ≠ 0 → m = longN c.toNat → pieceN (c :: t) = (m, true) ∧ ptR (c :: t) = runeN ((c :: t).take m) m) := by
 have hs := piece_same c t
 rw [h] at hs
 have no : ∀ n, pieceN (c :: t) = (n, false) → ptR (c :: t) = 65533 := fun n e => by unfold ptR; rw [e]; rfl
 refine ⟨fun h0 => ?_, fun h0 h1 => ?_, fun h0 h1 => ?_⟩
 ·rw [if_pos h0] at hs
  exact ⟨hs, no _ hs⟩
 ·rw [if_neg h0, decide_eq_false (show ¬ m = longN c.toNat by omega)] at hs
  exact ⟨hs, no _ hs⟩
 ·have hp : pieceN (c :: t) = (m, true) := by rw [hs, if_neg h0, decide_eq_true h1]
  refine ⟨hp, ?_⟩
  have hd := dcd_ok c t (by rw [hp])
  unfold ptR
  rw [hp, if_pos rfl, ← dcd_is, hd, ← h1]
theorem ext_take (b : ByteArray) (i k : Nat) : (b.extract i (i + k)).data.toList = (b.data.toList.drop i).take k := by
 rw [ByteArray.data_extract, Array.toList_extract, List.extract_eq_take_drop]
 congr 1
 omega
theorem pieceR_any (b : ByteArray) (p : Nat) (w : World) (hp : p < b.size) (hs : b.size ≤ 100000000) :
  Calls Tryz.prog 62 #[.string b, .int .i64 (p : Int)] w fun e w' => e = .returned (.tuple #[.int .i64 ((pieceN (b.data.toList.drop p)).1 : Nat), .int .i32 (ptR (b.data.toList.drop p) : Nat), .bool (pieceN (b.data.toList.drop p)).2]) ∧ Below w.heap.size w w' := by
 have hpl : p < b.data.toList.length := hp
 obtain ⟨c, t, hct⟩ : ∃ c t, b.data.toList.drop p = c :: t := ⟨_, _, List.drop_eq_getElem_cons hpl⟩
 have hbc : b[p]'hp = c := by
  have h1 := List.drop_eq_getElem_cons hpl
  rw [hct] at h1
  exact (List.cons.inj h1).1.symm
 have hlen : (c :: t).length = b.size - p := by
  rw [← hct, List.length_drop]
  rfl
 have hex : ∀ k, (b.extract p (p + k)).data.toList = (c :: t).take k := fun k => by rw [ext_take, hct]
 have hesz : ∀ k, p + k ≤ b.size → (b.extract p (p + k)).size = k := fun k hk => by simp; omega
 rw [hct]
 obtain ⟨M, hM⟩ : ∃ M, mostN (c :: t) = M := ⟨_, rfl⟩
 have hpm := piece_most c t M hM
 have hmo := most_ok c t M hM
 have hM4 : M ≤ 4 := by
  rcases Nat.eq_zero_or_pos M with h | h
  ·omega
  ·have := (hmo (by omega)).2.1
   have := long_4 c
   omega
 have hsc := scal_le (ptR_scal c t)
 have hlg := fun (W : World) => longR_any c.toNat W
 have hsl : ∀ (k : Nat) W, p + k ≤ b.size → (Instr.slice 9 (.string b) (some (.int .i64 p)) (some (.int .i64 ((p : Int) + (k : Int)))) Option.none).run Tryz.prog W = .ok (.string (b.extract p (p + k))) W := fun k W hk => by
  have h2 := run_slice_string (P := Tryz.prog) W 9 b .i64 .i64 p ((p : Int) + (k : Int)) Tryz.underlying9 (by omega) (by omega) (by omega)
  rw [show Int.toNat (p : Int) = p by omega, show Int.toNat ((p : Int) + (k : Int)) = p + k by omega] at h2
  exact h2
 have HPM := Lib.hid hpm
 have HMO := Lib.hid hmo
 have HLG := Lib.hid hlg
 have HSL := Lib.hid hsl
 have HEX := Lib.hid hex
 have HES := Lib.hid hesz
 have HLN := Lib.hid hlen
 have HM := Lib.hid (show mostI (c :: t) 4 0 = M from hM)
 generalize longN c.toNat = G at *
 generalize ptR (c :: t) = R at *
 generalize pieceN (c :: t) = N at *
 clear hct hpl hlen hex hesz hM hpm hmo hlg hsl
 go_enter Tryz.func62, Tryz.ntmps62
 go_upto_block 0 with fail
 go_cut [7] from 8 to 200 (fun s7 wx => s7 = .int .i64 M ∧ Below w.heap.size w wx)
 case first =>
  go_wp2_with fail
  go_loopg [7, 8, 9] 4 (fun g s7 s8 _ wr => ∃ k n : Nat, k + g = 4 ∧ n = k + 1 ∧ s7 = .int .i64 k ∧ s8 = .int .i64 n ∧ mostI (c :: t) g k = M ∧ Below w.heap.size w wr)
  case atStart => exact ⟨0, 1, rfl, rfl, rfl, rfl, HM.out, Below.refl _ _⟩
  case round =>
   obtain ⟨k, n, hk, hn, rfl, rfl, hmi, hbw⟩ := hrel
   have HBW := Lib.hid hbw
   have HN := Lib.hid hn
   clear hbw
   cases gk with
   | zero =>
    have hkM : k = M := hmi
    have HKM := Lib.hid hkM
    have hn4 : ¬ (n : Int) ≤ 4 := by omega
    clear hmi hkM hn
    go_wp2_with fail
    go_meet
    exact ⟨by rw [HKM.out], HBW.out⟩
   | succ g =>
    have hn4 : (n : Int) ≤ 4 := by omega
    unfold mostI at hmi
    rw [← hn] at hmi
    by_cases hle : n ≤ (c :: t).length
    ·have hpn : p + n ≤ b.size := by have := HLN.out; omega
     have hpn2 : (p : Int) + (n : Int) ≤ (b.size : Int) := by omega
     have hrs := fun W => HSL.out n W hpn
     have HB := Lib.hid (fun W => begins_any (b.extract p (p + n)) W (by rw [HES.out n hpn]; omega) (by rw [HES.out n hpn]; omega))
     rw [HEX.out n] at HB
     generalize b.extract p (p + n) = X at *
     have hn5 : n ≤ 4 := by omega
     clear hn
     cases hbn : begN ((c :: t).take n) with
     | false =>
      rw [hbn] at hmi HB
      rw [if_neg (by simp)] at hmi
      have HKM := Lib.hid hmi
      clear hmi hbn hle
      go_wp2_with fail
      refine (HB.out _).mono ?_
      rintro e w2 ⟨rfl, hb2⟩
      have HB2 := Lib.hid (HBW.out.trans (hb2.mono HBW.out.size))
      clear hb2
      go_wp2_with fail
      go_meet
      exact ⟨by rw [HKM.out], HB2.out⟩
     | true =>
      rw [hbn] at hmi HB
      rw [if_pos ⟨hle, rfl⟩] at hmi
      have HKM := Lib.hid hmi
      clear hmi hbn hle
      go_wp2_with fail
      refine (HB.out _).mono ?_
      rintro e w2 ⟨rfl, hb2⟩
      have HB2 := Lib.hid (HBW.out.trans (hb2.mono HBW.out.size))
      clear hb2
      go_wp2_with fail
      go_roundg g
      case measure => omega
      case rel => exact ⟨n, n + 1, by have := HN.out; omega, rfl, rfl, by go_num, HKM.out, HB2.out⟩
    ·have hpn2 : ¬ (p : Int) + (n : Int) ≤ (b.size : Int) := by have := HLN.out; omega
     rw [if_neg (fun h => hle h.1)] at hmi
     have HKM := Lib.hid hmi
     clear hmi hle hn
     go_wp2_with fail
     go_meet
     exact ⟨by rw [HKM.out], HBW.out⟩
 case rest =>
  obtain ⟨rfl, hbw⟩ := hcut
  have HBW := Lib.hid hbw
  clear hbw HM
  by_cases h0 : M = 0
  ·obtain ⟨hN, hR⟩ := HPM.out.1 h0
   subst h0 hN hR
   clear HPM HMO
   go_wp2_with fail
   go_ret3
   exact ⟨rfl, HBW.out⟩
  ·have e0 : ((M : Int) == 0) = false := by rw [beq_eq_false_iff_ne]; omega
   have hMp := HMO.out h0
   have hlp := HLN.out
   rw [List.length_cons] at hlp
   by_cases hG : M < G
   ·obtain ⟨hN, hR⟩ := HPM.out.2.1 h0 hG
    subst hN hR
    have hG2 : (M : Int) < (G : Int) := by omega
    have HL := Lib.hid (HLG.out wc)
    clear HPM HMO hMp HLG
    go_wp2_with fail
    refine HL.out.mono ?_
    rintro e w2 ⟨rfl, rfl⟩
    clear HL
    go_wp2_with fail
    go_ret3
    exact ⟨rfl, HBW.out⟩
   ·have hMG : M = G := by omega
    obtain ⟨hN, hR⟩ := HPM.out.2.2 h0 hMG
    have hld := hMp.2.2 hMG
    subst hN
    have hG2 : ¬ (M : Int) < (G : Int) := by omega
    have HL := Lib.hid (HLG.out wc)
    have HR := Lib.hid hR
    have HLD := Lib.hid hld
    have hpn : p + M ≤ b.size := by omega
    clear HPM HMO hMp HLG hR hld hMG
    go_wp2_with fail
    refine HL.out.mono ?_
    rintro e w2 ⟨rfl, rfl⟩
    clear HL
    by_cases h1 : M = 1
    ·subst h1
     have hR1 : R = c.toNat := by rw [HR.out]; rfl
     subst hR1
     clear HR
     go_wp2_with fail
     go_ret3
     exact ⟨rfl, HBW.out⟩
    ·have e1 : ((M : Int) == 1) = false := by rw [beq_eq_false_iff_ne]; omega
     have hrs := fun W => HSL.out M W hpn
     have HB := Lib.hid (fun W => bounds_any (b.extract p (p + M)) M W (by omega) hM4 (by rw [HES.out M hpn]; omega) (by rw [HEX.out M]; exact HLD.out))
     rw [HEX.out M] at HB
     have hR1 : (bndI ((c :: t).take M) M M).1 = R := by rw [HR.out]; unfold runeN; rw [if_neg h1]
     rw [hR1] at HB
     generalize (bndI ((c :: t).take M) M M).2 = Y at *
     generalize b.extract p (p + M) = X at *
     clear hR1 HR HLD
     go_wp2_with fail
     refine (HB.out _).mono ?_
     rintro e w3 ⟨rfl, hb3⟩
     have HB3 := Lib.hid (HBW.out.trans (hb3.mono HBW.out.size))
     clear hb3 HB
     go_wp2_with fail
     go_ret3
     exact ⟨rfl, HB3.out⟩
end Go.Proofs.YtckaoeloofbklaaGreatDoor
namespace Go.Proofs.YtckaoeloofbklaaGreatDoor
open Go Go.RowKit Go.Lib
theorem bytes_str (W : World) (xs : List UInt8) (cs : Array Value) (hcs : cs = (xs.map fun x => Value.int .u8 (x.toNat : Int)).toArray) (n : Nat) (hn : n = xs.length) :
  (convert 28 9 (.slice (some ⟨W.heap.size, 0, Option.none⟩) n n)).run Tryz.prog (W.alloc (.cells cs 5)) = .ok (.string ⟨xs.toArray⟩) (W.alloc (.cells cs 5)) := by
 have hb := heap_alloc_new W (.cells cs 5)
 have := run_convert_bytes_arg (P := Tryz.prog) (W.alloc (.cells cs 5)) _ _ Tryz.underlying28 Tryz.underlying5 W.heap.size 0 n n (xs.map fun x => (x.toNat : Int)) (by rw [List.length_map, hn]) (fun i hi => by
  have hi' : i < xs.length := by simpa [hn] using hi
  rw [cell_of_row _ _ _ _ _ _ hb, hcs]
  simp [hi']) _ Tryz.underlying9
 rw [this]
 have he : (xs.map fun x => (x.toNat : Int)).map (fun n => UInt8.ofNat n.toNat) = xs := by
  rw [List.map_map]
  exact (List.map_congr_left (fun x _ => by simp)).trans (List.map_id xs)
 unfold strOfNums
 rw [he]
theorem cons_str (x : UInt8) (l : List UInt8) : (⟨#[x]⟩ : ByteArray) ++ ⟨l.toArray⟩ = ⟨(x :: l).toArray⟩ := by
 apply ByteArray.ext
 rw [ByteArray.data_append]
 apply Array.toList_inj.1
 simp
theorem str_of2 (a b : UInt8) (W : World) : (convert 28 9 (.slice (some ⟨W.heap.size, 0, Option.none⟩) 2 2)).run Tryz.prog (W.alloc (.cells #[.int .u8 (a.toNat : Int), .int .u8 (b.toNat : Int)] 5)) = .ok (.string ⟨#[a, b]⟩) (W.alloc (.cells #[.int .u8 (a.toNat : Int), .int .u8 (b.toNat : Int)] 5)) := bytes_str W [a, b] _ rfl 2 rfl
theorem str_of1 (a : UInt8) (W : World) : (convert 28 9 (.slice (some ⟨W.heap.size, 0, Option.none⟩) 1 1)).run Tryz.prog (W.alloc (.cells #[.int .u8 (a.toNat : Int)] 5)) = .ok (.string ⟨#[a]⟩) (W.alloc (.cells #[.int .u8 (a.toNat : Int)] 5)) := bytes_str W [a] _ rfl 1 rfl
theorem str_of3 (a b c : UInt8) (W : World) : (convert 28 9 (.slice (some ⟨W.heap.size, 0, Option.none⟩) 3 3)).run Tryz.prog (W.alloc (.cells #[.int .u8 (a.toNat : Int), .int .u8 (b.toNat : Int), .int .u8 (c.toNat : Int)] 5)) = .ok (.string ⟨#[a, b, c]⟩) (W.alloc (.cells #[.int .u8 (a.toNat : Int), .int .u8 (b.toNat : Int), .int .u8 (c.toNat : Int)] 5)) := bytes_str W [a, b, c] _ rfl 3 rfl
theorem str_of4 (a b c d : UInt8) (W : World) : (convert 28 9 (.slice (some ⟨W.heap.size, 0, Option.none⟩) 4 4)).run Tryz.prog (W.alloc (.cells #[.int .u8 (a.toNat : Int), .int .u8 (b.toNat : Int), .int .u8 (c.toNat : Int), .int .u8 (d.toNat : Int)] 5)) = .ok (.string ⟨#[a, b, c, d]⟩) (W.alloc (.cells #[.int .u8 (a.toNat : Int), .int .u8 (b.toNat : Int), .int .u8 (c.toNat : Int), .int .u8 (d.toNat : Int)] 5)) := bytes_str W [a, b, c, d] _ rfl 4 rfl
theorem bytesR_any (r : Nat) (w : World) (hr : Scal r) :
  Calls Tryz.prog 39 #[.int .i32 (r : Int)] w fun e w' => e = .returned (.string ⟨(enc r).toArray⟩) ∧ Below w.heap.size w w' := by
 have hle := scal_le hr
 have g0 : ¬ (r : Int) < 0 := by omega
 have g1 : ¬ (1114111 : Int) < (r : Int) := by omega
 have hsur : ¬ (55296 : Int) ≤ (r : Int) ∨ ((55296 : Int) ≤ (r : Int) ∧ ¬ (r : Int) ≤ 57343) := by unfold Scal at hr; omega
 have hal := fun o => (Below.refl w.heap.size w).alloc (Nat.le_refl _) o
 rcases enc_shape r hr with ⟨h1, a, he, ha⟩ | ⟨h0, h1, a, b, he, ha, hb⟩ | ⟨h0, h1, a, b, c, he, ha, hb, hc⟩ | ⟨h0, a, b, c, d, he, ha, hb, hc, hd⟩
 ·subst ha
  have k1 : (a.toNat : Int) < 128 := by omega
  have ks : ¬ (55296 : Int) ≤ (a.toNat : Int) := by omega
  have hcv := str_of1 a w
  rw [he]
  clear hr he hsur h1 hle
  go_enter Tryz.func39, Tryz.ntmps39
  go_wp2_with fail
  go_ret
  exact ⟨rfl, hal _⟩
 ·have k1 : ¬ (r : Int) < 128 := by omega
  have k2 : (r : Int) < 2048 := by omega
  have ks : ¬ (55296 : Int) ≤ (r : Int) := by omega
  clear hsur
  obtain ⟨q, hq⟩ : ∃ q, r / 64 = q := ⟨_, rfl⟩
  have qi : (r : Int).tdiv 64 = (q : Int) := by rw [Int.tdiv_eq_ediv_of_nonneg (by omega)]; omega
  have qj : (r : Int) / 64 = (q : Int) := by omega
  obtain ⟨m, hm⟩ : ∃ m, r % 64 = m := ⟨_, rfl⟩
  have mi : (r : Int).tmod 64 = (m : Int) := by rw [Int.tmod_eq_emod_of_nonneg (by omega)]; omega
  have mj : (r : Int) % 64 = (m : Int) := by omega
  have sa : (192 : Int) + (q : Int) = (a.toNat : Int) := by omega
  have la := a.toNat_lt
  have sb : (128 : Int) + (m : Int) = (b.toNat : Int) := by omega
  have lb := b.toNat_lt
  have hcv := str_of2 a b w
  rw [he]
  clear he hr hle hq hm ha hb
  go_enter Tryz.func39, Tryz.ntmps39
  go_wp2_with fail
  go_ret
  exact ⟨rfl, hal _⟩
 ·have k1 : ¬ (r : Int) < 128 := by omega
  have k2 : ¬ (r : Int) < 2048 := by omega
  have k3 : (r : Int) < 65536 := by omega
  obtain ⟨q, hq⟩ : ∃ q, r / 4096 = q := ⟨_, rfl⟩
  have qi : (r : Int).tdiv 4096 = (q : Int) := by rw [Int.tdiv_eq_ediv_of_nonneg (by omega)]; omega
  have qj : (r : Int) / 4096 = (q : Int) := by omega
  obtain ⟨p, hp⟩ : ∃ p, r / 64 = p := ⟨_, rfl⟩
  have pi : (r : Int).tdiv 64 = (p : Int) := by rw [Int.tdiv_eq_ediv_of_nonneg (by omega)]; omega
  have pj : (r : Int) / 64 = (p : Int) := by omega
  obtain ⟨n, hn⟩ : ∃ n, p % 64 = n := ⟨_, rfl⟩
  have ni : (p : Int).tmod 64 = (n : Int) := by rw [Int.tmod_eq_emod_of_nonneg (by omega)]; omega
  have nj : (p : Int) % 64 = (n : Int) := by omega
  obtain ⟨m, hm⟩ : ∃ m, r % 64 = m := ⟨_, rfl⟩
  have mi : (r : Int).tmod 64 = (m : Int) := by rw [Int.tmod_eq_emod_of_nonneg (by omega)]; omega
  have mj : (r : Int) % 64 = (m : Int) := by omega
  have sa : (224 : Int) + (q : Int) = (a.toNat : Int) := by omega
  have la := a.toNat_lt
  have sb : (128 : Int) + (n : Int) = (b.toNat : Int) := by omega
  have lb := b.toNat_lt
  have sc : (128 : Int) + (m : Int) = (c.toNat : Int) := by omega
  have lc := c.toNat_lt
  have hcv := str_of3 a b c w
  rw [he]
  clear he hr hle hq hp hn hm ha hb hc
  rcases hsur with ks | ⟨ks, ks2⟩
  all_goals
   go_enter Tryz.func39, Tryz.ntmps39
   go_wp2_with fail
   go_ret
   exact ⟨rfl, hal _⟩
 ·have k1 : ¬ (r : Int) < 128 := by omega
  have k2 : ¬ (r : Int) < 2048 := by omega
  have k3 : ¬ (r : Int) < 65536 := by omega
  have ks : (55296 : Int) ≤ (r : Int) := by omega
  have ks2 : ¬ (r : Int) ≤ 57343 := by omega
  clear hsur
  obtain ⟨q, hq⟩ : ∃ q, r / 262144 = q := ⟨_, rfl⟩
  have qi : (r : Int).tdiv 262144 = (q : Int) := by rw [Int.tdiv_eq_ediv_of_nonneg (by omega)]; omega
  have qj : (r : Int) / 262144 = (q : Int) := by omega
  obtain ⟨x, hx⟩ : ∃ x, r / 4096 = x := ⟨_, rfl⟩
  have xi : (r : Int).tdiv 4096 = (x : Int) := by rw [Int.tdiv_eq_ediv_of_nonneg (by omega)]; omega
  have xj : (r : Int) / 4096 = (x : Int) := by omega
  obtain ⟨y, hy⟩ : ∃ y, x % 64 = y := ⟨_, rfl⟩
  have yi : (x : Int).tmod 64 = (y : Int) := by rw [Int.tmod_eq_emod_of_nonneg (by omega)]; omega
  have yj : (x : Int) % 64 = (y : Int) := by omega
  obtain ⟨p, hp⟩ : ∃ p, r / 64 = p := ⟨_, rfl⟩
  have pi : (r : Int).tdiv 64 = (p : Int) := by rw [Int.tdiv_eq_ediv_of_nonneg (by omega)]; omega
  have pj : (r : Int) / 64 = (p : Int) := by omega
  obtain ⟨n, hn⟩ : ∃ n, p % 64 = n := ⟨_, rfl⟩
  have ni : (p : Int).tmod 64 = (n : Int) := by rw [Int.tmod_eq_emod_of_nonneg (by omega)]; omega
  have nj : (p : Int) % 64 = (n : Int) := by omega
  obtain ⟨m, hm⟩ : ∃ m, r % 64 = m := ⟨_, rfl⟩
  have mi : (r : Int).tmod 64 = (m : Int) := by rw [Int.tmod_eq_emod_of_nonneg (by omega)]; omega
  have mj : (r : Int) % 64 = (m : Int) := by omega
  have sa : (240 : Int) + (q : Int) = (a.toNat : Int) := by omega
  have la := a.toNat_lt
  have sb : (128 : Int) + (y : Int) = (b.toNat : Int) := by omega
  have lb := b.toNat_lt
  have sc : (128 : Int) + (n : Int) = (c.toNat : Int) := by omega
  have lc := c.toNat_lt
  have sd : (128 : Int) + (m : Int) = (d.toNat : Int) := by omega
  have ld := d.toNat_lt
  have hcv := str_of4 a b c d w
  rw [he]
  clear he hr hle hq hx hy hp hn hm ha hb hc hd
  go_enter Tryz.func39, Tryz.ntmps39
  go_wp2_with fail
  go_ret
  exact ⟨rfl, hal _⟩
end Go.Proofs.YtckaoeloofbklaaGreatDoor
namespace Go.Proofs.YtckaoeloofbklaaGreatDoor
open Go Go.RowKit Go.Sort Go.Lib
set_option exponentiation.threshold 3000
theorem parts_any (a : Nat) (w : World) (ha : a < 9218868437227405312) :
  Calls Tryz.prog 166 #[.int .u64 a] w fun e w' => (∃ (m : Nat) (x : Int), e = .returned (.tuple #[.int .u64 m, .int .i64 x]) ∧ -1074 ≤ x ∧ x ≤ 971 ∧ m < 9007199254740992 ∧ V a = m * 2 ^ (x + 1074).toNat) ∧ w' = w := by
 obtain ⟨q, hq⟩ : ∃ q, a / 4503599627370496 = q := ⟨_, rfl⟩
 obtain ⟨r, hr⟩ : ∃ r, a % 4503599627370496 = r := ⟨_, rfl⟩
 have hq1 : (a : Int) / 4503599627370496 = (q : Int) := by omega
 have hq2 : (a : Int).tdiv 4503599627370496 = (q : Int) := by rw [Int.tdiv_eq_ediv_of_nonneg (by omega)]; omega
 have hr1 : (a : Int) % 4503599627370496 = (r : Int) := by omega
 have hr2 : (a : Int).tmod 4503599627370496 = (r : Int) := by rw [Int.tmod_eq_emod_of_nonneg (by omega)]; omega
 have hq5 : q ≤ 2046 := by omega
 have hq3 : (q : Int) % 2048 = (q : Int) := by omega
 have hq4 : (q : Int).tmod 2048 = (q : Int) := by rw [Int.tmod_eq_emod_of_nonneg (by omega)]; omega
 have hr3 : r < 4503599627370496 := by omega
 have HV : Hid (V a = if q = 0 then r else (4503599627370496 + r) * 2 ^ (q - 1)) := Lib.hid (by
  unfold V BB
  rw [hq, hr]
  by_cases h0 : q = 0
  ·rw [if_pos h0, if_pos (by omega)]; omega
  ·rw [if_neg h0, if_neg (by omega)])
 clear hq hr ha
 by_cases h0 : q = 0
 ·have HV0 : Hid (V a = r) := Lib.hid (by rw [HV.out, if_pos h0])
  subst h0
  have hz : ((0 : Nat) : Int) = 0 := rfl
  rw [hz] at hq1 hq2
  clear HV hq3 hq4 hq5 hz
  go_enter Tryz.func166, Tryz.ntmps166
  go_wp2_with fail
  go_ret2
  refine ⟨⟨r, -1074, rfl, by decide, by decide, by omega, ?_⟩, rfl⟩
  rw [HV0.out]
  simp
 ·have hq0 : ((q : Int) == 0) = false := by rw [beq_eq_false_iff_ne]; omega
  have hq0' : ¬ (q : Int) = 0 := by omega
  go_enter Tryz.func166, Tryz.ntmps166
  go_wp2_with fail
  go_ret2
  refine ⟨⟨r + 4503599627370496, (q : Int) - 1075, by rw [show ((r + 4503599627370496 : Nat) : Int) = (r : Int) + 4503599627370496 from by omega]; rfl, by omega, by omega, by omega, ?_⟩, rfl⟩
  rw [HV.out, if_neg h0, show ((q : Int) - 1075 + 1074).toNat = q - 1 by omega, Nat.add_comm]
end Go.Proofs.YtckaoeloofbklaaGreatDoor
