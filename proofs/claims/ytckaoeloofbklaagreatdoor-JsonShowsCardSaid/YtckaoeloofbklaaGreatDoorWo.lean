/- Joined texts: Sb Sc Sd Se Sf. Each begins with its own remark. -/
import Derived.Test.YtckaoeloofbklaaGreatDoorWn
import Derived.Test.YtckaoeloofbklaaGreatDoorWb
import Derived.Deep.LoopGhost
import Derived.Test.YtckaoeloofbklaaGreatDoorWg
import Derived.Deep.DeepAppendWide
import Derived.Laws.OwnMore
import Derived.Test.YtckaoeloofbklaaGreatDoorWa
import Derived.Test.YtckaoeloofbklaaGreatDoorWh
set_option maxRecDepth 100000
set_option maxHeartbeats 4000000
namespace Go.Proofs.YtckaoeloofbklaaGreatDoor
open Go Go.RowKit
def NumB (w : World) (v : Value) (l : List UInt8) : Prop := (v = .slice Option.none 0 0 ∧ l = []) ∨
 ∃ b o c, v = .slice (some ⟨b, o, Option.none⟩) l.length c ∧ l.length ≤ c ∧ b < w.heap.size ∧ ∀ j x, l[j]? = some x → w.cell? ⟨b, o + j, Option.none⟩ = some (.int .u8 (x.toNat : Int))
def IsNum (w : World) (v : Value) (n : Nat) : Prop := ∃ l, NumB w v l ∧ leV l = n ∧ NormB l
theorem NumB.go {w w' : World} {v : Value} {l : List UInt8} (h : NumB w v l) (hb : Below w.heap.size w w') : NumB w' v l := by
 rcases h with h | ⟨b, o, c, h1, h2, h3, h4⟩
 ·exact .inl h
 ·exact .inr ⟨b, o, c, h1, h2, Nat.lt_of_lt_of_le h3 hb.size, fun j x hj => (hb.cell (p := ⟨b, o + j, Option.none⟩) h3).trans (h4 j x hj)⟩
theorem IsNum.go {w w' : World} {v : Value} {n : Nat} (h : IsNum w v n) (hb : Below w.heap.size w w') : IsNum w' v n := by
 obtain ⟨l, h1, h2, h3⟩ := h
 exact ⟨l, h1.go hb, h2, h3⟩
theorem trim_any (v : Value) (l : List UInt8) (w : World) (h : NumB w v l) (hl : l.length ≤ 1000000) :
  Calls Tryz.prog 202 #[v] w fun e w' => (∃ v', e = .returned v' ∧ NumB w v' (trimL l)) ∧ w' = w := by
 rcases h with ⟨rfl, rfl⟩ | ⟨b, o, c, rfl, hc, hb, hcell⟩
 ·go_enter Tryz.func202, Tryz.ntmps202
  go_wp2_with fail
  go_loopg [0] 1 (fun _ s1 wr => s1 = .slice Option.none 0 0 ∧ wr = w)
  case atStart => exact ⟨rfl, rfl⟩
  case round =>
   obtain ⟨rfl, rfl⟩ := hrel
   go_wp2_with fail
   go_ret
   exact ⟨⟨_, rfl, .inl ⟨rfl, rfl⟩⟩, rfl⟩
 ·have HC := Lib.hid hcell
  clear hcell
  go_enter Tryz.func202, Tryz.ntmps202
  go_wp2_with fail
  go_loopg [0] l.length (fun g s1 wr => g ≤ l.length ∧ (∀ x ∈ l.drop g, x = 0) ∧ s1 = .slice (some ⟨b, o, Option.none⟩) g c ∧ wr = w)
  case atStart => exact ⟨Nat.le_refl _, by simp, rfl, rfl⟩
  case round =>
   obtain ⟨hk, hz, rfl, rfl⟩ := hrel
   have HZ := Lib.hid hz
   clear hz
   by_cases h0 : gk = 0
   ·subst h0
    have hres : trimL l = l.take 0 := trim_take l 0 (Nat.zero_le _) HZ.out (.inl rfl)
    go_wp2_with fail
    go_ret
    refine ⟨⟨_, rfl, .inr ⟨b, o, c, ?_, ?_, hb, ?_⟩⟩, rfl⟩
    ·rw [hres]; rfl
    ·rw [hres]; simp
    ·rw [hres]; simp
   ·obtain ⟨k, rfl⟩ : ∃ k, gk = k + 1 := ⟨gk - 1, by omega⟩
    clear h0
    have hkl : k < l.length := by omega
    have c1 := HC.out k l[k] (List.getElem?_eq_getElem hkl)
    have hkc : k ≤ c := by omega
    have hkp : ((k + 1 : Nat) : Int) - 1 = (k : Int) := by omega
    have hkp2 : (k : Int) + 1 - 1 = (k : Int) := by omega
    by_cases hx : l[k] = 0
    ·rw [hx] at c1
     have hz' : ∀ x ∈ l.drop k, x = 0 := by
      rw [List.drop_eq_getElem_cons hkl]
      intro x hxx
      rcases List.mem_cons.1 hxx with rfl | h1
      ·exact hx
      ·exact HZ.out x h1
     have HZ' := Lib.hid hz'
     clear hz' hx
     go_wp2_with fail
     go_roundg k
     case measure => omega
     case rel => exact ⟨by omega, HZ'.out, rfl, rfl⟩
    ·have hres : trimL l = l.take (k + 1) := trim_take l (k + 1) hk HZ.out (.inr ⟨hkl, hx⟩)
     have hxn : ((l[k].toNat : Int) == 0) = false := by
      rw [beq_eq_false_iff_ne]
      intro h
      exact hx (UInt8.toNat_inj.1 (by show l[k].toNat = 0; omega))
     have HR := Lib.hid hres
     clear hres hx
     go_wp2_with fail
     go_ret
     refine ⟨⟨_, rfl, .inr ⟨b, o, c, ?_, ?_, hb, ?_⟩⟩, rfl⟩
     ·rw [HR.out, List.length_take, Nat.min_eq_left hk]; rfl
     ·rw [HR.out, List.length_take]; omega
     ·rw [HR.out]
      intro j x hj
      exact HC.out j x (by rw [List.getElem?_take] at hj; split at hj; exact hj; simp at hj)
theorem NumB.form {w : World} {v : Value} {l : List UInt8} (h : NumB w v l) : ∃ p c, v = .slice p l.length c := by
 rcases h with ⟨rfl, rfl⟩ | ⟨b, o, c, rfl, _⟩
 ·exact ⟨_, _, rfl⟩
 ·exact ⟨_, _, rfl⟩
theorem NumB.row {w : World} {v : Value} {l : List UInt8} (h : NumB w v l) (h0 : 0 < l.length) : ∃ b o c, v = .slice (some ⟨b, o, Option.none⟩) l.length c ∧ l.length ≤ c ∧ b < w.heap.size ∧ ∀ j x, l[j]? = some x → w.cell? ⟨b, o + j, Option.none⟩ = some (.int .u8 (x.toNat : Int)) := by
 rcases h with ⟨rfl, rfl⟩ | h
 ·simp at h0
 ·exact h
def cmpN (x y : Nat) : Int := if x < y then -1 else if y < x then 1 else 0
theorem cmp_list (va vb : Value) (a b : List UInt8) (w : World) (ha : NumB w va a) (hb : NumB w vb b) (na : NormB a) (nb : NormB b) (la : a.length ≤ 1000000) (lb : b.length ≤ 1000000) :
  Calls Tryz.prog 169 #[va, vb] w fun e w' => e = .returned (.int .i64 (cmpN (leV a) (leV b))) ∧ Below w.heap.size w w' := by
 by_cases hlen : a.length = b.length
 ·by_cases h0 : a.length = 0
  ·have h0b : b.length = 0 := by omega
   obtain ⟨pa, ca, rfl⟩ := ha.form
   obtain ⟨pb, cb, rfl⟩ := hb.form
   have e1 : a = [] := List.eq_nil_of_length_eq_zero h0
   have e2 : b = [] := List.eq_nil_of_length_eq_zero h0b
   subst e1 e2
   clear hlen h0 h0b ha hb na nb la lb
   go_enter Tryz.func169, Tryz.ntmps169
   go_wp2_with fail
   go_loopg [5] 1 (fun _ s5 wr => s5 = .int .i64 (-1) ∧ wr = w)
   case atStart => exact ⟨rfl, rfl⟩
   case round =>
    obtain ⟨rfl, rfl⟩ := hrel
    go_wp2_with fail
    go_ret
    exact ⟨rfl, Below.refl _ _⟩
  ·obtain ⟨ba, oa, ca, rfl, hca, hba, cela⟩ := ha.row (by omega)
   obtain ⟨bb, ob, cb, rfl, hcb, hbb, celb⟩ := hb.row (by omega)
   have CA := Lib.hid cela
   have CB := Lib.hid celb
   clear ha hb cela celb
   have HL := Lib.hid hlen
   rw [← hlen] at hcb lb ⊢
   have hab : decide (a.length = b.length) = true := by rw [decide_eq_true_eq]; exact HL.out
   have NA := Lib.hid na
   have NB := Lib.hid nb
   clear na nb hlen hab
   go_enter Tryz.func169, Tryz.ntmps169
   go_wp2_with fail
   go_loopg [5] a.length (fun g s5 wr => ∃ z : Int, z = (g : Int) - 1 ∧ g ≤ a.length ∧ s5 = .int .i64 z ∧ a.drop g = b.drop g ∧ Below w.heap.size w wr)
   case atStart => exact ⟨_, rfl, Nat.le_refl _, rfl, by rw [List.drop_length, HL.out, List.drop_length], Below.refl _ _⟩
   case round =>
    obtain ⟨z, hz, hk, rfl, hd, hbw⟩ := hrel
    have HBW := Lib.hid hbw
    clear hbw
    have HD := Lib.hid hd
    clear hd
    by_cases h1 : gk = 0
    ·subst h1
     have hres : cmpN (leV a) (leV b) = 0 := by
      have : a = b := HD.out
      rw [this]; unfold cmpN; simp
     obtain rfl : z = -1 := by omega
     have HR := Lib.hid hres
     clear hz hres
     go_wp2_with fail
     go_ret
     exact ⟨by rw [HR.out]; rfl, HBW.out⟩
    ·obtain ⟨k, rfl⟩ : ∃ k, gk = k + 1 := ⟨gk - 1, by omega⟩
     obtain rfl : z = (k : Int) := by omega
     clear hz h1
     have hka : k < a.length := by omega
     have hkb : k < b.length := by have := HL.out; omega
     have d1 : wr.cell? ⟨ba, oa + k, Option.none⟩ = some (.int .u8 (a[k].toNat : Int)) := (HBW.out.cell (p := ⟨ba, oa + k, Option.none⟩) hba).trans (CA.out k a[k] (List.getElem?_eq_getElem hka))
     have d2 : wr.cell? ⟨bb, ob + k, Option.none⟩ = some (.int .u8 (b[k].toNat : Int)) := (HBW.out.cell (p := ⟨bb, ob + k, Option.none⟩) hbb).trans (CB.out k b[k] (List.getElem?_eq_getElem hkb))
     have hkc : k < ca := by omega
     have hkc2 : k < cb := by omega
     have hA := cmp_at a b k hka hkb HL.out HD.out
     have hB := cmp_at b a k hkb hka HL.out.symm HD.out.symm
     have hC := drop_eq a b k hka hkb HD.out
     have hEq : a[k].toNat = b[k].toNat → a[k] = b[k] := UInt8.toNat_inj.1
     have hkz : (0 : Int) ≤ (k : Int) := by omega
     generalize a[k].toNat = x at *
     generalize b[k].toNat = y at *
     rcases Nat.lt_trichotomy x y with hxy | hxy | hxy
     ·have HR : Hid (cmpN (leV a) (leV b) = -1) := Lib.hid (by unfold cmpN; rw [if_pos (hA hxy)])
      have hxi : (x : Int) < (y : Int) := by omega
      clear hA hB hC hEq hxy
      go_wp2_with fail
      go_quiet (fail)
      go_wp2
      go_ret
      exact ⟨by rw [HR.out]; rfl, bDrewN HBW.out _⟩
     ·have HR : Hid (a.drop k = b.drop k) := Lib.hid (hC (hEq hxy))
      have hxi : ¬ (x : Int) < (y : Int) := by omega
      have hyi : ¬ (y : Int) < (x : Int) := by omega
      clear hA hB hC hEq
      go_wp2_with fail
      go_quiet (fail)
      go_wp2
      go_quiet (fail)
      go_wp2
      go_roundg k
      case measure => omega
      case rel => exact ⟨_, rfl, by omega, by go_num, HR.out, by first | exact bDrewN HBW.out _ | exact bDrewN (bDrewN HBW.out _) _⟩
     ·have HR : Hid (cmpN (leV a) (leV b) = 1) := Lib.hid (by unfold cmpN; rw [if_neg (by have := hB hxy; omega), if_pos (hB hxy)])
      have hxi : ¬ (x : Int) < (y : Int) := by omega
      have hyi : (y : Int) < (x : Int) := by omega
      clear hA hB hC hEq hxy
      go_wp2_with fail
      go_quiet (fail)
      go_wp2
      go_quiet (fail)
      go_wp2
      go_ret
      exact ⟨by rw [HR.out]; rfl, by first | exact bDrewN HBW.out _ | exact bDrewN (bDrewN HBW.out _) _⟩
 ·obtain ⟨pa, ca, rfl⟩ := ha.form
  obtain ⟨pb, cb, rfl⟩ := hb.form
  have HA := Lib.hid (norm_lt a b nb)
  have HB := Lib.hid (norm_lt b a na)
  clear ha hb na nb
  generalize a.length = x at *
  generalize b.length = y at *
  have hne : ((x : Int) != (y : Int)) = true := by rw [bne_iff_ne]; omega
  by_cases hlt : x < y
  ·have HR : Hid (cmpN (leV a) (leV b) = -1) := Lib.hid (by unfold cmpN; rw [if_pos (HA.out hlt)])
   have hi : (x : Int) < (y : Int) := by omega
   clear HA HB hlen
   go_enter Tryz.func169, Tryz.ntmps169
   go_wp2_with fail
   go_ret
   exact ⟨by rw [HR.out]; rfl, Below.refl _ _⟩
  ·have hgt : y < x := by omega
   have HR : Hid (cmpN (leV a) (leV b) = 1) := Lib.hid (by unfold cmpN; rw [if_neg (by have := HB.out hgt; omega), if_pos (HB.out hgt)])
   have hi : ¬ (x : Int) < (y : Int) := by omega
   clear HA HB hlen hlt
   go_enter Tryz.func169, Tryz.ntmps169
   go_wp2_with fail
   go_ret
   exact ⟨by rw [HR.out]; rfl, Below.refl _ _⟩
end Go.Proofs.YtckaoeloofbklaaGreatDoor
namespace Go.Proofs.YtckaoeloofbklaaGreatDoor
open Go Go.RowKit Go.Sort Go.Lib
def Own (w W : World) (v : Value) (l : List UInt8) : Prop := Row w.heap.size (fun _ => False) w W v l
theorem Own.start (w : World) : Own w w (.slice Option.none 0 0) [] :=
 ⟨World.ownsRow_nil w _ 5 1, fun _ h => h.elim, fun _ h => h.elim, fun _ h => h.elim, Below.refl _ _, Nat.le_refl _⟩
theorem Own.num {w W : World} {v : Value} {l : List UInt8} (h : Own w W v l) : NumB W v l := by
 rcases h.own.2 with ⟨h1, h2⟩ | ⟨g, cap, cur, h1, h2, h3, h4, h5, h6, h7⟩
 ·obtain rfl := List.eq_nil_of_length_eq_zero h2
  exact .inl ⟨h1, rfl⟩
 ·refine .inr ⟨g, 0, cap, h1, by omega, (Array.getElem?_eq_some_iff.1 h3).1, fun j x hx => ?_⟩
  have hj : j < l.length := by
   rcases Nat.lt_or_ge j l.length with h | h
   ·exact h
   ·rw [List.getElem?_eq_none h] at hx; simp at hx
  rw [Nat.zero_add, cell_of_row W g j _ _ _ h3]
  have h8 := congrArg (fun q : List Value => q[j]?) h7
  simp only [Nat.mul_one, List.getElem?_take, hj, if_true, Array.getElem?_toList, List.getElem?_map, hx, Option.map_some] at h8
  rw [h8]; rfl
theorem Own.below {w W : World} {v : Value} {l : List UInt8} (h : Own w W v l) : Below w.heap.size w W := Row.below h
theorem Own.add {w W : World} {v : Value} {l : List UInt8} (h : Own w W v l) (y : UInt8) (r : Int) (hr : r = ((y.toNat : Nat) : Int)) (hl : l.length ≤ 900000) (m : Nat) (hm : l.length + 1 = m) :
  ∃ g cap W', (Builtin.append_ #[28, 28] 28 #[v, .slice (some ⟨W.heap.size, 0, Option.none⟩) 1 1]).run Tryz.prog (W.alloc (.cells #[.int .u8 r] 5)) = .ok (.slice (some ⟨g, 0, Option.none⟩) m cap) W' ∧
   Own w W' (.slice (some ⟨g, 0, Option.none⟩) m cap) (l ++ [y]) := by
 exact Row.push' h 28 [y] 1 #[.int .u8 r] m rfl (by rw [hr]; rfl) (by decide) (by omega) (by rw [List.length_append, ← hm]; rfl)
theorem u8_mod (T : Nat) : ((UInt8.ofNat (T % 256)).toNat : Int) = ((T % 256 : Nat) : Int) := by
 rw [UInt8.toNat_ofNat', Nat.mod_eq_of_lt (show T % 256 < 2 ^ 8 by omega)]
theorem times_list (v : Value) (l : List UInt8) (by_ more : Nat) (w : World) (h : NumB w v l) (hl : l.length ≤ 500000) (hb1 : by_ ≤ 256) (hm1 : more ≤ 65536) :
  Calls Tryz.prog 203 #[v, .int .i64 by_, .int .i64 more] w fun e w' => (∃ v', e = .returned v' ∧ IsNum w' v' (leV l * by_ + more)) ∧ Below w.heap.size w w' := by
 obtain ⟨pv, cv, rfl⟩ := h.form
 have HN := Lib.hid h
 clear h
 go_enter Tryz.func203, Tryz.ntmps203
 go_wp2_with fail
 go_loopg [2, 7, 8] l.length (fun g s2 s7 s8 wr => ∃ (k m : Nat) (o : List UInt8), k + g = l.length ∧ o.length = k ∧ m ≤ 65536 ∧ leV o + 256 ^ o.length * m = leV (l.take k) * by_ + more ∧ s2 = .int .i64 m ∧ s8 = .int .i64 k ∧ Own w wr s7 o)
 case atStart => exact ⟨0, more, [], by omega, rfl, hm1, by simp [leV], rfl, rfl, Own.start w⟩
 case round =>
  obtain ⟨k, m, o, hkg, hok, hm, hval, rfl, rfl, hown⟩ := hrel
  obtain ⟨po, co, rfl⟩ := hown.form
  have HV := Lib.hid hval
  have HO := Lib.hid hown
  clear hval hown
  rw [hok]
  by_cases hk : k < l.length
  ·obtain ⟨b, o', c, hv, hlc, hbs, hcell⟩ := HN.out.row (by omega)
   simp only [Value.slice.injEq] at hv
   obtain ⟨rfl, _, rfl⟩ := hv
   have c1 : wr.cell? ⟨b, o' + k, Option.none⟩ = some (.int .u8 (l[k].toNat : Int)) := (HO.out.below.cell (p := ⟨b, o' + k, Option.none⟩) hbs).trans (hcell k l[k] (List.getElem?_eq_getElem hk))
   have hx := l[k].toNat_lt
   have htk := leV_take_succ l k hk
   generalize l[k].toNat = x at *
   obtain ⟨T, hT⟩ : ∃ T, m + x * by_ = T := ⟨_, rfl⟩
   have hTle : T ≤ 65536 + 255 * 256 := by
    rw [← hT]
    exact Nat.add_le_add hm (Nat.mul_le_mul (by omega) hb1)
   have hTi : (m : Int) + (x : Int) * (by_ : Int) = (T : Int) := by rw [← hT]; push_cast; rfl
   have hst := times_step o _ m (x * by_) T HV.out hT
   have hxb : (x : Int) * (by_ : Int) ≤ 65536 := by
    have : x * by_ ≤ 255 * 256 := Nat.mul_le_mul (by omega) hb1
    have h2 : ((x * by_ : Nat) : Int) ≤ 65536 := by omega
    push_cast at h2; exact h2
   have hxb0 : 0 ≤ (x : Int) * (by_ : Int) := by
    have h2 : 0 ≤ ((x * by_ : Nat) : Int) := by omega
    push_cast at h2; exact h2
   obtain ⟨y, hy⟩ : ∃ y, UInt8.ofNat (T % 256) = y := ⟨_, rfl⟩
   have hyT := u8_mod T
   rw [hy] at hyT hst
   have hq1 : (T : Int).tmod 256 = (y.toNat : Int) := by rw [hyT, Int.tmod_eq_emod_of_nonneg (by omega)]; omega
   have hq1b : (T : Int) % 256 = (y.toNat : Int) := by rw [hyT]; omega
   have hy256 := y.toNat_lt
   obtain ⟨q, hq⟩ : ∃ q, T / 256 = q := ⟨_, rfl⟩
   rw [hq] at hst
   have hq2 : (T : Int).tdiv 256 = (q : Int) := by rw [Int.tdiv_eq_ediv_of_nonneg (by omega)]; omega
   have hq2b : (T : Int) / 256 = (q : Int) := by omega
   have hqle : q ≤ 65536 := by omega
   obtain ⟨g1, c2, W1, hr1, ho1⟩ := HO.out.add y (y.toNat : Int) rfl (by omega) (k + 1) (by omega)
   rw [hok] at hr1
   have HR1 := Lib.hid hr1
   have HO1 := Lib.hid ho1
   have HST : Hid (leV (o ++ [y]) + 256 ^ (o ++ [y]).length * q = leV (l.take (k + 1)) * by_ + more) := Lib.hid (by
    rw [List.length_append, List.length_singleton, hst, htk, hok, Nat.add_mul, Nat.mul_assoc]
    omega)
   have HOK : Hid ((o ++ [y]).length = k + 1) := Lib.hid (by rw [List.length_append, hok]; rfl)
   have HHY := Lib.hid hyT
   clear hcell htk hst hT hyT hy hq hr1 ho1 hok
   have hki : (k : Int) < (l.length : Int) := by omega
   go_wp2_with (first | (at_builtin; refine Lib.wpList_append_run _ rfl _ _ _ _ rfl _ _ rfl rfl _ _ HR1.out ?_) | fail)
   go_roundg (gk - 1)
   case measure => omega
   case rel => exact ⟨k + 1, q, o ++ [y], by omega, HOK.out, hqle, HST.out, rfl, by go_num, HO1.out⟩
  ·have hke : k = l.length := by omega
   have HV2 : Hid (leV o + 256 ^ o.length * m = leV l * by_ + more) := Lib.hid (by rw [HV.out, hke, List.take_length])
   have hki : ¬ (k : Int) < (l.length : Int) := by omega
   have hk5 : k ≤ 500000 := by omega
   clear HV hk hke hkg HN
   go_wp2_with fail
   go_loopg [2, 7] m (fun g s2 s7 wr => ∃ (m : Nat) (o : List UInt8), g = m ∧ o.length + m ≤ 600000 ∧ leV o + 256 ^ o.length * m = leV l * by_ + more ∧ s2 = .int .i64 m ∧ Own w wr s7 o)
   case atStart => exact ⟨m, o, rfl, by omega, HV2.out, rfl, by rw [← hok]; exact HO.out⟩
   case round =>
    clear HV2 HO hm hok hk5 hki
    obtain ⟨m, o, rfl, hlen, hval, rfl, hown⟩ := hrel
    obtain ⟨po, co, rfl⟩ := hown.form
    have HV := Lib.hid hval
    have HO := Lib.hid hown
    clear hval hown
    by_cases h0 : gk = 0
    ·subst h0
     have hval : leV (trimL o) = leV l * by_ + more := by rw [trim_val, ← HV.out]; simp
     have HT : Hid (∀ W : World, Below wr.heap.size wr W → Calls Tryz.prog 202 #[.slice po o.length co] W fun e w' => (∃ v', e = .returned v' ∧ IsNum w' v' (leV l * by_ + more)) ∧ w' = W) := Lib.hid fun W hW =>
      (trim_any _ o W (HO.out.num.go hW) (by omega)).mono (by
       rintro e w' ⟨⟨v', rfl, hn⟩, rfl⟩
       exact ⟨⟨v', rfl, trimL o, hn, hval, trim_norm o⟩, rfl⟩)
     clear hval HV
     go_wp2_with fail
     refine (HT.out _ (Below.refl _ _)).mono ?_
     rintro e w5 ⟨⟨v', rfl, hn⟩, rfl⟩
     have HNN := Lib.hid hn
     clear hn
     go_wp2_with fail
     go_ret
     exact ⟨⟨_, rfl, HNN.out⟩, HO.out.below⟩
    ·have hst := times_step o _ gk 0 gk HV.out (Nat.add_zero _)
     obtain ⟨y, hy⟩ : ∃ y, UInt8.ofNat (gk % 256) = y := ⟨_, rfl⟩
     have hyT := u8_mod gk
     rw [hy] at hyT hst
     have hq1 : (gk : Int).tmod 256 = (y.toNat : Int) := by rw [hyT, Int.tmod_eq_emod_of_nonneg (by omega)]; omega
     have hq1b : (gk : Int) % 256 = (y.toNat : Int) := by rw [hyT]; omega
     have hy256 := y.toNat_lt
     obtain ⟨q, hq⟩ : ∃ q, gk / 256 = q := ⟨_, rfl⟩
     rw [hq, Nat.mul_zero, Nat.add_zero] at hst
     have hq2 : (gk : Int).tdiv 256 = (q : Int) := by rw [Int.tdiv_eq_ediv_of_nonneg (by omega)]; omega
     have hq2b : (gk : Int) / 256 = (q : Int) := by omega
     obtain ⟨n, hn⟩ : ∃ n, o.length = n := ⟨_, rfl⟩
     obtain ⟨g1, c2, W1, hr1, ho1⟩ := HO.out.add y (y.toNat : Int) rfl (by omega) (n + 1) (by omega)
     rw [hn] at hr1 ⊢
     have HR1 := Lib.hid hr1
     have HO1 := Lib.hid ho1
     have HST : Hid (leV (o ++ [y]) + 256 ^ (o ++ [y]).length * q = leV l * by_ + more) := Lib.hid (by
      rw [List.length_append, List.length_singleton, hst, Nat.add_zero])
     have HOK : Hid ((o ++ [y]).length + q ≤ 600000) := Lib.hid (by rw [List.length_append, List.length_singleton]; omega)
     have HLN : Hid (n + 1 = (o ++ [y]).length) := Lib.hid (by rw [List.length_append, hn]; rfl)
     have HQ : Hid (q < gk) := Lib.hid (by omega)
     have hg0 : (0 : Int) < (gk : Int) := by omega
     have hgle : gk ≤ 600000 := by omega
     clear hst hyT hy hq hr1 ho1 h0 hlen hn
     go_wp2_with (first | (at_builtin; refine Lib.wpList_append_run _ rfl _ _ _ _ rfl _ _ rfl rfl _ _ HR1.out ?_) | fail)
     go_roundg q
     case measure => exact HQ.out
     case rel => exact ⟨q, o ++ [y], rfl, HOK.out, HST.out, rfl, HO1.out⟩
theorem times_any (v : Value) (n by_ more K : Nat) (w : World) (h : IsNum w v n) (hK : K ≤ 500000) (hn : n < 256 ^ K) (hb1 : by_ ≤ 256) (hm1 : more ≤ 65536) :
  Calls Tryz.prog 203 #[v, .int .i64 by_, .int .i64 more] w fun e w' => (∃ v', e = .returned v' ∧ IsNum w' v' (n * by_ + more)) ∧ Below w.heap.size w w' := by
 obtain ⟨l, h1, rfl, h3⟩ := h
 exact times_list v l by_ more w h1 (Nat.le_trans (norm_len l h3 K hn) hK) hb1 hm1
theorem large_any (n : Nat) (w : World) (hn : n < 18446744073709551616) :
  Calls Tryz.prog 167 #[.int .u64 n] w fun e w' => (∃ v', e = .returned v' ∧ IsNum w' v' n) ∧ Below w.heap.size w w' := by
 go_enter Tryz.func167, Tryz.ntmps167
 go_wp2_with fail
 go_loopg [0, 3] n (fun g s0 s3 wr => ∃ (o : List UInt8), g ≤ n ∧ leV o + 256 ^ o.length * g = n ∧ (g = 0 → NormB o) ∧ s0 = .int .u64 g ∧ Own w wr s3 o)
 case atStart => exact ⟨[], Nat.le_refl _, by simp [leV], fun _ => by simp [NormB], rfl, Own.start w⟩
 case round =>
  obtain ⟨o, hg, hval, hno, rfl, hown⟩ := hrel
  obtain ⟨po, co, rfl⟩ := hown.form
  have HV := Lib.hid hval
  have HO := Lib.hid hown
  have HN := Lib.hid hno
  clear hval hown hno
  by_cases h0 : gk = 0
  ·subst h0
   clear hg
   go_wp2_with fail
   go_ret
   exact ⟨⟨_, rfl, o, HO.out.num, by have := HV.out; simpa using this, by first | exact HN.out rfl | exact HN.out trivial⟩, HO.out.below⟩
  ·have hst := times_step o _ gk 0 gk HV.out (Nat.add_zero _)
   have hlen : o.length < 8 := by
    have h1 : 256 ^ o.length ≤ 256 ^ o.length * gk := Nat.le_mul_of_pos_right _ (by omega)
    have h2 := HV.out
    have h3 : 256 ^ o.length < 256 ^ 8 := by
     have : (256 : Nat) ^ 8 = 18446744073709551616 := by decide
     omega
    exact (Nat.pow_lt_pow_iff_right (by decide)).1 h3
   obtain ⟨y, hy⟩ : ∃ y, UInt8.ofNat (gk % 256) = y := ⟨_, rfl⟩
   have hyT := u8_mod gk
   rw [hy] at hyT hst
   have hq1 : (gk : Int).tmod 256 = (y.toNat : Int) := by rw [hyT, Int.tmod_eq_emod_of_nonneg (by omega)]; omega
   have hq1b : (gk : Int) % 256 = (y.toNat : Int) := by rw [hyT]; omega
   have hy256 := y.toNat_lt
   obtain ⟨q, hq⟩ : ∃ q, gk / 256 = q := ⟨_, rfl⟩
   rw [hq, Nat.mul_zero, Nat.add_zero] at hst
   have hq2 : (gk : Int).tdiv 256 = (q : Int) := by rw [Int.tdiv_eq_ediv_of_nonneg (by omega)]; omega
   have hq2b : (gk : Int) / 256 = (q : Int) := by omega
   obtain ⟨n', hn'⟩ : ∃ n', o.length = n' := ⟨_, rfl⟩
   obtain ⟨g1, c2, W1, hr1, ho1⟩ := HO.out.add y (y.toNat : Int) rfl (by omega) (n' + 1) (by omega)
   rw [hn'] at hr1 ⊢
   have HR1 := Lib.hid hr1
   have HO1 := Lib.hid ho1
   have HST : Hid (leV (o ++ [y]) + 256 ^ (o ++ [y]).length * q = n) := Lib.hid (by
    rw [List.length_append, List.length_singleton, hst, Nat.add_zero])
   have HLN : Hid (n' + 1 = (o ++ [y]).length) := Lib.hid (by rw [List.length_append, hn']; rfl)
   have HQ : Hid (q < gk) := Lib.hid (by omega)
   have HNN : Hid (q = 0 → NormB (o ++ [y])) := Lib.hid (fun hq0 => by
    unfold NormB
    rw [List.getLast?_append]
    show some y ≠ some 0
    intro h
    rw [Option.some.injEq] at h
    rw [h] at hyT
    have h2 : ((0 : UInt8).toNat : Int) = 0 := rfl
    omega)
   have hg0 : (0 : Int) < (gk : Int) := by omega
   have hqg : q ≤ gk := by omega
   clear hst hyT hy hq hr1 ho1 h0 hlen hn'
   go_wp2_with (first | (at_builtin; refine Lib.wpList_append_run _ rfl _ _ _ _ rfl _ _ rfl rfl _ _ HR1.out ?_) | fail)
   go_roundg q
   case measure => exact HQ.out
   case rel => exact ⟨o ++ [y], by have := HQ.out; omega, HST.out, HNN.out, rfl, HO1.out⟩
end Go.Proofs.YtckaoeloofbklaaGreatDoor
namespace Go.Proofs.YtckaoeloofbklaaGreatDoor
open Go Go.RowKit Go.Sort Go.Lib
theorem sub_byte (x y r : Nat) (hx : x < 256) (hy : y < 256) (hr : r ≤ 1) : ∃ (p : UInt8) (r' : Nat), x + 256 * r' = p.toNat + y + r ∧ ((r' = 0 ∧ (x : Int) - r - y = (p.toNat : Int)) ∨ (r' = 1 ∧ (x : Int) - r - y < 0 ∧ (x : Int) - r - y + 256 = (p.toNat : Int))) := by
 by_cases h : y + r ≤ x
 ·refine ⟨UInt8.ofNat (x - y - r), 0, ?_, .inl ⟨rfl, ?_⟩⟩ <;> rw [UInt8.toNat_ofNat', Nat.mod_eq_of_lt (by omega)] <;> omega
 ·refine ⟨UInt8.ofNat (x + 256 - y - r), 1, ?_, .inr ⟨rfl, by omega, ?_⟩⟩ <;> rw [UInt8.toNat_ofNat', Nat.mod_eq_of_lt (by omega)] <;> omega
theorem minus_list (va vb : Value) (a b : List UInt8) (w : World) (ha : NumB w va a) (hb : NumB w vb b) (_na : NormB a) (nb : NormB b) (la : a.length ≤ 500000) (hle : leV b ≤ leV a) :
  Calls Tryz.prog 204 #[va, vb] w fun e w' => (∃ v', e = .returned v' ∧ IsNum w' v' (leV a - leV b)) ∧ Below w.heap.size w w' := by
 have hlb : b.length ≤ a.length := by
  rcases Nat.lt_or_ge a.length b.length with h | h
  ·have := norm_lt a b nb h; omega
  ·exact h
 obtain ⟨pa, ca, rfl⟩ := ha.form
 obtain ⟨pb, cb, rfl⟩ := hb.form
 have HA := Lib.hid ha
 have HB := Lib.hid hb
 have HLE := Lib.hid hle
 clear ha hb nb hle
 go_enter Tryz.func204, Tryz.ntmps204
 go_wp2_with fail
 go_loopg [5, 6, 7, 8] a.length (fun g s5 s6 s7 _ wr => ∃ (k r : Nat) (o : List UInt8), k + g = a.length ∧ o.length = k ∧ r ≤ 1 ∧ leV (a.take k) + 256 ^ o.length * r = leV o + leV (b.take k) ∧ s6 = .int .i64 r ∧ s7 = .int .i64 k ∧ Own w wr s5 o)
 case atStart => exact ⟨0, 0, [], by omega, rfl, by omega, by simp [leV], rfl, rfl, Own.start w⟩
 case round =>
  obtain ⟨k, r, o, hkg, hok, hr, hval, rfl, rfl, hown⟩ := hrel
  obtain ⟨po, co, rfl⟩ := hown.form
  have HV := Lib.hid hval
  have HO := Lib.hid hown
  clear hval hown
  rw [hok]
  by_cases hk : k < a.length
  ·obtain ⟨ba, oa, c, hv, hlc, hbs, hcell⟩ := HA.out.row (by omega)
   simp only [Value.slice.injEq] at hv
   obtain ⟨rfl, _, rfl⟩ := hv
   have c1 : wr.cell? ⟨ba, oa + k, Option.none⟩ = some (.int .u8 (a[k].toNat : Int)) := (HO.out.below.cell (p := ⟨ba, oa + k, Option.none⟩) hbs).trans (hcell k a[k] (List.getElem?_eq_getElem hk))
   have hx := a[k].toNat_lt
   have htk := leV_take_succ a k hk
   generalize a[k].toNat = x at *
   have hki : (k : Int) < (a.length : Int) := by omega
   by_cases hkb : k < b.length
   ·obtain ⟨bb, ob, c', hv', hlc', hbs', hcell'⟩ := HB.out.row (by omega)
    simp only [Value.slice.injEq] at hv'
    obtain ⟨rfl, _, rfl⟩ := hv'
    have c1' : wr.cell? ⟨bb, ob + k, Option.none⟩ = some (.int .u8 (b[k].toNat : Int)) := (HO.out.below.cell (p := ⟨bb, ob + k, Option.none⟩) hbs').trans (hcell' k b[k] (List.getElem?_eq_getElem hkb))
    have hy := b[k].toNat_lt
    have htk' := leV_take_succ b k hkb
    generalize b[k].toNat = y at *
    have hkj : (k : Int) < (b.length : Int) := by omega
    obtain ⟨p, r', hp, hcase⟩ := sub_byte x y r hx hy hr
    have hst := minus_step o _ _ _ r x y r' p HV.out rfl hp
    have hp256 := p.toNat_lt
    have hri : (r : Int) ≤ 1 := by omega
    obtain ⟨d0, hd0⟩ : ∃ d : Int, (x : Int) - (r : Int) = d := ⟨_, rfl⟩
    have hb0 : -1 ≤ d0 ∧ d0 ≤ 255 := by omega
    rw [hd0] at hcase
    obtain ⟨g1, c2, W1, hr1, ho1⟩ := HO.out.add p (p.toNat : Int) rfl (by omega) (k + 1) (by omega)
    rw [hok] at hr1
    have HR1 := Lib.hid hr1
    have HO1 := Lib.hid ho1
    have HST : Hid (leV (a.take (k + 1)) + 256 ^ (o ++ [p]).length * r' = leV (o ++ [p]) + leV (b.take (k + 1))) := Lib.hid (by
     rw [hok] at hst
     rw [List.length_append, List.length_singleton, hok, htk, htk', hst])
    have HOK : Hid ((o ++ [p]).length = k + 1) := Lib.hid (by rw [List.length_append, hok]; rfl)
    have hr'1 : r' ≤ 1 := by omega
    obtain ⟨hb01, hb02⟩ := hb0
    clear hcell hcell' htk htk' hst hr1 ho1 hok hp
    rcases hcase with ⟨rfl, hd1⟩ | ⟨rfl, hneg, hd1⟩
    ·have hnn : ¬ ((p.toNat : Int) < 0) := by omega
     go_wp2_with (first | (at_builtin; refine Lib.wpList_append_run _ rfl _ _ _ _ rfl _ _ rfl rfl _ _ HR1.out ?_) | fail)
     go_roundg (gk - 1)
     case measure => omega
     case rel => exact ⟨k + 1, 0, o ++ [p], by omega, HOK.out, hr'1, HST.out, rfl, by go_num, HO1.out⟩
    ·obtain ⟨d1, hdd⟩ : ∃ d : Int, d0 - (y : Int) = d := ⟨_, rfl⟩
     rw [hdd] at hneg hd1
     have hb1 : -256 ≤ d1 := by omega
     go_wp2_with (first | (at_builtin; refine Lib.wpList_append_run _ rfl _ _ _ _ rfl _ _ rfl rfl _ _ HR1.out ?_) | fail)
     go_roundg (gk - 1)
     case measure => omega
     case rel => exact ⟨k + 1, 1, o ++ [p], by omega, HOK.out, hr'1, HST.out, rfl, by go_num, HO1.out⟩
   ·have htk' : b.take (k + 1) = b.take k := by rw [List.take_of_length_le (by omega), List.take_of_length_le (by omega)]
    have hkj : ¬ (k : Int) < (b.length : Int) := by omega
    obtain ⟨p, r', hp, hcase⟩ := sub_byte x 0 r hx (by decide) hr
    have hst := minus_step o _ _ _ r x 0 r' p HV.out rfl hp
    have hp256 := p.toNat_lt
    have hri : (r : Int) ≤ 1 := by omega
    rw [show ((0 : Nat) : Int) = 0 from rfl, Int.sub_zero] at hcase
    obtain ⟨g1, c2, W1, hr1, ho1⟩ := HO.out.add p (p.toNat : Int) rfl (by omega) (k + 1) (by omega)
    rw [hok] at hr1
    have HR1 := Lib.hid hr1
    have HO1 := Lib.hid ho1
    have HST : Hid (leV (a.take (k + 1)) + 256 ^ (o ++ [p]).length * r' = leV (o ++ [p]) + leV (b.take (k + 1))) := Lib.hid (by
     rw [hok] at hst
     rw [List.length_append, List.length_singleton, hok, htk, htk', hst, Nat.mul_zero, Nat.add_zero])
    have HOK : Hid ((o ++ [p]).length = k + 1) := Lib.hid (by rw [List.length_append, hok]; rfl)
    have hr'1 : r' ≤ 1 := by omega
    clear hcell htk htk' hst hr1 ho1 hok hp
    rcases hcase with ⟨rfl, hd1⟩ | ⟨rfl, hneg, hd1⟩
    ·have hnn : ¬ ((p.toNat : Int) < 0) := by omega
     go_wp2_with (first | (at_builtin; refine Lib.wpList_append_run _ rfl _ _ _ _ rfl _ _ rfl rfl _ _ HR1.out ?_) | fail)
     go_roundg (gk - 1)
     case measure => omega
     case rel => exact ⟨k + 1, 0, o ++ [p], by omega, HOK.out, hr'1, HST.out, rfl, by go_num, HO1.out⟩
    ·obtain ⟨d1, hdd⟩ : ∃ d : Int, (x : Int) - (r : Int) = d := ⟨_, rfl⟩
     rw [hdd] at hneg hd1
     have hb1 : -256 ≤ d1 := by omega
     go_wp2_with (first | (at_builtin; refine Lib.wpList_append_run _ rfl _ _ _ _ rfl _ _ rfl rfl _ _ HR1.out ?_) | fail)
     go_roundg (gk - 1)
     case measure => omega
     case rel => exact ⟨k + 1, 1, o ++ [p], by omega, HOK.out, hr'1, HST.out, rfl, by go_num, HO1.out⟩
  ·have hke : k = a.length := by omega
   have hres : leV (trimL o) = leV a - leV b := by
    have h1 := HV.out
    rw [hke, List.take_length, List.take_of_length_le (by omega)] at h1
    have h2 := leV_lt o
    have h3 := HLE.out
    rw [trim_val]
    have hr0 : r = 0 ∨ r = 1 := by omega
    rcases hr0 with rfl | rfl
    ·rw [Nat.mul_zero] at h1; omega
    ·rw [Nat.mul_one] at h1; omega
   have hki : ¬ (k : Int) < (a.length : Int) := by omega
   have HT : Hid (∀ W : World, Below wr.heap.size wr W → Calls Tryz.prog 202 #[.slice po k co] W fun e w' => (∃ v', e = .returned v' ∧ IsNum w' v' (leV a - leV b)) ∧ w' = W) := Lib.hid fun W hW => by
    have := trim_any (.slice po o.length co) o W (HO.out.num.go hW) (by omega)
    rw [hok] at this
    refine this.mono ?_
    rintro e w' ⟨⟨v', rfl, hn⟩, rfl⟩
    exact ⟨⟨v', rfl, trimL o, hn, hres, trim_norm o⟩, rfl⟩
   clear HV hres HLE hk hke hkg HA HB
   go_wp2_with fail
   refine (HT.out _ (Below.refl _ _)).mono ?_
   rintro e w5 ⟨⟨v', rfl, hn⟩, rfl⟩
   have HNN := Lib.hid hn
   clear hn
   go_wp2_with fail
   go_ret
   exact ⟨⟨_, rfl, HNN.out⟩, HO.out.below⟩
end Go.Proofs.YtckaoeloofbklaaGreatDoor
namespace Go.Proofs.YtckaoeloofbklaaGreatDoor
open Go Go.RowKit Go.Sort Go.Lib
theorem cmp_any (va vb : Value) (x y K : Nat) (w : World) (ha : IsNum w va x) (hb : IsNum w vb y) (hK : K ≤ 1000000) (hx : x < 256 ^ K) (hy : y < 256 ^ K) :
  Calls Tryz.prog 169 #[va, vb] w fun e w' => e = .returned (.int .i64 (cmpN x y)) ∧ Below w.heap.size w w' := by
 obtain ⟨a, h1, rfl, h3⟩ := ha
 obtain ⟨b, g1, rfl, g3⟩ := hb
 exact cmp_list va vb a b w h1 g1 h3 g3 (Nat.le_trans (norm_len a h3 K hx) hK) (Nat.le_trans (norm_len b g3 K hy) hK)
theorem minus_any (va vb : Value) (x y K : Nat) (w : World) (ha : IsNum w va x) (hb : IsNum w vb y) (hK : K ≤ 500000) (hx : x < 256 ^ K) (hle : y ≤ x) :
  Calls Tryz.prog 204 #[va, vb] w fun e w' => (∃ v', e = .returned v' ∧ IsNum w' v' (x - y)) ∧ Below w.heap.size w w' := by
 obtain ⟨a, h1, rfl, h3⟩ := ha
 obtain ⟨b, g1, rfl, g3⟩ := hb
 exact minus_list va vb a b w h1 g1 h3 g3 (Nat.le_trans (norm_len a h3 K hx) hK) hle
theorem trim_num (v : Value) (x K : Nat) (w : World) (h : IsNum w v x) (hK : K ≤ 1000000) (hx : x < 256 ^ K) :
  Calls Tryz.prog 202 #[v] w fun e w' => (∃ v', e = .returned v' ∧ IsNum w' v' x) ∧ w' = w := by
 obtain ⟨l, h1, rfl, h3⟩ := h
 refine (trim_any v l w h1 (Nat.le_trans (norm_len l h3 K hx) hK)).mono ?_
 rintro e w' ⟨⟨v', rfl, hn⟩, rfl⟩
 exact ⟨⟨v', rfl, trimL l, hn, trim_val l, trim_norm l⟩, rfl⟩
def BitsAre (x n : Nat) : Prop := x < 2 ^ n ∧ (0 < n → 2 ^ (n - 1) ≤ x)
theorem bit_step (X k : Nat) (h : X < 2 ^ (k + 1)) : (X / 2 ^ k % 2 = 0 → X < 2 ^ k) ∧ (X / 2 ^ k % 2 ≠ 0 → 2 ^ k ≤ X) := by
 have hp := Nat.two_pow_pos k
 rw [Nat.pow_succ] at h
 constructor
 ·intro h0
  rcases Nat.lt_or_ge X (2 ^ k) with g | g
  ·exact g
  ·exfalso
   have : X / 2 ^ k = 1 := by
    rw [Nat.div_eq_iff hp]; omega
   omega
 ·intro h0
  rcases Nat.lt_or_ge X (2 ^ k) with g | g
  ·rw [Nat.div_eq_of_lt g] at h0; simp at h0
  ·exact g
theorem bits_list (v : Value) (l : List UInt8) (w : World) (h : NumB w v l) (hl : l.length ≤ 500000) :
  Calls Tryz.prog 227 #[v] w fun e w' => (∃ n : Nat, e = .returned (.int .i64 n) ∧ BitsAre (leV l) n) ∧ w' = w := by
 obtain ⟨pv, cv, rfl⟩ := h.form
 have HN := Lib.hid h
 clear h
 go_enter Tryz.func227, Tryz.ntmps227
 go_wp2_with fail
 go_loopg [3] (l.length * 8) (fun g s3 wr => g ≤ l.length * 8 ∧ leV l < 2 ^ g ∧ s3 = .int .i64 g ∧ wr = w)
 case atStart =>
  refine ⟨Nat.le_refl _, ?_, by go_num, rfl⟩
  have := leV_lt l
  rw [Nat.mul_comm, Nat.pow_mul]
  exact this
 case round =>
  obtain ⟨hg, hlt, rfl, rfl⟩ := hrel
  have HLT := Lib.hid hlt
  clear hlt
  by_cases h0 : gk = 0
  ·subst h0
   clear hg
   go_wp2_with fail
   go_ret
   exact ⟨⟨0, rfl, HLT.out, fun h => absurd h (by decide)⟩, rfl⟩
  ·obtain ⟨k, rfl⟩ : ∃ k, gk = k + 1 := ⟨gk - 1, by omega⟩
   clear h0
   have hk8 : k / 8 < l.length := by omega
   obtain ⟨b, o, c, hv, hlc, hbs, hcell⟩ := HN.out.row (by omega)
   simp only [Value.slice.injEq] at hv
   obtain ⟨rfl, _, rfl⟩ := hv
   have c1 := hcell (k / 8) l[k / 8] (List.getElem?_eq_getElem hk8)
   have hbit := leV_bit l k hk8
   have hst := bit_step (leV l) k HLT.out
   rw [← hbit] at hst
   have hx := l[k / 8].toNat_lt
   generalize l[k / 8].toNat = x at *
   obtain ⟨j, hj⟩ : ∃ j, k / 8 = j := ⟨_, rfl⟩
   obtain ⟨m, hm⟩ : ∃ m, k % 8 = m := ⟨_, rfl⟩
   rw [hj] at c1 hk8
   rw [hm] at hst
   have hm8 : m < 8 := by omega
   have hkp : ((k + 1 : Nat) : Int) - 1 = (k : Int) := by omega
   have hkp2 : (k : Int) + 1 - 1 = (k : Int) := by omega
   have hq1 : (k : Int).tdiv 8 = (j : Int) := by rw [Int.tdiv_eq_ediv_of_nonneg (by omega)]; omega
   have hq1b : (k : Int) / 8 = (j : Int) := by omega
   have hq2 : (k : Int).tmod 8 = (m : Int) := by rw [Int.tmod_eq_emod_of_nonneg (by omega)]; omega
   have hq2b : (k : Int) % 8 = (m : Int) := by omega
   have hjl : (j : Int) < (l.length : Int) := by omega
   clear hcell hbit hj hm
   obtain ⟨q, hq⟩ : ∃ q, x / 2 ^ m = q := ⟨_, rfl⟩
   have hq3 : (x : Int) / 2 ^ m = (q : Int) := by rw [← hq]; push_cast; rfl
   rw [hq] at hst
   have HST := Lib.hid hst
   clear hst hq
   by_cases hr : q % 2 = 0
   ·have hq4 : (q : Int).tmod 2 = 0 := by rw [Int.tmod_eq_emod_of_nonneg (by omega)]; omega
    have HL := Lib.hid (HST.out.1 hr)
    clear hr
    go_wp2_with fail
    go_roundg k
    case measure => omega
    case rel => exact ⟨by omega, HL.out, by go_num, rfl⟩
   ·have hq4 : (q : Int).tmod 2 = 1 := by rw [Int.tmod_eq_emod_of_nonneg (by omega)]; omega
    have HL := Lib.hid (HST.out.2 hr)
    clear hr
    go_wp2_with fail
    go_ret
    exact ⟨⟨k + 1, rfl, HLT.out, fun _ => HL.out⟩, rfl⟩
theorem bits_any (v : Value) (x K : Nat) (w : World) (h : IsNum w v x) (hK : K ≤ 500000) (hx : x < 256 ^ K) :
  Calls Tryz.prog 227 #[v] w fun e w' => (∃ n : Nat, e = .returned (.int .i64 n) ∧ BitsAre x n) ∧ w' = w := by
 obtain ⟨l, h1, rfl, h3⟩ := h
 exact bits_list v l w h1 (Nat.le_trans (norm_len l h3 K hx) hK)
theorem ten_any (v : Value) (x n K : Nat) (w : World) (h : IsNum w v x) (hK : K ≤ 300000) (hx : x < 256 ^ K) (hn : n ≤ 100000) :
  Calls Tryz.prog 170 #[v, .int .i64 n] w fun e w' => (∃ v', e = .returned v' ∧ IsNum w' v' (x * 10 ^ n)) ∧ Below w.heap.size w w' := by
 have HN := Lib.hid h
 have HB : Hid (∀ k, k ≤ n → x * 10 ^ k < 256 ^ (K + k)) := Lib.hid fun k _ => by
  rw [Nat.pow_add]
  exact Nat.lt_of_lt_of_le ((Nat.mul_lt_mul_right (Nat.pow_pos (by decide))).2 hx) (Nat.mul_le_mul_left _ (Nat.pow_le_pow_left (by decide) k))
 clear h hx
 go_enter Tryz.func170, Tryz.ntmps170
 go_wp2_with fail
 go_loopg [0, 5] n (fun g s0 s5 wr => ∃ k : Nat, k + g = n ∧ s5 = .int .i64 k ∧ Below w.heap.size w wr ∧ IsNum wr s0 (x * 10 ^ k))
 case atStart => exact ⟨0, by omega, rfl, Below.refl _ _, by rw [Nat.pow_zero, Nat.mul_one]; exact HN.out⟩
 case round =>
  obtain ⟨k, hk, rfl, hb, hnum⟩ := hrel
  have HBW := Lib.hid hb
  have HNK := Lib.hid hnum
  clear hb hnum
  by_cases hkn : k < n
  ·have HT : Hid (∀ W : World, Below wr.heap.size wr W → Calls Tryz.prog 203 #[u0, .int .i64 10, .int .i64 0] W fun e w' => (∃ v', e = .returned v' ∧ IsNum w' v' (x * 10 ^ (k + 1))) ∧ Below W.heap.size W w') := Lib.hid fun W hW => by
    have := times_any u0 (x * 10 ^ k) 10 0 (K + k) W (HNK.out.go hW) (by omega) (HB.out k (by omega)) (by decide) (by decide)
    rwa [Nat.add_zero, Nat.mul_assoc, ← Nat.pow_succ] at this
   have hki : (k : Int) < (n : Int) := by omega
   go_wp2_with fail
   refine (HT.out _ (Below.refl _ _)).mono ?_
   rintro e w5 ⟨⟨v', rfl, hn5⟩, hb5⟩
   have H5 := Lib.hid hn5
   have B5 := Lib.hid (HBW.out.trans (hb5.mono HBW.out.size))
   clear hn5 hb5
   go_wp2_with fail
   go_roundg (gk - 1)
   case measure => omega
   case rel => exact ⟨k + 1, by omega, by go_num, B5.out, H5.out⟩
  ·obtain rfl : k = n := by omega
   clear hkn hk
   go_wp2_with fail
   go_ret
   exact ⟨⟨_, rfl, HNK.out⟩, HBW.out⟩
theorem made_zeros (n : Nat) : (madeCells (Value.int .u8 0).cells (n * 1)).toList = (List.replicate n (0 : UInt8)).map encB := by
 unfold madeCells
 rw [Nat.mul_one]
 apply List.ext_getElem
 ·simp
 ·intro i h1 h2
  simp [Value.cells, encB]
  rw [Nat.mod_one]; rfl
theorem leV_shift (n : Nat) (l : List UInt8) : leV (List.replicate n 0 ++ l) = leV l * 256 ^ n := by
 rw [leV_app, leV_zeros _ (fun x hx => List.eq_of_mem_replicate hx), List.length_replicate, Nat.zero_add, Nat.mul_comm]
theorem Own.made (w : World) (n : Nat) (hn : n ≤ 900000) :
  ∃ W, (Instr.makeSlice 28 (.int .i64 (n : Int)) (.int .i64 (n : Int))).run Tryz.prog w = .ok (.slice (some ⟨w.heap.size, 0, Option.none⟩) n n) W ∧
   Own w W (.slice (some ⟨w.heap.size, 0, Option.none⟩) n n) (List.replicate n 0) := by
 obtain ⟨i, hi, hz0, hz1, hz2⟩ := info_parts info_u8
 obtain ⟨W, h1, h2, h3⟩ := run_make_full (P := Tryz.prog) w w.heap.size 28 5 i _ 1 Tryz.underlying28 hi hz0 hz1 .i64 .i64 n (by rw [hz2]; omega) (by unfold maxLen; omega) (Nat.le_refl _)
 rw [made_zeros] at h2
 refine ⟨W, h1, ⟨by simpa using h2, fun _ h => h.elim, fun _ h => h.elim, fun _ h => h.elim, ⟨h3.os, h3.tape, h3.output, h3.size, fun k hk => h3.block k hk (by simp)⟩, Nat.le_refl _⟩⟩
theorem Own.app {w W : World} {v : Value} {l : List UInt8} (h : Own w W v l) (vx : Value) (xs : List UInt8) (hx : NumB W vx xs) (hsz : l.length + xs.length ≤ 1000000) (hnn : v ≠ .slice Option.none 0 0) :
  ∃ v' W', (Builtin.append_ #[28, 28] 28 #[v, vx]).run Tryz.prog W = .ok v' W' ∧ Own w W' v' (l ++ xs) := by
 obtain ⟨i, hi, hz0, hz1, hz2⟩ := info_parts info_u8
 have hble : w.heap.size ≤ W.heap.size := h.below.size
 rcases hx with ⟨rfl, rfl⟩ | ⟨b, o, c, rfl, hc, hb, hcell⟩
 ·rw [List.append_nil]
  rcases h.own.2 with ⟨h1, _⟩ | ⟨g, cap, cur, h1, h2, h3, h4, h5, h6, h7⟩
  ·exact absurd h1 hnn
  ·refine ⟨v, W, ?_, h⟩
   rw [h1]
   have ht := Tryz.underlying28
   simp [Builtin.append_, run_underlying ht, sizeOf, typeInfo, hi, Builtin.lenOf, Builtin.firstCells, loadCells]
   rw [if_pos h4]
   simp [storeCells]
 ·obtain ⟨v', W', h1, h2, h3, _⟩ := run_append_own_wide (P := Tryz.prog) W w.heap.size 28 28 5 i _ 1 1 Tryz.underlying28 hi hz0 hz1 hz2 rfl (by decide) v l.length (l.map encB) h.own ⟨b, o, Option.none⟩ xs.length c (xs.map encB) (by simp) (fun j u hu => by
   rw [List.getElem?_map, Option.map_eq_some_iff] at hu
   obtain ⟨x, hx1, rfl⟩ := hu
   rw [add_plain]
   exact hcell j x hx1) (encB_one xs) (by unfold maxLen; omega) (by omega) hble
  rw [← List.length_append, ← List.map_append] at h2
  refine ⟨v', W', h1, ⟨h2, fun _ h => h.elim, fun _ h => h.elim, fun _ h => h.elim, ?_, Nat.le_refl _⟩⟩
  exact h.below.trans ⟨h3.os, h3.tape, h3.output, h3.size, fun k hk => h3.block k (Nat.lt_of_lt_of_le hk hble) (fun e => by
   have := (h.own.lt k e.symm).1
   omega)⟩
theorem shift_any (v : Value) (x n K : Nat) (w : World) (h : IsNum w v x) (hK : K ≤ 300000) (hx : x < 256 ^ K) (hn : n ≤ 100000) :
  Calls Tryz.prog 168 #[v, .int .i64 n] w fun e w' => (∃ v', e = .returned v' ∧ IsNum w' v' (x * 2 ^ n)) ∧ Below w.heap.size w w' := by
 obtain ⟨l, hl1, hl2, hl3⟩ := h
 have hll := norm_len l hl3 K (by rw [hl2]; exact hx)
 obtain ⟨j, hj⟩ : ∃ j, n / 8 = j := ⟨_, rfl⟩
 obtain ⟨m, hm⟩ : ∃ m, n % 8 = m := ⟨_, rfl⟩
 have hm8 : m < 8 := by omega
 have hj5 : j ≤ 100000 := by omega
 have hnm : n = 8 * j + m := by omega
 obtain ⟨W1, hmk, hown⟩ := Own.made w j (by omega)
 obtain ⟨v2, W2, happ, hown2⟩ := hown.app v l (hl1.go hown.below) (by rw [List.length_replicate]; omega) (by simp)
 obtain ⟨p2, c2, rfl⟩ := hown2.form
 have hk2 : (List.replicate j 0 ++ l).length = j + l.length := by rw [List.length_append, List.length_replicate]
 have hval : leV (List.replicate j 0 ++ l) * 2 ^ m = x * 2 ^ n := by
  rw [leV_shift, hl2, hnm, show (256 : Nat) = 2 ^ 8 from by decide, ← Nat.pow_mul, Nat.mul_assoc, ← Nat.pow_add]
 have hpow : 2 ^ m ≤ 256 := by
  have : 2 ^ m ≤ 2 ^ 8 := Nat.pow_le_pow_right (by decide) (by omega)
  exact this
 obtain ⟨P, hP⟩ : ∃ P, 2 ^ m = P := ⟨_, rfl⟩
 rw [hP] at hval hpow
 have hbig : x * 2 ^ n < 256 ^ (K + j + 1) := by
  rw [← hval, leV_shift, hl2, Nat.pow_add, Nat.pow_add, Nat.pow_one]
  have h1 : x * 256 ^ j < 256 ^ K * 256 ^ j := (Nat.mul_lt_mul_right (Nat.pow_pos (by decide))).2 hx
  exact Nat.lt_of_lt_of_le ((Nat.mul_lt_mul_right (by rw [← hP]; exact Nat.two_pow_pos m)).2 h1) (Nat.mul_le_mul_left _ hpow)
 have HT : Hid (∀ W : World, Below W2.heap.size W2 W → Calls Tryz.prog 203 #[.slice p2 (j + l.length) c2, .int .i64 P, .int .i64 0] W fun e w' => (∃ v', e = .returned v' ∧ IsNum w' v' (x * 2 ^ n)) ∧ Below W.heap.size W w') := Lib.hid fun W hW => by
  have := times_list _ (List.replicate j 0 ++ l) P 0 W (hown2.num.go hW) (by omega) hpow (by decide)
  rw [hval, Nat.add_zero, hk2] at this
  exact this
 have HTR : Hid (∀ (v : Value) (W : World), IsNum W v (x * 2 ^ n) → Calls Tryz.prog 202 #[v] W fun e w' => (∃ v', e = .returned v' ∧ IsNum w' v' (x * 2 ^ n)) ∧ w' = W) := Lib.hid fun v W h => trim_num v _ (K + j + 1) W h (by omega) hbig
 rw [hk2] at happ
 have HB2 := Lib.hid hown2.below
 have HAPP := Lib.hid happ
 have HMP := Lib.hid hP
 have hnj : (n : Int).tdiv 8 = (j : Int) := by rw [Int.tdiv_eq_ediv_of_nonneg (by omega)]; omega
 have hnj2 : (n : Int) / 8 = (j : Int) := by omega
 have hnm1 : (n : Int).tmod 8 = (m : Int) := by rw [Int.tmod_eq_emod_of_nonneg (by omega)]; omega
 have hnm2 : (n : Int) % 8 = (m : Int) := by omega
 clear hval hpow hbig hown2 hown hk2 hl1 hl2 hl3 hx hj hm hnm hP happ
 go_enter Tryz.func168, Tryz.ntmps168
 go_wp2_with (first | (at_builtin; refine Lib.wpList_append_run _ rfl _ _ _ _ rfl _ _ rfl rfl _ _ HAPP.out ?_) | fail)
 go_loopg [6, 7] m (fun g s6 s7 wr => ∃ i P' : Nat, i + g = m ∧ 2 ^ i = P' ∧ s6 = .int .i64 P' ∧ s7 = .int .i64 i ∧ wr = W2)
 case atStart => exact ⟨0, 1, by omega, rfl, rfl, rfl, rfl⟩
 case round =>
  obtain ⟨i, P', hi, hP', rfl, rfl, rfl⟩ := hrel
  have HP' := Lib.hid hP'
  have hP1 : P' ≤ 256 := by
   rw [← hP']
   have : 2 ^ i ≤ 2 ^ 8 := Nat.pow_le_pow_right (by decide) (by omega)
   exact this
  clear hP'
  by_cases him : i < m
  ·have hii : (i : Int) < (m : Int) := by omega
   go_wp2_with fail
   go_roundg (gk - 1)
   case measure => omega
   case rel => exact ⟨i + 1, P' * 2, by omega, by rw [Nat.pow_succ, HP'.out], by go_num, by go_num, rfl⟩
  ·obtain rfl : i = m := by omega
   obtain rfl : P' = P := by rw [← HP'.out, ← HMP.out]
   clear him hi
   go_wp2_with fail
   refine (HT.out _ (Below.refl _ _)).mono ?_
   rintro e w5 ⟨⟨v', rfl, hn5⟩, hb5⟩
   have H5 := Lib.hid hn5
   have B5 := Lib.hid (HB2.out.trans (hb5.mono HB2.out.size))
   clear hn5 hb5
   go_wp2_with fail
   refine (HTR.out _ _ H5.out).mono ?_
   rintro e w6 ⟨⟨v6, rfl, hn6⟩, rfl⟩
   have H6 := Lib.hid hn6
   clear hn6
   go_wp2_with fail
   go_ret
   exact ⟨⟨_, rfl, H6.out⟩, B5.out⟩
end Go.Proofs.YtckaoeloofbklaaGreatDoor
namespace Go.Proofs.YtckaoeloofbklaaGreatDoor
open Go Go.RowKit Go.Lib
set_option exponentiation.threshold 3000
def xsN (P : Nat) (e : Int) : Nat := P * 2 ^ (-e).toNat
def ysN (Q : Nat) (e : Int) : Nat := Q * 2 ^ e.toNat
theorem ysN_pos {Q : Nat} (h : 0 < Q) (e : Int) : 0 < ysN Q e := Nat.mul_pos h (Nat.two_pow_pos _)
theorem sc_up (P Q k : Nat) (e : Int) (h : xsN P e < 2 ^ (k + 1) * ysN Q e) : xsN P (e + 1) < 2 ^ k * ysN Q (e + 1) := by
 unfold xsN ysN at *
 by_cases he : e < 0
 ·obtain ⟨n, hn⟩ : ∃ n : Nat, e = -((n + 1 : Nat) : Int) := ⟨(-(e + 1)).toNat, by omega⟩
  rw [show (-e).toNat = n + 1 by omega, show e.toNat = 0 by omega, Nat.pow_zero, Nat.mul_one, Nat.pow_succ, Nat.pow_succ] at h
  rw [show (-(e + 1)).toNat = n by omega, show (e + 1).toNat = 0 by omega, Nat.pow_zero, Nat.mul_one]
  rw [show P * (2 ^ n * 2) = P * 2 ^ n * 2 from by ac_rfl, show 2 ^ k * 2 * Q = 2 ^ k * Q * 2 from by ac_rfl] at h
  exact Nat.lt_of_mul_lt_mul_right h
 ·obtain ⟨n, hn⟩ : ∃ n : Nat, e = (n : Int) := ⟨e.toNat, by omega⟩
  rw [show (-e).toNat = 0 by omega, show e.toNat = n by omega, Nat.pow_zero, Nat.mul_one] at h
  rw [show (-(e + 1)).toNat = 0 by omega, show (e + 1).toNat = n + 1 by omega, Nat.pow_zero, Nat.mul_one]
  rw [Nat.pow_succ] at h ⊢
  rwa [show 2 ^ k * (Q * (2 ^ n * 2)) = 2 ^ k * 2 * (Q * 2 ^ n) from by ac_rfl]
theorem sc_lo (P Q k : Nat) (e : Int) (h : 2 ^ (k + 1) * ysN Q e ≤ xsN P e) : 2 ^ k * ysN Q (e + 1) ≤ xsN P (e + 1) := by
 unfold xsN ysN at *
 by_cases he : e < 0
 ·obtain ⟨n, hn⟩ : ∃ n : Nat, e = -((n + 1 : Nat) : Int) := ⟨(-(e + 1)).toNat, by omega⟩
  rw [show (-e).toNat = n + 1 by omega, show e.toNat = 0 by omega, Nat.pow_zero, Nat.mul_one, Nat.pow_succ, Nat.pow_succ] at h
  rw [show (-(e + 1)).toNat = n by omega, show (e + 1).toNat = 0 by omega, Nat.pow_zero, Nat.mul_one]
  rw [show P * (2 ^ n * 2) = P * 2 ^ n * 2 from by ac_rfl, show 2 ^ k * 2 * Q = 2 ^ k * Q * 2 from by ac_rfl] at h
  exact Nat.le_of_mul_le_mul_right h (by decide)
 ·obtain ⟨n, hn⟩ : ∃ n : Nat, e = (n : Int) := ⟨e.toNat, by omega⟩
  rw [show (-e).toNat = 0 by omega, show e.toNat = n by omega, Nat.pow_zero, Nat.mul_one] at h
  rw [show (-(e + 1)).toNat = 0 by omega, show (e + 1).toNat = n + 1 by omega, Nat.pow_zero, Nat.mul_one]
  rw [Nat.pow_succ] at h ⊢
  rwa [show 2 ^ k * (Q * (2 ^ n * 2)) = 2 ^ k * 2 * (Q * 2 ^ n) from by ac_rfl]
theorem sc_same (P Q : Nat) (e : Int) (h : -1074 ≤ e) : 2 * (P * 2 ^ 1074) * ysN Q e = 2 * (Q * (xsN P e * 2 ^ (e + 1074).toNat)) := by
 unfold xsN ysN
 have h1 : (2 : Nat) ^ 1074 * 2 ^ e.toNat = 2 ^ (-e).toNat * 2 ^ (e + 1074).toNat := by
  rw [← Nat.pow_add, ← Nat.pow_add]; congr 1; omega
 rw [show 2 * (P * 2 ^ 1074) * (Q * 2 ^ e.toNat) = 2 * (Q * (P * (2 ^ 1074 * 2 ^ e.toNat))) from by ac_rfl, h1]
 ac_rfl
theorem sc_start (P Q bp bq : Nat) (e : Int) (hP : 0 < P) (hQ : 0 < Q) (h1 : BitsAre P bp) (h2 : BitsAre Q bq) (he : e = max ((bp : Int) - bq - 53) (-1074)) :
  xsN P e < 2 ^ 54 * ysN Q e ∧ (e = -1074 ∨ 2 ^ 52 * ysN Q e ≤ xsN P e) := by
 have hbp : 0 < bp := by
  rcases Nat.eq_zero_or_pos bp with h | h
  ·have := h1.1; rw [h] at this; omega
  ·exact h
 have hbq : 0 < bq := by
  rcases Nat.eq_zero_or_pos bq with h | h
  ·have := h2.1; rw [h] at this; omega
  ·exact h
 have p1 := h1.1
 have p2 := h1.2 hbp
 have q1 := h2.1
 have q2 := h2.2 hbq
 unfold xsN ysN
 constructor
 ·have a1 : P * 2 ^ (-e).toNat < 2 ^ bp * 2 ^ (-e).toNat := (Nat.mul_lt_mul_right (Nat.two_pow_pos _)).2 p1
  have a2 : 2 ^ bp * 2 ^ (-e).toNat ≤ 2 ^ 54 * (2 ^ (bq - 1) * 2 ^ e.toNat) := by
   rw [← Nat.pow_add, ← Nat.pow_add, ← Nat.pow_add]
   exact Nat.pow_le_pow_right (by decide) (by omega)
  exact Nat.lt_of_lt_of_le a1 (Nat.le_trans a2 (Nat.mul_le_mul_left _ (Nat.mul_le_mul_right _ q2)))
 ·by_cases hm : e = -1074
  ·exact .inl hm
  ·right
   have a1 : 2 ^ 52 * (2 ^ bq * 2 ^ e.toNat) = 2 ^ (bp - 1) * 2 ^ (-e).toNat := by
    rw [← Nat.pow_add, ← Nat.pow_add, ← Nat.pow_add]; congr 1; omega
   exact Nat.le_trans (Nat.mul_le_mul_left _ (Nat.mul_le_mul_right _ (by omega : Q ≤ 2 ^ bq))) (Nat.le_trans (Nat.le_of_eq a1) (Nat.mul_le_mul_right _ p2))
def rndN (e : Int) (M : Nat) : Nat :=
 let m := if M = 9007199254740992 then 4503599627370496 else M
 let e' := if M = 9007199254740992 then e + 1 else e
 if 971 < e' then 9218868437227405312 else if m < 4503599627370496 then m else m - 4503599627370496 + (e' + 1075).toNat * 4503599627370496
theorem rnd_is (e : Int) (M E : Nat) (h1 : -1074 ≤ e) (hE : (e + 1074).toNat = E) (hM : M ≤ 9007199254740992) (h : E = 0 ∨ 4503599627370496 ≤ M) : rndN e M = min INF (E * BB + M) := by
 unfold rndN INF BB
 by_cases hm : M = 9007199254740992
 ·simp only [if_pos hm]
  split <;> (try split) <;> omega
 ·simp only [if_neg hm]
  split <;> (try split) <;> omega
theorem round_near (P Q : Nat) (e : Int) (hQ : 0 < Q) (h1 : -1074 ≤ e) (hup : xsN P e < 2 ^ 53 * ysN Q e) (hlo : e = -1074 ∨ 2 ^ 52 * ysN Q e ≤ xsN P e) :
  Near (2 * (P * 2 ^ 1074)) Q (rndN e (xsN P e / ysN Q e + upG (xsN P e) (ysN Q e))) := by
 have hy := ysN_pos hQ e
 have hm : xsN P e / ysN Q e < 2 * BB := by
  rw [Nat.div_lt_iff_lt_mul hy]
  exact hup
 have hE : (e + 1074).toNat = 0 ∨ BB ≤ xsN P e / ysN Q e := by
  rcases hlo with h | h
  ·left; omega
  ·right
   rw [Nat.le_div_iff_mul_le hy]
   exact h
 have hu := up_le (xsN P e) (ysN Q e)
 rw [rnd_is e _ _ h1 rfl (by unfold BB at hm; omega) (by unfold BB at hE; omega)]
 exact near_gap hQ hy (sc_same P Q e h1) hm hE
end Go.Proofs.YtckaoeloofbklaaGreatDoor
