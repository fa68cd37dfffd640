/- Joined texts: Sc La Lb Lc Ld Le Sd. Each begins with its own remark. -/
import Derived.Test.YtmhagigokgklaaaGreatDoorJm
import Derived.Test.YtmhagigokgklaaaGreatDoorJc
import Derived.Deep.LoopGhost
import Derived.Test.YtmhagigokgklaaaGreatDoorJj

/- The reference's whole numbers: times, large, minus (walked). -/
namespace Go.Proofs.YtmhagigokgklaaaGreatDoor
open Go Go.RowKit Go.Sort Go.Lib

/-- a row of the call's own -/
def Own (w W : World) (v : Value) (l : List UInt8) : Prop := Row w.heap.size (fun _ => False) w W v l
theorem Own.start (w : World) : Own w w (.slice Option.none 0 0) [] :=
  ⟨World.ownsRow_nil w _ 5 1, fun _ h => h.elim, fun _ h => h.elim, fun _ h => h.elim, Below.refl _ _, Nat.le_refl _⟩
theorem Own.num {w W : World} {v : Value} {l : List UInt8} (h : Own w W v l) : NumB W v l := by
  rcases h.own.2 with ⟨h1, h2⟩ | ⟨g, cap, cur, h1, h2, h3, h4, h5, h6, h7⟩
  · obtain rfl := List.eq_nil_of_length_eq_zero h2
    exact .inl ⟨h1, rfl⟩
  · refine .inr ⟨g, 0, cap, h1, by omega, (Array.getElem?_eq_some_iff.1 h3).1, fun j x hx => ?_⟩
    have hj : j < l.length := by
      rcases Nat.lt_or_ge j l.length with h | h
      · exact h
      · rw [List.getElem?_eq_none h] at hx; simp at hx
    rw [Nat.zero_add, cell_of_row W g j _ _ _ h3]
    have h8 := congrArg (fun q : List Value => q[j]?) h7
    simp only [Nat.mul_one, List.getElem?_take, hj, if_true, Array.getElem?_toList, List.getElem?_map, hx, Option.map_some] at h8
    rw [h8]; rfl
theorem Own.below {w W : World} {v : Value} {l : List UInt8} (h : Own w W v l) : Below w.heap.size w W := Row.below h
/-- one byte is appended -/
theorem Own.add {w W : World} {v : Value} {l : List UInt8} (h : Own w W v l) (y : UInt8) (r : Int) (hr : r = ((y.toNat : Nat) : Int)) (hl : l.length ≤ 900000) (m : Nat) (hm : l.length + 1 = m) :
    ∃ g cap W', (Builtin.append_ #[34, 34] 34 #[v, .slice (some ⟨W.heap.size, 0, Option.none⟩) 1 1]).run Tryz.prog (W.alloc (.cells #[.int .u8 r] 5)) = .ok (.slice (some ⟨g, 0, Option.none⟩) m cap) W' ∧
      Own w W' (.slice (some ⟨g, 0, Option.none⟩) m cap) (l ++ [y]) := by
  exact Row.push' h 34 [y] 1 #[.int .u8 r] m rfl (by rw [hr]; rfl) (by decide) (by omega) (by rw [List.length_append, ← hm]; rfl)

theorem u8_mod (T : Nat) : ((UInt8.ofNat (T % 256)).toNat : Int) = ((T % 256 : Nat) : Int) := by
  rw [UInt8.toNat_ofNat', Nat.mod_eq_of_lt (show T % 256 < 2 ^ 8 by omega)]

set_option maxRecDepth 100000 in
set_option maxHeartbeats 2000000 in
theorem times_list (v : Value) (l : List UInt8) (by_ more : Nat) (w : World) (h : NumB w v l) (hl : l.length ≤ 500000) (hb1 : by_ ≤ 256) (hm1 : more ≤ 65536) :
    Calls Tryz.prog 30 #[v, .int .i64 by_, .int .i64 more] w fun e w' => (∃ v', e = .returned v' ∧ IsNum w' v' (leV l * by_ + more)) ∧ Below w.heap.size w w' := by
  obtain ⟨pv, cv, rfl⟩ := h.form
  have HN := Lib.hid h
  clear h
  go_enter Tryz.func30, Tryz.ntmps30
  go_wp2_with fail
  go_loopg [2, 7, 8] l.length (fun g s2 s7 s8 wr => ∃ (k m : Nat) (o : List UInt8), k + g = l.length ∧ o.length = k ∧ m ≤ 65536 ∧ leV o + 256 ^ o.length * m = leV (l.take k) * by_ + more ∧ s2 = .int .i64 m ∧ s8 = .int .i64 k ∧ Own w wr s7 o)
  case atStart => exact ⟨0, more, [], by omega, rfl, hm1, by simp [leV], rfl, rfl, Own.start w⟩
  case round =>
    obtain ⟨k, m, o, hkg, hok, hm, hval, rfl, rfl, hown⟩ := hrel
    obtain ⟨po, co, rfl⟩ := hown.form
    have HV := Lib.hid hval
    have HO := Lib.hid hown
    clear hval hown
    rw [hok]
    by_cases hk : k < l.length
    · obtain ⟨b, o', c, hv, hlc, hbs, hcell⟩ := HN.out.row (by omega)
      simp only [Value.slice.injEq] at hv
      obtain ⟨rfl, _, rfl⟩ := hv
      have c1 : wr.cell? ⟨b, o' + k, Option.none⟩ = some (.int .u8 (l[k].toNat : Int)) := (HO.out.below.cell (p := ⟨b, o' + k, Option.none⟩) hbs).trans (hcell k l[k] (List.getElem?_eq_getElem hk))
      have hx := l[k].toNat_lt
      have htk := leV_take_succ l k hk
      generalize l[k].toNat = x at *
      obtain ⟨T, hT⟩ : ∃ T, m + x * by_ = T := ⟨_, rfl⟩
      have hTle : T ≤ 65536 + 255 * 256 := by
        rw [← hT]
        exact Nat.add_le_add hm (Nat.mul_le_mul (by omega) hb1)
      have hTi : (m : Int) + (x : Int) * (by_ : Int) = (T : Int) := by rw [← hT]; push_cast; rfl
      have hst := times_step o _ m (x * by_) T HV.out hT
      have hxb : (x : Int) * (by_ : Int) ≤ 65536 := by
        have : x * by_ ≤ 255 * 256 := Nat.mul_le_mul (by omega) hb1
        have h2 : ((x * by_ : Nat) : Int) ≤ 65536 := by omega
        push_cast at h2; exact h2
      have hxb0 : 0 ≤ (x : Int) * (by_ : Int) := by
        have h2 : 0 ≤ ((x * by_ : Nat) : Int) := by omega
        push_cast at h2; exact h2
      obtain ⟨y, hy⟩ : ∃ y, UInt8.ofNat (T % 256) = y := ⟨_, rfl⟩
      have hyT := u8_mod T
      rw [hy] at hyT hst
      have hq1 : (T : Int).tmod 256 = (y.toNat : Int) := by rw [hyT, Int.tmod_eq_emod_of_nonneg (by omega)]; omega
      have hq1b : (T : Int) % 256 = (y.toNat : Int) := by rw [hyT]; omega
      have hy256 := y.toNat_lt
      obtain ⟨q, hq⟩ : ∃ q, T / 256 = q := ⟨_, rfl⟩
      rw [hq] at hst
      have hq2 : (T : Int).tdiv 256 = (q : Int) := by rw [Int.tdiv_eq_ediv_of_nonneg (by omega)]; omega
      have hq2b : (T : Int) / 256 = (q : Int) := by omega
      have hqle : q ≤ 65536 := by omega
      obtain ⟨g1, c2, W1, hr1, ho1⟩ := HO.out.add y (y.toNat : Int) rfl (by omega) (k + 1) (by omega)
      rw [hok] at hr1
      have HR1 := Lib.hid hr1
      have HO1 := Lib.hid ho1
      have HST : Hid (leV (o ++ [y]) + 256 ^ (o ++ [y]).length * q = leV (l.take (k + 1)) * by_ + more) := Lib.hid (by
        rw [List.length_append, List.length_singleton, hst, htk, hok, Nat.add_mul, Nat.mul_assoc]
        omega)
      have HOK : Hid ((o ++ [y]).length = k + 1) := Lib.hid (by rw [List.length_append, hok]; rfl)
      have HHY := Lib.hid hyT
      clear hcell htk hst hT hyT hy hq hr1 ho1 hok
      have hki : (k : Int) < (l.length : Int) := by omega
      go_wp2_with (first | (at_builtin; refine Lib.wpList_append_run _ rfl _ _ _ _ rfl _ _ rfl rfl _ _ HR1.out ?_) | fail)
      go_roundg (gk - 1)
      case measure => omega
      case rel => exact ⟨k + 1, q, o ++ [y], by omega, HOK.out, hqle, HST.out, rfl, by go_num, HO1.out⟩
    · have hke : k = l.length := by omega
      have HV2 : Hid (leV o + 256 ^ o.length * m = leV l * by_ + more) := Lib.hid (by rw [HV.out, hke, List.take_length])
      have hki : ¬ (k : Int) < (l.length : Int) := by omega
      have hk5 : k ≤ 500000 := by omega
      clear HV hk hke hkg HN
      go_wp2_with fail
      go_loopg [2, 7] m (fun g s2 s7 wr => ∃ (m : Nat) (o : List UInt8), g = m ∧ o.length + m ≤ 600000 ∧ leV o + 256 ^ o.length * m = leV l * by_ + more ∧ s2 = .int .i64 m ∧ Own w wr s7 o)
      case atStart => exact ⟨m, o, rfl, by omega, HV2.out, rfl, by rw [← hok]; exact HO.out⟩
      case round =>
        clear HV2 HO hm hok hk5 hki
        obtain ⟨m, o, rfl, hlen, hval, rfl, hown⟩ := hrel
        obtain ⟨po, co, rfl⟩ := hown.form
        have HV := Lib.hid hval
        have HO := Lib.hid hown
        clear hval hown
        by_cases h0 : gk = 0
        · subst h0
          have hval : leV (trimL o) = leV l * by_ + more := by rw [trim_val, ← HV.out]; simp
          have HT : Hid (∀ W : World, Below wr.heap.size wr W → Calls Tryz.prog 64 #[.slice po o.length co] W fun e w' => (∃ v', e = .returned v' ∧ IsNum w' v' (leV l * by_ + more)) ∧ w' = W) := Lib.hid fun W hW =>
            (trim_any _ o W (HO.out.num.go hW) (by omega)).mono (by
              rintro e w' ⟨⟨v', rfl, hn⟩, rfl⟩
              exact ⟨⟨v', rfl, trimL o, hn, hval, trim_norm o⟩, rfl⟩)
          clear hval HV
          go_wp2_with fail
          refine (HT.out _ (Below.refl _ _)).mono ?_
          rintro e w5 ⟨⟨v', rfl, hn⟩, rfl⟩
          have HNN := Lib.hid hn
          clear hn
          go_wp2_with fail
          go_ret
          exact ⟨⟨_, rfl, HNN.out⟩, HO.out.below⟩
        · have hst := times_step o _ gk 0 gk HV.out (Nat.add_zero _)
          obtain ⟨y, hy⟩ : ∃ y, UInt8.ofNat (gk % 256) = y := ⟨_, rfl⟩
          have hyT := u8_mod gk
          rw [hy] at hyT hst
          have hq1 : (gk : Int).tmod 256 = (y.toNat : Int) := by rw [hyT, Int.tmod_eq_emod_of_nonneg (by omega)]; omega
          have hq1b : (gk : Int) % 256 = (y.toNat : Int) := by rw [hyT]; omega
          have hy256 := y.toNat_lt
          obtain ⟨q, hq⟩ : ∃ q, gk / 256 = q := ⟨_, rfl⟩
          rw [hq, Nat.mul_zero, Nat.add_zero] at hst
          have hq2 : (gk : Int).tdiv 256 = (q : Int) := by rw [Int.tdiv_eq_ediv_of_nonneg (by omega)]; omega
          have hq2b : (gk : Int) / 256 = (q : Int) := by omega
          obtain ⟨n, hn⟩ : ∃ n, o.length = n := ⟨_, rfl⟩
          obtain ⟨g1, c2, W1, hr1, ho1⟩ := HO.out.add y (y.toNat : Int) rfl (by omega) (n + 1) (by omega)
          rw [hn] at hr1 ⊢
          have HR1 := Lib.hid hr1
          have HO1 := Lib.hid ho1
          have HST : Hid (leV (o ++ [y]) + 256 ^ (o ++ [y]).length * q = leV l * by_ + more) := Lib.hid (by
            rw [List.length_append, List.length_singleton, hst, Nat.add_zero])
          have HOK : Hid ((o ++ [y]).length + q ≤ 600000) := Lib.hid (by rw [List.length_append, List.length_singleton]; omega)
          have HLN : Hid (n + 1 = (o ++ [y]).length) := Lib.hid (by rw [List.length_append, hn]; rfl)
          have HQ : Hid (q < gk) := Lib.hid (by omega)
          have hg0 : (0 : Int) < (gk : Int) := by omega
          have hgle : gk ≤ 600000 := by omega
          clear hst hyT hy hq hr1 ho1 h0 hlen hn
          go_wp2_with (first | (at_builtin; refine Lib.wpList_append_run _ rfl _ _ _ _ rfl _ _ rfl rfl _ _ HR1.out ?_) | fail)
          go_roundg q
          case measure => exact HQ.out
          case rel => exact ⟨q, o ++ [y], rfl, HOK.out, HST.out, rfl, HO1.out⟩

theorem times_any (v : Value) (n by_ more K : Nat) (w : World) (h : IsNum w v n) (hK : K ≤ 500000) (hn : n < 256 ^ K) (hb1 : by_ ≤ 256) (hm1 : more ≤ 65536) :
    Calls Tryz.prog 30 #[v, .int .i64 by_, .int .i64 more] w fun e w' => (∃ v', e = .returned v' ∧ IsNum w' v' (n * by_ + more)) ∧ Below w.heap.size w w' := by
  obtain ⟨l, h1, rfl, h3⟩ := h
  exact times_list v l by_ more w h1 (Nat.le_trans (norm_len l h3 K hn) hK) hb1 hm1

end Go.Proofs.YtmhagigokgklaaaGreatDoor

/- The reference's Hex and digits (walked). -/
namespace Go.Proofs.YtmhagigokgklaaaGreatDoor
open Go Go.RowKit Go.Sort Go.Lib

/-- what a byte stands for among the digits of the base 16; -1: it is none -/
def rhI (n : Nat) : Int := if 48 ≤ n ∧ n ≤ 57 then (n : Int) - 48 else if 65 ≤ n ∧ n ≤ 70 then (n : Int) - 55 else if 97 ≤ n ∧ n ≤ 102 then (n : Int) - 87 else -1

set_option maxRecDepth 100000 in
set_option maxHeartbeats 1000000 in
theorem rhex_any (n : Nat) (w : World) (h : n < 256) :
    Calls Tryz.prog 31 #[.int .i32 n] w fun e w' => e = .returned (.int .i64 (rhI n)) ∧ w' = w := by
  unfold rhI
  by_cases h1 : 48 ≤ n ∧ n ≤ 57
  · rw [if_pos h1]
    obtain ⟨h2, h3⟩ := h1
    have i1 : (48 : Int) ≤ (n : Int) := by omega
    have i2 : (n : Int) ≤ 57 := by omega
    go_enter Tryz.func31, Tryz.ntmps31
    go_wp2_with fail
    go_ret
    exact ⟨rfl, rfl⟩
  · rw [if_neg h1]
    by_cases h2 : 65 ≤ n ∧ n ≤ 70
    · rw [if_pos h2]
      obtain ⟨h3, h4⟩ := h2
      have i1 : (48 : Int) ≤ (n : Int) := by omega
      have i2 : decide ((n : Int) ≤ 57) = false := decide_eq_false (by omega)
      have i3 : (65 : Int) ≤ (n : Int) := by omega
      have i4 : (n : Int) ≤ 70 := by omega
      have i5 : (n : Int) - 65 + 10 = (n : Int) - 55 := by omega
      clear h1
      go_enter Tryz.func31, Tryz.ntmps31
      go_wp2_with fail
      go_ret
      exact ⟨rfl, rfl⟩
    · rw [if_neg h2]
      by_cases h3 : 97 ≤ n ∧ n ≤ 102
      · rw [if_pos h3]
        obtain ⟨h4, h5⟩ := h3
        have i1 : (48 : Int) ≤ (n : Int) := by omega
        have i2 : decide ((n : Int) ≤ 57) = false := decide_eq_false (by omega)
        have i3 : (65 : Int) ≤ (n : Int) := by omega
        have i4 : decide ((n : Int) ≤ 70) = false := decide_eq_false (by omega)
        have i6 : (97 : Int) ≤ (n : Int) := by omega
        have i7 : (n : Int) ≤ 102 := by omega
        have i5 : (n : Int) - 97 + 10 = (n : Int) - 87 := by omega
        clear h1 h2
        go_enter Tryz.func31, Tryz.ntmps31
        go_wp2_with fail
        go_ret
        exact ⟨rfl, rfl⟩
      · rw [if_neg h3]
        obtain ⟨b1, hb1⟩ : ∃ b, decide ((48 : Int) ≤ (n : Int)) = b := ⟨_, rfl⟩
        obtain ⟨b2, hb2⟩ : ∃ b, decide ((n : Int) ≤ 57) = b := ⟨_, rfl⟩
        obtain ⟨b3, hb3⟩ : ∃ b, decide ((65 : Int) ≤ (n : Int)) = b := ⟨_, rfl⟩
        obtain ⟨b4, hb4⟩ : ∃ b, decide ((n : Int) ≤ 70) = b := ⟨_, rfl⟩
        obtain ⟨b5, hb5⟩ : ∃ b, decide ((97 : Int) ≤ (n : Int)) = b := ⟨_, rfl⟩
        obtain ⟨b6, hb6⟩ : ∃ b, decide ((n : Int) ≤ 102) = b := ⟨_, rfl⟩
        have k1 : (b1 && b2) = false := by
          rw [← hb1, ← hb2, ← Bool.decide_and]; exact decide_eq_false (by omega)
        have k2 : (b3 && b4) = false := by
          rw [← hb3, ← hb4, ← Bool.decide_and]; exact decide_eq_false (by omega)
        have k3 : (b5 && b6) = false := by
          rw [← hb5, ← hb6, ← Bool.decide_and]; exact decide_eq_false (by omega)
        clear h1 h2 h3
        cases b1 <;> cases b2 <;> cases b3 <;> cases b4 <;> cases b5 <;> cases b6 <;> first | (exact absurd k1 (by decide)) | (exact absurd k2 (by decide)) | (exact absurd k3 (by decide)) | skip
        all_goals
          clear k1 k2 k3
          first
          | (exfalso; simp only [decide_eq_true_eq, decide_eq_false_iff_not] at hb1 hb2 hb3 hb4 hb5 hb6; omega)
          | (go_enter Tryz.func31, Tryz.ntmps31
             go_wp2_with fail
             go_ret
             exact ⟨rfl, rfl⟩)

/-- is a byte a digit of a base? -/
def isB (B : Nat) (c : UInt8) : Bool := decide (0 ≤ rhI c.toNat ∧ rhI c.toNat < (B : Int))
/-- digits with bars between: the digits, what is left, and whether a bar was last -/
def runD (B : Nat) : Bool → List UInt8 → List UInt8 × List UInt8 × Bool
  | u, [] => ([], [], u)
  | u, c :: l => if c = 95 ∧ u = false then runD B true l else if isB B c = true then (c :: (runD B false l).1, (runD B false l).2.1, (runD B false l).2.2) else ([], c :: l, u)
theorem runD_bar (B : Nat) (l : List UInt8) : runD B false (95 :: l) = runD B true l := by rw [runD]; exact if_pos ⟨rfl, rfl⟩
theorem runD_dig (B : Nat) (u : Bool) (c : UInt8) (l : List UInt8) (h : isB B c = true) : runD B u (c :: l) = (c :: (runD B false l).1, (runD B false l).2.1, (runD B false l).2.2) := by
  rw [runD, if_neg, if_pos h]
  rintro ⟨rfl, _⟩
  have h1 : rhI 95 = -1 := by decide
  unfold isB at h
  rw [decide_eq_true_eq] at h
  have := h.1
  rw [show (95 : UInt8).toNat = 95 from rfl, h1] at this
  omega
theorem runD_end (B : Nat) (u : Bool) (c : UInt8) (l : List UInt8) (h : isB B c = false) (h2 : ¬ (c = 95 ∧ u = false)) : runD B u (c :: l) = ([], c :: l, u) := by
  rw [runD, if_neg h2, h]; rfl
theorem runD_nil (B : Nat) (u : Bool) : runD B u [] = ([], [], u) := rfl
theorem runD_len (B : Nat) : ∀ (l : List UInt8) (u : Bool), (runD B u l).1.length + (runD B u l).2.1.length ≤ l.length
  | [], u => Nat.le_refl _
  | c :: l, u => by
    by_cases h1 : c = 95 ∧ u = false
    · rw [runD, if_pos h1]
      have := runD_len B l true
      rw [List.length_cons]; omega
    · by_cases h2 : isB B c = true
      · rw [runD_dig B u c l h2]
        have := runD_len B l false
        simp only [List.length_cons]; omega
      · rw [runD_end B u c l (by simpa using h2) h1]
        simp

def DgPost (B : Nat) (s : ByteArray) (at_ : Nat) (w : World) (e : Ending) (w' : World) : Prop :=
  e = .returned (.tuple #[.string ⟨(runD B true (s.data.toList.drop at_)).1.toArray⟩, .int .i64 ((s.size : Int) - ((runD B true (s.data.toList.drop at_)).2.1.length : Nat)), .bool (!(runD B true (s.data.toList.drop at_)).1.isEmpty && !(runD B true (s.data.toList.drop at_)).2.2)]) ∧ w' = w
end Go.Proofs.YtmhagigokgklaaaGreatDoor

/- The reference's digits and based (walked). -/
namespace Go.Proofs.YtmhagigokgklaaaGreatDoor
open Go Go.RowKit Go.Sort Go.Lib

theorem dg_snoc (D : List UInt8) (c : UInt8) : (⟨D.toArray⟩ : ByteArray) ++ ⟨#[c]⟩ = ⟨(D ++ [c]).toArray⟩ := by
  apply ByteArray.ext
  rw [ByteArray.data_append]
  apply Array.toList_inj.1
  simp
theorem dg_cut (s : ByteArray) (k : Nat) (h : k < s.size) (W : World) :
    (Instr.slice 9 (.string s) (some (.int .i64 k)) (some (.int .i64 ((k : Int) + 1))) none).run Tryz.prog W = .ok (.string ⟨#[s[k]]⟩) W := by
  rw [run_slice_string W _ s .i64 .i64 k ((k : Int) + 1) Tryz.underlying9 (by omega) (by omega) (by omega)]
  congr 2
  apply ByteArray.ext
  rw [ByteArray.data_extract, Int.toNat_natCast, show ((k : Int) + 1).toNat = k + 1 by omega]
  apply Array.toList_inj.1
  rw [Array.toList_extract, List.extract_eq_take_drop, Nat.add_sub_cancel_left]
  have hl : k < s.data.toList.length := by simpa using h
  rw [List.drop_eq_getElem_cons hl]
  rfl
theorem dg_drop (s : ByteArray) (k : Nat) (h : k < s.size) : s.data.toList.drop k = s[k] :: s.data.toList.drop (k + 1) := by
  have hl : k < s.data.toList.length := by simpa using h
  rw [List.drop_eq_getElem_cons hl]
  rfl
theorem dg_nil (l : List UInt8) : ((⟨l.toArray⟩ : ByteArray).toList != []) = !l.isEmpty := by
  rw [ByteArray.toList_eq]
  cases l <;> rfl
theorem dg_nil2 (l : List UInt8) : ((⟨l.toArray⟩ : ByteArray).toList == []) = l.isEmpty := by
  rw [ByteArray.toList_eq]
  cases l <;> rfl
set_option maxRecDepth 100000 in
set_option maxHeartbeats 4000000 in
theorem digits_any (s : ByteArray) (at_ B : Nat) (w : World) (hs : s.size ≤ 1000) (hat : at_ ≤ s.size) (_hB : 2 ≤ B ∧ B ≤ 16) :
    Calls Tryz.prog 29 #[.string s, .int .i64 at_, .int .i64 B] w (DgPost B s at_ w) := by
  have HFIN : Hid (∀ (D d r : List UInt8) (v : Bool) (k : Nat), runD B true (s.data.toList.drop at_) = (D ++ d, r, v) → d = [] → (s.size : Int) - (r.length : Nat) = (k : Int) → DgPost B s at_ w (.returned (.tuple #[.string ⟨D.toArray⟩, .int .i64 (k : Int), .bool (!D.isEmpty && !v)])) w) := Lib.hid fun D d r v k h1 h2 h3 => by
    unfold DgPost
    rw [h1, h2, List.append_nil, h3]
    exact ⟨rfl, rfl⟩
  have HHEX : Hid (∀ (n : Nat) (W : World), n < 256 → Calls Tryz.prog 31 #[.int .i32 n] W fun e w' => e = .returned (.int .i64 (rhI n)) ∧ w' = W) := Lib.hid fun n W h => rhex_any n W h
  go_enter Tryz.func29, Tryz.ntmps29
  go_wp2_with fail
  go_loopg [1, 9, 10, 11, 12] (s.size - at_) (fun g s1 s9 s10 _ _ wr => ∃ (k : Nat) (D : List UInt8) (x : UInt8) (u : Bool), k + g = s.size ∧ s1 = .int .i64 k ∧ s9 = .string ⟨D.toArray⟩ ∧ s10 = .int .u8 (x.toNat : Int) ∧ (x = 95 ↔ u = true) ∧ D.length ≤ k ∧ runD B true (s.data.toList.drop at_) = (D ++ (runD B u (s.data.toList.drop k)).1, (runD B u (s.data.toList.drop k)).2.1, (runD B u (s.data.toList.drop k)).2.2) ∧ wr = w)
  case atStart => exact ⟨at_, [], 95, true, by omega, rfl, rfl, rfl, by simp, Nat.zero_le _, by simp, rfl⟩
  case round =>
    obtain ⟨k, D, x, u, hkg, rfl, rfl, rfl, hxu, hD, hrun, hwr⟩ := hrel
    obtain rfl : w = wr := hwr.symm
    have HR := Lib.hid hrun
    have HXU := Lib.hid hxu
    have hx256 := x.toNat_lt
    have HNL := Lib.hid (And.intro (dg_nil D) (dg_nil2 D))
    have hx95 : ((x.toNat : Int) != 95) = !u := by
      cases u
      · have : x ≠ 95 := fun h => by have := HXU.out.1 h; cases this
        rw [Bool.not_false, bne_iff_ne]
        intro h
        exact this (UInt8.toNat_inj.1 (by show x.toNat = 95; omega))
      · rw [HXU.out.2 rfl]; rfl
    clear hrun hxu
    by_cases hk : k < s.size
    · have HDR := Lib.hid (dg_drop s k hk)
      have HC := Lib.hid (fun W => HHEX.out s[k].toNat W s[k].toNat_lt)
      have hcut := fun W => dg_cut s k hk W
      have hsn := dg_snoc D s[k]
      obtain ⟨c, hc⟩ : ∃ c, s[k] = c := ⟨_, rfl⟩
      rw [hc] at hcut hsn
      have HCE := Lib.hid hc
      have hc256 := c.toNat_lt
      have hki : (k : Int) < (s.size : Int) := by omega
      have hDs : (⟨D.toArray⟩ : ByteArray).size ≤ 1000 := by
        show D.toArray.size ≤ 1000
        rw [List.size_toArray]; omega
      have hgc : (s[k].toNat : Int) = (c.toNat : Int) := by rw [hc]
      rw [hc] at HC
      clear hc
      by_cases hb : c = 95 ∧ u = false
      · obtain ⟨rfl, rfl⟩ := hb
        have HN : Hid (runD B false (s.data.toList.drop k) = runD B true (s.data.toList.drop (k + 1))) := Lib.hid (by rw [HDR.out, HCE.out, runD_bar])
        clear hcut hsn
        go_wp2_with fail
        refine (HC.out _).mono ?_
        rintro e w5 ⟨rfl, rfl⟩
        go_wp2_with fail
        go_roundg (gk - 1)
        case measure => omega
        case rel => exact ⟨k + 1, D, 95, true, by omega, by go_num, rfl, rfl, by simp, by omega, by rw [HR.out, HN.out], rfl⟩
      · by_cases hd : isB B c = true
        · have hdd := of_decide_eq_true hd
          have h95 : c ≠ 95 := by
            rintro rfl
            have h1 : rhI 95 = -1 := by decide
            have := hdd.1
            rw [show (95 : UInt8).toNat = 95 from rfl, h1] at this
            omega
          have HN : Hid (runD B u (s.data.toList.drop k) = (c :: (runD B false (s.data.toList.drop (k + 1))).1, (runD B false (s.data.toList.drop (k + 1))).2.1, (runD B false (s.data.toList.drop (k + 1))).2.2)) := Lib.hid (by rw [HDR.out, HCE.out, runD_dig B u c _ hd])
          have hc95 : ((c.toNat : Int) == 95) = false := by
            rw [beq_eq_false_iff_ne]
            intro h
            exact h95 (UInt8.toNat_inj.1 (by show c.toNat = 95; omega))
          obtain ⟨hv1, hv2⟩ := hdd
          generalize rhI c.toNat = v at *
          have q1 : decide (v < 0) = false := decide_eq_false (by omega)
          have q2 : decide ((B : Int) ≤ v) = false := decide_eq_false (by omega)
          have q3 : ((B : Int) == 10 && decide (9 < v)) = false := by
            by_cases h10 : (B : Int) = 10
            · rw [decide_eq_false (show ¬ 9 < v by omega), Bool.and_false]
            · rw [beq_eq_false_iff_ne.2 h10, Bool.false_and]
          have H95 := Lib.hid h95
          by_cases h10 : (B : Int) = 10
          · have q4 : ((B : Int) == 10) = true := by rw [beq_iff_eq]; exact h10
            have q5 : decide (9 < v) = false := decide_eq_false (by omega)
            clear hb hd q3 h95 h10
            go_wp2_with fail
            refine (HC.out _).mono ?_
            rintro e w5 ⟨rfl, rfl⟩
            go_wp2_with fail
            go_roundg (gk - 1)
            case measure => omega
            case rel => exact ⟨k + 1, D ++ [c], c, false, by omega, by go_num, rfl, rfl, by simp [H95.out], by simp; omega, by rw [HR.out, HN.out]; simp, rfl⟩
          · have q4 : ((B : Int) == 10) = false := by rw [beq_eq_false_iff_ne]; exact h10
            clear hb hd q3 h95 h10
            go_wp2_with fail
            refine (HC.out _).mono ?_
            rintro e w5 ⟨rfl, rfl⟩
            go_wp2_with fail
            go_roundg (gk - 1)
            case measure => omega
            case rel => exact ⟨k + 1, D ++ [c], c, false, by omega, by go_num, rfl, rfl, by simp [H95.out], by simp; omega, by rw [HR.out, HN.out]; simp, rfl⟩
        · have hd' : isB B c = false := by simpa using hd
          have hnd : ¬ (0 ≤ rhI c.toNat ∧ rhI c.toNat < (B : Int)) := of_decide_eq_false hd'
          have HN : Hid (runD B u (s.data.toList.drop k) = ([], c :: s.data.toList.drop (k + 1), u)) := Lib.hid (by rw [HDR.out, HCE.out, runD_end B u c _ hd' hb])
          have hR2 := HR.out
          rw [HN.out] at hR2
          have HE := Lib.hid (HFIN.out D [] _ u k hR2 rfl (by
            rw [List.length_cons, List.length_drop]
            have : s.data.toList.length = s.size := by simp
            rw [this]; omega))
          have hcu : ((c.toNat : Int) == 95 && !u) = false := by
            cases u
            · have : c ≠ 95 := fun h => hb ⟨h, rfl⟩
              rw [Bool.not_false, Bool.and_true, beq_eq_false_iff_ne]
              intro h
              exact this (UInt8.toNat_inj.1 (by show c.toNat = 95; omega))
            · rw [Bool.not_true, Bool.and_false]
          generalize rhI c.toNat = v at *
          have hcase : (((c.toNat : Int) == 95) = false) ∨ (((c.toNat : Int) == 95) = true ∧ u = true) := by
            cases hc95 : ((c.toNat : Int) == 95)
            · exact .inl rfl
            · rw [hc95, Bool.true_and] at hcu
              exact .inr ⟨rfl, by simpa using hcu⟩
          clear hb hd hd' hR2 hcu HN hcut hsn
          obtain ⟨hn1, hn2⟩ := HNL.out
          obtain ⟨bE, hbE⟩ : ∃ b, D.isEmpty = b := ⟨_, rfl⟩
          rw [hbE] at hn1 hn2 HE
          generalize (⟨D.toArray⟩ : ByteArray) = dS at *
          clear hbE HNL HR
          rcases hcase with hc1 | ⟨hc1, rfl⟩
          · rcases (show v < 0 ∨ (¬ v < 0 ∧ (B : Int) ≤ v) by omega) with q1 | ⟨q1, q2⟩
            · clear hnd
              go_wp2_with fail
              refine (HC.out _).mono ?_
              rintro e w5 ⟨rfl, rfl⟩
              cases bE <;>
                (go_wp2_with fail
                 go_ret3
                 exact HE.out)
            · have q3 : decide (v < 0) = false := decide_eq_false q1
              clear hnd
              go_wp2_with fail
              refine (HC.out _).mono ?_
              rintro e w5 ⟨rfl, rfl⟩
              cases bE <;>
                (go_wp2_with fail
                 go_ret3
                 exact HE.out)
          · rcases (show v < 0 ∨ (¬ v < 0 ∧ (B : Int) ≤ v) by omega) with q1 | ⟨q1, q2⟩
            · clear hnd
              go_wp2_with fail
              refine (HC.out _).mono ?_
              rintro e w5 ⟨rfl, rfl⟩
              cases bE <;>
                (go_wp2_with fail
                 go_ret3
                 exact HE.out)
            · have q3 : decide (v < 0) = false := decide_eq_false q1
              clear hnd
              go_wp2_with fail
              refine (HC.out _).mono ?_
              rintro e w5 ⟨rfl, rfl⟩
              cases bE <;>
                (go_wp2_with fail
                 go_ret3
                 exact HE.out)
    · obtain rfl : k = s.size := by omega
      have hR2 := HR.out
      rw [show s.data.toList.drop s.size = [] from List.drop_of_length_le (by simp), runD_nil] at hR2
      have HE := Lib.hid (HFIN.out D [] [] u s.size hR2 rfl (by simp))
      have hki : ¬ (s.size : Int) < (s.size : Int) := by omega
      clear hk hR2
      obtain ⟨hn1, hn2⟩ := HNL.out
      obtain ⟨bE, hbE⟩ : ∃ b, D.isEmpty = b := ⟨_, rfl⟩
      rw [hbE] at hn1 hn2 HE
      generalize (⟨D.toArray⟩ : ByteArray) = dS at *
      clear hbE HNL HR
      cases bE <;>
        (go_wp2_with fail
         go_ret3
         exact HE.out)
end Go.Proofs.YtmhagigokgklaaaGreatDoor

/- The reference's grammar of decimals is the program's (plain). -/
namespace Go.Proofs.YtmhagigokgklaaaGreatDoor
open Go Go.RowKit Go.Sort Go.Lib

theorem isB10 (c : UInt8) : isB 10 c = true ↔ isDig c := by
  have key : ∀ k : Fin 256, decide (0 ≤ rhI k.val ∧ rhI k.val < ((10 : Nat) : Int)) = true ↔ (48 ≤ k.val ∧ k.val ≤ 57) := by decide +kernel
  exact key ⟨c.toNat, c.toNat_lt⟩
theorem isB10f (c : UInt8) : isB 10 c = false ↔ ¬ isDig c := by
  rw [← isB10]; cases isB 10 c <;> simp
theorem nb_cons (c : UInt8) (l : List UInt8) : noBars (c :: l) = if c = 95 then noBars l else c :: noBars l := by
  unfold noBars
  rw [List.filter_cons]
  by_cases h : c = 95
  · rw [if_pos h, if_neg (by simp [h])]
  · rw [if_neg h, if_pos (by simpa using h)]
theorem cls95 : clsN (95 : UInt8).toNat = 6 := by decide
/-- a text that no more digits begin -/
def EndD (v : Bool) (r : List UInt8) : Prop := ∀ c t, r = c :: t → ¬ isDig c ∧ (v = false → c ≠ 95)
theorem run_fold (qd qb : Nat) (h1 : nextN qd 1 = qd) (h2 : nextN qd 2 = qd) (h6 : nextN qd 6 = qb) (b1 : nextN qb 1 = qd) (b2 : nextN qb 2 = qd) :
    ∀ (l : List UInt8) (u : Bool), foldS (if u then qb else qd) l = foldS (if (runD 10 u l).2.2 then qb else qd) (runD 10 u l).2.1 ∧ noBars l = (runD 10 u l).1 ++ noBars (runD 10 u l).2.1 ∧ (∀ x ∈ (runD 10 u l).1, isDig x) ∧ EndD (runD 10 u l).2.2 (runD 10 u l).2.1
  | [], u => ⟨rfl, rfl, by simp [runD_nil], by intro c t h; simp [runD_nil] at h⟩
  | c :: l, u => by
    by_cases hb : c = 95 ∧ u = false
    · obtain ⟨rfl, rfl⟩ := hb
      rw [runD_bar, foldS_cons, cls95, nb_cons, if_pos rfl]
      have ih := run_fold qd qb h1 h2 h6 b1 b2 l true
      rw [show nextN (if false = true then qb else qd) 6 = (if true = true then qb else qd) from h6]
      exact ih
    · by_cases hd : isB 10 c = true
      · have hdig := (isB10 c).1 hd
        rw [runD_dig 10 u c l hd, foldS_cons, nb_cons, if_neg (dig95 hdig)]
        obtain ⟨i1, i2, i3, i4⟩ := run_fold qd qb h1 h2 h6 b1 b2 l false
        have hn : nextN (if u = true then qb else qd) (clsN c.toNat) = (if false = true then qb else qd) := by
          rcases dig_class hdig with g | g <;> rw [g] <;> cases u <;> assumption
        rw [hn]
        refine ⟨i1, by rw [i2]; rfl, fun x hx => ?_, i4⟩
        rcases List.mem_cons.1 hx with g | g
        · rw [g]; exact hdig
        · exact i3 x g
      · rw [runD_end 10 u c l (by simpa using hd) hb]
        refine ⟨rfl, rfl, by simp, fun c' t h => ?_⟩
        obtain ⟨rfl, rfl⟩ := List.cons.inj h
        refine ⟨(isB10f c).1 (by simpa using hd), fun hv h95 => hb ⟨h95, hv⟩⟩

def ph1 (l : List UInt8) : Option (List UInt8 × List UInt8) :=
  if l = [] ∨ l.head? = some 46 then some ([], l)
  else if (runD 10 true l).1 = [] ∨ (runD 10 true l).2.2 = true ∨ (l.head? = some 48 ∧ (runD 10 true l).2.1.length + 1 < l.length) then none else some ((runD 10 true l).1, (runD 10 true l).2.1)
def ph2 (W : List UInt8) : List UInt8 → Option (List UInt8 × List UInt8 × Bool)
  | [] => some ([], [], false)
  | c :: R => if c = 46 then (if W = [] ∨ (R ≠ [] ∧ R.head? ≠ some 101 ∧ R.head? ≠ some 69) then (if (runD 10 true R).1 = [] ∨ (runD 10 true R).2.2 = true then none else some ((runD 10 true R).1, (runD 10 true R).2.1, true)) else some ([], R, true)) else some ([], c :: R, false)
def sgT : List UInt8 → List UInt8 × List UInt8
  | [] => ([], [])
  | c :: R => if c = 45 ∨ c = 43 then ([c], R) else ([], c :: R)
def ph3 : List UInt8 → Option (Option (UInt8 × List UInt8 × List UInt8) × List UInt8)
  | [] => some (none, [])
  | c :: R => if c = 101 ∨ c = 69 then (if (runD 10 true (sgT R).2).1 = [] ∨ (runD 10 true (sgT R).2).2.2 = true then none else some (some (c, (sgT R).1, (runD 10 true (sgT R).2).1), (runD 10 true (sgT R).2).2.1)) else some (none, c :: R)

theorem foldS_zero : ∀ l : List UInt8, foldS 0 l = 0
  | [] => rfl
  | c :: l => by rw [foldS_cons, next_zero _ (cls_lt _)]; exact foldS_zero l
theorem dead_cons (q : Nat) (c : UInt8) (l : List UInt8) (h : nextN q (clsN c.toNat) = 0) : endB (foldS q (c :: l)) = false := by
  rw [foldS_cons, h, foldS_zero]; rfl
/-- a bar behind which no digit stands -/
theorem bar_dead (qb : Nat) (hq : endB qb = false) (h0 : ∀ k, k < 7 → k ≠ 1 → k ≠ 2 → nextN qb k = 0) (r : List UInt8) (h : EndD true r) : endB (foldS qb r) = false := by
  cases r with
  | nil => exact hq
  | cons c t =>
    have hd := (h c t rfl).1
    refine dead_cons _ _ _ (h0 _ (cls_lt _) (fun h1 => ?_) (fun h2 => ?_))
    · rcases cls_is c with g | ⟨_, rfl⟩ | ⟨_, g, _⟩ | ⟨g, _⟩ | ⟨g, _⟩ | ⟨g, _⟩ | ⟨g, _⟩
      · rw [g] at h1; cases h1
      · exact hd dig48
      · exact hd g
      · rw [g] at h1; cases h1
      · rw [g] at h1; cases h1
      · rw [g] at h1; cases h1
      · rw [g] at h1; cases h1
    · exact hd (dig_cls c h2).1
/-- no digit, hence no class of digits -/
theorem not_dig {c : UInt8} (h : ¬ isDig c) : clsN c.toNat ≠ 1 ∧ clsN c.toNat ≠ 2 := by
  constructor
  · intro h1
    rcases cls_is c with g | ⟨_, rfl⟩ | ⟨g, _⟩ | ⟨g, _⟩ | ⟨g, _⟩ | ⟨g, _⟩ | ⟨g, _⟩
    · rw [g] at h1; cases h1
    · exact h dig48
    · rw [g] at h1; cases h1
    · rw [g] at h1; cases h1
    · rw [g] at h1; cases h1
    · rw [g] at h1; cases h1
    · rw [g] at h1; cases h1
  · intro h2
    exact h (dig_cls c h2).1
theorem run_none {l : List UInt8} (h : (runD 10 true l).1 = []) : l = [] ∨ ∃ c t, l = c :: t ∧ ¬ isDig c := by
  cases l with
  | nil => exact .inl rfl
  | cons c t =>
    refine .inr ⟨c, t, rfl, fun hd => ?_⟩
    rw [runD_dig 10 true c t ((isB10 c).2 hd)] at h
    simp at h
theorem run_some {l : List UInt8} (h : (runD 10 true l).1 ≠ []) : ∃ c t, l = c :: t ∧ isDig c ∧ runD 10 true l = (c :: (runD 10 false t).1, (runD 10 false t).2.1, (runD 10 false t).2.2) := by
  cases l with
  | nil => exact absurd rfl h
  | cons c t =>
    by_cases hd : isB 10 c = true
    · exact ⟨c, t, rfl, (isB10 c).1 hd, runD_dig 10 true c t hd⟩
    · rw [runD_end 10 true c t (by simpa using hd) (by simp)] at h
      exact absurd rfl h

/-- what stands behind the first digits -/
structure P1 (l W R : List UInt8) (q : Nat) : Prop where
  st : foldS 1 l = foldS q R
  nb : noBars l = W ++ noBars R
  dig : ∀ x ∈ W, isDig x
  kind : (q = 1 ∧ W = [] ∧ (R = [] ∨ R.head? = some 46)) ∨ (q = 2 ∧ W = [48] ∧ EndD false R) ∨ (q = 3 ∧ W ≠ [] ∧ EndD false R)
theorem ph1_none (l : List UInt8) (h : ph1 l = none) : endB (foldS 1 l) = false := by
  unfold ph1 at h
  split at h
  · cases h
  · rename_i h0
    split at h
    · rename_i h1
      obtain ⟨c, t, rfl⟩ : ∃ c t, l = c :: t := by
        cases l with
        | nil => exact absurd (.inl rfl) h0
        | cons c t => exact ⟨c, t, rfl⟩
      have h46 : c ≠ 46 := fun h => h0 (.inr (by rw [h]; rfl))
      by_cases hd : isDig c
      · rw [runD_dig 10 true c t ((isB10 c).2 hd)] at h1
        simp only [List.cons_ne_nil, false_or, List.head?_cons, Option.some.injEq, List.length_cons] at h1
        by_cases h48 : c = 48
        · subst h48
          rw [foldS_cons, show nextN 1 (clsN (48 : UInt8).toNat) = 2 from by decide]
          cases t with
          | nil =>
            rw [runD_nil] at h1
            simp at h1
          | cons d t' =>
            by_cases hdd : isDig d ∨ d = 95
            · refine dead_cons _ _ _ ?_
              rcases hdd with g | g
              · rcases dig_class g with g | g <;> rw [g] <;> decide
              · rw [g]; decide
            · rw [runD_end 10 false d t' ((isB10f d).2 fun g => hdd (.inl g)) (fun g => hdd (.inr g.1))] at h1
              simp at h1
        · have h1' : (runD 10 false t).2.2 = true := by
            rcases h1 with g | g
            · exact g
            · exact absurd g.1 h48
          rw [foldS_cons, dig_class2 hd h48, show nextN 1 2 = 3 from by decide]
          obtain ⟨i1, i2, i3, i4⟩ := run_fold 3 4 (by decide) (by decide) (by decide) (by decide) (by decide) t false
          have i1' : foldS 3 t = foldS (if (runD 10 false t).2.2 = true then 4 else 3) (runD 10 false t).2.1 := i1
          rw [i1', h1', if_pos rfl]
          rw [h1'] at i4
          exact bar_dead 4 (by decide) (by decide) _ i4
      · refine dead_cons _ _ _ ?_
        obtain ⟨n1, n2⟩ := not_dig hd
        rcases cls_is c with g | ⟨g, _⟩ | ⟨g, _⟩ | ⟨g, g2⟩ | ⟨g, _⟩ | ⟨g, _⟩ | ⟨g, _⟩
        · rw [g]; decide
        · exact absurd g n1
        · exact absurd g n2
        · exact absurd g2 h46
        · rw [g]; decide
        · rw [g]; decide
        · rw [g]; decide
    · cases h
theorem ph1_some (l W R : List UInt8) (h : ph1 l = some (W, R)) : ∃ q, P1 l W R q := by
  unfold ph1 at h
  split at h
  · rename_i h0
    obtain ⟨rfl, rfl⟩ := Prod.mk.inj (Option.some.inj h)
    exact ⟨1, rfl, rfl, by simp, .inl ⟨rfl, rfl, h0⟩⟩
  · rename_i h0
    split at h
    · cases h
    · rename_i h1
      have e := Prod.mk.inj (Option.some.inj h)
      obtain ⟨hn, hv, hz⟩ : (runD 10 true l).1 ≠ [] ∧ (runD 10 true l).2.2 = false ∧ ¬ (l.head? = some 48 ∧ (runD 10 true l).2.1.length + 1 < l.length) := ⟨fun g => h1 (.inl g), by
        cases hh : (runD 10 true l).2.2
        · rfl
        · exact absurd (.inr (.inl hh)) h1, fun g => h1 (.inr (.inr g))⟩
      obtain ⟨c, t, rfl, hd, hr⟩ := run_some hn
      rw [hr] at e hv hz
      obtain ⟨e1, e2⟩ := e
      simp only at e1 e2 hv hz
      obtain ⟨i1, i2, i3, i4⟩ := run_fold 3 4 (by decide) (by decide) (by decide) (by decide) (by decide) t false
      rw [hv] at i1 i4
      have i1' : foldS 3 t = foldS 3 (runD 10 false t).2.1 := i1
      have hnb : noBars (c :: t) = W ++ noBars R := by
        rw [nb_cons, if_neg (dig95 hd), i2, ← e1, ← e2]; rfl
      have hdg : ∀ x ∈ W, isDig x := by
        rw [← e1]
        intro x hx
        rcases List.mem_cons.1 hx with g | g
        · rw [g]; exact hd
        · exact i3 x g
      by_cases h48 : c = 48
      · subst h48
        have hlen : ¬ (runD 10 false t).2.1.length + 1 < (48 :: t).length := fun g => hz ⟨rfl, g⟩
        rw [List.length_cons] at hlen
        have hle := runD_len 10 t false
        have hd0 : (runD 10 false t).1 = [] := List.eq_nil_of_length_eq_zero (by omega)
        have ht : (runD 10 false t).2.1 = t := by
          cases t with
          | nil => rfl
          | cons d t' =>
            by_cases hb : d = 95
            · subst hb
              rw [runD_bar] at hlen hle
              have := runD_len 10 t' true
              simp only [List.length_cons] at hlen
              omega
            · by_cases hdd : isB 10 d = true
              · rw [runD_dig 10 false d t' hdd] at hd0
                simp at hd0
              · rw [runD_end 10 false d t' (by simpa using hdd) (fun g => hb g.1)]
        rw [hd0] at e1
        rw [ht] at e2 i4
        exact ⟨2, by rw [foldS_cons, show nextN 1 (clsN (48 : UInt8).toNat) = 2 from by decide, ← e2], hnb, hdg, .inr (.inl ⟨rfl, e1.symm, by rw [← e2]; exact i4⟩)⟩
      · exact ⟨3, by rw [foldS_cons, dig_class2 hd h48, show nextN 1 2 = 3 from by decide, i1', e2], hnb, hdg, .inr (.inr ⟨rfl, by rw [← e1]; simp, by rw [← e2]; exact i4⟩)⟩
end Go.Proofs.YtmhagigokgklaaaGreatDoor

/- The reference's grammar of decimals is the program's: the point, the power (plain). -/
namespace Go.Proofs.YtmhagigokgklaaaGreatDoor
open Go Go.RowKit Go.Sort Go.Lib

theorem ph2_cons (W : List UInt8) (c : UInt8) (R : List UInt8) : ph2 W (c :: R) = if c = 46 then (if W = [] ∨ (R ≠ [] ∧ R.head? ≠ some 101 ∧ R.head? ≠ some 69) then (if (runD 10 true R).1 = [] ∨ (runD 10 true R).2.2 = true then none else some ((runD 10 true R).1, (runD 10 true R).2.1, true)) else some ([], R, true)) else some ([], c :: R, false) := rfl
theorem sgT_cons (c : UInt8) (R : List UInt8) : sgT (c :: R) = if c = 45 ∨ c = 43 then ([c], R) else ([], c :: R) := rfl
/-- what stands behind the point's digits -/
structure P2 (W R F R2 : List UInt8) (q q2 : Nat) (dot : Bool) : Prop where
  st : foldS q R = foldS q2 R2
  nb : noBars R = (if dot then 46 :: F else []) ++ noBars R2
  dig : ∀ x ∈ F, isDig x
  nodot : dot = false → F = []
  kind : (q2 = q ∧ dot = false ∧ R2 = R ∧ (q = 1 → R2 = []) ∧ R2.head? ≠ some 46) ∨ (q2 = 12 ∧ F = [] ∧ W ≠ [] ∧ (R2 = [] ∨ R2.head? = some 101 ∨ R2.head? = some 69)) ∨ (q2 = 6 ∧ F ≠ [] ∧ EndD false R2)
theorem ph2_none (l W R : List UInt8) (q : Nat) (h1 : P1 l W R q) (h : ph2 W R = none) : endB (foldS q R) = false := by
  cases R with
  | nil => cases h
  | cons c R =>
    rw [ph2_cons] at h
    split at h
    · rename_i h46
      subst h46
      split at h
      · rename_i hc
        split at h
        · rename_i hbad
          have hq : q = 1 ∨ q = 2 ∨ q = 3 := by rcases h1.kind with ⟨g, _⟩ | ⟨g, _⟩ | ⟨g, _⟩ <;> simp [g]
          have hc' : (q = 1 ∧ W = []) ∨ (R ≠ [] ∧ R.head? ≠ some 101 ∧ R.head? ≠ some 69) := by
            rcases hc with g | g
            · rcases h1.kind with ⟨k, _⟩ | ⟨_, k, _⟩ | ⟨_, k, _⟩
              · exact .inl ⟨k, g⟩
              · rw [g] at k; cases k
              · exact absurd g k
            · exact .inr g
          have hW : q ≠ 1 → R ≠ [] ∧ R.head? ≠ some 101 ∧ R.head? ≠ some 69 := fun g => hc'.resolve_left fun k => g k.1
          have hn : nextN q (clsN (46 : UInt8).toNat) = if q = 1 then 5 else 12 := by
            rcases hq with rfl | rfl | rfl <;> decide
          rw [foldS_cons, hn]
          by_cases hd0 : (runD 10 true R).1 = []
          · rcases run_none hd0 with rfl | ⟨c, t, rfl, hnd⟩
            · by_cases g : q = 1
              · rw [if_pos g]; decide
              · exact absurd rfl (hW g).1
            · refine dead_cons _ _ _ ?_
              obtain ⟨n1, n2⟩ := not_dig hnd
              by_cases g : q = 1
              · rw [if_pos g]
                rcases cls_is c with k | ⟨k, _⟩ | ⟨k, _⟩ | ⟨k, _⟩ | ⟨k, _⟩ | ⟨k, _⟩ | ⟨k, _⟩
                · rw [k]; decide
                · exact absurd k n1
                · exact absurd k n2
                · rw [k]; decide
                · rw [k]; decide
                · rw [k]; decide
                · rw [k]; decide
              · rw [if_neg g]
                obtain ⟨_, g2, g3⟩ := hW g
                rcases cls_is c with k | ⟨k, _⟩ | ⟨k, _⟩ | ⟨k, _⟩ | ⟨k, k2, _⟩ | ⟨k, _⟩ | ⟨k, _⟩
                · rw [k]; decide
                · exact absurd k n1
                · exact absurd k n2
                · rw [k]; decide
                · exfalso
                  rcases k2 with k2 | k2
                  · exact g3 (by rw [List.head?_cons]; congr 1; exact UInt8.toNat_inj.1 k2)
                  · exact g2 (by rw [List.head?_cons]; congr 1; exact UInt8.toNat_inj.1 k2)
                · rw [k]; decide
                · rw [k]; decide
          · have hv := hbad.resolve_left hd0
            obtain ⟨c, t, rfl, hd, hr⟩ := run_some hd0
            rw [hr] at hv
            simp only at hv
            have h6 : nextN (if q = 1 then 5 else 12) (clsN c.toNat) = 6 := by
              rcases dig_class hd with k | k <;> rw [k] <;> split <;> decide
            rw [foldS_cons, h6]
            obtain ⟨i1, i2, i3, i4⟩ := run_fold 6 7 (by decide) (by decide) (by decide) (by decide) (by decide) t false
            have i1' : foldS 6 t = foldS (if (runD 10 false t).2.2 = true then 7 else 6) (runD 10 false t).2.1 := i1
            rw [i1', hv, if_pos rfl]
            rw [hv] at i4
            exact bar_dead 7 (by decide) (by decide) _ i4
        · cases h
      · cases h
    · cases h
theorem ph2_some (l W R F R2 : List UInt8) (dot : Bool) (q : Nat) (h1 : P1 l W R q) (h : ph2 W R = some (F, R2, dot)) : ∃ q2, P2 W R F R2 q q2 dot := by
  cases R with
  | nil =>
    have e := Option.some.inj h
    simp only [Prod.mk.injEq] at e
    obtain ⟨rfl, rfl, rfl⟩ := e
    exact ⟨q, rfl, rfl, by simp, fun _ => rfl, .inl ⟨rfl, rfl, rfl, fun _ => rfl, by simp⟩⟩
  | cons c R =>
    rw [ph2_cons] at h
    split at h
    · rename_i h46
      subst h46
      have hq : q = 1 ∨ q = 2 ∨ q = 3 := by rcases h1.kind with ⟨g, _⟩ | ⟨g, _⟩ | ⟨g, _⟩ <;> simp [g]
      have hn : nextN q (clsN (46 : UInt8).toNat) = if q = 1 then 5 else 12 := by
        rcases hq with rfl | rfl | rfl <;> decide
      split at h
      · rename_i hc
        split at h
        · cases h
        · rename_i hok
          have e := Option.some.inj h
          simp only [Prod.mk.injEq] at e
          obtain ⟨e1, e2, rfl⟩ := e
          have hd0 : (runD 10 true R).1 ≠ [] := fun g => hok (.inl g)
          have hv : (runD 10 true R).2.2 = false := by
            cases hh : (runD 10 true R).2.2
            · rfl
            · exact absurd (.inr hh) hok
          obtain ⟨d, t, rfl, hd, hr⟩ := run_some hd0
          rw [hr] at hv e1 e2
          simp only at hv e1 e2
          have h6 : nextN (if q = 1 then 5 else 12) (clsN d.toNat) = 6 := by
            rcases dig_class hd with k | k <;> rw [k] <;> split <;> decide
          obtain ⟨i1, i2, i3, i4⟩ := run_fold 6 7 (by decide) (by decide) (by decide) (by decide) (by decide) t false
          rw [hv] at i1 i4
          have i1' : foldS 6 t = foldS 6 (runD 10 false t).2.1 := i1
          refine ⟨6, by rw [foldS_cons, hn, foldS_cons, h6, i1', e2], ?_, ?_, fun g => (by cases g), .inr (.inr ⟨rfl, by rw [← e1]; simp, by rw [← e2]; exact i4⟩)⟩
          · rw [nb_cons, if_neg (by decide), nb_cons, if_neg (dig95 hd), i2, ← e1, ← e2]; rfl
          · rw [← e1]
            intro x hx
            rcases List.mem_cons.1 hx with g | g
            · rw [g]; exact hd
            · exact i3 x g
      · rename_i hc
        have e := Option.some.inj h
        simp only [Prod.mk.injEq] at e
        obtain ⟨rfl, rfl, rfl⟩ := e
        have hW : W ≠ [] := fun g => hc (.inl g)
        have hq1 : q ≠ 1 := by
          intro g
          rcases h1.kind with ⟨_, k, _⟩ | ⟨k, _⟩ | ⟨k, _⟩
          · exact hW k
          · rw [g] at k; cases k
          · rw [g] at k; cases k
        refine ⟨12, by rw [foldS_cons, hn, if_neg hq1], by rw [nb_cons, if_neg (by decide)]; rfl, by simp, fun g => (by cases g), .inr (.inl ⟨rfl, rfl, hW, ?_⟩)⟩
        by_cases hR : R = []
        · exact .inl hR
        · right
          by_cases k1 : R.head? = some 101
          · exact .inl k1
          · right
            by_cases k2 : R.head? = some 69
            · exact k2
            · exact absurd (.inr ⟨hR, k1, k2⟩) hc
    · rename_i h46
      have e := Option.some.inj h
      simp only [Prod.mk.injEq] at e
      obtain ⟨rfl, rfl, rfl⟩ := e
      refine ⟨q, rfl, rfl, by simp, fun _ => rfl, .inl ⟨rfl, rfl, rfl, fun g => ?_, by simpa using h46⟩⟩
      rcases h1.kind with ⟨_, _, k⟩ | ⟨k, _⟩ | ⟨k, _⟩
      · rcases k with k | k
        · exact k
        · exfalso; rw [List.head?_cons] at k; exact h46 (Option.some.inj k)
      · rw [g] at k; cases k
      · rw [g] at k; cases k

/-- where a power may begin -/
structure Q3 (q : Nat) (R : List UInt8) : Prop where
  q : (q = 2 ∧ EndD false R ∧ R.head? ≠ some 46) ∨ (q = 3 ∧ EndD false R ∧ R.head? ≠ some 46) ∨ (q = 6 ∧ EndD false R) ∨ (q = 12 ∧ (R = [] ∨ R.head? = some 101 ∨ R.head? = some 69))
theorem q3_end {q : Nat} {R : List UInt8} (h : Q3 q R) : endB q = true := by
  rcases h.q with ⟨g, _⟩ | ⟨g, _⟩ | ⟨g, _⟩ | ⟨g, _⟩ <;> rw [g] <;> decide
theorem q3_pow {q : Nat} {R : List UInt8} (h : Q3 q R) : nextN q 4 = 8 := by
  rcases h.q with ⟨g, _⟩ | ⟨g, _⟩ | ⟨g, _⟩ | ⟨g, _⟩ <;> rw [g] <;> decide
theorem e_class {c : UInt8} (h : c = 101 ∨ c = 69) : clsN c.toNat = 4 := by rcases h with rfl | rfl <;> decide
theorem e_not {c : UInt8} (h : ¬ (c = 101 ∨ c = 69)) : clsN c.toNat ≠ 4 := by
  intro g
  rcases cls_is c with k | ⟨k, _⟩ | ⟨k, _⟩ | ⟨k, _⟩ | ⟨k, k2, _⟩ | ⟨k, _⟩ | ⟨k, _⟩
  · rw [k] at g; cases g
  · rw [k] at g; cases g
  · rw [k] at g; cases g
  · rw [k] at g; cases g
  · rcases k2 with k2 | k2
    · exact h (.inr (UInt8.toNat_inj.1 k2))
    · exact h (.inl (UInt8.toNat_inj.1 k2))
  · rw [k] at g; cases g
  · rw [k] at g; cases g
theorem q3_dead {q : Nat} {c : UInt8} {R : List UInt8} (h : Q3 q (c :: R)) (he : ¬ (c = 101 ∨ c = 69)) : endB (foldS q (c :: R)) = false := by
  refine dead_cons _ _ _ ?_
  have h4 := e_not he
  have key : ∀ v : Bool, v = false → EndD v (c :: R) → clsN c.toNat ≠ 1 ∧ clsN c.toNat ≠ 2 ∧ clsN c.toNat ≠ 6 := fun v hv hE => by
    obtain ⟨g1, g2⟩ := hE c R rfl
    obtain ⟨n1, n2⟩ := not_dig g1
    refine ⟨n1, n2, fun g => ?_⟩
    rcases cls_is c with k | ⟨k, _⟩ | ⟨k, _⟩ | ⟨k, _⟩ | ⟨k, _⟩ | ⟨k, _⟩ | ⟨k, k2⟩
    · rw [k] at g; cases g
    · rw [k] at g; cases g
    · rw [k] at g; cases g
    · rw [k] at g; cases g
    · rw [k] at g; cases g
    · rw [k] at g; cases g
    · exact g2 hv k2
  have h46 : (c :: R).head? ≠ some 46 → clsN c.toNat ≠ 3 := fun g g2 => by
    rcases cls_is c with k | ⟨k, _⟩ | ⟨k, _⟩ | ⟨k, k2⟩ | ⟨k, _⟩ | ⟨k, _⟩ | ⟨k, _⟩
    · rw [k] at g2; cases g2
    · rw [k] at g2; cases g2
    · rw [k] at g2; cases g2
    · exact g (by rw [k2]; rfl)
    · rw [k] at g2; cases g2
    · rw [k] at g2; cases g2
    · rw [k] at g2; cases g2
  have hlt := cls_lt c.toNat
  rcases h.q with ⟨rfl, g1, g2⟩ | ⟨rfl, g1, g2⟩ | ⟨rfl, g1⟩ | ⟨rfl, g1⟩
  · obtain ⟨n1, n2, n6⟩ := key false rfl g1
    have n3 := h46 g2
    generalize clsN c.toNat = k at *
    have : k = 0 ∨ k = 5 := by omega
    rcases this with rfl | rfl <;> decide
  · obtain ⟨n1, n2, n6⟩ := key false rfl g1
    have n3 := h46 g2
    generalize clsN c.toNat = k at *
    have : k = 0 ∨ k = 5 := by omega
    rcases this with rfl | rfl <;> decide
  · obtain ⟨n1, n2, n6⟩ := key false rfl g1
    generalize clsN c.toNat = k at *
    have : k = 0 ∨ k = 3 ∨ k = 5 := by omega
    rcases this with rfl | rfl | rfl <;> decide
  · exfalso
    rcases g1 with g | g | g
    · cases g
    · exact he (.inl (by simpa using g))
    · exact he (.inr (by simpa using g))
theorem sgT_fold (R : List UInt8) : foldS 8 R = foldS (if (sgT R).1 = [] then 8 else 9) (sgT R).2 ∧ noBars R = (sgT R).1 ++ noBars (sgT R).2 ∧ ((sgT R).1 = [] ∨ (sgT R).1 = [43] ∨ (sgT R).1 = [45]) ∧ ((sgT R).1 = [] → ∀ c t, (sgT R).2 = c :: t → ¬ (c = 45 ∨ c = 43)) := by
  cases R with
  | nil => exact ⟨rfl, rfl, .inl rfl, fun _ c t h => by cases h⟩
  | cons c R =>
    rw [sgT_cons]
    by_cases h : c = 45 ∨ c = 43
    · rw [if_pos h]
      rcases h with rfl | rfl
      · exact ⟨rfl, by rw [nb_cons, if_neg (by decide)]; rfl, .inr (.inr rfl), fun h => by cases h⟩
      · exact ⟨rfl, by rw [nb_cons, if_neg (by decide)]; rfl, .inr (.inl rfl), fun h => by cases h⟩
    · rw [if_neg h]
      exact ⟨rfl, rfl, .inl rfl, fun _ c' t e => by obtain ⟨rfl, rfl⟩ := List.cons.inj e; exact h⟩
end Go.Proofs.YtmhagigokgklaaaGreatDoor

/- The reference's grammar of decimals is the program's: the law (plain). -/
namespace Go.Proofs.YtmhagigokgklaaaGreatDoor
open Go Go.RowKit Go.Sort Go.Lib

theorem ph3_cons (c : UInt8) (R : List UInt8) : ph3 (c :: R) = if c = 101 ∨ c = 69 then (if (runD 10 true (sgT R).2).1 = [] ∨ (runD 10 true (sgT R).2).2.2 = true then none else some (some (c, (sgT R).1, (runD 10 true (sgT R).2).1), (runD 10 true (sgT R).2).2.1)) else some (none, c :: R) := rfl
theorem e_nat {c : UInt8} (h : c = 101 ∨ c = 69) : c.toNat = 69 ∨ c.toNat = 101 := by rcases h with rfl | rfl <;> decide
theorem s_not {c : UInt8} (h : ¬ (c = 45 ∨ c = 43)) : clsN c.toNat ≠ 5 := by
  intro g
  rcases cls_is c with k | ⟨k, _⟩ | ⟨k, _⟩ | ⟨k, _⟩ | ⟨k, _⟩ | ⟨k, k2⟩ | ⟨k, _⟩
  · rw [k] at g; cases g
  · rw [k] at g; cases g
  · rw [k] at g; cases g
  · rw [k] at g; cases g
  · rw [k] at g; cases g
  · rcases k2 with k2 | k2
    · exact h (.inr k2)
    · exact h (.inl k2)
  · rw [k] at g; cases g
theorem end_not6 {c : UInt8} {t : List UInt8} (hE : EndD false (c :: t)) : clsN c.toNat ≠ 1 ∧ clsN c.toNat ≠ 2 ∧ clsN c.toNat ≠ 6 := by
  obtain ⟨g1, g2⟩ := hE c t rfl
  obtain ⟨n1, n2⟩ := not_dig g1
  refine ⟨n1, n2, fun g => ?_⟩
  rcases cls_is c with k | ⟨k, _⟩ | ⟨k, _⟩ | ⟨k, _⟩ | ⟨k, _⟩ | ⟨k, _⟩ | ⟨k, k2⟩
  · rw [k] at g; cases g
  · rw [k] at g; cases g
  · rw [k] at g; cases g
  · rw [k] at g; cases g
  · rw [k] at g; cases g
  · rw [k] at g; cases g
  · exact g2 rfl k2

theorem ph3_law (q : Nat) (R : List UInt8) (h : Q3 q R) : (ph3 R = none → endB (foldS q R) = false) ∧
    ∀ P R3, ph3 R = some (P, R3) → (R3 = [] → endB (foldS q R) = true) ∧ (R3 ≠ [] → endB (foldS q R) = false) ∧
      ((P = none ∧ R3 = R) ∨ ∃ eb sg X, P = some (eb, sg, X) ∧ PowF (powT eb sg X) eb sg X ∧ X ≠ [] ∧ noBars R = powT eb sg X ++ noBars R3) := by
  cases R with
  | nil =>
    refine ⟨fun g => (by cases g), fun P R3 g => ?_⟩
    obtain ⟨rfl, rfl⟩ := Prod.mk.inj (Option.some.inj g)
    exact ⟨fun _ => q3_end h, fun g => absurd rfl g, .inl ⟨rfl, rfl⟩⟩
  | cons c R =>
    rw [ph3_cons]
    by_cases he : c = 101 ∨ c = 69
    · rw [if_pos he]
      have hst : foldS q (c :: R) = foldS 8 R := by rw [foldS_cons, e_class he, q3_pow h]
      obtain ⟨s1, s2, s3, s4⟩ := sgT_fold R
      rw [hst, s1]
      have hc95 : c ≠ 95 := by rcases he with rfl | rfl <;> decide
      generalize (sgT R).1 = sg at *
      generalize (sgT R).2 = S at *
      have hq9 : endB (if sg = [] then 8 else 9) = false := by split <;> decide
      by_cases hd0 : (runD 10 true S).1 = []
      · rw [if_pos (.inl hd0)]
        refine ⟨fun _ => ?_, fun P R3 g => by cases g⟩
        rcases run_none hd0 with rfl | ⟨d, t, rfl, hnd⟩
        · exact hq9
        · refine dead_cons _ _ _ ?_
          obtain ⟨n1, n2⟩ := not_dig hnd
          have hlt := cls_lt d.toNat
          by_cases hsg : sg = []
          · rw [if_pos hsg]
            have n5 := s_not (s4 hsg d t rfl)
            generalize clsN d.toNat = k at *
            have : k = 0 ∨ k = 3 ∨ k = 4 ∨ k = 6 := by omega
            rcases this with rfl | rfl | rfl | rfl <;> decide
          · rw [if_neg hsg]
            generalize clsN d.toNat = k at *
            have : k = 0 ∨ k = 3 ∨ k = 4 ∨ k = 5 ∨ k = 6 := by omega
            rcases this with rfl | rfl | rfl | rfl | rfl <;> decide
      · obtain ⟨d, t, rfl, hd, hr⟩ := run_some hd0
        have h10 : nextN (if sg = [] then 8 else 9) (clsN d.toNat) = 10 := by
          rcases dig_class hd with k | k <;> rw [k] <;> split <;> decide
        obtain ⟨i1, i2, i3, i4⟩ := run_fold 10 11 (by decide) (by decide) (by decide) (by decide) (by decide) t false
        have i1' : foldS 10 t = foldS (if (runD 10 false t).2.2 = true then 11 else 10) (runD 10 false t).2.1 := i1
        rw [hr, foldS_cons, h10, i1']
        cases hv : (runD 10 false t).2.2
        · rw [hv] at i4
          simp only [Bool.false_eq_true, or_false, if_false, List.cons_ne_nil]
          refine ⟨fun g => (by cases g), fun P R3 g => ?_⟩
          obtain ⟨e1, e2⟩ := Prod.mk.inj (Option.some.inj g)
          rw [e2] at i4 ⊢
          refine ⟨fun g => by rw [g]; rfl, fun g => ?_, .inr ⟨c, sg, d :: (runD 10 false t).1, e1.symm, ⟨rfl, e_nat he, s3, fun x hx => ?_⟩, by simp, ?_⟩⟩
          · cases R3 with
            | nil => exact absurd rfl g
            | cons y z =>
              refine dead_cons _ _ _ ?_
              obtain ⟨n1, n2, n6⟩ := end_not6 i4
              have hlt := cls_lt y.toNat
              generalize clsN y.toNat = k at *
              have : k = 0 ∨ k = 3 ∨ k = 4 ∨ k = 5 := by omega
              rcases this with rfl | rfl | rfl | rfl <;> decide
          · rcases List.mem_cons.1 hx with k | k
            · rw [k]; exact hd
            · exact i3 x k
          · rw [nb_cons, if_neg hc95, s2, nb_cons, if_neg (dig95 hd), i2, ← e2]
            simp [powT]
        · rw [hv] at i4
          rw [if_pos (.inr rfl)]
          refine ⟨fun _ => ?_, fun P R3 g => by cases g⟩
          rw [if_pos rfl]
          exact bar_dead 11 (by decide) (by decide) _ i4
    · rw [if_neg he]
      refine ⟨fun g => (by cases g), fun P R3 g => ?_⟩
      obtain ⟨rfl, rfl⟩ := Prod.mk.inj (Option.some.inj g)
      exact ⟨fun g => (by cases g), fun _ => q3_dead h he, .inl ⟨rfl, rfl⟩⟩

/-- digits, a point's digits, a power, and what is left -/
def fracF (l : List UInt8) : Option (List UInt8 × List UInt8 × Option (UInt8 × List UInt8 × List UInt8) × List UInt8) :=
  match ph1 l with
  | none => none
  | some (W, R1) =>
    match ph2 W R1 with
    | none => none
    | some (F, R2, _) =>
      if W = [] ∧ F = [] then none
      else match ph3 R2 with
        | none => none
        | some (P, R3) => some (W, F, P, R3)
def powV : Option (UInt8 × List UInt8 × List UInt8) → Int
  | none => 0
  | some (_, sg, X) => (exF X : Int) * sgZ sg

theorem frac_law (l : List UInt8) : (decB l = true → ∃ W F P, fracF l = some (W, F, P, []) ∧ DecIs l (W ++ F) (powV P - F.length)) ∧
    (decB l = false → fracF l = none ∨ ∃ W F P R, fracF l = some (W, F, P, R) ∧ R ≠ []) := by
  have hst : decB l = endB (foldS 1 l) := rfl
  rw [hst]
  unfold fracF
  rcases h1 : ph1 l with _ | ⟨W, R1⟩
  · rw [ph1_none l h1]
    exact ⟨fun g => by (cases g), fun _ => .inl rfl⟩
  · obtain ⟨q, p1⟩ := ph1_some l W R1 h1
    rw [p1.st]
    simp only
    rcases h2 : ph2 W R1 with _ | ⟨F, R2, dot⟩
    · rw [ph2_none l W R1 q p1 h2]
      exact ⟨fun g => by (cases g), fun _ => .inl rfl⟩
    · obtain ⟨q2, p2⟩ := ph2_some l W R1 F R2 dot q p1 h2
      rw [p2.st]
      simp only
      by_cases he : W = [] ∧ F = []
      · rw [if_pos he]
        have : endB (foldS q2 R2) = false := by
          rcases p2.kind with ⟨g1, g2, g3, g4, _⟩ | ⟨_, _, g, _⟩ | ⟨_, g, _⟩
          · rcases p1.kind with ⟨k, _⟩ | ⟨_, k, _⟩ | ⟨_, k, _⟩
            · rw [g4 k, g1, k]; decide
            · rw [he.1] at k; cases k
            · exact absurd he.1 k
          · exact absurd he.1 g
          · exact absurd he.2 g
        rw [this]
        exact ⟨fun g => by (cases g), fun _ => .inl rfl⟩
      · rw [if_neg he]
        have hq3 : Q3 q2 R2 := by
          refine ⟨?_⟩
          rcases p2.kind with ⟨rfl, g2, rfl, g4, g5⟩ | ⟨g1, _, _, g4⟩ | ⟨g1, _, g3⟩
          · rcases p1.kind with ⟨_, k, _⟩ | ⟨k, _, k2⟩ | ⟨k, _, k2⟩
            · exact absurd ⟨k, p2.nodot g2⟩ he
            · exact .inl ⟨k, k2, g5⟩
            · exact .inr (.inl ⟨k, k2, g5⟩)
          · exact .inr (.inr (.inr ⟨g1, g4⟩))
          · exact .inr (.inr (.inl ⟨g1, g3⟩))
        obtain ⟨l1, l2⟩ := ph3_law q2 R2 hq3
        rcases h3 : ph3 R2 with _ | ⟨P, R3⟩
        · rw [l1 h3]
          exact ⟨fun g => by (cases g), fun _ => .inl rfl⟩
        · obtain ⟨m1, m2, m3⟩ := l2 P R3 h3
          simp only
          by_cases hR : R3 = []
          · subst hR
            rw [m1 rfl]
            refine ⟨fun _ => ⟨W, F, P, rfl, ?_⟩, fun g => by (cases g)⟩
            have hne : W ++ F ≠ [] := by
              intro g
              rw [List.append_eq_nil_iff] at g
              exact he g
            have hM : MantF (mantT W F dot) W F dot := ⟨rfl, p1.dig, p2.dig, p2.nodot⟩
            have hnb : noBars l = mantT W F dot ++ noBars R2 := by
              rw [p1.nb, p2.nb, ← List.append_assoc]; rfl
            rcases m3 with ⟨rfl, rfl⟩ | ⟨eb, sg, X, rfl, k1, k2, k3⟩
            · refine ⟨W, F, dot, _, hM, hne, rfl, .inl ⟨by rw [hnb]; simp [noBars], ?_⟩⟩
              show (0 : Int) - F.length = _
              omega
            · refine ⟨W, F, dot, _, hM, hne, rfl, .inr ⟨eb, sg, X, k1, k2, ?_, rfl⟩⟩
              rw [hnb, k3]
              simp [noBars]
          · rw [m2 hR]
            exact ⟨fun g => by (cases g), fun _ => .inr ⟨W, F, P, R3, rfl, hR⟩⟩
end Go.Proofs.YtmhagigokgklaaaGreatDoor

/- The reference's whole numbers: minus (walked). -/
namespace Go.Proofs.YtmhagigokgklaaaGreatDoor
open Go Go.RowKit Go.Sort Go.Lib

/-- a byte lower by another and a loan: the byte, and the loan -/
theorem sub_byte (x y r : Nat) (hx : x < 256) (hy : y < 256) (hr : r ≤ 1) : ∃ (p : UInt8) (r' : Nat), x + 256 * r' = p.toNat + y + r ∧ ((r' = 0 ∧ (x : Int) - r - y = (p.toNat : Int)) ∨ (r' = 1 ∧ (x : Int) - r - y < 0 ∧ (x : Int) - r - y + 256 = (p.toNat : Int))) := by
  by_cases h : y + r ≤ x
  · refine ⟨UInt8.ofNat (x - y - r), 0, ?_, .inl ⟨rfl, ?_⟩⟩ <;> rw [UInt8.toNat_ofNat', Nat.mod_eq_of_lt (by omega)] <;> omega
  · refine ⟨UInt8.ofNat (x + 256 - y - r), 1, ?_, .inr ⟨rfl, by omega, ?_⟩⟩ <;> rw [UInt8.toNat_ofNat', Nat.mod_eq_of_lt (by omega)] <;> omega

set_option maxRecDepth 100000 in
set_option maxHeartbeats 4000000 in
theorem minus_list (va vb : Value) (a b : List UInt8) (w : World) (ha : NumB w va a) (hb : NumB w vb b) (_na : NormB a) (nb : NormB b) (la : a.length ≤ 500000) (hle : leV b ≤ leV a) :
    Calls Tryz.prog 68 #[va, vb] w fun e w' => (∃ v', e = .returned v' ∧ IsNum w' v' (leV a - leV b)) ∧ Below w.heap.size w w' := by
  have hlb : b.length ≤ a.length := by
    rcases Nat.lt_or_ge a.length b.length with h | h
    · have := norm_lt a b nb h; omega
    · exact h
  obtain ⟨pa, ca, rfl⟩ := ha.form
  obtain ⟨pb, cb, rfl⟩ := hb.form
  have HA := Lib.hid ha
  have HB := Lib.hid hb
  have HLE := Lib.hid hle
  clear ha hb nb hle
  go_enter Tryz.func68, Tryz.ntmps68
  go_wp2_with fail
  go_loopg [5, 6, 7, 8] a.length (fun g s5 s6 s7 _ wr => ∃ (k r : Nat) (o : List UInt8), k + g = a.length ∧ o.length = k ∧ r ≤ 1 ∧ leV (a.take k) + 256 ^ o.length * r = leV o + leV (b.take k) ∧ s6 = .int .i64 r ∧ s7 = .int .i64 k ∧ Own w wr s5 o)
  case atStart => exact ⟨0, 0, [], by omega, rfl, by omega, by simp [leV], rfl, rfl, Own.start w⟩
  case round =>
    obtain ⟨k, r, o, hkg, hok, hr, hval, rfl, rfl, hown⟩ := hrel
    obtain ⟨po, co, rfl⟩ := hown.form
    have HV := Lib.hid hval
    have HO := Lib.hid hown
    clear hval hown
    rw [hok]
    by_cases hk : k < a.length
    · obtain ⟨ba, oa, c, hv, hlc, hbs, hcell⟩ := HA.out.row (by omega)
      simp only [Value.slice.injEq] at hv
      obtain ⟨rfl, _, rfl⟩ := hv
      have c1 : wr.cell? ⟨ba, oa + k, Option.none⟩ = some (.int .u8 (a[k].toNat : Int)) := (HO.out.below.cell (p := ⟨ba, oa + k, Option.none⟩) hbs).trans (hcell k a[k] (List.getElem?_eq_getElem hk))
      have hx := a[k].toNat_lt
      have htk := leV_take_succ a k hk
      generalize a[k].toNat = x at *
      have hki : (k : Int) < (a.length : Int) := by omega
      by_cases hkb : k < b.length
      · obtain ⟨bb, ob, c', hv', hlc', hbs', hcell'⟩ := HB.out.row (by omega)
        simp only [Value.slice.injEq] at hv'
        obtain ⟨rfl, _, rfl⟩ := hv'
        have c1' : wr.cell? ⟨bb, ob + k, Option.none⟩ = some (.int .u8 (b[k].toNat : Int)) := (HO.out.below.cell (p := ⟨bb, ob + k, Option.none⟩) hbs').trans (hcell' k b[k] (List.getElem?_eq_getElem hkb))
        have hy := b[k].toNat_lt
        have htk' := leV_take_succ b k hkb
        generalize b[k].toNat = y at *
        have hkj : (k : Int) < (b.length : Int) := by omega
        obtain ⟨p, r', hp, hcase⟩ := sub_byte x y r hx hy hr
        have hst := minus_step o _ _ _ r x y r' p HV.out rfl hp
        have hp256 := p.toNat_lt
        have hri : (r : Int) ≤ 1 := by omega
        obtain ⟨d0, hd0⟩ : ∃ d : Int, (x : Int) - (r : Int) = d := ⟨_, rfl⟩
        have hb0 : -1 ≤ d0 ∧ d0 ≤ 255 := by omega
        rw [hd0] at hcase
        obtain ⟨g1, c2, W1, hr1, ho1⟩ := HO.out.add p (p.toNat : Int) rfl (by omega) (k + 1) (by omega)
        rw [hok] at hr1
        have HR1 := Lib.hid hr1
        have HO1 := Lib.hid ho1
        have HST : Hid (leV (a.take (k + 1)) + 256 ^ (o ++ [p]).length * r' = leV (o ++ [p]) + leV (b.take (k + 1))) := Lib.hid (by
          rw [hok] at hst
          rw [List.length_append, List.length_singleton, hok, htk, htk', hst])
        have HOK : Hid ((o ++ [p]).length = k + 1) := Lib.hid (by rw [List.length_append, hok]; rfl)
        have hr'1 : r' ≤ 1 := by omega
        obtain ⟨hb01, hb02⟩ := hb0
        clear hcell hcell' htk htk' hst hr1 ho1 hok hp
        rcases hcase with ⟨rfl, hd1⟩ | ⟨rfl, hneg, hd1⟩
        · have hnn : ¬ ((p.toNat : Int) < 0) := by omega
          go_wp2_with (first | (at_builtin; refine Lib.wpList_append_run _ rfl _ _ _ _ rfl _ _ rfl rfl _ _ HR1.out ?_) | fail)
          go_roundg (gk - 1)
          case measure => omega
          case rel => exact ⟨k + 1, 0, o ++ [p], by omega, HOK.out, hr'1, HST.out, rfl, by go_num, HO1.out⟩
        · obtain ⟨d1, hdd⟩ : ∃ d : Int, d0 - (y : Int) = d := ⟨_, rfl⟩
          rw [hdd] at hneg hd1
          have hb1 : -256 ≤ d1 := by omega
          go_wp2_with (first | (at_builtin; refine Lib.wpList_append_run _ rfl _ _ _ _ rfl _ _ rfl rfl _ _ HR1.out ?_) | fail)
          go_roundg (gk - 1)
          case measure => omega
          case rel => exact ⟨k + 1, 1, o ++ [p], by omega, HOK.out, hr'1, HST.out, rfl, by go_num, HO1.out⟩
      · have htk' : b.take (k + 1) = b.take k := by rw [List.take_of_length_le (by omega), List.take_of_length_le (by omega)]
        have hkj : ¬ (k : Int) < (b.length : Int) := by omega
        obtain ⟨p, r', hp, hcase⟩ := sub_byte x 0 r hx (by decide) hr
        have hst := minus_step o _ _ _ r x 0 r' p HV.out rfl hp
        have hp256 := p.toNat_lt
        have hri : (r : Int) ≤ 1 := by omega
        rw [show ((0 : Nat) : Int) = 0 from rfl, Int.sub_zero] at hcase
        obtain ⟨g1, c2, W1, hr1, ho1⟩ := HO.out.add p (p.toNat : Int) rfl (by omega) (k + 1) (by omega)
        rw [hok] at hr1
        have HR1 := Lib.hid hr1
        have HO1 := Lib.hid ho1
        have HST : Hid (leV (a.take (k + 1)) + 256 ^ (o ++ [p]).length * r' = leV (o ++ [p]) + leV (b.take (k + 1))) := Lib.hid (by
          rw [hok] at hst
          rw [List.length_append, List.length_singleton, hok, htk, htk', hst, Nat.mul_zero, Nat.add_zero])
        have HOK : Hid ((o ++ [p]).length = k + 1) := Lib.hid (by rw [List.length_append, hok]; rfl)
        have hr'1 : r' ≤ 1 := by omega
        clear hcell htk htk' hst hr1 ho1 hok hp
        rcases hcase with ⟨rfl, hd1⟩ | ⟨rfl, hneg, hd1⟩
        · have hnn : ¬ ((p.toNat : Int) < 0) := by omega
          go_wp2_with (first | (at_builtin; refine Lib.wpList_append_run _ rfl _ _ _ _ rfl _ _ rfl rfl _ _ HR1.out ?_) | fail)
          go_roundg (gk - 1)
          case measure => omega
          case rel => exact ⟨k + 1, 0, o ++ [p], by omega, HOK.out, hr'1, HST.out, rfl, by go_num, HO1.out⟩
        · obtain ⟨d1, hdd⟩ : ∃ d : Int, (x : Int) - (r : Int) = d := ⟨_, rfl⟩
          rw [hdd] at hneg hd1
          have hb1 : -256 ≤ d1 := by omega
          go_wp2_with (first | (at_builtin; refine Lib.wpList_append_run _ rfl _ _ _ _ rfl _ _ rfl rfl _ _ HR1.out ?_) | fail)
          go_roundg (gk - 1)
          case measure => omega
          case rel => exact ⟨k + 1, 1, o ++ [p], by omega, HOK.out, hr'1, HST.out, rfl, by go_num, HO1.out⟩
    · have hke : k = a.length := by omega
      have hres : leV (trimL o) = leV a - leV b := by
        have h1 := HV.out
        rw [hke, List.take_length, List.take_of_length_le (by omega)] at h1
        have h2 := leV_lt o
        have h3 := HLE.out
        rw [trim_val]
        have hr0 : r = 0 ∨ r = 1 := by omega
        rcases hr0 with rfl | rfl
        · rw [Nat.mul_zero] at h1; omega
        · rw [Nat.mul_one] at h1; omega
      have hki : ¬ (k : Int) < (a.length : Int) := by omega
      have HT : Hid (∀ W : World, Below wr.heap.size wr W → Calls Tryz.prog 64 #[.slice po k co] W fun e w' => (∃ v', e = .returned v' ∧ IsNum w' v' (leV a - leV b)) ∧ w' = W) := Lib.hid fun W hW => by
        have := trim_any (.slice po o.length co) o W (HO.out.num.go hW) (by omega)
        rw [hok] at this
        refine this.mono ?_
        rintro e w' ⟨⟨v', rfl, hn⟩, rfl⟩
        exact ⟨⟨v', rfl, trimL o, hn, hres, trim_norm o⟩, rfl⟩
      clear HV hres HLE hk hke hkg HA HB
      go_wp2_with fail
      refine (HT.out _ (Below.refl _ _)).mono ?_
      rintro e w5 ⟨⟨v', rfl, hn⟩, rfl⟩
      have HNN := Lib.hid hn
      clear hn
      go_wp2_with fail
      go_ret
      exact ⟨⟨_, rfl, HNN.out⟩, HO.out.below⟩
end Go.Proofs.YtmhagigokgklaaaGreatDoor
