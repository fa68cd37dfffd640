/- Joined texts: Lg Ql Lh. Each begins with its own remark. -/
import Derived.Test.YtmhagigokgklaaaGreatDoorJo
import Derived.Deep.CutRange
import Derived.Test.YtmhagigokgklaaaGreatDoorJm

/- The reference's fraction (walked). -/
namespace Go.Proofs.YtmhagigokgklaaaGreatDoor
open Go Go.RowKit Go.Sort Go.Lib
set_option exponentiation.threshold 3000

theorem bneN (c : UInt8) (n : Nat) (hn : n < 256) : ((c.toNat : Int) != (n : Int)) = !decide (c = UInt8.ofNat n) := by rw [bne, beqN c n hn]
theorem ph1_no {l : List UInt8} (h : l = [] ∨ l.head? = some 46) : ph1 l = some ([], l) := by unfold ph1; rw [if_pos h]
theorem ph1_bad {l : List UInt8} (h0 : ¬ (l = [] ∨ l.head? = some 46)) (h : (runD 10 true l).1 = [] ∨ (runD 10 true l).2.2 = true ∨ (l.head? = some 48 ∧ (runD 10 true l).2.1.length + 1 < l.length)) : ph1 l = none := by
  unfold ph1; rw [if_neg h0, if_pos h]
theorem ph1_ok {l : List UInt8} (h0 : ¬ (l = [] ∨ l.head? = some 46)) (h : ¬ ((runD 10 true l).1 = [] ∨ (runD 10 true l).2.2 = true ∨ (l.head? = some 48 ∧ (runD 10 true l).2.1.length + 1 < l.length))) : ph1 l = some ((runD 10 true l).1, (runD 10 true l).2.1) := by
  unfold ph1; rw [if_neg h0, if_neg h]

/-- the first digits: what the code holds behind them -/
def F1 (s : ByteArray) (w : World) (s4 s5 : Value) (wx : World) : Prop := ∃ (W R : List UInt8) (k : Nat), ph1 s.data.toList = some (W, R) ∧ Rest s k R ∧ s4 = .int .i64 k ∧ s5 = .string ⟨W.toArray⟩ ∧ W.length ≤ s.size ∧ wx = w

/-- the point's digits -/
def F2 (s : ByteArray) (w : World) (W R : List UInt8) (s4 s6 : Value) (wx : World) : Prop := ∃ (F R2 : List UInt8) (dot : Bool) (k : Nat), ph2 W R = some (F, R2, dot) ∧ Rest s k R2 ∧ s4 = .int .i64 k ∧ s6 = .string ⟨F.toArray⟩ ∧ F.length ≤ s.size ∧ wx = w
theorem ph2_skip (W R : List UInt8) (h : R.head? ≠ some 46) : ph2 W R = some ([], R, false) := by
  cases R with
  | nil => rfl
  | cons c R => rw [ph2_cons, if_neg (fun g => h (by rw [g]; rfl))]
theorem ph2_dot0 (W t : List UInt8) (h : ¬ (W = [] ∨ (t ≠ [] ∧ t.head? ≠ some 101 ∧ t.head? ≠ some 69))) : ph2 W (46 :: t) = some ([], t, true) := by
  rw [ph2_cons, if_pos rfl, if_neg h]
theorem ph2_bad (W t : List UInt8) (h : W = [] ∨ (t ≠ [] ∧ t.head? ≠ some 101 ∧ t.head? ≠ some 69)) (h2 : (runD 10 true t).1 = [] ∨ (runD 10 true t).2.2 = true) : ph2 W (46 :: t) = none := by
  rw [ph2_cons, if_pos rfl, if_pos h, if_pos h2]
theorem ph2_ok (W t : List UInt8) (h : W = [] ∨ (t ≠ [] ∧ t.head? ≠ some 101 ∧ t.head? ≠ some 69)) (h2 : ¬ ((runD 10 true t).1 = [] ∨ (runD 10 true t).2.2 = true)) : ph2 W (46 :: t) = some ((runD 10 true t).1, (runD 10 true t).2.1, true) := by
  rw [ph2_cons, if_pos rfl, if_pos h, if_neg h2]
theorem run_bad {l : List UInt8} (h : (!(runD 10 true l).1.isEmpty && !(runD 10 true l).2.2) = false) : (runD 10 true l).1 = [] ∨ (runD 10 true l).2.2 = true := by
  rw [Bool.and_eq_false_iff] at h
  rcases h with g | g
  · left; simpa using g
  · right; simpa using g
theorem run_good {l : List UInt8} (h : (!(runD 10 true l).1.isEmpty && !(runD 10 true l).2.2) = true) : ¬ ((runD 10 true l).1 = [] ∨ (runD 10 true l).2.2 = true) := by
  rw [Bool.and_eq_true] at h
  rintro (g | g)
  · rw [g] at h; exact absurd h.1 (by decide)
  · rw [g] at h; exact absurd h.2 (by decide)

/-- the power -/
def F3 (s : ByteArray) (w : World) (R2 : List UInt8) (s4 s8 : Value) (wx : World) : Prop := ∃ (P : Option (UInt8 × List UInt8 × List UInt8)) (R3 : List UInt8) (k : Nat), ph3 R2 = some (P, R3) ∧ Rest s k R3 ∧ s4 = .int .i64 k ∧ s8 = .int .i64 (clipV (2000 + s.size) P) ∧ wx = w
theorem ph3_skip (R : List UInt8) (h : ¬ (R.head? = some 101 ∨ R.head? = some 69)) : ph3 R = some (none, R) := by
  cases R with
  | nil => rfl
  | cons c R => rw [ph3_cons, if_neg (fun g => h (by rcases g with rfl | rfl <;> simp))]
theorem ph3_bad (c : UInt8) (t : List UInt8) (h : c = 101 ∨ c = 69) (h2 : (runD 10 true (sgT t).2).1 = [] ∨ (runD 10 true (sgT t).2).2.2 = true) : ph3 (c :: t) = none := by
  rw [ph3_cons, if_pos h, if_pos h2]
theorem ph3_ok (c : UInt8) (t : List UInt8) (h : c = 101 ∨ c = 69) (h2 : ¬ ((runD 10 true (sgT t).2).1 = [] ∨ (runD 10 true (sgT t).2).2.2 = true)) : ph3 (c :: t) = some (some (c, (sgT t).1, (runD 10 true (sgT t).2).1), (runD 10 true (sgT t).2).2.1) := by
  rw [ph3_cons, if_pos h, if_neg h2]
theorem clip_step (M : Nat) (X : List UInt8) (j : Nat) (hj : j < X.length) (hd : 48 ≤ X[j].toNat) :
    min (((clipX M (X.take j) : Nat) : Int) * 10 + ((X[j].toNat : Int) - 48)) (M : Int) = ((clipX M (X.take (j + 1)) : Nat) : Int) := by
  rw [List.take_succ_eq_append_getElem hj, clip_snoc]
  omega
theorem runD_dig_all (l : List UInt8) (u : Bool) : ∀ x ∈ (runD 10 u l).1, isDig x := (run_fold 3 4 (by decide) (by decide) (by decide) (by decide) (by decide) l u).2.2.1
theorem ph12_digs {l W R F R2 : List UInt8} {dot : Bool} (h1 : ph1 l = some (W, R)) (h2 : ph2 W R = some (F, R2, dot)) : ∀ c ∈ W ++ F, isDig c := by
  obtain ⟨q, p1⟩ := ph1_some l W R h1
  obtain ⟨q2, p2⟩ := ph2_some l W R F R2 dot q p1 h2
  intro c hc
  rcases List.mem_append.1 hc with g | g
  · exact p1.dig c g
  · exact p2.dig c g
theorem sgz_neg {sg : List UInt8} (h : sg = [45]) : sgZ sg = -1 := by unfold sgZ; rw [if_pos h]
theorem sgz_pos {sg : List UInt8} (h : sg ≠ [45]) : sgZ sg = 1 := by unfold sgZ; rw [if_neg h]
theorem sgT_is (t : List UInt8) : ((sgT t).1 = [45] ↔ t.head? = some 45) ∧ ((sgT t).2 = if t.head? = some 45 ∨ t.head? = some 43 then t.drop 1 else t) := by
  cases t with
  | nil => exact ⟨by simp [sgT], rfl⟩
  | cons c t =>
    rw [sgT_cons]
    by_cases h : c = 45 ∨ c = 43
    · rw [if_pos h]
      refine ⟨by simp, ?_⟩
      rw [if_pos (by rcases h with rfl | rfl <;> simp)]
      rfl
    · rw [if_neg h]
      refine ⟨?_, ?_⟩
      · constructor
        · intro g; cases g
        · intro g; exact absurd (.inl (by simpa using g)) h
      · rw [if_neg]
        rintro (g | g)
        · exact h (.inl (by simpa using g))
        · exact h (.inr (by simpa using g))

set_option maxRecDepth 100000 in
set_option maxHeartbeats 8000000 in
theorem fraction_any (s : ByteArray) (w : World) (hs : s.size ≤ 400) :
    Calls Tryz.prog 33 #[.string s] w (FrPost s w) := by
  have HDG : Hid (∀ (k : Nat) (R : List UInt8) (W : World), Rest s k R → Calls Tryz.prog 29 #[.string s, .int .i64 k, .int .i64 10] W (DgR s R W)) := Lib.hid fun k R W h => digits_rest s k R W (by omega) h
  have HNO : Hid (fracF s.data.toList = none → ∀ W, Below w.heap.size w W → FrPost s w (.returned (.tuple #[.int .u64 0, .bool false])) W) := Lib.hid fun h W hb => fr_none h W hb
  have HL := Lib.hid (rest_0 s)
  obtain ⟨b1, hb1⟩ : ∃ b, decide (¬ (s.data.toList = [] ∨ s.data.toList.head? = some 46)) = b := ⟨_, rfl⟩
  have HB1 := Lib.hid hb1
  clear hb1
  go_enter Tryz.func33, Tryz.ntmps33
  go_upto_region 5 with (fail)
  go_cut [19] from 12 to 18 (fun s19 wx => s19 = .bool b1 ∧ wx = w)
  case first =>
    rcases hl : s.data.toList with _ | ⟨c, t⟩
    · have hn : s.size = 0 := by have := HL.out; rw [hl] at this; have := rest_nil this; omega
      have hi : ((s.size : Nat) : Int) = 0 := by omega
      have HE : Hid (b1 = false) := Lib.hid (by rw [← HB1.out, hl]; simp)
      clear hs hn hl
      go_wp2_with fail
      go_meet
      exact ⟨by rw [HE.out], rfl⟩
    · obtain ⟨hk, hg, _⟩ := rest_cons (by have := HL.out; rw [hl] at this; exact this)
      have hi : (0 : Int) < (s.size : Int) := by omega
      have hb : ((c.toNat : Int) == 46) = decide (c = 46) := beqN c 46 (by decide)
      have hb2 : ((c.toNat : Int) != 46) = !decide (c = 46) := bneN c 46 (by decide)
      have hgc : (s[0].toNat : Int) = (c.toNat : Int) := by rw [hg]
      have HR : Hid (b1 = !decide (c = 46)) := Lib.hid (by
        rw [← HB1.out, hl]
        by_cases h : c = 46
        · subst h; rfl
        · rw [decide_eq_false h, Bool.not_false, decide_eq_true_eq]
          rintro (g | g)
          · cases g
          · exact h (by simpa using g))
      clear hg hl
      generalize decide (c = 46) = b at *
      go_wp2_with fail
      all_goals
        go_meet
        exact ⟨by rw [HR.out], rfl⟩
  case rest =>
    obtain ⟨rfl, hwc⟩ := hcut
    obtain rfl : w = wc := hwc.symm
    go_upto_if 19 with (fail)
    go_cut [4, 5, 7] from 20 to 36 (fun s4 s5 _ wx => F1 s w s4 s5 wx)
    case first =>
      cases b1
      · have HC : Hid (s.data.toList = [] ∨ s.data.toList.head? = some 46) := Lib.hid (Classical.not_not.1 (of_decide_eq_false HB1.out))
        go_wp2_with fail
        go_meet
        exact ⟨[], s.data.toList, 0, ph1_no HC.out, HL.out, rfl, rfl, Nat.zero_le _, rfl⟩
      · have HC : Hid (¬ (s.data.toList = [] ∨ s.data.toList.head? = some 46)) := Lib.hid (of_decide_eq_true HB1.out)
        have HD := Lib.hid (HDG.out 0 s.data.toList w HL.out)
        obtain ⟨c, t, hl⟩ : ∃ c t, s.data.toList = c :: t := by
          rcases hl : s.data.toList with _ | ⟨c, t⟩
          · exact absurd (.inl hl) HC.out
          · exact ⟨c, t, rfl⟩
        have HLC := Lib.hid hl
        obtain ⟨hk, hg, _⟩ := rest_cons (by have := HL.out; rw [hl] at this; exact this)
        have hgc : (s[0].toNat : Int) = (c.toNat : Int) := by rw [hg]
        have hb48 : ((c.toNat : Int) == 48) = decide (c = 48) := beqN c 48 (by decide)
        have hln : s.data.toList.length = s.size := by simp
        have HLN := Lib.hid hln
        clear hl hg hln
        go_wp2_with fail
        refine HD.out.mono ?_
        rintro e w5 ⟨k', hr', rfl, rfl⟩
        have hk1 := hr'.2
        have HR' := Lib.hid hr'
        obtain ⟨ok, hok⟩ : ∃ b, (!(runD 10 true s.data.toList).1.isEmpty && !(runD 10 true s.data.toList).2.2) = b := ⟨_, rfl⟩
        rw [hok]
        have HOK := Lib.hid hok
        have hk'1 : k' ≤ 400 := by omega
        have HK1 := Lib.hid hk1
        obtain ⟨b48, hb⟩ : ∃ b, decide (c = 48) = b := ⟨_, rfl⟩
        rw [hb] at hb48
        have HB48 := Lib.hid hb
        clear hr' hok hk1 hb
        have hdl := runD_len 10 s.data.toList true
        cases ok
        · have HN : Hid (fracF s.data.toList = none) := Lib.hid (frac_1 (ph1_bad HC.out (by
            have := HOK.out
            rw [Bool.and_eq_false_iff] at this
            rcases this with g | g
            · left; simpa using g
            · right; left; simpa using g)))
          clear hdl
          go_wp2_with fail
          go_ret2
          exact HNO.out HN.out _ (Below.refl _ _)
        · have hgood : (runD 10 true s.data.toList).1 ≠ [] ∧ (runD 10 true s.data.toList).2.2 = false := by
            have := HOK.out
            rw [Bool.and_eq_true] at this
            exact ⟨by simpa using this.1, by simpa using this.2⟩
          by_cases hbad : b48 = true ∧ 1 < k'
          · obtain ⟨rfl, h1k⟩ := hbad
            have HN : Hid (fracF s.data.toList = none) := Lib.hid (frac_1 (ph1_bad HC.out (.inr (.inr ⟨by
              rw [HLC.out, of_decide_eq_true HB48.out]; rfl, by
              have h1 := HLN.out
              have h2 := HK1.out
              omega⟩))))
            have h1ki : (1 : Int) < (k' : Int) := by omega
            clear hdl hgood h1k
            go_wp2_with fail
            go_ret2
            exact HNO.out HN.out _ (Below.refl _ _)
          · have HP : Hid (ph1 s.data.toList = some ((runD 10 true s.data.toList).1, (runD 10 true s.data.toList).2.1)) := Lib.hid (ph1_ok HC.out (by
              rintro (g | g | ⟨g1, g2⟩)
              · exact hgood.1 g
              · rw [hgood.2] at g; cases g
              · apply hbad
                have h1 := HLN.out
                have h2 := HK1.out
                refine ⟨?_, by omega⟩
                rw [← HB48.out, decide_eq_true_eq]
                rw [HLC.out] at g1
                simpa using g1))
            have hwl : (runD 10 true s.data.toList).1.length ≤ s.size := by have := HLN.out; omega
            have HWL := Lib.hid hwl
            clear hdl hgood hwl
            have h1ki : decide (1 < (k' : Int)) = decide (1 < k') := decide_eq_decide.2 (by omega)
            have hcs : b48 = false ∨ (b48 = true ∧ decide (1 < k') = false) := by
              cases b48
              · exact .inl rfl
              · exact .inr ⟨rfl, decide_eq_false fun g => hbad ⟨rfl, g⟩⟩
            clear hbad
            generalize decide (1 < k') = bk at *
            rcases hcs with rfl | ⟨rfl, rfl⟩
            · go_wp2_with fail
              go_meet
              exact ⟨_, _, k', HP.out, HR'.out, rfl, rfl, HWL.out, rfl⟩
            · go_wp2_with fail
              go_meet
              exact ⟨_, _, k', HP.out, HR'.out, rfl, rfl, HWL.out, rfl⟩
    case rest =>
      obtain ⟨W, R, k, hp1, hre, rfl, rfl, hWl, hwx⟩ := hcut
      obtain rfl : w = wc := hwx.symm
      have HP1 := Lib.hid hp1
      have HRE := Lib.hid hre
      have hk400 : k ≤ 400 := by have := hre.2; omega
      obtain ⟨b2, hb2⟩ : ∃ b, decide (R.head? = some 46) = b := ⟨_, rfl⟩
      have HB2 := Lib.hid hb2
      have hnl := dg_nil2 W
      obtain ⟨bW, hbW⟩ : ∃ b, W.isEmpty = b := ⟨_, rfl⟩
      rw [hbW] at hnl
      have HBW := Lib.hid hbW
      have hWs : (⟨W.toArray⟩ : ByteArray).size ≤ 400 := by
        show W.toArray.size ≤ 400
        rw [List.size_toArray]; omega
      obtain ⟨WS, hWS⟩ : ∃ x : ByteArray, (⟨W.toArray⟩ : ByteArray) = x := ⟨_, rfl⟩
      rw [hWS] at hnl hWs ⊢
      have HWS := Lib.hid hWS
      have HWL := Lib.hid hWl
      clear hp1 hre hb2 hbW hWS hWl HB1
      go_upto_region 9 with (fail)
      go_cut [46] from 37 to 45 (fun s46 wx => s46 = .bool b2 ∧ wx = w)
      case first =>
        rcases hR : R with _ | ⟨c, t⟩
        · obtain rfl : k = s.size := rest_nil (by have := HRE.out; rw [hR] at this; exact this)
          have HE : Hid (b2 = false) := Lib.hid (by rw [← HB2.out, hR]; rfl)
          clear hR
          go_wp2_with fail
          go_meet
          exact ⟨by rw [HE.out], rfl⟩
        · obtain ⟨hk, hg, _⟩ := rest_cons (by have := HRE.out; rw [hR] at this; exact this)
          have hi : (k : Int) < (s.size : Int) := by omega
          have hb : ((c.toNat : Int) == 46) = decide (c = 46) := beqN c 46 (by decide)
          have hgc : (s[k].toNat : Int) = (c.toNat : Int) := by rw [hg]
          have HE : Hid (b2 = decide (c = 46)) := Lib.hid (by rw [← HB2.out, hR]; simp)
          clear hg hR
          generalize decide (c = 46) = b at *
          go_wp2_with fail
          all_goals
            go_meet
            exact ⟨by rw [HE.out], rfl⟩
      case rest =>
        obtain ⟨rfl, hwc⟩ := hcut
        obtain rfl : w = wc := hwc.symm
        go_upto_if 46 with (fail)
        go_cut [4, 6, 7] from 47 to 77 (fun s4 s6 _ wx => F2 s w W R s4 s6 wx)
        case first =>
          cases b2
          · have HC : Hid (R.head? ≠ some 46) := Lib.hid (of_decide_eq_false HB2.out)
            go_wp2_with fail
            go_meet
            exact ⟨[], R, false, k, ph2_skip W R HC.out, HRE.out, rfl, rfl, Nat.zero_le _, rfl⟩
          · obtain ⟨t, hR⟩ : ∃ t, R = 46 :: t := by
              have := of_decide_eq_true HB2.out
              rcases R with _ | ⟨c, t⟩
              · cases this
              · exact ⟨t, by rw [show c = 46 by simpa using this]⟩
            have hre2 : Rest s (k + 1) t := by
              obtain ⟨_, _, h⟩ := rest_cons (by have := HRE.out; rw [hR] at this; exact this)
              exact h
            have HRE2 := Lib.hid hre2
            have HRR := Lib.hid hR
            have HD := Lib.hid (HDG.out (k + 1) t w hre2)
            obtain ⟨b3, hb3⟩ : ∃ b, decide (W = [] ∨ (t ≠ [] ∧ t.head? ≠ some 101 ∧ t.head? ≠ some 69)) = b := ⟨_, rfl⟩
            have HB3 := Lib.hid hb3
            obtain ⟨k1, hk1⟩ : ∃ k1, k + 1 = k1 := ⟨_, rfl⟩
            have hk1i : (k : Int) + 1 = (k1 : Int) := by omega
            rw [hk1] at HRE2 HD
            have hk1b : k1 ≤ 401 := by omega
            clear hre2 hR hb3 hk1
            go_upto_region 11 with (fail)
            go_cut [68] from 49 to 67 (fun s68 wx => s68 = .bool b3 ∧ wx = w)
            case first =>
              cases bW
              · have hWne : W ≠ [] := fun g => by have := HBW.out; rw [g] at this; cases this
                rcases ht : t with _ | ⟨c, t'⟩
                · obtain rfl : k1 = s.size := rest_nil (by have := HRE2.out; rw [ht] at this; exact this)
                  have HE : Hid (b3 = false) := Lib.hid (by rw [← HB3.out, ht]; simp [hWne])
                  clear ht hWne
                  go_wp2_with fail
                  go_meet
                  exact ⟨by rw [HE.out], rfl⟩
                · obtain ⟨hk, hg, _⟩ := rest_cons (by have := HRE2.out; rw [ht] at this; exact this)
                  have hi : (k1 : Int) < (s.size : Int) := by omega
                  have hba : ((c.toNat : Int) != 101) = !decide (c = 101) := bneN c 101 (by decide)
                  have hbb : ((c.toNat : Int) != 69) = !decide (c = 69) := bneN c 69 (by decide)
                  have hgc : (s[k1].toNat : Int) = (c.toNat : Int) := by rw [hg]
                  have HE : Hid (b3 = (!decide (c = 101) && !decide (c = 69))) := Lib.hid (by
                    rw [← HB3.out, ht]
                    by_cases h1 : c = 101
                    · subst h1; simp [hWne]
                    · by_cases h2 : c = 69
                      · subst h2; simp [hWne]
                      · simp [h1, h2])
                  clear hg ht hWne
                  generalize decide (c = 101) = ba at *
                  generalize decide (c = 69) = bb at *
                  cases ba <;> cases bb
                  all_goals
                    go_wp2_with fail
                    go_meet
                    exact ⟨by rw [HE.out]; rfl, rfl⟩
              · have HE : Hid (b3 = true) := Lib.hid (by
                  rw [← HB3.out, decide_eq_true_eq]
                  left
                  simpa using HBW.out)
                go_wp2_with fail
                go_meet
                exact ⟨by rw [HE.out], rfl⟩
            case rest =>
              obtain ⟨rfl, hwc⟩ := hcut
              obtain rfl : w = wc := hwc.symm
              cases b3
              · have HC := Lib.hid (of_decide_eq_false HB3.out)
                go_wp2_with fail
                go_meet
                exact ⟨[], t, true, k1, by rw [HRR.out]; exact ph2_dot0 W t HC.out, HRE2.out, rfl, rfl, Nat.zero_le _, rfl⟩
              · have HC := Lib.hid (of_decide_eq_true HB3.out)
                go_wp2_with fail
                refine HD.out.mono ?_
                rintro e w5 ⟨k', hr', rfl, rfl⟩
                have hk1 := hr'.2
                have HR' := Lib.hid hr'
                obtain ⟨ok, hok⟩ : ∃ b, (!(runD 10 true t).1.isEmpty && !(runD 10 true t).2.2) = b := ⟨_, rfl⟩
                rw [hok]
                have HOK := Lib.hid hok
                have hdl := runD_len 10 t true
                have hwl : (runD 10 true t).1.length ≤ s.size := by have := HRE2.out.2; omega
                have HFL := Lib.hid hwl
                clear hr' hok hk1 hdl hwl
                cases ok
                · have HN : Hid (fracF s.data.toList = none) := Lib.hid (frac_2 HP1.out (by rw [HRR.out]; exact ph2_bad W t HC.out (run_bad HOK.out)))
                  go_wp2_with fail
                  go_ret2
                  exact HNO.out HN.out _ (Below.refl _ _)
                · have HN := Lib.hid (ph2_ok W t HC.out (run_good HOK.out))
                  go_wp2_with fail
                  go_meet
                  exact ⟨_, _, true, k', by rw [HRR.out]; exact HN.out, HR'.out, rfl, rfl, HFL.out, rfl⟩
        case rest =>
          obtain ⟨F, R2, dot, k2, hp2, hre2, rfl, rfl, hFl, hwx⟩ := hcut
          obtain rfl : w = wc := hwx.symm
          have HP2 := Lib.hid hp2
          have HRE2 := Lib.hid hre2
          have hk2 : k2 ≤ 400 := by have := hre2.2; omega
          have hnl2 := dg_nil2 F
          obtain ⟨bF, hbF⟩ : ∃ b, F.isEmpty = b := ⟨_, rfl⟩
          rw [hbF] at hnl2
          have HBF := Lib.hid hbF
          have HDIG := Lib.hid (ph12_digs HP1.out hp2)
          have HCAT : Hid ((⟨W.toArray⟩ : ByteArray) ++ ⟨F.toArray⟩ = ⟨(W ++ F).toArray⟩) := Lib.hid (by
            apply ByteArray.ext
            rw [ByteArray.data_append]
            apply Array.toList_inj.1
            simp)
          have hFs : (⟨F.toArray⟩ : ByteArray).size = F.length := by
            show F.toArray.size = F.length
            rw [List.size_toArray]
          obtain ⟨FS, hFS⟩ : ∃ x : ByteArray, (⟨F.toArray⟩ : ByteArray) = x := ⟨_, rfl⟩
          rw [hFS] at hnl2 hFs HCAT ⊢
          rw [HWS.out] at HCAT
          obtain ⟨f, hf⟩ : ∃ f, F.length = f := ⟨_, rfl⟩
          rw [hf] at hFs
          have hf4 : f ≤ 400 := by omega
          have HFE := Lib.hid hf
          have hcat := HCAT.out
          obtain ⟨WF, hWF⟩ : ∃ x : ByteArray, (⟨(W ++ F).toArray⟩ : ByteArray) = x := ⟨_, rfl⟩
          rw [hWF] at hcat
          have HWF := Lib.hid hWF
          have HWFL : Hid (WF.data.toList = W ++ F) := Lib.hid (by rw [← hWF])
          have hWFs : WF.size ≤ 900 := by
            rw [← hWF]
            show (W ++ F).toArray.size ≤ 900
            rw [List.size_toArray, List.length_append]
            have := HWL.out
            omega
          have HDEC : Hid (∀ (x : Int) (W' : World), -2999 ≤ x ∧ x ≤ 2999 → Calls Tryz.prog 69 #[.string WF, .int .i64 x] W' fun e w' => (∃ r : Nat, e = .returned (.int .u64 r) ∧ Near (dX (dvl 10 (W ++ F)) x) (dQ x) r) ∧ Below W'.heap.size W' w') := Lib.hid fun x W' hx => by
            have := rdec_any WF x W' (by omega) (by rw [HWFL.out]; exact HDIG.out) hx
            rwa [HWFL.out] at this
          clear hp2 hre2 hbF hFS hf hFl hWF HWF HCAT HB2
          by_cases hWF0 : bW = true ∧ bF = true
          · obtain ⟨rfl, rfl⟩ := hWF0
            have HN : Hid (fracF s.data.toList = none) := Lib.hid (by
              have hW0 : W = [] := by simpa using HBW.out
              have h1 := HP1.out
              have h2 := HP2.out
              rw [hW0] at h1 h2
              exact frac_3 h1 h2 (by simpa using HBF.out))
            go_wp2_with fail
            go_ret2
            exact HNO.out HN.out _ (Below.refl _ _)
          · have HNE : Hid (¬ (W = [] ∧ F = [])) := Lib.hid (fun g => hWF0 ⟨by rw [← HBW.out, g.1]; rfl, by rw [← HBF.out, g.2]; rfl⟩)
            have hbb : bW = false ∨ (bW = true ∧ bF = false) := by
              cases bW
              · exact .inl rfl
              · cases bF
                · exact .inr ⟨rfl, rfl⟩
                · exact absurd ⟨rfl, rfl⟩ hWF0
            clear hWF0
            go_upto_region 15 with (fail)
            go_cut [83] from 78 to 82 (fun s83 wx => s83 = .bool false ∧ wx = w)
            case first =>
              rcases hbb with rfl | ⟨rfl, rfl⟩
              · go_wp2_with fail
                go_meet
                exact ⟨rfl, rfl⟩
              · go_wp2_with fail
                go_meet
                exact ⟨rfl, rfl⟩
            case rest =>
              obtain ⟨rfl, hwc⟩ := hcut
              obtain rfl : w = wc := hwc.symm
              clear hbb hnl hnl2
              obtain ⟨b4, hb4⟩ : ∃ b, decide (R2.head? = some 101 ∨ R2.head? = some 69) = b := ⟨_, rfl⟩
              have HB4 := Lib.hid hb4
              clear hb4
              go_upto_region 18 with (fail)
              go_cut [99] from 84 to 98 (fun s99 wx => s99 = .bool b4 ∧ wx = w)
              case first =>
                rcases hR : R2 with _ | ⟨c, t⟩
                · obtain rfl : k2 = s.size := rest_nil (by have := HRE2.out; rw [hR] at this; exact this)
                  have HE : Hid (b4 = false) := Lib.hid (by rw [← HB4.out, hR]; simp)
                  clear hR
                  go_wp2_with fail
                  go_meet
                  exact ⟨by rw [HE.out], rfl⟩
                · obtain ⟨hk, hg, _⟩ := rest_cons (by have := HRE2.out; rw [hR] at this; exact this)
                  have hi : (k2 : Int) < (s.size : Int) := by omega
                  have hba : ((c.toNat : Int) == 101) = decide (c = 101) := beqN c 101 (by decide)
                  have hbb : ((c.toNat : Int) == 69) = decide (c = 69) := beqN c 69 (by decide)
                  have hgc : (s[k2].toNat : Int) = (c.toNat : Int) := by rw [hg]
                  have HE : Hid (b4 = (decide (c = 101) || decide (c = 69))) := Lib.hid (by rw [← HB4.out, hR]; simp)
                  clear hg hR
                  generalize decide (c = 101) = ba at *
                  generalize decide (c = 69) = bb at *
                  cases ba <;> cases bb
                  all_goals
                    go_wp2_with fail
                    go_meet
                    exact ⟨by rw [HE.out]; rfl, rfl⟩
              case rest =>
                obtain ⟨rfl, hwc⟩ := hcut
                obtain rfl : w = wc := hwc.symm
                go_upto_if 99 with (fail)
                go_cut [4, 7, 8, 9, 10, 11] from 100 to 156 (fun s4 _ s8 _ _ _ wx => F3 s w R2 s4 s8 wx)
                case first =>
                  cases b4
                  · have HC := Lib.hid (of_decide_eq_false HB4.out)
                    go_wp2_with fail
                    go_meet
                    exact ⟨none, R2, k2, ph3_skip R2 HC.out, HRE2.out, rfl, rfl, rfl⟩
                  · have HC := Lib.hid (of_decide_eq_true HB4.out)
                    obtain ⟨c, t, hR⟩ : ∃ c t, R2 = c :: t := by
                      rcases hR : R2 with _ | ⟨c, t⟩
                      · have := HC.out; rw [hR] at this; simp at this
                      · exact ⟨c, t, rfl⟩
                    have HE : Hid (c = 101 ∨ c = 69) := Lib.hid (by
                      have := HC.out
                      rw [hR] at this
                      simpa using this)
                    have HRR := Lib.hid hR
                    obtain ⟨_, _, hre3⟩ := rest_cons (by have := HRE2.out; rw [hR] at this; exact this)
                    obtain ⟨k3, hk3⟩ : ∃ k3, k2 + 1 = k3 := ⟨_, rfl⟩
                    rw [hk3] at hre3
                    have hk3i : (k2 : Int) + 1 = (k3 : Int) := by omega
                    have hk3b : k3 ≤ 401 := by omega
                    have HRE3 := Lib.hid hre3
                    obtain ⟨bl, hbl⟩ : ∃ b, decide (t.head? = some 45) = b := ⟨_, rfl⟩
                    obtain ⟨bs, hbs⟩ : ∃ b, decide (t.head? = some 45 ∨ t.head? = some 43) = b := ⟨_, rfl⟩
                    have HBL := Lib.hid hbl
                    have HBS := Lib.hid hbs
                    clear hR hk3 hre3 hbl hbs
                    go_upto_region 20 with (fail)
                    go_cut [9] from 102 to 111 (fun s9 wx => s9 = .bool bl ∧ wx = w)
                    case first =>
                      rcases ht : t with _ | ⟨d, u⟩
                      · obtain rfl : k3 = s.size := rest_nil (by have := HRE3.out; rw [ht] at this; exact this)
                        have HX : Hid (bl = false) := Lib.hid (by rw [← HBL.out, ht]; simp)
                        clear ht
                        go_wp2_with fail
                        go_meet
                        exact ⟨by rw [HX.out], rfl⟩
                      · obtain ⟨hk, hg, _⟩ := rest_cons (by have := HRE3.out; rw [ht] at this; exact this)
                        have hi : (k3 : Int) < (s.size : Int) := by omega
                        have hba : ((d.toNat : Int) == 45) = decide (d = 45) := beqN d 45 (by decide)
                        have hgc : (s[k3].toNat : Int) = (d.toNat : Int) := by rw [hg]
                        have HX : Hid (bl = decide (d = 45)) := Lib.hid (by rw [← HBL.out, ht]; simp)
                        clear hg ht
                        generalize decide (d = 45) = ba at *
                        go_wp2_with fail
                        all_goals
                          go_meet
                          exact ⟨by rw [HX.out], rfl⟩
                    case rest =>
                      obtain ⟨rfl, hwc⟩ := hcut
                      obtain rfl : w = wc := hwc.symm
                      go_upto_region 21 with (fail)
                      go_cut [124] from 112 to 123 (fun s124 wx => s124 = .bool bs ∧ wx = w)
                      case first =>
                        rcases ht : t with _ | ⟨d, u⟩
                        · obtain rfl : k3 = s.size := rest_nil (by have := HRE3.out; rw [ht] at this; exact this)
                          have HX : Hid (bs = false) := Lib.hid (by rw [← HBS.out, ht]; simp)
                          have HX2 : bl = false := by rw [← HBL.out, ht]; simp
                          subst HX2
                          clear ht
                          go_wp2_with fail
                          go_meet
                          exact ⟨by rw [HX.out], rfl⟩
                        · obtain ⟨hk, hg, _⟩ := rest_cons (by have := HRE3.out; rw [ht] at this; exact this)
                          have hi : (k3 : Int) < (s.size : Int) := by omega
                          have hba : ((d.toNat : Int) == 43) = decide (d = 43) := beqN d 43 (by decide)
                          have hgc : (s[k3].toNat : Int) = (d.toNat : Int) := by rw [hg]
                          have HX : Hid (bs = (bl || decide (d = 43))) := Lib.hid (by rw [← HBS.out, ← HBL.out, ht]; simp)
                          clear hg ht
                          generalize decide (d = 43) = ba at *
                          cases bl <;> cases ba
                          all_goals
                            go_wp2_with fail
                            go_meet
                            exact ⟨by rw [HX.out]; rfl, rfl⟩
                      case rest =>
                        obtain ⟨rfl, hwc⟩ := hcut
                        obtain rfl : w = wc := hwc.symm
                        go_upto_if 124 with (fail)
                        go_cut [4] from 125 to 126 (fun s4 wx => (∃ k : Nat, Rest s k (sgT t).2 ∧ s4 = .int .i64 k) ∧ wx = w)
                        case first =>
                          cases bs
                          · have HX : Hid (Rest s k3 (sgT t).2) := Lib.hid (by
                              rw [(sgT_is t).2, if_neg (of_decide_eq_false HBS.out)]
                              exact HRE3.out)
                            go_wp2_with fail
                            go_meet
                            exact ⟨⟨k3, HX.out, rfl⟩, rfl⟩
                          · have HX : Hid (Rest s (k3 + 1) (sgT t).2) := Lib.hid (by
                              rw [(sgT_is t).2, if_pos (of_decide_eq_true HBS.out)]
                              rcases ht : t with _ | ⟨d, u⟩
                              · have := of_decide_eq_true HBS.out
                                rw [ht] at this; simp at this
                              · obtain ⟨_, _, h⟩ := rest_cons (by have := HRE3.out; rw [ht] at this; exact this)
                                exact h)
                            go_wp2_with fail
                            go_meet
                            exact ⟨⟨k3 + 1, HX.out, by push_cast; rfl⟩, rfl⟩
                        case rest =>
                          obtain ⟨⟨k4, hre4, rfl⟩, hwc⟩ := hcut
                          obtain rfl : w = wc := hwc.symm
                          have hk4 : k4 ≤ 400 := by have := hre4.2; omega
                          have HD := Lib.hid (HDG.out k4 (sgT t).2 w hre4)
                          have HRE4 := Lib.hid hre4
                          clear hre4
                          go_wp2_with fail
                          refine HD.out.mono ?_
                          rintro e w5 ⟨k5, hr5, rfl, rfl⟩
                          have hk5 : k5 ≤ 400 := by have := hr5.2; omega
                          have HR5 := Lib.hid hr5
                          obtain ⟨ok, hok⟩ : ∃ b, (!(runD 10 true (sgT t).2).1.isEmpty && !(runD 10 true (sgT t).2).2.2) = b := ⟨_, rfl⟩
                          rw [hok]
                          have HOK := Lib.hid hok
                          have hdl := runD_len 10 (sgT t).2 true
                          have hxl : (runD 10 true (sgT t).2).1.length ≤ 400 := by have := HRE4.out.2; omega
                          have HXD := Lib.hid (runD_dig_all (sgT t).2 true)
                          clear hr5 hok hdl
                          cases ok
                          · have HN : Hid (fracF s.data.toList = none) := Lib.hid (frac_4 HP1.out HP2.out HNE.out (by rw [HRR.out]; exact ph3_bad c t HE.out (run_bad HOK.out)))
                            go_wp2_with fail
                            go_ret2
                            exact HNO.out HN.out _ (Below.refl _ _)
                          · have HN := Lib.hid (ph3_ok c t HE.out (run_good HOK.out))
                            have HSG : Hid (bl = true → sgZ (sgT t).1 = -1) := Lib.hid (fun g => sgz_neg ((sgT_is t).1.2 (of_decide_eq_true (by rw [HBL.out, g]))))
                            have HSG2 : Hid (bl = false → sgZ (sgT t).1 = 1) := Lib.hid (fun g => sgz_pos (fun h => by
                              have h1 := decide_eq_true ((sgT_is t).1.1 h)
                              rw [HBL.out, g] at h1; cases h1))
                            generalize (sgT t).1 = sg at *
                            generalize (runD 10 true (sgT t).2).2.1 = R3 at *
                            generalize hX : (runD 10 true (sgT t).2).1 = X at *
                            clear hX
                            have hXs : (⟨X.toArray⟩ : ByteArray).size = X.length := by
                              show X.toArray.size = X.length
                              rw [List.size_toArray]
                            obtain ⟨XS, hXS⟩ : ∃ x : ByteArray, (⟨X.toArray⟩ : ByteArray) = x := ⟨_, rfl⟩
                            have HXE : Hid (∀ (j : Nat) (h1 : j < XS.size) (h2 : j < X.length), XS[j] = X[j]) := Lib.hid (by
                              subst hXS
                              intro j h1 h2
                              rfl)
                            rw [hXS] at hXs ⊢
                            obtain ⟨xl, hxl'⟩ : ∃ n, X.length = n := ⟨_, rfl⟩
                            rw [hxl'] at hXs hxl
                            have HXL := Lib.hid hxl'
                            clear hXS hxl'
                            go_wp2_with fail
                            go_loopg [8, 11] xl (fun g s8 s11 wr => ∃ j : Nat, j + g = xl ∧ s11 = .int .i64 j ∧ s8 = .int .i64 ((clipX (2000 + s.size) (X.take j) : Nat) : Int) ∧ wr = w5)
                            case atStart => exact ⟨0, by omega, rfl, rfl, rfl⟩
                            case round =>
                              obtain ⟨j, hjg, rfl, rfl, hwr⟩ := hrel
                              obtain rfl : w5 = wr := hwr.symm
                              have hcl := clip_le (2000 + s.size) (X.take j)
                              by_cases hj : j < xl
                              · have hjX : j < X.length := by rw [HXL.out]; exact hj
                                have hjS : j < XS.size := by omega
                                have hdg := HXD.out X[j] (List.getElem_mem hjX)
                                have hst := clip_step (2000 + s.size) X j hjX hdg.1
                                have hgc : (XS[j].toNat : Int) = (X[j].toNat : Int) := by rw [HXE.out j hjS hjX]
                                have hd1 : 48 ≤ X[j].toNat := hdg.1
                                have hd2 : X[j].toNat ≤ 57 := hdg.2
                                have hji : (j : Int) < (xl : Int) := by omega
                                rw [show ((2000 + s.size : Nat) : Int) = 2000 + (s.size : Int) from by omega] at hst
                                generalize clipX (2000 + s.size) (X.take j) = x0 at *
                                obtain ⟨x1, hx1⟩ : ∃ x, clipX (2000 + s.size) (X.take (j + 1)) = x := ⟨_, rfl⟩
                                rw [hx1] at hst
                                have HX1 := Lib.hid hx1
                                clear hx1
                                generalize X[j].toNat = dn at *
                                have hsub : 0 ≤ (dn : Int) - 48 ∧ (dn : Int) - 48 ≤ 9 := by omega
                                clear hdg
                                go_wp2_with fail
                                go_roundg (gk - 1)
                                case measure => omega
                                case rel => exact ⟨j + 1, by omega, by go_num, by rw [HX1.out], rfl⟩
                              · obtain rfl : j = xl := by omega
                                have htk : X.take j = X := List.take_of_length_le (by rw [HXL.out]; exact Nat.le_refl _)
                                rw [htk] at hcl ⊢
                                have HV : Hid (bl = true → clipV (2000 + s.size) (some (c, sg, X)) = -((clipX (2000 + s.size) X : Nat) : Int)) := Lib.hid (fun g => by
                                  unfold clipV; simp only; rw [HSG.out g]; omega)
                                have HV2 : Hid (bl = false → clipV (2000 + s.size) (some (c, sg, X)) = ((clipX (2000 + s.size) X : Nat) : Int)) := Lib.hid (fun g => by
                                  unfold clipV; simp only; rw [HSG2.out g]; omega)
                                have hji : ¬ (j : Int) < (j : Int) := by omega
                                generalize clipX (2000 + s.size) X = xv at *
                                clear htk hj
                                cases bl
                                · have HVV := Lib.hid (HV2.out rfl)
                                  clear HV HV2 HSG HSG2
                                  go_wp2_with fail
                                  go_meet
                                  exact ⟨_, R3, k5, by rw [HRR.out]; exact HN.out, HR5.out, rfl, by rw [HVV.out], rfl⟩
                                · have HVV := Lib.hid (HV.out rfl)
                                  clear HV HV2 HSG HSG2
                                  go_wp2_with fail
                                  go_meet
                                  exact ⟨_, R3, k5, by rw [HRR.out]; exact HN.out, HR5.out, rfl, by rw [HVV.out], rfl⟩
                case rest =>
                  obtain ⟨P, R3, k3, hp3, hre3, rfl, rfl, hwx⟩ := hcut
                  obtain rfl : w = wc := hwx.symm
                  have hke : ((k3 : Int) == (s.size : Int)) = R3.isEmpty := by
                    have := hre3.2
                    cases R3 with
                    | nil => simp at this; rw [List.isEmpty_nil, beq_iff_eq]; omega
                    | cons c t => rw [List.length_cons] at this; rw [List.isEmpty_cons, beq_eq_false_iff_ne]; omega
                  have HFR := Lib.hid (frac_5 HP1.out HP2.out HNE.out hp3)
                  have hxb : -2400 ≤ clipV (2000 + s.size) P ∧ clipV (2000 + s.size) P ≤ 2400 := by
                    rcases P with _ | ⟨eb, sg, X⟩
                    · show -2400 ≤ (0 : Int) ∧ (0 : Int) ≤ 2400
                      omega
                    · have h1 := clip_le (2000 + s.size) X
                      unfold clipV
                      simp only
                      by_cases hsg : sg = [45]
                      · rw [sgz_neg hsg]; omega
                      · rw [sgz_pos hsg]; omega
                  have HD := Lib.hid (fun W' => HDEC.out (clipV (2000 + s.size) P - f) W' (by omega))
                  have HOK : Hid (∀ (r : Nat) (W' : World), Near (dX (dvl 10 (W ++ F)) (clipV (2000 + s.size) P - f)) (dQ (clipV (2000 + s.size) P - f)) r → Below w.heap.size w W' → FrPost s w (.returned (.tuple #[.int .u64 r, .bool R3.isEmpty])) W') := Lib.hid (fun r W' h hb => by
                    refine ⟨⟨r, _, rfl, ?_⟩, hb⟩
                    rw [HFR.out]
                    refine ⟨rfl, ?_⟩
                    rw [HFE.out]
                    exact h)
                  generalize clipV (2000 + s.size) P = x at *
                  generalize R3.isEmpty = be at *
                  clear hp3 hre3
                  go_wp2_with fail
                  refine (HD.out _).mono ?_
                  rintro e w5 ⟨⟨r, rfl, hr⟩, hb5⟩
                  have HR := Lib.hid hr
                  have HB5 := Lib.hid hb5
                  clear hr hb5
                  go_wp2_with fail
                  go_ret2
                  exact HOK.out r _ HR.out HB5.out
end Go.Proofs.YtmhagigokgklaaaGreatDoor

/- Digits of a base, with bars and without (plain). -/
namespace Go.Proofs.YtmhagigokgklaaaGreatDoor
open Go Go.RowKit Go.Lib

/-- does a text begin and end without a bar, and has it no two bars in a row? p: a bar stands ahead, or nothing -/
def altB : Bool → List UInt8 → Bool
  | p, [] => !p
  | p, c :: l => if c = 95 then !p && altB true l else altB false l

theorem suf_cons (c : UInt8) (t : List UInt8) (h : t ≠ []) : hasSuffix (c :: t) [95] = hasSuffix t [95] := by
  unfold hasSuffix
  rw [Bool.eq_iff_iff, List.isSuffixOf_iff_suffix, List.isSuffixOf_iff_suffix, List.suffix_cons_iff]
  constructor
  · rintro (h1 | h1)
    · simp at h1; exact absurd h1.2.symm (by simpa using h)
    · exact h1
  · exact .inr
theorem contains_cons (c : UInt8) (t sub : List UInt8) : contains (c :: t) sub = (sub.isPrefixOf (c :: t) || contains t sub) := by
  unfold contains
  have hge := index_ge t sub
  conv => lhs; unfold index
  by_cases h0 : sub.isPrefixOf (c :: t) = true
  · rw [if_pos h0, h0, Bool.true_or]; rfl
  · rw [if_neg h0, Bool.eq_false_iff.2 h0, Bool.false_or]
    by_cases h1 : index t sub = -1
    · rw [h1]; rfl
    · rw [if_neg (by simpa using h1)]
      exact decide_eq_decide.2 (by omega)

theorem alt_bar : ∀ (l : List UInt8) (p : Bool), l ≠ [] → altB p l = !((p && hasPrefix l [95]) || hasSuffix l [95] || contains l [95, 95])
  | [], _, h => absurd rfl h
  | [c], p, _ => by
    unfold altB
    by_cases hc : c = 95
    · subst hc; cases p <;> decide
    · rw [if_neg hc]
      have h1 : hasPrefix [c] [95] = false := by
        show ([95] : List UInt8).isPrefixOf [c] = false
        simp [List.isPrefixOf, Ne.symm hc]
      have h2 : hasSuffix [c] [95] = false := by
        unfold hasSuffix
        rw [Bool.eq_false_iff]
        intro h
        rw [List.isSuffixOf_iff_suffix, List.suffix_cons_iff] at h
        rcases h with h | h
        · simp at h; exact hc h.symm
        · simp at h
      have h3 : contains [c] [95, 95] = false := by
        rw [contains_cons]
        simp [List.isPrefixOf, contains, index]
      rw [h1, h2, h3]
      cases p <;> rfl
  | c :: d :: t, p, _ => by
    rw [altB, suf_cons c (d :: t) (by simp), contains_cons]
    by_cases hc : c = 95
    · subst hc
      rw [if_pos rfl, alt_bar (d :: t) true (by simp)]
      have h1 : hasPrefix ((95 : UInt8) :: d :: t) [95] = true := by
        show ([95] : List UInt8).isPrefixOf (95 :: d :: t) = true
        simp [List.isPrefixOf]
      have h2 : ([95, 95] : List UInt8).isPrefixOf (95 :: d :: t) = hasPrefix (d :: t) [95] := by
        show _ = ([95] : List UInt8).isPrefixOf (d :: t)
        simp [List.isPrefixOf]
      rw [h1, h2]
      cases p <;> cases hasPrefix (d :: t) [95] <;> cases hasSuffix (d :: t) [95] <;> cases contains (d :: t) [95, 95] <;> rfl
    · rw [if_neg hc, alt_bar (d :: t) false (by simp)]
      have h1 : hasPrefix (c :: d :: t) [95] = false := by
        show ([95] : List UInt8).isPrefixOf (c :: d :: t) = false
        simp [List.isPrefixOf, Ne.symm hc]
      have h2 : ([95, 95] : List UInt8).isPrefixOf (c :: d :: t) = false := by
        simp [List.isPrefixOf, Ne.symm hc]
      rw [h1, h2]
      cases p <;> cases hasPrefix (d :: t) [95] <;> cases hasSuffix (d :: t) [95] <;> cases contains (d :: t) [95, 95] <;> rfl
theorem bar_alt (l : List UInt8) (h : l ≠ []) : barOK l = altB true l := by
  rw [alt_bar l true h]; unfold barOK; rw [Bool.true_and]

end Go.Proofs.YtmhagigokgklaaaGreatDoor

/- Digits of a base: the reference reads what the program reads (plain); based. -/
namespace Go.Proofs.YtmhagigokgklaaaGreatDoor
open Go Go.RowKit Go.Sort Go.Lib

theorem rh_hex (n : Nat) (h : n < 256) : rhI n = hexI n := by
  have key : ∀ k : Fin 256, rhI k.val = hexI k.val := by decide +kernel
  exact key ⟨n, h⟩
theorem isB_ok (B : Nat) (c : UInt8) : isB B c = true ↔ okB B c := by
  unfold isB okB
  rw [rh_hex _ c.toNat_lt, decide_eq_true_eq]
theorem isB95 (B : Nat) : isB B 95 = false := by
  unfold isB
  rw [decide_eq_false_iff_not]
  intro h
  have h1 : rhI (95 : UInt8).toNat = -1 := by decide
  rw [h1] at h
  omega
theorem runD_all (B : Nat) : ∀ (l : List UInt8) (u : Bool), (((runD B u l).2.1 = [] ∧ (runD B u l).2.2 = false) ↔ (altB u l = true ∧ ∀ x ∈ noBars l, okB B x)) ∧ (((runD B u l).2.1 = [] ∧ (runD B u l).2.2 = false) → (runD B u l).1 = noBars l)
  | [], u => by
    rw [runD_nil]
    refine ⟨⟨fun h => ⟨by unfold altB; have h2 : u = false := h.2; rw [h2]; rfl, by simp [noBars]⟩, fun h => ⟨rfl, ?_⟩⟩, fun _ => rfl⟩
    have := h.1
    unfold altB at this
    cases u
    · rfl
    · cases this
  | c :: l, u => by
    by_cases hb : c = 95
    · subst hb
      rw [nb_cons, if_pos rfl]
      cases u
      · rw [runD_bar]
        have ih := runD_all B l true
        rw [altB, if_pos rfl]
        simpa using ih
      · rw [runD_end B true 95 l (isB95 B) (by simp)]
        rw [altB, if_pos rfl]
        simp
    · rw [nb_cons, if_neg hb, altB, if_neg hb]
      by_cases hd : isB B c = true
      · rw [runD_dig B u c l hd]
        obtain ⟨i1, i2⟩ := runD_all B l false
        simp only
        refine ⟨?_, fun h => by rw [i2 h]⟩
        rw [i1]
        have hc := (isB_ok B c).1 hd
        constructor
        · rintro ⟨h1, h2⟩
          refine ⟨h1, fun x hx => ?_⟩
          rcases List.mem_cons.1 hx with g | g
          · rw [g]; exact hc
          · exact h2 x g
        · rintro ⟨h1, h2⟩
          exact ⟨h1, fun x hx => h2 x (List.mem_cons_of_mem _ hx)⟩
      · rw [runD_end B u c l (by simpa using hd) (fun g => hb g.1)]
        refine ⟨⟨fun h => (by cases h.1), fun h => ?_⟩, fun h => (by cases h.1)⟩
        exact absurd ((isB_ok B c).2 (h.2 c (by simp))) hd
/-- the reference takes a row of digits of a base just where the program does -/
theorem base_law (B : Nat) (l : List UInt8) (hne : l ≠ []) : (HexOK B l ↔ ((!(runD B true l).1.isEmpty && !(runD B true l).2.2) = true ∧ (runD B true l).2.1 = [])) ∧ (HexOK B l → (runD B true l).1 = noBars l) := by
  obtain ⟨h1, h2⟩ := runD_all B l true
  have hh : HexOK B l ↔ ((runD B true l).2.1 = [] ∧ (runD B true l).2.2 = false) := by
    rw [h1]; unfold HexOK; rw [bar_alt l hne]
  refine ⟨?_, fun h => h2 (hh.1 h)⟩
  constructor
  · intro h
    have h3 := hh.1 h
    have h4 := bars_ne hne h.1
    refine ⟨?_, h3.1⟩
    rw [h2 h3, h3.2]
    cases hn : noBars l with
    | nil => exact absurd hn h4
    | cons x t => rfl
  · rintro ⟨h3, h4⟩
    rw [hh]
    refine ⟨h4, ?_⟩
    rw [Bool.and_eq_true] at h3
    simpa using h3.2

def bsI (c : UInt8) : Nat := if c = 120 ∨ c = 88 then 16 else if c = 111 ∨ c = 79 then 8 else if c = 98 ∨ c = 66 then 2 else 0
set_option maxRecDepth 100000 in
set_option maxHeartbeats 1000000 in
theorem based_any (c : UInt8) (w : World) : Calls Tryz.prog 28 #[.int .u8 (c.toNat : Int)] w fun e w' => e = .returned (.int .i64 (bsI c : Nat)) ∧ w' = w := by
  have e1 := beqN c 120 (by decide)
  have e2 := beqN c 88 (by decide)
  have e3 := beqN c 111 (by decide)
  have e4 := beqN c 79 (by decide)
  have e5 := beqN c 98 (by decide)
  have e6 := beqN c 66 (by decide)
  have HB : Hid (bsI c = if (decide (c = UInt8.ofNat 120) || decide (c = UInt8.ofNat 88)) = true then 16 else if (decide (c = UInt8.ofNat 111) || decide (c = UInt8.ofNat 79)) = true then 8 else if (decide (c = UInt8.ofNat 98) || decide (c = UInt8.ofNat 66)) = true then 2 else 0) := Lib.hid (by
    unfold bsI
    simp only [Bool.or_eq_true, decide_eq_true_eq]
    rfl)
  have f1 : ((c.toNat : Int) == 120) = decide (c = UInt8.ofNat 120) := e1
  have f2 : ((c.toNat : Int) == 88) = decide (c = UInt8.ofNat 88) := e2
  have f3 : ((c.toNat : Int) == 111) = decide (c = UInt8.ofNat 111) := e3
  have f4 : ((c.toNat : Int) == 79) = decide (c = UInt8.ofNat 79) := e4
  have f5 : ((c.toNat : Int) == 98) = decide (c = UInt8.ofNat 98) := e5
  have f6 : ((c.toNat : Int) == 66) = decide (c = UInt8.ofNat 66) := e6
  rw [HB.out]
  clear HB e1 e2 e3 e4 e5 e6
  generalize decide (c = UInt8.ofNat 120) = b1 at *
  generalize decide (c = UInt8.ofNat 88) = b2 at *
  generalize decide (c = UInt8.ofNat 111) = b3 at *
  generalize decide (c = UInt8.ofNat 79) = b4 at *
  generalize decide (c = UInt8.ofNat 98) = b5 at *
  generalize decide (c = UInt8.ofNat 66) = b6 at *
  cases b1
  · cases b2
    · cases b3
      · cases b4
        · cases b5
          · cases b6
            all_goals
              go_enter Tryz.func28, Tryz.ntmps28
              go_wp2_with fail
              go_ret
              exact ⟨rfl, rfl⟩
          · go_enter Tryz.func28, Tryz.ntmps28
            go_wp2_with fail
            go_ret
            exact ⟨rfl, rfl⟩
        · go_enter Tryz.func28, Tryz.ntmps28
          go_wp2_with fail
          go_ret
          exact ⟨rfl, rfl⟩
      · go_enter Tryz.func28, Tryz.ntmps28
        go_wp2_with fail
        go_ret
        exact ⟨rfl, rfl⟩
    · go_enter Tryz.func28, Tryz.ntmps28
      go_wp2_with fail
      go_ret
      exact ⟨rfl, rfl⟩
  · go_enter Tryz.func28, Tryz.ntmps28
    go_wp2_with fail
    go_ret
    exact ⟨rfl, rfl⟩
end Go.Proofs.YtmhagigokgklaaaGreatDoor
