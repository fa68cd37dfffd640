/- Joined texts: Pg Ph Pf Pi. Each begins with its own remark. -/
import Derived.Test.YtmhagigokgklaaaGreatDoorJh
import Derived.Deep.CutBlock
import Derived.Test.YtmhagigokgklaaaGreatDoorJg

/- readFloat of a decimal text with a power (printed by gen_readf15.py). -/
namespace Go.Proofs.YtmhagigokgklaaaGreatDoor
open Go Go.RowKit

theorem low_e (c : Nat) (h : c = 69 ∨ c = 101) : bits .or .u8 (c : Int) 32 = 101 := by
  rcases h with rfl | rfl <;> decide +kernel
theorem low_letter (c : Nat) (h1 : 97 ≤ c) (h2 : c ≤ 102) : bits .or .u8 (c : Int) 32 = (c : Int) := by
  have key : ∀ c : Fin 256, 97 ≤ c.val → c.val ≤ 102 → bits .or .u8 ((c.val : Nat) : Int) 32 = ((c.val : Nat) : Int) := by decide +kernel
  exact key ⟨c, by omega⟩ h1 h2
theorem lower_at (c : Nat) (r : Nat) (h : bits .or .u8 (c : Int) 32 = (r : Int)) (w : World) :
    Calls Tryz.prog 114 #[.int .u8 c] w fun e w' => e = .returned (.int .u8 r) ∧ w' = w := by
  have := lower_any c w
  rwa [h] at this

theorem pow_get (s : ByteArray) (M : List UInt8) (eb : UInt8) (sg X : List UInt8) (h : s.data.toList = M ++ powT eb sg X) : s.size = M.length + 1 + sg.length + X.length ∧
    (∀ k (hk : k < M.length) (h2 : k < s.size), M[k] = s[k]) ∧ (∀ h2 : M.length < s.size, s[M.length] = eb) ∧
    (∀ j (hj : j < sg.length) (h2 : M.length + 1 + j < s.size), s[M.length + 1 + j] = sg[j]) ∧
    (∀ j (hj : j < X.length) (h2 : M.length + 1 + sg.length + j < s.size), s[M.length + 1 + sg.length + j] = X[j]) := by
  have hz : s.size = s.data.toList.length := by simp
  have get : ∀ k (h2 : k < s.size), s[k] = (M ++ powT eb sg X)[k]'(by rw [← h, ← hz]; exact h2) := fun k h2 => by
    simp only [← h]; rfl
  refine ⟨?_, ?_, ?_, ?_, ?_⟩
  · rw [hz, h]; simp [powT]; omega
  · intro k hk h2
    rw [get k h2, List.getElem_append_left hk]
  · intro h2
    rw [get _ h2, List.getElem_append_right (Nat.le_refl _)]
    simp [powT]
  · intro j hj h2
    rw [get _ h2, List.getElem_append_right (by omega)]
    simp only [show M.length + 1 + j - M.length = j + 1 by omega, powT, List.getElem_cons_succ]
    rw [List.getElem_append_left hj]
  · intro j hj h2
    rw [get _ h2, List.getElem_append_right (by omega)]
    simp only [show M.length + 1 + sg.length + j - M.length = sg.length + j + 1 by omega, powT, List.getElem_cons_succ]
    rw [List.getElem_append_right (by omega)]
    simp

/-- the sign of a power -/
def sgZ (sg : List UInt8) : Int := if sg = [45] then -1 else 1

set_option maxRecDepth 100000 in
set_option maxHeartbeats 4000000 in
theorem rf_pow (s : ByteArray) (w : World) (hs : s.size ≤ 1000) (M W F : List UInt8) (dot : Bool) (eb : UInt8) (sg X : List UInt8) (hM : MantF M W F dot) (hne : W ++ F ≠ []) (hp : PowF (powT eb sg X) eb sg X) (hX : X ≠ []) (hl : s.data.toList = M ++ powT eb sg X) :
    Calls Tryz.prog 142 #[.string s] w fun e w' => e = .returned (.tuple #[.int .u64 (rfF 10 19 M).mant, .int .i64 (rfExp (rfF 10 19 M) ((exF X : Int) * sgZ sg)), .bool false, .bool (rfF 10 19 M).tr, .bool false, .int .i64 s.size, .bool true]) ∧ w' = w := by
  obtain ⟨gsz, gM, gE, gS, gX⟩ := pow_get s M eb sg X hl
  have hX0 : 0 < X.length := List.length_pos_iff.2 hX
  have hW : ∀ x ∈ W, okD 10 x := fun x hx => .inl (hM.w x hx)
  have hF : ∀ x ∈ F, okD 10 x := fun x hx => .inl (hM.f x hx)
  have hmem := mant_mem 10 _ W F dot hM.eq hW hF
  have hm0 : 0 < M.length := by
    rw [hM.eq]
    unfold mantT
    rcases List.eq_nil_or_concat W with h | ⟨l, c, h⟩
    · subst h
      cases dot with
      | false => rw [hM.nodot rfl] at hne; simp at hne
      | true => simp
    · subst h; rw [List.concat_eq_append]; simp; omega
  have hbyte : ∀ j (h : j < M.length) (h2 : j < s.size), s[j].toNat = 46 ∨ (48 ≤ s[j].toNat ∧ s[j].toNat ≤ 57) := fun j h h2 => by
    rw [← gM j h h2]
    rcases hmem _ (List.getElem_mem h) with h1 | h1 | h1
    · left; rw [h1]; rfl
    · right; exact h1
    · exact absurd h1.1 (by decide)
  have hn0 : 0 < s.size := by omega
  have hb0 := hbyte 0 hm0 hn0
  have hn1 : decide ((s.size : Int) ≤ 0) = false := by rw [decide_eq_false_iff_not]; omega
  have hn2 : decide (s.size = 0) = false := by rw [decide_eq_false_iff_not]; omega
  have hn3 : ¬ s.size = 0 := by omega
  have hc1 : (((s[0]'hn0).toNat : Int) == 43) = false := by rw [beq_eq_false_iff_ne]; omega
  have hc2 : (((s[0]'hn0).toNat : Int) == 45) = false := by rw [beq_eq_false_iff_ne]; omega
  have hx1 : ∀ h : 1 < s.size, (bits .or .u8 ((s[1].toNat : Nat) : Int) 32 == 120) = false := fun h => by
    by_cases h1 : 1 < M.length
    · have := hbyte 1 h1 h
      exact low_x _ s[1].toNat_lt (by omega) (by omega)
    · have hm1 : M.length = 1 := by omega
      have he := gE (by omega)
      simp only [hm1] at he
      rw [he]
      have := hp.eb
      exact low_x _ eb.toNat_lt (by omega) (by omega)
  have hms : M.length < s.size := by omega
  have hE := gE hms
  have hEb := hp.eb
  have e95 : (((s[M.length]'hms).toNat : Int) == 95) = false := by rw [hE, beq_eq_false_iff_ne]; omega
  have e46 : (((s[M.length]'hms).toNat : Int) == 46) = false := by rw [hE, beq_eq_false_iff_ne]; omega
  have e48 : (48 : Int) ≤ ((s[M.length]'hms).toNat : Int) := by rw [hE]; omega
  have e57 : decide (((s[M.length]'hms).toNat : Int) ≤ 57) = false := by rw [hE, decide_eq_false_iff_not]; omega
  have HEL := Lib.hid (fun (W : World) => lower_at (s[M.length]'hms).toNat 101 (by rw [hE]; exact low_e _ hEb) W)
  -- the power's digits
  obtain ⟨o, ho⟩ : ∃ o, M.length + 1 + sg.length = o := ⟨_, rfl⟩
  have hdX : ∀ i (h1 : o ≤ i) (h2 : i < s.size), 48 ≤ s[i].toNat ∧ s[i].toNat ≤ 57 ∧ exF (X.take (i + 1 - o)) = (if exF (X.take (i - o)) < 10000 then exF (X.take (i - o)) * 10 + (s[i].toNat - 48) else exF (X.take (i - o))) := fun i h1 h2 => by
    have hj : i - o < X.length := by omega
    have hg := gX (i - o) hj (by omega)
    simp only [show M.length + 1 + sg.length + (i - o) = i by omega] at hg
    have hd := hp.x _ (List.getElem_mem hj)
    rw [← hg] at hd
    refine ⟨hd.1, hd.2, ?_⟩
    rw [show i + 1 - o = i - o + 1 by omega, List.take_succ_eq_append_getElem hj, ex_snoc, ← hg]
  have hexb : ∀ i, exF (X.take i) < 100000 := fun i => ex_lt _ fun x hx => hp.x x (List.mem_of_mem_take hx)
  have hosz : s.size = o + X.length := by omega
  have HDX := Lib.hid hdX
  have HEXB := Lib.hid hexb
  have HX1 := Lib.hid hx1
  have HGET := Lib.hid gM
  have HGS := Lib.hid gS
  have HSG := Lib.hid hp.sg
  have HPT := Lib.hid (mant_point 10 19 M W F dot hM.eq hW hF)
  have HMT := Lib.hid (rf_mant 10 19 M W F dot hM.eq (fun x hx => dig_ne46 (hM.w x hx)) (fun x hx => dig_ne46 (hM.f x hx)) hM.nodot)
  have HMEM := Lib.hid hmem
  have HNE := Lib.hid hne
  have HO := Lib.hid ho
  have HOSZ := Lib.hid hosz
  clear hM hne hW hF hmem hx1 hbyte hb0 gM gE gS gX gsz hp hX hl hE hEb hdX hexb ho hosz
  go_enter Tryz.func142, Tryz.ntmps142
  go_wp2_with fail
  go_step3
  go_upto_region 12 with fail
  go_cut [54] from 36 to 54 (fun s54 wx => s54 = .bool false ∧ wx = w)
  case first =>
    by_cases h3 : 2 < s.size
    · have hx := HX1.out (by omega)
      cases h48 : ((s[0].toNat : Int) == 48)
      all_goals
        go_wp2_with (go_at_call 114; refine (lower_any _ _).mono ?_; rintro e w' ⟨rfl, rfl⟩)
        go_meet
        exact ⟨rfl, rfl⟩
    · go_wp2_with fail
      go_meet
      exact ⟨rfl, rfl⟩
  case rest =>
    obtain ⟨rfl, rfl⟩ := hcut
    clear hc1 hc2 HX1
    go_wp2_with fail
    go_step3
    go_wp2_with fail
    go_loopg [2, 5, 7, 9, 13, 14, 15, 16, 17] M.length (fun g s2 s5 s7 s9 s13 s14 s15 s16 s17 wr => ∃ (k nd nm mant : Nat) (dp : Int) (dt dg tr : Bool), k + g = M.length ∧ rfF 10 19 (M.take k) = ⟨nd, nm, mant, dp, dt, dg, tr⟩ ∧ s2 = .int .u64 mant ∧ s5 = .bool tr ∧ s7 = .int .i64 k ∧ s9 = .bool false ∧ s13 = .bool dt ∧ s14 = .bool dg ∧ s15 = .int .i64 nd ∧ s16 = .int .i64 nm ∧ s17 = .int .i64 dp ∧ wr = wc)
    case atStart => exact ⟨0, 0, 0, 0, 0, false, false, false, by omega, rfl, rfl, rfl, rfl, rfl, rfl, rfl, rfl, rfl, rfl, rfl⟩
    case round =>
      obtain ⟨k, nd, nm, mant, dp, dt, dg, tr, hkg, hst, rfl, rfl, rfl, rfl, rfl, rfl, rfl, rfl, rfl, rfl⟩ := hrel
      have hbd := rf_bd 10 19 (by decide) (M.take k) (fun x hx => HMEM.out x (List.mem_of_mem_take hx))
      rw [hst] at hbd
      simp only at hbd
      have hlk : (M.take k).length ≤ k := List.length_take_le _ _
      obtain ⟨b1, b2, b3, b4, b5, b6⟩ := hbd
      have hnd : nd ≤ 1000 := by omega
      have hdp1 : -1000 ≤ dp := by omega
      have hdp2 : dp ≤ 1000 := by omega
      have HST := Lib.hid hst
      by_cases hlt : k < M.length
      · have hnx := rf_next 10 19 M k hlt _ hst
        have hgk := HGET.out k hlt (by omega)
        rw [hgk] at hnx
        have hby := HMEM.out _ (List.getElem_mem hlt)
        rw [hgk] at hby
        have hpt := HPT.out k hlt
        rw [hst, hgk] at hpt
        simp only at hpt
        have HNX := Lib.hid hnx
        have HB4 := Lib.hid b4
        have HPK := Lib.hid hpt
        clear hst hnx b4 hpt b1 b2 b5 b6 hlk hgk
        by_cases h46 : s[k].toNat = 46
        · have hd : dt = false := HPK.out (by rw [← UInt8.ofNat_toNat (x := s[k]), h46]; rfl)
          subst hd
          clear hby
          go_wp2_with fail
          go_roundg (gk - 1)
          case measure => omega
          case rel => exact ⟨k + 1, nd, nm, mant, (nd : Int), true, dg, tr, by omega, by rw [HNX.out, show s[k] = 46 from by rw [← UInt8.ofNat_toNat (x := s[k]), h46]; rfl]; rfl, rfl, rfl, by go_num, rfl, rfl, rfl, rfl, rfl, rfl, rfl⟩
        · have HC46 : Hid (s[k] ≠ 46) := Lib.hid fun h => h46 (by rw [h]; rfl)
          have t46 : ((s[k].toNat : Int) == 46) = false := by rw [beq_eq_false_iff_ne]; omega
          replace hby := hby.resolve_left HC46.out
          clear h46
          rcases hby with hdg | hlet
          · have hd1 : (48 : Int) ≤ (s[k].toNat : Int) := by have := hdg.1; omega
            have hd2 : (s[k].toNat : Int) ≤ 57 := by have := hdg.2; omega
            have t95 : ((s[k].toNat : Int) == 95) = false := by rw [beq_eq_false_iff_ne]; omega
            have HDV : Hid (dv s[k].toNat = s[k].toNat - 48) := Lib.hid (by unfold dv; rw [if_pos (show 48 ≤ s[k].toNat ∧ s[k].toNat ≤ 57 from hdg)])
            clear hdg
            by_cases hz : s[k].toNat = 48 ∧ nd = 0
            · obtain ⟨hz1, rfl⟩ := hz
              have t48 : ((s[k].toNat : Int) == 48) = true := by rw [beq_iff_eq]; omega
              have HZ : Hid (s[k] = 48) := Lib.hid (by rw [← UInt8.ofNat_toNat (x := s[k]), hz1]; rfl)
              clear hz1
              go_wp2_with fail
              go_roundg (gk - 1)
              case measure => omega
              case rel => exact ⟨k + 1, 0, nm, mant, dp - 1, dt, true, tr, by omega, by rw [HNX.out]; unfold rfStep; rw [if_neg HC46.out, if_pos ⟨HZ.out, rfl⟩], rfl, rfl, by go_num, rfl, rfl, rfl, rfl, rfl, rfl, rfl⟩
            · have HZ : Hid (¬ (s[k] = 48 ∧ nd = 0)) := Lib.hid fun h => hz ⟨by rw [h.1]; rfl, h.2⟩
              have hzz : ((s[k].toNat : Int) == 48) = false ∨ ((s[k].toNat : Int) == 48) = true ∧ ((nd : Int) == 0) = false ∧ (nd == 0) = false ∧ ¬ nd = 0 := by
                by_cases h48 : s[k].toNat = 48
                · right; exact ⟨by rw [beq_iff_eq]; omega, by rw [beq_eq_false_iff_ne]; omega, by rw [beq_eq_false_iff_ne]; omega, by omega⟩
                · left; rw [beq_eq_false_iff_ne]; omega
              clear hz
              by_cases hm : nm < 19
              · have hm2 : mant < 1000000000000000000 := Nat.lt_of_lt_of_le HB4.out (Nat.pow_le_pow_right (by decide) (show nm ≤ 18 by omega))
                have tm : decide ((nm : Int) < 19) = true := by rw [decide_eq_true_eq]; omega
                rcases hzz with t48 | ⟨t48, tn, tn2, tn3⟩
                all_goals
                  go_wp2_with fail
                  go_roundg (gk - 1)
                  case measure => omega
                  case rel => exact ⟨k + 1, nd + 1, nm + 1, mant * 10 + dv s[k].toNat, dp, dt, true, tr, by omega, by rw [HNX.out]; unfold rfStep; rw [if_neg HC46.out, if_neg HZ.out, if_pos hm], by rw [HDV.out]; go_num, rfl, by go_num, rfl, rfl, rfl, by go_num, by go_num, rfl, rfl⟩
              · have tm : decide ((nm : Int) < 19) = false := by rw [decide_eq_false_iff_not]; omega
                rcases hzz with t48 | ⟨t48, tn, tn2, tn3⟩
                · have t48n : ((s[k].toNat : Int) != 48) = true := by rw [bne, t48]; rfl
                  have HN : Hid ((s[k] != 48) = true) := Lib.hid (bne_iff_ne.2 fun h => by rw [h] at t48; exact absurd t48 (by decide))
                  go_wp2_with fail
                  go_roundg (gk - 1)
                  case measure => omega
                  case rel => exact ⟨k + 1, nd + 1, nm, mant, dp, dt, true, true, by omega, by rw [HNX.out]; unfold rfStep; rw [if_neg HC46.out, if_neg HZ.out, if_neg hm]; simp only [HN.out, Bool.or_true], rfl, rfl, by go_num, rfl, rfl, rfl, by go_num, rfl, rfl, rfl⟩
                · have t48n : ((s[k].toNat : Int) != 48) = false := by rw [bne, t48]; rfl
                  have HN : Hid ((s[k] != 48) = false) := Lib.hid (by
                    rw [bne_eq_false_iff_eq]
                    have h := beq_iff_eq.1 t48
                    rw [← UInt8.ofNat_toNat (x := s[k]), show s[k].toNat = 48 by omega]; rfl)
                  go_wp2_with fail
                  go_roundg (gk - 1)
                  case measure => omega
                  case rel => exact ⟨k + 1, nd + 1, nm, mant, dp, dt, true, tr, by omega, by rw [HNX.out]; unfold rfStep; rw [if_neg HC46.out, if_neg HZ.out, if_neg hm]; simp only [HN.out, Bool.or_false], rfl, rfl, by go_num, rfl, rfl, rfl, by go_num, rfl, rfl, rfl⟩
          · exact absurd hlet.1 (by decide)
      · have hke : k = M.length := by omega
        have hfull : M.take k = M := List.take_of_length_le (by omega)
        rw [hfull] at hst
        have hmt := HMT.out
        rw [hst] at hmt
        obtain ⟨m1, m2, m3, m4, m5⟩ := hmt
        have hdg : dg = true := by
          have := m1.dig
          simp only at this
          rw [this]
          have := HNE.out
          simpa using this
        subst hdg hke
        have HS := Lib.hid hst
        have hm20 : mant < 10000000000000000000 := Nat.lt_of_lt_of_le b4 (Nat.pow_le_pow_right (by decide) b3)
        obtain ⟨DP, hDP⟩ : ∃ DP : Int, DP = (if dt then dp else (nd : Int)) := ⟨_, rfl⟩
        have hDP1 : -1000 ≤ DP := by rw [hDP]; split <;> omega
        have hDP2 : DP ≤ 1000 := by rw [hDP]; split <;> omega
        have HDP := Lib.hid hDP
        have HEZ := Lib.hid (fun x => rfExp_zero nd nm mant dp dt true tr x)
        have HEN : Hid (∀ x : Int, mant ≠ 0 → rfExp ⟨nd, nm, mant, dp, dt, true, tr⟩ x = DP + x - (nm : Int)) := Lib.hid fun x h => by rw [hDP]; exact if_neg h
        clear b4 b5 b6 hlk b1 m1 m2 m3 m4 m5 hst hfull HST hDP
        -- where the power's digits begin
        have hone : (sg = [] ∧ o = M.length + 1) ∨ (sg = [43] ∧ o = M.length + 1 + 1) ∨ (sg = [45] ∧ o = M.length + 1 + 1) := by
          rcases HSG.out with h | h | h <;> subst h <;> have := HO.out <;> simp at this
          · left; exact ⟨rfl, by omega⟩
          · right; left; exact ⟨rfl, by omega⟩
          · right; right; exact ⟨rfl, by omega⟩
        have hosz := HOSZ.out
        have hos : o < s.size := by omega
        have hd0 := HDX.out o (Nat.le_refl _) hos
        have hs0 : M.length + 1 < s.size := by rcases hone with h | h | h <;> omega
        have c1 : (48 : Int) ≤ ((s[o]'hos).toNat : Int) := by omega
        have c2 : ((s[o]'hos).toNat : Int) ≤ 57 := by omega
        obtain ⟨Z, hZ⟩ : ∃ Z : Int, Z = sgZ sg := ⟨_, rfl⟩
        have hZ1 : Z = 1 ∨ Z = -1 := by rw [hZ]; unfold sgZ; split <;> simp
        have HZ := Lib.hid hZ
        have HZ1 := Lib.hid hZ1
        have HONE := Lib.hid hone
        have HSB : Hid (sg = [] → ((s[M.length + 1]'hs0).toNat : Int) = (s[o]'hos).toNat) := Lib.hid fun h => by
          have ho2 : o = M.length + 1 := by
            rcases hone with ⟨_, h1⟩ | ⟨h1, _⟩ | ⟨h1, _⟩
            · exact h1
            · rw [h] at h1; exact absurd h1 (by decide)
            · rw [h] at h1; exact absurd h1 (by decide)
          subst ho2; rfl
        have HSS : Hid (∀ x, sg = [x] → s[M.length + 1]'hs0 = x) := Lib.hid fun x h => by
          have := HGS.out 0 (by rw [h]; simp) hs0
          rw [show sg[0]'(by rw [h]; simp) = x from by simp [h]] at this
          exact this
        clear hZ hZ1 hone hd0 HSG HGS HO HPT HMT HMEM HGET hosz
        go_upto_if 142 with fail
        go_cut [17] from 139 to 142 (fun s17 wx => s17 = .int .i64 DP ∧ wx = wr)
        case first =>
          cases dt
          all_goals
            go_wp2_with fail
            go_meet
            exact ⟨by rw [HDP.out]; rfl, rfl⟩
        case rest =>
          obtain ⟨rfl, rfl⟩ := hcut
          go_upto_block 4 with (go_at_call 114; refine (HEL.out _).mono ?_; rintro e wr ⟨rfl, rfl⟩)
          go_cut [7, 19] from 170 to 178 (fun s7 s19 wx => s7 = .int .i64 o ∧ s19 = .int .i64 Z ∧ wx = wr)
          case first =>
            rcases HONE.out with ⟨hsg, hoo⟩ | ⟨hsg, hoo⟩ | ⟨hsg, hoo⟩
            · have hb := HSB.out hsg
              have c3 : (((s[M.length + 1]'hs0).toNat : Int) == 43) = false := by rw [beq_eq_false_iff_ne]; omega
              have c4 : (((s[M.length + 1]'hs0).toNat : Int) == 45) = false := by rw [beq_eq_false_iff_ne]; omega
              have hz : Z = 1 := by rw [HZ.out, hsg]; decide
              clear hb hsg
              subst hoo hz
              go_wp2_with fail
              go_meet
              exact ⟨by go_num, rfl, rfl⟩
            · have hb := HSS.out _ hsg
              have c3 : (((s[M.length + 1]'hs0).toNat : Int) == 43) = true := by rw [hb]; rfl
              have hz : Z = 1 := by rw [HZ.out, hsg]; decide
              clear hb hsg
              subst hoo hz
              go_wp2_with fail
              go_meet
              exact ⟨by go_num, rfl, rfl⟩
            · have hb := HSS.out _ hsg
              have c3 : (((s[M.length + 1]'hs0).toNat : Int) == 43) = false := by rw [hb]; rfl
              have c4 : (((s[M.length + 1]'hs0).toNat : Int) == 45) = true := by rw [hb]; rfl
              have hz : Z = -1 := by rw [HZ.out, hsg]; decide
              clear hb hsg
              subst hoo hz
              go_wp2_with fail
              go_meet
              exact ⟨by go_num, rfl, rfl⟩
          case rest =>
            obtain ⟨rfl, rfl, hwc⟩ := hcut
            obtain rfl : wr = wc := hwc.symm
            go_wp2_with fail
            go_loopg [7, 9, 20] X.length (fun g s7 s9 s20 wr' => ∃ i e : Nat, o ≤ i ∧ i + g = o + X.length ∧ exF (X.take (i - o)) = e ∧ s7 = .int .i64 i ∧ s9 = .bool false ∧ s20 = .int .i64 e ∧ wr' = wr)
            case atStart => exact ⟨o, 0, Nat.le_refl _, rfl, by rw [Nat.sub_self]; rfl, rfl, rfl, rfl, rfl⟩
            case round =>
              obtain ⟨i, e, hoi, hig, hex, rfl, rfl, rfl, rfl⟩ := hrel
              have hosz := HOSZ.out
              have heb := HEXB.out (i - o)
              rw [hex] at heb
              by_cases hlt : i < s.size
              · obtain ⟨d1, d2, d3⟩ := HDX.out i hoi hlt
                rw [hex] at d3
                have HD3 := Lib.hid d3
                have hd1 : (48 : Int) ≤ ((s[i]'hlt).toNat : Int) := by omega
                have hd2 : ((s[i]'hlt).toNat : Int) ≤ 57 := by omega
                have t95 : (((s[i]'hlt).toNat : Int) == 95) = false := by rw [beq_eq_false_iff_ne]; omega
                clear d3 d1 d2 hex hosz
                by_cases he : e < 10000
                · have te : decide ((e : Int) < 10000) = true := by rw [decide_eq_true_eq]; omega
                  go_wp2_with fail
                  go_roundg (gk - 1)
                  case measure => have := HOSZ.out; omega
                  case rel => exact ⟨i + 1, e * 10 + (s[i].toNat - 48), by omega, by have := HOSZ.out; omega, by rw [HD3.out, if_pos he], by go_num, rfl, by go_num, rfl⟩
                · have te : decide ((e : Int) < 10000) = false := by rw [decide_eq_false_iff_not]; omega
                  go_wp2_with fail
                  go_roundg (gk - 1)
                  case measure => have := HOSZ.out; omega
                  case rel => exact ⟨i + 1, e, by omega, by have := HOSZ.out; omega, by rw [HD3.out, if_neg he], by go_num, rfl, by go_num, rfl⟩
              · have hie : i = s.size := by omega
                have hexx : exF X = e := by rw [← hex, List.take_of_length_le (by omega)]
                have HE := Lib.hid hexx
                subst hie
                clear hex hexx hosz
                rcases HZ1.out with rfl | rfl
                · by_cases hmz : mant = 0
                  · have tz : ((mant : Int) != 0) = false := by rw [bne_eq_false_iff_eq]; omega
                    have HMZ := Lib.hid hmz
                    clear hmz
                    go_wp2_with fail
                    try rw [Exit.noGoto_ret]
                    refine bodyPost_ret (v := .tuple #[.int .u64 mant, .int .i64 0, .bool false, .bool tr, .bool false, .int .i64 s.size, .bool true]) (by simp [results, Tryz.results142, go_sem]) rfl ⟨by rw [HS.out, HEZ.out _ HMZ.out], rfl⟩
                  · have tz : ((mant : Int) != 0) = true := by rw [bne_iff_ne]; omega
                    have HMZ := Lib.hid hmz
                    clear hmz
                    go_wp2_with fail
                    try rw [Exit.noGoto_ret]
                    refine bodyPost_ret (v := .tuple #[.int .u64 mant, .int .i64 (DP + (e : Int) - (nm : Int)), .bool false, .bool tr, .bool false, .int .i64 s.size, .bool true]) (by simp [results, Tryz.results142, go_sem]) rfl ⟨by rw [HS.out, HEN.out _ HMZ.out, ← HZ.out, HE.out, Int.mul_one], rfl⟩
                · by_cases hmz : mant = 0
                  · have tz : ((mant : Int) != 0) = false := by rw [bne_eq_false_iff_eq]; omega
                    have HMZ := Lib.hid hmz
                    clear hmz
                    go_wp2_with fail
                    try rw [Exit.noGoto_ret]
                    refine bodyPost_ret (v := .tuple #[.int .u64 mant, .int .i64 0, .bool false, .bool tr, .bool false, .int .i64 s.size, .bool true]) (by simp [results, Tryz.results142, go_sem]) rfl ⟨by rw [HS.out, HEZ.out _ HMZ.out], rfl⟩
                  · have tz : ((mant : Int) != 0) = true := by rw [bne_iff_ne]; omega
                    have HMZ := Lib.hid hmz
                    clear hmz
                    go_wp2_with fail
                    try rw [Exit.noGoto_ret]
                    refine bodyPost_ret (v := .tuple #[.int .u64 mant, .int .i64 (DP + -(e : Int) - (nm : Int)), .bool false, .bool tr, .bool false, .int .i64 s.size, .bool true]) (by simp [results, Tryz.results142, go_sem]) rfl ⟨by rw [HS.out, HEN.out _ HMZ.out, ← HZ.out, HE.out, Int.mul_neg, Int.mul_one], rfl⟩
end Go.Proofs.YtmhagigokgklaaaGreatDoor

/- readFloat of hexadecimal texts (printed by gen_readf15.py). -/
namespace Go.Proofs.YtmhagigokgklaaaGreatDoor
open Go Go.RowKit

/-- the power that readFloat gives to digits of the base 16 -/
def rfHex (st : RF) : Int := if st.mant = 0 then 0 else (st.nd : Int) * 4 - (st.nm : Int) * 4

set_option maxRecDepth 100000 in
set_option maxHeartbeats 4000000 in
theorem rf_hex (s : ByteArray) (w : World) (hs : s.size ≤ 1000) (M : List UInt8) (hM : ∀ x ∈ M, okD 16 x) (hne : M ≠ []) (hl : s.data.toList = 48 :: 120 :: (M ++ [112, 48])) :
    Calls Tryz.prog 142 #[.string s] w fun e w' => e = .returned (.tuple #[.int .u64 (rfF 16 16 M).mant, .int .i64 (rfHex (rfF 16 16 M)), .bool false, .bool (rfF 16 16 M).tr, .bool true, .int .i64 s.size, .bool true]) ∧ w' = w := by
  have hsz : s.size = M.length + 4 := by
    have : s.size = s.data.toList.length := by simp
    rw [this, hl]; simp
  have hm0 : 0 < M.length := List.length_pos_iff.2 hne
  have get : ∀ k (h2 : k < s.size), s[k] = (48 :: 120 :: (M ++ [112, 48]))[k]'(by simp; omega) := fun k h2 => by
    simp only [← hl]; rfl
  have hn0 : 0 < s.size := by omega
  have hn1' : 1 < s.size := by omega
  have b0 : s[0]'hn0 = 48 := by rw [get 0 hn0]; rfl
  have b1 : s[1]'hn1' = 120 := by rw [get 1 hn1']; rfl
  have gM : ∀ i (h1 : 2 ≤ i) (h2 : i - 2 < M.length) (h3 : i < s.size), M[i - 2] = s[i] := fun i h1 h2 h3 => by
    rw [get i h3]
    obtain ⟨k, rfl⟩ : ∃ k, i = k + 2 := ⟨i - 2, by omega⟩
    simp only [List.getElem_cons_succ, Nat.add_sub_cancel]
    rw [List.getElem_append_left (by omega)]
  have hp1 : M.length + 2 < s.size := by omega
  have hp2 : M.length + 2 + 1 < s.size := by omega
  have bp : s[M.length + 2]'hp1 = 112 := by
    rw [get _ hp1]
    simp only [List.getElem_cons_succ]
    rw [List.getElem_append_right (by omega)]
    simp
  have bz : s[M.length + 2 + 1]'hp2 = 48 := by
    rw [get _ hp2]
    simp only [List.getElem_cons_succ]
    rw [List.getElem_append_right (by omega)]
    simp
  have hmT : M = mantT M [] false := by simp [mantT]
  have hmem : ∀ x ∈ M, x = 46 ∨ okD 16 x := fun x hx => .inr (hM x hx)
  have hn1 : decide ((s.size : Int) ≤ 0) = false := by rw [decide_eq_false_iff_not]; omega
  have hn2 : decide (s.size = 0) = false := by rw [decide_eq_false_iff_not]; omega
  have hn3 : ¬ s.size = 0 := by omega
  have hc1 : (((s[0]'hn0).toNat : Int) == 43) = false := by rw [b0]; rfl
  have hc2 : (((s[0]'hn0).toNat : Int) == 45) = false := by rw [b0]; rfl
  have hc3 : (((s[0]'hn0).toNat : Int) == 48) = true := by rw [b0]; rfl
  have HLX : Hid (∀ W : World, Calls Tryz.prog 114 #[.int .u8 ((s[1]'hn1').toNat : Nat)] W fun e w' => e = .returned (.int .u8 120) ∧ w' = W) := Lib.hid fun W => by
    rw [b1]; exact lower_at 120 120 (by decide +kernel) W
  have HLP : Hid (∀ W : World, Calls Tryz.prog 114 #[.int .u8 ((s[M.length + 2]'hp1).toNat : Nat)] W fun e w' => e = .returned (.int .u8 112) ∧ w' = W) := Lib.hid fun W => by
    rw [bp]; exact lower_at 112 112 (by decide +kernel) W
  have e95 : (((s[M.length + 2]'hp1).toNat : Int) == 95) = false := by rw [bp]; rfl
  have e46 : (((s[M.length + 2]'hp1).toNat : Int) == 46) = false := by rw [bp]; rfl
  have e48 : (48 : Int) ≤ ((s[M.length + 2]'hp1).toNat : Int) := by rw [bp]; decide
  have e57 : decide (((s[M.length + 2]'hp1).toNat : Int) ≤ 57) = false := by rw [bp]; rfl
  have z48 : (48 : Int) ≤ ((s[M.length + 2 + 1]'hp2).toNat : Int) := by rw [bz]; decide
  have z57 : ((s[M.length + 2 + 1]'hp2).toNat : Int) ≤ 57 := by rw [bz]; decide
  have z43 : (((s[M.length + 2 + 1]'hp2).toNat : Int) == 43) = false := by rw [bz]; rfl
  have z45 : (((s[M.length + 2 + 1]'hp2).toNat : Int) == 45) = false := by rw [bz]; rfl
  have z95 : (((s[M.length + 2 + 1]'hp2).toNat : Int) == 95) = false := by rw [bz]; rfl
  have HBZ : Hid (((s[M.length + 2 + 1]'hp2).toNat : Int) = 48) := Lib.hid (by rw [bz]; rfl)
  have HGET := Lib.hid gM
  have HPT := Lib.hid (mant_point 16 16 M M [] false hmT hM (by simp))
  have HMT := Lib.hid (rf_mant 16 16 M M [] false hmT (fun x hx => okD_46 (hM x hx)) (by simp) (fun _ => rfl))
  have HMEM := Lib.hid hmem
  have HNE := Lib.hid hne
  have HSZ := Lib.hid hsz
  clear hM hne hmem hmT gM b0 b1 bp bz get hl
  go_enter Tryz.func142, Tryz.ntmps142
  go_wp2_with fail
  go_step3
  go_upto_region 12 with fail
  go_wp2_with (go_at_call 114; refine (HLX.out _).mono ?_; rintro e wc ⟨rfl, rfl⟩)
  go_step3
  go_wp2_with fail
  clear hc1 hc2 hc3
  go_loopg [2, 5, 7, 9, 13, 14, 15, 16, 17] M.length (fun g s2 s5 s7 s9 s13 s14 s15 s16 s17 wr => ∃ (i nd nm mant : Nat) (dp : Int) (dt dg tr : Bool), 2 ≤ i ∧ i + g = M.length + 2 ∧ rfF 16 16 (M.take (i - 2)) = ⟨nd, nm, mant, dp, dt, dg, tr⟩ ∧ s2 = .int .u64 mant ∧ s5 = .bool tr ∧ s7 = .int .i64 i ∧ s9 = .bool false ∧ s13 = .bool dt ∧ s14 = .bool dg ∧ s15 = .int .i64 nd ∧ s16 = .int .i64 nm ∧ s17 = .int .i64 dp ∧ wr = wc)
  case atStart => exact ⟨2, 0, 0, 0, 0, false, false, false, by omega, by omega, rfl, rfl, rfl, rfl, rfl, rfl, rfl, rfl, rfl, rfl, rfl⟩
  case round =>
    obtain ⟨i, nd, nm, mant, dp, dt, dg, tr, h2i, hkg, hst, rfl, rfl, rfl, rfl, rfl, rfl, rfl, rfl, rfl, rfl⟩ := hrel
    have hbd := rf_bd 16 16 (by decide) (M.take (i - 2)) (fun x hx => HMEM.out x (List.mem_of_mem_take hx))
    rw [hst] at hbd
    simp only at hbd
    have hlk : (M.take (i - 2)).length ≤ i - 2 := List.length_take_le _ _
    obtain ⟨b1, b2, b3, b4, b5, b6⟩ := hbd
    have hnd : nd ≤ 1000 := by omega
    have hdp1 : -1000 ≤ dp := by omega
    have hdp2 : dp ≤ 1000 := by omega
    have HST := Lib.hid hst
    by_cases hlt : i - 2 < M.length
    · have hnx := rf_next 16 16 M (i - 2) hlt _ hst
      have hgk := HGET.out i h2i hlt (by omega)
      rw [hgk] at hnx
      have hby := HMEM.out _ (List.getElem_mem hlt)
      rw [hgk] at hby
      have hpt := HPT.out (i - 2) hlt
      rw [hst, hgk] at hpt
      simp only at hpt
      have HNX := Lib.hid hnx
      have HB4 := Lib.hid b4
      have HPK := Lib.hid hpt
      clear hst hnx b4 hpt b1 b2 b5 b6 hlk hgk
      by_cases h46 : s[i].toNat = 46
      · have hd : dt = false := HPK.out (by rw [← UInt8.ofNat_toNat (x := s[i]), h46]; rfl)
        subst hd
        clear hby
        go_wp2_with fail
        go_roundg (gk - 1)
        case measure => omega
        case rel => exact ⟨i + 1, nd, nm, mant, (nd : Int), true, dg, tr, by omega, by omega, by rw [show i + 1 - 2 = i - 2 + 1 from by omega, HNX.out, show s[i] = 46 from by rw [← UInt8.ofNat_toNat (x := s[i]), h46]; rfl]; rfl, rfl, rfl, by go_num, rfl, rfl, rfl, rfl, rfl, rfl, rfl⟩
      · have HC46 : Hid (s[i] ≠ 46) := Lib.hid fun h => h46 (by rw [h]; rfl)
        have t46 : ((s[i].toNat : Int) == 46) = false := by rw [beq_eq_false_iff_ne]; omega
        replace hby := hby.resolve_left HC46.out
        clear h46
        rcases hby with hdg | hlet
        · have hd1 : (48 : Int) ≤ (s[i].toNat : Int) := by have := hdg.1; omega
          have hd2 : (s[i].toNat : Int) ≤ 57 := by have := hdg.2; omega
          have t95 : ((s[i].toNat : Int) == 95) = false := by rw [beq_eq_false_iff_ne]; omega
          have HDV : Hid (dv s[i].toNat = s[i].toNat - 48) := Lib.hid (by unfold dv; rw [if_pos (show 48 ≤ s[i].toNat ∧ s[i].toNat ≤ 57 from hdg)])
          clear hdg
          by_cases hz : s[i].toNat = 48 ∧ nd = 0
          · obtain ⟨hz1, rfl⟩ := hz
            have t48 : ((s[i].toNat : Int) == 48) = true := by rw [beq_iff_eq]; omega
            have HZ : Hid (s[i] = 48) := Lib.hid (by rw [← UInt8.ofNat_toNat (x := s[i]), hz1]; rfl)
            clear hz1
            go_wp2_with fail
            go_roundg (gk - 1)
            case measure => omega
            case rel => exact ⟨i + 1, 0, nm, mant, dp - 1, dt, true, tr, by omega, by omega, by rw [show i + 1 - 2 = i - 2 + 1 from by omega, HNX.out]; unfold rfStep; rw [if_neg HC46.out, if_pos ⟨HZ.out, rfl⟩], rfl, rfl, by go_num, rfl, rfl, rfl, rfl, rfl, rfl, rfl⟩
          · have HZ : Hid (¬ (s[i] = 48 ∧ nd = 0)) := Lib.hid fun h => hz ⟨by rw [h.1]; rfl, h.2⟩
            have hzz : ((s[i].toNat : Int) == 48) = false ∨ ((s[i].toNat : Int) == 48) = true ∧ ((nd : Int) == 0) = false ∧ (nd == 0) = false ∧ ¬ nd = 0 := by
              by_cases h48 : s[i].toNat = 48
              · right; exact ⟨by rw [beq_iff_eq]; omega, by rw [beq_eq_false_iff_ne]; omega, by rw [beq_eq_false_iff_ne]; omega, by omega⟩
              · left; rw [beq_eq_false_iff_ne]; omega
            clear hz
            by_cases hm : nm < 16
            · have hm2 : mant < 1152921504606846976 := Nat.lt_of_lt_of_le HB4.out (Nat.pow_le_pow_right (by decide) (show nm ≤ 15 by omega))
              have tm : decide ((nm : Int) < 16) = true := by rw [decide_eq_true_eq]; omega
              rcases hzz with t48 | ⟨t48, tn, tn2, tn3⟩
              all_goals
                go_wp2_with fail
                go_roundg (gk - 1)
                case measure => omega
                case rel => exact ⟨i + 1, nd + 1, nm + 1, mant * 16 + dv s[i].toNat, dp, dt, true, tr, by omega, by omega, by rw [show i + 1 - 2 = i - 2 + 1 from by omega, HNX.out]; unfold rfStep; rw [if_neg HC46.out, if_neg HZ.out, if_pos hm], by rw [HDV.out]; go_num, rfl, by go_num, rfl, rfl, rfl, by go_num, by go_num, rfl, rfl⟩
            · have tm : decide ((nm : Int) < 16) = false := by rw [decide_eq_false_iff_not]; omega
              rcases hzz with t48 | ⟨t48, tn, tn2, tn3⟩
              · have t48n : ((s[i].toNat : Int) != 48) = true := by rw [bne, t48]; rfl
                have HN : Hid ((s[i] != 48) = true) := Lib.hid (bne_iff_ne.2 fun h => by rw [h] at t48; exact absurd t48 (by decide))
                go_wp2_with fail
                go_roundg (gk - 1)
                case measure => omega
                case rel => exact ⟨i + 1, nd + 1, nm, mant, dp, dt, true, true, by omega, by omega, by rw [show i + 1 - 2 = i - 2 + 1 from by omega, HNX.out]; unfold rfStep; rw [if_neg HC46.out, if_neg HZ.out, if_neg hm]; simp only [HN.out, Bool.or_true], rfl, rfl, by go_num, rfl, rfl, rfl, by go_num, rfl, rfl, rfl⟩
              · have t48n : ((s[i].toNat : Int) != 48) = false := by rw [bne, t48]; rfl
                have HN : Hid ((s[i] != 48) = false) := Lib.hid (by
                  rw [bne_eq_false_iff_eq]
                  have h := beq_iff_eq.1 t48
                  rw [← UInt8.ofNat_toNat (x := s[i]), show s[i].toNat = 48 by omega]; rfl)
                go_wp2_with fail
                go_roundg (gk - 1)
                case measure => omega
                case rel => exact ⟨i + 1, nd + 1, nm, mant, dp, dt, true, tr, by omega, by omega, by rw [show i + 1 - 2 = i - 2 + 1 from by omega, HNX.out]; unfold rfStep; rw [if_neg HC46.out, if_neg HZ.out, if_neg hm]; simp only [HN.out, Bool.or_false], rfl, rfl, by go_num, rfl, rfl, rfl, by go_num, rfl, rfl, rfl⟩
        · obtain ⟨-, hl1, hl2⟩ := hlet
          have hd1 : (48 : Int) ≤ (s[i].toNat : Int) := by omega
          have hd2 : decide ((s[i].toNat : Int) ≤ 57) = false := by rw [decide_eq_false_iff_not]; omega
          have hd3 : (97 : Int) ≤ (s[i].toNat : Int) := by omega
          have hd4 : (s[i].toNat : Int) ≤ 102 := by omega
          have hlo := low_letter s[i].toNat hl1 hl2
          have t95 : ((s[i].toNat : Int) == 95) = false := by rw [beq_eq_false_iff_ne]; omega
          have HDV : Hid (dv s[i].toNat = s[i].toNat - 87) := Lib.hid (by unfold dv; rw [if_neg (by omega)])
          have HZ : Hid (¬ (s[i] = 48 ∧ nd = 0)) := Lib.hid fun h => by rw [h.1] at hl1; exact absurd hl1 (by decide)
          have HN : Hid ((s[i] != 48) = true) := Lib.hid (bne_iff_ne.2 fun h => by rw [h] at hl1; exact absurd hl1 (by decide))
          have HLW := Lib.hid (fun (W : World) => lower_at s[i].toNat s[i].toNat hlo W)
          have hu1 : IntKind.u8.wrap ((s[i].toNat : Int) - 97) = (s[i].toNat : Int) - 97 := by rw [IntKind.wrap_u8]; omega
          clear hl1 hl2 hlo
          by_cases hm : nm < 16
          · have hm2 : mant < 1152921504606846976 := Nat.lt_of_lt_of_le HB4.out (Nat.pow_le_pow_right (by decide) (show nm ≤ 15 by omega))
            have tm : decide ((nm : Int) < 16) = true := by rw [decide_eq_true_eq]; omega
            go_wp2_with (first | (go_at_call 114; refine (HLW.out _).mono ?_; rintro e w' ⟨rfl, rfl⟩))
            go_roundg (gk - 1)
            case measure => omega
            case rel => exact ⟨i + 1, nd + 1, nm + 1, mant * 16 + dv s[i].toNat, dp, dt, true, tr, by omega, by omega, by rw [show i + 1 - 2 = i - 2 + 1 from by omega, HNX.out]; unfold rfStep; rw [if_neg HC46.out, if_neg HZ.out, if_pos hm], by rw [HDV.out]; go_num, rfl, by go_num, rfl, rfl, rfl, by go_num, by go_num, rfl, rfl⟩
          · have tm : decide ((nm : Int) < 16) = false := by rw [decide_eq_false_iff_not]; omega
            go_wp2_with (first | (go_at_call 114; refine (HLW.out _).mono ?_; rintro e w' ⟨rfl, rfl⟩))
            go_roundg (gk - 1)
            case measure => omega
            case rel => exact ⟨i + 1, nd + 1, nm, mant, dp, dt, true, true, by omega, by omega, by rw [show i + 1 - 2 = i - 2 + 1 from by omega, HNX.out]; unfold rfStep; rw [if_neg HC46.out, if_neg HZ.out, if_neg hm]; simp only [HN.out, Bool.or_true], rfl, rfl, by go_num, rfl, rfl, rfl, by go_num, rfl, rfl, rfl⟩
    · have hie : i = M.length + 2 := by omega
      have hfull : M.take (i - 2) = M := List.take_of_length_le (by omega)
      rw [hfull] at hst
      have hmt := HMT.out
      rw [hst] at hmt
      obtain ⟨m1, m2, m3, m4, m5⟩ := hmt
      simp only at m2
      have hdg : dg = true := by
        have := m1.dig
        simp only at this
        rw [this]
        have := HNE.out
        simpa using this
      subst hdg hie m2
      have HS := Lib.hid hst
      have hm20 : mant < 18446744073709551616 := Nat.lt_of_lt_of_le b4 (Nat.pow_le_pow_right (by decide) b3)
      clear b4 b5 b6 hlk b1 m1 m3 m4 m5 hst hfull HST HPT HMT HMEM HGET
      go_wp2_with (go_at_call 114; refine (HLP.out _).mono ?_; rintro e wr ⟨rfl, rfl⟩)
      go_loopg [7, 9, 20] 1 (fun g s7 s9 s20 wr' => ∃ i : Nat, i + g = M.length + 4 ∧ M.length + 3 ≤ i ∧ s7 = .int .i64 i ∧ s9 = .bool false ∧ s20 = .int .i64 0 ∧ wr' = wr)
      case atStart => exact ⟨M.length + 3, by omega, by omega, by go_num, rfl, rfl, rfl⟩
      case round =>
        obtain ⟨i, hig, hi3, rfl, rfl, rfl, rfl⟩ := hrel
        by_cases hi : i = M.length + 2 + 1
        · subst hi
          have hbz := HBZ.out
          have HIG := Lib.hid hig
          clear hig hi3
          go_wp2_with fail
          go_roundg 0
          case measure => have := HIG.out; omega
          case rel => exact ⟨M.length + 4, by omega, by omega, by go_num, rfl, rfl, rfl⟩
        · have hie : i = s.size := by omega
          subst hie
          by_cases hmz : mant = 0
          · have tz : ((mant : Int) != 0) = false := by rw [bne_eq_false_iff_eq]; omega
            have HMZ := Lib.hid hmz
            clear hmz
            go_wp2_with fail
            try rw [Exit.noGoto_ret]
            refine bodyPost_ret (v := .tuple #[.int .u64 mant, .int .i64 0, .bool false, .bool tr, .bool true, .int .i64 s.size, .bool true]) (by simp [results, Tryz.results142, go_sem]) rfl ⟨by rw [HS.out]; unfold rfHex; rw [if_pos HMZ.out], rfl⟩
          · have tz : ((mant : Int) != 0) = true := by rw [bne_iff_ne]; omega
            have HMZ := Lib.hid hmz
            clear hmz
            go_wp2_with fail
            try rw [Exit.noGoto_ret]
            refine bodyPost_ret (v := .tuple #[.int .u64 mant, .int .i64 ((nd : Int) * 4 - (nm : Int) * 4), .bool false, .bool tr, .bool true, .int .i64 s.size, .bool true]) (by simp [results, Tryz.results142, go_sem]) rfl ⟨by rw [HS.out]; unfold rfHex; rw [if_neg HMZ.out], rfl⟩
end Go.Proofs.YtmhagigokgklaaaGreatDoor

/- atof64exact. -/
namespace Go.Proofs.YtmhagigokgklaaaGreatDoor
open Go Go.RowKit
set_option exponentiation.threshold 5000

/-- more of the library's tables: below block K -/
structure GlobT (K : Nat) (w : World) : Prop where
  lt : 17 ≤ K
  le : K ≤ w.heap.size
  inf : w.cell? ⟨9, 0, Option.none⟩ = some (.int .u64 52) ∧ w.cell? ⟨9, 1, Option.none⟩ = some (.int .u64 11) ∧ w.cell? ⟨9, 2, Option.none⟩ = some (.int .i64 (-1023))
  p10 : ∃ b o cap : Nat, b < K ∧ w.cell? ⟨12, 0, Option.none⟩ = some (.slice (some ⟨b, o, Option.none⟩) 23 cap) ∧ ∀ k, k < 23 → w.cell? ⟨b, o + k, Option.none⟩ = some (.float .f64 (p10N k))
  deb : w.cell? ⟨16, 1, Option.none⟩ = some (.int .u8 1) ∧ w.cell? ⟨16, 15, Option.none⟩ = some (.int .u8 4)
  blk : ∃ (ca cb : Array Value) (ta tb : TypeId), w.heap[(8 : Nat)]? = some (.cells ca ta (0, 0)) ∧ w.heap[(9 : Nat)]? = some (.cells cb tb (0, 0))
  rng : ∃ te pe, w.cell? ⟨3, 0, Option.none⟩ = some (.iface te pe)

theorem GlobT.below {K : Nat} {w w' : World} {B : Nat} (h : GlobT K w) (hB : K ≤ B) (hb : Below B w w') : GlobT K w' := by
  have hlt := h.lt
  refine ⟨h.lt, Nat.le_trans h.le hb.size, ?_, ?_, ?_, ?_, ?_⟩
  · obtain ⟨a, b, c⟩ := h.inf
    have hg : 9 < B := Nat.lt_of_lt_of_le (by decide) (Nat.le_trans h.lt hB)
    exact ⟨(hb.cell (p := ⟨9, 0, Option.none⟩) hg).trans a, (hb.cell (p := ⟨9, 1, Option.none⟩) hg).trans b, (hb.cell (p := ⟨9, 2, Option.none⟩) hg).trans c⟩
  · obtain ⟨b, o, cap, h1, h2, h3⟩ := h.p10
    have hg : 12 < B := Nat.lt_of_lt_of_le (by decide) (Nat.le_trans h.lt hB)
    exact ⟨b, o, cap, h1, (hb.cell (p := ⟨12, 0, Option.none⟩) hg).trans h2, fun k hk => (hb.cell (p := ⟨b, o + k, Option.none⟩) (Nat.lt_of_lt_of_le h1 hB)).trans (h3 k hk)⟩
  · obtain ⟨a, b⟩ := h.deb
    have hg : 16 < B := Nat.lt_of_lt_of_le (by decide) (Nat.le_trans h.lt hB)
    exact ⟨(hb.cell (p := ⟨16, 1, Option.none⟩) hg).trans a, (hb.cell (p := ⟨16, 15, Option.none⟩) hg).trans b⟩
  · obtain ⟨ca, cb, ta, tb, h1, h2⟩ := h.blk
    have hg : ∀ b, b < 17 → b < B := fun b hb => Nat.lt_of_lt_of_le hb (Nat.le_trans h.lt hB)
    exact ⟨ca, cb, ta, tb, (hb.block _ (hg _ (by decide))).trans h1, (hb.block _ (hg _ (by decide))).trans h2⟩
  · obtain ⟨te, pe, h1⟩ := h.rng
    have hg : 3 < B := Nat.lt_of_lt_of_le (by decide) (Nat.le_trans h.lt hB)
    exact ⟨te, pe, (hb.cell (p := ⟨3, 0, Option.none⟩) hg).trans h1⟩
theorem GlobT.on {K : Nat} {w w' : World} (h : GlobT K w) (hb : Below w.heap.size w w') : GlobT K w' := h.below h.le hb

/-- what is handed back -/
def ExPost (d : Nat) (p : Int) (w : World) (e : Ending) (w' : World) : Prop := ∃ (r : Nat) (ok : Bool), e = .returned (.tuple #[.float .f64 r, .bool ok]) ∧ (ok = true → Near (dX d p) (dQ p) r ∧ r < INF) ∧ w' = w

theorem near_fin {X Q r : Nat} (h : Near X Q r) (hX : X < Q * 2 ^ 2098) : r < INF := by
  have h1 := h.inf
  rcases Nat.lt_or_ge r INF with h2 | h2
  · exact h2
  · exfalso
    have hr : r = INF := by omega
    subst hr
    rcases h.lo with h3 | ⟨h3, _⟩
    · exact absurd h3 (by decide)
    · rw [V_INF, Nat.mul_add] at h3
      omega

set_option exponentiation.threshold 5000
theorem pow_ten_pos (k : Nat) : 0 < 10 ^ k := Nat.pow_pos (by decide)
theorem dX_pos (d k : Nat) : dX d (k : Int) = 2 * (d * 10 ^ k * 2 ^ 1074) := rfl
theorem dQ_pos1 (k : Nat) : dQ (k : Int) = 1 := by unfold dQ; rw [show (-(k : Int)).toNat = 0 by omega, Nat.pow_zero]
theorem dX_neg (d k : Nat) : dX d (-(k : Int)) = 2 * (d * 2 ^ 1074) := by unfold dX; rw [show (-(k : Int)).toNat = 0 by omega, Nat.pow_zero, Nat.mul_one]
theorem dQ_neg (k : Nat) : dQ (-(k : Int)) = 10 ^ k := by unfold dQ; rw [Int.neg_neg, Int.toNat_natCast]
theorem ten_lim (A : Nat) (h : A ≤ 10 ^ 38) : 2 * (A * 2 ^ 1074) < 1 * 2 ^ 2098 := by
  have h1 : A * 2 ^ 1074 ≤ 10 ^ 38 * 2 ^ 1074 := Nat.mul_le_mul_right _ h
  have h2 : 2 * (10 ^ 38 * 2 ^ 1074) < 1 * 2 ^ 2098 := by decide +kernel
  exact Nat.lt_of_le_of_lt (Nat.mul_le_mul_left 2 h1) h2
theorem ten_lim2 (A B : Nat) (h : A ≤ 10 ^ 38) (hB : 0 < B) : 2 * (A * 2 ^ 1074) < B * 2 ^ 2098 :=
  Nat.lt_of_lt_of_le (ten_lim A h) (Nat.mul_le_mul_right _ hB)

set_option maxRecDepth 100000 in
set_option maxHeartbeats 4000000 in
theorem exact_great (d : Nat) (p : Int) (K : Nat) (w : World) (hg : GlobT K w) (h1 : 4503599627370496 ≤ d) (_h2 : d < 18446744073709551616) :
    Calls Tryz.prog 152 #[.int .u64 d, .int .i64 p, .bool false] w (ExPost d p w) := by
  obtain ⟨i0, i1, i2⟩ := hg.inf
  have hq : ((d : Int) / 4503599627370496 != 0) = true := by rw [bne_iff_ne]; omega
  go_enter Tryz.func152, Tryz.ntmps152
  go_wp2_with fail
  refine bodyPost_ret (v := .tuple #[.float .f64 0, .bool false]) (by simp [results, Tryz.results152, go_sem]) rfl ⟨0, false, rfl, fun h => absurd h (by decide), rfl⟩
set_option maxRecDepth 100000 in
set_option maxHeartbeats 4000000 in
theorem exact_zero (d : Nat) (K : Nat) (w : World) (hg : GlobT K w) (_h1 : 1 ≤ d) (h2 : d < 4503599627370496) :
    Calls Tryz.prog 152 #[.int .u64 d, .int .i64 0, .bool false] w (ExPost d 0 w) := by
  obtain ⟨i0, i1, i2⟩ := hg.inf
  have hq : ((d : Int) / 4503599627370496 != 0) = false := by rw [bne_eq_false_iff_eq]; omega
  obtain ⟨v0, v1⟩ := conv_nat d (by omega)
  have hf : floatOfInt .f64 (d : Int) = Ieee.double.nearest false d 0 := by
    show Ieee.double.nearest (decide ((d : Int) < 0)) (d : Int).natAbs 0 = _
    rw [decide_eq_false (by omega)]; rfl
  generalize Ieee.double.nearest false d 0 = f0 at *
  have HN : Hid (Near (dX d 0) (dQ 0) f0 ∧ f0 < INF) := Lib.hid (by
    refine ⟨?_, v1⟩
    have := near_self f0 (Nat.le_of_lt v1)
    rw [v0] at this
    rw [show dX d 0 = 2 * (d * 2 ^ 1074) from dX_neg d 0, show dQ 0 = 1 from dQ_neg 0]
    exact this)
  clear v0
  go_enter Tryz.func152, Tryz.ntmps152
  go_wp2_with fail
  refine bodyPost_ret (v := .tuple #[.float .f64 f0, .bool true]) (by simp [results, Tryz.results152, go_sem]) rfl ⟨f0, true, rfl, fun _ => HN.out, rfl⟩
set_option maxRecDepth 100000 in
set_option maxHeartbeats 4000000 in
theorem exact_out (d : Nat) (p : Int) (K : Nat) (w : World) (hg : GlobT K w) (h1 : 1 ≤ d) (h2 : d < 4503599627370496) (hp : p < -22 ∨ 37 < p) :
    Calls Tryz.prog 152 #[.int .u64 d, .int .i64 p, .bool false] w (ExPost d p w) := by
  obtain ⟨i0, i1, i2⟩ := hg.inf
  have hq : ((d : Int) / 4503599627370496 != 0) = false := by rw [bne_eq_false_iff_eq]; omega
  obtain ⟨v0, v1⟩ := conv_nat d (by omega)
  have hf : floatOfInt .f64 (d : Int) = Ieee.double.nearest false d 0 := by
    show Ieee.double.nearest (decide ((d : Int) < 0)) (d : Int).natAbs 0 = _
    rw [decide_eq_false (by omega)]; rfl
  generalize Ieee.double.nearest false d 0 = f0 at *
  have h0 : (p == 0) = false := by rw [beq_eq_false_iff_ne]; omega
  clear v0
  rcases hp with hp | hp
  all_goals
    go_enter Tryz.func152, Tryz.ntmps152
    go_wp2_with fail
    refine bodyPost_ret (v := .tuple #[.float .f64 f0, .bool false]) (by simp [results, Tryz.results152, go_sem]) rfl ⟨f0, false, rfl, fun h => absurd h (by decide), rfl⟩
set_option maxRecDepth 100000 in
set_option maxHeartbeats 4000000 in
theorem exact_mul (d k : Nat) (K : Nat) (w : World) (hg : GlobT K w) (h1 : 1 ≤ d) (h2 : d < 4503599627370496) (hk1 : 1 ≤ k) (hk2 : k ≤ 22) :
    Calls Tryz.prog 152 #[.int .u64 d, .int .i64 k, .bool false] w (ExPost d k w) := by
  obtain ⟨i0, i1, i2⟩ := hg.inf
  have hq : ((d : Int) / 4503599627370496 != 0) = false := by rw [bne_eq_false_iff_eq]; omega
  obtain ⟨v0, v1⟩ := conv_nat d (by omega)
  have hf : floatOfInt .f64 (d : Int) = Ieee.double.nearest false d 0 := by
    show Ieee.double.nearest (decide ((d : Int) < 0)) (d : Int).natAbs 0 = _
    rw [decide_eq_false (by omega)]; rfl
  generalize Ieee.double.nearest false d 0 = f0 at *
  obtain ⟨b, o, cap, _, hs, hc⟩ := hg.p10
  have hck := hc k (by omega)
  obtain ⟨t1, t2⟩ := p10_is k (by omega)
  generalize p10N k = q at *
  have h0 : ((k : Int) == 0) = false := by rw [beq_eq_false_iff_ne]; omega
  have g2 := ord_lt15 f0 (Nat.le_of_lt v1)
  have g1 := ord_gt15 f0 (Nat.le_of_lt v1)
  have hself : Near (2 * (d * 2 ^ 1074)) 1 f0 := by rw [← v0]; exact near_self f0 (Nat.le_of_lt v1)
  by_cases hd : d ≤ 10 ^ 15
  · have hle := near_within d f0 hd hself
    rw [decide_eq_false (by omega)] at g1
    obtain ⟨r, hr, hn⟩ := mul_whole f0 q d (10 ^ k) v1 t2 v0 t1 h1 (pow_ten_pos k)
    have hm : ∀ W : World, (binOp .mul 43 (.float .f64 f0) (.float .f64 q)).run Tryz.prog W = .ok (.float .f64 r) W := fun W => run_float_arith W .mul _ .f64 f0 q r hr
    have HN : Hid (Near (dX d k) (dQ k) r ∧ r < INF) := Lib.hid (by
      have h38 : d * 10 ^ k ≤ 10 ^ 38 := by
        refine Nat.le_trans (Nat.mul_le_mul hd (Nat.pow_le_pow_right (by decide) hk2)) ?_
        rw [← Nat.pow_add]; exact Nat.pow_le_pow_right (by decide) (by decide)
      rw [dX_pos, dQ_pos1]
      exact ⟨hn, near_fin hn (ten_lim _ h38)⟩)
    clear v0 t1 hself hr hn hd hc hg
    go_enter Tryz.func152, Tryz.ntmps152
    go_wp2_with fail
    refine bodyPost_ret (v := .tuple #[.float .f64 r, .bool true]) (by simp [results, Tryz.results152, go_sem]) rfl ⟨r, true, rfl, fun _ => HN.out, rfl⟩
  · have hle := near_above d f0 (by omega) hself
    rw [decide_eq_true hle] at g1
    clear v0 t1 hself hd hc hg
    go_enter Tryz.func152, Tryz.ntmps152
    go_wp2_with fail
    refine bodyPost_ret (v := .tuple #[.float .f64 f0, .bool false]) (by simp [results, Tryz.results152, go_sem]) rfl ⟨f0, false, rfl, fun h => absurd h (by decide), rfl⟩
set_option maxRecDepth 100000 in
set_option maxHeartbeats 4000000 in
theorem exact_mul2 (d j : Nat) (K : Nat) (w : World) (hg : GlobT K w) (h1 : 1 ≤ d) (h2 : d < 4503599627370496) (hk1 : 1 ≤ j) (hk2 : j ≤ 15) :
    Calls Tryz.prog 152 #[.int .u64 d, .int .i64 ((j : Int) + 22), .bool false] w (ExPost d ((j : Int) + 22) w) := by
  obtain ⟨i0, i1, i2⟩ := hg.inf
  have hq : ((d : Int) / 4503599627370496 != 0) = false := by rw [bne_eq_false_iff_eq]; omega
  obtain ⟨v0, v1⟩ := conv_nat d (by omega)
  have hf : floatOfInt .f64 (d : Int) = Ieee.double.nearest false d 0 := by
    show Ieee.double.nearest (decide ((d : Int) < 0)) (d : Int).natAbs 0 = _
    rw [decide_eq_false (by omega)]; rfl
  generalize Ieee.double.nearest false d 0 = f0 at *
  obtain ⟨b, o, cap, _, hs, hc⟩ := hg.p10
  have hck := hc j (by omega)
  have hcl := hc 22 (by omega)
  obtain ⟨t1, t2⟩ := p10_is j (by omega)
  obtain ⟨t3, t4⟩ := p10_is 22 (by omega)
  generalize p10N j = q at *
  generalize p10N 22 = q2 at *
  have h0 : ((j : Int) + 22 == 0) = false := by rw [beq_eq_false_iff_ne]; omega
  obtain ⟨r1, hr, hn⟩ := mul_whole f0 q d (10 ^ j) v1 t2 v0 t1 h1 (pow_ten_pos j)
  have hm : ∀ W : World, (binOp .mul 43 (.float .f64 f0) (.float .f64 q)).run Tryz.prog W = .ok (.float .f64 r1) W := fun W => run_float_arith W .mul _ .f64 f0 q r1 hr
  have h38 : d * 10 ^ j ≤ 10 ^ 38 := by
    refine Nat.le_trans (Nat.mul_le_mul (show d ≤ 10 ^ 16 by omega) (Nat.pow_le_pow_right (by decide) hk2)) ?_
    rw [← Nat.pow_add]; exact Nat.pow_le_pow_right (by decide) (by decide)
  have hr1 := near_fin hn (ten_lim _ h38)
  have g2 := ord_lt15 r1 (Nat.le_of_lt hr1)
  have g1 := ord_gt15 r1 (Nat.le_of_lt hr1)
  by_cases hd : d * 10 ^ j ≤ 10 ^ 15
  · have hle := near_within _ r1 hd hn
    rw [decide_eq_false (by omega)] at g1
    obtain ⟨u0, u1⟩ := near_whole _ r1 (by omega) hn
    obtain ⟨r, hr2, hn2⟩ := mul_whole r1 q2 (d * 10 ^ j) (10 ^ 22) u1 t4 u0 t3 (Nat.mul_pos h1 (pow_ten_pos j)) (pow_ten_pos 22)
    have hm2 : ∀ W : World, (binOp .mul 43 (.float .f64 r1) (.float .f64 q2)).run Tryz.prog W = .ok (.float .f64 r) W := fun W => run_float_arith W .mul _ .f64 r1 q2 r hr2
    have HN : Hid (Near (dX d ((j : Int) + 22)) (dQ ((j : Int) + 22)) r ∧ r < INF) := Lib.hid (by
      have h38' : d * 10 ^ j * 10 ^ 22 ≤ 10 ^ 38 := by
        refine Nat.le_trans (Nat.mul_le_mul_right _ hd) ?_
        rw [← Nat.pow_add]; exact Nat.pow_le_pow_right (by decide) (by decide)
      rw [show ((j : Int) + 22) = ((j + 22 : Nat) : Int) from by push_cast; rfl, dX_pos, dQ_pos1, Nat.pow_add, ← Nat.mul_assoc d]
      exact ⟨hn2, near_fin hn2 (ten_lim _ h38')⟩)
    clear v0 t1 t3 hr hn hd hc hg u0 hr2 hn2 h38
    go_enter Tryz.func152, Tryz.ntmps152
    go_wp2_with fail
    refine bodyPost_ret (v := .tuple #[.float .f64 r, .bool true]) (by simp [results, Tryz.results152, go_sem]) rfl ⟨r, true, rfl, fun _ => HN.out, rfl⟩
  · have hle := near_above _ r1 (by omega) hn
    rw [decide_eq_true hle] at g1
    clear v0 t1 t3 hr hn hd hc hg h38
    go_enter Tryz.func152, Tryz.ntmps152
    go_wp2_with fail
    refine bodyPost_ret (v := .tuple #[.float .f64 r1, .bool false]) (by simp [results, Tryz.results152, go_sem]) rfl ⟨r1, false, rfl, fun h => absurd h (by decide), rfl⟩
set_option maxRecDepth 100000 in
set_option maxHeartbeats 4000000 in
theorem exact_div (d k : Nat) (K : Nat) (w : World) (hg : GlobT K w) (h1 : 1 ≤ d) (h2 : d < 4503599627370496) (hk1 : 1 ≤ k) (hk2 : k ≤ 22) :
    Calls Tryz.prog 152 #[.int .u64 d, .int .i64 (-(k : Int)), .bool false] w (ExPost d (-(k : Int)) w) := by
  obtain ⟨i0, i1, i2⟩ := hg.inf
  have hq : ((d : Int) / 4503599627370496 != 0) = false := by rw [bne_eq_false_iff_eq]; omega
  obtain ⟨v0, v1⟩ := conv_nat d (by omega)
  have hf : floatOfInt .f64 (d : Int) = Ieee.double.nearest false d 0 := by
    show Ieee.double.nearest (decide ((d : Int) < 0)) (d : Int).natAbs 0 = _
    rw [decide_eq_false (by omega)]; rfl
  generalize Ieee.double.nearest false d 0 = f0 at *
  obtain ⟨b, o, cap, _, hs, hc⟩ := hg.p10
  have hck := hc k (by omega)
  obtain ⟨t1, t2⟩ := p10_is k (by omega)
  generalize p10N k = q at *
  have h0 : (-(k : Int) == 0) = false := by rw [beq_eq_false_iff_ne]; omega
  have h0' : ((k : Int) == 0) = false := by rw [beq_eq_false_iff_ne]; omega
  obtain ⟨r, hr, hn⟩ := div_whole f0 q d (10 ^ k) v1 t2 v0 t1 h1 (pow_ten_pos k) (Nat.lt_of_le_of_lt (Nat.pow_le_pow_right (by decide) hk2) (by decide +kernel))
  have hm : ∀ W : World, (binOp .quo 43 (.float .f64 f0) (.float .f64 q)).run Tryz.prog W = .ok (.float .f64 r) W := fun W => run_float_arith W .quo _ .f64 f0 q r hr
  have HN : Hid (Near (dX d (-(k : Int))) (dQ (-(k : Int))) r ∧ r < INF) := Lib.hid (by
    rw [dX_neg, dQ_neg]
    exact ⟨hn, near_fin hn (ten_lim2 _ _ (show d ≤ 10 ^ 38 by omega) (pow_ten_pos k))⟩)
  clear v0 t1 hr hn hc hg
  go_enter Tryz.func152, Tryz.ntmps152
  go_wp2_with fail
  refine bodyPost_ret (v := .tuple #[.float .f64 r, .bool true]) (by simp [results, Tryz.results152, go_sem]) rfl ⟨r, true, rfl, fun _ => HN.out, rfl⟩

theorem exact_any (d : Nat) (p : Int) (K : Nat) (w : World) (hg : GlobT K w) (h1 : 1 ≤ d) (h2 : d < 18446744073709551616) :
    Calls Tryz.prog 152 #[.int .u64 d, .int .i64 p, .bool false] w (ExPost d p w) := by
  by_cases hd : 4503599627370496 ≤ d
  · exact exact_great d p K w hg hd h2
  · replace hd : d < 4503599627370496 := by omega
    rcases (by omega : p = 0 ∨ (p < -22 ∨ 37 < p) ∨ (1 ≤ p ∧ p ≤ 22) ∨ (23 ≤ p ∧ p ≤ 37) ∨ (-22 ≤ p ∧ p ≤ -1)) with rfl | h | h | h | h
    · exact exact_zero d K w hg h1 hd
    · exact exact_out d p K w hg h1 hd h
    · obtain ⟨k, rfl⟩ : ∃ k : Nat, p = k := ⟨p.toNat, by omega⟩
      exact exact_mul d k K w hg h1 hd (by omega) (by omega)
    · obtain ⟨k, rfl⟩ : ∃ k : Nat, p = (k : Int) + 22 := ⟨(p - 22).toNat, by omega⟩
      exact exact_mul2 d k K w hg h1 hd (by omega) (by omega)
    · obtain ⟨k, rfl⟩ : ∃ k : Nat, p = -(k : Int) := ⟨(-p).toNat, by omega⟩
      exact exact_div d k K w hg h1 hd (by omega) (by omega)
end Go.Proofs.YtmhagigokgklaaaGreatDoor

/- ParseFloat of decimal texts whose digits are all held. -/
namespace Go.Proofs.YtmhagigokgklaaaGreatDoor
open Go Go.RowKit

set_option maxRecDepth 100000 in
set_option maxHeartbeats 4000000 in
theorem special_no (s : ByteArray) (w : World) (h0 : 0 < s.size) (hs : s.size ≤ 1000) (hb : s[0].toNat = 46 ∨ (48 ≤ s[0].toNat ∧ s[0].toNat ≤ 57)) :
    Calls Tryz.prog 141 #[.string s] w fun e w' => e = .returned (.tuple #[.float .f64 0, .int .i64 0, .bool false]) ∧ w' = w := by
  have hn1 : ((s.size : Int) == 0) = false := by rw [beq_eq_false_iff_ne]; omega
  have hn2 : (s.size == 0) = false := by rw [beq_eq_false_iff_ne]; omega
  have hn3 : ¬ s.size = 0 := by omega
  have t1 : (((s[0]'h0).toNat : Int) == 43) = false := by rw [beq_eq_false_iff_ne]; omega
  have t2 : (((s[0]'h0).toNat : Int) == 45) = false := by rw [beq_eq_false_iff_ne]; omega
  have t3 : (((s[0]'h0).toNat : Int) == 105) = false := by rw [beq_eq_false_iff_ne]; omega
  have t4 : (((s[0]'h0).toNat : Int) == 73) = false := by rw [beq_eq_false_iff_ne]; omega
  have t5 : (((s[0]'h0).toNat : Int) == 110) = false := by rw [beq_eq_false_iff_ne]; omega
  have t6 : (((s[0]'h0).toNat : Int) == 78) = false := by rw [beq_eq_false_iff_ne]; omega
  clear hb
  go_enter Tryz.func141, Tryz.ntmps141
  go_wp2_with fail
  refine bodyPost_ret (v := .tuple #[.float .f64 0, .int .i64 0, .bool false]) (by simp [results, Tryz.results141, go_sem]) rfl ⟨rfl, rfl⟩

/-- what atof64 hands back -/
def AfPost (d : Nat) (p : Int) (n : Nat) (w : World) (e : Ending) (w' : World) : Prop := ∃ r, Near (dX d p) (dQ p) r ∧ e = .returned (.tuple #[.float .f64 r, .int .i64 n, errV r]) ∧ Below w.heap.size w w'

theorem bits_or_zero : bits .or .u64 0 0 = 0 := by decide +kernel
theorem bits_or_inf : bits .or .u64 0 9218868437227405312 = 9218868437227405312 := by decide +kernel

set_option maxRecDepth 100000 in
set_option maxHeartbeats 4000000 in
theorem atof_dec (s : ByteArray) (d K : Nat) (p : Int) (w : World) (hG : Glob w) (hT : GlobT K w) (h0 : 0 < s.size) (hs : s.size ≤ 1000) (hb : s[0].toNat = 46 ∨ (48 ≤ s[0].toNat ∧ s[0].toNat ≤ 57)) (hd : d < 10 ^ 19)
    (hrf : Calls Tryz.prog 142 #[.string s] w fun e w' => e = .returned (.tuple #[.int .u64 d, .int .i64 p, .bool false, .bool false, .bool false, .int .i64 s.size, .bool true]) ∧ w' = w) :
    Calls Tryz.prog 117 #[.string s] w (AfPost d p s.size w) := by
  have hopt := hG.opt
  have HSP := Lib.hid (special_no s w h0 hs hb)
  have HRF := Lib.hid hrf
  have HBU : Hid (∀ W : World, Calls Tryz.prog 150 #[.bool false] W fun e w' => e = .returned (.int .u64 0) ∧ W = w') := Lib.hid (fun W => b2u_any false W)
  have hor := bits_or_zero
  have hor2 := bits_or_inf
  have hfb : ∀ W : World, (callFunc 151 #[.int .u64 0]).run Tryz.prog W = .ok (.value (.float .f64 0)) W := run_sfrom 0
  have hfi : ∀ W : World, (callFunc 151 #[.int .u64 9218868437227405312]).run Tryz.prog W = .ok (.value (.float .f64 9218868437227405312)) W := run_sfrom 9218868437227405312
  clear hrf hb h0
  by_cases hd0 : d = 0
  · subst hd0
    have HN := Lib.hid (zero_near p)
    go_enter Tryz.func117, Tryz.ntmps117
    go_wp2_with fail
    refine HSP.out.mono ?_
    rintro e w ⟨rfl, rfl⟩
    go_wp2_with fail
    refine HRF.out.mono ?_
    rintro e w ⟨rfl, rfl⟩
    go_wp2_with fail
    refine (HBU.out _).mono ?_
    rintro e w' ⟨rfl, rfl⟩
    go_wp2_with fail
    refine bodyPost_ret (v := .tuple #[.float .f64 0, .int .i64 s.size, .nilIface]) (by simp [results, Tryz.results117, go_sem]) rfl ⟨0, HN.out, rfl, Below.refl _ _⟩
  · have hdz : ((d : Int) == 0) = false := by rw [beq_eq_false_iff_ne]; omega
    have hdz2 : (d == 0) = false := by rw [beq_eq_false_iff_ne]; omega
    have hdz3 : ¬ d = 0 := hd0
    by_cases hp1 : 310 < p
    · have HN := Lib.hid (far_inf d p (by omega) (by omega))
      clear hd hdz3
      go_enter Tryz.func117, Tryz.ntmps117
      go_wp2_with fail
      refine HSP.out.mono ?_
      rintro e w ⟨rfl, rfl⟩
      go_wp2_with fail
      refine HRF.out.mono ?_
      rintro e w ⟨rfl, rfl⟩
      go_wp2_with fail
      refine (HBU.out _).mono ?_
      rintro e w' ⟨rfl, rfl⟩
      go_wp2_with fail
      refine bodyPost_ret (v := .tuple #[.float .f64 9218868437227405312, .int .i64 s.size, .iface 111 (.int .i64 1)]) (by simp [results, Tryz.results117, go_sem]) rfl ⟨INF, HN.out, rfl, Below.refl _ _⟩
    · by_cases hp2 : p < -345
      · have HN := Lib.hid (far_zero d 19 p hd (by omega))
        clear hd hdz3
        go_enter Tryz.func117, Tryz.ntmps117
        go_wp2_with fail
        refine HSP.out.mono ?_
        rintro e w ⟨rfl, rfl⟩
        go_wp2_with fail
        refine HRF.out.mono ?_
        rintro e w ⟨rfl, rfl⟩
        go_wp2_with fail
        refine (HBU.out _).mono ?_
        rintro e w' ⟨rfl, rfl⟩
        go_wp2_with fail
        refine bodyPost_ret (v := .tuple #[.float .f64 0, .int .i64 s.size, .nilIface]) (by simp [results, Tryz.results117, go_sem]) rfl ⟨0, HN.out, rfl, Below.refl _ _⟩
      · have hpa : -345 ≤ p := by omega
        have hpb : p ≤ 310 := by omega
        have HEX := Lib.hid (exact_any d p K w hT (by omega) (by omega))
        have HPF := Lib.hid (pf64_any d p w hG (by omega) (by omega) (by omega) (by omega))
        clear hd hdz3 hp1 hp2 hT
        go_enter Tryz.func117, Tryz.ntmps117
        go_wp2_with fail
        refine HSP.out.mono ?_
        rintro e w ⟨rfl, rfl⟩
        go_wp2_with fail
        refine HRF.out.mono ?_
        rintro e w ⟨rfl, rfl⟩
        go_wp2_with fail
        refine (HBU.out _).mono ?_
        rintro e w' ⟨rfl, rfl⟩
        go_wp2_with fail
        refine HEX.out.mono ?_
        rintro e w ⟨r, ok, rfl, hok, rfl⟩
        have HOK := Lib.hid hok
        clear hok
        cases ok
        · go_wp2_with fail
          refine HPF.out.mono ?_
          rintro e w2 ⟨r2, hn, rfl, hb⟩
          have HN := Lib.hid hn
          have HB := Lib.hid hb
          clear hn hb
          go_wp2_with fail
          refine bodyPost_ret (v := .tuple #[.float .f64 r2, .int .i64 s.size, errV r2]) (by simp [results, Tryz.results117, go_sem]) rfl ⟨r2, HN.out, rfl, HB.out⟩
        · go_wp2_with fail
          refine bodyPost_ret (v := .tuple #[.float .f64 r, .int .i64 s.size, .nilIface]) (by simp [results, Tryz.results117, go_sem]) rfl ⟨r, (HOK.out (by trivial)).1, ?_, Below.refl _ _⟩
          rw [show errV r = .nilIface from if_neg (Nat.ne_of_lt (HOK.out (by trivial)).2)]

/-- what ParseFloat hands back -/
def PlPost (X Q : Nat) (w : World) (e : Ending) (w' : World) : Prop := ∃ r ev, Near X Q r ∧ e = .returned (.tuple #[.float .f64 r, ev]) ∧ Below w.heap.size w w'

set_option maxRecDepth 100000 in
set_option maxHeartbeats 4000000 in
theorem pfloat_of (s : ByteArray) (X Q K : Nat) (w : World) (hT : GlobT K w) (hs : s.size ≤ 1000)
    (haf : Calls Tryz.prog 117 #[.string s] w fun e w' => ∃ r, Near X Q r ∧ e = .returned (.tuple #[.float .f64 r, .int .i64 s.size, errV r]) ∧ Below w.heap.size w w') :
    Calls Tryz.prog 23 #[.string s, .int .i64 64] w (PlPost X Q w) := by
  have HAF := Lib.hid haf
  have HT := Lib.hid hT
  clear haf hT
  have hpp : Calls Tryz.prog 93 #[.string s, .int .i64 64] w fun e w' => ∃ r, Near X Q r ∧ e = .returned (.tuple #[.float .f64 r, .int .i64 s.size, errV r]) ∧ Below w.heap.size w w' := by
    go_enter Tryz.func93, Tryz.ntmps93
    go_wp2_with fail
    refine HAF.out.mono ?_
    rintro e w2 ⟨r2, hn, rfl, hb⟩
    have HN := Lib.hid hn
    have HB := Lib.hid hb
    clear hn hb
    go_wp2_with fail
    refine bodyPost_ret (v := .tuple #[.float .f64 r2, .int .i64 s.size, errV r2]) (by simp [results, Tryz.results93, go_sem]) rfl ⟨r2, HN.out, rfl, HB.out⟩
  have HPP := Lib.hid hpp
  clear hpp
  have hpf : Calls Tryz.prog 61 #[.string s, .int .i64 64] w fun e w' => ∃ r, Near X Q r ∧ e = .returned (.tuple #[.float .f64 r, errV r]) ∧ Below w.heap.size w w' := by
    go_enter Tryz.func61, Tryz.ntmps61
    go_wp2_with fail
    refine HPP.out.mono ?_
    rintro e w2 ⟨r2, hn, rfl, hb⟩
    have HN := Lib.hid hn
    have HB := Lib.hid hb
    clear hn hb
    go_wp2_with fail
    refine bodyPost_ret (v := .tuple #[.float .f64 r2, errV r2]) (by simp [results, Tryz.results61, go_sem]) rfl ⟨r2, HN.out, rfl, HB.out⟩
  have HPF := Lib.hid hpf
  clear hpf
  go_enter Tryz.func23, Tryz.ntmps23
  go_wp2_with fail
  refine HPF.out.mono ?_
  rintro e w2 ⟨r2, hn, rfl, hb⟩
  have HN := Lib.hid hn
  have HB := Lib.hid hb
  clear hn
  by_cases hr : r2 = INF
  · have he : errV r2 = .iface 111 (.int .i64 1) := if_pos hr
    obtain ⟨te, pe, hv⟩ := (HT.out.on hb).rng
    have HTE := Lib.hid (Tryz.strconv_toError_range ⟨#[80, 97, 114, 115, 101, 70, 108, 111, 97, 116]⟩ s 0 64 (.iface te pe) w2 (by omega) hv (.inr ⟨te, pe, rfl⟩))
    clear hr hv hb
    rw [he]
    clear he
    go_wp2_with fail
    refine HTE.out.mono ?_
    rintro e w3 ⟨N, rfl, hN, hcell, hb3⟩
    have HB3 := Lib.hid hb3
    clear hb3 hcell hN
    go_wp2_with fail
    refine bodyPost_ret (v := .tuple #[.float .f64 r2, .iface 112 (.pointer (some ⟨N, 0, Option.none⟩))]) (by simp [results, Tryz.results23, go_sem]) rfl ⟨r2, _, HN.out, rfl, HB.out.trans (HB3.out.mono HB.out.size)⟩
  · have he : errV r2 = .nilIface := if_neg hr
    clear hr hb
    rw [he]
    clear he
    go_wp2_with fail
    refine bodyPost_ret (v := .tuple #[.float .f64 r2, .nilIface]) (by simp [results, Tryz.results23, go_sem]) rfl ⟨r2, _, HN.out, rfl, HB.out⟩
end Go.Proofs.YtmhagigokgklaaaGreatDoor
