/- Joined texts: Mk Ml Mm Mn. Each begins with its own remark. -/
import Derived.Test.YtmhagigokgklaaaGreatDoorJq
import Derived.Test.YtmhagigokgklaaaGreatDoorJh
import Derived.Test.YtmhagigokgklaaaGreatDoorJr
import Derived.Test.YtmhagigokgklaaaGreatDoorJg
import Derived.Test.YtmhagigokgklaaaGreatDoorJm

/- decimal.set (printed by gen_set15.py). -/
namespace Go.Proofs.YtmhagigokgklaaaGreatDoor
open Go Go.RowKit Go.Sort Go.Lib

/-- the digits of a text with a point, from the first that is no nought on -/
def dgF (l : List UInt8) : List UInt8 := dropZ (l.filter (· != 46))
theorem dg_dot (l : List UInt8) : dgF (l ++ [46]) = dgF l := by unfold dgF; rw [List.filter_append]; simp
theorem dg_skip (l : List UInt8) (h : dgF l = []) : dgF (l ++ [48]) = [] := by
  unfold dgF at *
  rw [List.filter_append, show List.filter (· != 46) [(48 : UInt8)] = [48] from rfl, dropZ_snoc, if_pos ⟨rfl, h⟩]
theorem dg_add (l : List UInt8) (c : UInt8) (h : c ≠ 46) (h2 : ¬ (c = 48 ∧ dgF l = [])) : dgF (l ++ [c]) = dgF l ++ [c] := by
  unfold dgF at *
  rw [List.filter_append, show List.filter (· != 46) [c] = [c] by simp [h], dropZ_snoc, if_neg h2]
theorem dg_mant {M W F : List UInt8} {dot : Bool} (h : MantF M W F dot) : dgF M = dropZ (W ++ F) := by
  have hw : W.filter (· != 46) = W := List.filter_eq_self.2 fun x hx => by simpa using dig_ne46 (h.w x hx)
  have hf : F.filter (· != 46) = F := List.filter_eq_self.2 fun x hx => by simpa using dig_ne46 (h.f x hx)
  unfold dgF
  rw [h.eq]
  unfold mantT
  cases dot with
  | false => rw [h.nodot rfl]; simp [hw]
  | true => simp [List.filter_append, hw, hf]

/-- what set leaves -/
def SetPost (b : Nat) (l : List UInt8) (dp : Int) (w : World) (e : Ending) (w' : World) : Prop := e = .returned (.bool true) ∧ DecL w' b l dp false ∧ Below b w w'

set_option maxRecDepth 100000 in
set_option maxHeartbeats 4000000 in
theorem set_plain (b : Nat) (s : ByteArray) (w : World) (hs : s.size ≤ 700) (h0 : DecAt w b (List.replicate 800 0) 0 0 false false) (M W F : List UInt8) (dot : Bool) (hM : MantF M W F dot) (hne : W ++ F ≠ []) (hl : s.data.toList = M) :
    Calls Tryz.prog 148 #[.pointer (some ⟨b, 0, Option.none⟩), .string s] w (SetPost b (dropZ (W ++ F)) (if (rfF 10 800 M).dot then (rfF 10 800 M).dp else ((rfF 10 800 M).nd : Int)) w) := by
  have gsz : s.size = M.length := by rw [← hl]; simp
  have gM : ∀ k (hk : k < M.length) (h2 : k < s.size), M[k] = s[k] := fun k hk h2 => by subst hl; rfl
  have hW : ∀ x ∈ W, okD 10 x := fun x hx => .inl (hM.w x hx)
  have hF : ∀ x ∈ F, okD 10 x := fun x hx => .inl (hM.f x hx)
  have hmem := mant_mem 10 _ W F dot hM.eq hW hF
  have hm0 : 0 < M.length := by
    rw [hM.eq]
    unfold mantT
    rcases List.eq_nil_or_concat W with h | ⟨l, c, h⟩
    · subst h
      cases dot with
      | false => rw [hM.nodot rfl] at hne; simp at hne
      | true => simp
    · subst h; rw [List.concat_eq_append]; simp; omega
  have hbyte : ∀ j (h : j < M.length) (h2 : j < s.size), s[j].toNat = 46 ∨ (48 ≤ s[j].toNat ∧ s[j].toNat ≤ 57) := fun j h h2 => by
    rw [← gM j h h2]
    rcases hmem _ (List.getElem_mem h) with h1 | h1 | h1
    · left; rw [h1]; rfl
    · right; exact h1
    · exact absurd h1.1 (by decide)
  have hn0 : 0 < s.size := by omega
  have hb0 := hbyte 0 hm0 hn0
  have hn1 : decide ((s.size : Int) ≤ 0) = false := by rw [decide_eq_false_iff_not]; omega
  have hn2 : decide (s.size = 0) = false := by rw [decide_eq_false_iff_not]; omega
  have hn3 : ¬ s.size = 0 := by omega
  have hc1 : (((s[0]'hn0).toNat : Int) == 43) = false := by rw [beq_eq_false_iff_ne]; omega
  have hc2 : (((s[0]'hn0).toNat : Int) == 45) = false := by rw [beq_eq_false_iff_ne]; omega
  have hml : M.length ≤ s.size := by omega
  have HGET := Lib.hid gM
  have HPT := Lib.hid (mant_point 10 800 M W F dot hM.eq hW hF)
  have HMT := Lib.hid (rf_mant 10 800 M W F dot hM.eq (fun x hx => dig_ne46 (hM.w x hx)) (fun x hx => dig_ne46 (hM.f x hx)) hM.nodot)
  have HMEM := Lib.hid hmem
  have HDGM := Lib.hid (dg_mant hM)
  have HNE := Lib.hid hne
  have H0 := Lib.hid h0
  have hb0lt := h0.lt
  have fz := h0.frz
  obtain ⟨c800, c801, c802, c803⟩ := h0.tail
  obtain ⟨DPO, hDPO⟩ : ∃ D : Int, D = (if (rfF 10 800 M).dot then (rfF 10 800 M).dp else ((rfF 10 800 M).nd : Int)) := ⟨_, rfl⟩
  rw [← hDPO]
  have HDPO := Lib.hid hDPO
  clear hDPO
  have HGSZ := Lib.hid gsz
  clear hM hne hW hF hmem hbyte hb0 gM h0 gsz hl
  go_enter Tryz.func148, Tryz.ntmps148
  go_wp2_with fail
  go_loopg [5, 6, 7] M.length (fun g s5 s6 s7 wr => ∃ (k nd nm mant : Nat) (dp : Int) (dt dg tr : Bool) (xs : List UInt8), k + g = M.length ∧ rfF 10 800 (M.take k) = ⟨nd, nm, mant, dp, dt, dg, tr⟩ ∧ s5 = .int .i64 k ∧ s6 = .bool dt ∧ s7 = .bool dg ∧ DecAt wr b xs nd dp false false ∧ xs.take nd = dgF (M.take k) ∧ nd = (dgF (M.take k)).length ∧ Below b w wr)
  case atStart =>
    refine ⟨0, 0, 0, 0, 0, false, false, false, List.replicate 800 0, by omega, rfl, rfl, rfl, rfl, ?_, rfl, rfl, ?_⟩
    · exact (H0.out.putTail.2.2.1 false).putTail.2.2.2 false
    · exact ((Below.refl b w).setCell (Nat.le_refl b) _).setCell (Nat.le_refl b) _
  case round =>
    obtain ⟨k, nd, nm, mant, dp, dt, dg, tr, xs, hkg, hst, rfl, rfl, rfl, hda, hxs, hnd0, hb⟩ := hrel
    have hbd := rf_bd 10 800 (by decide) (M.take k) (fun x hx => HMEM.out x (List.mem_of_mem_take hx))
    rw [hst] at hbd
    simp only at hbd
    have hlk : (M.take k).length ≤ k := List.length_take_le _ _
    obtain ⟨b1, b2, b3, b4, b5, b6⟩ := hbd
    clear b4
    have hnd : nd ≤ 700 := by omega
    have hnm : nm < 800 := by omega
    have hdp1 : -1000 ≤ dp := by omega
    have hdp2 : dp ≤ 1000 := by omega
    have HST := Lib.hid hst
    have HX := Lib.hid hda
    have HXS := Lib.hid hxs
    have HND := Lib.hid hnd0
    have HB := Lib.hid hb
    obtain ⟨d800, d801, _, _⟩ := hda.tail
    have hfr := hda.frz
    have hbr := hda.lt
    clear hxs hnd0 hb
    by_cases hlt : k < M.length
    · have hls : k < s.size := by omega
      have hpt := HPT.out k hlt
      have hnx := rf_next 10 800 M k hlt _ hst
      have htk : M.take (k + 1) = M.take k ++ [M[k]] := List.take_succ_eq_append_getElem hlt
      have hgk := HGET.out k hlt hls
      have hby := HMEM.out _ (List.getElem_mem hlt)
      rw [hgk] at hby hpt hnx htk
      rw [hst] at hpt
      simp only at hpt
      have HTK := Lib.hid htk
      have HNX := Lib.hid hnx
      have HPK := Lib.hid hpt
      clear hst hnx hpt b1 b2 b3 b5 b6 hlk hgk htk
      by_cases h46 : s[k].toNat = 46
      · have hd : dt = false := HPK.out (by rw [← UInt8.ofNat_toNat (x := s[k]), h46]; rfl)
        subst hd
        have HC46 : Hid (s[k] = 46) := Lib.hid (by rw [← UInt8.ofNat_toNat (x := s[k]), h46]; rfl)
        clear hby hda
        go_wp2_with fail
        try (go_quiet (fail); go_wp2_with fail)
        go_roundg (gk - 1)
        case measure => omega
        case rel =>
          refine ⟨k + 1, nd, nm, mant, (nd : Int), true, dg, tr, xs, by omega, ?_, by go_num, rfl, rfl, ?_, ?_, ?_, by first | exact HB.out.setCell (Nat.le_refl b) _ | exact (bDrewN HB.out _).setCell (Nat.le_refl b) _⟩
          · rw [HNX.out, HC46.out]; rfl
          · first | exact HX.out.putTail.2.1 _ | exact (HX.out.drewN _).putTail.2.1 _
          · rw [HTK.out, HC46.out, dg_dot]; exact HXS.out
          · rw [HTK.out, HC46.out, dg_dot]; exact HND.out
      · have hdg : 48 ≤ s[k].toNat ∧ s[k].toNat ≤ 57 := by
          rcases hby with h | h | h
          · rw [h] at h46; exact absurd rfl h46
          · exact h
          · exact absurd h.1 (by decide)
        have hd1 : (48 : Int) ≤ (s[k].toNat : Int) := by omega
        have hd2 : (s[k].toNat : Int) ≤ 57 := by omega
        have t95 : ((s[k].toNat : Int) == 95) = false := by rw [beq_eq_false_iff_ne]; omega
        have t46 : ((s[k].toNat : Int) == 46) = false := by rw [beq_eq_false_iff_ne]; omega
        have HC46 : Hid (s[k] ≠ 46) := Lib.hid fun h => h46 (by rw [h]; rfl)
        have HDV : Hid (dv s[k].toNat = s[k].toNat - 48) := Lib.hid (by unfold dv; rw [if_pos hdg])
        clear h46 hby hdg
        by_cases hz : s[k].toNat = 48 ∧ nd = 0
        · obtain ⟨hz1, rfl⟩ := hz
          have t48 : ((s[k].toNat : Int) == 48) = true := by rw [beq_iff_eq]; omega
          have HZ : Hid (s[k] = 48) := Lib.hid (by rw [← UInt8.ofNat_toNat (x := s[k]), hz1]; rfl)
          have HDE : Hid (dgF (M.take k) = []) := Lib.hid (List.eq_nil_of_length_eq_zero HND.out.symm)
          clear hz1 hda
          go_wp2_with fail
          try (go_quiet (fail); go_wp2_with fail)
          go_roundg (gk - 1)
          case measure => omega
          case rel =>
            refine ⟨k + 1, 0, nm, mant, dp - 1, dt, true, tr, xs, by omega, ?_, by go_num, rfl, rfl, ?_, ?_, ?_, by first | exact HB.out.setCell (Nat.le_refl b) _ | exact (bDrewN HB.out _).setCell (Nat.le_refl b) _⟩
            · rw [HNX.out]; unfold rfStep; rw [if_neg HC46.out, if_pos ⟨HZ.out, rfl⟩]
            · first | exact HX.out.putTail.2.1 _ | exact (HX.out.drewN _).putTail.2.1 _
            · rw [HTK.out, HZ.out, dg_skip _ HDE.out]; rfl
            · rw [HTK.out, HZ.out, dg_skip _ HDE.out]; rfl
        · have HZ : Hid (¬ (s[k] = 48 ∧ nd = 0)) := Lib.hid fun h => hz ⟨by rw [h.1]; rfl, h.2⟩
          have hzz : ((s[k].toNat : Int) == 48) = false ∨ ((s[k].toNat : Int) == 48) = true ∧ ((nd : Int) == 0) = false ∧ (nd == 0) = false ∧ ¬ nd = 0 := by
            by_cases h48 : s[k].toNat = 48
            · right; exact ⟨by rw [beq_iff_eq]; omega, by rw [beq_eq_false_iff_ne]; omega, by rw [beq_eq_false_iff_ne]; omega, by omega⟩
            · left; rw [beq_eq_false_iff_ne]; omega
          have HAD : Hid (dgF (M.take (k + 1)) = dgF (M.take k) ++ [s[k]]) := Lib.hid (by
            rw [HTK.out]
            exact dg_add _ _ HC46.out fun h => HZ.out ⟨h.1, by rw [HND.out, h.2]; rfl⟩)
          have hxl : nd < xs.length := by rw [hda.len]; omega
          have cw := hda.cell nd xs[nd] (List.getElem?_eq_getElem hxl)
          have hni : (nd : Int) < 800 := by omega
          have hn8 : ¬ nd = 800 := by omega
          have HK : Hid ((wr.setCell ⟨b, nd, Option.none⟩ (.int .u8 (s[k].toNat : Int))).drew.cell? ⟨b, 800, Option.none⟩ = some (.int .i64 (nd : Int))) := Lib.hid ((HX.out.put nd (by omega) s[k] _ rfl).drewN 1).tail.1
          have hni0 : (0 : Int) ≤ (nd : Int) := by omega
          generalize xs[nd] = xw at *
          clear hz hda
          rcases hzz with t48 | ⟨t48, tn, tn2, tn3⟩
          all_goals
            go_wp2_with fail
            go_region_held (fun w' => w'.cell? ⟨b, 800, Option.none⟩ = some (.int .i64 (nd : Int))) (first | exact d800 | exact HK.out) (fail)
            go_wp2_with fail
            go_roundg (gk - 1)
            case measure => omega
            case rel =>
              refine ⟨k + 1, nd + 1, nm + 1, mant * 10 + dv s[k].toNat, dp, dt, true, tr, xs.set nd s[k], by omega, ?_, by go_num, rfl, rfl, ?_, ?_, ?_, ?_⟩
              · rw [HNX.out]; unfold rfStep; rw [if_neg HC46.out, if_neg HZ.out, if_pos hnm]
              · have e1 : ((nd + 1 : Nat) : Int) = (nd : Int) + 1 := by omega
                rw [e1]
                first | exact (HX.out.put nd (by omega) s[k] _ rfl).putTail.1 _ | exact ((HX.out.put nd (by omega) s[k] _ rfl).drewN _).putTail.1 _ | exact (((HX.out.put nd (by omega) s[k] _ rfl).drewN 1).putTail.1 _) | exact (((HX.out.drewN 1).put nd (by omega) s[k] _ rfl).drewN _).putTail.1 _ | exact ((HX.out.drewN _).put nd (by omega) s[k] _ rfl).putTail.1 _ | exact ((HX.out.drewN 1).put nd (by omega) s[k] _ rfl).putTail.1 _
              · rw [HAD.out, ← HXS.out, List.take_succ_eq_append_getElem (by rw [List.length_set]; exact hxl), List.getElem_set_self, List.take_set_of_le (Nat.le_refl _)]
              · rw [HAD.out, List.length_append, ← HND.out]; rfl
              · first | exact (HB.out.setCell (Nat.le_refl b) _).setCell (Nat.le_refl b) _ | exact (bDrewN (HB.out.setCell (Nat.le_refl b) _) 1).setCell (Nat.le_refl b) _ | exact ((bDrewN HB.out _).setCell (Nat.le_refl b) _).setCell (Nat.le_refl b) _ | exact ((bDrewN HB.out 1).setCell (Nat.le_refl b) _).setCell (Nat.le_refl b) _
    · have hke : k = M.length := by omega
      have hfull : M.take k = M := List.take_of_length_le (by omega)
      have hmt := HMT.out
      have hst2 := hst
      rw [hfull] at hst2
      rw [hst2] at hmt
      obtain ⟨m1, m2, m3, m4, m5⟩ := hmt
      have hdg : dg = true := by
        have := m1.dig
        simp only at this
        rw [this]
        have := HNE.out
        simpa using this
      subst hdg
      have HS := Lib.hid hst2
      have HFULL : Hid (xs.take nd = dropZ (W ++ F) ∧ nd = (dropZ (W ++ F)).length) := Lib.hid (by
        rw [← HDGM.out, ← hfull]; exact ⟨HXS.out, HND.out⟩)
      have HKE := Lib.hid hke
      clear m1 m2 m3 m4 m5 hst hst2 HST hfull b1 b2 b3 b5 b6 hlk hda
      have hks : k = s.size := by rw [hke, HGSZ.out]
      obtain ⟨DP, hDP⟩ : ∃ DP : Int, DP = (if dt then dp else (nd : Int)) := ⟨_, rfl⟩
      have HDP : Hid (DPO = DP) := Lib.hid (by rw [HDPO.out, HS.out, hDP])
      have hi : decide ((k : Int) < (s.size : Int)) = false := by rw [decide_eq_false_iff_not]; omega
      clear hlt hke
      subst hks
      cases dt
      · have HD2 : Hid (DPO = (nd : Int)) := Lib.hid (HDP.out.trans hDP)
        clear hDP HDP
        go_wp2_with fail
        try (go_quiet (fail); go_wp2_with fail)
        go_ret
        refine ⟨rfl, ⟨xs, ?_, by rw [← HFULL.out.2]; exact HFULL.out.1⟩, by first | exact HB.out.setCell (Nat.le_refl b) _ | exact (bDrewN HB.out _).setCell (Nat.le_refl b) _⟩
        rw [← HFULL.out.2, HD2.out]
        first | exact HX.out.putTail.2.1 _ | exact (HX.out.drewN _).putTail.2.1 _
      · have HD2 : Hid (DPO = dp) := Lib.hid (HDP.out.trans hDP)
        clear hDP HDP
        go_wp2_with fail
        try (go_quiet (fail); go_wp2_with fail)
        go_ret
        refine ⟨rfl, ⟨xs, ?_, by rw [← HFULL.out.2]; exact HFULL.out.1⟩, by first | exact HB.out | exact bDrewN HB.out _⟩
        rw [← HFULL.out.2, HD2.out]
        first | exact HX.out | exact HX.out.drewN _

set_option maxRecDepth 100000 in
set_option maxHeartbeats 4000000 in
theorem set_pow (b : Nat) (s : ByteArray) (w : World) (hs : s.size ≤ 700) (h0 : DecAt w b (List.replicate 800 0) 0 0 false false) (M W F : List UInt8) (dot : Bool) (eb : UInt8) (sg X : List UInt8) (hM : MantF M W F dot) (hne : W ++ F ≠ []) (hp : PowF (powT eb sg X) eb sg X) (hX : X ≠ []) (hl : s.data.toList = M ++ powT eb sg X) :
    Calls Tryz.prog 148 #[.pointer (some ⟨b, 0, Option.none⟩), .string s] w (SetPost b (dropZ (W ++ F)) ((if (rfF 10 800 M).dot then (rfF 10 800 M).dp else ((rfF 10 800 M).nd : Int)) + (exF X : Int) * sgZ sg) w) := by
  obtain ⟨gsz, gM, gE, gS, gX⟩ := pow_get s M eb sg X hl
  have hX0 : 0 < X.length := List.length_pos_iff.2 hX
  have hW : ∀ x ∈ W, okD 10 x := fun x hx => .inl (hM.w x hx)
  have hF : ∀ x ∈ F, okD 10 x := fun x hx => .inl (hM.f x hx)
  have hmem := mant_mem 10 _ W F dot hM.eq hW hF
  have hm0 : 0 < M.length := by
    rw [hM.eq]
    unfold mantT
    rcases List.eq_nil_or_concat W with h | ⟨l, c, h⟩
    · subst h
      cases dot with
      | false => rw [hM.nodot rfl] at hne; simp at hne
      | true => simp
    · subst h; rw [List.concat_eq_append]; simp; omega
  have hbyte : ∀ j (h : j < M.length) (h2 : j < s.size), s[j].toNat = 46 ∨ (48 ≤ s[j].toNat ∧ s[j].toNat ≤ 57) := fun j h h2 => by
    rw [← gM j h h2]
    rcases hmem _ (List.getElem_mem h) with h1 | h1 | h1
    · left; rw [h1]; rfl
    · right; exact h1
    · exact absurd h1.1 (by decide)
  have hn0 : 0 < s.size := by omega
  have hb0 := hbyte 0 hm0 hn0
  have hn1 : decide ((s.size : Int) ≤ 0) = false := by rw [decide_eq_false_iff_not]; omega
  have hn2 : decide (s.size = 0) = false := by rw [decide_eq_false_iff_not]; omega
  have hn3 : ¬ s.size = 0 := by omega
  have hc1 : (((s[0]'hn0).toNat : Int) == 43) = false := by rw [beq_eq_false_iff_ne]; omega
  have hc2 : (((s[0]'hn0).toNat : Int) == 45) = false := by rw [beq_eq_false_iff_ne]; omega
  have hms : M.length < s.size := by omega
  have hE := gE hms
  have hEb := hp.eb
  have e95 : (((s[M.length]'hms).toNat : Int) == 95) = false := by rw [hE, beq_eq_false_iff_ne]; omega
  have e46 : (((s[M.length]'hms).toNat : Int) == 46) = false := by rw [hE, beq_eq_false_iff_ne]; omega
  have e48 : (48 : Int) ≤ ((s[M.length]'hms).toNat : Int) := by rw [hE]; omega
  have e57 : decide (((s[M.length]'hms).toNat : Int) ≤ 57) = false := by rw [hE, decide_eq_false_iff_not]; omega
  have HEL := Lib.hid (fun (W : World) => lower_at (s[M.length]'hms).toNat 101 (by rw [hE]; exact low_e _ hEb) W)
  obtain ⟨o, ho⟩ : ∃ o, M.length + 1 + sg.length = o := ⟨_, rfl⟩
  have hdX : ∀ i (h1 : o ≤ i) (h2 : i < s.size), 48 ≤ s[i].toNat ∧ s[i].toNat ≤ 57 ∧ exF (X.take (i + 1 - o)) = (if exF (X.take (i - o)) < 10000 then exF (X.take (i - o)) * 10 + (s[i].toNat - 48) else exF (X.take (i - o))) := fun i h1 h2 => by
    have hj : i - o < X.length := by omega
    have hg := gX (i - o) hj (by omega)
    simp only [show M.length + 1 + sg.length + (i - o) = i by omega] at hg
    have hd := hp.x _ (List.getElem_mem hj)
    rw [← hg] at hd
    refine ⟨hd.1, hd.2, ?_⟩
    rw [show i + 1 - o = i - o + 1 by omega, List.take_succ_eq_append_getElem hj, ex_snoc, ← hg]
  have hexb : ∀ i, exF (X.take i) < 100000 := fun i => ex_lt _ fun x hx => hp.x x (List.mem_of_mem_take hx)
  have hosz : s.size = o + X.length := by omega
  have HDX := Lib.hid hdX
  have HEXB := Lib.hid hexb
  have HGS := Lib.hid gS
  have HSG := Lib.hid hp.sg
  have HO := Lib.hid ho
  have HOSZ := Lib.hid hosz
  have hml : M.length ≤ s.size := by omega
  have HGET := Lib.hid gM
  have HPT := Lib.hid (mant_point 10 800 M W F dot hM.eq hW hF)
  have HMT := Lib.hid (rf_mant 10 800 M W F dot hM.eq (fun x hx => dig_ne46 (hM.w x hx)) (fun x hx => dig_ne46 (hM.f x hx)) hM.nodot)
  have HMEM := Lib.hid hmem
  have HDGM := Lib.hid (dg_mant hM)
  have HNE := Lib.hid hne
  have H0 := Lib.hid h0
  have hb0lt := h0.lt
  have fz := h0.frz
  obtain ⟨c800, c801, c802, c803⟩ := h0.tail
  obtain ⟨DPO, hDPO⟩ : ∃ D : Int, D = ((if (rfF 10 800 M).dot then (rfF 10 800 M).dp else ((rfF 10 800 M).nd : Int)) + (exF X : Int) * sgZ sg) := ⟨_, rfl⟩
  rw [← hDPO]
  have HDPO := Lib.hid hDPO
  clear hDPO
  have HGSZ := Lib.hid gsz
  clear hM hne hW hF hmem hbyte hb0 gM h0 gE gS gX gsz hp hX hl hE hEb hdX hexb ho hosz
  go_enter Tryz.func148, Tryz.ntmps148
  go_wp2_with fail
  go_loopg [5, 6, 7] M.length (fun g s5 s6 s7 wr => ∃ (k nd nm mant : Nat) (dp : Int) (dt dg tr : Bool) (xs : List UInt8), k + g = M.length ∧ rfF 10 800 (M.take k) = ⟨nd, nm, mant, dp, dt, dg, tr⟩ ∧ s5 = .int .i64 k ∧ s6 = .bool dt ∧ s7 = .bool dg ∧ DecAt wr b xs nd dp false false ∧ xs.take nd = dgF (M.take k) ∧ nd = (dgF (M.take k)).length ∧ Below b w wr)
  case atStart =>
    refine ⟨0, 0, 0, 0, 0, false, false, false, List.replicate 800 0, by omega, rfl, rfl, rfl, rfl, ?_, rfl, rfl, ?_⟩
    · exact (H0.out.putTail.2.2.1 false).putTail.2.2.2 false
    · exact ((Below.refl b w).setCell (Nat.le_refl b) _).setCell (Nat.le_refl b) _
  case round =>
    obtain ⟨k, nd, nm, mant, dp, dt, dg, tr, xs, hkg, hst, rfl, rfl, rfl, hda, hxs, hnd0, hb⟩ := hrel
    have hbd := rf_bd 10 800 (by decide) (M.take k) (fun x hx => HMEM.out x (List.mem_of_mem_take hx))
    rw [hst] at hbd
    simp only at hbd
    have hlk : (M.take k).length ≤ k := List.length_take_le _ _
    obtain ⟨b1, b2, b3, b4, b5, b6⟩ := hbd
    clear b4
    have hnd : nd ≤ 700 := by omega
    have hnm : nm < 800 := by omega
    have hdp1 : -1000 ≤ dp := by omega
    have hdp2 : dp ≤ 1000 := by omega
    have HST := Lib.hid hst
    have HX := Lib.hid hda
    have HXS := Lib.hid hxs
    have HND := Lib.hid hnd0
    have HB := Lib.hid hb
    obtain ⟨d800, d801, _, _⟩ := hda.tail
    have hfr := hda.frz
    have hbr := hda.lt
    clear hxs hnd0 hb
    by_cases hlt : k < M.length
    · have hls : k < s.size := by omega
      have hpt := HPT.out k hlt
      have hnx := rf_next 10 800 M k hlt _ hst
      have htk : M.take (k + 1) = M.take k ++ [M[k]] := List.take_succ_eq_append_getElem hlt
      have hgk := HGET.out k hlt hls
      have hby := HMEM.out _ (List.getElem_mem hlt)
      rw [hgk] at hby hpt hnx htk
      rw [hst] at hpt
      simp only at hpt
      have HTK := Lib.hid htk
      have HNX := Lib.hid hnx
      have HPK := Lib.hid hpt
      clear hst hnx hpt b1 b2 b3 b5 b6 hlk hgk htk
      by_cases h46 : s[k].toNat = 46
      · have hd : dt = false := HPK.out (by rw [← UInt8.ofNat_toNat (x := s[k]), h46]; rfl)
        subst hd
        have HC46 : Hid (s[k] = 46) := Lib.hid (by rw [← UInt8.ofNat_toNat (x := s[k]), h46]; rfl)
        clear hby hda
        go_wp2_with fail
        try (go_quiet (fail); go_wp2_with fail)
        go_roundg (gk - 1)
        case measure => omega
        case rel =>
          refine ⟨k + 1, nd, nm, mant, (nd : Int), true, dg, tr, xs, by omega, ?_, by go_num, rfl, rfl, ?_, ?_, ?_, by first | exact HB.out.setCell (Nat.le_refl b) _ | exact (bDrewN HB.out _).setCell (Nat.le_refl b) _⟩
          · rw [HNX.out, HC46.out]; rfl
          · first | exact HX.out.putTail.2.1 _ | exact (HX.out.drewN _).putTail.2.1 _
          · rw [HTK.out, HC46.out, dg_dot]; exact HXS.out
          · rw [HTK.out, HC46.out, dg_dot]; exact HND.out
      · have hdg : 48 ≤ s[k].toNat ∧ s[k].toNat ≤ 57 := by
          rcases hby with h | h | h
          · rw [h] at h46; exact absurd rfl h46
          · exact h
          · exact absurd h.1 (by decide)
        have hd1 : (48 : Int) ≤ (s[k].toNat : Int) := by omega
        have hd2 : (s[k].toNat : Int) ≤ 57 := by omega
        have t95 : ((s[k].toNat : Int) == 95) = false := by rw [beq_eq_false_iff_ne]; omega
        have t46 : ((s[k].toNat : Int) == 46) = false := by rw [beq_eq_false_iff_ne]; omega
        have HC46 : Hid (s[k] ≠ 46) := Lib.hid fun h => h46 (by rw [h]; rfl)
        have HDV : Hid (dv s[k].toNat = s[k].toNat - 48) := Lib.hid (by unfold dv; rw [if_pos hdg])
        clear h46 hby hdg
        by_cases hz : s[k].toNat = 48 ∧ nd = 0
        · obtain ⟨hz1, rfl⟩ := hz
          have t48 : ((s[k].toNat : Int) == 48) = true := by rw [beq_iff_eq]; omega
          have HZ : Hid (s[k] = 48) := Lib.hid (by rw [← UInt8.ofNat_toNat (x := s[k]), hz1]; rfl)
          have HDE : Hid (dgF (M.take k) = []) := Lib.hid (List.eq_nil_of_length_eq_zero HND.out.symm)
          clear hz1 hda
          go_wp2_with fail
          try (go_quiet (fail); go_wp2_with fail)
          go_roundg (gk - 1)
          case measure => omega
          case rel =>
            refine ⟨k + 1, 0, nm, mant, dp - 1, dt, true, tr, xs, by omega, ?_, by go_num, rfl, rfl, ?_, ?_, ?_, by first | exact HB.out.setCell (Nat.le_refl b) _ | exact (bDrewN HB.out _).setCell (Nat.le_refl b) _⟩
            · rw [HNX.out]; unfold rfStep; rw [if_neg HC46.out, if_pos ⟨HZ.out, rfl⟩]
            · first | exact HX.out.putTail.2.1 _ | exact (HX.out.drewN _).putTail.2.1 _
            · rw [HTK.out, HZ.out, dg_skip _ HDE.out]; rfl
            · rw [HTK.out, HZ.out, dg_skip _ HDE.out]; rfl
        · have HZ : Hid (¬ (s[k] = 48 ∧ nd = 0)) := Lib.hid fun h => hz ⟨by rw [h.1]; rfl, h.2⟩
          have hzz : ((s[k].toNat : Int) == 48) = false ∨ ((s[k].toNat : Int) == 48) = true ∧ ((nd : Int) == 0) = false ∧ (nd == 0) = false ∧ ¬ nd = 0 := by
            by_cases h48 : s[k].toNat = 48
            · right; exact ⟨by rw [beq_iff_eq]; omega, by rw [beq_eq_false_iff_ne]; omega, by rw [beq_eq_false_iff_ne]; omega, by omega⟩
            · left; rw [beq_eq_false_iff_ne]; omega
          have HAD : Hid (dgF (M.take (k + 1)) = dgF (M.take k) ++ [s[k]]) := Lib.hid (by
            rw [HTK.out]
            exact dg_add _ _ HC46.out fun h => HZ.out ⟨h.1, by rw [HND.out, h.2]; rfl⟩)
          have hxl : nd < xs.length := by rw [hda.len]; omega
          have cw := hda.cell nd xs[nd] (List.getElem?_eq_getElem hxl)
          have hni : (nd : Int) < 800 := by omega
          have hn8 : ¬ nd = 800 := by omega
          have HK : Hid ((wr.setCell ⟨b, nd, Option.none⟩ (.int .u8 (s[k].toNat : Int))).drew.cell? ⟨b, 800, Option.none⟩ = some (.int .i64 (nd : Int))) := Lib.hid ((HX.out.put nd (by omega) s[k] _ rfl).drewN 1).tail.1
          have hni0 : (0 : Int) ≤ (nd : Int) := by omega
          generalize xs[nd] = xw at *
          clear hz hda
          rcases hzz with t48 | ⟨t48, tn, tn2, tn3⟩
          all_goals
            go_wp2_with fail
            go_region_held (fun w' => w'.cell? ⟨b, 800, Option.none⟩ = some (.int .i64 (nd : Int))) (first | exact d800 | exact HK.out) (fail)
            go_wp2_with fail
            go_roundg (gk - 1)
            case measure => omega
            case rel =>
              refine ⟨k + 1, nd + 1, nm + 1, mant * 10 + dv s[k].toNat, dp, dt, true, tr, xs.set nd s[k], by omega, ?_, by go_num, rfl, rfl, ?_, ?_, ?_, ?_⟩
              · rw [HNX.out]; unfold rfStep; rw [if_neg HC46.out, if_neg HZ.out, if_pos hnm]
              · have e1 : ((nd + 1 : Nat) : Int) = (nd : Int) + 1 := by omega
                rw [e1]
                first | exact (HX.out.put nd (by omega) s[k] _ rfl).putTail.1 _ | exact ((HX.out.put nd (by omega) s[k] _ rfl).drewN _).putTail.1 _ | exact (((HX.out.put nd (by omega) s[k] _ rfl).drewN 1).putTail.1 _) | exact (((HX.out.drewN 1).put nd (by omega) s[k] _ rfl).drewN _).putTail.1 _ | exact ((HX.out.drewN _).put nd (by omega) s[k] _ rfl).putTail.1 _ | exact ((HX.out.drewN 1).put nd (by omega) s[k] _ rfl).putTail.1 _
              · rw [HAD.out, ← HXS.out, List.take_succ_eq_append_getElem (by rw [List.length_set]; exact hxl), List.getElem_set_self, List.take_set_of_le (Nat.le_refl _)]
              · rw [HAD.out, List.length_append, ← HND.out]; rfl
              · first | exact (HB.out.setCell (Nat.le_refl b) _).setCell (Nat.le_refl b) _ | exact (bDrewN (HB.out.setCell (Nat.le_refl b) _) 1).setCell (Nat.le_refl b) _ | exact ((bDrewN HB.out _).setCell (Nat.le_refl b) _).setCell (Nat.le_refl b) _ | exact ((bDrewN HB.out 1).setCell (Nat.le_refl b) _).setCell (Nat.le_refl b) _
    · have hke : k = M.length := by omega
      have hfull : M.take k = M := List.take_of_length_le (by omega)
      have hmt := HMT.out
      have hst2 := hst
      rw [hfull] at hst2
      rw [hst2] at hmt
      obtain ⟨m1, m2, m3, m4, m5⟩ := hmt
      have hdg : dg = true := by
        have := m1.dig
        simp only at this
        rw [this]
        have := HNE.out
        simpa using this
      subst hdg
      have HS := Lib.hid hst2
      have HFULL : Hid (xs.take nd = dropZ (W ++ F) ∧ nd = (dropZ (W ++ F)).length) := Lib.hid (by
        rw [← HDGM.out, ← hfull]; exact ⟨HXS.out, HND.out⟩)
      have HKE := Lib.hid hke
      clear m1 m2 m3 m4 m5 hst hst2 HST hfull b1 b2 b3 b5 b6 hlk hda
      obtain ⟨DP, hDP⟩ : ∃ DP : Int, DP = (if dt then dp else (nd : Int)) := ⟨_, rfl⟩
      have hDP1 : -1000 ≤ DP := by rw [hDP]; split <;> omega
      have hDP2 : DP ≤ 1000 := by rw [hDP]; split <;> omega
      have HDP : Hid (DPO = DP + (exF X : Int) * sgZ sg) := Lib.hid (by rw [HDPO.out, HS.out, hDP])
      have HDQ := Lib.hid hDP
      have hone : (sg = [] ∧ o = M.length + 1) ∨ (sg = [43] ∧ o = M.length + 1 + 1) ∨ (sg = [45] ∧ o = M.length + 1 + 1) := by
        rcases HSG.out with h | h | h <;> subst h <;> have := HO.out <;> simp at this
        · left; exact ⟨rfl, by omega⟩
        · right; left; exact ⟨rfl, by omega⟩
        · right; right; exact ⟨rfl, by omega⟩
      have hosz := HOSZ.out
      have hos : o < s.size := by omega
      have hd0 := HDX.out o (Nat.le_refl _) hos
      have hs0 : M.length + 1 < s.size := by rcases hone with h | h | h <;> omega
      have c1 : (48 : Int) ≤ ((s[o]'hos).toNat : Int) := by omega
      have c2 : ((s[o]'hos).toNat : Int) ≤ 57 := by omega
      obtain ⟨Z, hZ⟩ : ∃ Z : Int, Z = sgZ sg := ⟨_, rfl⟩
      have hZ1 : Z = 1 ∨ Z = -1 := by rw [hZ]; unfold sgZ; split <;> simp
      have HZ := Lib.hid hZ
      have HZ1 := Lib.hid hZ1
      have HONE := Lib.hid hone
      have HSB : Hid (sg = [] → ((s[M.length + 1]'hs0).toNat : Int) = (s[o]'hos).toNat) := Lib.hid fun h => by
        have ho2 : o = M.length + 1 := by
          rcases hone with ⟨_, h1⟩ | ⟨h1, _⟩ | ⟨h1, _⟩
          · exact h1
          · rw [h] at h1; exact absurd h1 (by decide)
          · rw [h] at h1; exact absurd h1 (by decide)
        subst ho2; rfl
      have HSS : Hid (∀ x, sg = [x] → s[M.length + 1]'hs0 = x) := Lib.hid fun x h => by
        have := HGS.out 0 (by rw [h]; simp) hs0
        rw [show sg[0]'(by rw [h]; simp) = x from by simp [h]] at this
        exact this
      subst hke
      clear hZ hZ1 hone hd0 HSG HGS HO HPT HMT HMEM HGET hosz hDP hlt
      go_upto_if 120 with fail
      go_cut [] from 12 to 130 (fun wx => DecAt wx b xs nd DP false false ∧ Below b w wx)
      case first =>
        cases dt
        · have hq : DP = (nd : Int) := HDQ.out
          go_wp2_with fail
          try (go_quiet (fail); go_wp2_with fail)
          go_meet
          refine ⟨?_, by first | exact HB.out.setCell (Nat.le_refl b) _ | exact (bDrewN HB.out _).setCell (Nat.le_refl b) _⟩
          rw [hq]
          first | exact HX.out.putTail.2.1 _ | exact (HX.out.drewN _).putTail.2.1 _
        · have hq : DP = dp := HDQ.out
          go_wp2_with fail
          go_meet
          exact ⟨by rw [hq]; exact HX.out, HB.out⟩
      case rest =>
        clear d800 d801 hfr hbr HX HB
        obtain ⟨hda, hb⟩ := hcut
        clear fz
        have HX := Lib.hid hda
        have HB := Lib.hid hb
        obtain ⟨d800, d801, _, _⟩ := hda.tail
        have hfr := hda.frz
        have hbr := hda.lt
        clear hda hb
        go_upto_block 4 with (go_at_call 114; refine (HEL.out _).mono ?_; rintro e wr ⟨rfl, rfl⟩)
        go_cut [5, 8] from 148 to 160 (fun s5 s8 wx => s5 = .int .i64 o ∧ s8 = .int .i64 Z ∧ wx = wr)
        case first =>
          rcases HONE.out with ⟨hsg, hoo⟩ | ⟨hsg, hoo⟩ | ⟨hsg, hoo⟩
          · have hb := HSB.out hsg
            have c3 : (((s[M.length + 1]'hs0).toNat : Int) == 43) = false := by rw [beq_eq_false_iff_ne]; omega
            have c4 : (((s[M.length + 1]'hs0).toNat : Int) == 45) = false := by rw [beq_eq_false_iff_ne]; omega
            have hz : Z = 1 := by rw [HZ.out, hsg]; decide
            clear hb hsg
            subst hoo hz
            go_wp2_with fail
            go_meet
            exact ⟨by go_num, rfl, rfl⟩
          · have hb := HSS.out _ hsg
            have c3 : (((s[M.length + 1]'hs0).toNat : Int) == 43) = true := by rw [hb]; rfl
            have hz : Z = 1 := by rw [HZ.out, hsg]; decide
            clear hb hsg
            subst hoo hz
            go_wp2_with fail
            go_meet
            exact ⟨by go_num, rfl, rfl⟩
          · have hb := HSS.out _ hsg
            have c3 : (((s[M.length + 1]'hs0).toNat : Int) == 43) = false := by rw [hb]; rfl
            have c4 : (((s[M.length + 1]'hs0).toNat : Int) == 45) = true := by rw [hb]; rfl
            have hz : Z = -1 := by rw [HZ.out, hsg]; decide
            clear hb hsg
            subst hoo hz
            go_wp2_with fail
            go_meet
            exact ⟨by go_num, rfl, rfl⟩
        case rest =>
          obtain ⟨rfl, rfl, hwc⟩ := hcut
          obtain rfl : wr = wc := hwc.symm
          go_wp2_with fail
          go_loopg [5, 9] X.length (fun g s5 s9 wr' => ∃ i e : Nat, o ≤ i ∧ i + g = o + X.length ∧ exF (X.take (i - o)) = e ∧ s5 = .int .i64 i ∧ s9 = .int .i64 e ∧ wr' = wr)
          case atStart => exact ⟨o, 0, Nat.le_refl _, rfl, by rw [Nat.sub_self]; rfl, rfl, rfl, rfl⟩
          case round =>
            obtain ⟨i, e, hoi, hig, hex, rfl, rfl, rfl⟩ := hrel
            have hosz := HOSZ.out
            have heb := HEXB.out (i - o)
            rw [hex] at heb
            by_cases hlt : i < s.size
            · obtain ⟨d1, d2, d3⟩ := HDX.out i hoi hlt
              rw [hex] at d3
              have HD3 := Lib.hid d3
              have hd1 : (48 : Int) ≤ ((s[i]'hlt).toNat : Int) := by omega
              have hd2 : ((s[i]'hlt).toNat : Int) ≤ 57 := by omega
              have t95 : (((s[i]'hlt).toNat : Int) == 95) = false := by rw [beq_eq_false_iff_ne]; omega
              clear d3 d1 d2 hex hosz
              by_cases he : e < 10000
              · have te : decide ((e : Int) < 10000) = true := by rw [decide_eq_true_eq]; omega
                go_wp2_with fail
                go_roundg (gk - 1)
                case measure => have := HOSZ.out; omega
                case rel => exact ⟨i + 1, e * 10 + (s[i].toNat - 48), by omega, by have := HOSZ.out; omega, by rw [HD3.out, if_pos he], by go_num, by go_num, rfl⟩
              · have te : decide ((e : Int) < 10000) = false := by rw [decide_eq_false_iff_not]; omega
                go_wp2_with fail
                go_roundg (gk - 1)
                case measure => have := HOSZ.out; omega
                case rel => exact ⟨i + 1, e, by omega, by have := HOSZ.out; omega, by rw [HD3.out, if_neg he], by go_num, by go_num, rfl⟩
            · have hie : i = s.size := by omega
              have hexx : exF X = e := by rw [← hex, List.take_of_length_le (by omega)]
              have HE := Lib.hid hexx
              subst hie
              clear hex hexx hosz
              rcases HZ1.out with rfl | rfl
              · have HD2 : Hid (DPO = DP + (e : Int)) := Lib.hid (by rw [HDP.out, HE.out, ← HZ.out, Int.mul_one])
                go_wp2_with fail
                try (go_quiet (fail); go_wp2_with fail)
                go_ret
                refine ⟨rfl, ⟨xs, ?_, by rw [← HFULL.out.2]; exact HFULL.out.1⟩, by first | exact HB.out.setCell (Nat.le_refl b) _ | exact (bDrewN HB.out _).setCell (Nat.le_refl b) _⟩
                rw [← HFULL.out.2, HD2.out]
                first | exact HX.out.putTail.2.1 _ | exact (HX.out.drewN _).putTail.2.1 _
              · have HD2 : Hid (DPO = DP + -(e : Int)) := Lib.hid (by rw [HDP.out, HE.out, ← HZ.out, Int.mul_neg, Int.mul_one])
                go_wp2_with fail
                try (go_quiet (fail); go_wp2_with fail)
                go_ret
                refine ⟨rfl, ⟨xs, ?_, by rw [← HFULL.out.2]; exact HFULL.out.1⟩, by first | exact HB.out.setCell (Nat.le_refl b) _ | exact (bDrewN HB.out _).setCell (Nat.le_refl b) _⟩
                rw [← HFULL.out.2, HD2.out]
                first | exact HX.out.putTail.2.1 _ | exact (HX.out.drewN _).putTail.2.1 _
end Go.Proofs.YtmhagigokgklaaaGreatDoor

/- atof64 of decimal texts whose digits are not all held. -/
namespace Go.Proofs.YtmhagigokgklaaaGreatDoor
open Go Go.RowKit Go.Sort Go.Lib
set_option exponentiation.threshold 5000

theorem sv_small (x : Nat) (h : x < 9223372036854775808) : sv x = (V x : Int) := by
  unfold sv ru
  rw [if_neg (by omega), Nat.mod_eq_of_lt h]
theorem ord_eq (x y : Nat) (hx : x ≤ INF) (hy : y ≤ INF) : (FloatKind.f64.format.order x y == some Ordering.eq) = decide (x = y) := by
  show (Ieee.double.order x y == _) = _
  have hi : INF = 9218868437227405312 := rfl
  rw [order_any x y (by omega) (by omega) (by unfold ru; omega) (by unfold ru; omega), cmp_eq, sv_small x (by omega), sv_small y (by omega), decide_eq_decide]
  constructor
  · intro h
    rcases Nat.lt_trichotomy x y with h1 | h1 | h1
    · have := V_mono h1; omega
    · exact h1
    · have := V_mono h1; omega
  · rintro rfl; rfl

theorem zero_dec : Tryz.zeroCells153 = decRow (List.replicate 800 0) 0 0 false false := by kernel_rfl

/-- both digits below and above are read alike -/
theorem near_squeeze {d dT j r : Nat} {p pT : Int} (h1 : Near (dX d p) (dQ p) r) (h2 : Near (dX (d + 1) p) (dQ p) r) (hp : p = pT + j) (hd1 : d * 10 ^ j ≤ dT) (hd2 : dT ≤ (d + 1) * 10 ^ j) : Near (dX dT pT) (dQ pT) r := by
  subst hp
  exact near_between (near_down d j r pT h1) (near_down (d + 1) j r pT h2) (dX_mono pT hd1) (dX_mono pT hd2)

set_option maxRecDepth 100000 in
set_option maxHeartbeats 8000000 in
theorem atof_trunc (s : ByteArray) (d j K : Nat) (p dpS pT : Int) (l : List UInt8) (w : World) (hG : Glob w) (hT : GlobT K w) (hC : GlobC K w) (h0 : 0 < s.size) (hs : s.size ≤ 700) (hb : s[0].toNat = 46 ∨ (48 ≤ s[0].toNat ∧ s[0].toNat ≤ 57)) (hd : d < 10 ^ 19) (hd1 : 1 ≤ d)
    (hg : Dg l) (hj1 : d * 10 ^ j ≤ dvl 10 l) (hj2 : dvl 10 l ≤ (d + 1) * 10 ^ j) (hpj : p = pT + j) (hpS : pT = dpS - l.length) (hp19 : p = dpS - 19) (hlim : -1000000 ≤ dpS ∧ dpS ≤ 1000000)
    (hrf : Calls Tryz.prog 142 #[.string s] w fun e w' => e = .returned (.tuple #[.int .u64 d, .int .i64 p, .bool false, .bool true, .bool false, .int .i64 s.size, .bool true]) ∧ w' = w)
    (hset : ∀ (b : Nat) (W : World), DecAt W b (List.replicate 800 0) 0 0 false false → Calls Tryz.prog 148 #[.pointer (some ⟨b, 0, Option.none⟩), .string s] W (SetPost b l dpS W)) :
    Calls Tryz.prog 117 #[.string s] w (AfPost (dvl 10 l) pT s.size w) := by
  have hopt := hG.opt
  have HSP := Lib.hid (special_no s w h0 (by omega) hb)
  have HRF := Lib.hid hrf
  have HSET := Lib.hid hset
  have HBU : Hid (∀ W : World, Calls Tryz.prog 150 #[.bool false] W fun e w' => e = .returned (.int .u64 0) ∧ W = w') := Lib.hid (fun W => b2u_any false W)
  have hor := bits_or_zero
  have hor2 := bits_or_inf
  have hfb : ∀ W : World, (callFunc 151 #[.int .u64 0]).run Tryz.prog W = .ok (.value (.float .f64 0)) W := run_sfrom 0
  have hfi : ∀ W : World, (callFunc 151 #[.int .u64 9218868437227405312]).run Tryz.prog W = .ok (.value (.float .f64 9218868437227405312)) W := run_sfrom 9218868437227405312
  have hdz : ((d : Int) == 0) = false := by rw [beq_eq_false_iff_ne]; omega
  have hdz2 : (d == 0) = false := by rw [beq_eq_false_iff_ne]; omega
  have hdz3 : ¬ d = 0 := by omega
  have hsl : s.size ≤ s.size := Nat.le_refl _
  clear hrf hb h0 hset
  by_cases hp1 : 310 < p
  · have HN := Lib.hid (far_inf2 hg dpS pT hpS (by omega))
    clear hdz3 hj1 hj2 hpj hpS hp19 hd hd1
    go_enter Tryz.func117, Tryz.ntmps117
    go_wp2_with fail
    refine HSP.out.mono ?_
    rintro e w ⟨rfl, rfl⟩
    go_wp2_with fail
    refine HRF.out.mono ?_
    rintro e w ⟨rfl, rfl⟩
    go_wp2_with fail
    refine (HBU.out _).mono ?_
    rintro e w' ⟨rfl, rfl⟩
    go_wp2_with fail
    refine bodyPost_ret (v := .tuple #[.float .f64 9218868437227405312, .int .i64 s.size, .iface 111 (.int .i64 1)]) (by simp [results, Tryz.results117, go_sem]) rfl ⟨INF, HN.out, rfl, Below.refl _ _⟩
  · by_cases hp2 : p < -345
    · have HN := Lib.hid (far_zero (dvl 10 l) l.length pT hg.hi (by omega))
      clear hdz3 hj1 hj2 hpj hpS hp19 hd hd1
      go_enter Tryz.func117, Tryz.ntmps117
      go_wp2_with fail
      refine HSP.out.mono ?_
      rintro e w ⟨rfl, rfl⟩
      go_wp2_with fail
      refine HRF.out.mono ?_
      rintro e w ⟨rfl, rfl⟩
      go_wp2_with fail
      refine (HBU.out _).mono ?_
      rintro e w' ⟨rfl, rfl⟩
      go_wp2_with fail
      refine bodyPost_ret (v := .tuple #[.float .f64 0, .int .i64 s.size, .nilIface]) (by simp [results, Tryz.results117, go_sem]) rfl ⟨0, HN.out, rfl, Below.refl _ _⟩
    · have hpa : -345 ≤ p := by omega
      have hpb : p ≤ 310 := by omega
      have hd19 : d < 10000000000000000000 := hd
      have HPF := Lib.hid (pf64_any d p w hG (by omega) (by omega) (by omega) (by omega))
      have HPF2 := Lib.hid (fun (W : World) (h : Glob W) => pf64_any (d + 1) p W h (by omega) (by omega) (by omega) (by omega))
      have hadd : IntKind.u64.wrap ((d : Int) + 1) = ((d + 1 : Nat) : Int) := by rw [IntKind.wrap_u64]; omega
      have HSQ := Lib.hid (fun (r : Nat) (h1 : Near (dX d p) (dQ p) r) (h2 : Near (dX (d + 1) p) (dQ p) r) => near_squeeze h1 h2 hpj hj1 hj2)
      have HFB := Lib.hid (fun (b : Nat) (W : World) (h : DecL W b l dpS false) (hC : GlobC K W) (hKb : K ≤ b) hI => fbits_any b K l dpS pT W h hg hC hKb hpS hI hlim.1 hlim.2)
      have HGL := Lib.hid hG
      have HTT := Lib.hid hT
      have HCC := Lib.hid hC
      clear hd hdz3 hp1 hp2 hj1 hj2 hpj hpS hp19 hd1 hg hlim hG hT hC
      go_enter Tryz.func117, Tryz.ntmps117
      go_wp2_with fail
      refine HSP.out.mono ?_
      rintro e w ⟨rfl, rfl⟩
      go_wp2_with fail
      refine HRF.out.mono ?_
      rintro e w ⟨rfl, rfl⟩
      go_wp2_with fail
      refine (HBU.out _).mono ?_
      rintro e w' ⟨rfl, rfl⟩
      go_wp2_with fail
      refine HPF.out.mono ?_
      rintro e w2 ⟨r1, hn1, rfl, hb1⟩
      have HN1 := Lib.hid hn1
      have HB1 := Lib.hid hb1
      clear hn1 hb1
      go_wp2_with fail
      refine (HPF2.out _ (HGL.out.below HGL.out.lt HB1.out)).mono ?_
      rintro e w3 ⟨r2, hn2, rfl, hb2⟩
      have hr1 := HN1.out.inf
      have hr2 := hn2.inf
      have hoe := ord_eq r1 r2 hr1 hr2
      have HN2 := Lib.hid hn2
      have HB2 : Hid (Below w.heap.size w w3) := Lib.hid (HB1.out.trans (hb2.mono HB1.out.size))
      clear hn2 hb2
      by_cases hr : r1 = r2
      · subst hr
        rw [decide_eq_true rfl] at hoe
        go_wp2_with fail
        refine bodyPost_ret (v := .tuple #[.float .f64 r1, .int .i64 s.size, errV r1]) (by simp [results, Tryz.results117, go_sem]) rfl ⟨r1, HSQ.out r1 HN1.out HN2.out, rfl, HB2.out⟩
      · rw [decide_eq_false hr] at hoe
        have hK17 := HTT.out.lt
        have hKw := HTT.out.le
        have hbs := HB2.out.size
        go_wp2_with fail
        have hal : Below w.heap.size w (w3.alloc (.cells Tryz.zeroCells153 153)) := HB2.out.alloc hbs _
        have hda : DecAt (w3.alloc (.cells Tryz.zeroCells153 153)) w3.heap.size (List.replicate 800 0) 0 0 false false := ⟨by simp, by rw [heap_alloc_new, zero_dec]⟩
        have HAL := Lib.hid hal
        have hsa : (w3.alloc (.cells Tryz.zeroCells153 153)).heap.size = w3.heap.size + 1 := by simp
        refine (HSET.out _ _ hda).mono ?_
        rintro e w4 ⟨rfl, hdec, hb4⟩
        have hb4' : Below w.heap.size w w4 := HAL.out.trans (hb4.mono hbs)
        have HB4 := Lib.hid hb4'
        have HDEC := Lib.hid hdec
        clear hal hda hdec hb4 hb4' hoe HN2
        go_wp2_with fail
        refine (HFB.out _ w4 HDEC.out (HCC.out.below hKw HB4.out) (Nat.le_trans hKw hbs) (HTT.out.below hKw HB4.out).inf).mono ?_
        rintro e w5 ⟨r, hn, rfl, hb5⟩
        have HN := Lib.hid hn
        have HB5 : Hid (Below w.heap.size w w5) := Lib.hid (HB4.out.trans (hb5.mono hbs))
        have hsf : ∀ W : World, (callFunc 151 #[.int .u64 r]).run Tryz.prog W = .ok (.value (.float .f64 r)) W := run_sfrom r
        clear hn hb5
        by_cases hri : r = INF
        · have he : errV r = .iface 111 (.int .i64 1) := if_pos hri
          have HE := Lib.hid he
          have hde : decide (r = INF) = true := decide_eq_true hri
          clear he hri
          go_wp2_with fail
          refine bodyPost_ret (v := .tuple #[.float .f64 r, .int .i64 s.size, .iface 111 (.int .i64 1)]) (by simp [results, Tryz.results117, go_sem]) rfl ⟨r, HN.out, by rw [HE.out], HB5.out⟩
        · have he : errV r = .nilIface := if_neg hri
          have HE := Lib.hid he
          have hde : decide (r = INF) = false := decide_eq_false hri
          clear he hri
          go_wp2_with fail
          refine bodyPost_ret (v := .tuple #[.float .f64 r, .int .i64 s.size, .nilIface]) (by simp [results, Tryz.results117, go_sem]) rfl ⟨r, HN.out, by rw [HE.out], HB5.out⟩
end Go.Proofs.YtmhagigokgklaaaGreatDoor

/- num.Parse of every decimal text. -/
namespace Go.Proofs.YtmhagigokgklaaaGreatDoor
open Go Go.RowKit Go.Sort Go.Lib

theorem drop_head : ∀ l : List UInt8, dropZ l = [] ∨ ∃ c t, dropZ l = c :: t ∧ c ≠ 48
  | [] => .inl rfl
  | c :: t => by
    unfold dropZ
    rw [List.dropWhile_cons]
    by_cases h : c = 48
    · rw [if_pos (by simpa using h)]
      exact drop_head t
    · rw [if_neg (by simpa using h)]
      exact .inr ⟨c, t, rfl, h⟩

/-- what the first 19 digits are of all -/
theorem cut19 (l : List UInt8) (hg : Dg l) (h : 19 ≤ l.length) : dvl 10 (l.take 19) * 10 ^ (l.length - 19) ≤ dvl 10 l ∧ dvl 10 l ≤ (dvl 10 (l.take 19) + 1) * 10 ^ (l.length - 19) ∧ dvl 10 (l.take 19) < 10 ^ 19 ∧ 1 ≤ dvl 10 (l.take 19) := by
  have e : dvl 10 l = dvl 10 (l.take 19) * 10 ^ (l.length - 19) + dvl 10 (l.drop 19) := by
    conv => lhs; rw [← List.take_append_drop 19 l, dvl_app]
    rw [List.length_drop]
  have h1 : dvl 10 (l.drop 19) < 10 ^ (l.length - 19) := by
    have := dvl_lt 10 (by decide) (l.drop 19) fun x hx => okD_dv (by decide) (.inl (hg.dig x (List.mem_of_mem_drop hx)))
    rwa [List.length_drop] at this
  have h2 : dvl 10 (l.take 19) < 10 ^ 19 := by
    have := dvl_lt 10 (by decide) (l.take 19) fun x hx => okD_dv (by decide) (.inl (hg.dig x (List.mem_of_mem_take hx)))
    rwa [List.length_take, Nat.min_eq_left h] at this
  refine ⟨by omega, ?_, h2, ?_⟩
  · rw [Nat.succ_mul]; omega
  · obtain ⟨c, t, hl, hc⟩ := hg.hd
    rw [hl, show (19 : Nat) = 18 + 1 from rfl, List.take_succ_cons, dvl_head]
    have h3 := dig_ne (hg.dig c (by rw [hl]; simp)) hc
    have h4 : 0 < 10 ^ (t.take 18).length := Nat.pow_pos (by decide)
    have := Nat.mul_le_mul h3 (Nat.le_refl (10 ^ (t.take 18).length))
    omega

/-- what readFloat and set make of digits of which some are not held -/
theorem rf_trunc (M W F : List UInt8) (dot : Bool) (h : MantF M W F dot) (hnz : ¬ ∀ x ∈ (dropZ (W ++ F)).drop 19, x = 48) (_x : Int) :
    Dg (dropZ (W ++ F)) ∨ 800 < (dropZ (W ++ F)).length := by
  rcases drop_head (W ++ F) with h1 | ⟨c, t, h1, h2⟩
  · exfalso; apply hnz; rw [h1]; simp
  · by_cases h8 : (dropZ (W ++ F)).length ≤ 800
    · left
      refine ⟨fun y hy => ?_, ⟨c, t, h1, h2⟩, h8⟩
      have := (List.dropWhile_sublist _).subset hy
      exact (List.mem_append.1 this).elim (h.w y) (h.f y)
    · right; omega

theorem rf_trunc2 (M W F : List UInt8) (dot : Bool) (h : MantF M W F dot) (hnz : ¬ ∀ x ∈ (dropZ (W ++ F)).drop 19, x = 48) (hg : Dg (dropZ (W ++ F))) (x : Int) :
    19 ≤ (dropZ (W ++ F)).length ∧ (rfF 10 19 M).mant = dvl 10 ((dropZ (W ++ F)).take 19) ∧ (rfF 10 19 M).tr = true ∧ rfExp (rfF 10 19 M) x = x - F.length + ((dropZ (W ++ F)).length - 19 : Nat) ∧
    (if (rfF 10 800 M).dot then (rfF 10 800 M).dp else ((rfF 10 800 M).nd : Int)) = ((dropZ (W ++ F)).length : Int) - F.length := by
  obtain ⟨i, hd, he, _, _⟩ := rf_mant 10 19 M W F dot h.eq (fun x hx => dig_ne46 (h.w x hx)) (fun x hx => dig_ne46 (h.f x hx)) h.nodot
  obtain ⟨i2, hd2, he2, _, _⟩ := rf_mant 10 800 M W F dot h.eq (fun x hx => dig_ne46 (h.w x hx)) (fun x hx => dig_ne46 (h.f x hx)) h.nodot
  have h19 : 19 ≤ (dropZ (W ++ F)).length := by
    rcases Nat.lt_or_ge (dropZ (W ++ F)).length 19 with h1 | h1
    · exfalso; apply hnz; rw [List.drop_eq_nil_of_le (by omega)]; simp
    · exact h1
  obtain ⟨-, -, -, hpos⟩ := cut19 _ hg h19
  refine ⟨h19, i.mant, ?_, ?_, ?_⟩
  · rw [i.tr, List.any_eq_true]
    by_cases hex : ∃ x ∈ (dropZ (W ++ F)).drop 19, x ≠ 48
    · obtain ⟨y, hy, hy2⟩ := hex
      exact ⟨y, hy, by simpa using hy2⟩
    · exfalso
      apply hnz
      intro y hy
      by_cases h2 : y = 48
      · exact h2
      · exact absurd ⟨y, hy, h2⟩ hex
  · have h1 := i.nd
    have h2 := i.nm
    have h3 := i.mant
    unfold rfExp
    rw [if_neg (by omega)]
    omega
  · have h1 := i2.nd
    omega

theorem pfloat_any (l D : List UInt8) (p : Int) (K : Nat) (w : World) (hG : Globs w) (hT : GlobT K w) (hC : GlobC K w) (hl : l.length ≤ 700) (hi : DecIs l D p) :
    Calls Tryz.prog 23 #[.string ⟨(noBars l).toArray⟩, .int .i64 64] w (PlPost (dX (dvl 10 D) p) (dQ p) w) := by
  by_cases hz : ∀ x ∈ (dropZ D).drop 19, x = 48
  · exact pfloat_noughts l D p K w hG hT (by omega) hi hz
  · obtain ⟨W, F, dot, M, hM, hne, rfl, hx⟩ := hi
    have hnl := noBars_len l
    have hWF : (W ++ F).length ≤ M.length := by
      rw [hM.eq]; unfold mantT
      cases dot with
      | false => rw [hM.nodot rfl]; simp
      | true => simp
    have hFl : F.length ≤ (W ++ F).length := by rw [List.length_append]; omega
    have hdz : (dropZ (W ++ F)).length ≤ (W ++ F).length := (List.dropWhile_sublist _).length_le
    refine pfloat_of _ _ _ K w hT (by rw [ba_size]; omega) ?_
    rcases hx with ⟨h1, rfl⟩ | ⟨eb, sg, X, hp, hX, h1, rfl⟩
    · rw [h1] at hnl ⊢
      have hg : Dg (dropZ (W ++ F)) := (rf_trunc M W F dot hM hz 0).resolve_right (by omega)
      obtain ⟨e1, e2, e3, e4, e5⟩ := rf_trunc2 M W F dot hM hz hg 0
      obtain ⟨g1, g2, g3, g4⟩ := cut19 _ hg e1
      have hzz := ba_first M [] W F dot hM hne
      rw [List.append_nil] at hzz
      obtain ⟨h0, hb⟩ := hzz
      have hrf := rf_plain ⟨M.toArray⟩ w (by rw [ba_size]; omega) W F dot (by rw [ba_of]; exact hM) hne
      rw [ba_of, e2, e3, e4] at hrf
      have hset := fun (b : Nat) (V : World) (hV : DecAt V b (List.replicate 800 0) 0 0 false false) => set_plain b ⟨M.toArray⟩ V (by rw [ba_size]; omega) hV M W F dot hM hne (ba_of M)
      rw [e5] at hset
      have := atof_trunc ⟨M.toArray⟩ _ ((dropZ (W ++ F)).length - 19) K _ (((dropZ (W ++ F)).length : Int) - F.length) (-(F.length : Int)) _ w hG.glob hT hC h0 (by rw [ba_size]; omega) hb g3 g4 hg g1 g2 (by omega) (by omega) (by omega) ⟨by omega, by omega⟩ hrf hset
      rw [dvl_dropZ] at this
      exact this
    · rw [h1] at hnl ⊢
      rw [List.length_append] at hnl
      have hg : Dg (dropZ (W ++ F)) := (rf_trunc M W F dot hM hz 0).resolve_right (by omega)
      obtain ⟨e1, e2, e3, e4, e5⟩ := rf_trunc2 M W F dot hM hz hg ((exF X : Int) * sgZ sg)
      obtain ⟨g1, g2, g3, g4⟩ := cut19 _ hg e1
      obtain ⟨h0, hb⟩ := ba_first M (powT eb sg X) W F dot hM hne
      have hrf := rf_pow ⟨(M ++ powT eb sg X).toArray⟩ w (by rw [ba_size, List.length_append]; omega) M W F dot eb sg X hM hne hp hX (ba_of _)
      rw [e2, e3, e4] at hrf
      have hset := fun (b : Nat) (V : World) (hV : DecAt V b (List.replicate 800 0) 0 0 false false) => set_pow b ⟨(M ++ powT eb sg X).toArray⟩ V (by rw [ba_size, List.length_append]; omega) hV M W F dot eb sg X hM hne hp hX (ba_of _)
      rw [e5] at hset
      have hx5 : exF X < 100000 := ex_lt X hp.x
      have hxs : -100000 ≤ (exF X : Int) * sgZ sg ∧ (exF X : Int) * sgZ sg ≤ 100000 := by unfold sgZ; split <;> omega
      have := atof_trunc ⟨(M ++ powT eb sg X).toArray⟩ _ ((dropZ (W ++ F)).length - 19) K _ (((dropZ (W ++ F)).length : Int) - F.length + (exF X : Int) * sgZ sg) ((exF X : Int) * sgZ sg - F.length) _ w hG.glob hT hC h0 (by rw [ba_size, List.length_append]; omega) hb g3 g4 hg g1 g2 (by omega) (by omega) (by omega) ⟨by omega, by omega⟩ hrf hset
      rw [dvl_dropZ] at this
      exact this

set_option maxRecDepth 100000 in
set_option maxHeartbeats 4000000 in
theorem parse_decC (s : ByteArray) (neg : Bool) (l : List UInt8) (X Q K : Nat) (w : World) (hG : Globs w) (hT : GlobT K w) (hC : GlobC K w) (hs : s.data.toList = sgB neg ++ l) (hlen : s.size ≤ 400) (hd : decB l = true)
    (hpf : ∀ W : World, Globs W → GlobT K W → GlobC K W → Calls Tryz.prog 23 #[.string ⟨(noBars l).toArray⟩, .int .i64 64] W (PlPost X Q W)) :
    Calls Tryz.prog 11 #[.string s] w (PaPost X Q neg w) := by
  obtain ⟨x0, tl, hl0, hx0⟩ := dec_head1 l hd
  have hll : l.length ≤ 400 := by
    have : s.size = s.data.toList.length := by simp
    rw [hs, List.length_append] at this
    omega
  have hcl := dec_class l (dec_st l hd)
  have HCP := Lib.hid (cutp_run s neg l w hs (fun _ => by rw [hl0]; simpa using hx0))
  have HDE : Hid (∀ W : World, Calls Tryz.prog 24 #[.string ⟨l.toArray⟩] W fun e w' => e = .returned (.bool true) ∧ Below W.heap.size W w') := Lib.hid fun W => by
    have := decimal_any ⟨l.toArray⟩ W (by rw [ba_size]; omega)
    rw [show (⟨l.toArray⟩ : ByteArray).data.toList = l from rfl, hd] at this
    exact this
  have HRE := Lib.hid (fun (W : World) (h : Globs W) => rep_run l W h (by omega))
  have HPF := Lib.hid hpf
  have h400 : decide ((400 : Int) < (s.size : Int)) = false := by rw [decide_eq_false_iff_not]; omega
  have hnan0 : (l == [78, 97, 78]) = false := by
    rw [beq_eq_false_iff_ne]
    rintro rfl
    exact absurd (hcl 78 (by simp)) (by decide)
  have hinf0 : (l == [73, 110, 102, 105, 110, 105, 116, 121]) = false := by
    rw [beq_eq_false_iff_ne]
    rintro rfl
    exact absurd (hcl 73 (by simp)) (by decide)
  obtain ⟨T, hT0⟩ : ∃ T : ByteArray, T = ⟨l.toArray⟩ := ⟨_, rfl⟩
  have htsz : T.size = l.length := by rw [hT0]; rfl
  have hnan : (T.toList == [78, 97, 78]) = false := by rw [ByteArray.toList_eq, hT0]; exact hnan0
  have hinf : (T.toList == [73, 110, 102, 105, 110, 105, 116, 121]) = false := by rw [ByteArray.toList_eq, hT0]; exact hinf0
  have HIX : Hid (∀ (h : 1 < T.size) (W : World), Calls Tryz.prog 21 #[.string ⟨#[120, 111, 98]⟩, .int .u8 (bits .or .u8 ((T[1].toNat : Nat) : Int) 32)] W fun e w' => e = .returned (.int .i64 (-1)) ∧ w' = W) := Lib.hid fun h W => by
    have hc := cls_low T[1].toNat T[1].toNat_lt (hcl _ (by subst hT0; exact List.getElem_mem (l := l) (n := 1) (by rw [ba_size] at h; exact h)))
    have := Tryz.strings_IndexByte ⟨#[120, 111, 98]⟩ (bits .or .u8 ((T[1].toNat : Nat) : Int) 32) W
    rw [show (⟨#[120, 111, 98]⟩ : ByteArray).data.toList = [120, 111, 98] from rfl] at this
    rw [show indexByte [120, 111, 98] (bits .or .u8 ((T[1].toNat : Nat) : Int) 32).toNat.toUInt8 = -1 from hc] at this
    exact this
  rw [← hT0] at HCP HDE HRE
  have hGS := Lib.hid hG
  have hTS := Lib.hid hT
  have hCS0 := Lib.hid hC
  have hcases : T.size ≤ 2 ∨ (∃ h : 2 < T.size, (((T[0]'(Nat.lt_trans (by decide) h)).toNat : Int) == 48) = false) ∨ (∃ h : 2 < T.size, (((T[0]'(Nat.lt_trans (by decide) h)).toNat : Int) == 48) = true) := by
    by_cases h : 2 < T.size
    · right
      cases h2 : (((T[0]'(Nat.lt_trans (by decide) h)).toNat : Int) == 48)
      · exact .inl ⟨h, h2⟩
      · exact .inr ⟨h, h2⟩
    · left; omega
  clear hG hT hC hpf hs hd hcl hl0 hT0 hll hnan0 hinf0
  rcases hcases with h2 | ⟨h2, t48⟩ | ⟨h2, t48⟩
  all_goals
    have HLN := Lib.hid htsz
    clear htsz
    go_enter Tryz.func11, Tryz.ntmps11
    go_wp2_with fail
    refine HCP.out.mono ?_
    rintro e w ⟨rfl, rfl⟩
    go_wp2_with (go_at_call 21; refine (HIX.out (by omega) _).mono ?_; rintro e w ⟨rfl, rfl⟩)
    refine (HDE.out _).mono ?_
    rintro e w1 ⟨rfl, hb1⟩
    have HB1 := Lib.hid hb1
    clear hb1
    go_wp2_with fail
    refine (HRE.out _ (hGS.out.on HB1.out)).mono ?_
    rintro e w2 ⟨rfl, hb2⟩
    have HB2 : Hid (Below w.heap.size w w2) := Lib.hid (HB1.out.trans (hb2.mono HB1.out.size))
    clear hb2
    go_wp2_with fail
    refine (HPF.out _ (hGS.out.on HB2.out) (hTS.out.on HB2.out) (hCS0.out.below hCS0.out.le HB2.out)).mono ?_
    rintro e w3 ⟨r, ev, hn, rfl, hb3⟩
    have HB3 : Hid (Below w.heap.size w w3) := Lib.hid (HB2.out.trans (hb3.mono HB2.out.size))
    have HN := Lib.hid hn
    have HCS := Lib.hid (fun (W : World) => run_copysign r W (near_lt63 hn))
    have hmb : ∀ W : World, (callFunc 27 #[.float .f64 r]).run Tryz.prog W = .ok (.value (.int .u64 r)) W := run_mbits r
    have hmb2 : ∀ W : World, (callFunc 27 #[.float .f64 (r + 9223372036854775808 : Nat)]).run Tryz.prog W = .ok (.value (.int .u64 (r + 9223372036854775808 : Nat))) W := run_mbits (r + 9223372036854775808)
    clear hb3 hn
    obtain ⟨R2, hR2⟩ : ∃ R2 : Nat, R2 = r + 9223372036854775808 := ⟨_, rfl⟩
    rw [← hR2] at HCS hmb2
    have HR2 := Lib.hid hR2
    clear hR2
    cases neg
    · go_wp2_with fail
      refine bodyPost_ret (v := .tuple #[.int .u64 r, .int .i64 0]) (by simp [results, Tryz.results11, go_sem]) rfl ⟨r, HN.out, rfl, HB3.out⟩
    · go_wp2_with fail
      refine (HCS.out _).mono ?_
      rintro e w4 ⟨rfl, hw4⟩
      subst hw4
      go_wp2_with fail
      refine bodyPost_ret (v := .tuple #[.int .u64 R2, .int .i64 0]) (by simp [results, Tryz.results11, go_sem]) rfl ⟨r, HN.out, by rw [HR2.out]; rfl, HB3.out⟩

theorem parse_anyC (s : ByteArray) (neg : Bool) (l D : List UInt8) (p : Int) (K : Nat) (w : World) (hG : Globs w) (hT : GlobT K w) (hC : GlobC K w) (hs : s.data.toList = sgB neg ++ l) (hlen : s.size ≤ 400) (hd : decB l = true) (hi : DecIs l D p) :
    Calls Tryz.prog 11 #[.string s] w (PaPost (dX (dvl 10 D) p) (dQ p) neg w) := by
  have hll : l.length ≤ 400 := by
    have : s.size = s.data.toList.length := by simp
    rw [hs, List.length_append] at this
    omega
  exact parse_decC s neg l _ _ K w hG hT hC hs hlen hd fun W hg ht hc => pfloat_any l D p K W hg ht hc (by omega) hi
end Go.Proofs.YtmhagigokgklaaaGreatDoor

/- NumParses, walked: it returns true. -/
namespace Go.Proofs.YtmhagigokgklaaaGreatDoor
open Go Go.RowKit Go.Sort Go.Lib
set_option exponentiation.threshold 3000

/-- what num.Parse gives of a text without its sign -/
def NpRes (l : List UInt8) (neg : Bool) (w : World) (e : Ending) (w' : World) : Prop :=
  if l = [73, 110, 102, 105, 110, 105, 116, 121] then e = .returned (.tuple #[.int .u64 (9218868437227405312 + sgW neg : Nat), .int .i64 0]) ∧ Below w.heap.size w w'
  else if l = [78, 97, 78] then e = .returned (.tuple #[.int .u64 9221120237041090560, .int .i64 0]) ∧ Below w.heap.size w w'
  else if hexB l = true then ∃ x rest, l = 48 :: x :: rest ∧ HbPost (bsI x) rest neg w e w'
  else (decB l = false → e = .returned (.tuple #[.int .u64 0, .int .i64 150]) ∧ Below w.heap.size w w') ∧
    (decB l = true → ∃ W F P, fracF l = some (W, F, P, []) ∧ PaPost (dX (dvl 10 (W ++ F)) (powV P - F.length)) (dQ (powV P - F.length)) neg w e w')

theorem base_is (x : UInt8) (h : isBase x = true) : (bits .or .u8 ((x.toNat : Nat) : Int) 32 = 120 ∧ bsI x = 16) ∨ (bits .or .u8 ((x.toNat : Nat) : Int) 32 = 111 ∧ bsI x = 8) ∨ (bits .or .u8 ((x.toNat : Nat) : Int) 32 = 98 ∧ bsI x = 2) := by
  have key : ∀ k : Fin 256, isBase (UInt8.ofNat k.val) = true → (bits .or .u8 (((UInt8.ofNat k.val).toNat : Nat) : Int) 32 = 120 ∧ bsI (UInt8.ofNat k.val) = 16) ∨ (bits .or .u8 (((UInt8.ofNat k.val).toNat : Nat) : Int) 32 = 111 ∧ bsI (UInt8.ofNat k.val) = 8) ∨ (bits .or .u8 (((UInt8.ofNat k.val).toNat : Nat) : Int) 32 = 98 ∧ bsI (UInt8.ofNat k.val) = 2) := by decide +kernel
  have := key ⟨x.toNat, x.toNat_lt⟩
  simp only [UInt8.ofNat_toNat] at this
  exact this h

theorem hexB_form (l : List UInt8) (h : hexB l = true) : ∃ x rest, l = 48 :: x :: rest ∧ rest ≠ [] ∧ isBase x = true := by
  match l, h with
  | a :: x :: y :: t, h =>
    simp only [hexB, Bool.and_eq_true, beq_iff_eq] at h
    exact ⟨x, y :: t, by rw [h.1], by simp, h.2⟩

theorem nparse_any (s : ByteArray) (neg : Bool) (l : List UInt8) (K : Nat) (w : World) (hG : Globs w) (hT : GlobT K w) (hC : GlobC K w) (hs : s.data.toList = sgB neg ++ l) (hl : neg = false → l.head? ≠ some 45) (hlen : s.size ≤ 400) :
    Calls Tryz.prog 11 #[.string s] w (NpRes l neg w) := by
  by_cases h1 : l = [73, 110, 102, 105, 110, 105, 116, 121]
  · subst h1
    refine (parse_inf s neg w hs).mono fun e w' h => ?_
    rw [NpRes, if_pos rfl]
    exact h
  · by_cases h2 : l = [78, 97, 78]
    · subst h2
      refine (parse_nan s neg w hs).mono fun e w' h => ?_
      rw [NpRes, if_neg h1, if_pos rfl]
      exact h
    · cases hx : hexB l
      · cases hd : decB l
        · refine (parse_refused s neg l w hs hl hlen h2 h1 hx hd).mono fun e w' h => ?_
          rw [NpRes, if_neg h1, if_neg h2, hx, if_neg (by decide)]
          exact ⟨fun _ => h, fun h3 => by rw [hd] at h3; cases h3⟩
        · obtain ⟨W, F, P, g1, g2⟩ := (frac_law l).1 hd
          refine (parse_anyC s neg l _ _ K w hG hT hC hs hlen hd g2).mono fun e w' h => ?_
          rw [NpRes, if_neg h1, if_neg h2, hx, if_neg (by decide)]
          exact ⟨fun h3 => by rw [hd] at h3; (cases h3), fun _ => ⟨W, F, P, g1, h⟩⟩
      · obtain ⟨x, rest, rfl, hne, hb⟩ := hexB_form l hx
        have hp : Calls Tryz.prog 11 #[.string s] w (HbPost (bsI x) rest neg w) := by
          rcases base_is x hb with ⟨g1, g2⟩ | ⟨g1, g2⟩ | ⟨g1, g2⟩
          · rw [g2]; exact parse_hex s neg x rest 120 16 4 K w hG hT hs hne hlen g1 (.inl ⟨rfl, rfl, rfl⟩)
          · rw [g2]; exact parse_hex s neg x rest 111 8 3 K w hG hT hs hne hlen g1 (.inr (.inl ⟨rfl, rfl, rfl⟩))
          · rw [g2]; exact parse_hex s neg x rest 98 2 1 K w hG hT hs hne hlen g1 (.inr (.inr ⟨rfl, rfl, rfl⟩))
        refine hp.mono fun e w' h => ?_
        rw [NpRes, if_neg h1, if_neg h2, hx, if_pos rfl]
        exact ⟨x, rest, rfl, h⟩

/-- powers that are told no farther than they matter -/
theorem clip_same (D : List UInt8) (n k : Nat) (P : Option (UInt8 × List UInt8 × List UInt8)) (r1 r2 : Nat) (hD : ∀ x ∈ D, isDig x) (hn : n ≤ 400) (hD4 : D.length ≤ 400) (hk : k ≤ 400)
    (h1 : Near (dX (dvl 10 D) (powV P - k)) (dQ (powV P - k)) r1) (h2 : Near (dX (dvl 10 D) (clipV (2000 + n) P - k)) (dQ (clipV (2000 + n) P - k)) r2) : r1 = r2 := by
  rcases P with _ | ⟨eb, sg, X⟩
  · rw [show clipV (2000 + n) none = powV none from rfl] at h2
    exact near_unique h1 h2
  · rw [show powV (some (eb, sg, X)) = (exF X : Int) * sgZ sg from rfl] at h1
    rw [show clipV (2000 + n) (some (eb, sg, X)) = (clipX (2000 + n) X : Int) * sgZ sg from rfl] at h2
    rcases clip_ex (2000 + n) (by omega) X with ⟨g1, g2⟩ | ⟨g1, g2⟩
    · rw [g1] at h2; exact near_unique h1 h2
    · rw [g1] at h2
      by_cases h0 : dvl 10 D = 0
      · rw [h0] at h1 h2
        exact (near_unique h1 (zero_near _)).trans (near_unique h2 (zero_near _)).symm
      · have hlt : dvl 10 D < 10 ^ D.length := dvl_lt 10 (by decide) D fun x hx => okD_dv (by decide) (.inl (hD x hx))
        rcases (show sgZ sg = 1 ∨ sgZ sg = -1 by unfold sgZ; split <;> simp) with hz | hz
        · rw [hz] at h1 h2
          exact (near_unique h1 (far_inf _ _ (by omega) (by omega))).trans (near_unique h2 (far_inf _ _ (by omega) (by omega))).symm
        · rw [hz] at h1 h2
          exact (near_unique h1 (far_zero _ D.length _ hlt (by omega))).trans (near_unique h2 (far_zero _ D.length _ hlt (by omega))).symm

theorem dec_len {l D : List UInt8} {p : Int} (h : DecIs l D p) : (∀ x ∈ D, isDig x) ∧ D.length ≤ l.length := by
  obtain ⟨W, F, dot, M, hM, hne, rfl, hx⟩ := h
  have hWF : (W ++ F).length ≤ M.length := by
    rw [hM.eq]; unfold mantT
    cases dot with
    | false => rw [hM.nodot rfl]; simp
    | true => simp
  have hnl := noBars_len l
  refine ⟨fun x hx => (List.mem_append.1 hx).elim (hM.w x) (hM.f x), ?_⟩
  rcases hx with ⟨h1, _⟩ | ⟨eb, sg, X, _, _, h1, _⟩
  · rw [h1] at hnl; omega
  · rw [h1, List.length_append] at hnl; omega

/-- both give the same -/
theorem res_same {l : List UInt8} {neg : Bool} {w1 w2 w1' w2' : World} {e1 e2 : Ending} (hl : l.length ≤ 400) (h1 : NpRes l neg w1 e1 w1') (h2 : RpRes l neg w2 e2 w2') :
    ∃ n c : Nat, e1 = .returned (.tuple #[.int .u64 n, .int .i64 c]) ∧ e2 = .returned (.tuple #[.int .u64 n, .int .i64 c]) ∧ Below w1.heap.size w1 w1' ∧ Below w2.heap.size w2 w2' := by
  unfold NpRes at h1
  unfold RpRes at h2
  by_cases g1 : l = [73, 110, 102, 105, 110, 105, 116, 121]
  · rw [if_pos g1] at h1 h2
    exact ⟨_, 0, h1.1, h2.1, h1.2, h2.2⟩
  · rw [if_neg g1] at h1 h2
    by_cases g2 : l = [78, 97, 78]
    · rw [if_pos g2] at h1 h2
      exact ⟨9221120237041090560, 0, h1.1, h2.1, h1.2, h2.2⟩
    · rw [if_neg g2] at h1 h2
      cases g3 : hexB l
      · rw [g3, if_neg (by decide)] at h1 h2
        cases g4 : decB l
        · obtain ⟨a1, a2⟩ := h1.1 g4
          obtain ⟨b1, b2⟩ := h2.1 g4
          exact ⟨0, 150, a1, b1, a2, b2⟩
        · obtain ⟨W, F, P, f1, r1, n1, e1, b1⟩ := h1.2 g4
          obtain ⟨W', F', P', n, hn, f2, hd, r2, n2, e2, b2⟩ := h2.2 g4
          rw [f1] at f2
          simp only [Option.some.injEq, Prod.mk.injEq] at f2
          obtain ⟨rfl, rfl, rfl, -⟩ := f2
          obtain ⟨d1, d2⟩ := dec_len hd
          have hF : F.length ≤ (W ++ F).length := by rw [List.length_append]; omega
          have := clip_same (W ++ F) n F.length P r1 r2 d1 hn (by omega) (by omega) n1 n2
          subst this
          exact ⟨_, 0, e1, e2, b1, b2⟩
      · rw [g3, if_pos rfl] at h1 h2
        obtain ⟨x, rest, hx, k1⟩ := h1
        obtain ⟨x', rest', hx', k2⟩ := h2
        rw [hx] at hx'
        simp only [List.cons.injEq, true_and] at hx'
        obtain ⟨rfl, rfl⟩ := hx'
        rcases k1 with ⟨o1, r1, n1, e1, b1⟩ | ⟨o1, e1, b1⟩ <;> rcases k2 with ⟨o2, r2, n2, e2, b2⟩ | ⟨o2, e2, b2⟩
        · obtain rfl := near_unique n1 n2
          exact ⟨_, 0, e1, e2, b1, b2⟩
        · exact absurd o1 o2
        · exact absurd o2 o1
        · exact ⟨0, 150, e1, e2, b1, b2⟩

theorem np_form {l : List UInt8} {neg : Bool} {w w' : World} {e : Ending} (h : NpRes l neg w e w') : ∃ n c : Nat, e = .returned (.tuple #[.int .u64 n, .int .i64 c]) ∧ Below w.heap.size w w' := by
  unfold NpRes at h
  split at h
  · exact ⟨_, 0, h.1, h.2⟩
  · split at h
    · exact ⟨9221120237041090560, 0, h.1, h.2⟩
    · split at h
      · obtain ⟨x, rest, -, ⟨-, r, -, e1, b1⟩ | ⟨-, e1, b1⟩⟩ := h
        · exact ⟨_, 0, e1, b1⟩
        · exact ⟨0, 150, e1, b1⟩
      · cases g4 : decB l
        · obtain ⟨a1, a2⟩ := h.1 g4
          exact ⟨0, 150, a1, a2⟩
        · obtain ⟨W, F, P, f1, r1, n1, e1, b1⟩ := h.2 g4
          exact ⟨_, 0, e1, b1⟩

/-- a text and its sign -/
theorem sign_form (s : ByteArray) : ∃ (neg : Bool) (l : List UInt8), s.data.toList = sgB neg ++ l ∧ (neg = false → l.head? ≠ some 45) ∧ l.length ≤ s.size := by
  have hz : s.size = s.data.toList.length := by simp
  rw [hz]
  rcases hc : s.data.toList with _ | ⟨c, t⟩
  · exact ⟨false, [], rfl, fun _ => by simp, Nat.le_refl _⟩
  · by_cases h : c = 45
    · subst h
      exact ⟨true, t, rfl, fun h => (by cases h), by simp⟩
    · exact ⟨false, c :: t, rfl, fun _ => by simpa using h, Nat.le_refl _⟩

set_option maxRecDepth 100000 in
set_option maxHeartbeats 4000000 in
theorem parse_huge (s : ByteArray) (w : World) (h : 400 < s.size) (_hs : s.size ≤ 9223372036854775807) :
    Calls Tryz.prog 11 #[.string s] w (NoPost w) := by
  have HCP := Lib.hid (Tryz.strings_CutPrefix s ⟨#[45]⟩ w)
  have h400 : (400 : Int) < (s.size : Int) := by omega
  go_enter Tryz.func11, Tryz.ntmps11
  go_wp2_with fail
  refine HCP.out.mono ?_
  rintro e w ⟨rfl, rfl⟩
  go_wp2_with fail
  refine bodyPost_ret (v := .tuple #[.int .u64 0, .int .i64 150]) (by simp [results, Tryz.results11, go_sem]) rfl ⟨rfl, Below.refl _ _⟩

set_option maxRecDepth 100000 in
set_option maxHeartbeats 4000000 in
theorem rparse_long (s : ByteArray) (w : World) (h : 400 < s.size) (_hs : s.size ≤ 9223372036854775807) :
    Calls Tryz.prog 12 #[.string s] w (NoPost w) := by
  have h400 : (400 : Int) < (s.size : Int) := by omega
  go_enter Tryz.func12, Tryz.ntmps12
  go_wp2_with fail
  refine bodyPost_ret (v := .tuple #[.int .u64 0, .int .i64 150]) (by simp [results, Tryz.results12, go_sem]) rfl ⟨rfl, Below.refl _ _⟩

set_option maxRecDepth 100000 in
set_option maxHeartbeats 4000000 in
theorem parses_walk (s : ByteArray) (K : Nat) (w : World) (hG : Globs w) (hT : GlobT K w) (hC : GlobC K w) (hs : s.size ≤ 9223372036854775807) :
    Calls Tryz.prog 3 #[.string s] w fun e w' => e = .returned (.bool true) ∧ Below w.heap.size w w' := by
  have HW := Lib.hid (works_any K w hG hT)
  have HGS := Lib.hid hG
  have HTT := Lib.hid hT
  have HCC := Lib.hid hC
  have hKw := hC.le
  by_cases h4 : s.size ≤ 400
  · obtain ⟨neg, l, hsl, hl, hll⟩ := sign_form s
    have HP : Hid (∀ W : World, Globs W → GlobT K W → GlobC K W → Calls Tryz.prog 11 #[.string s] W (NpRes l neg W)) := Lib.hid fun W a b c => nparse_any s neg l K W a b c hsl hl h4
    have HR : Hid (∀ W : World, Calls Tryz.prog 12 #[.string s] W (RpRes l neg W)) := Lib.hid fun W => rparse_any s neg l W hsl hl h4
    have HLL := Lib.hid (Nat.le_trans hll h4)
    clear hG hT hC hsl hl hll
    go_enter Tryz.func3, Tryz.ntmps3
    go_wp2_with fail
    refine HW.out.mono ?_
    rintro e w1 ⟨rfl, hb1⟩
    have B1 := Lib.hid hb1
    clear hb1
    go_wp2_with fail
    refine (HP.out _ (HGS.out.on B1.out) (HTT.out.on B1.out) (HCC.out.below hKw B1.out)).mono ?_
    rintro e w2 hnp
    obtain ⟨n, c, rfl, hb2⟩ := np_form hnp
    have HNP := Lib.hid hnp
    have B2 := Lib.hid (B1.out.trans (hb2.mono B1.out.size))
    clear hb2 hnp
    go_wp2_with fail
    refine (HR.out _).mono ?_
    rintro e w3 hrp
    obtain ⟨n', c', q1, rfl, -, hb3⟩ := res_same HLL.out HNP.out hrp
    simp only [Ending.returned.injEq, Value.tuple.injEq, Array.mk.injEq, List.cons.injEq, Value.int.injEq, true_and, and_true, Int.natCast_inj] at q1
    obtain ⟨rfl, rfl⟩ := q1
    have B3 := Lib.hid (B2.out.trans (hb3.mono B2.out.size))
    clear hb3 hrp HNP
    go_wp2_with fail
    go_ret
    exact ⟨by simp, B3.out⟩
  · have HP : Hid (∀ W : World, Calls Tryz.prog 11 #[.string s] W (NoPost W)) := Lib.hid fun W => parse_huge s W (by omega) hs
    have HR : Hid (∀ W : World, Calls Tryz.prog 12 #[.string s] W (NoPost W)) := Lib.hid fun W => rparse_long s W (by omega) hs
    clear hG hT hC
    go_enter Tryz.func3, Tryz.ntmps3
    go_wp2_with fail
    refine HW.out.mono ?_
    rintro e w1 ⟨rfl, hb1⟩
    have B1 := Lib.hid hb1
    clear hb1
    go_wp2_with fail
    refine (HP.out _).mono ?_
    rintro e w2 ⟨rfl, hb2⟩
    have B2 := Lib.hid (B1.out.trans (hb2.mono B1.out.size))
    clear hb2
    go_wp2_with fail
    refine (HR.out _).mono ?_
    rintro e w3 ⟨rfl, hb3⟩
    have B3 := Lib.hid (B2.out.trans (hb3.mono B2.out.size))
    clear hb3
    go_wp2_with fail
    go_ret
    exact ⟨rfl, B3.out⟩
end Go.Proofs.YtmhagigokgklaaaGreatDoor
