/- Joined texts: Mf Mg Mo Qc Qi Qd Qj Sa Sb. Each begins with its own remark. -/
import Derived.Test.YtmhagigokgklaaaGreatDoorJl
import Derived.Test.YtmhagigokgklaaaGreatDoorJb
import GoSem.PinnedTables
import Derived.Test.YtmhagigokgklaaaGreatDoorJk
import Derived.Deep.SlicePairs
import Derived.Test.YtmhagigokgklaaaGreatDoorJg
import Derived.Test.YtmhagigokgklaaaGreatDoorJf
import Derived.Test.YtmhagigokgklaaaGreatDoorProg
import Derived.Below
import Derived.Deep.LoopGhost

/- prefixIsLessThan; how many digits a shift to the left makes (plain and walked). -/
namespace Go.Proofs.YtmhagigokgklaaaGreatDoor
open Go Go.RowKit Go.Sort Go.Lib

def pltB : List UInt8 → List UInt8 → Bool
  | _, [] => false
  | [], _ :: _ => true
  | a :: l, c :: s => if a = c then pltB l s else decide (a.toNat < c.toNat)

/-- by value: 0.l below 0.s -/
theorem plt_val : ∀ (l s : List UInt8), (∀ x ∈ l, isDig x) → (∀ x ∈ s, isDig x) → (∀ t c, s = t ++ [c] → c ≠ 48) → (pltB l s = true ↔ dvl 10 l * 10 ^ s.length < dvl 10 s * 10 ^ l.length)
  | l, [], _, _, _ => by
    cases l <;> simp [pltB, dvl]
  | [], c :: s, _, hs, hl => by
    obtain ⟨t, d, e⟩ : ∃ t d, c :: s = t ++ [d] := ⟨(c :: s).dropLast, (c :: s).getLast (by simp), (List.dropLast_concat_getLast (by simp)).symm⟩
    have := dvl_tail_pos t d (by rw [← e]; exact hs) (hl t d e)
    rw [← e] at this
    have e0 : dvl 10 [] = 0 := rfl
    simp only [pltB, true_iff, List.length_nil, Nat.pow_zero, Nat.mul_one, e0, Nat.zero_mul]
    exact this
  | a :: l, c :: s, ha, hs, hl => by
    have ih := plt_val l s (fun x hx => ha x (by simp [hx])) (fun x hx => hs x (by simp [hx])) (fun t d e => hl (c :: t) d (by rw [e]; rfl))
    rw [dvl_head, dvl_head, List.length_cons, List.length_cons]
    have hda := ha a (by simp)
    have hdc := hs c (by simp)
    have e1 : dv a.toNat = a.toNat - 48 := by unfold dv; exact if_pos hda
    have e2 : dv c.toNat = c.toNat - 48 := by unfold dv; exact if_pos hdc
    have hA : dvl 10 l < 10 ^ l.length := dvl_lt 10 (by decide) l fun x hx => okD_dv (by decide) (.inl (ha x (by simp [hx])))
    have hC : dvl 10 s < 10 ^ s.length := dvl_lt 10 (by decide) s fun x hx => okD_dv (by decide) (.inl (hs x (by simp [hx])))
    have f1 : (dv a.toNat * 10 ^ l.length + dvl 10 l) * 10 ^ (s.length + 1) = 10 * (dv a.toNat * (10 ^ l.length * 10 ^ s.length) + dvl 10 l * 10 ^ s.length) := by
      rw [Nat.pow_succ, Nat.add_mul, Nat.mul_add]; congr 1 <;> ac_rfl
    have f2 : (dv c.toNat * 10 ^ s.length + dvl 10 s) * 10 ^ (l.length + 1) = 10 * (dv c.toNat * (10 ^ l.length * 10 ^ s.length) + dvl 10 s * 10 ^ l.length) := by
      rw [Nat.pow_succ, Nat.add_mul, Nat.mul_add]; congr 1 <;> ac_rfl
    rw [f1, f2, Nat.mul_lt_mul_left (by decide)]
    have g1 : dvl 10 l * 10 ^ s.length < 10 ^ l.length * 10 ^ s.length := (Nat.mul_lt_mul_right (Nat.pow_pos (by decide))).2 hA
    have g2 : dvl 10 s * 10 ^ l.length < 10 ^ l.length * 10 ^ s.length := by rw [Nat.mul_comm (10 ^ l.length)]; exact (Nat.mul_lt_mul_right (Nat.pow_pos (by decide))).2 hC
    generalize 10 ^ l.length * 10 ^ s.length = T at *
    unfold pltB
    by_cases h : a = c
    · subst h
      rw [if_pos rfl, ih, Nat.add_lt_add_iff_left]
    · have hn : a.toNat ≠ c.toNat := fun h2 => h (UInt8.toNat_inj.1 h2)
      have h1 := hda.1
      have h2 := hdc.1
      rw [if_neg h, decide_eq_true_eq]
      constructor
      · intro h3
        have := Nat.mul_le_mul_right T (show dv a.toNat + 1 ≤ dv c.toNat by rw [e1, e2]; omega)
        rw [Nat.succ_mul] at this
        omega
      · intro h3
        rcases Nat.lt_or_ge a.toNat c.toNat with h4 | h4
        · exact h4
        · have := Nat.mul_le_mul_right T (show dv c.toNat + 1 ≤ dv a.toNat by rw [e1, e2]; omega)
          rw [Nat.succ_mul] at this
          omega

/-- the library's table of new digits -/
def chD (k : Nat) : Nat := (Go.Pinned.cheatRows.getD k (0, [])).1
def chS (k : Nat) : List UInt8 := (Go.Pinned.cheatRows.getD k (0, [])).2
def chOK (k : Nat) : Bool := decide (dvl 10 (chS k) = 5 ^ k) && decide ((chS k).length + chD k = k + 1) && (chS k).all (fun x => decide (48 ≤ x.toNat ∧ x.toNat ≤ 57)) && decide ((chS k).getLast? = some 53) && decide (10 ^ (chD k - 1) ≤ 2 ^ k) && decide (2 ^ k < 10 ^ chD k) && decide (1 ≤ chD k) && decide (chD k ≤ 19) && decide ((chS k).length ≤ 60)
theorem ch_all : ∀ k : Fin 61, 1 ≤ k.val → chOK k.val = true := by decide +kernel
structure ChF (k : Nat) : Prop where
  v : dvl 10 (chS k) = 5 ^ k
  n : (chS k).length + chD k = k + 1
  d : ∀ x ∈ chS k, isDig x
  l : ∀ t c, chS k = t ++ [c] → c ≠ 48
  lo : 10 ^ (chD k - 1) ≤ 2 ^ k
  hi : 2 ^ k < 10 ^ chD k
  p : 1 ≤ chD k
  q : chD k ≤ 19
  z : (chS k).length ≤ 60
theorem ch_is (k : Nat) (h1 : 1 ≤ k) (h2 : k ≤ 60) : ChF k := by
  have h := ch_all ⟨k, by omega⟩ h1
  simp only [chOK, Bool.and_eq_true, decide_eq_true_eq, List.all_eq_true] at h
  obtain ⟨⟨⟨⟨⟨⟨⟨⟨a1, a2⟩, a3⟩, a4⟩, a5⟩, a6⟩, a7⟩, a8⟩, a9⟩ := h
  refine ⟨a1, a2, a3, fun t c e => ?_, a5, a6, a7, a8, a9⟩
  rw [e, List.getLast?_concat] at a4
  rw [Option.some.inj a4]
  decide

/-- how many digits a shift to the left gives -/
def shM (l : List UInt8) (k : Nat) : Nat := l.length + chD k - (if pltB l (chS k) then 1 else 0)
theorem sh_len {l : List UInt8} (hg : Dg l) (k : Nat) (h1 : 1 ≤ k) (h2 : k ≤ 60) : 10 ^ (shM l k - 1) ≤ dvl 10 l * 2 ^ k ∧ dvl 10 l * 2 ^ k < 10 ^ shM l k ∧ l.length ≤ shM l k ∧ shM l k ≤ l.length + 19 := by
  have c := ch_is k h1 h2
  have hp := hg.pos
  have hpl := plt_val l (chS k) hg.dig c.d c.l
  have hn := c.n
  have hp1 := c.p
  have hq := c.q
  have hten : 0 < 10 ^ (chS k).length := Nat.pow_pos (by decide)
  have key : dvl 10 l * 10 ^ (chS k).length < dvl 10 (chS k) * 10 ^ l.length ↔ dvl 10 l * 2 ^ k < 10 ^ (l.length + chD k - 1) := by
    rw [c.v, ← Nat.mul_lt_mul_right (Nat.two_pow_pos k), ← Nat.mul_lt_mul_right (b := dvl 10 l * 2 ^ k) hten, ← Nat.pow_add, show l.length + chD k - 1 + (chS k).length = k + l.length by omega, Nat.pow_add, show (10 : Nat) ^ k = 5 ^ k * 2 ^ k by rw [← Nat.mul_pow]]
    have e1 : dvl 10 l * 10 ^ (chS k).length * 2 ^ k = dvl 10 l * 2 ^ k * 10 ^ (chS k).length := by ac_rfl
    have e2 : 5 ^ k * 10 ^ l.length * 2 ^ k = 5 ^ k * 2 ^ k * 10 ^ l.length := by ac_rfl
    rw [e1, e2]
  unfold shM
  by_cases h : pltB l (chS k) = true
  · rw [if_pos h]
    refine ⟨?_, key.1 (hpl.1 h), by omega, by omega⟩
    rw [show l.length + chD k - 1 - 1 = (l.length - 1) + (chD k - 1) by omega, Nat.pow_add]
    exact Nat.mul_le_mul hg.lo c.lo
  · rw [if_neg h, Nat.sub_zero]
    refine ⟨?_, ?_, by omega, by omega⟩
    · exact Nat.not_lt.1 fun h3 => h (hpl.2 (key.2 h3))
    · rw [Nat.pow_add]
      exact Nat.mul_lt_mul_of_lt_of_lt hg.hi c.hi

set_option maxRecDepth 100000 in
set_option maxHeartbeats 2000000 in
theorem plt_any (b cap : Nat) (l : List UInt8) (s : ByteArray) (w : World) (hl : l.length ≤ 800) (_hs : s.size ≤ 100) (hc : ∀ k (hk : k < l.length), w.cell? ⟨b, k, Option.none⟩ = some (.int .u8 (l[k].toNat : Int))) (_hcap : l.length ≤ cap) :
    Calls Tryz.prog 182 #[.slice (some ⟨b, 0, Option.none⟩) l.length cap, .string s] w fun e w' => e = .returned (.bool (pltB l s.data.toList)) ∧ ∃ m, w' = w.drewN m := by
  have HC := Lib.hid hc
  have hsl : s.data.toList.length = s.size := by simp
  clear hc
  go_enter Tryz.func182, Tryz.ntmps182
  go_wp2_with fail
  go_loopg [5] s.size (fun g s4 wr => ∃ i n, i + g = s.size ∧ i ≤ l.length ∧ s4 = .int .i64 i ∧ wr = w.drewN n ∧ pltB l s.data.toList = pltB (l.drop i) (s.data.toList.drop i))
  case atStart => exact ⟨0, 0, by omega, by omega, rfl, rfl, rfl⟩
  case round =>
    obtain ⟨i, n, hig, hil, rfl, rfl, hp⟩ := hrel
    have HP := Lib.hid hp
    clear hp
    by_cases h1 : i < s.size
    · by_cases h2 : i < l.length
      · have hx := HC.out i h2
        have e1 : l.drop i = l[i] :: l.drop (i + 1) := List.drop_eq_getElem_cons h2
        have e2 : s.data.toList.drop i = s[i] :: s.data.toList.drop (i + 1) := List.drop_eq_getElem_cons (by rw [hsl]; exact h1)
        have HP2 : Hid (pltB l s.data.toList = if l[i] = s[i] then pltB (l.drop (i + 1)) (s.data.toList.drop (i + 1)) else decide (l[i].toNat < s[i].toNat)) := Lib.hid (by rw [HP.out, e1, e2]; rfl)
        clear e1 e2 HP
        generalize l[i] = a at *
        have hn2 : decide ((l.length : Int) ≤ (i : Int)) = false := by rw [decide_eq_false_iff_not]; omega
        have hn3 : decide (l.length ≤ i) = false := by rw [decide_eq_false_iff_not]; omega
        have hi0 : (0 : Int) ≤ (i : Int) := by omega
        by_cases h3 : a = s[i]
        · have t1 : (a.toNat : Int) = (s[i].toNat : Int) := by rw [h3]
          have t2 : ((a.toNat : Int) != (s[i].toNat : Int)) = false := by rw [bne_eq_false_iff_eq]; exact t1
          have HP3 := Lib.hid (HP2.out.trans (if_pos h3))
          clear h3 HP2
          go_wp2_with fail
          go_quiet (fail)
          go_wp2_with fail
          go_roundg (gk - 1)
          case measure => omega
          case rel => exact ⟨i + 1, _, by omega, by omega, by go_num, by first | rfl | exact World.drewN_drewN _ _ _, HP3.out⟩
        · have hn : a.toNat ≠ s[i].toNat := fun h => h3 (UInt8.toNat_inj.1 h)
          have t1 : ¬ (a.toNat : Int) = (s[i].toNat : Int) := by omega
          have t2 : ((a.toNat : Int) != (s[i].toNat : Int)) = true := by rw [bne_iff_ne]; exact t1
          have HP3 := Lib.hid (HP2.out.trans (if_neg h3))
          clear h3 HP2
          go_wp2_with fail
          go_quiet (fail)
          go_wp2_with fail
          go_quiet (fail)
          go_wp2_with fail
          go_ret
          refine ⟨?_, by first | exact ⟨_, rfl⟩ | exact ⟨_, World.drewN_drewN _ _ _⟩ | exact ⟨_, (congrArg (World.drewN _) (World.drewN_drewN _ _ _)).trans (World.drewN_drewN _ _ _)⟩ | (simp only [World.drewN_drewN]; exact ⟨_, rfl⟩)⟩
          rw [HP3.out]
          rfl
      · have hie : i = l.length := by omega
        have HP2 : Hid (pltB l s.data.toList = true) := Lib.hid (by
          rw [HP.out, hie, List.drop_length]
          rw [hie] at h1
          rw [List.drop_eq_getElem_cons (show l.length < s.data.toList.length by rw [hsl]; exact h1)]
          rfl)
        have hn2 : (l.length : Int) ≤ (i : Int) := by omega
        have hn3 : l.length ≤ i := by omega
        clear HP hie
        go_wp2_with fail
        go_ret
        exact ⟨by rw [HP2.out]; rfl, by first | exact ⟨_, rfl⟩ | exact ⟨_, World.drewN_drewN _ _ _⟩⟩
    · have HP2 : Hid (pltB l s.data.toList = false) := Lib.hid (by
        rw [HP.out, show s.data.toList.drop i = [] from List.drop_eq_nil_of_le (by rw [hsl]; omega)]
        cases l.drop i <;> rfl)
      have hn1 : decide ((i : Int) < (s.size : Int)) = false := by rw [decide_eq_false_iff_not]; omega
      clear HP
      go_wp2_with fail
      go_ret
      exact ⟨by rw [HP2.out]; rfl, by first | exact ⟨_, rfl⟩ | exact ⟨_, World.drewN_drewN _ _ _⟩⟩
end Go.Proofs.YtmhagigokgklaaaGreatDoor

/- leftShift. -/
namespace Go.Proofs.YtmhagigokgklaaaGreatDoor
open Go Go.RowKit Go.Sort Go.Lib

/-- the library's tables for shifts, below block K -/
structure GlobC (K : Nat) (w : World) : Prop where
  lt : 17 ≤ K
  le : K ≤ w.heap.size
  ch : ∃ b o cap : Nat, b < K ∧ w.cell? ⟨14, 0, Option.none⟩ = some (.slice (some ⟨b, o, Option.none⟩) 61 cap) ∧ ∀ k, k < 61 → w.cell? ⟨b, o + k * 2, Option.none⟩ = some (.int .i64 (chD k)) ∧ w.cell? ⟨b, o + k * 2 + 1, Option.none⟩ = some (.string ⟨(chS k).toArray⟩)
  pt : ∃ b o cap : Nat, b < K ∧ w.cell? ⟨11, 0, Option.none⟩ = some (.slice (some ⟨b, o, Option.none⟩) 9 cap) ∧ ∀ k, k < 9 → w.cell? ⟨b, o + k, Option.none⟩ = some (.int .i64 (([1, 3, 6, 9, 13, 16, 19, 23, 26].getD k 0 : Nat) : Int))
theorem GlobC.below {K : Nat} {w w' : World} {B : Nat} (h : GlobC K w) (hB : K ≤ B) (hb : Below B w w') : GlobC K w' := by
  have hlt := h.lt
  refine ⟨h.lt, Nat.le_trans h.le hb.size, ?_, ?_⟩
  · obtain ⟨b, o, cap, h1, h2, h3⟩ := h.ch
    have hg : 14 < B := Nat.lt_of_lt_of_le (by decide) (Nat.le_trans h.lt hB)
    refine ⟨b, o, cap, h1, (hb.cell (p := ⟨14, 0, Option.none⟩) hg).trans h2, fun k hk => ?_⟩
    obtain ⟨h4, h5⟩ := h3 k hk
    exact ⟨(hb.cell (p := ⟨b, o + k * 2, Option.none⟩) (Nat.lt_of_lt_of_le h1 hB)).trans h4, (hb.cell (p := ⟨b, o + k * 2 + 1, Option.none⟩) (Nat.lt_of_lt_of_le h1 hB)).trans h5⟩
  · obtain ⟨b, o, cap, h1, h2, h3⟩ := h.pt
    have hg : 11 < B := Nat.lt_of_lt_of_le (by decide) (Nat.le_trans h.lt hB)
    exact ⟨b, o, cap, h1, (hb.cell (p := ⟨11, 0, Option.none⟩) hg).trans h2, fun k hk => (hb.cell (p := ⟨b, o + k, Option.none⟩) (Nat.lt_of_lt_of_le h1 hB)).trans (h3 k hk)⟩

/-- what a shift leaves -/
def ShPost (b B : Nat) (q : Int) (tr : Bool) (w : World) (e : Ending) (w' : World) : Prop :=
  (∃ v, e = .returned v) ∧ ∃ l dp tr', Cut B q tr l dp tr' ∧ DecL w' b l dp tr' ∧ Below b w w'

/-- the carry of a shift to the left, t digits from behind -/
def cyL (l : List UInt8) (k t : Nat) : Nat := dvl 10 (l.drop (l.length - t)) * 2 ^ k / 10 ^ t
theorem cy_zero (l : List UInt8) (k : Nat) : cyL l k 0 = 0 := by unfold cyL; simp [dvl]
theorem cy_full (l : List UInt8) (k : Nat) : cyL l k l.length = dvl 10 l * 2 ^ k / 10 ^ l.length := by unfold cyL; simp
theorem cy_lt {l : List UInt8} (hd : ∀ x ∈ l, isDig x) (k t : Nat) (ht : t ≤ l.length) : cyL l k t < 2 ^ k := by
  unfold cyL
  rw [Nat.div_lt_iff_lt_mul (Nat.pow_pos (by decide)), Nat.mul_comm (2 ^ k)]
  have := dvl_lt 10 (by decide) (l.drop (l.length - t)) fun x hx => okD_dv (by decide) (.inl (hd x (List.mem_of_mem_drop hx)))
  rw [List.length_drop, show l.length - (l.length - t) = t by omega] at this
  exact (Nat.mul_lt_mul_right (Nat.two_pow_pos k)).2 this
/-- one digit on -/
theorem cy_step {l : List UInt8} (k t : Nat) (ht : t < l.length) (_hd : ∀ x ∈ l, isDig x) : (cyL l k t + dv (l[l.length - 1 - t]).toNat * 2 ^ k) / 10 = cyL l k (t + 1) ∧ (cyL l k t + dv (l[l.length - 1 - t]).toNat * 2 ^ k) % 10 = dvl 10 l * 2 ^ k / 10 ^ t % 10 := by
  have hj : l.length - 1 - t < l.length := by omega
  have e1 : l.drop (l.length - (t + 1)) = l[l.length - 1 - t] :: l.drop (l.length - t) := by
    have := List.drop_eq_getElem_cons hj
    rw [show l.length - 1 - t + 1 = l.length - t by omega] at this
    rw [show l.length - (t + 1) = l.length - 1 - t by omega]
    exact this
  have e2 : (l.drop (l.length - t)).length = t := by rw [List.length_drop]; omega
  have e3 : dvl 10 (l.drop (l.length - (t + 1))) = dv (l[l.length - 1 - t]).toNat * 10 ^ t + dvl 10 (l.drop (l.length - t)) := by rw [e1, dvl_head, e2]
  have hp : 0 < 10 ^ t := Nat.pow_pos (by decide)
  have e4 : dvl 10 (l.drop (l.length - (t + 1))) * 2 ^ k / 10 ^ t = cyL l k t + dv (l[l.length - 1 - t]).toNat * 2 ^ k := by
    rw [e3, Nat.add_mul, show dv (l[l.length - 1 - t]).toNat * 10 ^ t * 2 ^ k = 10 ^ t * (dv (l[l.length - 1 - t]).toNat * 2 ^ k) by ac_rfl, Nat.mul_add_div hp, Nat.add_comm]; rfl
  rw [← e4]
  constructor
  · unfold cyL
    rw [Nat.div_div_eq_div_mul, ← Nat.pow_succ]
  · have e5 : dvl 10 l = dvl 10 (l.take (l.length - (t + 1))) * 10 ^ (t + 1) + dvl 10 (l.drop (l.length - (t + 1))) := by
      conv => lhs; rw [← List.take_append_drop (l.length - (t + 1)) l, dvl_app]
      rw [List.length_drop, show l.length - (l.length - (t + 1)) = t + 1 by omega]
    have e6 : dvl 10 l * 2 ^ k / 10 ^ t = 10 * (dvl 10 (l.take (l.length - (t + 1))) * 2 ^ k) + dvl 10 (l.drop (l.length - (t + 1))) * 2 ^ k / 10 ^ t := by
      rw [e5, Nat.add_mul, show dvl 10 (l.take (l.length - (t + 1))) * 10 ^ (t + 1) * 2 ^ k = 10 ^ t * (10 * (dvl 10 (l.take (l.length - (t + 1))) * 2 ^ k)) by rw [Nat.pow_succ]; ac_rfl, Nat.mul_add_div hp]
    rw [e6, Nat.mul_add_mod]

theorem ls_done {b k m mm : Nat} {l dk xs : List UInt8} {dp : Int} {tr : Bool} {nd : Nat} {w w' : World} {δ' : Nat} {M : Nat} (hM : dvl 10 l * 2 ^ k = M) (hl : l.length ≤ 800) (h : Lw dk xs M m m) (h1 : 10 ^ (m - 1) ≤ M) (h2 : M < 10 ^ m) (hm : 1 ≤ m) (hδ : m = l.length + δ')
    (hnd : nd = min m 800) (ht : TrimTo xs nd mm) (hd : DecAt w' b xs mm (if mm = 0 then 0 else dp + δ') false (tr || lostB M m m)) (hb : Below b w w') :
    ∃ l' dp' tr', Cut M (dp - l.length) tr l' dp' tr' ∧ DecL w' b l' dp' tr' ∧ Below b w w' := by
  subst hM hnd
  obtain ⟨a1, a2, a3⟩ := left_cut (dp := dp) (tr := tr) hl h h1 h2 hm ht
  have hlen : (xs.take mm).length = mm := by rw [List.length_take, h.len]; omega
  rw [show dp + ((m : Int) - l.length) = dp + δ' by omega] at a1
  rw [if_neg (by omega)] at hd
  exact ⟨xs.take mm, dp + δ', _, a1, ⟨xs, by rw [hlen]; exact hd, by rw [hlen]⟩, hb⟩

set_option maxRecDepth 100000 in
set_option maxHeartbeats 4000000 in
theorem lshift_any (b k K : Nat) (l : List UInt8) (dp : Int) (tr : Bool) (w : World) (h : DecL w b l dp tr) (hg : Dg l) (hC : GlobC K w) (_hKb : K ≤ b) (hk1 : 1 ≤ k) (hk2 : k ≤ 60) (_hd1 : -1000 ≤ dp) (_hd2 : dp ≤ 1000) :
    Calls Tryz.prog 167 #[.pointer (some ⟨b, 0, Option.none⟩), .int .u64 k] w (ShPost b (dvl 10 l * 2 ^ k) (dp - l.length) tr w) := by
  obtain ⟨m1, m2, m3, m4⟩ := sh_len hg k hk1 hk2
  have hcf := ch_is k hk1 hk2
  have hlen := h.le
  have hpos := hg.pos
  have HDG := Lib.hid hg.dig
  have hcell := h.cell
  have HPLT := Lib.hid (fun n : Nat => plt_any b 800 l ⟨(chS k).toArray⟩ (w.drewN n) hlen (by have := hcf.z; show (chS k).toArray.size ≤ 100; simp; omega) hcell (by omega))
  clear hcell
  obtain ⟨gb, go, gcap, g1, g2, g3⟩ := hC.ch
  obtain ⟨g4, g5⟩ := g3 k (by omega)
  have HCELL := Lib.hid h.cell
  obtain ⟨c1, c2, c3, c4⟩ := h.tail
  obtain ⟨dk, hda, hdl⟩ := h
  have HDA := Lib.hid hda
  have HDL := Lib.hid hdl
  have hbw := hda.lt
  obtain ⟨M, hM⟩ : ∃ M, dvl 10 l * 2 ^ k = M := ⟨_, rfl⟩
  rw [hM] at m1 m2 ⊢
  obtain ⟨m, hm⟩ : ∃ m, shM l k = m := ⟨_, rfl⟩
  rw [hm] at m1 m2 m3 m4
  have HM := Lib.hid hM
  have HM1 := Lib.hid m1
  have HM2 := Lib.hid m2
  have HSM := Lib.hid hm
  obtain ⟨δ, hδ⟩ : ∃ δ, chD k = δ := ⟨_, rfl⟩
  rw [hδ] at g4
  have hq1 : 1 ≤ δ := hδ ▸ hcf.p
  have hq2 : δ ≤ 19 := hδ ▸ hcf.q
  have hmd : (m : Int) = l.length + δ - (if pltB l (chS k) then 1 else 0) := by
    rw [← hm]; unfold shM; rw [hδ]; split <;> omega
  have HMD := Lib.hid hmd
  obtain ⟨P, hP⟩ : ∃ P : Nat, P = 2 ^ k := ⟨_, rfl⟩
  have hP60 : P ≤ 1152921504606846976 := by rw [hP]; exact Nat.pow_le_pow_right (by decide) hk2
  have HP := Lib.hid hP
  have hz0 : (0 : Int) ≤ (l.length : Int) := by omega
  have hz8 : (l.length : Int) ≤ 800 := by omega
  clear hda hdl hM m1 m2 hm hmd hP hcf hC c3 hg g3
  obtain ⟨δ', hδ'⟩ : ∃ δ' : Nat, m = l.length + δ' := ⟨m - l.length, by omega⟩
  have HEQ : Hid ((δ : Int) - (if pltB l (chS k) then 1 else 0) = δ') := Lib.hid (by have := HMD.out; omega)
  have hδ1 : δ' ≤ 19 := by omega
  have hm8 : m ≤ 819 := by omega
  have HDM := Lib.hid hδ'
  clear hδ HMD m4 hδ'
  cases hpb : pltB l (chS k)
  case' false =>
    obtain rfl : δ' = δ := by have := HEQ.out; rw [hpb] at this; simp only [Bool.false_eq_true, if_false] at this; omega
  all_goals
    have hde := HEQ.out
    rw [hpb] at hde HPLT
    simp only [if_true, if_false, Bool.false_eq_true] at hde
    clear HEQ
    go_enter Tryz.func167, Tryz.ntmps167
    go_wp2_with fail
    go_quiet ((go_at_call 182; exact Calls.quiet_of (HPLT.out _)))
    go_wp2_with fail
    go_loopg [5, 6, 7, 8, 9] l.length (fun g s5 s6 s7 s8 s9 wr => ∃ (t : Nat) (xs : List UInt8), t + g = l.length ∧ s5 = .int .i64 ((l.length : Int) - 1 - t) ∧ s6 = .int .i64 ((m : Int) - t) ∧ s7 = .int .u64 (cyL l k t) ∧ DecAt wr b xs l.length dp false (tr || lostB M m t) ∧ Lw dk xs M m t ∧ Below b w wr)
    case atStart =>
      have := HDM.out
      refine ⟨0, dk, by omega, by go_num, by go_num, by rw [cy_zero]; rfl, ?_, Lw.first dk M m HDA.out.len, by first | exact Below.refl _ _ | exact bDrewN (Below.refl _ _) _⟩
      rw [lost_zero, Bool.or_false]
      first | exact HDA.out | exact HDA.out.drewN _
    case round =>
      obtain ⟨t, xs, htg, rfl, rfl, rfl, hda, hlw, hb⟩ := hrel
      have HX := Lib.hid hda
      have HLW := Lib.hid hlw
      have HB := Lib.hid hb
      have fz := hda.frz
      have hbr := hda.lt
      have hcy := cy_lt HDG.out k t (by omega)
      obtain ⟨cy, hcyd⟩ : ∃ cy, cyL l k t = cy := ⟨_, rfl⟩
      rw [hcyd] at hcy
      have hcy6 : cy < 1152921504606846976 := Nat.lt_of_lt_of_le hcy (Nat.pow_le_pow_right (by decide) hk2)
      by_cases h0 : t = l.length
      · have hjr : (l.length : Int) - 1 - t = -1 := by omega
        have HT : Hid (cy = M / 10 ^ l.length) := Lib.hid (by rw [← hcyd, h0, cy_full, HM.out])
        rw [hcyd, hjr]
        have HTL := Lib.hid h0
        clear hda hlw hb hcy hcyd h0 hjr
        go_wp2_with fail
        go_loopg [6, 7, 10, 11] m (fun g s6 s7 s10 s11 wr => ∃ (t : Nat) (xs : List UInt8), t + g = m + l.length ∧ l.length ≤ t ∧ t ≤ m ∧ s6 = .int .i64 ((m : Int) - t) ∧ s7 = .int .u64 (M / 10 ^ t : Nat) ∧ DecAt wr b xs l.length dp false (tr || lostB M m t) ∧ Lw dk xs M m t ∧ Below b w wr)
        case atStart =>
          have := HTL.out
          exact ⟨t, xs, by omega, by omega, by omega, by go_num, by rw [HT.out, this], by first | exact HX.out | exact HX.out.drewN _, HLW.out, by first | exact HB.out | exact bDrewN HB.out _⟩
        case round =>
          clear fz hbr HX HLW HB HT HTL htg hcy6
          rename_i t0 xs0 _ _ _ _
          obtain ⟨t, xs, htg, hlt, hltm, rfl, rfl, hda, hlw, hb⟩ := hrel
          have HX := Lib.hid hda
          have HLW := Lib.hid hlw
          have HB := Lib.hid hb
          have HLT := Lib.hid hlt
          have fz := hda.frz
          have hbr := hda.lt
          obtain ⟨cy, hcyd⟩ : ∃ cy, M / 10 ^ t = cy := ⟨_, rfl⟩
          have hcy6 : cy ≤ 1152921504606846976 := by
            rw [← hcyd]
            refine Nat.le_trans ?_ hP60
            rw [HP.out, ← HM.out]
            refine Nat.div_le_of_le_mul ?_
            have h1 : dvl 10 l ≤ 10 ^ t := Nat.le_trans (Nat.le_of_lt (dvl_lt 10 (by decide) l fun x hx => okD_dv (by decide) (.inl (HDG.out x hx)))) (Nat.pow_le_pow_right (by decide) hlt)
            exact Nat.mul_le_mul_right _ h1
          rw [hcyd]
          by_cases h0 : t = m
          · have hcz : cy = 0 := by rw [← hcyd, h0]; exact Nat.div_eq_of_lt HM2.out
            subst hcz
            obtain ⟨c1, c2, _, c4⟩ := hda.tail
            have HT := Lib.hid h0
            have HTR := Lib.hid (fun (W : World) (nn : Nat) (ddp : Int) (hh : DecAt W b xs nn ddp false (tr || lostB M m t)) (h8 : nn ≤ 800) => dtrim_any b nn xs ddp false (tr || lostB M m t) W hh h8)
            clear hda hlw hb hcyd hlt htg h0 c4
            by_cases h8 : l.length + δ' < 800
            · have h8i : (l.length : Int) + δ' < 800 := by omega
              have h8n : decide ((800 : Int) ≤ (l.length : Int) + δ') = false := decide_eq_false (by omega)
              go_wp2_with fail
              try (go_quiet (fail); go_wp2_with fail)
              have hmc : ((m : Nat) : Int) = (l.length : Int) + δ' := by have := HDM.out; omega
              refine (HTR.out _ m (dp + δ') ?_ (by have := HDM.out; omega)).mono ?_
              · rw [hmc]
                first | exact (HX.out.putTail.1 _).putTail.2.1 _ | exact ((HX.out.putTail.1 _).drewN _).putTail.2.1 _ | exact (((HX.out.drewN _).putTail.1 _).drewN _).putTail.2.1 _ | exact ((HX.out.drewN _).putTail.1 _).putTail.2.1 _
              · rintro e w2 ⟨⟨v, rfl⟩, mm, htr, hd2, hb2⟩
                have HD2 := Lib.hid hd2
                have HB2 := Lib.hid hb2
                have HTM := Lib.hid htr
                clear hd2 hb2 htr hmc
                go_wp2_with fail
                go_end0
                refine ⟨⟨_, rfl⟩, ls_done HM.out hlen (by have := HLW.out; rw [HT.out] at this; exact this) HM1.out HM2.out (by omega) HDM.out (by have := HDM.out; omega) HTM.out (by have := HD2.out; rw [HT.out] at this; exact this) ?_⟩
                refine Below.trans ?_ HB2.out
                first | exact (HB.out.setCell (Nat.le_refl b) _).setCell (Nat.le_refl b) _ | exact ((bDrewN (HB.out.setCell (Nat.le_refl b) _) _).setCell (Nat.le_refl b) _)
            · have h8i : ¬ (l.length : Int) + δ' < 800 := by omega
              have h8n : decide ((800 : Int) ≤ (l.length : Int) + δ') = true := decide_eq_true (by omega)
              go_wp2_with fail
              try (go_quiet (fail); go_wp2_with fail)
              refine (HTR.out _ 800 (dp + δ') ?_ (by omega)).mono ?_
              · first | exact ((HX.out.putTail.1 _).putTail.1 _).putTail.2.1 _ | exact (((HX.out.putTail.1 _).drewN _).putTail.1 _).putTail.2.1 _ | exact ((((HX.out.putTail.1 _).drewN _).putTail.1 _).drewN _).putTail.2.1 _ | exact (((HX.out.putTail.1 _).putTail.1 _).drewN _).putTail.2.1 _
              · rintro e w2 ⟨⟨v, rfl⟩, mm, htr, hd2, hb2⟩
                have HD2 := Lib.hid hd2
                have HB2 := Lib.hid hb2
                have HTM := Lib.hid htr
                clear hd2 hb2 htr
                go_wp2_with fail
                go_end0
                refine ⟨⟨_, rfl⟩, ls_done HM.out hlen (by have := HLW.out; rw [HT.out] at this; exact this) HM1.out HM2.out (by omega) HDM.out (by have := HDM.out; omega) HTM.out (by have := HD2.out; rw [HT.out] at this; exact this) ?_⟩
                refine Below.trans ?_ HB2.out
                first | exact ((HB.out.setCell (Nat.le_refl b) _).setCell (Nat.le_refl b) _).setCell (Nat.le_refl b) _ | exact ((bDrewN ((HB.out.setCell (Nat.le_refl b) _).setCell (Nat.le_refl b) _) _).setCell (Nat.le_refl b) _)
          · have htm : t < m := by
              rcases Nat.lt_or_ge t m with h1 | h1
              · exact h1
              · exfalso; exact h0 (by omega)
            have hcz : 1 ≤ cy := by
              rw [← hcyd, Nat.le_div_iff_mul_le (Nat.pow_pos (by decide)), Nat.one_mul]
              exact Nat.le_trans (Nat.pow_le_pow_right (by decide) (by omega)) HM1.out
            have hczi : (0 : Int) < (cy : Int) := by omega
            clear hda hlw hb
            obtain ⟨wi, hwi⟩ : ∃ wi : Nat, (m : Int) - t - 1 = (wi : Int) := ⟨m - t - 1, by omega⟩
            have hwn : m - t - 1 = wi := by omega
            have HWN := Lib.hid hwn
            obtain ⟨q, hqd⟩ : ∃ q, cy / 10 = q := ⟨_, rfl⟩
            obtain ⟨r, hrd⟩ : ∃ r, cy % 10 = r := ⟨_, rfl⟩
            have HQ : Hid (q = M / 10 ^ (t + 1)) := Lib.hid (by rw [← hqd]; exact by rw [Nat.pow_succ, ← Nat.div_div_eq_div_mul, hcyd])
            have HR : Hid (r = M / 10 ^ t % 10) := Lib.hid (by rw [← hrd]; exact by rw [hcyd])
            have hr9 : r ≤ 9 := by omega
            have hqq : (cy : Int).tdiv 10 = (q : Int) := by rw [Int.tdiv_eq_ediv_of_nonneg (by omega)]; omega
            have hrr : (cy : Int) - 10 * (q : Int) = (r : Int) := by omega
            have hq60 : q ≤ 1844674407370955160 := by omega
            have hb8 : (UInt8.ofNat (48 + r)).toNat = 48 + r := by rw [UInt8.toNat_ofNat']; omega
            have HEB : Hid (Value.int .u8 ((r : Int) + 48) = encB (UInt8.ofNat (48 + r))) := Lib.hid (by
              unfold encB; rw [hb8]; congr 1; push_cast; omega)
            have HTM := Lib.hid (show t < m by omega)
            clear hwn hqd hrd hb8
            clear hcyd
            by_cases h8 : wi < 800
            · have h8i : (wi : Int) < 800 := by omega
              have hxl : wi < xs.length := by rw [HX.out.len]; exact h8
              have cw := HX.out.cell wi xs[wi] (List.getElem?_eq_getElem hxl)
              generalize xs[wi] = xw at *
              go_wp2_with fail
              try (go_quiet (fail); go_wp2_with fail)
              go_roundg (gk - 1)
              case measure => omega
              case rel =>
                refine ⟨t + 1, xs.set wi (UInt8.ofNat (48 + r)), by omega, by have := HLT.out; omega, by have := HTM.out; omega, by go_num, by rw [← HQ.out] <;> go_num, ?_, ?_, ?_⟩
                · rw [lost_put M m t (by have := HWN.out; omega) HTM.out]
                  first | exact HX.out.put wi h8 _ _ HEB.out | exact (HX.out.drewN _).put wi h8 _ _ HEB.out | exact (HX.out.put wi h8 _ _ HEB.out).drewN _
                · have := HLW.out.put HTM.out (by rw [HWN.out]; exact h8)
                  rw [HWN.out, ← HR.out] at this
                  exact this
                · first | exact HB.out.setCell (Nat.le_refl b) _ | exact (bDrewN HB.out _).setCell (Nat.le_refl b) _ | exact bDrewN (HB.out.setCell (Nat.le_refl b) _) _
            · have h8i : ¬ (wi : Int) < 800 := by omega
              have h8n : decide ((wi : Int) < 800) = false := decide_eq_false h8i
              by_cases hr0 : r = 0
              · have HRZ := Lib.hid hr0
                have hrn : ((r : Int) != 0) = false := by rw [bne_eq_false_iff_eq]; omega
                clear hr0
                go_wp2_with fail
                try (go_quiet (fail); go_wp2_with fail)
                go_roundg (gk - 1)
                case measure => omega
                case rel =>
                  refine ⟨t + 1, xs, by omega, by have := HLT.out; omega, by have := HTM.out; omega, by go_num, by rw [← HQ.out] <;> go_num, ?_, HLW.out.skip (by have := HWN.out; omega), by first | exact HB.out | exact bDrewN HB.out _⟩
                  rw [lost_skip M m t (by have := HWN.out; omega), ← HR.out, HRZ.out]
                  simp only [bne_self_eq_false, Bool.or_false]
                  first | exact HX.out | exact HX.out.drewN _
              · have hrn : ((r : Int) != 0) = true := by rw [bne_iff_ne]; omega
                have ct := HX.out.tail.2.2.2
                have HRZ : Hid ((r != 0) = true) := Lib.hid (bne_iff_ne.2 hr0)
                clear hr0
                go_wp2_with fail
                try (go_quiet (fail); go_wp2_with fail)
                go_roundg (gk - 1)
                case measure => omega
                case rel =>
                  refine ⟨t + 1, xs, by omega, by have := HLT.out; omega, by have := HTM.out; omega, by go_num, by rw [← HQ.out] <;> go_num, ?_, HLW.out.skip (by have := HWN.out; omega), by first | exact HB.out.setCell (Nat.le_refl b) _ | exact (bDrewN HB.out _).setCell (Nat.le_refl b) _⟩
                  rw [lost_skip M m t (by have := HWN.out; omega), ← HR.out, HRZ.out]
                  simp only [Bool.or_true]
                  first | exact HX.out.putTail.2.2.2 true | exact (HX.out.drewN _).putTail.2.2.2 true

      · obtain ⟨j, hj⟩ : ∃ j : Nat, j + t + 1 = l.length := ⟨l.length - 1 - t, by omega⟩
        have hjr : (l.length : Int) - 1 - t = (j : Int) := by omega
        have hjl : j < l.length := by omega
        have hxj : xs[j]? = some l[j] := by
          rw [hlw.old j (by omega) (by omega), ← List.getElem?_eq_getElem hjl]
          conv => rhs; rw [← HDL.out]
          rw [List.getElem?_take_of_lt hjl]
        have cj := hda.cell j _ hxj
        obtain ⟨p1, p2⟩ := cy_step k t (by omega) HDG.out
        have hcd := HDG.out _ (List.getElem_mem hjl)
        have hje : l.length - 1 - t = j := by omega
        simp only [hje] at p1 p2
        generalize l[j] = c at *
        have hc1 := hcd.1
        have hc2 := hcd.2
        have hdv : dv c.toNat = c.toNat - 48 := by unfold dv; exact if_pos hcd
        obtain ⟨z, hz⟩ : ∃ z : Nat, z = (c.toNat - 48) * P := ⟨_, rfl⟩
        have hz9 : z ≤ 10376293541461622784 := by
          rw [hz]; exact Nat.le_trans (Nat.mul_le_mul (show c.toNat - 48 ≤ 9 by omega) hP60) (by decide)
        have hzw : IntKind.u64.wrap (((c.toNat : Int) - 48) * 2 ^ k) = (z : Int) := by
          have e : ((c.toNat : Int) - 48) * 2 ^ k = (z : Int) := by
            rw [hz, HP.out]; push_cast; rw [Int.ofNat_sub hc1]; rfl
          rw [e, IntKind.wrap_u64]; omega
        rw [HM.out] at p2
        rw [hcyd, hdv, ← HP.out, ← hz] at p1 p2
        rw [hjr, hcyd]
        clear hda hlw hb h0 hxj hcd hcy hcyd hje hdv hz
        obtain ⟨wi, hwi⟩ : ∃ wi : Nat, (m : Int) - t - 1 = (wi : Int) := ⟨m - t - 1, by omega⟩
        have hwn : m - t - 1 = wi := by omega
        have HWN := Lib.hid hwn
        obtain ⟨q, hqd⟩ : ∃ q, (cy + z) / 10 = q := ⟨_, rfl⟩
        obtain ⟨r, hrd⟩ : ∃ r, (cy + z) % 10 = r := ⟨_, rfl⟩
        have HQ : Hid (q = cyL l k (t + 1)) := Lib.hid (by rw [← hqd]; exact p1)
        have HR : Hid (r = M / 10 ^ t % 10) := Lib.hid (by rw [← hrd]; exact p2)
        have hr9 : r ≤ 9 := by omega
        have hqq : ((cy : Int) + (z : Int)).tdiv 10 = (q : Int) := by rw [Int.tdiv_eq_ediv_of_nonneg (by omega)]; omega
        have hrr : ((cy : Int) + (z : Int)) - 10 * (q : Int) = (r : Int) := by omega
        have hq60 : q ≤ 1844674407370955160 := by omega
        have hb8 : (UInt8.ofNat (48 + r)).toNat = 48 + r := by rw [UInt8.toNat_ofNat']; omega
        have HEB : Hid (Value.int .u8 ((r : Int) + 48) = encB (UInt8.ofNat (48 + r))) := Lib.hid (by
          unfold encB; rw [hb8]; congr 1; push_cast; omega)
        have HTM := Lib.hid (show t < m by omega)
        clear hwn hqd hrd hb8
        clear p1 p2
        by_cases h8 : wi < 800
        · have h8i : (wi : Int) < 800 := by omega
          have hxl : wi < xs.length := by rw [HX.out.len]; exact h8
          have cw := HX.out.cell wi xs[wi] (List.getElem?_eq_getElem hxl)
          generalize xs[wi] = xw at *
          go_wp2_with fail
          try (go_quiet (fail); go_wp2_with fail)
          go_roundg (gk - 1)
          case measure => omega
          case rel =>
            refine ⟨t + 1, xs.set wi (UInt8.ofNat (48 + r)), by omega, by go_num, by go_num, by rw [← HQ.out] <;> go_num, ?_, ?_, ?_⟩
            · rw [lost_put M m t (by have := HWN.out; omega) HTM.out]
              first | exact HX.out.put wi h8 _ _ HEB.out | exact (HX.out.drewN _).put wi h8 _ _ HEB.out | exact (HX.out.put wi h8 _ _ HEB.out).drewN _
            · have := HLW.out.put HTM.out (by rw [HWN.out]; exact h8)
              rw [HWN.out, ← HR.out] at this
              exact this
            · first | exact HB.out.setCell (Nat.le_refl b) _ | exact (bDrewN HB.out _).setCell (Nat.le_refl b) _ | exact bDrewN (HB.out.setCell (Nat.le_refl b) _) _
        · have h8i : ¬ (wi : Int) < 800 := by omega
          have h8n : decide ((wi : Int) < 800) = false := decide_eq_false h8i
          by_cases hr0 : r = 0
          · have HRZ := Lib.hid hr0
            have hrn : ((r : Int) != 0) = false := by rw [bne_eq_false_iff_eq]; omega
            clear hr0
            go_wp2_with fail
            try (go_quiet (fail); go_wp2_with fail)
            go_roundg (gk - 1)
            case measure => omega
            case rel =>
              refine ⟨t + 1, xs, by omega, by go_num, by go_num, by rw [← HQ.out] <;> go_num, ?_, HLW.out.skip (by have := HWN.out; omega), by first | exact HB.out | exact bDrewN HB.out _⟩
              rw [lost_skip M m t (by have := HWN.out; omega), ← HR.out, HRZ.out]
              simp only [bne_self_eq_false, Bool.or_false]
              first | exact HX.out | exact HX.out.drewN _
          · have hrn : ((r : Int) != 0) = true := by rw [bne_iff_ne]; omega
            have ct := HX.out.tail.2.2.2
            have HRZ : Hid ((r != 0) = true) := Lib.hid (bne_iff_ne.2 hr0)
            clear hr0
            go_wp2_with fail
            try (go_quiet (fail); go_wp2_with fail)
            go_roundg (gk - 1)
            case measure => omega
            case rel =>
              refine ⟨t + 1, xs, by omega, by go_num, by go_num, by rw [← HQ.out] <;> go_num, ?_, HLW.out.skip (by have := HWN.out; omega), by first | exact HB.out.setCell (Nat.le_refl b) _ | exact (bDrewN HB.out _).setCell (Nat.le_refl b) _⟩
              rw [lost_skip M m t (by have := HWN.out; omega), ← HR.out, HRZ.out]
              simp only [Bool.or_true]
              first | exact HX.out.putTail.2.2.2 true | exact (HX.out.drewN _).putTail.2.2.2 true
end Go.Proofs.YtmhagigokgklaaaGreatDoor

/- From the rows' conditions to the tables that shifts ask. -/
namespace Go.Proofs.YtmhagigokgklaaaGreatDoor
open Go Go.ChangeShapes Go.WideShapes Go.ChangeAt Go.RowKit Go.Lib Go.Deep

theorem g_chs : Tryz.prog.globalNamed "internal/strconv.leftcheats" = some 14 := by kernel_rfl
theorem y_chs : (Tryz.prog.globals[14]?).map (·.type) = some 215 := by kernel_rfl
theorem g_ptb : Tryz.prog.globalNamed "internal/strconv.powtab" = some 11 := by kernel_rfl
theorem y_ptb : (Tryz.prog.globals[11]?).map (·.type) = some 206 := by kernel_rfl
theorem c_chs : Tryz.prog.cellsOf 214 = 2 := by kernel_rfl
theorem c_str : Tryz.prog.cellsOf 9 = 1 := by kernel_rfl
theorem ch_len : Go.Pinned.cheatRows.length = 61 := by decide +kernel
theorem d_ptb : (Rows.laid_internal_strconv_powtab : DataW Unit) = .slice ((List.range 9).map fun k => .lit (.int .i64 (([1, 3, 6, 9, 13, 16, 19, 23, 26].getD k 0 : Nat) : Int))) [] := by kernel_rfl

theorem addr_plain {W : World} {a : Addr} {v : Value} (h : W.cell? (a.add 0) = some v) : ∃ b o, a = ⟨b, o, Option.none⟩ ∧ b < W.heap.size := by
  obtain ⟨ab, ao, asp⟩ := a
  have e : (⟨ab, ao, asp⟩ : Addr).add 0 = ⟨ab, ao, asp⟩ := by unfold Addr.add; cases asp <;> simp
  rw [e] at h
  have hsp : asp = Option.none := cell_spot h
  subst hsp
  refine ⟨ab, ao, rfl, ?_⟩
  by_cases hlt : ab < W.heap.size
  · exact hlt
  · exfalso
    unfold World.cell? at h
    simp only at h
    rw [Array.getElem?_eq_none (by omega)] at h
    exact absurd h (by simp)

theorem ptb_of {W : World} (h : laidMet Tryz.prog laidL W) : ∃ b o cap : Nat, b < W.heap.size ∧ W.cell? ⟨11, 0, Option.none⟩ = some (.slice (some ⟨b, o, Option.none⟩) 9 cap) ∧ ∀ k, k < 9 → W.cell? ⟨b, o + k, Option.none⟩ = some (.int .i64 (([1, 3, 6, 9, 13, 16, 19, 23, 26].getD k 0 : Nat) : Int)) := by
  obtain ⟨cs, fuel, p, hv, hd⟩ := reads_at h (n := "internal/strconv.powtab") (d := Rows.laid_internal_strconv_powtab) (by simp [laidL, Rows.numOrderRow]) g_ptb y_ptb
  rw [d_ptb] at hd
  rcases open_slice1 Tryz.underlying206 c_int hd with ⟨_, hx⟩ | ⟨a, len, cap, m, n, Vv, D, Pl, hcs, _, hl, hm, hmm, hx, hi⟩
  · cases hx
  · have hx1 := congrArg Prod.fst hx
    simp only [DataW.slice.injEq] at hx1
    obtain ⟨hx2, _⟩ := hx1
    have hlen : len = 9 := by
      have := congrArg List.length hx2
      simpa using this.symm
    subst hlen
    have hD : ∀ k, k < 9 → D k = .lit (.int .i64 (([1, 3, 6, 9, 13, 16, 19, 23, 26].getD k 0 : Nat) : Int)) := fun k hk => by
      have := congrArg (·[k]?) hx2
      simp only [List.getElem?_map, List.getElem?_range hk, Option.map_some, Option.some.injEq] at this
      exact this.symm
    have hm9 : 9 ≤ m := by rw [hmm]; split <;> omega
    obtain ⟨b, o, rfl, hb⟩ := addr_plain (hi 0 (by omega)).1
    refine ⟨b, o, cap, hb, ?_, fun k hk => ?_⟩
    · rw [World.var?_cell g_ptb hv 0, ← Array.getElem?_toList, hcs]; rfl
    · obtain ⟨h1, h2⟩ := hi k (by omega)
      have e : (⟨b, o, Option.none⟩ : Addr).add k = ⟨b, o + k, Option.none⟩ := by unfold Addr.add; simp
      rw [e] at h1
      obtain ⟨z, q0, r0, _⟩ := DataW.trod_int Tryz.underlying3 h2
      have r1 := congrArg Prod.fst r0
      rw [hD k hk] at r1
      simp only [DataW.lit.injEq, Lit.int.injEq, true_and] at r1
      simp only [List.cons.injEq, and_true] at q0
      rw [h1, q0, r1]

theorem chs_of {W : World} (h : laidMet Tryz.prog laidL W) : ∃ b o cap : Nat, b < W.heap.size ∧ W.cell? ⟨14, 0, Option.none⟩ = some (.slice (some ⟨b, o, Option.none⟩) 61 cap) ∧ ∀ k, k < 61 → W.cell? ⟨b, o + k * 2, Option.none⟩ = some (.int .i64 (chD k)) ∧ W.cell? ⟨b, o + k * 2 + 1, Option.none⟩ = some (.string ⟨(chS k).toArray⟩) := by
  obtain ⟨cs, fuel, p, hv, hd⟩ := reads_at h (n := "internal/strconv.leftcheats") (d := Rows.laid_internal_strconv_leftcheats) (by simp [laidL, Rows.numOrderRow]) g_chs y_chs
  unfold Rows.laid_internal_strconv_leftcheats Go.Pinned.leftcheats at hd
  rcases open_slice_pairs Tryz.underlying215 Tryz.underlying214 c_chs rfl rfl c_int c_str hd with ⟨_, hx⟩ | ⟨a, len, cap, m, n, V0, V1, D0, D1, P0, P1, hcs, _, hl, hm, hmm, hx, hi⟩
  · cases hx
  · have hx1 := congrArg Prod.fst hx
    simp only [DataW.slice.injEq] at hx1
    obtain ⟨hx2, _⟩ := hx1
    have hlen : len = 61 := by
      have := congrArg List.length hx2
      rw [List.length_map, List.length_map, ch_len, List.length_range] at this
      exact this.symm
    subst hlen
    have hD : ∀ k, k < 61 → D0 k = .lit (.int .i64 (chD k)) ∧ D1 k = .lit (.string (chS k)) := fun k hk => by
      have hk2 : k < Go.Pinned.cheatRows.length := by rw [ch_len]; exact hk
      have := congrArg (·[k]?) hx2
      simp only [List.getElem?_map, List.getElem?_range hk, Option.map_some, List.getElem?_eq_getElem hk2, Option.some.injEq, DataW.agg.injEq, List.cons.injEq, and_true] at this
      have hg : Go.Pinned.cheatRows.getD k (0, []) = Go.Pinned.cheatRows[k] := by rw [List.getD_eq_getElem?_getD, List.getElem?_eq_getElem hk2, Option.getD_some]
      unfold chD chS
      rw [hg]
      exact ⟨this.1.symm, this.2.symm⟩
    have hm9 : 61 ≤ m := by rw [hmm]; split <;> omega
    have hp := (hi 0 (by omega)).1
    rw [Nat.zero_mul] at hp
    obtain ⟨b, o, rfl, hb⟩ := addr_plain hp
    refine ⟨b, o, cap, hb, ?_, fun k hk => ?_⟩
    · rw [World.var?_cell g_chs hv 0, ← Array.getElem?_toList, hcs]; rfl
    · obtain ⟨h1, h2, h3, h4⟩ := hi k (by omega)
      have e1 : (⟨b, o, Option.none⟩ : Addr).add (k * 2) = ⟨b, o + k * 2, Option.none⟩ := by unfold Addr.add; simp
      have e2 : (⟨b, o, Option.none⟩ : Addr).add (k * 2 + 1) = ⟨b, o + k * 2 + 1, Option.none⟩ := by unfold Addr.add; simp [Nat.add_assoc]
      rw [e1] at h1
      rw [e2] at h2
      obtain ⟨d0, d1⟩ := hD k hk
      obtain ⟨z, q0, r0, _⟩ := DataW.trod_int Tryz.underlying3 h3
      obtain ⟨s, q1, r1, _⟩ := DataW.trod_string Tryz.underlying9 h4
      have r2 := congrArg Prod.fst r0
      rw [d0] at r2
      simp only [DataW.lit.injEq, Lit.int.injEq, true_and] at r2
      have r3 := congrArg Prod.fst r1
      rw [d1] at r3
      simp only [DataW.lit.injEq, Lit.string.injEq] at r3
      simp only [List.cons.injEq, and_true] at q0 q1
      refine ⟨by rw [h1, q0, r2], ?_⟩
      rw [h2, q1, r3]

theorem globC_of_laid {W : World} (h : laidMetH Tryz.prog laidL W) : GlobC W.heap.size W := by
  have h' := plain_laid h
  exact ⟨heap_17 h', Nat.le_refl _, chs_of h', ptb_of h'⟩
end Go.Proofs.YtmhagigokgklaaaGreatDoor

/- The shortest digits are read as their number, and no fewer digits are (plain). -/
namespace Go.Proofs.YtmhagigokgklaaaGreatDoor
open Go Go.RowKit
set_option exponentiation.threshold 3000

theorem dX_scale (d k : Nat) (q : Int) : dX (d * 10 ^ k) q * dQ (q + k) = dX d (q + k) * dQ q := by
  unfold dX dQ
  have h : 10 ^ k * 10 ^ q.toNat * 10 ^ (-(q + k)).toNat = 10 ^ (q + k).toNat * 10 ^ (-q).toNat := by
    rw [← Nat.pow_add, ← Nat.pow_add, ← Nat.pow_add]
    congr 1
    omega
  generalize 10 ^ k = t1 at *
  generalize 10 ^ q.toNat = t2 at *
  generalize 10 ^ (-(q + k)).toNat = t3 at *
  generalize 10 ^ (q + k).toNat = t4 at *
  generalize 10 ^ (-q).toNat = t5 at *
  generalize 2 ^ 1074 = W
  have e1 : 2 * (d * t1 * t2 * W) * t3 = 2 * (d * W) * (t1 * t2 * t3) := by ac_rfl
  have e2 : 2 * (d * t4 * W) * t5 = 2 * (d * W) * (t4 * t5) := by ac_rfl
  rw [e1, e2, h]
theorem near_down (d k a : Nat) (q : Int) (h : Near (dX d (q + k)) (dQ (q + k)) a) : Near (dX (d * 10 ^ k) q) (dQ q) a := near_ratio h (dQ_pos _) (dX_scale d k q).symm

end Go.Proofs.YtmhagigokgklaaaGreatDoor

/- num.Parse of texts whose digits behind the 19th are noughts. -/
namespace Go.Proofs.YtmhagigokgklaaaGreatDoor
open Go Go.RowKit Go.Sort Go.Lib

theorem dvl_nought (b : Nat) (l : List UInt8) (h : ∀ x ∈ l, x = 48) : dvl b l = 0 := by
  rw [List.eq_replicate_of_mem h]
  exact dvl_zeros b _

theorem rf_noughts (M W F : List UInt8) (dot : Bool) (h : MantF M W F dot) (hz : ∀ x ∈ (dropZ (W ++ F)).drop 19, x = 48) (x : Int) :
    ∃ k : Nat, dvl 10 (W ++ F) = (rfF 10 19 M).mant * 10 ^ k ∧ (rfF 10 19 M).tr = false ∧ (rfF 10 19 M).mant < 10 ^ 19 ∧ ((rfF 10 19 M).mant ≠ 0 → rfExp (rfF 10 19 M) x = x - F.length + k) := by
  obtain ⟨i, hd, he, _, _⟩ := rf_mant 10 19 M W F dot h.eq (fun x hx => dig_ne46 (h.w x hx)) (fun x hx => dig_ne46 (h.f x hx)) h.nodot
  have hall : ∀ x ∈ W ++ F, isDig x := fun x hx => (List.mem_append.1 hx).elim (h.w x) (h.f x)
  refine ⟨((dropZ (W ++ F)).drop 19).length, ?_, ?_, ?_, ?_⟩
  · rw [i.mant, ← dvl_dropZ 10 (W ++ F)]
    conv => lhs; rw [← List.take_append_drop 19 (dropZ (W ++ F)), dvl_app, dvl_nought 10 _ hz, Nat.add_zero]
  · rw [i.tr, List.any_eq_false]
    intro x hx
    rw [hz x hx]; decide
  · rw [i.mant]
    refine Nat.lt_of_lt_of_le (dvl_lt 10 (by decide) _ fun x hx => okD_dv (by decide) (.inl (hall x ((List.dropWhile_sublist _).subset (List.mem_of_mem_take hx))))) (Nat.pow_le_pow_right (by decide) ?_)
    rw [List.length_take]; exact Nat.min_le_left _ _
  · intro h0
    unfold rfExp
    rw [if_neg h0]
    have h1 := i.nd
    have h2 := i.nm
    rw [List.length_drop]
    omega

theorem near_pow2 {d k : Nat} {p q : Int} {r : Nat} (h : Near (dX d p) (dQ p) r) (he : d ≠ 0 → p = q + k) : Near (dX (d * 10 ^ k) q) (dQ q) r := by
  by_cases h0 : d = 0
  · subst h0
    rw [Nat.zero_mul]
    obtain rfl := near_unique h (zero_near p)
    exact zero_near q
  · rw [he h0] at h; exact near_down d k r q h

theorem pfloat_noughts (l D : List UInt8) (p : Int) (K : Nat) (w : World) (hG : Globs w) (hT : GlobT K w) (hl : l.length ≤ 1000) (hi : DecIs l D p) (hz : ∀ x ∈ (dropZ D).drop 19, x = 48) :
    Calls Tryz.prog 23 #[.string ⟨(noBars l).toArray⟩, .int .i64 64] w (PlPost (dX (dvl 10 D) p) (dQ p) w) := by
  obtain ⟨W, F, dot, M, hM, hne, rfl, hx⟩ := hi
  have hnl := noBars_len l
  refine pfloat_of _ _ _ K w hT (by rw [ba_size]; omega) ?_
  rcases hx with ⟨h1, rfl⟩ | ⟨eb, sg, X, hp, hX, h1, rfl⟩
  · rw [h1] at hnl ⊢
    obtain ⟨k, e1, e2, e3, e4⟩ := rf_noughts M W F dot hM hz 0
    have hz := ba_first M [] W F dot hM hne
    rw [List.append_nil] at hz
    obtain ⟨h0, hb⟩ := hz
    have hrf := rf_plain ⟨M.toArray⟩ w (by rw [ba_size]; omega) W F dot (by rw [ba_of]; exact hM) hne
    rw [ba_of, e2] at hrf
    have := atof_dec ⟨M.toArray⟩ _ K _ w hG.glob hT h0 (by rw [ba_size]; omega) hb e3 hrf
    refine this.mono ?_
    rintro e w' ⟨r, hn, he, hb⟩
    refine ⟨r, ?_, he, hb⟩
    rw [e1]
    exact near_pow2 hn fun h => by rw [e4 h, Int.zero_sub]
  · rw [h1] at hnl ⊢
    obtain ⟨k, e1, e2, e3, e4⟩ := rf_noughts M W F dot hM hz ((exF X : Int) * sgZ sg)
    obtain ⟨h0, hb⟩ := ba_first M (powT eb sg X) W F dot hM hne
    have hrf := rf_pow ⟨(M ++ powT eb sg X).toArray⟩ w (by rw [ba_size]; omega) M W F dot eb sg X hM hne hp hX (ba_of _)
    rw [e2] at hrf
    have := atof_dec ⟨(M ++ powT eb sg X).toArray⟩ _ K _ w hG.glob hT h0 (by rw [ba_size]; omega) hb e3 hrf
    refine this.mono ?_
    rintro e w' ⟨r, hn, he, hb⟩
    refine ⟨r, ?_, he, hb⟩
    rw [e1]
    exact near_pow2 hn fun h => e4 h

end Go.Proofs.YtmhagigokgklaaaGreatDoor

/- The shortest digits of a number that is no power of two: they are read as it, and none that are fewer (plain). -/
namespace Go.Proofs.YtmhagigokgklaaaGreatDoor
open Go Go.RowKit Go.Lib
set_option exponentiation.threshold 3000

theorem near_between {X Y Z Q a : Nat} (hx : Near X Q a) (hy : Near Y Q a) (h1 : X ≤ Z) (h2 : Z ≤ Y) : Near Z Q a := by
  refine ⟨hx.pos, hx.inf, ?_, ?_⟩
  · rcases hx.lo with h | ⟨h, h'⟩
    · exact .inl h
    · exact .inr ⟨Nat.le_trans h h1, fun ho => Nat.lt_of_lt_of_le (h' ho) h1⟩
  · rcases hy.hi with h | ⟨h, h'⟩
    · exact .inl h
    · exact .inr ⟨Nat.le_trans h2 h, fun ho => Nat.lt_of_le_of_lt h2 (h' ho)⟩
theorem dX_mono {d d' : Nat} (q : Int) (h : d ≤ d') : dX d q ≤ dX d' q := by
  unfold dX
  exact Nat.mul_le_mul_left 2 (Nat.mul_le_mul_right _ (Nat.mul_le_mul_right _ h))

end Go.Proofs.YtmhagigokgklaaaGreatDoor

/- What is shown of a number has the form of a decimal text, and is that number (plain). -/
namespace Go.Proofs.YtmhagigokgklaaaGreatDoor
open Go Go.RowKit Go.Lib

def foldS (q : Nat) (l : List UInt8) : Nat := l.foldl (fun q c => nextN q (clsN c.toNat)) q
theorem foldS_cons (q : Nat) (c : UInt8) (l : List UInt8) : foldS q (c :: l) = foldS (nextN q (clsN c.toNat)) l := rfl
theorem dig_class {c : UInt8} (h : isDig c) : clsN c.toNat = 1 ∨ clsN c.toNat = 2 := by
  unfold clsN
  obtain ⟨h1, h2⟩ := h
  split
  · exact .inl rfl
  · rw [if_pos ⟨h1, h2⟩]; exact .inr rfl
theorem dig_class2 {c : UInt8} (h : isDig c) (h0 : c ≠ 48) : clsN c.toNat = 2 := by
  unfold clsN
  obtain ⟨h1, h2⟩ := h
  rw [if_neg (fun hh => h0 (UInt8.toNat_inj.1 (by rw [hh]; rfl))), if_pos ⟨h1, h2⟩]
theorem dig95 {x : UInt8} (h : isDig x) : x ≠ 95 := by rintro rfl; exact absurd h.2 (by decide)
theorem z48 (k : Nat) : ∀ x ∈ List.replicate k (48 : UInt8), x = 48 := fun _ hx => List.eq_of_mem_replicate hx

end Go.Proofs.YtmhagigokgklaaaGreatDoor

/- Whole numbers as bytes that begin with the least (plain). -/
namespace Go.Proofs.YtmhagigokgklaaaGreatDoor
open Go Go.RowKit

/-- the number that bytes are -/
def leV : List UInt8 → Nat
  | [] => 0
  | x :: l => x.toNat + 256 * leV l
/-- no nought above -/
def NormB (l : List UInt8) : Prop := l.getLast? ≠ some 0
def trimL (l : List UInt8) : List UInt8 := (l.reverse.dropWhile (· == 0)).reverse

theorem leV_app (l m : List UInt8) : leV (l ++ m) = leV l + 256 ^ l.length * leV m := by
  induction l with
  | nil => simp [leV]
  | cons x l ih =>
    rw [List.cons_append, leV, leV, ih, List.length_cons, Nat.pow_succ, Nat.mul_add, Nat.add_assoc, Nat.mul_comm (256 ^ l.length) 256, Nat.mul_assoc]
theorem leV_lt (l : List UInt8) : leV l < 256 ^ l.length := by
  induction l with
  | nil => simp [leV]
  | cons x l ih =>
    have := x.toNat_lt
    rw [leV, List.length_cons, Nat.pow_succ]
    omega
theorem leV_snoc (l : List UInt8) (x : UInt8) : leV (l ++ [x]) = leV l + 256 ^ l.length * x.toNat := by
  rw [leV_app]; simp [leV]
theorem leV_take_drop (l : List UInt8) (k : Nat) (h : k ≤ l.length) : leV l = leV (l.take k) + 256 ^ k * leV (l.drop k) := by
  conv => lhs; rw [← List.take_append_drop k l]
  rw [leV_app, List.length_take, Nat.min_eq_left h]
theorem leV_zeros (l : List UInt8) (h : ∀ x ∈ l, x = 0) : leV l = 0 := by
  induction l with
  | nil => rfl
  | cons x l ih =>
    rw [leV, ih fun y hy => h y (by simp [hy]), h x (by simp)]; rfl
theorem norm_ge (l : List UInt8) (h : NormB l) (h0 : l ≠ []) : 256 ^ (l.length - 1) ≤ leV l := by
  obtain ⟨m, x, rfl⟩ : ∃ m x, l = m ++ [x] := ⟨l.dropLast, l.getLast h0, (List.dropLast_concat_getLast h0).symm⟩
  have hx : x ≠ 0 := by
    intro hx
    apply h
    rw [List.getLast?_append, hx]; rfl
  have hx1 : 1 ≤ x.toNat := by
    rcases Nat.eq_zero_or_pos x.toNat with g | g
    · exact absurd (UInt8.toNat_inj.1 (by rw [g]; rfl)) hx
    · exact g
  rw [leV_snoc, List.length_append, List.length_singleton, Nat.add_sub_cancel]
  exact Nat.le_trans (Nat.le_mul_of_pos_right _ hx1) (Nat.le_add_left _ _)
theorem norm_zero (l : List UInt8) (h : NormB l) : leV l = 0 ↔ l = [] := by
  constructor
  · intro h0
    rcases Classical.em (l = []) with g | g
    · exact g
    · have := norm_ge l h g
      have := Nat.pow_pos (n := l.length - 1) (show 0 < 256 by decide)
      omega
  · rintro rfl; rfl
theorem norm_len (l : List UInt8) (h : NormB l) (K : Nat) (hK : leV l < 256 ^ K) : l.length ≤ K := by
  rcases Classical.em (l = []) with g | g
  · subst g; exact Nat.zero_le _
  · have h1 := norm_ge l h g
    have h2 := Nat.lt_of_le_of_lt h1 hK
    have := (Nat.pow_lt_pow_iff_right (a := 256) (by decide)).1 h2
    omega
theorem norm_lt (a b : List UInt8) (hb : NormB b) (h : a.length < b.length) : leV a < leV b := by
  have h1 := leV_lt a
  have h2 := norm_ge b hb (by rintro rfl; simp at h)
  exact Nat.lt_of_lt_of_le h1 (Nat.le_trans (Nat.pow_le_pow_right (by decide) (by omega)) h2)
/-- decided at place i, what stands above is alike -/
theorem cmp_at (a b : List UInt8) (i : Nat) (ha : i < a.length) (hb : i < b.length) (hl : a.length = b.length) (hd : a.drop (i + 1) = b.drop (i + 1)) (h : a[i].toNat < b[i].toNat) : leV a < leV b := by
  have ea := leV_take_drop a i (by omega)
  have eb := leV_take_drop b i (by omega)
  rw [List.drop_eq_getElem_cons ha, leV] at ea
  rw [List.drop_eq_getElem_cons hb, leV, ← hd] at eb
  have h1 := leV_lt (a.take i)
  rw [List.length_take, Nat.min_eq_left (by omega)] at h1
  rw [ea, eb]
  generalize 256 * leV (a.drop (i + 1)) = T
  have h2 : 256 ^ i * (a[i].toNat + T) + 256 ^ i ≤ 256 ^ i * (b[i].toNat + T) := by
    rw [← Nat.mul_succ]
    exact Nat.mul_le_mul_left _ (by omega)
  omega
theorem drop_eq (a b : List UInt8) (i : Nat) (ha : i < a.length) (hb : i < b.length) (hd : a.drop (i + 1) = b.drop (i + 1)) (h : a[i] = b[i]) : a.drop i = b.drop i := by
  rw [List.drop_eq_getElem_cons ha, List.drop_eq_getElem_cons hb, hd, h]

theorem trim_norm (l : List UInt8) : NormB (trimL l) := by
  unfold NormB trimL
  rw [List.getLast?_reverse]
  intro h
  cases hd : l.reverse.dropWhile (· == 0) with
  | nil => rw [hd] at h; simp at h
  | cons x t =>
    rw [hd] at h
    simp at h
    have := List.head?_dropWhile_not (p := fun x : UInt8 => x == 0) (l := l.reverse)
    rw [hd] at this
    simp at this
    exact this h
theorem trim_val (l : List UInt8) : leV (trimL l) = leV l := by
  unfold trimL
  have e : l.reverse = l.reverse.takeWhile (· == 0) ++ l.reverse.dropWhile (· == 0) := (List.takeWhile_append_dropWhile).symm
  have e2 : l = (l.reverse.dropWhile (· == 0)).reverse ++ (l.reverse.takeWhile (· == 0)).reverse := by
    rw [← List.reverse_append, ← e, List.reverse_reverse]
  conv => rhs; rw [e2, leV_app]
  rw [leV_zeros (l.reverse.takeWhile (· == 0)).reverse]
  · simp
  · intro x hx
    rw [List.mem_reverse] at hx
    have := List.all_eq_true.1 (List.all_takeWhile (p := fun x : UInt8 => x == 0) (l := l.reverse)) x hx
    simpa using this
theorem trim_take (l : List UInt8) (k : Nat) (hk : k ≤ l.length) (h : ∀ x ∈ l.drop k, x = 0) (h2 : k = 0 ∨ ∃ h : k - 1 < l.length, l[k - 1] ≠ 0) : trimL l = l.take k := by
  unfold trimL
  have e : l.reverse = (l.drop k).reverse ++ (l.take k).reverse := by rw [← List.reverse_append, List.take_append_drop]
  rw [e, List.dropWhile_append_of_pos (by intro x hx; rw [List.mem_reverse] at hx; simp [h x hx])]
  rcases h2 with rfl | ⟨h3, h4⟩
  · simp
  · have hk0 : k ≠ 0 ∨ k = 0 := by omega
    rcases hk0 with hk0 | rfl
    · have e3 : l.take k = l.take (k - 1) ++ [l[k - 1]] := by
        have := List.take_succ_eq_append_getElem h3
        rwa [show k - 1 + 1 = k by omega] at this
      rw [e3, List.reverse_append, List.reverse_singleton, List.singleton_append, List.dropWhile_cons, if_neg (by simpa using h4)]
      simp
    · simp
/-- a bit of bytes -/
theorem leV_byte (l : List UInt8) (j : Nat) (h : j < l.length) : leV l / 256 ^ j % 256 = l[j].toNat := by
  have e := leV_take_drop l j (by omega)
  rw [List.drop_eq_getElem_cons h, leV] at e
  have h1 := leV_lt (l.take j)
  rw [List.length_take, Nat.min_eq_left (by omega)] at h1
  have h2 := l[j].toNat_lt
  rw [e, Nat.add_mul_div_left _ _ (Nat.pow_pos (by decide)), Nat.div_eq_of_lt h1, Nat.zero_add]
  omega
theorem leV_bit (l : List UInt8) (n : Nat) (h : n / 8 < l.length) : l[n / 8].toNat / 2 ^ (n % 8) % 2 = leV l / 2 ^ n % 2 := by
  have h1 := leV_byte l (n / 8) h
  have e : (2 : Nat) ^ n = 256 ^ (n / 8) * 2 ^ (n % 8) := by
    rw [show (256 : Nat) = 2 ^ 8 from by decide, ← Nat.pow_mul, ← Nat.pow_add]; congr 1; omega
  rw [e, ← Nat.div_div_eq_div_mul]
  generalize leV l / 256 ^ (n / 8) = X at *
  rw [← h1]
  have h8 : n % 8 < 8 := Nat.mod_lt _ (by decide)
  generalize n % 8 = k at *
  have hk : k = 0 ∨ k = 1 ∨ k = 2 ∨ k = 3 ∨ k = 4 ∨ k = 5 ∨ k = 6 ∨ k = 7 := by omega
  rcases hk with rfl | rfl | rfl | rfl | rfl | rfl | rfl | rfl <;> omega

/-- one step of a product -/
theorem times_step (o : List UInt8) (A m y T : Nat) (h : leV o + 256 ^ o.length * m = A) (hb : m + y = T) :
    leV (o ++ [UInt8.ofNat (T % 256)]) + 256 ^ (o.length + 1) * (T / 256) = A + 256 ^ o.length * y := by
  rw [leV_snoc, UInt8.toNat_ofNat', Nat.mod_eq_of_lt (show T % 256 < 2 ^ 8 by omega), Nat.pow_succ, ← h, Nat.mul_assoc, Nat.add_assoc, Nat.add_assoc, ← Nat.mul_add, ← Nat.mul_add, hb]
  congr 2
  omega
/-- one step of a difference -/
theorem minus_step (o : List UInt8) (A B P r x y r' : Nat) (P' : UInt8) (h : A + P * r = leV o + B) (hP : P = 256 ^ o.length) (hb : x + 256 * r' = P'.toNat + y + r) :
    A + P * x + 256 ^ (o.length + 1) * r' = leV (o ++ [P']) + (B + P * y) := by
  have h2 : 256 ^ (o.length + 1) * r' = P * (256 * r') := by rw [Nat.pow_succ, hP, Nat.mul_assoc]
  rw [leV_snoc, h2, ← hP]
  have h3 : P * x + P * (256 * r') = P * P'.toNat + P * y + P * r := by rw [← Nat.mul_add, ← Nat.mul_add, ← Nat.mul_add, hb]
  omega
theorem leV_take_succ (l : List UInt8) (k : Nat) (h : k < l.length) : leV (l.take (k + 1)) = leV (l.take k) + 256 ^ k * l[k].toNat := by
  rw [List.take_succ_eq_append_getElem h, leV_snoc, List.length_take, Nat.min_eq_left (by omega)]
end Go.Proofs.YtmhagigokgklaaaGreatDoor

/- The reference's whole numbers: trim, cmp, bits (walked). -/
namespace Go.Proofs.YtmhagigokgklaaaGreatDoor
open Go Go.RowKit

/-- the slice v holds the bytes l -/
def NumB (w : World) (v : Value) (l : List UInt8) : Prop := (v = .slice Option.none 0 0 ∧ l = []) ∨
  ∃ b o c, v = .slice (some ⟨b, o, Option.none⟩) l.length c ∧ l.length ≤ c ∧ b < w.heap.size ∧ ∀ j x, l[j]? = some x → w.cell? ⟨b, o + j, Option.none⟩ = some (.int .u8 (x.toNat : Int))
/-- the slice v is the number n, without noughts above -/
def IsNum (w : World) (v : Value) (n : Nat) : Prop := ∃ l, NumB w v l ∧ leV l = n ∧ NormB l

theorem NumB.go {w w' : World} {v : Value} {l : List UInt8} (h : NumB w v l) (hb : Below w.heap.size w w') : NumB w' v l := by
  rcases h with h | ⟨b, o, c, h1, h2, h3, h4⟩
  · exact .inl h
  · exact .inr ⟨b, o, c, h1, h2, Nat.lt_of_lt_of_le h3 hb.size, fun j x hj => (hb.cell (p := ⟨b, o + j, Option.none⟩) h3).trans (h4 j x hj)⟩
theorem IsNum.go {w w' : World} {v : Value} {n : Nat} (h : IsNum w v n) (hb : Below w.heap.size w w') : IsNum w' v n := by
  obtain ⟨l, h1, h2, h3⟩ := h
  exact ⟨l, h1.go hb, h2, h3⟩

set_option maxRecDepth 100000 in
set_option maxHeartbeats 1000000 in
theorem trim_any (v : Value) (l : List UInt8) (w : World) (h : NumB w v l) (hl : l.length ≤ 1000000) :
    Calls Tryz.prog 64 #[v] w fun e w' => (∃ v', e = .returned v' ∧ NumB w v' (trimL l)) ∧ w' = w := by
  rcases h with ⟨rfl, rfl⟩ | ⟨b, o, c, rfl, hc, hb, hcell⟩
  · go_enter Tryz.func64, Tryz.ntmps64
    go_wp2_with fail
    go_loopg [0] 1 (fun _ s1 wr => s1 = .slice Option.none 0 0 ∧ wr = w)
    case atStart => exact ⟨rfl, rfl⟩
    case round =>
      obtain ⟨rfl, rfl⟩ := hrel
      go_wp2_with fail
      go_ret
      exact ⟨⟨_, rfl, .inl ⟨rfl, rfl⟩⟩, rfl⟩
  · have HC := Lib.hid hcell
    clear hcell
    go_enter Tryz.func64, Tryz.ntmps64
    go_wp2_with fail
    go_loopg [0] l.length (fun g s1 wr => g ≤ l.length ∧ (∀ x ∈ l.drop g, x = 0) ∧ s1 = .slice (some ⟨b, o, Option.none⟩) g c ∧ wr = w)
    case atStart => exact ⟨Nat.le_refl _, by simp, rfl, rfl⟩
    case round =>
      obtain ⟨hk, hz, rfl, rfl⟩ := hrel
      have HZ := Lib.hid hz
      clear hz
      by_cases h0 : gk = 0
      · subst h0
        have hres : trimL l = l.take 0 := trim_take l 0 (Nat.zero_le _) HZ.out (.inl rfl)
        go_wp2_with fail
        go_ret
        refine ⟨⟨_, rfl, .inr ⟨b, o, c, ?_, ?_, hb, ?_⟩⟩, rfl⟩
        · rw [hres]; rfl
        · rw [hres]; simp
        · rw [hres]; simp
      · obtain ⟨k, rfl⟩ : ∃ k, gk = k + 1 := ⟨gk - 1, by omega⟩
        clear h0
        have hkl : k < l.length := by omega
        have c1 := HC.out k l[k] (List.getElem?_eq_getElem hkl)
        have hkc : k ≤ c := by omega
        have hkp : ((k + 1 : Nat) : Int) - 1 = (k : Int) := by omega
        have hkp2 : (k : Int) + 1 - 1 = (k : Int) := by omega
        by_cases hx : l[k] = 0
        · rw [hx] at c1
          have hz' : ∀ x ∈ l.drop k, x = 0 := by
            rw [List.drop_eq_getElem_cons hkl]
            intro x hxx
            rcases List.mem_cons.1 hxx with rfl | h1
            · exact hx
            · exact HZ.out x h1
          have HZ' := Lib.hid hz'
          clear hz' hx
          go_wp2_with fail
          go_roundg k
          case measure => omega
          case rel => exact ⟨by omega, HZ'.out, rfl, rfl⟩
        · have hres : trimL l = l.take (k + 1) := trim_take l (k + 1) hk HZ.out (.inr ⟨hkl, hx⟩)
          have hxn : ((l[k].toNat : Int) == 0) = false := by
            rw [beq_eq_false_iff_ne]
            intro h
            exact hx (UInt8.toNat_inj.1 (by show l[k].toNat = 0; omega))
          have HR := Lib.hid hres
          clear hres hx
          go_wp2_with fail
          go_ret
          refine ⟨⟨_, rfl, .inr ⟨b, o, c, ?_, ?_, hb, ?_⟩⟩, rfl⟩
          · rw [HR.out, List.length_take, Nat.min_eq_left hk]; rfl
          · rw [HR.out, List.length_take]; omega
          · rw [HR.out]
            intro j x hj
            exact HC.out j x (by rw [List.getElem?_take] at hj; split at hj; exact hj; simp at hj)

theorem NumB.form {w : World} {v : Value} {l : List UInt8} (h : NumB w v l) : ∃ p c, v = .slice p l.length c := by
  rcases h with ⟨rfl, rfl⟩ | ⟨b, o, c, rfl, _⟩
  · exact ⟨_, _, rfl⟩
  · exact ⟨_, _, rfl⟩
theorem NumB.row {w : World} {v : Value} {l : List UInt8} (h : NumB w v l) (h0 : 0 < l.length) : ∃ b o c, v = .slice (some ⟨b, o, Option.none⟩) l.length c ∧ l.length ≤ c ∧ b < w.heap.size ∧ ∀ j x, l[j]? = some x → w.cell? ⟨b, o + j, Option.none⟩ = some (.int .u8 (x.toNat : Int)) := by
  rcases h with ⟨rfl, rfl⟩ | h
  · simp at h0
  · exact h

def cmpN (x y : Nat) : Int := if x < y then -1 else if y < x then 1 else 0

set_option maxRecDepth 100000 in
set_option maxHeartbeats 1000000 in
theorem cmp_list (va vb : Value) (a b : List UInt8) (w : World) (ha : NumB w va a) (hb : NumB w vb b) (na : NormB a) (nb : NormB b) (la : a.length ≤ 1000000) (lb : b.length ≤ 1000000) :
    Calls Tryz.prog 67 #[va, vb] w fun e w' => e = .returned (.int .i64 (cmpN (leV a) (leV b))) ∧ Below w.heap.size w w' := by
  by_cases hlen : a.length = b.length
  · by_cases h0 : a.length = 0
    · have h0b : b.length = 0 := by omega
      obtain ⟨pa, ca, rfl⟩ := ha.form
      obtain ⟨pb, cb, rfl⟩ := hb.form
      have e1 : a = [] := List.eq_nil_of_length_eq_zero h0
      have e2 : b = [] := List.eq_nil_of_length_eq_zero h0b
      subst e1 e2
      clear hlen h0 h0b ha hb na nb la lb
      go_enter Tryz.func67, Tryz.ntmps67
      go_wp2_with fail
      go_loopg [5] 1 (fun _ s5 wr => s5 = .int .i64 (-1) ∧ wr = w)
      case atStart => exact ⟨rfl, rfl⟩
      case round =>
        obtain ⟨rfl, rfl⟩ := hrel
        go_wp2_with fail
        go_ret
        exact ⟨rfl, Below.refl _ _⟩
    · obtain ⟨ba, oa, ca, rfl, hca, hba, cela⟩ := ha.row (by omega)
      obtain ⟨bb, ob, cb, rfl, hcb, hbb, celb⟩ := hb.row (by omega)
      have CA := Lib.hid cela
      have CB := Lib.hid celb
      clear ha hb cela celb
      have HL := Lib.hid hlen
      rw [← hlen] at hcb lb ⊢
      have hab : decide (a.length = b.length) = true := by rw [decide_eq_true_eq]; exact HL.out
      have NA := Lib.hid na
      have NB := Lib.hid nb
      clear na nb hlen hab
      go_enter Tryz.func67, Tryz.ntmps67
      go_wp2_with fail
      go_loopg [5] a.length (fun g s5 wr => ∃ z : Int, z = (g : Int) - 1 ∧ g ≤ a.length ∧ s5 = .int .i64 z ∧ a.drop g = b.drop g ∧ Below w.heap.size w wr)
      case atStart => exact ⟨_, rfl, Nat.le_refl _, rfl, by rw [List.drop_length, HL.out, List.drop_length], Below.refl _ _⟩
      case round =>
        obtain ⟨z, hz, hk, rfl, hd, hbw⟩ := hrel
        have HBW := Lib.hid hbw
        clear hbw
        have HD := Lib.hid hd
        clear hd
        by_cases h1 : gk = 0
        · subst h1
          have hres : cmpN (leV a) (leV b) = 0 := by
            have : a = b := HD.out
            rw [this]; unfold cmpN; simp
          obtain rfl : z = -1 := by omega
          have HR := Lib.hid hres
          clear hz hres
          go_wp2_with fail
          go_ret
          exact ⟨by rw [HR.out]; rfl, HBW.out⟩
        · obtain ⟨k, rfl⟩ : ∃ k, gk = k + 1 := ⟨gk - 1, by omega⟩
          obtain rfl : z = (k : Int) := by omega
          clear hz h1
          have hka : k < a.length := by omega
          have hkb : k < b.length := by have := HL.out; omega
          have d1 : wr.cell? ⟨ba, oa + k, Option.none⟩ = some (.int .u8 (a[k].toNat : Int)) := (HBW.out.cell (p := ⟨ba, oa + k, Option.none⟩) hba).trans (CA.out k a[k] (List.getElem?_eq_getElem hka))
          have d2 : wr.cell? ⟨bb, ob + k, Option.none⟩ = some (.int .u8 (b[k].toNat : Int)) := (HBW.out.cell (p := ⟨bb, ob + k, Option.none⟩) hbb).trans (CB.out k b[k] (List.getElem?_eq_getElem hkb))
          have hkc : k < ca := by omega
          have hkc2 : k < cb := by omega
          have hA := cmp_at a b k hka hkb HL.out HD.out
          have hB := cmp_at b a k hkb hka HL.out.symm HD.out.symm
          have hC := drop_eq a b k hka hkb HD.out
          have hEq : a[k].toNat = b[k].toNat → a[k] = b[k] := UInt8.toNat_inj.1
          have hkz : (0 : Int) ≤ (k : Int) := by omega
          generalize a[k].toNat = x at *
          generalize b[k].toNat = y at *
          rcases Nat.lt_trichotomy x y with hxy | hxy | hxy
          · have HR : Hid (cmpN (leV a) (leV b) = -1) := Lib.hid (by unfold cmpN; rw [if_pos (hA hxy)])
            have hxi : (x : Int) < (y : Int) := by omega
            clear hA hB hC hEq hxy
            go_wp2_with fail
            go_quiet (fail)
            go_wp2
            go_ret
            exact ⟨by rw [HR.out]; rfl, bDrewN HBW.out _⟩
          · have HR : Hid (a.drop k = b.drop k) := Lib.hid (hC (hEq hxy))
            have hxi : ¬ (x : Int) < (y : Int) := by omega
            have hyi : ¬ (y : Int) < (x : Int) := by omega
            clear hA hB hC hEq
            go_wp2_with fail
            go_quiet (fail)
            go_wp2
            go_quiet (fail)
            go_wp2
            go_roundg k
            case measure => omega
            case rel => exact ⟨_, rfl, by omega, by go_num, HR.out, by first | exact bDrewN HBW.out _ | exact bDrewN (bDrewN HBW.out _) _⟩
          · have HR : Hid (cmpN (leV a) (leV b) = 1) := Lib.hid (by unfold cmpN; rw [if_neg (by have := hB hxy; omega), if_pos (hB hxy)])
            have hxi : ¬ (x : Int) < (y : Int) := by omega
            have hyi : (y : Int) < (x : Int) := by omega
            clear hA hB hC hEq hxy
            go_wp2_with fail
            go_quiet (fail)
            go_wp2
            go_quiet (fail)
            go_wp2
            go_ret
            exact ⟨by rw [HR.out]; rfl, by first | exact bDrewN HBW.out _ | exact bDrewN (bDrewN HBW.out _) _⟩
  · obtain ⟨pa, ca, rfl⟩ := ha.form
    obtain ⟨pb, cb, rfl⟩ := hb.form
    have HA := Lib.hid (norm_lt a b nb)
    have HB := Lib.hid (norm_lt b a na)
    clear ha hb na nb
    generalize a.length = x at *
    generalize b.length = y at *
    have hne : ((x : Int) != (y : Int)) = true := by rw [bne_iff_ne]; omega
    by_cases hlt : x < y
    · have HR : Hid (cmpN (leV a) (leV b) = -1) := Lib.hid (by unfold cmpN; rw [if_pos (HA.out hlt)])
      have hi : (x : Int) < (y : Int) := by omega
      clear HA HB hlen
      go_enter Tryz.func67, Tryz.ntmps67
      go_wp2_with fail
      go_ret
      exact ⟨by rw [HR.out]; rfl, Below.refl _ _⟩
    · have hgt : y < x := by omega
      have HR : Hid (cmpN (leV a) (leV b) = 1) := Lib.hid (by unfold cmpN; rw [if_neg (by have := HB.out hgt; omega), if_pos (HB.out hgt)])
      have hi : ¬ (x : Int) < (y : Int) := by omega
      clear HA HB hlen hlt
      go_enter Tryz.func67, Tryz.ntmps67
      go_wp2_with fail
      go_ret
      exact ⟨by rw [HR.out]; rfl, Below.refl _ _⟩
end Go.Proofs.YtmhagigokgklaaaGreatDoor
