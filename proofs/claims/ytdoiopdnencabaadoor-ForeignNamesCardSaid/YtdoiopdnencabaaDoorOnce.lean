/- The law ForeignOnce, walked: it returns true. -/
import Derived.Test.YtdoiopdnencabaaDoorNames
namespace Go.Proofs.YtdoiopdnencabaaDoor
open Go Go.RowKit

theorem ats_at' {w : World} {va : Option Addr} {n c : Nat} {l : List At} (h : AtsAt w (.slice va n c) l) {k : Nat} (hk : k < l.length) :
    ∃ b off, va = some ⟨b, off, none⟩ ∧ b < w.heap.size ∧ w.cell? ⟨b, off + k * 3, none⟩ = some (.string l[k].sp) ∧ w.cell? ⟨b, off + k * 3 + 1, none⟩ = some (.string l[k].nm) ∧ w.cell? ⟨b, off + k * 3 + 2, none⟩ = some (.string l[k].va) := by
  rcases h with ⟨rfl, _⟩ | ⟨b, off, c', he, hlt, _, _, hc⟩
  · simp at hk
  · simp only [Value.slice.injEq] at he
    obtain ⟨rfl, _, _⟩ := he
    obtain ⟨h0, h1, h2⟩ := hc k l[k] (by simp [hk])
    exact ⟨b, off, rfl, hlt, h0, h1, h2⟩

theorem tag_size (sp nm : ByteArray) (h : nm.size ≤ maxLen) : (tagB sp nm).size ≤ maxLen := by
  unfold tagB
  split
  · have := great_size tagsOk (nm := nm) (by unfold maxLen at h; omega)
    unfold maxLen; omega
  · exact h

set_option maxRecDepth 100000 in
set_option maxHeartbeats 4000000 in
theorem once_walk (sp nm : ByteArray) (v : Value) (l : List At) (w : World) (hg : Glob w) (hv : AtsAt w v l) (hn : ∀ x ∈ l, x.nm.size ≤ maxLen) (hns : nm.size ≤ maxLen) :
    Calls Tryd.prog 4 #[.string sp, .string nm, v] w fun e w' => e = .returned (.bool true) ∧ Below w.heap.size w w' := by
  have hlen := hv.len
  have hns' := hns
  unfold maxLen at hns'
  obtain ⟨va, vc, rfl⟩ := hv.form
  by_cases b1 : 4096 < nm.size
  · go_enter Tryd.func4, Tryd.ntmps4
    go_wp2_with fail
    refine (works_any _ hg).mono ?_
    rintro e w1 ⟨rfl, hb1⟩
    go_wp2_with fail
    go_ret
    exact ⟨rfl, hb1⟩
  · by_cases b2 : 4096 < l.length
    · go_enter Tryd.func4, Tryd.ntmps4
      go_wp2_with fail
      refine (works_any _ hg).mono ?_
      rintro e w1 ⟨rfl, hb1⟩
      go_wp2_with fail
      go_ret
      exact ⟨rfl, hb1⟩
    · go_enter Tryd.func4, Tryd.ntmps4
      go_wp2_with fail
      refine (works_any _ hg).mono ?_
      rintro e w1 ⟨rfl, hb1⟩
      have hv1 := hv.below (Nat.le_refl _) hb1
      go_wp2_with fail
      refine (attrs_any sp _ l w1 (hg.below hg.lt hb1) hv1 (by omega) hn).mono ?_
      rintro e w2 ⟨va', rfl, ho, hb2⟩
      have hB2 := hb1.trans (hb2.mono hb1.size)
      have hLa : (l.map (attrA sp)).length = l.length := List.length_map _
      have hnn : ∀ x ∈ l.map (attrA sp), x.nm.size ≤ maxLen := by
        intro x hx
        obtain ⟨y, hy, rfl⟩ := List.mem_map.1 hx
        exact attr_size sp y (hn y hy)
      have htw : (l.map (attrA sp)).map (attrA sp) = l.map (attrA sp) := by
        rw [List.map_map]
        exact List.map_congr_left (fun x _ => attr_twice sp x)
      obtain ⟨La, hL⟩ : ∃ La, La = l.map (attrA sp) := ⟨_, rfl⟩
      rw [← hL] at ho hLa hnn htw
      have hva : ∀ k, (hk : k < l.length) → (hk' : k < La.length) → La[k].va = l[k].va := by
        intro k hk hk'
        subst hL
        rw [List.getElem_map, attr_va]
      obtain ⟨aa, ac, hf⟩ := ho.form
      rw [hLa] at hf
      subst hf
      have ha := ho.ats (by omega)
      have HVA := Lib.hid hva
      clear hva hv1 hL
      go_wp2_with fail
      refine (attrs_any sp _ La w2 (hg.below hg.lt hB2) ha (by omega) hnn).mono ?_
      rintro e w3 ⟨vb', rfl, ho2, hb3⟩
      rw [htw] at ho2
      have hB3 := hB2.trans (hb3.mono hB2.size)
      have ha3 := ha.below (Nat.le_refl _) hb3
      have hb3' := ho2.ats (by omega)
      go_wp2_with fail
      refine (same_any _ _ La La w3 ha3 hb3').mono ?_
      rintro e w4 ⟨rfl, hb4⟩
      rw [sameB_refl]
      have hB4 := hB3.trans (hb4.mono hB3.size)
      have HA := Lib.hid (ha3.below (Nat.le_refl _) hb4)
      have HV := Lib.hid hv
      have hg4 := hg.below hg.lt hB4
      have htag := tag_twice sp nm
      have HT := Lib.hid htag
      clear hb1 hb2 ho hnn htw ha ho2 hB2 hb3 ha3 hb3' hB3 hb4 hv htag
      go_wp2_with fail
      go_loopw [11] (fun i wr => ∃ k : Nat, k ≤ l.length ∧ i = .int .i64 k ∧ Below w4.heap.size w4 wr) (fun i _ => l.length - (intOf i).toNat)
      case atStart => exact ⟨0, by omega, rfl, Below.refl _ _⟩
      case round =>
        obtain ⟨k, hk, rfl, hb⟩ := hrel
        by_cases hlt : k < l.length
        · obtain ⟨b, off, rfl, hblt, c0, c1, c2⟩ := ats_at (HV.out.below (Nat.le_refl _) (hB4.trans (hb.mono hB4.size))) hlt
          obtain ⟨b', off', rfl, hblt', d0, d1, d2⟩ := ats_at' (HA.out.below (Nat.le_refl _) hb) (k := k) (by omega)
          rw [HVA.out k hlt (by omega)] at d2
          clear c0 c1 d0 d1
          generalize l[k] = x at *
          go_wp2_with fail
          go_quiet (fail)
          go_wp2
          go_roundw
          case rel => exact ⟨k + 1, by omega, by go_num, bDrewN hb _⟩
          case measure => simp [intOf] <;> omega
        · obtain rfl : k = l.length := by omega
          have hB5 := hB4.trans (hb.mono hB4.size)
          go_wp2_with fail
          refine (tag_any sp nm wr (hg.below hg.lt hB5) hns).mono ?_
          rintro e w5 ⟨rfl, hb5⟩
          have hB6 := hB5.trans (hb5.mono hB5.size)
          go_wp2_with fail
          refine (tag_any sp (tagB sp nm) w5 (hg.below hg.lt hB6) (tag_size sp nm hns)).mono ?_
          rintro e w6 ⟨rfl, hb6⟩
          rw [HT.out]
          have hB7 := hB6.trans (hb6.mono hB6.size)
          go_wp2_with fail
          go_ret
          exact ⟨ret_bool (by simp), hB7⟩
end Go.Proofs.YtdoiopdnencabaaDoor
