/- The law OpenScopes, walked: it returns true. -/
import Derived.Test.YtibfiblajicdpaaDoorO
namespace Go.Proofs.YtibfiblajicdpaaDoor
open Go Go.RowKit

/-- the slice value v holds the elements l -/
def ElsAt (w : World) (v : Value) (l : List El) : Prop :=
  (l = [] ∧ ∃ a c, v = .slice a 0 c) ∨
  (∃ b off c, v = .slice (some ⟨b, off, Option.none⟩) l.length c ∧ b < w.heap.size ∧ 0 < l.length ∧ l.length ≤ 9223372036854775807 ∧
    ∀ j x, l[j]? = some x → w.cell? ⟨b, off + j * 3, Option.none⟩ = some (.int .i64 x.id) ∧ w.cell? ⟨b, off + j * 3 + 1, Option.none⟩ = some (.string x.sp) ∧ w.cell? ⟨b, off + j * 3 + 2, Option.none⟩ = some (.string x.nm))

theorem foundB_mono {P E E' : El → Bool} (h : ∀ x, E x = true → E' x = true) : ∀ l, foundB P E' l = true → foundB P E l = true
  | [], h' => by simp [foundB] at h'
  | x :: r, h' => by
    unfold foundB at h' ⊢
    cases hP : P x
    · rw [hP] at h'
      simp only [Bool.false_eq_true, if_false] at h' ⊢
      cases hE : E x
      · cases hE' : E' x
        · rw [hE'] at h'
          simp only [Bool.false_eq_true, if_false] at h' ⊢
          exact foundB_mono h r h'
        · rw [hE'] at h'; simp at h'
      · rw [h x hE] at h'; simp at h'
    · simp

theorem endE_plain_list (x : El) (h : endE 0 x = true) : endE 1 x = true := by
  simp only [endE, endsB] at *
  simp only [if_true, show ¬ ((1 : Int) = 0) from by decide, if_false] at *
  rw [h]; rfl
theorem endE_plain_button (x : El) (h : endE 0 x = true) : endE 2 x = true := by
  simp only [endE, endsB] at *
  simp only [if_true, show ¬ ((2 : Int) = 0) from by decide, show ¬ ((2 : Int) = 1) from by decide, if_false] at *
  rw [h]; rfl

def xyE : El := ⟨0, (⟨#[104, 116, 109, 108]⟩ : ByteArray), (⟨#[120, 45, 121]⟩ : ByteArray)⟩
theorem xy_end (s : Int) (h : s = 0 ∨ s = 1 ∨ s = 2 ∨ s = 3) : endE s xyE = false := by
  rcases h with rfl | rfl | rfl | rfl <;> decide +kernel
theorem xy_end4 : endE 4 xyE = true := by decide +kernel
theorem xy_one {ns : List ByteArray} (h : (⟨#[120, 45, 121]⟩ : ByteArray) ∉ ns) : oneE ns xyE = false := oneB_no h

theorem found_xy {ns : List ByteArray} (h : (⟨#[120, 45, 121]⟩ : ByteArray) ∉ ns) (l : List El) (s : Int) (hs : s = 0 ∨ s = 1 ∨ s = 2 ∨ s = 3) : foundB (oneE ns) (endE s) (l ++ [xyE]).reverse = foundB (oneE ns) (endE s) l.reverse := by
  rw [List.reverse_append]
  simp only [List.reverse_cons, List.reverse_nil, List.nil_append, List.cons_append, foundB]
  rw [xy_one h, xy_end s hs]
  simp
theorem found_xy4 {ns : List ByteArray} (h : (⟨#[120, 45, 121]⟩ : ByteArray) ∉ ns) (l : List El) : foundB (oneE ns) (endE 4) (l ++ [xyE]).reverse = false := by
  rw [List.reverse_append]
  simp only [List.reverse_cons, List.reverse_nil, List.nil_append, List.cons_append, foundB]
  rw [xy_one h, xy_end4]
  simp

theorem els_at {w W : World} {va : Option Addr} {c : Nat} {l : List El} (h : ElsAt w (.slice va l.length c) l) (hb : Below w.heap.size w W) {k : Nat} (hk : k < l.length) :
    ∃ b off, va = some ⟨b, off, Option.none⟩ ∧ W.cell? ⟨b, off + k * 3, Option.none⟩ = some (.int .i64 l[k].id) ∧ W.cell? ⟨b, off + k * 3 + 1, Option.none⟩ = some (.string l[k].sp) ∧ W.cell? ⟨b, off + k * 3 + 2, Option.none⟩ = some (.string l[k].nm) := by
  rcases h with ⟨rfl, _⟩ | ⟨b, off, c', he, hlt, _, _, hc⟩
  · simp at hk
  · cases he
    obtain ⟨h0, h1, h2⟩ := hc k l[k] (by simp [hk])
    exact ⟨b, off, rfl, (hb.cell (p := ⟨b, off + k * 3, Option.none⟩) hlt).trans h0, (hb.cell (p := ⟨b, off + k * 3 + 1, Option.none⟩) hlt).trans h1, (hb.cell (p := ⟨b, off + k * 3 + 2, Option.none⟩) hlt).trans h2⟩

theorem strs_at {w W : World} {va : Option Addr} {c : Nat} {ns : List ByteArray} (h : StrsAt w (.slice va ns.length c) ns) (hb : Below w.heap.size w W) {k : Nat} (hk : k < ns.length) :
    ∃ b off, va = some ⟨b, off, Option.none⟩ ∧ W.cell? ⟨b, off + k, Option.none⟩ = some (.string ns[k]) := by
  rcases h with ⟨rfl, _⟩ | ⟨b, off, c', he, hlt, _, _, hc⟩
  · simp at hk
  · cases he
    have h0 := hc k hk
    refine ⟨b, off, rfl, (hb.cell (p := ⟨b, off + k, Option.none⟩) hlt).trans ?_⟩
    rw [h0]; simp [hk]

theorem xy_step {ns : List ByteArray} {k : Nat} (hk : k < ns.length) (h : (⟨#[120, 45, 121]⟩ : ByteArray) ∉ ns.take k) (hne : (ns[k].toList == [120, 45, 121]) = false) : (⟨#[120, 45, 121]⟩ : ByteArray) ∉ ns.take (k + 1) := by
  rw [List.take_succ_eq_append_getElem hk, List.mem_append]
  rintro (h1 | h1)
  · exact h h1
  · simp only [List.mem_singleton] at h1
    rw [← h1] at hne
    revert hne; decide +kernel

set_option maxRecDepth 100000 in
set_option maxHeartbeats 8000000 in
theorem scopes_walk (vl vn : Value) (l : List El) (ns : List ByteArray) (w : World) (hg : Glob w) (hl : ElsAt w vl l) (hn : StrsAt w vn ns) :
    Calls Tryd.prog 3 #[vl, vn] w fun e w' => e = .returned (.bool true) ∧ Below w.heap.size w w' := by
  obtain ⟨la, ll, lc, rfl⟩ : ∃ a n c, vl = .slice a n c := by
    rcases hl with ⟨_, a, c, rfl⟩ | ⟨b, off, c, rfl, _⟩
    · exact ⟨_, _, _, rfl⟩
    · exact ⟨_, _, _, rfl⟩
  obtain rfl : ll = l.length := by
    rcases hl with ⟨rfl, a, c, he⟩ | ⟨b, off, c, he, _⟩
    · cases he; rfl
    · cases he; rfl
  obtain ⟨na, nl, nc, rfl⟩ : ∃ a n c, vn = .slice a n c := by
    rcases hn with ⟨_, a, c, rfl⟩ | ⟨b, off, c, rfl, _⟩
    · exact ⟨_, _, _, rfl⟩
    · exact ⟨_, _, _, rfl⟩
  obtain rfl : nl = ns.length := by
    rcases hn with ⟨rfl, a, c, he⟩ | ⟨b, off, c, he, _⟩
    · cases he; rfl
    · cases he; rfl
  have hnl : ns.length ≤ 9223372036854775807 := by
    rcases hn with ⟨rfl, _⟩ | ⟨b, off, c, he, _, h, _⟩
    · simp
    · exact h
  by_cases hbig : 3000 < l.length
  · go_enter Tryd.func3, Tryd.ntmps3
    go_wp2_with (go_at_call 7; refine (works_any _ hg).mono ?_; rintro e w' ⟨rfl, hb⟩)
    go_ret
    exact ⟨rfl, hb⟩
  · have hsm : l.length ≤ 3000 := by omega
    clear hbig
    go_enter Tryd.func3, Tryd.ntmps3
    go_wp2_with fail
    refine (works_any _ hg).mono ?_
    rintro e w1 ⟨rfl, hb1⟩
    have s0 : St w w1.heap.size (l.take 0) (w1.alloc (.cells #[.slice Option.none 0 0] 27)) := St.new hg hb1 _ (by simp)
    have HN := Lib.hid hn
    have HL := Lib.hid hl
    clear hn hl
    go_wp2_with fail
    go_loopw [7] (fun i wr => ∃ k : Nat, k ≤ l.length ∧ i = .int .i64 k ∧ St w w1.heap.size (l.take k) wr) (fun i _ => l.length - (intOf i).toNat)
    case atStart => exact ⟨0, by omega, rfl, s0⟩
    case round =>
      obtain ⟨k, hk, rfl, s1⟩ := hrel
      by_cases hlt : k < l.length
      · obtain ⟨b, off, rfl, q0, q1, q2⟩ := els_at HL.out s1.below hlt
        have hts : l.take (k + 1) = l.take k ++ [l[k]] := List.take_succ_eq_append_getElem hlt
        have hpu := st_push s1 l[k] (by simp; omega)
        rw [← hts] at hpu
        have HP := Lib.hid hpu
        clear hpu hts
        generalize l[k] = x at *
        go_wp2_with fail
        refine HP.out.mono ?_
        rintro e w2 ⟨rfl, s2⟩
        go_wp2_with fail
        go_roundw
        case rel => exact ⟨k + 1, by omega, by go_num, s2⟩
        case measure => simp [intOf] <;> omega
      · obtain rfl : k = l.length := by omega
        rw [List.take_length] at s1
        go_wp2_with fail
        refine (st_has s1 0 _ ns (HN.out.below (Nat.le_refl _) s1.below)).mono ?_
        rintro e w2 ⟨rfl, hb2⟩
        have s2 := s1.go hb2
        clear hb2
        go_wp2_with fail
        refine (st_has s2 1 _ ns (HN.out.below (Nat.le_refl _) s2.below)).mono ?_
        rintro e w3 ⟨rfl, hb3⟩
        have s3 := s2.go hb3
        clear hb3
        go_wp2_with fail
        refine (st_has s3 2 _ ns (HN.out.below (Nat.le_refl _) s3.below)).mono ?_
        rintro e w4 ⟨rfl, hb4⟩
        have s4 := s3.go hb4
        clear hb4
        go_wp2_with fail
        refine (st_has s4 3 _ ns (HN.out.below (Nat.le_refl _) s4.below)).mono ?_
        rintro e w5 ⟨rfl, hb5⟩
        have s5 := s4.go hb5
        clear hb5 s1 s2 s3 s4
        have m1 := foundB_mono (P := oneE ns) endE_plain_list l.reverse
        have m2 := foundB_mono (P := oneE ns) endE_plain_button l.reverse
        have F0 := fun (h : (⟨#[120, 45, 121]⟩ : ByteArray) ∉ ns) => found_xy h l 0 (by simp)
        have F1 := fun (h : (⟨#[120, 45, 121]⟩ : ByteArray) ∉ ns) => found_xy h l 1 (by simp)
        have F2 := fun (h : (⟨#[120, 45, 121]⟩ : ByteArray) ∉ ns) => found_xy h l 2 (by simp)
        have F3 := fun (h : (⟨#[120, 45, 121]⟩ : ByteArray) ∉ ns) => found_xy h l 3 (by simp)
        generalize foundB (oneE ns) (endE 0) l.reverse = f0 at *
        generalize foundB (oneE ns) (endE 1) l.reverse = f1 at *
        generalize foundB (oneE ns) (endE 2) l.reverse = f2 at *
        generalize foundB (oneE ns) (endE 3) l.reverse = f3 at *
        have HF0 := Lib.hid F0
        have HF1 := Lib.hid F1
        have HF2 := Lib.hid F2
        have HF3 := Lib.hid F3
        clear F0 F1 F2 F3
        rcases (by revert m1 m2; cases f0 <;> cases f1 <;> cases f2 <;> simp : (f0 = true ∧ f1 = true ∧ f2 = true) ∨ (f0 = true ∧ f1 = true ∧ f2 = false) ∨ (f0 = true ∧ f1 = false ∧ f2 = true) ∨ (f0 = true ∧ f1 = false ∧ f2 = false) ∨ (f0 = false ∧ f1 = false ∧ f2 = false)) with ⟨rfl, rfl, rfl⟩ | ⟨rfl, rfl, rfl⟩ | ⟨rfl, rfl, rfl⟩ | ⟨rfl, rfl, rfl⟩ | ⟨rfl, rfl, rfl⟩
        all_goals
          clear m1 m2
          cases f3
          all_goals
            go_wp2_with fail
            go_loopw [12] (fun i wr => wr = w5 ∧ ∃ k : Nat, k ≤ ns.length ∧ i = .int .i64 k ∧ (⟨#[120, 45, 121]⟩ : ByteArray) ∉ ns.take k) (fun i _ => ns.length - (intOf i).toNat)
            case atStart => exact ⟨rfl, 0, by omega, rfl, by simp⟩
            case round =>
              obtain ⟨rfl, k, hk, rfl, hnot⟩ := hrel
              by_cases hlt : k < ns.length
              · obtain ⟨b, off, rfl, q0⟩ := strs_at HN.out s5.below hlt
                have hts := fun (h : (ns[k].toList == [120, 45, 121]) = false) => xy_step hlt hnot h
                have HT := Lib.hid hts
                clear hts
                generalize ns[k] = x at *
                go_wp2_with fail
                · go_ret
                  exact ⟨rfl, s5.below⟩
                · go_roundw
                  case rel => exact ⟨trivial, k + 1, by omega, by go_num, HT.out ‹_›⟩
                  case measure => simp [intOf] <;> omega
              · obtain rfl : k = ns.length := by omega
                rw [List.take_length] at hnot
                have HX := Lib.hid hnot
                clear hnot
                go_wp2_with fail
                refine (elem_any 0 (⟨#[120, 45, 121]⟩ : ByteArray) _).mono ?_
                rintro e u1 ⟨rfl, hbu⟩
                have t1 := s5.go hbu
                clear hbu
                go_wp2_with fail
                refine (st_push t1 xyE (by omega)).mono ?_
                rintro e w6 ⟨rfl, s6⟩
                clear t1
                go_wp2_with fail
                refine (st_has_r s6 0 _ ns (HN.out.below (Nat.le_refl _) s6.below) _ (HF0.out HX.out)).mono ?_
                rintro e w7 ⟨rfl, hb7⟩
                have s7 := s6.go hb7
                clear hb7 s6
                go_wp2_with fail
                refine (st_has_r s7 1 _ ns (HN.out.below (Nat.le_refl _) s7.below) _ (HF1.out HX.out)).mono ?_
                rintro e w8 ⟨rfl, hb8⟩
                have s8 := s7.go hb8
                clear hb8 s7
                go_wp2_with fail
                refine (st_has_r s8 2 _ ns (HN.out.below (Nat.le_refl _) s8.below) _ (HF2.out HX.out)).mono ?_
                rintro e w9 ⟨rfl, hb9⟩
                have s9 := s8.go hb9
                clear hb9 s8
                go_wp2_with fail
                refine (st_has_r s9 3 _ ns (HN.out.below (Nat.le_refl _) s9.below) _ (HF3.out HX.out)).mono ?_
                rintro e w10 ⟨rfl, hb10⟩
                have s10 := s9.go hb10
                clear hb10 s9
                go_wp2_with fail
                refine (st_has_r s10 4 _ ns (HN.out.below (Nat.le_refl _) s10.below) false (found_xy4 HX.out l)).mono ?_
                rintro e w11 ⟨rfl, hb11⟩
                have s11 := s10.go hb11
                clear hb11 s10
                go_wp2_with fail
                go_ret
                exact ⟨rfl, s11.below⟩
end Go.Proofs.YtibfiblajicdpaaDoor
