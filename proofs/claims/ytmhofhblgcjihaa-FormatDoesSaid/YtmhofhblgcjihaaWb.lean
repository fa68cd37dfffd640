/- The reference's times and alike: the same attributes, in whatever order. -/
import Derived.Test.YtmhofhblgcjihaaWa
import Derived.Deep.RegionHeld3
namespace Go.Proofs.Ytmhofhblgcjihaa
open Go Go.RowKit Go.Shelf

instance : BEq At := ⟨eqA⟩
theorem at_beq (x y : At) : (x == y) = eqA x y := rfl
instance : LawfulBEq At where
  eq_of_beq h := (eqA_iff _ _).1 h
  rfl := (eqA_iff _ _).2 rfl

/-- the same attributes, in whatever order? -/
def alikeR (a b : List At) : Bool := (a.length == b.length) && a.all fun x => a.count x == b.count x

theorem perm_of_count : ∀ (a b : List At), a.length = b.length → (∀ x ∈ a, a.count x ≤ b.count x) → a.Perm b
  | [], b, hl, _ => by
    have : b = [] := List.eq_nil_of_length_eq_zero hl.symm
    rw [this]
  | x :: a, b, hl, h => by
    have hx := h x (by simp)
    have hmem : x ∈ b := List.count_pos_iff.1 (by rw [List.count_cons_self] at hx; omega)
    have hp := List.perm_cons_erase hmem
    refine List.Perm.trans (List.Perm.cons x (perm_of_count a (b.erase x) ?_ ?_)) hp.symm
    · rw [List.length_erase_of_mem hmem]; simp at hl; omega
    · intro y hy
      have hy2 := h y (by simp [hy])
      rw [List.count_cons] at hy2
      rw [List.count_erase]
      cases hxy : (x == y) <;> simp only [hxy, if_true, Bool.false_eq_true, if_false] at hy2 ⊢ <;> omega

theorem sort_of_perm {a b : List At} (h : a.Perm b) : sortA a = sortA b := by
  have htr : ∀ x y z : At, (!(ltOf cfA) y x) = true → (!(ltOf cfA) z y) = true → (!(ltOf cfA) z x) = true := by
    intro x y z h1 h2
    have e1 : ltOf cfA y x = false := by simpa using h1
    have e2 : ltOf cfA z y = false := by simpa using h2
    have := cfA_swo.ntrans z y x e2 e1
    simpa using this
  have htot : ∀ x y : At, ((!(ltOf cfA) y x) || (!(ltOf cfA) x y)) = true := by
    intro x y
    cases h1 : ltOf cfA y x
    · simp
    · cases h2 : ltOf cfA x y
      · simp
      · have := cfA_trans _ _ _ h1 h2
        rw [cfA_irr] at this
        cases this
  refine List.Perm.eq_of_pairwise (le := fun x y => (!(ltOf cfA) y x) = true) ?_ (List.pairwise_mergeSort htr htot a) (List.pairwise_mergeSort htr htot b) (((sortA_perm a).trans h).trans (sortA_perm b).symm)
  intro x y _ _ h1 h2
  exact cfA_tot x y (by simpa using h2) (by simpa using h1)

theorem alikeR_sort (a b : List At) : alikeR a b = sameL (sortA a) (sortA b) := by
  rw [Bool.eq_iff_iff, sameL_iff]
  unfold alikeR
  rw [Bool.and_eq_true, beq_iff_eq, List.all_eq_true]
  constructor
  · rintro ⟨h1, h2⟩
    exact sort_of_perm (perm_of_count a b h1 fun x hx => by have := h2 x hx; simp at this; omega)
  · intro h
    have hp : a.Perm b := ((sortA_perm a).symm.trans (by rw [h])).trans (sortA_perm b)
    exact ⟨hp.length_eq, fun x _ => by rw [hp.count_eq]; simp⟩

set_option maxHeartbeats 2000000 in
theorem times_any (x : At) (v : Value) (l : List At) (w : World) (hv : AtsAt w v l) :
    Calls Try.prog 61 #[.agg #[.string x.sp, .string x.nm, .string x.va], v] w fun e w' => e = .returned (.int .i64 (l.count x : Nat)) ∧ Below w.heap.size w w' := by
  have hl := hv.len
  obtain ⟨va, vc, rfl⟩ := hv.form
  have hal : Below w.heap.size w (w.alloc (.cells #[.string x.sp, .string x.nm, .string x.va] 34)) := (Below.refl _ _).alloc (Nat.le_refl _) _
  have HV := Lib.hid hv
  have b0 : (w.alloc (.cells #[.string x.sp, .string x.nm, .string x.va] 34)).cell? ⟨w.heap.size, 0, Option.none⟩ = some (.string x.sp) := by simp [go_sem]
  have b1 : (w.alloc (.cells #[.string x.sp, .string x.nm, .string x.va] 34)).cell? ⟨w.heap.size, 1, Option.none⟩ = some (.string x.nm) := by simp [go_sem]
  have b2 : (w.alloc (.cells #[.string x.sp, .string x.nm, .string x.va] 34)).cell? ⟨w.heap.size, 2, Option.none⟩ = some (.string x.va) := by simp [go_sem]
  have hsz : w.heap.size < (w.alloc (.cells #[.string x.sp, .string x.nm, .string x.va] 34)).heap.size := by simp
  have HAL := Lib.hid hal
  clear hv hal
  go_enter Try.func61, Try.ntmps61
  go_wp2_with fail
  generalize w.alloc (.cells #[.string x.sp, .string x.nm, .string x.va] 34) = w0 at *
  go_loopw [5, 6] (fun n i wr => ∃ k : Nat, k ≤ l.length ∧ i = .int .i64 k ∧ n = .int .i64 ((l.take k).count x : Nat) ∧ Below w0.heap.size w0 wr) (fun _ i _ => l.length - (intOf i).toNat)
  case atStart => exact ⟨0, by omega, rfl, by simp, Below.refl _ _⟩
  case round =>
    obtain ⟨k, hk, rfl, rfl, hb⟩ := hrel
    have hbw := HAL.out.trans (hb.mono HAL.out.size)
    by_cases hlt : k < l.length
    · obtain ⟨b, off, rfl, hbl, c0, c1, c2⟩ := ats_at (HV.out.below (Nat.le_refl _) hbw) hlt
      have d0 := (hb.cell (p := ⟨w.heap.size, 0, Option.none⟩) hsz).trans b0
      have d1 := (hb.cell (p := ⟨w.heap.size, 1, Option.none⟩) hsz).trans b1
      have d2 := (hb.cell (p := ⟨w.heap.size, 2, Option.none⟩) hsz).trans b2
      have hts : (l.take (k + 1)).count x = (l.take k).count x + if eqA l[k] x = true then 1 else 0 := by
        rw [List.take_succ_eq_append_getElem hlt, List.count_append, List.count_cons, List.count_nil, Nat.zero_add, at_beq]
      have hcl : (l.take k).count x ≤ k := Nat.le_trans List.count_le_length (List.length_take_le _ _)
      have HTS := Lib.hid hts
      generalize l[k] = y at *
      generalize (l.take k).count x = cn at *
      have hw1 : IntKind.i64.wrap ((cn : Int) + 1) = (cn : Int) + 1 := by rw [IntKind.wrap_i64]; omega
      have hw2 : IntKind.i64.wrap ((k : Int) + 1) = (k : Int) + 1 := by rw [IntKind.wrap_i64]; omega
      clear hts b0 b1 b2 hbw
      cases q1 : (y.sp.toList == x.sp.toList)
      · have hE : eqA y x = false := by unfold eqA; rw [q1]; rfl
        have HE := Lib.hid hE
        clear hE
        go_wp2_with fail
        go_quiet (fail)
        go_wp2
        go_roundw
        case rel => exact ⟨k + 1, by omega, by go_num, by rw [HTS.out, HE.out]; rfl, bDrewN hb _⟩
        case measure => simp [intOf] <;> omega
      · cases q2 : (y.nm.toList == x.nm.toList)
        · have hE : eqA y x = false := by unfold eqA; rw [q2]; simp
          have HE := Lib.hid hE
          clear hE
          go_wp2_with fail
          go_quiet (fail)
          go_wp2
          go_roundw
          case rel => exact ⟨k + 1, by omega, by go_num, by rw [HTS.out, HE.out]; rfl, bDrewN hb _⟩
          case measure => simp [intOf] <;> omega
        · cases q3 : (y.va.toList == x.va.toList)
          · have hE : eqA y x = false := by unfold eqA; rw [q3]; simp
            have HE := Lib.hid hE
            clear hE
            go_wp2_with fail
            go_quiet (fail)
            go_wp2
            go_roundw
            case rel => exact ⟨k + 1, by omega, by go_num, by rw [HTS.out, HE.out]; rfl, bDrewN hb _⟩
            case measure => simp [intOf] <;> omega
          · have hE : eqA y x = true := by unfold eqA; rw [q1, q2, q3]; rfl
            have HE := Lib.hid hE
            clear hE
            go_wp2_with fail
            go_quiet (fail)
            go_wp2
            go_roundw
            case rel => exact ⟨k + 1, by omega, by go_num, by rw [HTS.out, HE.out]; rfl, bDrewN hb _⟩
            case measure => simp [intOf] <;> omega
    · obtain rfl : k = l.length := by omega
      rw [List.take_length]
      go_wp2_with fail
      go_ret
      exact ⟨rfl, hbw⟩

theorem times_b {w W : World} (x : At) (v : Value) (l : List At) (hv : AtsAt w v l) (hb : Below w.heap.size w W) :
    Calls Try.prog 61 #[.agg #[.string x.sp, .string x.nm, .string x.va], v] W fun e w' => e = .returned (.int .i64 (l.count x : Nat)) ∧ Below w.heap.size w w' :=
  (times_any x v l W (hv.below (Nat.le_refl _) hb)).mono fun _ _ ⟨h1, h2⟩ => ⟨h1, hb.trans (h2.mono hb.size)⟩

set_option maxHeartbeats 2000000 in
theorem alike_any (va vb : Value) (la lb : List At) (w : World) (ha : AtsAt w va la) (hb : AtsAt w vb lb) :
    Calls Try.prog 53 #[va, vb] w fun e w' => e = .returned (.bool (sameL (sortA la) (sortA lb))) ∧ Below w.heap.size w w' := by
  rw [← alikeR_sort]
  have hla := ha.len
  have hlb := hb.len
  obtain ⟨aa, ac, rfl⟩ := ha.form
  obtain ⟨ba, bc, rfl⟩ := hb.form
  have HA := Lib.hid ha
  have HB := Lib.hid hb
  clear ha hb
  by_cases hl : la.length = lb.length
  · have e1 : alikeR la lb = la.all fun x => la.count x == lb.count x := by
      unfold alikeR; rw [hl]; simp
    have H1 := Lib.hid e1
    have hll : ((la.length : Int) == (lb.length : Int)) = true := by rw [beq_iff_eq]; omega
    have hll2 : ((la.length : Int) != (lb.length : Int)) = false := by rw [bne, hll]; rfl
    clear e1 hl hll
    go_enter Try.func53, Try.ntmps53
    go_wp2_with fail
    go_loopw [5] (fun i wr => ∃ k : Nat, k ≤ la.length ∧ i = .int .i64 k ∧ (∀ x ∈ la.take k, (la.count x == lb.count x) = true) ∧ Below w.heap.size w wr) (fun i _ => la.length - (intOf i).toNat)
    case atStart => exact ⟨0, by omega, rfl, fun x h => by simp at h, Below.refl _ _⟩
    case round =>
      obtain ⟨k, hk, rfl, hP, hbw⟩ := hrel
      have HP := Lib.hid hP
      clear hP
      by_cases hlt : k < la.length
      · obtain ⟨b1, o1, rfl, hb1, c0, c1, c2⟩ := ats_at (HA.out.below (Nat.le_refl _) hbw) hlt
        have hts : la.take (k + 1) = la.take k ++ [la[k]] := List.take_succ_eq_append_getElem hlt
        have hmem : la[k] ∈ la := List.getElem_mem hlt
        have HTS := Lib.hid hts
        clear hts
        generalize la[k] = x at *
        have hw2 : IntKind.i64.wrap ((k : Int) + 1) = (k : Int) + 1 := by rw [IntKind.wrap_i64]; omega
        have hbd : Below w.heap.size w wr.drew := hbw.drew
        have HMEM := Lib.hid hmem
        have hbl0 : b1 < w.heap.size := by
          rcases HA.out with ⟨h, _⟩ | ⟨b', o', c', he, hlt', _⟩
          · rw [h] at hlt; simp at hlt
          · cases he; exact hlt'
        have hcw : ∀ W, Below w.heap.size w W → W.cell? ⟨b1, o1 + k * 3, Option.none⟩ = some (.string x.sp) ∧ W.cell? ⟨b1, o1 + k * 3 + 1, Option.none⟩ = some (.string x.nm) ∧ W.cell? ⟨b1, o1 + k * 3 + 2, Option.none⟩ = some (.string x.va) := fun W hW => by
          have f := fun o => (hW.cell (p := ⟨b1, o, Option.none⟩) hbl0)
          have g := fun o => (hbw.cell (p := ⟨b1, o, Option.none⟩) hbl0)
          exact ⟨(f _).trans ((g _).symm.trans c0), (f _).trans ((g _).symm.trans c1), (f _).trans ((g _).symm.trans c2)⟩
        have HC := Lib.hid hcw
        clear hmem hcw
        cases hq : (la.count x == lb.count x)
        · have HF : Hid (alikeR la lb = false) := by
            have h : alikeR la lb = false := by
              rw [H1.out, Bool.eq_false_iff]
              intro h
              have := List.all_eq_true.1 h x HMEM.out
              rw [hq] at this
              cases this
            exact Lib.hid h
          have hne : (((la.count x : Nat) : Int) == ((lb.count x : Nat) : Int)) = false := by
            rw [beq_eq_false_iff_ne] at hq ⊢; omega
          have hne2 : (((la.count x : Nat) : Int) != ((lb.count x : Nat) : Int)) = true := by
            rw [bne, hne]; rfl
          clear hq
          go_wp2_with fail
          go_region_held3 (fun w' => Below w.heap.size w w' ∧ w'.cell? ⟨b1, o1 + k * 3, Option.none⟩ = some (.string x.sp) ∧ w'.cell? ⟨b1, o1 + k * 3 + 1, Option.none⟩ = some (.string x.nm) ∧ w'.cell? ⟨b1, o1 + k * 3 + 2, Option.none⟩ = some (.string x.va))
            (first | assumption | exact ⟨hb', HC.out _ hb'⟩ | exact ⟨hbd, HC.out _ hbd⟩)
            (first
              | (go_at_call 61; (with_reducible refine (times_b x _ _ HA.out (And.left (by assumption))).mono ?_); rintro e w' ⟨rfl, hb'⟩)
              | (go_at_call 61; (with_reducible refine (times_b x _ _ HB.out (And.left (by assumption))).mono ?_); rintro e w' ⟨rfl, hb'⟩))
          all_goals
            go_wp2
            go_ret
            exact ⟨ret_bool HF.out.symm, hb'⟩
        · have hne : (((la.count x : Nat) : Int) == ((lb.count x : Nat) : Int)) = true := by
            rw [beq_iff_eq] at hq ⊢; omega
          have hne2 : (((la.count x : Nat) : Int) != ((lb.count x : Nat) : Int)) = false := by
            rw [bne, hne]; rfl
          have HN : Hid (∀ y ∈ la.take (k + 1), (la.count y == lb.count y) = true) := by
            have h : ∀ y ∈ la.take (k + 1), (la.count y == lb.count y) = true := by
              intro y hy
              rw [HTS.out] at hy
              rcases List.mem_append.1 hy with h | h
              · exact HP.out y h
              · simp at h; rw [h]; exact hq
            exact Lib.hid h
          clear hq
          go_wp2_with fail
          go_region_held3 (fun w' => Below w.heap.size w w' ∧ w'.cell? ⟨b1, o1 + k * 3, Option.none⟩ = some (.string x.sp) ∧ w'.cell? ⟨b1, o1 + k * 3 + 1, Option.none⟩ = some (.string x.nm) ∧ w'.cell? ⟨b1, o1 + k * 3 + 2, Option.none⟩ = some (.string x.va))
            (first | assumption | exact ⟨hb', HC.out _ hb'⟩ | exact ⟨hbd, HC.out _ hbd⟩)
            (first
              | (go_at_call 61; (with_reducible refine (times_b x _ _ HA.out (And.left (by assumption))).mono ?_); rintro e w' ⟨rfl, hb'⟩)
              | (go_at_call 61; (with_reducible refine (times_b x _ _ HB.out (And.left (by assumption))).mono ?_); rintro e w' ⟨rfl, hb'⟩))
          all_goals
            go_wp2
            go_roundw
            case rel => exact ⟨k + 1, by omega, by go_num, HN.out, hb'⟩
            case measure => simp [intOf] <;> omega
      · obtain rfl : k = la.length := by omega
        go_wp2_with fail
        go_ret
        refine ⟨ret_bool ?_, hbw⟩
        rw [H1.out]
        symm
        rw [List.all_eq_true]
        intro x hx
        exact HP.out x (by rw [List.take_length]; exact hx)
  · have e1 : alikeR la lb = false := by unfold alikeR; rw [show (la.length == lb.length) = false from by simpa using hl]; rfl
    have H1 := Lib.hid e1
    have hne : ((la.length : Int) == (lb.length : Int)) = false := by rw [beq_eq_false_iff_ne]; omega
    clear e1
    go_enter Try.func53, Try.ntmps53
    go_wp2_with fail
    go_ret
    exact ⟨ret_bool H1.out.symm, Below.refl _ _⟩
end Go.Proofs.Ytmhofhblgcjihaa
