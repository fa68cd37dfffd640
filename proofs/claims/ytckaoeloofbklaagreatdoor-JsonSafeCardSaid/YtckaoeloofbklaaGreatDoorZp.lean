/- Joined texts: Hc Ka Kb Kc Js Hd Kd Ke. Each begins with its own remark. -/
import Derived.Test.YtckaoeloofbklaaGreatDoorZc
import Derived.Test.YtckaoeloofbklaaGreatDoorZo
import Derived.Test.YtckaoeloofbklaaGreatDoorZd

/- What is quoted is read so (plain). -/
namespace Go.Proofs.YtckaoeloofbklaaGreatDoor

/-- does a code point stand in a quoted string by itself? -/
def asIsN (r : Nat) : Bool := decide (32 ≤ r ∧ r ≠ 127 ∧ r ≠ 34 ∧ r ≠ 92 ∧ r ≠ 60 ∧ r ≠ 62 ∧ r ≠ 38 ∧ r ≠ 39 ∧ r ≠ 8232 ∧ r ≠ 8233)
/-- a digit of the base 16 -/
def hexD (n : Nat) : UInt8 := if n < 10 then UInt8.ofNat (48 + n) else UInt8.ofNat (87 + n)
def hex4L (r : Nat) : List UInt8 := [hexD (r / 4096 % 16), hexD (r / 256 % 16), hexD (r / 16 % 16), hexD (r % 16)]
/-- a code point as it is quoted -/
def quoR (r : Nat) : List UInt8 := if asIsN r = true then enc r else 92 :: 117 :: hex4L r
/-- bytes between their marks -/
def quoI (l : List UInt8) : List UInt8 := (pts l).flatMap quoR
def quoL (l : List UInt8) : List UInt8 := 34 :: quoI l ++ [34]

theorem hexD_val : ∀ n : Fin 16, hexV (hexD n.val) = some n.val := by decide +kernel
theorem hexV_D (n : Nat) (h : n < 16) : hexV (hexD n) = some n := hexD_val ⟨n, h⟩
theorem hex4_is (r : Nat) (h : r < 65536) : hex4 (hexD (r / 4096 % 16)) (hexD (r / 256 % 16)) (hexD (r / 16 % 16)) (hexD (r % 16)) = some r := by
  unfold hex4
  rw [hexV_D _ (by omega), hexV_D _ (by omega), hexV_D _ (by omega), hexV_D _ (by omega)]
  simp only
  congr 1
  omega
/-- a byte from 128 on stands by itself -/
theorem strC_high (c : UInt8) (h : 128 ≤ c.toNat) : strC c = true := by
  unfold strC
  have h1 : c ≠ 34 := by rintro rfl; revert h; decide
  have h2 : c ≠ 92 := by rintro rfl; revert h; decide
  have h3 : (32 ≤ c.toNat) = True := by simp; omega
  simp [h3, h1, h2]
theorem asIs_str (r : Nat) (hs : Scal r) (h : asIsN r = true) : (enc r).all strC = true := by
  unfold asIsN at h
  have h := of_decide_eq_true h
  rcases enc_shape r hs with ⟨g, a, e, ha⟩ | ⟨g1, g2, a, b, e, ha, hb⟩ | ⟨g1, g2, a, b, c, e, ha, hb, hc⟩ | ⟨g1, a, b, c, d, e, ha, hb, hc, hd⟩
  · rw [e]
    have h1 : a ≠ 34 := by rintro rfl; exact h.2.2.1 (by rw [← ha]; rfl)
    have h2 : a ≠ 92 := by rintro rfl; exact h.2.2.2.1 (by rw [← ha]; rfl)
    have h3 : (32 ≤ a.toNat) = True := by simp; omega
    simp [strC, h1, h2, h3]
  · rw [e]; simp [strC_high a (by omega), strC_high b (by omega)]
  · rw [e]; simp [strC_high a (by omega), strC_high b (by omega), strC_high c (by omega)]
  · rw [e]; simp [strC_high a (by omega), strC_high b (by omega), strC_high c (by omega), strC_high d (by omega)]
theorem str_quo (t : List UInt8) : ∀ (rs a : List Nat), (∀ r ∈ rs, Scal r) → (∀ r ∈ a, Scal r) → (∀ r ∈ a, asIsN r = true) → Str decB8 enc (a.flatMap enc ++ (rs.flatMap quoR ++ 34 :: t)) ((a ++ rs).flatMap enc) t
  | [], a, _, ha, h => by
    rw [List.append_nil, List.flatMap_nil, List.nil_append]
    have := Str.last (dec := decB8) (enc := enc) (r := a.flatMap enc) (t := t) (by
      rw [List.all_flatMap, List.all_eq_true]
      exact fun r hr => asIs_str r (ha r hr) (h r hr))
    rw [dec_encs a ha] at this
    exact this
  | r :: rs, a, hr, ha, h => by
    by_cases hi : asIsN r = true
    · have := str_quo t rs (a ++ [r]) (fun x hx => hr x (by simp [hx])) (fun x hx => by
        rcases List.mem_append.1 hx with hx | hx
        · exact ha x hx
        · simp only [List.mem_singleton] at hx; subst hx; exact hr x (by simp)) (fun x hx => by
        rcases List.mem_append.1 hx with hx | hx
        · exact h x hx
        · simp only [List.mem_singleton] at hx; subst hx; exact hi)
      rw [List.flatMap_append, List.flatMap_cons, List.flatMap_nil, List.append_nil, List.append_assoc] at this
      rw [List.flatMap_cons, quoR, if_pos hi, List.append_assoc]
      rw [List.append_assoc, List.singleton_append] at this
      exact this
    · have hr16 : r < 55296 := by
        unfold asIsN at hi
        have := mt (fun h => decide_eq_true h) hi
        have hs := hr r (by simp)
        unfold Scal at hs
        omega
      have h0 := str_quo t rs [] (fun x hx => hr x (by simp [hx])) (by simp) (by simp)
      rw [List.flatMap_nil, List.nil_append, List.nil_append] at h0
      rw [List.flatMap_cons, quoR, if_neg hi, List.flatMap_append, List.flatMap_cons, ← List.append_assoc (a.flatMap enc) (enc r)]
      have hx := Str.esc (dec := decB8) (enc := enc) (r := a.flatMap enc) (x := 117 :: hexD (r / 4096 % 16) :: hexD (r / 256 % 16) :: hexD (r / 16 % 16) :: hexD (r % 16) :: (rs.flatMap quoR ++ 34 :: t)) (o := enc r) (by
        rw [List.all_flatMap, List.all_eq_true]
        exact fun r hr => asIs_str r (ha r hr) (h r hr)) (Esc.one (hex4_is r (by omega)) (.inl hr16)) h0
      rw [dec_encs a ha] at hx
      exact hx
/-- what is quoted is read so -/
theorem str_quoted (l t : List UInt8) : Str decB8 enc (quoI l ++ 34 :: t) (decB8 l) t := by
  have := str_quo t (pts l) [] (pts_scals l) (by simp) (by simp)
  rw [List.flatMap_nil, List.nil_append, List.nil_append] at this
  exact this
end Go.Proofs.YtckaoeloofbklaaGreatDoor

/- json.asIs, json.Quote. -/
namespace Go.Proofs.YtckaoeloofbklaaGreatDoor
open Go Go.RowKit Go.Lib

set_option maxRecDepth 100000 in
set_option maxHeartbeats 4000000 in
theorem asIs_any (r : Nat) (w : World) : Calls Tryz.prog 35 #[.int .i32 (r : Int)] w fun e w' => e = .returned (.bool (asIsN r)) ∧ w' = w := by
  by_cases h0 : r = 127
  · subst h0
    have hv : asIsN 127 = false := by decide
    rw [hv]
    go_enter Tryz.func35, Tryz.ntmps35
    go_wp2_with fail
    go_ret
    exact ⟨rfl, rfl⟩
  by_cases h1 : r = 34
  · subst h1
    have hv : asIsN 34 = false := by decide
    rw [hv]
    go_enter Tryz.func35, Tryz.ntmps35
    go_wp2_with fail
    go_ret
    exact ⟨rfl, rfl⟩
  by_cases h2 : r = 92
  · subst h2
    have hv : asIsN 92 = false := by decide
    rw [hv]
    go_enter Tryz.func35, Tryz.ntmps35
    go_wp2_with fail
    go_ret
    exact ⟨rfl, rfl⟩
  by_cases h3 : r = 60
  · subst h3
    have hv : asIsN 60 = false := by decide
    rw [hv]
    go_enter Tryz.func35, Tryz.ntmps35
    go_wp2_with fail
    go_ret
    exact ⟨rfl, rfl⟩
  by_cases h4 : r = 62
  · subst h4
    have hv : asIsN 62 = false := by decide
    rw [hv]
    go_enter Tryz.func35, Tryz.ntmps35
    go_wp2_with fail
    go_ret
    exact ⟨rfl, rfl⟩
  by_cases h5 : r = 38
  · subst h5
    have hv : asIsN 38 = false := by decide
    rw [hv]
    go_enter Tryz.func35, Tryz.ntmps35
    go_wp2_with fail
    go_ret
    exact ⟨rfl, rfl⟩
  by_cases h6 : r = 39
  · subst h6
    have hv : asIsN 39 = false := by decide
    rw [hv]
    go_enter Tryz.func35, Tryz.ntmps35
    go_wp2_with fail
    go_ret
    exact ⟨rfl, rfl⟩
  by_cases h7 : r = 8232
  · subst h7
    have hv : asIsN 8232 = false := by decide
    rw [hv]
    go_enter Tryz.func35, Tryz.ntmps35
    go_wp2_with fail
    go_ret
    exact ⟨rfl, rfl⟩
  by_cases h8 : r = 8233
  · subst h8
    have hv : asIsN 8233 = false := by decide
    rw [hv]
    go_enter Tryz.func35, Tryz.ntmps35
    go_wp2_with fail
    go_ret
    exact ⟨rfl, rfl⟩
  have e0 : ((r : Int) == 127) = false := by rw [beq_eq_false_iff_ne]; omega
  have e1 : ((r : Int) == 34) = false := by rw [beq_eq_false_iff_ne]; omega
  have e2 : ((r : Int) == 92) = false := by rw [beq_eq_false_iff_ne]; omega
  have e3 : ((r : Int) == 60) = false := by rw [beq_eq_false_iff_ne]; omega
  have e4 : ((r : Int) == 62) = false := by rw [beq_eq_false_iff_ne]; omega
  have e5 : ((r : Int) == 38) = false := by rw [beq_eq_false_iff_ne]; omega
  have e6 : ((r : Int) == 39) = false := by rw [beq_eq_false_iff_ne]; omega
  have e7 : ((r : Int) == 8232) = false := by rw [beq_eq_false_iff_ne]; omega
  have e8 : ((r : Int) == 8233) = false := by rw [beq_eq_false_iff_ne]; omega
  by_cases h : 32 ≤ r
  · have hv : asIsN r = true := by unfold asIsN; simp [*]
    rw [hv]
    have hge : (32 : Int) ≤ (r : Int) := by omega
    go_enter Tryz.func35, Tryz.ntmps35
    go_wp2_with fail
    go_ret
    exact ⟨by simp, rfl⟩
  · have hv : asIsN r = false := by unfold asIsN; simp [h]
    rw [hv]
    have hge : ¬ (32 : Int) ≤ (r : Int) := by omega
    go_enter Tryz.func35, Tryz.ntmps35
    go_wp2_with fail
    go_ret
    exact ⟨by simp, rfl⟩
end Go.Proofs.YtckaoeloofbklaaGreatDoor

/- json.Quote. -/
namespace Go.Proofs.YtckaoeloofbklaaGreatDoor
open Go Go.RowKit Go.Lib

attribute [local go_sem] Oper.semAt_some

def outQ (pre : List (Nat × Nat)) : List UInt8 := (pre.map fun x => min x.2 1114111).flatMap quoR
theorem outQ_snoc (pre : List (Nat × Nat)) (x : Nat × Nat) : outQ (pre ++ [x]) = outQ pre ++ quoR (min x.2 1114111) := by simp [outQ]
theorem outQ_all (l : List UInt8) : outQ (ptsO 0 l) = quoI l := by unfold outQ quoI; rw [min_pts]
theorem quoR_len (r : Nat) : (quoR r).length ≤ 6 := by
  unfold quoR
  split
  · have := (enc_len r).2; omega
  · simp [hex4L]
theorem quoRs_len : ∀ rs : List Nat, (rs.flatMap quoR).length ≤ 6 * rs.length
  | [] => by simp
  | r :: rs => by
    have := quoRs_len rs
    have := quoR_len r
    rw [List.flatMap_cons, List.length_append, List.length_cons]; omega
theorem outQ_len (pre : List (Nat × Nat)) : (outQ pre).length ≤ 6 * pre.length := by
  have := quoRs_len (pre.map fun x => min x.2 1114111)
  rw [List.length_map] at this
  exact this

theorem BW.trans {B b : Nat} {l m : List UInt8} {A C D : World} (h : BW B b l A C) (k : BW B b m C D) : BW B b m A D := ⟨k.bl, h.below.trans k.below, h.oth.trans k.oth⟩
theorem hexD_tab : ∀ n : Fin 16, ((⟨#[48, 49, 50, 51, 52, 53, 54, 55, 56, 57, 97, 98, 99, 100, 101, 102]⟩ : ByteArray) : ByteArray).data.toList[n.val]? = some (hexD n.val) := by decide +kernel
theorem hexD_at (n : Nat) (h : n < 16) (h' : n < ((⟨#[48, 49, 50, 51, 52, 53, 54, 55, 56, 57, 97, 98, 99, 100, 101, 102]⟩ : ByteArray) : ByteArray).size) : ((⟨#[48, 49, 50, 51, 52, 53, 54, 55, 56, 57, 97, 98, 99, 100, 101, 102]⟩ : ByteArray) : ByteArray)[n]'h' = hexD n := by
  have := hexD_tab ⟨n, h⟩
  have h2 : n < ((⟨#[48, 49, 50, 51, 52, 53, 54, 55, 56, 57, 97, 98, 99, 100, 101, 102]⟩ : ByteArray) : ByteArray).data.toList.length := h'
  rw [List.getElem?_eq_getElem h2] at this
  exact Option.some.inj this
theorem and15 (r : Nat) (h : r ≤ 8233) : bits .and .i32 (r : Int) 15 = ((r % 16 : Nat) : Int) := by
  have hx : r &&& 15 < 2 ^ 31 := Nat.and_lt_two_pow _ (by decide)
  have h1 : (BitVec.ofInt 32 (r : Int)).toNat = r := by
    rw [BitVec.ofInt_natCast, BitVec.toNat_ofNat]; exact Nat.mod_eq_of_lt (by omega)
  have h2 : (BitVec.ofInt 32 ((15 : Nat) : Int)).toNat = 15 := by decide
  show IntKind.i32.wrap ((BitVec.ofInt 32 (r : Int) &&& BitVec.ofInt 32 ((15 : Nat) : Int)).toNat : Int) = _
  rw [BitVec.toNat_and, h1, h2, IntKind.wrap_i32]
  have := Nat.and_two_pow_sub_one_eq_mod r 4
  rw [show (2 ^ 4 - 1 : Nat) = 15 from rfl, show (2 ^ 4 : Nat) = 16 from rfl] at this
  omega
theorem not_asIs (r : Nat) (h : asIsN r = false) : r ≤ 8233 := by
  unfold asIsN at h
  have := of_decide_eq_false h
  omega
theorem hex4_get (r : Nat) : (hex4L r).take 0 = [] ∧ (hex4L r).take 1 = [hexD (r / 4096 % 16)] ∧ (hex4L r).take 2 = [hexD (r / 4096 % 16), hexD (r / 256 % 16)] ∧ (hex4L r).take 3 = [hexD (r / 4096 % 16), hexD (r / 256 % 16), hexD (r / 16 % 16)] ∧ (hex4L r).take 4 = hex4L r := ⟨rfl, rfl, rfl, rfl, rfl⟩
set_option maxRecDepth 100000 in
set_option maxHeartbeats 8000000 in
theorem quote_any (b : ByteArray) (w : World) (h17 : 17 ≤ w.heap.size) (hT : Lib.Utf8Tabs 0 1 w) (hsm : b.size ≤ 17592186040000) :
    Calls Tryz.prog 17 #[.string b] w fun e w' => e = .returned (.string ⟨(quoL b.data.toList).toArray⟩) ∧ Below w.heap.size w w' := by
  refine (callsIn_wide (n := 4)).1 ?_
  refine callsIn_of_wp_marks Tryz.func17 rfl trivial ?_ rfl
  simp only [Tryz.ntmps17, List.size_toArray, List.length_cons, List.length_nil, Nat.reduceAdd, Nat.reduceSub, Array.replicate_succ, Array.replicate_zero, List.push_toArray, List.append_toArray, List.nil_append, List.cons_append]
  have hlen : b.data.toList.length = b.size := by simp
  have hpl := pts_len b.data.toList
  rw [← ptsO_len 0, hlen] at hpl
  have HQ := Lib.hid ((callsIn_wide (n := 3)).2 (bw_byte w.heap.size w.heap.size [] 34 _ (bl_new w.heap.size w (Nat.le_refl _)) (by decide) (by simp)))
  gi_wp2_with fail
  refine ⟨trivial, HQ.out.mono ?_⟩
  rintro e wq ⟨rfl, hwq⟩
  have hbq : Below w.heap.size w wq := ((Below.refl _ _).alloc (Nat.le_refl _) _).trans hwq.below
  have hsq : w.heap.size < wq.heap.size := by have := hwq.below.size; simp at this; omega
  have HBQ := Lib.hid hbq
  have HLQ := Lib.hid hwq.bl
  clear hbq hwq HQ
  gi_wp2_with fail
  refine ⟨trivial, (points_in 3 b _).mono ?_⟩
  rintro e w1 ⟨rfl, rfl⟩
  have hbox := heap_alloc_new wq (.cells #[.string b] 9)
  have hws : (wq.alloc (.cells #[.string b] 9)).heap.size = wq.heap.size + 1 := by simp
  have hbl := HLQ.out.below ((Below.refl _ _).alloc (Nat.le_refl _) (.cells #[.string b] 9))
  have hb0 := HBQ.out.alloc (by omega) (.cells #[.string b] 9)
  generalize wq.alloc (.cells #[.string b] 9) = wL at *
  obtain ⟨sq, hsqq⟩ : ∃ n, n = wq.heap.size := ⟨_, rfl⟩
  rw [← hsqq] at hbox hws hsq ⊢
  have hcL : wL.cell? ⟨sq, 0, Option.none⟩ = some (.string b) := by rw [cell_of_row wL _ 0 _ _ _ hbox]; rfl
  have HBOX := Lib.hid hbox
  have HBL := Lib.hid hbl
  have HB0 := Lib.hid hb0
  have hTL := utabs_kept hT (hb0.mono h17)
  clear hbox hbl hb0 HLQ HBQ hsqq
  gi_wp2_with fail
  refine wpIn_rangeFunc_ownF (α := Nat × Nat) rfl (by omega) (gf := 40) (lb := #[.pointer (some ⟨sq, 0, Option.none⟩)]) rfl trivial (enters_of Tryz.func40 (by kernel_rfl) rfl)
    (points_stops _ (by omega) sq b wL (by omega) hTL (by omega) (by omega) hcL) KpP.t (KpP.b (by omega) (by omega)) (Below.refl _ _) (fun _ => rfl)
    (fun pre W => BL w.heap.size w.heap.size (34 :: outQ pre) W ∧ Below w.heap.size w W ∧ wL.heap.size ≤ W.heap.size ∧ W.heap[sq]? = some (.cells #[.string b] 9 (0, 0)))
    (fun _ _ _ => False)
    (fun s A B row hs hg hr => ⟨hs.1.kept hg (fun r e => (hr r e).2), hs.2.1.grown hg hs.2.1.size (fun k e => by have := (hr k e).1; omega), Nat.le_trans hs.2.2.1 hg.size, by
      rw [hg.block _ (Array.getElem?_eq_some_iff.1 hs.2.2.2).1 (fun e => by obtain ⟨_, o, ho, hcl⟩ := hr _ e.symm; rw [hs.2.2.2] at ho; cases ho; cases hcl)]; exact hs.2.2.2⟩)
    (fun c s A B row hs hg hr => hs)
    ⟨HBL.out, HB0.out, Nat.le_refl _, HBOX.out⟩
    (fun x => { tmps := #[.string b, undef, .string ⟨#[]⟩, .pointer (some ⟨w.heap.size, 0, none⟩), undef, .int .i32 ((min x.2 1114111 : Nat) : Int), undef, .nilIface, .string b, .func (.func 40) #[] #[.pointer (some ⟨sq, 0, Option.none⟩)], .int .i64 (x.1 : Int), .int .i32 ((min x.2 1114111 : Nat) : Int), undef, undef, undef, undef, undef, undef, undef, undef, undef, undef, undef, undef, undef, undef, undef, undef, undef], defers := [] })
    ?assign ?body ?done ?stop
  case assign =>
    rintro l' x W K hK
    dsimp only [encP]
    gi_wp2
    exact hK
  case body =>
    rintro l' pre x W ⟨hbl, hB, hsz, hbox⟩ hlt
    have HBX := Lib.hid hbox
    clear hbox
    have hl4 := outQ_len pre
    have hrl : min x.2 1114111 ≤ 1114111 := by omega
    have hsn := outQ_snoc pre x
    generalize min x.2 1114111 = r at *
    have hll : (34 :: outQ pre).length ≤ 6 * b.size + 1 := by rw [List.length_cons]; omega
    have HB0 := Lib.hid hbl
    have HBB := Lib.hid hB
    have HA := Lib.hid (asIs_any r W)
    clear hbl hB
    gi_wp2_with fail
    refine ⟨trivial, (CallsIn.inRound l' ((callsIn_wide (n := 1)).2 HA.out)).mono ?_⟩
    rintro e w2 ⟨⟨n, rfl⟩, hw⟩
    replace hw := hw.symm
    subst hw
    have hfin : ∀ w3, BW w.heap.size w.heap.size (34 :: outQ pre ++ quoR r) W w3 → KeepsOthers W w3 ∧ KpP sq W w3 ∧ BL w.heap.size w.heap.size (34 :: outQ (pre ++ [x])) w3 ∧ Below w.heap.size w w3 ∧ wL.heap.size ≤ w3.heap.size ∧ w3.heap[sq]? = some (.cells #[.string b] 9 (0, 0)) := by
      intro w3 h3
      have hbs : w3.heap[sq]? = W.heap[sq]? := by
        rw [HBX.out]
        exact h3.oth _ _ HBX.out (by simp; omega) (fun c fz h => by cases h)
      exact ⟨h3.keeps HB0.out, ⟨h3.below.mono h17, hbs⟩, by rw [hsn]; exact h3.bl, HBB.out.trans h3.below, Nat.le_trans hsz h3.below.size, by rw [hbs]; exact HBX.out⟩
    have HF := Lib.hid hfin
    clear hfin
    cases hq : asIsN r with
    | true =>
      have HW := Lib.hid (bw_rune w.heap.size w.heap.size (34 :: outQ pre) r W HB0.out (by omega) (by omega) HBB.out.size)
      have hqr : quoR r = enc r := by unfold quoR; rw [if_pos hq]
      rw [hqr] at HF
      gi_wp2_with fail
      refine ⟨trivial, (CallsIn.inRound l' ((callsIn_wide (n := 1)).2 HW.out)).mono ?_⟩
      rintro e w3 ⟨⟨n, rfl⟩, hw3⟩
      have HW3 := Lib.hid (HF.out w3 hw3)
      clear hw3
      gi_wp2_with fail
      exact HW3.out
    | false =>
      have hqr : quoR r = [92, 117] ++ hex4L r := by unfold quoR; rw [if_neg (by rw [hq]; decide)]; rfl
      rw [hqr] at HF
      have HW := Lib.hid (bw_string w.heap.size w.heap.size (34 :: outQ pre) (⟨#[92, 117]⟩ : ByteArray) W HB0.out (by show _ + 2 ≤ _; omega) HBB.out.size)
      gi_wp2_with fail
      refine ⟨trivial, (CallsIn.inRound l' ((callsIn_wide (n := 1)).2 HW.out)).mono ?_⟩
      rintro e w3 ⟨⟨n, rfl⟩, hw3⟩
      have HW3 := Lib.hid hw3
      clear hw3
      gi_wp2_with fail
      gi_loopw [6] (fun up wr => ∃ k : Nat, k ≤ 4 ∧ up = .int .i64 (12 - 4 * (k : Int)) ∧ BW w.heap.size w.heap.size (34 :: outQ pre ++ [92, 117] ++ (hex4L r).take k) W wr)
        (fun up _ => (RowKit.intOf up + 4).toNat)
      case atStart => exact ⟨0, by omega, rfl, by have := HW3.out; simpa using this⟩
      case round =>
        obtain ⟨k, hk, rfl, hbw⟩ := hrel
        have HBW := Lib.hid hbw
        clear hbw
        have hr8 := not_asIs r hq
        have hcase : k = 0 ∨ k = 1 ∨ k = 2 ∨ k = 3 ∨ k = 4 := by omega
        rcases hcase with rfl | rfl | rfl | rfl | rfl
        · have hba : bits .and .i32 ((r : Int) / 4096) 15 = ((r / 4096 % 16 : Nat) : Int) := and15 (r / 4096) (by omega)
          have hW : ∀ n, n = r / 4096 % 16 → _ := fun n hn => bw_byte w.heap.size w.heap.size _ (hexD n) wr HBW.out.bl (by rw [List.length_append, List.length_append, List.length_take]; have : (hex4L r).length = 4 := rfl; simp at hll ⊢; omega) (Nat.le_trans HBB.out.size HBW.out.below.size)
          obtain ⟨n, hn⟩ : ∃ n, n = r / 4096 % 16 := ⟨_, rfl⟩
          have HWB := Lib.hid (hW n hn)
          have hn16 : n < 16 := by omega
          rw [← hn] at hba
          have hlt : (n : Int) < 16 := by omega
          clear hW
          gi_wp2_with fail
          simp only [hexD_at (r / 4096 % 16) (by omega)]
          rw [← hn]
          refine ⟨trivial, (CallsIn.inRound l' ((callsIn_wide (n := 1)).2 HWB.out)).mono ?_⟩
          rintro e w4 ⟨⟨n, rfl⟩, hw4⟩
          have HW4 := Lib.hid hw4
          clear hw4
          gi_wp2_with fail
          go_roundw
          case measure => simp [RowKit.intOf]
          case rel => exact ⟨1, by omega, by simp, by have := HBW.out.trans HW4.out; rw [hn] at this; simpa [hex4L] using this⟩
        · have hba : bits .and .i32 ((r : Int) / 256) 15 = ((r / 256 % 16 : Nat) : Int) := and15 (r / 256) (by omega)
          have hW : ∀ n, n = r / 256 % 16 → _ := fun n hn => bw_byte w.heap.size w.heap.size _ (hexD n) wr HBW.out.bl (by rw [List.length_append, List.length_append, List.length_take]; have : (hex4L r).length = 4 := rfl; simp at hll ⊢; omega) (Nat.le_trans HBB.out.size HBW.out.below.size)
          obtain ⟨n, hn⟩ : ∃ n, n = r / 256 % 16 := ⟨_, rfl⟩
          have HWB := Lib.hid (hW n hn)
          have hn16 : n < 16 := by omega
          rw [← hn] at hba
          have hlt : (n : Int) < 16 := by omega
          clear hW
          gi_wp2_with fail
          simp only [hexD_at (r / 256 % 16) (by omega)]
          rw [← hn]
          refine ⟨trivial, (CallsIn.inRound l' ((callsIn_wide (n := 1)).2 HWB.out)).mono ?_⟩
          rintro e w4 ⟨⟨n, rfl⟩, hw4⟩
          have HW4 := Lib.hid hw4
          clear hw4
          gi_wp2_with fail
          go_roundw
          case measure => simp [RowKit.intOf]
          case rel => exact ⟨2, by omega, by simp, by have := HBW.out.trans HW4.out; rw [hn] at this; simpa [hex4L] using this⟩
        · have hba : bits .and .i32 ((r : Int) / 16) 15 = ((r / 16 % 16 : Nat) : Int) := and15 (r / 16) (by omega)
          have hW : ∀ n, n = r / 16 % 16 → _ := fun n hn => bw_byte w.heap.size w.heap.size _ (hexD n) wr HBW.out.bl (by rw [List.length_append, List.length_append, List.length_take]; have : (hex4L r).length = 4 := rfl; simp at hll ⊢; omega) (Nat.le_trans HBB.out.size HBW.out.below.size)
          obtain ⟨n, hn⟩ : ∃ n, n = r / 16 % 16 := ⟨_, rfl⟩
          have HWB := Lib.hid (hW n hn)
          have hn16 : n < 16 := by omega
          rw [← hn] at hba
          have hlt : (n : Int) < 16 := by omega
          clear hW
          gi_wp2_with fail
          simp only [hexD_at (r / 16 % 16) (by omega)]
          rw [← hn]
          refine ⟨trivial, (CallsIn.inRound l' ((callsIn_wide (n := 1)).2 HWB.out)).mono ?_⟩
          rintro e w4 ⟨⟨n, rfl⟩, hw4⟩
          have HW4 := Lib.hid hw4
          clear hw4
          gi_wp2_with fail
          go_roundw
          case measure => simp [RowKit.intOf]
          case rel => exact ⟨3, by omega, by simp, by have := HBW.out.trans HW4.out; rw [hn] at this; simpa [hex4L] using this⟩
        · have hba : bits .and .i32 ((r : Int)) 15 = ((r % 16 : Nat) : Int) := and15 (r) (by omega)
          have hW : ∀ n, n = r % 16 → _ := fun n hn => bw_byte w.heap.size w.heap.size _ (hexD n) wr HBW.out.bl (by rw [List.length_append, List.length_append, List.length_take]; have : (hex4L r).length = 4 := rfl; simp at hll ⊢; omega) (Nat.le_trans HBB.out.size HBW.out.below.size)
          obtain ⟨n, hn⟩ : ∃ n, n = r % 16 := ⟨_, rfl⟩
          have HWB := Lib.hid (hW n hn)
          have hn16 : n < 16 := by omega
          rw [← hn] at hba
          have hlt : (n : Int) < 16 := by omega
          clear hW
          gi_wp2_with fail
          simp only [hexD_at (r % 16) (by omega)]
          rw [← hn]
          refine ⟨trivial, (CallsIn.inRound l' ((callsIn_wide (n := 1)).2 HWB.out)).mono ?_⟩
          rintro e w4 ⟨⟨n, rfl⟩, hw4⟩
          have HW4 := Lib.hid hw4
          clear hw4
          gi_wp2_with fail
          go_roundw
          case measure => simp [RowKit.intOf]
          case rel => exact ⟨4, by omega, by simp, by have := HBW.out.trans HW4.out; rw [hn] at this; simpa [hex4L] using this⟩
        · gi_wp2_with fail
          exact HF.out wr (by have := HBW.out; rw [(hex4_get r).2.2.2.2, List.append_assoc] at this; exact this)
  case done =>
    rintro D ys W hD rfl ⟨hbl, hB, hsz, -⟩ hK
    rw [outQ_all] at hbl
    have hql := outQ_len (ptsO 0 b.data.toList)
    rw [outQ_all] at hql
    have HQ2 := Lib.hid ((callsIn_wide (n := 3)).2 (bw_byte w.heap.size w.heap.size _ 34 W hbl (by rw [List.length_cons]; omega) hB.size))
    have HK := Lib.hid hK
    have HBB := Lib.hid hB
    clear hK hB hbl
    gi_wp2_with fail
    refine ⟨trivial, HQ2.out.mono ?_⟩
    rintro e w1 ⟨rfl, hw1⟩
    have HS := Lib.hid ((callsIn_wide (n := 3)).2 (Tryz.Builder_String_any_k w.heap.size w.heap.size _ w1 hw1.bl (by have := hw1.below.size; have := HBB.out.size; omega)))
    have hD1 := hw1.oth D _ HK.out (by simp; omega) (fun c fz h => by cases h)
    have HB1 := Lib.hid (HBB.out.trans hw1.below)
    have HD1 := Lib.hid hD1
    clear hw1 hD1
    gi_wp2_with fail
    refine ⟨trivial, HS.out.mono ?_⟩
    rintro e w2 ⟨rfl, hbl2, hb2, hk2⟩
    have HB2 := Lib.hid hb2
    have HK2 := Lib.hid hk2
    clear hb2 hbl2 hk2
    gi_wp2_with fail
    have hD2 : w2.heap[D]? = some (.deferred (some [])) := HK2.out D _ HD1.out (by simp; omega) (fun c fz h => by cases h)
    refine ⟨by simp, .inl ⟨_, _, rfl, run_takeDeferred hD2, ?_⟩⟩
    refine ⟨.string ⟨(quoL b.data.toList).toArray⟩, ?_, rfl, (HB1.out.trans HB2.out).trans (belowK_b (w := w) (Nat.le_refl _) _ D _ _ (by omega) hD2 rfl rfl)⟩
    simp [results, Tryz.f17, go_sem, quoL]
  case stop =>
    rintro D c pre W hD _ h
    exact h.elim
end Go.Proofs.YtckaoeloofbklaaGreatDoor

/- json.float: what is shown of a number. -/
namespace Go.Proofs.YtckaoeloofbklaaGreatDoor
open Go Go.RowKit Go.Lib

/-- the bytes of a shown number that is finite -/
def okC (c : UInt8) : Bool := isDgB c || c == 46 || c == 101 || c == 43 || c == 45
theorem dig_ok {c : UInt8} (h : isDig c) : isDgB c = true := by
  unfold isDgB
  exact decide_eq_true h
theorem dig_okC {c : UInt8} (h : isDig c) : okC c = true := by unfold okC; rw [dig_ok h]; rfl
theorem exp_okC (x : Int) : ∀ c ∈ expS x, okC c = true := by
  unfold expS
  intro c hc
  rcases List.mem_cons.1 hc with rfl | hc
  · decide
  · rcases List.mem_cons.1 hc with rfl | hc
    · split <;> decide
    · exact dig_okC (dec_digs _ c hc)
theorem placed_okC (d : List UInt8) (p : Int) (hd : ∀ c ∈ d, isDig c) : ∀ c ∈ placedB d p, okC c = true := by
  have hz : ∀ (k : Nat), ∀ c ∈ List.replicate k (48 : UInt8), okC c = true := fun k c hc => by rw [z48 k c hc]; decide
  unfold placedB
  intro c hc
  split at hc
  · rcases List.mem_append.1 hc with h | h
    · exact dig_okC (hd c h)
    · exact hz _ c h
  · split at hc
    · rcases List.mem_append.1 hc with h | h
      · exact dig_okC (hd c (List.mem_of_mem_take h))
      · rcases List.mem_cons.1 h with rfl | h
        · decide
        · exact dig_okC (hd c (List.mem_of_mem_drop h))
    · split at hc
      · rcases List.mem_cons.1 hc with rfl | hc
        · decide
        · rcases List.mem_cons.1 hc with rfl | hc
          · decide
          · rcases List.mem_append.1 hc with h | h
            · exact hz _ c h
            · exact dig_okC (hd c h)
      · rcases List.mem_append.1 hc with h | h
        · split at h
          · rcases List.mem_append.1 h with h | h
            · exact dig_okC (hd c (List.mem_of_mem_take h))
            · rcases List.mem_cons.1 h with rfl | h
              · decide
              · exact dig_okC (hd c (List.mem_of_mem_drop h))
          · exact dig_okC (hd c h)
        · exact exp_okC _ c h
theorem showA_okC (a : Nat) (h1 : 0 < a) (h2 : a < 9218868437227405312) : ∀ c ∈ showA a, okC c = true := by
  obtain ⟨b1, b2, b3⟩ := sh_bounds a h1 h2
  unfold showA
  obtain ⟨t, i, e1, e2⟩ := strip_ex (shN a).1 b1
  have ht0 : 1 ≤ t := by omega
  have hsig : sig (shN a).1 = decDigits t := by rw [e1, sig_tens t ht0, sig_odd t e2]
  rw [hsig]
  exact placed_okC _ _ (dec_digs t)

theorem ba_app (a b : List UInt8) : (⟨a.toArray⟩ : ByteArray) ++ ⟨b.toArray⟩ = ⟨(a ++ b).toArray⟩ := by
  apply ByteArray.ext
  simp [ByteArray.data_append]
/-- infinite, or no number -/
def infU (u : Nat) : Bool := decide (9218868437227405312 ≤ ru u)
theorem showB_fin (u : Nat) (h : infU u = false) : showB u = sgB (ngB u) ++ (if ru u = 0 then [48] else showA (ru u)) := by
  have h := of_decide_eq_false h
  rw [show_sgn u (by omega), sg_of, if_neg (by omega)]
theorem showB_okC (u : Nat) (h : infU u = false) : ∀ c ∈ showB u, okC c = true := by
  rw [showB_fin u h]
  have h := of_decide_eq_false h
  intro c hc
  rcases List.mem_append.1 hc with hc | hc
  · cases hn : ngB u <;> rw [hn] at hc <;> simp [sgB] at hc
    rw [hc]; decide
  · split at hc
    · simp at hc; rw [hc]; decide
    · exact showA_okC _ (by omega) (by omega) c hc
theorem showB_len (u : Nat) : (showB u).length ≤ 101 := by
  by_cases h1 : 9218868437227405312 < ru u
  · rw [show_nan_eq u h1]; decide
  · by_cases h2 : ru u = 9218868437227405312
    · rw [show_sgn u (by omega), sg_of, if_pos h2]
      cases ngB u <;> decide
    · rw [showB_fin u (decide_eq_false (by omega))]
      rw [List.length_append]
      have : (sgB (ngB u)).length ≤ 1 := by cases ngB u <;> decide
      split
      · simp; omega
      · have := (shown_form (ru u) (by omega) (by omega)).2.1
        omega
/-- json's text of a number -/
def fltN (u : Nat) : List UInt8 := if infU u then [110, 117, 108, 108] else if (showB u).any (fun c => c == 46 || c == 101) then showB u else showB u ++ [46, 48]

theorem indexAny_any (m : List UInt8) : ∀ l : List UInt8, Lib.containsAny l m = l.any (m.contains ·)
  | [] => rfl
  | b :: l => by
    have ih := indexAny_any m l
    unfold Lib.containsAny at ih ⊢
    rw [List.any_cons, ← ih, Lib.indexAny]
    have := Lib.indexAny_ge m l
    cases hb : m.contains b with
    | true => simp
    | false =>
      simp only [Bool.false_or]
      by_cases hx : Lib.indexAny l m = -1
      · simp [hx]
      · have e : (Lib.indexAny l m == -1) = false := by simpa using hx
        simp [e]
        omega
set_option maxRecDepth 100000 in
set_option maxHeartbeats 4000000 in
theorem float_any (u : Nat) (w : World) (hg : Globs w) (hu : u < 18446744073709551616) :
    Calls Tryz.prog 46 #[.int .u64 u] w fun e w' => e = .returned (.string ⟨(fltN u).toArray⟩) ∧ Below w.heap.size w w' := by
  have hlen := showB_len u
  have h128 : ∀ (j : Nat) b, (showB u)[j]? = some b → b.toNat < 128 := by
    intro j b hj
    have hm := List.mem_of_getElem? hj
    cases hi : infU u with
    | false =>
      have := showB_okC u hi b hm
      have key : ∀ c : Fin 256, okC (UInt8.ofNat c.val) = true → c.val < 128 := by decide +kernel
      exact key ⟨b.toNat, b.toNat_lt⟩ (by simpa only [UInt8.ofNat_toNat] using this)
    | true =>
      have hi := of_decide_eq_true hi
      by_cases h1 : 9218868437227405312 < ru u
      · rw [show_nan_eq u h1] at hm
        clear hj; revert b; decide
      · rw [show_sgn u (by omega), sg_of, if_pos (by omega)] at hm
        clear hj
        revert hm
        cases ngB u <;> revert b <;> decide
  have HS := Lib.hid (show_any u w hg hu)
  have hca : ∀ (m : ByteArray) (W : World), m.size < 100 → (∀ (j : Nat) b, m.data.toList[j]? = some b → b.toNat < 128) → Calls Tryz.prog 70 #[.string ⟨(showB u).toArray⟩, .string m] W fun e w' => e = .returned (.bool ((showB u).any (m.data.toList.contains ·))) ∧ Below W.heap.size W w' := fun m W h1 h2 => by
    have := Tryz.strings_ContainsAny_laid ⟨(showB u).toArray⟩ m W (by show (showB u).length < _; omega) (by omega) h128 h2
    rw [indexAny_any] at this
    exact this
  have h3 : (showB u).any (((⟨#[78, 121]⟩ : ByteArray) : ByteArray).data.toList.contains ·) = infU u := by
    cases hi : infU u with
    | false =>
      rw [List.any_eq_false]
      intro c hc
      have := showB_okC u hi c hc
      have key : ∀ c : Fin 256, okC (UInt8.ofNat c.val) = true → ((⟨#[78, 121]⟩ : ByteArray) : ByteArray).data.toList.contains (UInt8.ofNat c.val) = false := by decide +kernel
      have := key ⟨c.toNat, c.toNat_lt⟩ (by simpa only [UInt8.ofNat_toNat] using this)
      simp only [UInt8.ofNat_toNat] at this
      rw [this]; decide
    | true =>
      have hi := of_decide_eq_true hi
      by_cases h1 : 9218868437227405312 < ru u
      · rw [show_nan_eq u h1]; decide
      · rw [show_sgn u (by omega), sg_of, if_pos (by omega)]
        cases ngB u <;> decide
  have h4 : (showB u).any (((⟨#[46, 101]⟩ : ByteArray) : ByteArray).data.toList.contains ·) = (showB u).any (fun c => c == 46 || c == 101) := by
    congr 1
    funext c
    have key : ∀ c : Fin 256, ((⟨#[46, 101]⟩ : ByteArray) : ByteArray).data.toList.contains (UInt8.ofNat c.val) = (UInt8.ofNat c.val == 46 || UInt8.ofNat c.val == 101) := by decide +kernel
    have := key ⟨c.toNat, c.toNat_lt⟩
    simpa only [UInt8.ofNat_toNat] using this
  have HN := Lib.hid (fun W => hca (⟨#[78, 121]⟩ : ByteArray) W (by decide) (by intro j b hj; have := List.mem_of_getElem? hj; clear hj; revert b; decide))
  have HE := Lib.hid (fun W => hca (⟨#[46, 101]⟩ : ByteArray) W (by decide) (by intro j b hj; have := List.mem_of_getElem? hj; clear hj; revert b; decide))
  rw [h3] at HN
  rw [h4] at HE
  clear hca h3 h4 h128
  have HL := Lib.hid (rfl : fltN u = fltN u)
  generalize hL : fltN u = L at HL ⊢
  replace HL := Lib.hid hL
  clear hL
  go_enter Tryz.func46, Tryz.ntmps46
  go_wp2_with fail
  refine HS.out.mono ?_
  rintro e w1 ⟨rfl, hb1⟩
  have HN1 := Lib.hid (HN.out w1)
  have HB1 := Lib.hid hb1
  clear hb1
  go_wp2_with fail
  refine HN1.out.mono ?_
  rintro e w2 ⟨rfl, hb2⟩
  have HE2 := Lib.hid (HE.out w2)
  have HB2 := Lib.hid (HB1.out.trans (hb2.mono HB1.out.size))
  clear hb2
  cases hi : infU u with
  | true =>
    go_wp2_with fail
    go_ret
    exact ⟨by rw [← HL.out]; unfold fltN; rw [if_pos hi]; rfl, HB2.out⟩
  | false =>
    go_wp2_with fail
    refine HE2.out.mono ?_
    rintro e w3 ⟨rfl, hb3⟩
    have HB3 := Lib.hid (HB2.out.trans (hb3.mono HB2.out.size))
    clear hb3
    cases ha : (showB u).any (fun c => c == 46 || c == 101) with
    | true =>
      go_wp2_with fail
      go_ret
      exact ⟨by rw [← HL.out]; unfold fltN; rw [if_neg (by rw [hi]; decide), if_pos ha]; rfl, HB3.out⟩
    | false =>
      go_wp2_with fail
      go_ret
      exact ⟨by rw [← HL.out]; unfold fltN; rw [if_neg (by rw [hi]; decide), if_neg (by rw [ha]; decide), ← ba_app]; rfl, HB3.out⟩
end Go.Proofs.YtckaoeloofbklaaGreatDoor

/- The reader: numbers. -/
namespace Go.Proofs.YtckaoeloofbklaaGreatDoor
open Go Go.RowKit Go.Lib

/-- which texts are which numbers (those of them that are needed) -/
inductive NJ : List UInt8 → JV → Prop
  | int {a : List UInt8} {n : Int} (ng : Bool) (l : List UInt8) (c : UInt8) (W : List UInt8) (ha : a = sgB ng ++ l) (hf : NumT l c W [] []) (hl : l.length ≤ 1000) (h0 : a ≠ [45, 48]) (hp : Lib.parseIntB 64 a = .ok n) : NJ a (jInt n)
  | flt {a : List UInt8} {u : Nat} (ng : Bool) (l : List UInt8) (c : UInt8) (W fr ex : List UInt8) (ha : a = sgB ng ++ l) (hf : NumT l c W fr ex) (hl : l.length ≤ 1000) (h : fr ++ ex ≠ [] ∨ a = [45, 48]) (hu : u < 18446744073709551616) (hi : infU u = false)
      (hP : ∀ K w, Globs w → GlobT K w → Calls Tryz.prog 121 #[.string ⟨a.toArray⟩] w fun e w' => e = .returned (.tuple #[.int .u64 (u : Nat), .int .i64 0]) ∧ Below w.heap.size w w') : NJ a (jFlt u)

theorem suf_mem (l : List UInt8) (c : UInt8) (h : Lib.hasSuffix l [c] = true) : c ∈ l := by
  unfold Lib.hasSuffix at h
  have := List.isSuffixOf_iff_suffix.1 h
  exact this.subset (by simp)
set_option maxRecDepth 100000 in
theorem long_any (a : List UInt8) (u : Nat) (w : World) (hP : Calls Tryz.prog 121 #[.string ⟨a.toArray⟩] w fun e w' => e = .returned (.tuple #[.int .u64 (u : Nat), .int .i64 0]) ∧ Below w.heap.size w w') :
    Calls Tryz.prog 83 #[.string ⟨a.toArray⟩] w fun e w' => e = .returned (.int .u64 (u : Nat)) ∧ Below w.heap.size w w' := by
  have HP := Lib.hid hP
  clear hP
  go_enter Tryz.func83, Tryz.ntmps83
  go_wp2_with fail
  refine HP.out.mono ?_
  rintro e w1 ⟨rfl, hb⟩
  go_wp2_with fail
  go_ret
  exact ⟨rfl, hb⟩

set_option maxRecDepth 100000 in
set_option maxHeartbeats 4000000 in
theorem number_int (r : Nat) (s : ByteArray) (a t : List UInt8) (d : Nat) (w : World) (h : Rd r s (a ++ t) d w) (hn : a.all numC = true) (ht : Ends numC t) (n : Int) (ng : Bool) (l : List UInt8) (c : UInt8) (W : List UInt8) (ha : a = sgB ng ++ l) (hf : NumT l c W [] []) (hl : l.length ≤ 1000) (h0 : a ≠ [45, 48]) (hp : Lib.parseIntB 64 a = .ok n) :
    Calls Tryz.prog 51 #[.pointer (some ⟨r, 0, none⟩)] w (ValOk r s d w (jInt n) t) := by
  have hal := h.alloc (.cells #[.int .u8 0, .bool false, .int .i64 0, .int .u64 0, .string ⟨#[]⟩, .slice none 0 0, .slice none 0 0] 27)
  have hnew := heap_alloc_new w (.cells #[.int .u8 0, .bool false, .int .i64 0, .int .u64 0, .string ⟨#[]⟩, .slice none 0 0, .slice none 0 0] 27)
  have hkr := (KR.refl r w).alloc (.cells #[.int .u8 0, .bool false, .int .i64 0, .int .u64 0, .string ⟨#[]⟩, .slice none 0 0, .slice none 0 0] 27)
  have hrl := h.lt
  obtain ⟨m, hm, c1⟩ := hal.pos
  have HR := Lib.hid (run_any _ numC numc_any ent_numc r s a t d _ hal hn ht)
  have HN := Lib.hid hnew
  have HKR := Lib.hid hkr
  have HFM := Lib.hid (fun w => formed_any ng l c W [] [] hf w (by omega))
  rw [← ha] at HFM
  have hal2 : a.length ≤ 1001 := by rw [ha, List.length_append]; cases ng <;> simp [sgB] <;> omega
  have hne : (a == [45, 48]) = false := by rw [beq_eq_false_iff_ne]; exact h0
  have HPI := Lib.hid (fun W => Tryz.strconv_ParseInt_10_at64_ok ⟨a.toArray⟩ (by show a.length ≤ _; omega) n hp W)
  clear h hal hnew hkr hm h0 ha hf hp
  go_enter Tryz.func51, Tryz.ntmps51
  go_wp2_with fail
  refine HR.out.mono ?_
  rintro e w1 ⟨rfl, hr1, hk1⟩
  have hs1 := hk1.size
  have HK1 := Lib.hid (HKR.out.trans hk1)
  have HN1 := Lib.hid ((hk1.block w.heap.size (by simp) (by omega)).trans HN.out)
  have HR1 := Lib.hid hr1
  have HFO := Lib.hid (HFM.out w1)
  clear hr1 hk1 c1
  go_wp2_with fail
  refine HFO.out.mono ?_
  rintro e w2 ⟨rfl, hb2⟩
  have hs2 := hb2.size
  have hlt1 : w.heap.size < w1.heap.size := by simp at hs1; omega
  have HK2 := Lib.hid (HK1.out.trans (KR.of hb2))
  have HN2 := Lib.hid ((hb2.block w.heap.size hlt1).trans HN1.out)
  have HR2 := Lib.hid (HR1.out.below hb2)
  clear hb2
  have HPP := Lib.hid (HPI.out w2)
  go_wp2_with fail
  refine HPP.out.mono ?_
  rintro e w3 ⟨rfl, hw3⟩
  have hb3 : Below w2.heap.size w2 w3 := by
    rcases hw3 with rfl | ⟨x, rfl⟩
    · exact Below.refl _ _
    · exact bytesWorld_below _ _ _
  have hs3 := hb3.size
  have HK3 := Lib.hid (HK2.out.trans (KR.of hb3))
  have HN3 := Lib.hid ((hb3.block w.heap.size (by omega)).trans HN2.out)
  have HR3 := Lib.hid (HR2.out.below hb3)
  clear hb3 hw3
  have hn9 := HN3.out
  obtain ⟨n0, n1, n2, n3, n4, n5, n6⟩ := cell_agg7 hn9
  have q : ∀ j, w3.frozen? ⟨w.heap.size, j, none⟩ = false := fun j => froz_agg hn9 j
  have HN9 := Lib.hid hn9
  have HK9 := Lib.hid HK3.out
  have HRD9 := Lib.hid HR3.out
  clear hn9
  go_wp2_with fail
  show bodyPost _ _ _ _ _ (set7 w3 w.heap.size (.int .u8 3) (.bool false) (.int .i64 n) (.int .u64 0) (.string ⟨#[]⟩) (.slice none 0 0) (.slice none 0 0))
  have hF := seven_set HN9.out (.int .u8 3) (.bool false) (.int .i64 n) (.int .u64 0) (.string ⟨#[]⟩) (.slice none 0 0) (.slice none 0 0)
  have hok := fun e he => set7_ok (e := e) (k := 3) (b := false) (n := n) (u := 0) (x := ⟨#[]⟩) (p := w.heap.size) he HK9.out HRD9.out (Nat.le_refl _) hrl (.int .u8 3) (.bool false) (.int .i64 n) (.int .u64 0) (.string ⟨#[]⟩) (.slice none 0 0) (.slice none 0 0)
  unfold set7 at hok ⊢
  generalize ((((((w3.setCell ⟨w.heap.size, 0, none⟩ (.int .u8 3)).setCell ⟨w.heap.size, 1, none⟩ (.bool false)).setCell ⟨w.heap.size, 2, none⟩ (.int .i64 n)).setCell ⟨w.heap.size, 3, none⟩ (.int .u64 0)).setCell ⟨w.heap.size, 4, none⟩ (.string ⟨#[]⟩)).setCell ⟨w.heap.size, 5, none⟩ (.slice none 0 0)).setCell ⟨w.heap.size, 6, none⟩ (.slice none 0 0) = F at *
  obtain ⟨g0, g1, g2, g3, g4, g5, g6⟩ := cell_agg7 hF
  refine bodyPost_ret (v := atomV 3 false n 0 ⟨#[]⟩) (by simp [results, Tryz.results51, go_sem, atomV, g0, g1, g2, g3, g4, g5, g6]) rfl ?_
  exact hok _ rfl

set_option maxRecDepth 100000 in
set_option maxHeartbeats 8000000 in
theorem number_flt (r : Nat) (s : ByteArray) (a t : List UInt8) (d : Nat) (w : World) (h : Rd r s (a ++ t) d w) (hn : a.all numC = true) (ht : Ends numC t) (K : Nat) (hG : Globs w) (hT : GlobT K w) (hK : K ≤ r) (u : Nat) (ng : Bool) (l : List UInt8) (c : UInt8) (W fr ex : List UInt8) (ha : a = sgB ng ++ l) (hf : NumT l c W fr ex) (hl : l.length ≤ 1000) (hw : fr ++ ex ≠ [] ∨ a = [45, 48]) (hu : u < 18446744073709551616) (hi : infU u = false)
    (hP : ∀ K w, Globs w → GlobT K w → Calls Tryz.prog 121 #[.string ⟨a.toArray⟩] w fun e w' => e = .returned (.tuple #[.int .u64 (u : Nat), .int .i64 0]) ∧ Below w.heap.size w w') :
    Calls Tryz.prog 51 #[.pointer (some ⟨r, 0, none⟩)] w (ValOk r s d w (jFlt u) t) := by
  have hal := h.alloc (.cells #[.int .u8 0, .bool false, .int .i64 0, .int .u64 0, .string ⟨#[]⟩, .slice none 0 0, .slice none 0 0] 27)
  have hnew := heap_alloc_new w (.cells #[.int .u8 0, .bool false, .int .i64 0, .int .u64 0, .string ⟨#[]⟩, .slice none 0 0, .slice none 0 0] 27)
  have hkr := (KR.refl r w).alloc (.cells #[.int .u8 0, .bool false, .int .i64 0, .int .u64 0, .string ⟨#[]⟩, .slice none 0 0, .slice none 0 0] 27)
  have hrl := h.lt
  obtain ⟨m, hm, c1⟩ := hal.pos
  have HR := Lib.hid (run_any _ numC numc_any ent_numc r s a t d _ hal hn ht)
  have HN := Lib.hid hnew
  have HKR := Lib.hid hkr
  have HFM := Lib.hid (fun w => formed_any ng l c W fr ex hf w (by omega))
  rw [← ha] at HFM
  have hK17 := hT.lt
  have HG := Lib.hid (fun W (h : KR r w W) => (⟨hG.below (by omega) (h.below (by omega)), hT.below hK (h.below (by omega))⟩ : Globs W ∧ GlobT K W))
  have HLO := Lib.hid (fun W (h : KR r w W) => long_any a u W (hP K W (HG.out W h).1 (HG.out W h).2))
  have HSH := Lib.hid (fun W (h : KR r w W) => show_any u W (HG.out W h).1 hu)
  have hsl := showB_len u
  have hsuf : Lib.hasSuffix (showB u) ((⟨#[121]⟩ : ByteArray) : ByteArray).data.toList = false := by
    rw [← Bool.not_eq_true]
    intro hh
    have := showB_okC u hi 121 (suf_mem _ _ hh)
    revert this; decide
  have HSU := Lib.hid (fun W => Tryz.strings_HasSuffix ⟨(showB u).toArray⟩ (⟨#[121]⟩ : ByteArray) W (by show (showB u).length ≤ _; omega))
  rw [show (⟨(showB u).toArray⟩ : ByteArray).data.toList = showB u from rfl, hsuf] at HSU
  have hcond : ((fr ++ ex).isEmpty = false) ∨ ((fr ++ ex).isEmpty = true ∧ a = [45, 48]) := by
    rcases hw with hw | hw
    · left; cases he : fr ++ ex with
      | nil => exact absurd he hw
      | cons => rfl
    · cases he : fr ++ ex with
      | nil => exact .inr ⟨rfl, hw⟩
      | cons => exact .inl rfl
  clear h hal hnew hkr hm hw hP hf ha
  generalize (fr ++ ex).isEmpty = wh at *
  go_enter Tryz.func51, Tryz.ntmps51
  go_wp2_with fail
  refine HR.out.mono ?_
  rintro e w1 ⟨rfl, hr1, hk1⟩
  have hs1 := hk1.size
  have HK1 := Lib.hid (HKR.out.trans hk1)
  have HN1 := Lib.hid ((hk1.block w.heap.size (by simp) (by omega)).trans HN.out)
  have HR1 := Lib.hid hr1
  have HFO := Lib.hid (HFM.out w1)
  clear hr1 hk1 c1
  go_wp2_with fail
  refine HFO.out.mono ?_
  rintro e w2 ⟨rfl, hb2⟩
  have hs2 := hb2.size
  have hlt1 : w.heap.size < w1.heap.size := by simp at hs1; omega
  have HK2 := Lib.hid (HK1.out.trans (KR.of hb2))
  have HN2 := Lib.hid ((hb2.block w.heap.size hlt1).trans HN1.out)
  have HR2 := Lib.hid (HR1.out.below hb2)
  clear hb2
  have HLL := Lib.hid (HLO.out w2 HK2.out)
  go_upto_region 10 with fail
  · exfalso
    clear HR HN HKR HFM HG HLO HSH HSU HK1 HN1 HR1 HFO HK2 HN2 HR2 HLL
    rcases hcond with h | ⟨-, h⟩ <;> simp_all
  · skip
    go_wp2_with fail
    refine HLL.out.mono ?_
    rintro e w3 ⟨rfl, hb3⟩
    have hs3 := hb3.size
    have HK3 := Lib.hid (HK2.out.trans (KR.of hb3))
    have HN3 := Lib.hid ((hb3.block w.heap.size (by omega)).trans HN2.out)
    have HR3 := Lib.hid (HR2.out.below hb3)
    clear hb3
    have HSW := Lib.hid (HSH.out w3 HK3.out)
    go_wp2_with fail
    refine HSW.out.mono ?_
    rintro e w4 ⟨rfl, hb4⟩
    have hs4 := hb4.size
    have HK4 := Lib.hid (HK3.out.trans (KR.of hb4))
    have HN4 := Lib.hid ((hb4.block w.heap.size (by omega)).trans HN3.out)
    have HR4 := Lib.hid (HR3.out.below hb4)
    clear hb4
    have HSX := Lib.hid (HSU.out w4)
    go_wp2_with fail
    refine HSX.out.mono ?_
    rintro e w5 ⟨rfl, hw5⟩
    replace hw5 := hw5.symm
    subst hw5
    have hn9 := HN4.out
    obtain ⟨n0, n1, n2, n3, n4, n5, n6⟩ := cell_agg7 hn9
    have q : ∀ j, w4.frozen? ⟨w.heap.size, j, none⟩ = false := fun j => froz_agg hn9 j
    have HN9 := Lib.hid hn9
    have HK9 := Lib.hid HK4.out
    have HRD9 := Lib.hid HR4.out
    clear hn9
    go_wp2_with fail
    show bodyPost _ _ _ _ _ (set7 w4 w.heap.size (.int .u8 4) (.bool false) (.int .i64 0) (.int .u64 ((u : Nat) : Int)) (.string ⟨#[]⟩) (.slice none 0 0) (.slice none 0 0))
    have hF := seven_set HN9.out (.int .u8 4) (.bool false) (.int .i64 0) (.int .u64 ((u : Nat) : Int)) (.string ⟨#[]⟩) (.slice none 0 0) (.slice none 0 0)
    have hok := fun e he => set7_ok (e := e) (k := 4) (b := false) (n := 0) (u := ((u : Nat) : Int)) (x := ⟨#[]⟩) (p := w.heap.size) he HK9.out HRD9.out (Nat.le_refl _) hrl (.int .u8 4) (.bool false) (.int .i64 0) (.int .u64 ((u : Nat) : Int)) (.string ⟨#[]⟩) (.slice none 0 0) (.slice none 0 0)
    unfold set7 at hok ⊢
    generalize ((((((w4.setCell ⟨w.heap.size, 0, none⟩ (.int .u8 4)).setCell ⟨w.heap.size, 1, none⟩ (.bool false)).setCell ⟨w.heap.size, 2, none⟩ (.int .i64 0)).setCell ⟨w.heap.size, 3, none⟩ (.int .u64 ((u : Nat) : Int))).setCell ⟨w.heap.size, 4, none⟩ (.string ⟨#[]⟩)).setCell ⟨w.heap.size, 5, none⟩ (.slice none 0 0)).setCell ⟨w.heap.size, 6, none⟩ (.slice none 0 0) = F at *
    obtain ⟨g0, g1, g2, g3, g4, g5, g6⟩ := cell_agg7 hF
    refine bodyPost_ret (v := atomV 4 false 0 ((u : Nat) : Int) ⟨#[]⟩) (by simp [results, Tryz.results51, go_sem, atomV, g0, g1, g2, g3, g4, g5, g6]) rfl ?_
    exact hok _ rfl
  · skip
    go_wp2_with fail
    refine HLL.out.mono ?_
    rintro e w3 ⟨rfl, hb3⟩
    have hs3 := hb3.size
    have HK3 := Lib.hid (HK2.out.trans (KR.of hb3))
    have HN3 := Lib.hid ((hb3.block w.heap.size (by omega)).trans HN2.out)
    have HR3 := Lib.hid (HR2.out.below hb3)
    clear hb3
    have HSW := Lib.hid (HSH.out w3 HK3.out)
    go_wp2_with fail
    refine HSW.out.mono ?_
    rintro e w4 ⟨rfl, hb4⟩
    have hs4 := hb4.size
    have HK4 := Lib.hid (HK3.out.trans (KR.of hb4))
    have HN4 := Lib.hid ((hb4.block w.heap.size (by omega)).trans HN3.out)
    have HR4 := Lib.hid (HR3.out.below hb4)
    clear hb4
    have HSX := Lib.hid (HSU.out w4)
    go_wp2_with fail
    refine HSX.out.mono ?_
    rintro e w5 ⟨rfl, hw5⟩
    replace hw5 := hw5.symm
    subst hw5
    have hn9 := HN4.out
    obtain ⟨n0, n1, n2, n3, n4, n5, n6⟩ := cell_agg7 hn9
    have q : ∀ j, w4.frozen? ⟨w.heap.size, j, none⟩ = false := fun j => froz_agg hn9 j
    have HN9 := Lib.hid hn9
    have HK9 := Lib.hid HK4.out
    have HRD9 := Lib.hid HR4.out
    clear hn9
    go_wp2_with fail
    show bodyPost _ _ _ _ _ (set7 w4 w.heap.size (.int .u8 4) (.bool false) (.int .i64 0) (.int .u64 ((u : Nat) : Int)) (.string ⟨#[]⟩) (.slice none 0 0) (.slice none 0 0))
    have hF := seven_set HN9.out (.int .u8 4) (.bool false) (.int .i64 0) (.int .u64 ((u : Nat) : Int)) (.string ⟨#[]⟩) (.slice none 0 0) (.slice none 0 0)
    have hok := fun e he => set7_ok (e := e) (k := 4) (b := false) (n := 0) (u := ((u : Nat) : Int)) (x := ⟨#[]⟩) (p := w.heap.size) he HK9.out HRD9.out (Nat.le_refl _) hrl (.int .u8 4) (.bool false) (.int .i64 0) (.int .u64 ((u : Nat) : Int)) (.string ⟨#[]⟩) (.slice none 0 0) (.slice none 0 0)
    unfold set7 at hok ⊢
    generalize ((((((w4.setCell ⟨w.heap.size, 0, none⟩ (.int .u8 4)).setCell ⟨w.heap.size, 1, none⟩ (.bool false)).setCell ⟨w.heap.size, 2, none⟩ (.int .i64 0)).setCell ⟨w.heap.size, 3, none⟩ (.int .u64 ((u : Nat) : Int))).setCell ⟨w.heap.size, 4, none⟩ (.string ⟨#[]⟩)).setCell ⟨w.heap.size, 5, none⟩ (.slice none 0 0)).setCell ⟨w.heap.size, 6, none⟩ (.slice none 0 0) = F at *
    obtain ⟨g0, g1, g2, g3, g4, g5, g6⟩ := cell_agg7 hF
    refine bodyPost_ret (v := atomV 4 false 0 ((u : Nat) : Int) ⟨#[]⟩) (by simp [results, Tryz.results51, go_sem, atomV, g0, g1, g2, g3, g4, g5, g6]) rfl ?_
    exact hok _ rfl
end Go.Proofs.YtckaoeloofbklaaGreatDoor

/- Values as texts, and these with blanks (plain). -/
namespace Go.Proofs.YtckaoeloofbklaaGreatDoor

section
variable (intL fltL : Int → List UInt8)
mutual
/-- a value's text -/
def showJ : JV → List UInt8
  | .mk k b n u s ks vs =>
    if k = 1 then [110, 117, 108, 108]
    else if k = 2 then (if b then [116, 114, 117, 101] else [102, 97, 108, 115, 101])
    else if k = 3 then intL n
    else if k = 4 then fltL u
    else if k = 5 then quoL s.data.toList
    else if k = 7 then 123 :: (showT true ks vs).drop 1 ++ [125]
    else 91 :: (showT false ks vs).drop 1 ++ [93]
/-- what a value holds, with a comma ahead of each -/
def showT : Bool → List ByteArray → List JV → List UInt8
  | _, _, [] => []
  | r, ks, v :: vs => 44 :: ((if r then quoL (ks.headD ⟨#[]⟩).data.toList ++ [58] else []) ++ showJ v) ++ showT r ks.tail vs
end
variable (inf : Int → Bool)
mutual
/-- what a value's text is read as -/
def normJ : JV → JV
  | .mk k b n u s ks vs => if k = 4 ∧ inf u = true then jNull else .mk k b n u ⟨(decB8 s.data.toList).toArray⟩ (ks.map fun k => ⟨(decB8 k.data.toList).toArray⟩) (normL vs)
def normL : List JV → List JV
  | [] => []
  | v :: l => normJ v :: normL l
end
mutual
/-- has a record of what is read a name twice? -/
def dupJ : JV → Bool
  | .mk _ _ _ _ _ ks vs => !decide (ks.map fun k => (⟨(decB8 k.data.toList).toArray⟩ : ByteArray)).Nodup || dupL vs
def dupL : List JV → Bool
  | [] => false
  | v :: l => dupJ v || dupL l
end
end
/-- a byte that stands between blanks -/
def markC (c : UInt8) : Bool := c == 91 || c == 93 || c == 123 || c == 125 || c == 44 || c == 58
/-- a text, and the same with blanks around its marks (b: within a string) -/
inductive Bl : Bool → List UInt8 → List UInt8 → Prop
  | nil {b} : Bl b [] []
  | char {b c s t} (h : (xor b (c == 34)) = true ∨ markC c = false) (h' : Bl (xor b (c == 34)) s t) : Bl b (c :: s) (c :: t)
  | mark {c s t p q} (h : markC c = true) (hp : p.all isBl = true) (hq : q.all isBl = true) (h' : Bl false s t) : Bl false (c :: s) (p ++ c :: (q ++ t))

/-- within a string after so many bytes? -/
def inN (b : Bool) (l : List UInt8) : Bool := l.foldl (fun b c => xor b (c == 34)) b
theorem Bl.split : ∀ {b : Bool} {a s T : List UInt8}, Bl b (a ++ s) T → ∃ t1 T', T = t1 ++ T' ∧ Bl b a t1 ∧ Bl (inN b a) s T'
  | b, [], s, T, h => ⟨[], T, rfl, .nil, h⟩
  | b, c :: a, s, T, h => by
    rw [List.cons_append] at h
    cases h with
    | char h1 h2 =>
      obtain ⟨t1, T', rfl, g1, g2⟩ := h2.split
      exact ⟨c :: t1, T', rfl, .char h1 g1, g2⟩
    | mark h1 hp hq h2 =>
      rename_i t p q
      obtain ⟨t1, T', rfl, g1, g2⟩ := h2.split
      have hc : (c == 34) = false := by
        unfold markC at h1
        rw [beq_eq_false_iff_ne]; rintro rfl; revert h1; decide
      refine ⟨p ++ c :: (q ++ t1), T', by simp, .mark h1 hp hq g1, ?_⟩
      show Bl (inN (xor false (c == 34)) a) s T'
      rw [hc]
      exact g2
/-- where no mark stands, nothing is put in -/
theorem Bl.same : ∀ {b : Bool} {a t : List UInt8}, Bl b a t → (∀ c ∈ a, markC c = false ∧ c ≠ 34) → t = a
  | b, [], t, h, _ => by cases h; rfl
  | b, c :: a, t, h, hm => by
    cases h with
    | char h1 h2 => rw [h2.same fun x hx => hm x (by simp [hx])]
    | mark h1 hp hq h2 => exact absurd h1 (by rw [(hm c (by simp)).1]; decide)
/-- within a string nothing is put in -/
theorem Bl.within : ∀ {a t : List UInt8}, Bl true a t → (∀ c ∈ a, c ≠ 34) → t = a
  | [], t, h, _ => by cases h; rfl
  | c :: a, t, h, hm => by
    cases h with
    | char h1 h2 =>
      have hc : (c == 34) = false := beq_eq_false_iff_ne.2 (hm c (by simp))
      rw [hc] at h2
      rw [h2.within fun x hx => hm x (by simp [hx])]
theorem in_none : ∀ (b : Bool) (a : List UInt8), (∀ c ∈ a, c ≠ 34) → inN b a = b
  | b, [], _ => rfl
  | b, c :: a, h => by
    have hc : (c == 34) = false := beq_eq_false_iff_ne.2 (h c (by simp))
    show inN (xor b (c == 34)) a = b
    rw [hc, Bool.xor_false]
    exact in_none b a fun x hx => h x (by simp [hx])
theorem in_append (b : Bool) (a c : List UInt8) : inN b (a ++ c) = inN (inN b a) c := by unfold inN; rw [List.foldl_append]
theorem quoI_ne (l : List UInt8) : ∀ c ∈ quoI l, c ≠ 34 := by
  intro c hc
  unfold quoI at hc
  obtain ⟨r, hr, hc⟩ := List.mem_flatMap.1 hc
  unfold quoR at hc
  split at hc
  · rename_i hi
    have := List.all_eq_true.1 (asIs_str r (pts_scals l r hr) hi) c hc
    unfold strC at this
    rintro rfl
    simp at this
  · simp only [hex4L, List.mem_cons, List.mem_nil_iff, or_false] at hc
    have hd : ∀ n : Fin 16, hexD n.val ≠ 34 := by decide +kernel
    have hd' : ∀ n, n < 16 → hexD n ≠ 34 := fun n h => hd ⟨n, h⟩
    rcases hc with rfl | rfl | rfl | rfl | rfl | rfl
    · decide
    · decide
    all_goals exact hd' _ (by omega)
/-- a quoted text stays -/
theorem Bl.quoted {l t s : List UInt8} (h : Bl false (quoL l ++ s) t) : ∃ T', t = 34 :: (quoI l ++ 34 :: T') ∧ Bl false s T' := by
  obtain ⟨t1, T', rfl, g1, g2⟩ := h.split
  unfold quoL at g1 g2
  rw [List.cons_append] at g1 g2
  cases g1 with
  | mark h1 => exact absurd h1 (by decide)
  | char h1 h2 =>
    rename_i t2
    have h2 : Bl true (quoI l ++ [34]) t2 := h2
    obtain ⟨u1, U', rfl, k1, k2⟩ := h2.split
    rw [k1.within (quoI_ne l)]
    rw [in_none _ _ (quoI_ne l)] at k2
    cases k2 with
    | char h3 h4 =>
      cases h4 with
      | nil =>
        refine ⟨T', by simp, ?_⟩
        have : inN false (34 :: (quoI l ++ [34])) = false := by
          show inN true (quoI l ++ [34]) = false
          rw [in_append, in_none _ _ (quoI_ne l)]
          rfl
        rw [this] at g2
        exact g2
end Go.Proofs.YtckaoeloofbklaaGreatDoor

/- json.show: plain lemmas, and how items lie. -/
namespace Go.Proofs.YtckaoeloofbklaaGreatDoor
open Go Go.RowKit Go.Lib

theorem ItAt.get {ok : Nat → Prop} {w : World} {q : Nat} : ∀ {vs : List JV} {off : Nat} {i : Nat} {x : JV}, ItAt ok w q off vs → vs[i]? = some x → ∃ V, Cells7 w q (off + 7 * i) V ∧ JAt ok w x V
  | [], _, _, _, _, h => by simp at h
  | v :: vs, off, 0, x, h, hx => by
    rw [ItAt] at h
    simp at hx
    subst hx
    simpa using h.1
  | v :: vs, off, i + 1, x, h, hx => by
    rw [ItAt] at h
    have := ItAt.get h.2 (i := i) (x := x) (by simpa using hx)
    rwa [show off + 7 * (i + 1) = off + 7 + 7 * i by omega]

section
variable (intL fltL : Int → List UInt8)
/-- one item's text, without its comma -/
def showK (r : Bool) (ks : List ByteArray) (v : JV) : List UInt8 := (if r then quoL (ks.headD ⟨#[]⟩).data.toList ++ [58] else []) ++ showJ intL fltL v
theorem showT_cons (r : Bool) (ks : List ByteArray) (v : JV) (vs : List JV) : showT intL fltL r ks (v :: vs) = 44 :: showK intL fltL r ks v ++ showT intL fltL r ks.tail vs := by rw [showT]; rfl
theorem showT_snoc (r : Bool) (v : JV) : ∀ (vs : List JV) (ks : List ByteArray), showT intL fltL r ks (vs ++ [v]) = showT intL fltL r ks vs ++ 44 :: showK intL fltL r (ks.drop vs.length) v
  | [], ks => by rw [List.nil_append, showT_cons, showT, showT]; simp
  | u :: vs, ks => by
    rw [List.cons_append, showT_cons, showT_cons, showT_snoc r v vs ks.tail]
    simp [List.drop_tail]
theorem showT_step (r : Bool) (ks : List ByteArray) (vs : List JV) (i : Nat) (x : JV) (hx : vs[i]? = some x) :
    (showT intL fltL r ks (vs.take (i + 1))).drop 1 = (showT intL fltL r ks (vs.take i)).drop 1 ++ ((if i = 0 then [] else [44]) ++ showK intL fltL r (ks.drop i) x) := by
  obtain ⟨hi, hx'⟩ := List.getElem?_eq_some_iff.1 hx
  have ht : vs.take (i + 1) = vs.take i ++ [x] := by rw [List.take_add_one, hx]; rfl
  have hl : (vs.take i).length = i := by rw [List.length_take]; omega
  rw [ht, showT_snoc, hl]
  cases i with
  | zero => simp [showT]
  | succ i =>
    obtain ⟨u, us, hu⟩ : ∃ u us, vs.take (i + 1) = u :: us := by
      cases h : vs.take (i + 1) with
      | nil => rw [h] at hl; simp at hl
      | cons u us => exact ⟨u, us, rfl⟩
    rw [hu, showT_cons]
    simp
end
end Go.Proofs.YtckaoeloofbklaaGreatDoor

/- json.show: values without items. -/
namespace Go.Proofs.YtckaoeloofbklaaGreatDoor
open Go Go.RowKit Go.Lib

def fltI (u : Int) : List UInt8 := fltN u.toNat
theorem BW.on {B b : Nat} {l : List UInt8} {A C D : World} (h : BW B b l A C) (hb : Below C.heap.size C D) (hA : B ≤ A.heap.size) : BW B b l A D :=
  ⟨h.bl.below hb, h.below.trans (hb.mono (Nat.le_trans hA h.below.size)), h.oth.below hb⟩
abbrev shJ : JV → List UInt8 := showJ Lib.itoa fltI
theorem fbool_is (bb : Bool) : Lib.formatBool bb = if bb then [116, 114, 117, 101] else [102, 97, 108, 115, 101] := by cases bb <;> rfl
theorem fbool_len (bb : Bool) : (Lib.formatBool bb).length ≤ 5 := by cases bb <;> decide
theorem itoa_len (n : Int) (h1 : -9223372036854775808 ≤ n) (h2 : n < 9223372036854775808) : (Lib.itoa n).length ≤ 20 := by
  unfold Lib.itoa
  split
  · rw [List.length_cons, decDigits_length]
    have := nd_le 18 n.natAbs (by omega)
    omega
  · rw [decDigits_length]
    have := nd_le 18 n.toNat (by omega)
    omega
theorem fltN_len (u : Nat) : (fltN u).length ≤ 110 := by
  have := showB_len u
  unfold fltN
  split
  · simp
  · split
    · omega
    · rw [List.length_append]; simp; omega
theorem quoL_len (l : List UInt8) : (quoL l).length ≤ 6 * l.length + 2 := by
  have h := outQ_len (ptsO 0 l)
  rw [outQ_all, ptsO_len] at h
  have := pts_len l
  unfold quoL
  rw [List.length_append, List.length_cons]
  simp
  omega

set_option maxRecDepth 100000 in
set_option maxHeartbeats 4000000 in
theorem show_null (B b : Nat) (l : List UInt8) (bb : Bool) (n u : Int) (s : ByteArray) (x y : Value) (w : World) (h : BL B b l w) (hB : B ≤ w.heap.size) (hl : l.length + 4 ≤ 140737488355328) :
    Calls Tryz.prog 22 #[.pointer (some ⟨b, 0, none⟩), .agg #[.int .u8 1, .bool bb, .int .i64 n, .int .u64 u, .string s, x, y]] w fun e w' => e = .returned (.tuple #[]) ∧ BW B b (l ++ [110, 117, 108, 108]) w w' := by
  have hA : BW B b l w (w.alloc (.cells #[.int .u8 1, .bool bb, .int .i64 n, .int .u64 u, .string s, x, y] 27)) := ⟨h.below ((Below.refl _ _).alloc (Nat.le_refl _) _), (Below.refl _ _).alloc hB _, (Lib.OthersKept.refl _ _ _).alloc _⟩
  have hsA : (w.alloc (.cells #[.int .u8 1, .bool bb, .int .i64 n, .int .u64 u, .string s, x, y] 27)).heap.size = w.heap.size + 1 := by simp
  have hbx := heap_alloc_new w (.cells #[.int .u8 1, .bool bb, .int .i64 n, .int .u64 u, .string s, x, y] 27)
  have hbA : Below w.heap.size w (w.alloc (.cells #[.int .u8 1, .bool bb, .int .i64 n, .int .u64 u, .string s, x, y] 27)) := (Below.refl _ _).alloc (Nat.le_refl _) _
  obtain ⟨c0, c1, c2, c3, c4, c5, c6⟩ := cell_agg7 hbx
  have HA := Lib.hid hA
  have HBA := Lib.hid hbA
  clear hA hbx h hbA
  go_enter Tryz.func22, Tryz.ntmps22
  go_upto_region 1 with fail
  generalize w.alloc (.cells #[.int .u8 1, .bool bb, .int .i64 n, .int .u64 u, .string s, x, y] 27) = wA at *
  have HWW := HA
  have HW := Lib.hid (bw_string B b l (⟨#[110, 117, 108, 108]⟩ : ByteArray) wA HWW.out.bl (by show _ + 4 ≤ _; omega) (by have := HWW.out.below.size; omega))
  go_wp2_with fail
  refine HW.out.mono ?_
  rintro e w3 ⟨rfl, hw⟩
  have HW3 := Lib.hid hw
  clear hw
  go_wp2_with fail
  go_end0
  exact ⟨rfl, HWW.out.trans HW3.out⟩

set_option maxRecDepth 100000 in
set_option maxHeartbeats 4000000 in
theorem show_bool (B b : Nat) (l : List UInt8) (bb : Bool) (n u : Int) (s : ByteArray) (x y : Value) (w : World) (h : BL B b l w) (hB : B ≤ w.heap.size) (hl : l.length + 5 ≤ 140737488355328) :
    Calls Tryz.prog 22 #[.pointer (some ⟨b, 0, none⟩), .agg #[.int .u8 2, .bool bb, .int .i64 n, .int .u64 u, .string s, x, y]] w fun e w' => e = .returned (.tuple #[]) ∧ BW B b (l ++ Lib.formatBool bb) w w' := by
  have hA : BW B b l w (w.alloc (.cells #[.int .u8 2, .bool bb, .int .i64 n, .int .u64 u, .string s, x, y] 27)) := ⟨h.below ((Below.refl _ _).alloc (Nat.le_refl _) _), (Below.refl _ _).alloc hB _, (Lib.OthersKept.refl _ _ _).alloc _⟩
  have hsA : (w.alloc (.cells #[.int .u8 2, .bool bb, .int .i64 n, .int .u64 u, .string s, x, y] 27)).heap.size = w.heap.size + 1 := by simp
  have hbx := heap_alloc_new w (.cells #[.int .u8 2, .bool bb, .int .i64 n, .int .u64 u, .string s, x, y] 27)
  have hbA : Below w.heap.size w (w.alloc (.cells #[.int .u8 2, .bool bb, .int .i64 n, .int .u64 u, .string s, x, y] 27)) := (Below.refl _ _).alloc (Nat.le_refl _) _
  obtain ⟨c0, c1, c2, c3, c4, c5, c6⟩ := cell_agg7 hbx
  have HA := Lib.hid hA
  have HBA := Lib.hid hbA
  clear hA hbx h hbA
  go_enter Tryz.func22, Tryz.ntmps22
  go_upto_region 1 with fail
  generalize w.alloc (.cells #[.int .u8 2, .bool bb, .int .i64 n, .int .u64 u, .string s, x, y] 27) = wA at *
  have HC := Lib.hid ((Tryz.strconv_FormatBool bb wA).mono (R' := fun e w' => e = .returned (.string ⟨(Lib.formatBool bb).toArray⟩) ∧ Below wA.heap.size wA w') (by rintro e w' ⟨rfl, rfl⟩; exact ⟨rfl, Below.refl _ _⟩))
  go_wp2_with fail
  refine HC.out.mono ?_
  rintro e w2 ⟨rfl, hb2⟩
  have HWW := Lib.hid (HA.out.on hb2 hB)
  clear hb2
  have HW := Lib.hid (bw_string B b l ⟨(Lib.formatBool bb).toArray⟩ w2 HWW.out.bl (by show _ + (Lib.formatBool bb).length ≤ _; have := fbool_len bb; omega) (by have := HWW.out.below.size; omega))
  go_wp2_with fail
  refine HW.out.mono ?_
  rintro e w3 ⟨rfl, hw⟩
  have HW3 := Lib.hid hw
  clear hw
  go_wp2_with fail
  go_end0
  exact ⟨rfl, HWW.out.trans HW3.out⟩

set_option maxRecDepth 100000 in
set_option maxHeartbeats 4000000 in
theorem show_int (B b : Nat) (l : List UInt8) (bb : Bool) (n u : Int) (s : ByteArray) (x y : Value) (w : World) (h : BL B b l w) (hB : B ≤ w.heap.size) (hl : l.length + 100 ≤ 140737488355328) (hg : Globs w) (h1 : -9223372036854775808 ≤ n) (h2 : n < 9223372036854775808) :
    Calls Tryz.prog 22 #[.pointer (some ⟨b, 0, none⟩), .agg #[.int .u8 3, .bool bb, .int .i64 n, .int .u64 u, .string s, x, y]] w fun e w' => e = .returned (.tuple #[]) ∧ BW B b (l ++ Lib.itoa n) w w' := by
  have hA : BW B b l w (w.alloc (.cells #[.int .u8 3, .bool bb, .int .i64 n, .int .u64 u, .string s, x, y] 27)) := ⟨h.below ((Below.refl _ _).alloc (Nat.le_refl _) _), (Below.refl _ _).alloc hB _, (Lib.OthersKept.refl _ _ _).alloc _⟩
  have hsA : (w.alloc (.cells #[.int .u8 3, .bool bb, .int .i64 n, .int .u64 u, .string s, x, y] 27)).heap.size = w.heap.size + 1 := by simp
  have hbx := heap_alloc_new w (.cells #[.int .u8 3, .bool bb, .int .i64 n, .int .u64 u, .string s, x, y] 27)
  have hbA : Below w.heap.size w (w.alloc (.cells #[.int .u8 3, .bool bb, .int .i64 n, .int .u64 u, .string s, x, y] 27)) := (Below.refl _ _).alloc (Nat.le_refl _) _
  obtain ⟨c0, c1, c2, c3, c4, c5, c6⟩ := cell_agg7 hbx
  have HA := Lib.hid hA
  have HBA := Lib.hid hbA
  clear hA hbx h hbA
  go_enter Tryz.func22, Tryz.ntmps22
  go_upto_region 1 with fail
  generalize w.alloc (.cells #[.int .u8 3, .bool bb, .int .i64 n, .int .u64 u, .string s, x, y] 27) = wA at *
  have HC := Lib.hid ((Tryz.strconv_FormatInt_10 n h1 (by omega) wA (hg.on HBA.out).glob.u10).mono (R' := fun e w' => e = .returned (.string ⟨(Lib.itoa n).toArray⟩) ∧ Below wA.heap.size wA w') (by rintro e w' ⟨rfl, k, os, rfl⟩; exact ⟨rfl, below_grow _ wA (Nat.le_refl _) k os⟩))
  go_wp2_with fail
  refine HC.out.mono ?_
  rintro e w2 ⟨rfl, hb2⟩
  have HWW := Lib.hid (HA.out.on hb2 hB)
  clear hb2
  have HW := Lib.hid (bw_string B b l ⟨(Lib.itoa n).toArray⟩ w2 HWW.out.bl (by show _ + (Lib.itoa n).length ≤ _; have := itoa_len n h1 h2; omega) (by have := HWW.out.below.size; omega))
  go_wp2_with fail
  refine HW.out.mono ?_
  rintro e w3 ⟨rfl, hw⟩
  have HW3 := Lib.hid hw
  clear hw
  go_wp2_with fail
  go_end0
  exact ⟨rfl, HWW.out.trans HW3.out⟩

set_option maxRecDepth 100000 in
set_option maxHeartbeats 4000000 in
theorem show_flt (B b : Nat) (l : List UInt8) (bb : Bool) (n : Int) (u : Nat) (s : ByteArray) (x y : Value) (w : World) (h : BL B b l w) (hB : B ≤ w.heap.size) (hl : l.length + 200 ≤ 140737488355328) (hg : Globs w) (h2 : u < 18446744073709551616) :
    Calls Tryz.prog 22 #[.pointer (some ⟨b, 0, none⟩), .agg #[.int .u8 4, .bool bb, .int .i64 n, .int .u64 (u : Int), .string s, x, y]] w fun e w' => e = .returned (.tuple #[]) ∧ BW B b (l ++ fltN u) w w' := by
  have hA : BW B b l w (w.alloc (.cells #[.int .u8 4, .bool bb, .int .i64 n, .int .u64 (u : Int), .string s, x, y] 27)) := ⟨h.below ((Below.refl _ _).alloc (Nat.le_refl _) _), (Below.refl _ _).alloc hB _, (Lib.OthersKept.refl _ _ _).alloc _⟩
  have hsA : (w.alloc (.cells #[.int .u8 4, .bool bb, .int .i64 n, .int .u64 (u : Int), .string s, x, y] 27)).heap.size = w.heap.size + 1 := by simp
  have hbx := heap_alloc_new w (.cells #[.int .u8 4, .bool bb, .int .i64 n, .int .u64 (u : Int), .string s, x, y] 27)
  have hbA : Below w.heap.size w (w.alloc (.cells #[.int .u8 4, .bool bb, .int .i64 n, .int .u64 (u : Int), .string s, x, y] 27)) := (Below.refl _ _).alloc (Nat.le_refl _) _
  obtain ⟨c0, c1, c2, c3, c4, c5, c6⟩ := cell_agg7 hbx
  have HA := Lib.hid hA
  have HBA := Lib.hid hbA
  clear hA hbx h hbA
  go_enter Tryz.func22, Tryz.ntmps22
  go_upto_region 1 with fail
  generalize w.alloc (.cells #[.int .u8 4, .bool bb, .int .i64 n, .int .u64 (u : Int), .string s, x, y] 27) = wA at *
  have HC := Lib.hid (float_any u wA (hg.on HBA.out) h2)
  go_wp2_with fail
  refine HC.out.mono ?_
  rintro e w2 ⟨rfl, hb2⟩
  have HWW := Lib.hid (HA.out.on hb2 hB)
  clear hb2
  have HW := Lib.hid (bw_string B b l ⟨(fltN u).toArray⟩ w2 HWW.out.bl (by show _ + (fltN u).length ≤ _; have := fltN_len u; omega) (by have := HWW.out.below.size; omega))
  go_wp2_with fail
  refine HW.out.mono ?_
  rintro e w3 ⟨rfl, hw⟩
  have HW3 := Lib.hid hw
  clear hw
  go_wp2_with fail
  go_end0
  exact ⟨rfl, HWW.out.trans HW3.out⟩

set_option maxRecDepth 100000 in
set_option maxHeartbeats 4000000 in
theorem show_str (B b : Nat) (l : List UInt8) (bb : Bool) (n u : Int) (s : ByteArray) (x y : Value) (w : World) (h : BL B b l w) (hB : B ≤ w.heap.size) (hl : l.length + 6 * s.size + 2 ≤ 140737488355328) (h17 : 17 ≤ w.heap.size) (hT : Lib.Utf8Tabs 0 1 w) (hs : s.size ≤ 17592186040000) :
    Calls Tryz.prog 22 #[.pointer (some ⟨b, 0, none⟩), .agg #[.int .u8 5, .bool bb, .int .i64 n, .int .u64 u, .string s, x, y]] w fun e w' => e = .returned (.tuple #[]) ∧ BW B b (l ++ quoL s.data.toList) w w' := by
  have hA : BW B b l w (w.alloc (.cells #[.int .u8 5, .bool bb, .int .i64 n, .int .u64 u, .string s, x, y] 27)) := ⟨h.below ((Below.refl _ _).alloc (Nat.le_refl _) _), (Below.refl _ _).alloc hB _, (Lib.OthersKept.refl _ _ _).alloc _⟩
  have hsA : (w.alloc (.cells #[.int .u8 5, .bool bb, .int .i64 n, .int .u64 u, .string s, x, y] 27)).heap.size = w.heap.size + 1 := by simp
  have hbx := heap_alloc_new w (.cells #[.int .u8 5, .bool bb, .int .i64 n, .int .u64 u, .string s, x, y] 27)
  have hbA : Below w.heap.size w (w.alloc (.cells #[.int .u8 5, .bool bb, .int .i64 n, .int .u64 u, .string s, x, y] 27)) := (Below.refl _ _).alloc (Nat.le_refl _) _
  obtain ⟨c0, c1, c2, c3, c4, c5, c6⟩ := cell_agg7 hbx
  have HA := Lib.hid hA
  have HBA := Lib.hid hbA
  clear hA hbx h hbA
  go_enter Tryz.func22, Tryz.ntmps22
  go_upto_region 1 with fail
  generalize w.alloc (.cells #[.int .u8 5, .bool bb, .int .i64 n, .int .u64 u, .string s, x, y] 27) = wA at *
  have HC := Lib.hid (quote_any s wA (by have := HBA.out.size; omega) (utabs_kept hT (HBA.out.mono h17)) hs)
  go_wp2_with fail
  refine HC.out.mono ?_
  rintro e w2 ⟨rfl, hb2⟩
  have HWW := Lib.hid (HA.out.on hb2 hB)
  clear hb2
  have HW := Lib.hid (bw_string B b l ⟨(quoL s.data.toList).toArray⟩ w2 HWW.out.bl (by show _ + (quoL s.data.toList).length ≤ _; have := quoL_len s.data.toList; have h0 : s.data.toList.length = s.size := (by simp); omega) (by have := HWW.out.below.size; omega))
  go_wp2_with fail
  refine HW.out.mono ?_
  rintro e w3 ⟨rfl, hw⟩
  have HW3 := Lib.hid hw
  clear hw
  go_wp2_with fail
  go_end0
  exact ⟨rfl, HWW.out.trans HW3.out⟩
end Go.Proofs.YtckaoeloofbklaaGreatDoor
