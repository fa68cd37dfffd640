/- Joined texts: Ki Oj Na Hh Kk Jt Ju. Each begins with its own remark. -/
import Derived.Test.YtckaoeloofbklaaGreatDoorWe
import Derived.Test.YtckaoeloofbklaaGreatDoorWj
import Derived.Test.YtckaoeloofbklaaGreatDoorWn
import Derived.Test.YtckaoeloofbklaaGreatDoorWt
import Derived.Test.YtckaoeloofbklaaGreatDoorWi
import Derived.Test.YtckaoeloofbklaaGreatDoorWh
import Derived.LoopN
import Derived.Defers
import Derived.Recover
set_option maxRecDepth 100000
set_option maxHeartbeats 8000000
namespace Go.Proofs.YtckaoeloofbklaaGreatDoor
open Go Go.RowKit Go.Lib
inductive KOk : JV → Prop
 | mk {k b n u s ks vs} (h1 : 0 ≤ k) (h2 : k < 256) (h : ∀ v ∈ vs, KOk v) : KOk (.mk k b n u s ks vs)
theorem deepL_snoc : ∀ (l : List JV) (x : JV), JV.deepL (l ++ [x]) = max (JV.deepL l) x.deep
 | [], x => by simp [JV.deepL]
 | v :: l, x => by rw [List.cons_append, JV.deepL, JV.deepL, deepL_snoc l x]; omega
theorem formedL_snoc : ∀ (l : List JV) (x : JV), JV.formedL (l ++ [x]) = (JV.formedL l && x.formed)
 | [], x => by simp [JV.formedL]
 | v :: l, x => by rw [List.cons_append, JV.formedL, JV.formedL, formedL_snoc l x, Bool.and_assoc]
mutual
theorem deep_le : ∀ v : JV, v.deep ≤ v.weigh
 | .mk k b n u s ks vs => by
  rw [JV.deep, JV.weigh]
  have := deepL_le vs
  split <;> omega
theorem deepL_le : ∀ l : List JV, JV.deepL l ≤ JV.weighL l
 | [] => by rw [JV.deepL, JV.weighL]; omega
 | v :: l => by
  rw [JV.deepL, JV.weighL]
  have := deep_le v
  have := deepL_le l
  omega
end
theorem formedL_no : ∀ {l : List JV} {x : JV} {i : Nat}, l[i]? = some x → x.formed = false → JV.formedL l = false
 | [], _, _, h, _ => by simp at h
 | v :: l, x, 0, h, hx => by simp at h; subst h; rw [JV.formedL, hx]; rfl
 | v :: l, x, i + 1, h, hx => by rw [JV.formedL, formedL_no (i := i) (by simpa using h) hx]; simp
def lookR (v : JV) : Value := if v.formed then .tuple #[.int .i64 (v.deep : Nat), .bool true] else .tuple #[.int .i64 0, .bool false]
def LookOk (v : JV) : Prop := ∀ (ok : Nat → Prop) (V : Value) (w : World), JAt ok w v V → KOk v → v.weigh ≤ 1000000000000 →
 Calls Tryz.prog 28 #[V] w fun e w' => e = .returned (lookR v) ∧ Below w.heap.size w w'
theorem look_one (k : Int) (b : Bool) (n u : Int) (s : ByteArray) (ks : List ByteArray) (vs : List JV) (ih : ∀ x ∈ vs, LookOk x) : LookOk (.mk k b n u s ks vs) := by
 intro ok V w hj hko hw
 have hkw : ∀ k ∈ ks, k.size ≤ maxLen := fun k hk => by
  have := key_le hk
  rw [JV.weigh] at hw
  unfold maxLen
  omega
 have hwL : JV.weighL vs ≤ 1000000000000 := by rw [JV.weigh] at hw; omega
 obtain ⟨hk1, hk2, hko⟩ := hko
 have hPA := fun (W : World) (hW : Below w.heap.size w W) => plain_any (fun _ => True) (.mk k b n u s ks vs) V W (hj.kept (fun i _ hi => ⟨hW.block i hi, trivial⟩)) ⟨hk1, hk2⟩ hkw
 have hpk := fun h => JV.plain_kind (v := .mk k b n u s ks vs) h
 simp only [JV.kind, JV.items] at hpk
 rw [JAt] at hj
 obtain ⟨ka, kc, a, c, rfl, -, hvs, -, hvn⟩ := hj
 have hbx := heap_alloc_new w (.cells #[.int .u8 k, .bool b, .int .i64 n, .int .u64 u, .string s, .slice ka ks.length kc, .slice a vs.length c] 27)
 have hbA : Below w.heap.size w (w.alloc (.cells #[.int .u8 k, .bool b, .int .i64 n, .int .u64 u, .string s, .slice ka ks.length kc, .slice a vs.length c] 27)) := (Below.refl _ _).alloc (Nat.le_refl _) _
 obtain ⟨c0, c1, c2, c3, c4, c5, c6⟩ := cell_agg7 hbx
 have hlA := (Array.getElem?_eq_some_iff.1 hbx).1
 have HPL := Lib.hid (hPA _ hbA)
 have HBX := Lib.hid hbx
 have HBA := Lib.hid hbA
 have HVS := Lib.hid hvs
 have HIH := Lib.hid ih
 have HKO := Lib.hid hko
 have HWL := Lib.hid hwL
 have HPK := Lib.hid hpk
 have hfm : ∀ z, JV.plain (.mk k b n u s ks vs) = z → JV.formed (.mk k b n u s ks vs) = (z && JV.formedL vs) := fun z hz => by rw [JV.formed, hz]
 have HFM := Lib.hid hfm
 have hdp : 6 ≤ k ∧ k ≤ 7 → JV.deep (.mk k b n u s ks vs) = JV.deepL vs + 1 := fun h => by rw [JV.deep, if_pos (by omega)]
 have hdp0 : ¬ 6 ≤ k → JV.deep (.mk k b n u s ks vs) = 0 := fun h => by rw [JV.deep, if_neg (by omega)]
 have HDP := Lib.hid (And.intro hdp hdp0)
 clear hbx hbA hvs ih hko hw hkw hwL hPA hfm hdp hdp0 hpk
 go_enter Tryz.func28, Tryz.ntmps28
 go_upto_region 1 with fail
 generalize w.alloc (.cells #[.int .u8 k, .bool b, .int .i64 n, .int .u64 u, .string s, .slice ka ks.length kc, .slice a vs.length c] 27) = wA at *
 go_wp2_with fail
 refine HPL.out.mono ?_
 rintro e w1 ⟨rfl, hb1⟩
 have hbx1 := (hb1.block w.heap.size hlA).trans HBX.out
 clear c0 c1 c2 c3 c4 c5 c6
 obtain ⟨c0, c1, c2, c3, c4, c5, c6⟩ := cell_agg7 hbx1
 have HB1 := Lib.hid (HBA.out.trans (hb1.mono HBA.out.size))
 clear hb1 hbx1
 cases hp : JV.plain (.mk k b n u s ks vs) with
 | false =>
  go_wp2_with fail
  go_ret2
  exact ⟨by unfold lookR; rw [HFM.out _ hp]; rfl, HB1.out⟩
 | true =>
  obtain ⟨p1, p2, p3⟩ := HPK.out hp
  have HFT := Lib.hid (HFM.out _ hp)
  have HP3 := Lib.hid p3
  clear HFM HPK hp p3
  by_cases h6 : 6 ≤ k
  ·have HD := Lib.hid (HDP.out.1 ⟨h6, p2⟩)
   go_wp2_with fail
   clear c0 c1 c2 c3 c4 c5 c6
   go_loopg [2, 3, 4, 6, 7, 8, 20] vs.length (fun g s2 s3 s4 _ _ _ s20 wr => ∃ i : Nat, i + g = vs.length ∧ s2 = .int .i64 0 ∧ s3 = .bool false ∧ s4 = .int .i64 ((JV.deepL (vs.take i) + 1 : Nat) : Int) ∧ s20 = .int .i64 i ∧ JV.formedL (vs.take i) = true ∧ Below w.heap.size w wr)
   case atStart => exact ⟨0, by omega, rfl, rfl, by rw [List.take_zero, JV.deepL]; rfl, rfl, by rw [List.take_zero, JV.formedL], HB1.out⟩
   case round =>
    obtain ⟨i, hi, rfl, rfl, rfl, rfl, hfl, hbw⟩ := hrel
    have HBW := Lib.hid hbw
    have HFL := Lib.hid hfl
    clear hbw hfl
    by_cases hlt : i < vs.length
    ·obtain ⟨x, hx⟩ : ∃ x, vs[i]? = some x := ⟨_, List.getElem?_eq_getElem hlt⟩
     have hxm := List.mem_of_getElem? hx
     obtain ⟨q, off, ha, hq, hqw, hit⟩ := HVS.out.resolve_left (by rintro rfl; simp at hlt)
     obtain ⟨V, h7, hja⟩ := hit.get hx
     obtain ⟨xk, xb, xn, xu, xs, xa, xm, xc, xa2, xm2, xc2, rfl, d0, d1, d2, d3, d4, d5, d6⟩ := it_cells h7 hja
     have hkq : ∀ i : Nat, wr.cell? ⟨q, i, none⟩ = w.cell? ⟨q, i, none⟩ := fun i => HBW.out.cell (p := ⟨q, i, none⟩) hqw
     rw [← hkq, Nat.mul_comm 7 i] at d0 d1 d2 d3 d4 d5 d6
     have htk : vs.take (i + 1) = vs.take i ++ [x] := by rw [List.take_add_one, hx]; rfl
     have hd1 := deepL_snoc (vs.take i) x
     have hf1 := formedL_snoc (vs.take i) x
     rw [← htk] at hd1 hf1
     have hwx := Nat.le_trans (weigh_le hx) HWL.out
     have hdx := Nat.le_trans (deep_le x) hwx
     have hdl := Nat.le_trans (deepL_le vs) HWL.out
     have hdt : JV.deepL (vs.take i) ≤ JV.deepL vs := by
      have key : ∀ (l : List JV) (j : Nat), JV.deepL (l.take j) ≤ JV.deepL l := by
       intro l
       induction l with
       | nil => intro j; simp
       | cons v l ih =>
        intro j
        cases j with
        | zero => rw [List.take_zero]; simp [JV.deepL]
        | succ j => rw [List.take_succ_cons, JV.deepL, JV.deepL]; have := ih j; omega
      exact key vs i
     have hdt2 := Nat.le_trans hdt hdl
     have HLO := Lib.hid (HIH.out x hxm)
     have HKX := Lib.hid (HKO.out x hxm)
     have HWX := Lib.hid hwx
     have HD1 := Lib.hid hd1
     have HF1 := Lib.hid hf1
     have HNO := Lib.hid (fun h => formedL_no hx h)
     subst ha
     have hal : Below w.heap.size w (wr.alloc (.cells #[.int .u8 xk, .bool xb, .int .i64 xn, .int .u64 xu, .string xs, .slice xa xm xc, .slice xa2 xm2 xc2] 27)) := HBW.out.alloc HBW.out.size _
     have hbx := heap_alloc_new wr (.cells #[.int .u8 xk, .bool xb, .int .i64 xn, .int .u64 xu, .string xs, .slice xa xm xc, .slice xa2 xm2 xc2] 27)
     have HJ := Lib.hid (hja.kept (ok' := fun _ => True) (fun i _ hi => ⟨hal.block i hi, trivial⟩))
     have HAL := Lib.hid hal
     have HBX2 := Lib.hid hbx
     generalize JV.deepL (vs.take i) = D at *
     clear hit h7 hja hkq HVS hxm hq hx hwx hd1 hf1 hdl hdt htk hal hbx
     go_upto_region 9 with fail
     generalize wr.alloc (.cells #[.int .u8 xk, .bool xb, .int .i64 xn, .int .u64 xu, .string xs, .slice xa xm xc, .slice xa2 xm2 xc2] 27) = W1 at *
     have hbx2 := HBX2.out
     obtain ⟨e0, e1, e2, e3, e4, e5, e6⟩ := cell_agg7 hbx2
     have HL := Lib.hid (HLO.out _ _ _ HJ.out HKX.out HWX.out)
     clear hbx2 d0 d1 d2 d3 d4 d5 d6
     go_wp2_with fail
     refine HL.out.mono ?_
     rintro e w3 ⟨rfl, hb3⟩
     have HB3 := Lib.hid (HAL.out.trans (hb3.mono HAL.out.size))
     clear hb3 e0 e1 e2 e3 e4 e5 e6
     unfold lookR
     cases hf : x.formed with
     | false =>
      have HF := Lib.hid hf
      clear hf
      simp only [Bool.false_eq_true, if_false]
      go_wp2_with fail
      go_ret2
      exact ⟨by unfold lookR; rw [HFT.out, HNO.out HF.out]; rfl, HB3.out⟩
     | true =>
      have HF := Lib.hid hf
      clear hf
      simp only [if_true]
      obtain ⟨d, hd⟩ : ∃ d, x.deep = d := ⟨_, rfl⟩
      rw [hd] at hdx HD1 ⊢
      clear hd
      obtain ⟨M, hM⟩ : ∃ M : Nat, M = max D d := ⟨_, rfl⟩
      have hmx : max ((D : Int) + 1) ((d : Int) + 1) = (M : Int) + 1 := by omega
      have hmx2 : max (((D + 1 : Nat) : Int)) ((d : Int) + 1) = (M : Int) + 1 := by omega
      rw [← hM] at HD1
      go_wp2_with fail
      go_roundg (gk - 1)
      case measure => omega
      case rel => exact ⟨i + 1, by omega, rfl, rfl, by rw [HD1.out]; first | rfl | go_num | (simp; omega), by go_num, by rw [HF1.out, HFL.out, HF.out]; rfl, HB3.out⟩
    ·obtain rfl : i = vs.length := by omega
     rw [List.take_length] at HFL
     rw [List.take_length]
     have hdl := Nat.le_trans (deepL_le vs) HWL.out
     go_wp2_with fail
     go_ret2
     exact ⟨by unfold lookR; rw [HFT.out, HFL.out, HD.out]; rfl, HBW.out⟩
  ·have HD := Lib.hid (HDP.out.2 (by omega))
   have hv := HP3.out (by omega)
   subst hv
   go_wp2_with fail
   clear c0 c1 c2 c3 c4 c5 c6
   go_loopg [2, 3, 4, 6, 7, 8, 20] 0 (fun g s2 s3 s4 _ _ _ s20 wr => s2 = .int .i64 0 ∧ s3 = .bool false ∧ s4 = .int .i64 0 ∧ s20 = .int .i64 0 ∧ Below w.heap.size w wr)
   case atStart => exact ⟨rfl, rfl, rfl, rfl, HB1.out⟩
   case round =>
    obtain ⟨rfl, rfl, rfl, rfl, hbw⟩ := hrel
    have HBW := Lib.hid hbw
    clear hbw
    go_wp2_with fail
    go_ret2
    exact ⟨by unfold lookR; rw [HFT.out, HD.out]; rfl, HBW.out⟩
theorem look_any : ∀ v, LookOk v := JV.ind fun k b n u s ks vs ih => look_one k b n u s ks vs ih
theorem check_is (v : JV) : v.check = if v.formed then (if 64 < v.deep then 161 else 0) else 160 := by
 unfold JV.check
 rw [JV.look_is]
 cases v.formed <;> rfl
theorem check_any (ok : Nat → Prop) (v : JV) (V : Value) (w : World) (h : JAt ok w v V) (hk : KOk v) (hw : v.weigh ≤ 1000000000000) :
  Calls Tryz.prog 13 #[V] w fun e w' => e = .returned (.int .i64 v.check) ∧ Below w.heap.size w w' := by
 have hd := Nat.le_trans (deep_le v) hw
 have hjk := fun (W : World) (hW : Below w.heap.size w W) => h.kept (ok' := fun _ => True) (fun i _ hi => ⟨hW.block i hi, trivial⟩)
 obtain ⟨k, b, n, u, s, ks, vs⟩ := v
 have h0 := h
 rw [JAt] at h0
 obtain ⟨ka, kc, a, c, rfl, -⟩ := h0
 have hbx := heap_alloc_new w (.cells #[.int .u8 k, .bool b, .int .i64 n, .int .u64 u, .string s, .slice ka ks.length kc, .slice a vs.length c] 27)
 have hbA : Below w.heap.size w (w.alloc (.cells #[.int .u8 k, .bool b, .int .i64 n, .int .u64 u, .string s, .slice ka ks.length kc, .slice a vs.length c] 27)) := (Below.refl _ _).alloc (Nat.le_refl _) _
 obtain ⟨c0, c1, c2, c3, c4, c5, c6⟩ := cell_agg7 hbx
 have HL := Lib.hid (look_any _ _ _ _ (hjk _ hbA) hk hw)
 have HBA := Lib.hid hbA
 have HCI := Lib.hid (check_is (.mk k b n u s ks vs))
 clear hbx hbA h hjk hk hw
 generalize JV.mk k b n u s ks vs = v at *
 go_enter Tryz.func13, Tryz.ntmps13
 go_wp2_with fail
 refine HL.out.mono ?_
 rintro e w1 ⟨rfl, hb1⟩
 have HB1 := Lib.hid (HBA.out.trans (hb1.mono HBA.out.size))
 clear hb1 c0 c1 c2 c3 c4 c5 c6
 unfold lookR
 cases hf : v.formed with
 | false =>
  have HF := Lib.hid hf
  clear hf
  simp only [Bool.false_eq_true, if_false]
  go_wp2_with fail
  go_ret
  exact ⟨by rw [HCI.out, HF.out]; rfl, HB1.out⟩
 | true =>
  have HF := Lib.hid hf
  clear hf
  simp only [if_true]
  obtain ⟨d, hd2⟩ : ∃ d, v.deep = d := ⟨_, rfl⟩
  have HD := Lib.hid hd2
  rw [hd2] at hd ⊢
  clear hd2
  by_cases h6 : 64 < d
  ·go_wp2_with fail
   go_ret
   exact ⟨by rw [HCI.out, HF.out, HD.out, if_pos rfl, if_pos h6]; rfl, HB1.out⟩
  ·go_wp2_with fail
   go_ret
   exact ⟨by rw [HCI.out, HF.out, HD.out, if_pos rfl, if_neg h6]; rfl, HB1.out⟩
def showR (v : JV) : Value := .tuple #[.string (if v.check = 0 then ⟨(shJ v).toArray⟩ else ⟨#[]⟩), .int .i64 v.check]
theorem check_form {v : JV} (h : v.check = 0) : v.formed = true ∧ v.deep ≤ 64 := by
 rw [check_is] at h
 cases hf : v.formed with
 | false => rw [hf, if_neg (by decide)] at h; omega
 | true =>
  rw [hf, if_pos rfl] at h
  by_cases h6 : 64 < v.deep
  ·rw [if_pos h6] at h; omega
  ·exact ⟨rfl, by omega⟩
theorem showM_any (ok : Nat → Prop) (v : JV) (V : Value) (w : World) (hg : Globs w) (hT : Lib.Utf8Tabs 0 1 w) (h17 : 17 ≤ w.heap.size) (h : JAt ok w v V) (hk : KOk v) (hr : Rng v) (hw : v.weigh ≤ 1000000000000) (hl : (shJ v).length ≤ 90000000000000) :
  Calls Tryz.prog 9 #[V] w fun e w' => e = .returned (showR v) ∧ Below w.heap.size w w' := by
 have hjk := fun (B : Nat) (hB : w.heap.size ≤ B) (W : World) (hW : Below w.heap.size w W) => h.kept (ok' := fun q => q < B) (fun i _ hi => ⟨hW.block i hi, by omega⟩)
 have hcf := fun h => check_form (v := v) h
 obtain ⟨k, b, n, u, s, ks, vs⟩ := v
 have h0 := h
 rw [JAt] at h0
 obtain ⟨ka, kc, a, c, rfl, -⟩ := h0
 have hbx := heap_alloc_new w (.cells #[.int .u8 k, .bool b, .int .i64 n, .int .u64 u, .string s, .slice ka ks.length kc, .slice a vs.length c] 27)
 have hbA : Below w.heap.size w (w.alloc (.cells #[.int .u8 k, .bool b, .int .i64 n, .int .u64 u, .string s, .slice ka ks.length kc, .slice a vs.length c] 27)) := (Below.refl _ _).alloc (Nat.le_refl _) _
 obtain ⟨c0, c1, c2, c3, c4, c5, c6⟩ := cell_agg7 hbx
 have hlA := (Array.getElem?_eq_some_iff.1 hbx).1
 have HL := Lib.hid (check_any _ _ _ _ (hjk _ (Nat.le_refl _) _ hbA) hk hw)
 have HJK := Lib.hid hjk
 have HBA := Lib.hid hbA
 have HBX := Lib.hid hbx
 have HCF := Lib.hid hcf
 have HG := Lib.hid hg
 have HT := Lib.hid hT
 have HR := Lib.hid hr
 have HW := Lib.hid hw
 have HLN := Lib.hid hl
 clear hbx hbA h hjk hk hw hcf hg hT hr hl
 generalize hvv : JV.mk k b n u s ks vs = v at *
 clear hvv
 go_enter Tryz.func9, Tryz.ntmps9
 go_upto_region 1 with fail
 generalize w.alloc (.cells #[.int .u8 k, .bool b, .int .i64 n, .int .u64 u, .string s, .slice ka ks.length kc, .slice a vs.length c] 27) = wA at *
 go_wp2_with fail
 refine HL.out.mono ?_
 rintro e w1 ⟨rfl, hb1⟩
 have hbx1 := (hb1.block w.heap.size hlA).trans HBX.out
 clear c0 c1 c2 c3 c4 c5 c6
 have hb1' := HBA.out.trans (hb1.mono HBA.out.size)
 have hsz1 := hb1'.size
 obtain ⟨c0, c1, c2, c3, c4, c5, c6⟩ := cell_agg7 hbx1
 have hl1 := (Array.getElem?_eq_some_iff.1 hbx1).1
 have HB1 := Lib.hid hb1'
 have HBX1 := Lib.hid hbx1
 clear hb1 hbx1 hb1'
 by_cases hc : v.check = 0
 ·have HC := Lib.hid hc
  rw [hc]
  clear hc
  have hbl := bl_new w1.heap.size w1 (Nat.le_refl _)
  have hal : Below w1.heap.size w1 (w1.alloc (.cells #[.pointer none, .slice none 0 0] 49)) := (Below.refl _ _).alloc (Nat.le_refl _) _
  have hbx2 := (hal.block w.heap.size hl1).trans HBX1.out
  clear c0 c1 c2 c3 c4 c5 c6
  obtain ⟨c0, c1, c2, c3, c4, c5, c6⟩ := cell_agg7 hbx2
  have hal2 := HB1.out.trans (hal.mono HB1.out.size)
  have HS := Lib.hid (showV_any w1.heap.size w1.heap.size v _ [] _ hbl hal.size (by omega) (HG.out.on hal2) (utabs_kept HT.out (hal2.mono h17)) (HJK.out w1.heap.size HB1.out.size _ hal2) (HCF.out HC.out).1 HR.out (by have := HLN.out; rw [List.length_nil]; omega) HW.out)
  have HAL := Lib.hid hal
  clear hbl hal hbx2 hal2
  go_wp2_with fail
  refine HS.out.mono ?_
  rintro e w3 ⟨rfl, hw3⟩
  have HSS := Lib.hid (Tryz.Builder_String_any_k w1.heap.size w1.heap.size _ w3 hw3.bl (by have := hw3.below.size; have := HAL.out.size; omega))
  have HB3 := Lib.hid (HB1.out.trans ((HAL.out.trans hw3.below).mono HB1.out.size))
  clear hw3 c0 c1 c2 c3 c4 c5 c6
  go_wp2_with fail
  refine HSS.out.mono ?_
  rintro e w4 ⟨rfl, hbl4, hb4, hk4⟩
  have HB4 := Lib.hid (HB3.out.trans (hb4.mono HB1.out.size))
  clear hbl4 hb4 hk4
  go_wp2_with fail
  go_ret2
  exact ⟨by unfold showR; rw [HC.out, if_pos rfl]; rfl, HB4.out⟩
 ·have HC := Lib.hid hc
  have hc2 : (v.check == 0) = false := beq_eq_false_iff_ne.2 hc
  have hc3 : (v.check != 0) = true := by rw [bne, hc2]; rfl
  obtain ⟨z, hz⟩ : ∃ z, v.check = z := ⟨_, rfl⟩
  have HZ := Lib.hid hz
  rw [hz] at hc hc2 hc3 ⊢
  clear hz
  go_wp2_with fail
  go_ret2
  exact ⟨by unfold showR; rw [HZ.out, if_neg (by rw [← HZ.out]; exact HC.out)]; rfl, HB1.out⟩
end Go.Proofs.YtckaoeloofbklaaGreatDoor
namespace Go.Proofs.YtckaoeloofbklaaGreatDoor
open Go Go.RowKit Go.Lib
theorem formedL_app : ∀ (l m : List JV), JV.formedL (l ++ m) = (JV.formedL l && JV.formedL m)
 | [], m => by simp [JV.formedL]
 | v :: l, m => by rw [List.cons_append, JV.formedL, JV.formedL, formedL_app l m, Bool.and_assoc]
theorem formedL_take {l : List JV} {i : Nat} (h : JV.formedL (l.take i) = false) : JV.formedL l = false := by
 rw [← List.take_append_drop i l, formedL_app, h]; rfl
def RFormOk (v : JV) : Prop := ∀ (ok : Nat → Prop) (V : Value) (w : World), JAt ok w v V → KOk v →
 Calls Tryz.prog 32 #[V] w fun e w' => e = .returned (.bool v.formed) ∧ Below w.heap.size w w'
theorem rform_one (k : Int) (b : Bool) (n u : Int) (s : ByteArray) (ks : List ByteArray) (vs : List JV) (ih : ∀ x ∈ vs, RFormOk x) : RFormOk (.mk k b n u s ks vs) := by
 intro ok V w hj hko
 obtain ⟨hk1, hk2, hko⟩ := hko
 have hPA := fun (W : World) (hW : Below w.heap.size w W) => fieldsR_any (fun _ => True) (.mk k b n u s ks vs) V W (hj.kept (fun i _ hi => ⟨hW.block i hi, trivial⟩)) ⟨hk1, hk2⟩
 rw [JAt] at hj
 obtain ⟨ka, kc, a, c, rfl, -, hvs, -, hvn⟩ := hj
 have hbx := heap_alloc_new w (.cells #[.int .u8 k, .bool b, .int .i64 n, .int .u64 u, .string s, .slice ka ks.length kc, .slice a vs.length c] 27)
 have hbA : Below w.heap.size w (w.alloc (.cells #[.int .u8 k, .bool b, .int .i64 n, .int .u64 u, .string s, .slice ka ks.length kc, .slice a vs.length c] 27)) := (Below.refl _ _).alloc (Nat.le_refl _) _
 obtain ⟨c0, c1, c2, c3, c4, c5, c6⟩ := cell_agg7 hbx
 have hlA := (Array.getElem?_eq_some_iff.1 hbx).1
 have HPL := Lib.hid (hPA _ hbA)
 have HBX := Lib.hid hbx
 have HBA := Lib.hid hbA
 have HVS := Lib.hid hvs
 have HIH := Lib.hid ih
 have HKO := Lib.hid hko
 obtain ⟨F, hF⟩ : ∃ F, F = JV.formed (.mk k b n u s ks vs) := ⟨_, rfl⟩
 rw [← hF]
 rw [JV.formed] at hF
 obtain ⟨PL, hPL⟩ : ∃ PL, PL = JV.plain (.mk k b n u s ks vs) := ⟨_, rfl⟩
 rw [← hPL] at hF HPL
 have HF := Lib.hid hF
 clear hbx hbA hvs ih hko hPA hF hPL hk1 hk2
 go_enter Tryz.func32, Tryz.ntmps32
 go_upto_region 1 with fail
 generalize w.alloc (.cells #[.int .u8 k, .bool b, .int .i64 n, .int .u64 u, .string s, .slice ka ks.length kc, .slice a vs.length c] 27) = wA at *
 go_wp2_with fail
 refine HPL.out.mono ?_
 rintro e w1 ⟨rfl, hb1⟩
 have hbx1 := (hb1.block w.heap.size hlA).trans HBX.out
 have hl1 := (Array.getElem?_eq_some_iff.1 hbx1).1
 have HBX1 := Lib.hid hbx1
 have HB1 := Lib.hid (HBA.out.trans (hb1.mono HBA.out.size))
 clear hb1 hbx1 HBX hlA c0 c1 c2 c3 c4 c5 c6
 go_wp2_with fail
 go_loopg [3, 4] vs.length (fun g s3 s4 wr => ∃ i : Nat, i + g = vs.length ∧ s3 = .bool (PL && JV.formedL (vs.take i)) ∧ s4 = .int .i64 i ∧ Below w1.heap.size w1 wr)
 case atStart => exact ⟨0, by omega, by rw [List.take_zero, JV.formedL, Bool.and_true], rfl, Below.refl _ _⟩
 case round =>
  obtain ⟨i, hi, rfl, rfl, hbw⟩ := hrel
  have hbr := (hbw.block w.heap.size hl1).trans HBX1.out
  obtain ⟨-, -, -, -, -, -, c6⟩ := cell_agg7 hbr
  have HBW := Lib.hid hbw
  clear hbw hbr
  obtain ⟨Z, hZ⟩ : ∃ Z, Z = (PL && JV.formedL (vs.take i)) := ⟨_, rfl⟩
  rw [← hZ]
  have HZ := Lib.hid hZ
  clear hZ
  by_cases hlt : i < vs.length
  ·have hlt2 : (i : Int) < (vs.length : Int) := by omega
   cases Z with
   | false =>
    go_wp2_with fail
    go_ret
    refine ⟨rboolS ?_, HB1.out.trans (HBW.out.mono HB1.out.size)⟩
    have hz := HZ.out
    rw [HF.out]
    cases PL with
    | false => rfl
    | true => rw [formedL_take (i := i) (by simpa using hz.symm)]; rfl
   | true =>
    obtain ⟨x, hx⟩ : ∃ x, vs[i]? = some x := ⟨_, List.getElem?_eq_getElem hlt⟩
    have hxm := List.mem_of_getElem? hx
    obtain ⟨q, off, ha, _hq, hqw, hit⟩ := HVS.out.resolve_left (by rintro rfl; simp at hlt)
    obtain ⟨V, h7, hja⟩ := hit.get hx
    obtain ⟨xk, xb, xn, xu, xs, xa, xm, xc, xa2, xm2, xc2, rfl, d0, d1, d2, d3, d4, d5, d6⟩ := it_cells h7 hja
    have hbt := HB1.out.trans (HBW.out.mono HB1.out.size)
    have hkq : ∀ i : Nat, wr.cell? ⟨q, i, none⟩ = w.cell? ⟨q, i, none⟩ := fun i => hbt.cell (p := ⟨q, i, none⟩) hqw
    rw [← hkq, Nat.mul_comm 7 i] at d0 d1 d2 d3 d4 d5 d6
    have htk : vs.take (i + 1) = vs.take i ++ [x] := by rw [List.take_add_one, hx]; rfl
    have hf1 := formedL_snoc (vs.take i) x
    rw [← htk] at hf1
    have HF1 := Lib.hid hf1
    have HJ := Lib.hid (HIH.out x hxm (fun _ => True) _ wr (hja.kept (fun i _ hi2 => ⟨hbt.block i hi2, trivial⟩)) (HKO.out x hxm))
    subst ha
    clear hx hxm h7 hja hit hqw hkq htk hf1 hbt _hq
    generalize JV.formed x = X at *
    go_wp2_with fail
    refine HJ.out.mono ?_
    rintro e w5 ⟨rfl, hb5⟩
    have HB5 := Lib.hid (HBW.out.trans (hb5.mono HBW.out.size))
    clear hb5 HJ c6 d0 d1 d2 d3 d4 d5 d6
    go_wp2_with fail
    go_roundg (gk - 1)
    case measure => omega
    case rel => exact ⟨i + 1, by omega, by rw [HF1.out, ← Bool.and_assoc, ← HZ.out]; rfl, by go_num, HB5.out⟩
  ·obtain rfl : i = vs.length := by omega
   have hnl : ¬ (vs.length : Int) < (vs.length : Int) := by omega
   go_wp2_with fail
   go_ret
   refine ⟨rboolS ?_, HB1.out.trans (HBW.out.mono HB1.out.size)⟩
   rw [HF.out, HZ.out, List.take_length]
theorem rform_any : ∀ v, RFormOk v := JV.ind fun k b n u s ks vs ih => rform_one k b n u s ks vs ih
def RDeepOk (v : JV) : Prop := ∀ (ok : Nat → Prop) (V : Value) (w : World), JAt ok w v V → v.weigh ≤ 1000000000000 →
 Calls Tryz.prog 33 #[V] w fun e w' => e = .returned (.int .i64 (v.deep : Nat)) ∧ Below w.heap.size w w'
theorem deepL_take : ∀ (l : List JV) (j : Nat), JV.deepL (l.take j) ≤ JV.deepL l
 | [], j => by simp
 | v :: l, 0 => by rw [List.take_zero]; simp [JV.deepL]
 | v :: l, j + 1 => by rw [List.take_succ_cons, JV.deepL, JV.deepL]; have := deepL_take l j; omega
theorem rdeep_one (k : Int) (b : Bool) (n u : Int) (s : ByteArray) (ks : List ByteArray) (vs : List JV) (ih : ∀ x ∈ vs, RDeepOk x) : RDeepOk (.mk k b n u s ks vs) := by
 intro ok V w hj hw
 have hwL : JV.weighL vs ≤ 1000000000000 := by rw [JV.weigh] at hw; omega
 rw [JAt] at hj
 obtain ⟨ka, kc, a, c, rfl, -, hvs, -, hvn⟩ := hj
 have hbx := heap_alloc_new w (.cells #[.int .u8 k, .bool b, .int .i64 n, .int .u64 u, .string s, .slice ka ks.length kc, .slice a vs.length c] 27)
 have hbA : Below w.heap.size w (w.alloc (.cells #[.int .u8 k, .bool b, .int .i64 n, .int .u64 u, .string s, .slice ka ks.length kc, .slice a vs.length c] 27)) := (Below.refl _ _).alloc (Nat.le_refl _) _
 obtain ⟨c0, c1, c2, c3, c4, c5, c6⟩ := cell_agg7 hbx
 have hl1 := (Array.getElem?_eq_some_iff.1 hbx).1
 have HBX1 := Lib.hid hbx
 have HB1 := Lib.hid hbA
 have HVS := Lib.hid hvs
 have HIH := Lib.hid ih
 have HWL := Lib.hid hwL
 obtain ⟨D, hD⟩ : ∃ D, D = JV.deep (.mk k b n u s ks vs) := ⟨_, rfl⟩
 rw [← hD]
 rw [JV.deep] at hD
 have HD := Lib.hid hD
 clear hbx hbA hvs ih hwL hw hD
 by_cases h67 : k = 6 ∨ k = 7
 ·rw [if_pos h67] at HD
  rcases h67 with rfl | rfl
  ·go_enter Tryz.func33, Tryz.ntmps33
   go_upto_region 1 with fail
   generalize w.alloc (.cells #[.int .u8 6, .bool b, .int .i64 n, .int .u64 u, .string s, .slice ka ks.length kc, .slice a vs.length c] 27) = wA at *
   go_wp2_with fail
   clear c0 c1 c2 c3 c4 c5 c6
   go_loopg [3, 4] vs.length (fun g s3 s4 wr => ∃ i : Nat, i + g = vs.length ∧ s3 = .int .i64 (JV.deepL (vs.take i) : Nat) ∧ s4 = .int .i64 i ∧ Below wA.heap.size wA wr)
   case atStart => exact ⟨0, by omega, by rw [List.take_zero, JV.deepL]; rfl, rfl, Below.refl _ _⟩
   case round =>
    obtain ⟨i, hi, rfl, rfl, hbw⟩ := hrel
    have hbr := (hbw.block w.heap.size hl1).trans HBX1.out
    obtain ⟨-, -, -, -, -, -, c6⟩ := cell_agg7 hbr
    have HBW := Lib.hid hbw
    clear hbw hbr
    have hdt := Nat.le_trans (deepL_take vs i) (Nat.le_trans (deepL_le vs) HWL.out)
    by_cases hlt : i < vs.length
    ·have hlt2 : (i : Int) < (vs.length : Int) := by omega
     obtain ⟨x, hx⟩ : ∃ x, vs[i]? = some x := ⟨_, List.getElem?_eq_getElem hlt⟩
     have hxm := List.mem_of_getElem? hx
     obtain ⟨q, off, ha, _hq, hqw, hit⟩ := HVS.out.resolve_left (by rintro rfl; simp at hlt)
     obtain ⟨V, h7, hja⟩ := hit.get hx
     obtain ⟨xk, xb, xn, xu, xs, xa, xm, xc, xa2, xm2, xc2, rfl, d0, d1, d2, d3, d4, d5, d6⟩ := it_cells h7 hja
     have hbt := HB1.out.trans (HBW.out.mono HB1.out.size)
     have hkq : ∀ i : Nat, wr.cell? ⟨q, i, none⟩ = w.cell? ⟨q, i, none⟩ := fun i => hbt.cell (p := ⟨q, i, none⟩) hqw
     rw [← hkq, Nat.mul_comm 7 i] at d0 d1 d2 d3 d4 d5 d6
     have htk : vs.take (i + 1) = vs.take i ++ [x] := by rw [List.take_add_one, hx]; rfl
     have hd1 := deepL_snoc (vs.take i) x
     rw [← htk] at hd1
     have HD1 := Lib.hid hd1
     have hwx := Nat.le_trans (weigh_le hx) HWL.out
     have hdx := Nat.le_trans (deep_le x) hwx
     have HJ := Lib.hid (HIH.out x hxm (fun _ => True) _ wr (hja.kept (fun i _ hi2 => ⟨hbt.block i hi2, trivial⟩)) hwx)
     subst ha
     clear hx hxm h7 hja hit hqw hkq htk hd1 hbt _hq hwx
     generalize JV.deepL (vs.take i) = E at *
     generalize JV.deep x = d at *
     have hmx : max (E : Int) (d : Int) = ((max E d : Nat) : Int) := by omega
     go_wp2_with fail
     refine HJ.out.mono ?_
     rintro e w5 ⟨rfl, hb5⟩
     have HB5 := Lib.hid (HBW.out.trans (hb5.mono HBW.out.size))
     clear hb5 HJ c6 d0 d1 d2 d3 d4 d5 d6
     go_wp2_with fail
     go_roundg (gk - 1)
     case measure => omega
     case rel => exact ⟨i + 1, by omega, by rw [HD1.out], by go_num, HB5.out⟩
    ·obtain rfl : i = vs.length := by omega
     have hnl : ¬ (vs.length : Int) < (vs.length : Int) := by omega
     rw [List.take_length] at hdt ⊢
     generalize JV.deepL vs = E at *
     go_wp2_with fail
     go_ret
     exact ⟨by rw [HD.out] <;> first | rfl | (congr 3; omega), HB1.out.trans (HBW.out.mono HB1.out.size)⟩
  ·go_enter Tryz.func33, Tryz.ntmps33
   go_upto_region 1 with fail
   generalize w.alloc (.cells #[.int .u8 7, .bool b, .int .i64 n, .int .u64 u, .string s, .slice ka ks.length kc, .slice a vs.length c] 27) = wA at *
   go_wp2_with fail
   clear c0 c1 c2 c3 c4 c5 c6
   go_loopg [3, 4] vs.length (fun g s3 s4 wr => ∃ i : Nat, i + g = vs.length ∧ s3 = .int .i64 (JV.deepL (vs.take i) : Nat) ∧ s4 = .int .i64 i ∧ Below wA.heap.size wA wr)
   case atStart => exact ⟨0, by omega, by rw [List.take_zero, JV.deepL]; rfl, rfl, Below.refl _ _⟩
   case round =>
    obtain ⟨i, hi, rfl, rfl, hbw⟩ := hrel
    have hbr := (hbw.block w.heap.size hl1).trans HBX1.out
    obtain ⟨-, -, -, -, -, -, c6⟩ := cell_agg7 hbr
    have HBW := Lib.hid hbw
    clear hbw hbr
    have hdt := Nat.le_trans (deepL_take vs i) (Nat.le_trans (deepL_le vs) HWL.out)
    by_cases hlt : i < vs.length
    ·have hlt2 : (i : Int) < (vs.length : Int) := by omega
     obtain ⟨x, hx⟩ : ∃ x, vs[i]? = some x := ⟨_, List.getElem?_eq_getElem hlt⟩
     have hxm := List.mem_of_getElem? hx
     obtain ⟨q, off, ha, _hq, hqw, hit⟩ := HVS.out.resolve_left (by rintro rfl; simp at hlt)
     obtain ⟨V, h7, hja⟩ := hit.get hx
     obtain ⟨xk, xb, xn, xu, xs, xa, xm, xc, xa2, xm2, xc2, rfl, d0, d1, d2, d3, d4, d5, d6⟩ := it_cells h7 hja
     have hbt := HB1.out.trans (HBW.out.mono HB1.out.size)
     have hkq : ∀ i : Nat, wr.cell? ⟨q, i, none⟩ = w.cell? ⟨q, i, none⟩ := fun i => hbt.cell (p := ⟨q, i, none⟩) hqw
     rw [← hkq, Nat.mul_comm 7 i] at d0 d1 d2 d3 d4 d5 d6
     have htk : vs.take (i + 1) = vs.take i ++ [x] := by rw [List.take_add_one, hx]; rfl
     have hd1 := deepL_snoc (vs.take i) x
     rw [← htk] at hd1
     have HD1 := Lib.hid hd1
     have hwx := Nat.le_trans (weigh_le hx) HWL.out
     have hdx := Nat.le_trans (deep_le x) hwx
     have HJ := Lib.hid (HIH.out x hxm (fun _ => True) _ wr (hja.kept (fun i _ hi2 => ⟨hbt.block i hi2, trivial⟩)) hwx)
     subst ha
     clear hx hxm h7 hja hit hqw hkq htk hd1 hbt _hq hwx
     generalize JV.deepL (vs.take i) = E at *
     generalize JV.deep x = d at *
     have hmx : max (E : Int) (d : Int) = ((max E d : Nat) : Int) := by omega
     go_wp2_with fail
     refine HJ.out.mono ?_
     rintro e w5 ⟨rfl, hb5⟩
     have HB5 := Lib.hid (HBW.out.trans (hb5.mono HBW.out.size))
     clear hb5 HJ c6 d0 d1 d2 d3 d4 d5 d6
     go_wp2_with fail
     go_roundg (gk - 1)
     case measure => omega
     case rel => exact ⟨i + 1, by omega, by rw [HD1.out], by go_num, HB5.out⟩
    ·obtain rfl : i = vs.length := by omega
     have hnl : ¬ (vs.length : Int) < (vs.length : Int) := by omega
     rw [List.take_length] at hdt ⊢
     generalize JV.deepL vs = E at *
     go_wp2_with fail
     go_ret
     exact ⟨by rw [HD.out] <;> first | rfl | (congr 3; omega), HB1.out.trans (HBW.out.mono HB1.out.size)⟩
 ·rw [if_neg h67] at HD
  have q1 : (k == 6) = false := beq_eq_false_iff_ne.2 (fun h => h67 (.inl h))
  have q2 : (k == 7) = false := beq_eq_false_iff_ne.2 (fun h => h67 (.inr h))
  have q3 : (k != 6) = true := by rw [bne, q1]; rfl
  have q4 : (k != 7) = true := by rw [bne, q2]; rfl
  have q5 : ¬ k = 6 := fun h => h67 (.inl h)
  have q6 : ¬ k = 7 := fun h => h67 (.inr h)
  clear h67
  go_enter Tryz.func33, Tryz.ntmps33
  go_wp2_with fail
  go_ret
  exact ⟨by rw [HD.out]; rfl, HB1.out⟩
theorem rdeep_any : ∀ v, RDeepOk v := JV.ind fun k b n u s ks vs ih => rdeep_one k b n u s ks vs ih
theorem rcheck_any (ok : Nat → Prop) (v : JV) (V : Value) (w : World) (h : JAt ok w v V) (hk : KOk v) (hw : v.weigh ≤ 1000000000000) :
  Calls Tryz.prog 16 #[V] w fun e w' => e = .returned (.int .i64 v.check) ∧ Below w.heap.size w w' := by
 have hd := Nat.le_trans (deep_le v) hw
 have hjk := fun (W : World) (hW : Below w.heap.size w W) => h.kept (ok' := fun _ => True) (fun i _ hi => ⟨hW.block i hi, trivial⟩)
 obtain ⟨k, b, n, u, s, ks, vs⟩ := v
 have h0 := h
 rw [JAt] at h0
 obtain ⟨ka, kc, a, c, rfl, -⟩ := h0
 have hbx := heap_alloc_new w (.cells #[.int .u8 k, .bool b, .int .i64 n, .int .u64 u, .string s, .slice ka ks.length kc, .slice a vs.length c] 27)
 have hbA : Below w.heap.size w (w.alloc (.cells #[.int .u8 k, .bool b, .int .i64 n, .int .u64 u, .string s, .slice ka ks.length kc, .slice a vs.length c] 27)) := (Below.refl _ _).alloc (Nat.le_refl _) _
 have hlA := (Array.getElem?_eq_some_iff.1 hbx).1
 obtain ⟨c0, c1, c2, c3, c4, c5, c6⟩ := cell_agg7 hbx
 have HL := Lib.hid (rform_any _ _ _ _ (hjk _ hbA) hk)
 have HL2 := Lib.hid (fun (W : World) (hW : Below w.heap.size w W) => rdeep_any _ _ _ _ (hjk _ hW) hw)
 have HBX := Lib.hid hbx
 have HBA := Lib.hid hbA
 have HCI := Lib.hid (check_is (.mk k b n u s ks vs))
 clear hbx hbA h hjk hk hw
 generalize JV.mk k b n u s ks vs = v at *
 go_enter Tryz.func16, Tryz.ntmps16
 go_upto_region 1 with fail
 generalize w.alloc (.cells #[.int .u8 k, .bool b, .int .i64 n, .int .u64 u, .string s, .slice ka ks.length kc, .slice a vs.length c] 27) = wA at *
 go_wp2_with fail
 refine HL.out.mono ?_
 rintro e w1 ⟨rfl, hb1⟩
 have hbx1 := (hb1.block w.heap.size hlA).trans HBX.out
 clear c0 c1 c2 c3 c4 c5 c6
 obtain ⟨c0, c1, c2, c3, c4, c5, c6⟩ := cell_agg7 hbx1
 have HB1 := Lib.hid (HBA.out.trans (hb1.mono HBA.out.size))
 clear hb1 hbx1
 cases hf : v.formed with
 | false =>
  have HF := Lib.hid hf
  clear hf
  go_wp2_with fail
  go_ret
  exact ⟨by rw [HCI.out, HF.out]; rfl, HB1.out⟩
 | true =>
  have HF := Lib.hid hf
  clear hf
  have HL3 := Lib.hid (HL2.out w1 HB1.out)
  obtain ⟨d, hd2⟩ : ∃ d, v.deep = d := ⟨_, rfl⟩
  have HD := Lib.hid hd2
  rw [hd2] at hd HL3
  clear hd2 HL2
  go_wp2_with fail
  refine HL3.out.mono ?_
  rintro e w2 ⟨rfl, hb2⟩
  have HB2 := Lib.hid (HB1.out.trans (hb2.mono HB1.out.size))
  clear hb2 c0 c1 c2 c3 c4 c5 c6
  by_cases h6 : 64 < d
  ·go_wp2_with fail
   go_ret
   exact ⟨by rw [HCI.out, HF.out, HD.out, if_pos rfl, if_pos h6]; rfl, HB2.out⟩
  ·go_wp2_with fail
   go_ret
   exact ⟨by rw [HCI.out, HF.out, HD.out, if_pos rfl, if_neg h6]; rfl, HB2.out⟩
theorem rshowM_any (ok : Nat → Prop) (v : JV) (V : Value) (w : World) (h : JAt ok w v V) (hk : KOk v) (hr : Rng v) (hw : v.weigh ≤ 1000000) :
  Calls Tryz.prog 15 #[V] w fun e w' => e = .returned (showR v) ∧ Below w.heap.size w w' := by
 have hjk := fun (W : World) (hW : Below w.heap.size w W) => h.kept (ok' := fun _ => True) (fun i _ hi => ⟨hW.block i hi, trivial⟩)
 have hcf := fun h => check_form (v := v) h
 obtain ⟨k, b, n, u, s, ks, vs⟩ := v
 have h0 := h
 rw [JAt] at h0
 obtain ⟨ka, kc, a, c, rfl, -⟩ := h0
 have hbx := heap_alloc_new w (.cells #[.int .u8 k, .bool b, .int .i64 n, .int .u64 u, .string s, .slice ka ks.length kc, .slice a vs.length c] 27)
 have hbA : Below w.heap.size w (w.alloc (.cells #[.int .u8 k, .bool b, .int .i64 n, .int .u64 u, .string s, .slice ka ks.length kc, .slice a vs.length c] 27)) := (Below.refl _ _).alloc (Nat.le_refl _) _
 have hlA := (Array.getElem?_eq_some_iff.1 hbx).1
 obtain ⟨c0, c1, c2, c3, c4, c5, c6⟩ := cell_agg7 hbx
 have HL := Lib.hid (rcheck_any _ _ _ _ (hjk _ hbA) hk (by omega))
 have HL2 := Lib.hid (fun (W : World) (hW : Below w.heap.size w W) (hc : JV.check (.mk k b n u s ks vs) = 0) => rshowV_any _ _ _ _ (hjk _ hW) (hcf hc).1 hr hw)
 have HBX := Lib.hid hbx
 have HBA := Lib.hid hbA
 clear hbx hbA h hjk hk hw hr hcf
 generalize JV.mk k b n u s ks vs = v at *
 go_enter Tryz.func15, Tryz.ntmps15
 go_upto_region 1 with fail
 generalize w.alloc (.cells #[.int .u8 k, .bool b, .int .i64 n, .int .u64 u, .string s, .slice ka ks.length kc, .slice a vs.length c] 27) = wA at *
 go_wp2_with fail
 refine HL.out.mono ?_
 rintro e w1 ⟨rfl, hb1⟩
 have hbx1 := (hb1.block w.heap.size hlA).trans HBX.out
 clear c0 c1 c2 c3 c4 c5 c6
 obtain ⟨c0, c1, c2, c3, c4, c5, c6⟩ := cell_agg7 hbx1
 have HB1 := Lib.hid (HBA.out.trans (hb1.mono HBA.out.size))
 clear hb1 hbx1
 by_cases hc : v.check = 0
 ·have HC := Lib.hid hc
  have HL3 := Lib.hid (HL2.out w1 HB1.out hc)
  rw [hc]
  clear hc HL2
  go_wp2_with fail
  refine HL3.out.mono ?_
  rintro e w2 ⟨rfl, hb2⟩
  have HB2 := Lib.hid (HB1.out.trans (hb2.mono HB1.out.size))
  clear hb2 c0 c1 c2 c3 c4 c5 c6
  go_wp2_with fail
  go_ret2
  exact ⟨by unfold showR; rw [HC.out, if_pos rfl]; rfl, HB2.out⟩
 ·have HC := Lib.hid hc
  have hc2 : (v.check == 0) = false := beq_eq_false_iff_ne.2 hc
  have hc3 : (v.check != 0) = true := by rw [bne, hc2]; rfl
  obtain ⟨z, hz⟩ : ∃ z, v.check = z := ⟨_, rfl⟩
  have HZ := Lib.hid hz
  rw [hz] at hc hc2 hc3 ⊢
  clear hz HL2
  go_wp2_with fail
  go_ret2
  exact ⟨by unfold showR; rw [HZ.out, if_neg (by rw [← HZ.out]; exact HC.out)]; rfl, HB1.out⟩
end Go.Proofs.YtckaoeloofbklaaGreatDoor
namespace Go.Proofs.YtckaoeloofbklaaGreatDoor
open Go Go.RowKit Go.Lib
theorem exact_ten (K : Nat) (w : World) (hg : GlobT K w) :
  Calls Tryz.prog 258 #[.int .u64 10, .int .i64 (-1), .bool false] w fun e w' => e = .returned (.tuple #[.float .f64 4607182418800017408, .bool true]) ∧ w' = w := by
 obtain ⟨i0, i1, i2⟩ := hg.inf
 obtain ⟨b, o, cap, _, hs, hc⟩ := hg.p10
 have hck := hc 1 (by decide)
 rw [show p10N 1 = 4621819117588971520 by decide +kernel] at hck
 have hf : floatOfInt .f64 (10 : Int) = 4621819117588971520 := by decide +kernel
 have hm : ∀ W : World, (binOp .quo 128 (.float .f64 4621819117588971520) (.float .f64 4621819117588971520)).run Tryz.prog W = .ok (.float .f64 4607182418800017408) W := fun W => run_float_arith W .quo _ .f64 _ _ _ (by decide +kernel)
 clear hc hg
 go_enter Tryz.func258, Tryz.ntmps258
 go_wp2_with fail
 refine bodyPost_ret (v := .tuple #[.float .f64 4607182418800017408, .bool true]) (by simp [results, Tryz.results258, go_sem]) rfl ⟨rfl, rfl⟩
theorem rf_one (w : World) :
  Calls Tryz.prog 248 #[.string ⟨#[49, 46, 48]⟩] w fun e w' => e = .returned (.tuple #[.int .u64 10, .int .i64 (-1), .bool false, .bool false, .bool false, .int .i64 3, .bool true]) ∧ w' = w := by
 have b0 : (⟨#[49, 46, 48]⟩ : ByteArray)[0].toNat = 49 := rfl
 have b1 : (⟨#[49, 46, 48]⟩ : ByteArray)[1].toNat = 46 := rfl
 have b2 : (⟨#[49, 46, 48]⟩ : ByteArray)[2].toNat = 48 := rfl
 go_enter Tryz.func248, Tryz.ntmps248
 go_wp2_with fail
 go_step3
 go_wp2_with fail
 go_step3
 go_wp2_with fail
 refine wp_loop_rounds 4 ?_
 iterate 4
  rw [rounds_succ]
  go_wp2_with fail
 try rw [Exit.noGoto_ret]
 try rw [Exit.noGoto_ret]
 refine bodyPost_ret (v := .tuple #[.int .u64 10, .int .i64 (-1), .bool false, .bool false, .bool false, .int .i64 3, .bool true]) (by simp [results, Tryz.results248, go_sem]) rfl ⟨rfl, rfl⟩
theorem rf_nought (w : World) :
  Calls Tryz.prog 248 #[.string ⟨#[48]⟩] w fun e w' => e = .returned (.tuple #[.int .u64 0, .int .i64 0, .bool false, .bool false, .bool false, .int .i64 1, .bool true]) ∧ w' = w := by
 have b0 : (⟨#[48]⟩ : ByteArray)[0].toNat = 48 := rfl
 go_enter Tryz.func248, Tryz.ntmps248
 go_wp2_with fail
 go_step3
 go_wp2_with fail
 go_step3
 go_wp2_with fail
 refine wp_loop_rounds 2 ?_
 iterate 2
  rw [rounds_succ]
  go_wp2_with fail
 try rw [Exit.noGoto_ret]
 try rw [Exit.noGoto_ret]
 refine bodyPost_ret (v := .tuple #[.int .u64 0, .int .i64 0, .bool false, .bool false, .bool false, .int .i64 1, .bool true]) (by simp [results, Tryz.results248, go_sem]) rfl ⟨rfl, rfl⟩
theorem atof_one (K : Nat) (w : World) (hG : Glob w) (hT : GlobT K w) :
  Calls Tryz.prog 225 #[.string ⟨#[49, 46, 48]⟩] w fun e w' => e = .returned (.tuple #[.float .f64 4607182418800017408, .int .i64 3, .nilIface]) ∧ w' = w := by
 have hopt := hG.opt
 have HSP := Lib.hid (special_no ⟨#[49, 46, 48]⟩ w (by decide) (by decide) (.inr (by decide)))
 have HRF := Lib.hid (rf_one w)
 have HEX := Lib.hid (exact_ten K w hT)
 have HBU : Hid (∀ W : World, Calls Tryz.prog 256 #[.bool false] W fun e w' => e = .returned (.int .u64 0) ∧ W = w') := Lib.hid (fun W => b2u_any false W)
 have hor := bits_or_zero
 clear hT hG
 go_enter Tryz.func225, Tryz.ntmps225
 go_wp2_with fail
 refine HSP.out.mono ?_
 rintro e w ⟨rfl, rfl⟩
 go_wp2_with fail
 refine HRF.out.mono ?_
 rintro e w ⟨rfl, rfl⟩
 go_wp2_with fail
 refine (HBU.out _).mono ?_
 rintro e w' ⟨rfl, rfl⟩
 go_wp2_with fail
 refine HEX.out.mono ?_
 rintro e w' ⟨rfl, rfl⟩
 go_wp2_with fail
 refine bodyPost_ret (v := .tuple #[.float .f64 4607182418800017408, .int .i64 3, .nilIface]) (by simp [results, Tryz.results225, go_sem]) rfl ⟨rfl, rfl⟩
theorem atof_nought (w : World) (hG : Glob w) :
  Calls Tryz.prog 225 #[.string ⟨#[48]⟩] w fun e w' => e = .returned (.tuple #[.float .f64 0, .int .i64 1, .nilIface]) ∧ w' = w := by
 have hopt := hG.opt
 have HSP := Lib.hid (special_no ⟨#[48]⟩ w (by decide) (by decide) (.inr (by decide)))
 have HRF := Lib.hid (rf_nought w)
 have HBU : Hid (∀ W : World, Calls Tryz.prog 256 #[.bool false] W fun e w' => e = .returned (.int .u64 0) ∧ W = w') := Lib.hid (fun W => b2u_any false W)
 have hor := bits_or_zero
 have hfb : ∀ W : World, (callFunc 257 #[.int .u64 0]).run Tryz.prog W = .ok (.value (.float .f64 0)) W := run_sfrom 0
 clear hG
 go_enter Tryz.func225, Tryz.ntmps225
 go_wp2_with fail
 refine HSP.out.mono ?_
 rintro e w ⟨rfl, rfl⟩
 go_wp2_with fail
 refine HRF.out.mono ?_
 rintro e w ⟨rfl, rfl⟩
 go_wp2_with fail
 refine (HBU.out _).mono ?_
 rintro e w' ⟨rfl, rfl⟩
 go_wp2_with fail
 refine bodyPost_ret (v := .tuple #[.float .f64 0, .int .i64 1, .nilIface]) (by simp [results, Tryz.results225, go_sem]) rfl ⟨rfl, rfl⟩
theorem parse_bits (neg : Bool) (l : List UInt8) (r K : Nat) (w : World) (hG : Globs w) (hT : GlobT K w) (hl : l.length ≤ 300) (hd : decB l = true) (hb : noBars l = l) (hr : r < INF)
  (ha : ∀ W, Globs W → GlobT K W → Calls Tryz.prog 225 #[.string ⟨l.toArray⟩] W fun e w' => e = .returned (.tuple #[.float .f64 r, .int .i64 l.length, .nilIface]) ∧ w' = W) :
  Calls Tryz.prog 121 #[.string ⟨(sgB neg ++ l).toArray⟩] w fun e w' => e = .returned (.tuple #[.int .u64 (r + sgW neg : Nat), .int .i64 0]) ∧ Below w.heap.size w w' := by
 have hn := near_self r (Nat.le_of_lt hr)
 refine (parse_dec ⟨(sgB neg ++ l).toArray⟩ neg l (2 * V r) 1 K w hG hT rfl ?_ hd fun W hg ht => ?_).mono ?_
 ·show (sgB neg ++ l).length ≤ 400
  rw [List.length_append]
  have : (sgB neg).length ≤ 1 := by cases neg <;> decide
  omega
 ·rw [hb]
  refine pfloat_of ⟨l.toArray⟩ _ _ K W ht (by show l.length ≤ 1000; omega) ((ha W hg ht).mono ?_)
  rintro e w' ⟨rfl, rfl⟩
  refine ⟨r, hn, ?_, Below.refl _ _⟩
  rw [show errV r = .nilIface from if_neg (Nat.ne_of_lt hr)]
  rfl
 ·rintro e w' ⟨r', hr', rfl, hb'⟩
  rw [near_unique hr' hn]
  exact ⟨rfl, hb'⟩
theorem parse_one (K : Nat) (w : World) (hG : Globs w) (hT : GlobT K w) :
  Calls Tryz.prog 121 #[.string ⟨#[49, 46, 48]⟩] w fun e w' => e = .returned (.tuple #[.int .u64 (4607182418800017408 : Nat), .int .i64 0]) ∧ Below w.heap.size w w' :=
 parse_bits false [49, 46, 48] 4607182418800017408 K w hG hT (by decide) (by decide +kernel) (by decide +kernel) (by decide) fun W hg ht => atof_one K W hg.glob ht
theorem parse_minus (K : Nat) (w : World) (hG : Globs w) (hT : GlobT K w) :
  Calls Tryz.prog 121 #[.string ⟨#[45, 48]⟩] w fun e w' => e = .returned (.tuple #[.int .u64 (9223372036854775808 : Nat), .int .i64 0]) ∧ Below w.heap.size w w' :=
 parse_bits true [48] 0 K w hG hT (by decide) (by decide +kernel) (by decide +kernel) (by decide) fun W hg _ => atof_nought W hg.glob
end Go.Proofs.YtckaoeloofbklaaGreatDoor
namespace Go.Proofs.YtckaoeloofbklaaGreatDoor
section
variable {N : List UInt8 → JV → Prop} {intL fltL : Int → List UInt8} {inf : Int → Bool}
theorem atom_num {s u : List UInt8} {v : JV} (hs : NumS s) (hv : N s v) (hu : EndV u) (n : Nat) : Val decB8 enc N n (s ++ u) (.ok v (skipB u)) := by
 obtain ⟨c, l, rfl, hc, hl⟩ := hs
 have hb := (numC_no c (NumS.all ⟨c, l, rfl, hc, hl⟩ c (by simp))).2.2
 refine val_atom (o := .ok v u) n ?_
 rw [List.cons_append, skip_at _ _ hb]
 exact .num hc hl hv (end_num hu).1
end
end Go.Proofs.YtckaoeloofbklaaGreatDoor
namespace Go.Proofs.YtckaoeloofbklaaGreatDoor
open Go Go.RowKit Go.Lib
def txt1 : List UInt8 := [123, 34, 97, 34, 58, 91, 49, 44, 45, 48, 44, 49, 46, 48, 44, 34, 92, 117, 48, 48, 101, 57, 92, 117, 100, 56, 51, 100, 92, 117, 100, 101, 48, 48, 92, 117, 100, 56, 48, 48, 34, 93, 125]
def val1 : JV := jRec [⟨#[97]⟩] [jList [jInt 1, jFlt 9223372036854775808, jFlt 4607182418800017408, jStr ⟨#[195, 169, 240, 159, 152, 128, 239, 191, 189]⟩]]
theorem nj_one : NJ [49] (jInt 1) := .int false [49] 49 [] rfl ⟨rfl, by decide, rfl, fun _ => rfl, .inl rfl, .inl rfl⟩ (by decide) (by decide) (by kernel_rfl)
theorem nj_flt : NJ [49, 46, 48] (jFlt 4607182418800017408) :=
 .flt (u := 4607182418800017408) false [49, 46, 48] 49 [] [46, 48] [] rfl ⟨rfl, by decide, rfl, fun _ => rfl, .inr ⟨48, [], rfl, by decide, rfl⟩, .inl rfl⟩ (by decide) (.inl (by decide)) (by decide) (by decide +kernel) fun K w hG hT => parse_one K w hG hT
theorem nj_nzero : NJ [45, 48] (jFlt 9223372036854775808) :=
 .flt (u := 9223372036854775808) true [48] 48 [] [] [] rfl ⟨rfl, by decide, rfl, fun _ => rfl, .inl rfl, .inl rfl⟩ (by decide) (.inr rfl) (by decide) (by decide +kernel) fun K w hG hT => parse_minus K w hG hT
theorem val_int (n : Nat) (c : UInt8) (t : List UInt8) (v : JV) (h : NJ [c] v) (hc : isDgB c = true) (ht : EndV t) : Val decB8 enc NJ n (c :: t) (.ok v (skipB t)) :=
 atom_num (s := [c]) ⟨c, [], rfl, .inr hc, rfl⟩ h ht n
theorem val_num (n : Nat) (s t : List UInt8) (v : JV) (hs : NumS s) (h : NJ s v) (ht : EndV t) : Val decB8 enc NJ n (s ++ t) (.ok v (skipB t)) := atom_num hs h ht n
theorem str1 (t : List UInt8) : Str decB8 enc (92 :: 117 :: 48 :: 48 :: 101 :: 57 :: 92 :: 117 :: 100 :: 56 :: 51 :: 100 :: 92 :: 117 :: 100 :: 101 :: 48 :: 48 :: 92 :: 117 :: 100 :: 56 :: 48 :: 48 :: 34 :: t) [195, 169, 240, 159, 152, 128, 239, 191, 189] t := by
 have h := Str.esc (dec := decB8) (enc := enc) (r := []) (x := 117 :: 48 :: 48 :: 101 :: 57 :: 92 :: 117 :: 100 :: 56 :: 51 :: 100 :: 92 :: 117 :: 100 :: 101 :: 48 :: 48 :: 92 :: 117 :: 100 :: 56 :: 48 :: 48 :: 34 :: t) rfl (Esc.one (n := 233) (by decide) (.inl (by decide)))
  (Str.esc (r := []) (x := 117 :: 100 :: 56 :: 51 :: 100 :: 92 :: 117 :: 100 :: 101 :: 48 :: 48 :: 92 :: 117 :: 100 :: 56 :: 48 :: 48 :: 34 :: t) rfl (Esc.pair (n := 55357) (m := 56832) (by decide) (by decide) (by decide) (by decide) (by decide) (by decide))
   (Str.esc (r := []) (x := 117 :: 100 :: 56 :: 48 :: 48 :: 34 :: t) rfl (Esc.lone (n := 55296) (t := 34 :: t) (by decide) (by decide) (by decide) (by simp)) (Str.last (r := []) (t := t) rfl)))
 rwa [show decB8 [] ++ enc 233 ++ (decB8 [] ++ enc (65536 + (55357 - 55296) * 1024 + (56832 - 56320)) ++ (decB8 [] ++ enc 55296 ++ decB8 [])) = [195, 169, 240, 159, 152, 128, 239, 191, 189] by decide +kernel] at h
theorem val_list (n : Nat) (t : List UInt8) (vs : List JV) (t' : List UInt8) (h : Sev0 93 (OneL (Val decB8 enc NJ n)) [] (skipB t) (.ok vs t')) : Val decB8 enc NJ (n + 1) (91 :: t) (.ok (jList vs) (skipB t')) :=
 ⟨_, .list h, rfl⟩
theorem dec_a : decB8 [97] = [97] := by decide +kernel
theorem str_a (t : List UInt8) : Str decB8 enc (97 :: 34 :: t) [97] t := by
 have h := Str.last (dec := decB8) (enc := enc) (r := [97]) (t := t) rfl
 rwa [dec_a] at h
theorem reads1 : Val decB8 enc NJ 64 txt1 (.ok val1 []) := by
 refine ⟨.ok val1 [], Core.rcd (o := .ok ([⟨#[97]⟩], [jList [jInt 1, jFlt 9223372036854775808, jFlt 4607182418800017408, jStr ⟨#[195, 169, 240, 159, 152, 128, 239, 191, 189]⟩]]) []) ?_, rfl⟩
 refine Sev0.more (s' := ([⟨#[97]⟩], [jList [jInt 1, jFlt 9223372036854775808, jFlt 4607182418800017408, jStr ⟨#[195, 169, 240, 159, 152, 128, 239, 191, 189]⟩]])) (t' := [125]) rfl ?_ .stop
 refine OneR.ok (ks := []) (vs := []) rfl (str_a _) (by simp) rfl ?_
 refine val_list 62 _ _ [125] ?_
 refine Sev0.more (s' := [jInt 1]) rfl (OneL.ok (l := []) (val_int 62 49 _ _ nj_one (by decide) (.inr (.inl rfl)))) ?_
 refine Sev.more (s' := [jInt 1, jFlt 9223372036854775808]) (OneL.ok (l := [jInt 1]) (val_num 62 [45, 48] _ _ ⟨45, [48], rfl, .inl rfl, by decide⟩ nj_nzero (.inr (.inl rfl)))) ?_
 refine Sev.more (s' := [jInt 1, jFlt 9223372036854775808, jFlt 4607182418800017408]) (OneL.ok (l := [jInt 1, jFlt 9223372036854775808]) (val_num 62 [49, 46, 48] _ _ ⟨49, [46, 48], rfl, .inr (by decide), by decide⟩ nj_flt (.inr (.inl rfl)))) ?_
 refine Sev.more (t' := [93, 125]) (OneL.ok (l := [jInt 1, jFlt 9223372036854775808, jFlt 4607182418800017408]) (val_atom (o := .ok (jStr ⟨#[195, 169, 240, 159, 152, 128, 239, 191, 189]⟩) [93, 125]) 62 (Atom.str (str1 [93, 125])))) .stop
def txt2 : List UInt8 := [123, 34, 97, 34, 58, 49, 44, 34, 97, 34, 58, 50, 125]
theorem reads2 : Val decB8 enc NJ 64 txt2 (.err 162 [34, 97, 34, 58, 50, 125]) := by
 refine ⟨_, Core.rcd (o := .err 162 [34, 97, 34, 58, 50, 125]) ?_, rfl⟩
 refine Sev0.more (s' := ([⟨#[97]⟩], [jInt 1])) (t' := [44, 34, 97, 34, 58, 50, 125]) rfl ?_ ?_
 ·exact OneR.ok (ks := []) (vs := []) rfl (str_a _) (by simp) rfl (val_int 63 49 _ _ nj_one (by decide) (.inr (.inl rfl)))
 ·exact Sev.bad (OneR.twice (t := [34, 97, 34, 58, 50, 125]) rfl (str_a _) (by simp))
def txt3 : List UInt8 := [91, 49, 44, 93]
theorem reads3 : Val decB8 enc NJ 64 txt3 (.err 160 [93]) := by
 refine ⟨_, Core.list (o := .err 160 [93]) ?_, rfl⟩
 refine Sev0.more (s' := [jInt 1]) (t' := [44, 93]) rfl (OneL.ok (l := []) (val_int 63 49 _ _ nj_one (by decide) (.inr (.inl rfl)))) ?_
 exact Sev.bad (OneL.err (val_atom (t := [93]) (o := .err 160 [93]) 63 (Atom.bad (by show begC 93 = false; decide))))
def val4 : JV := jRec [⟨#[97]⟩] [jFlt 4617315517961601024]
theorem show4 : showR val4 = .tuple #[.string ⟨#[123, 34, 97, 34, 58, 53, 46, 48, 125]⟩, .int .i64 0] := by
 have hc : val4.check = 0 := by
  rw [check_is]
  have h1 : val4.formed = true := by decide +kernel
  have h2 : val4.deep = 1 := by decide +kernel
  rw [h1, h2]; rfl
 unfold showR
 rw [hc, if_pos rfl]
 have : shJ val4 = [123, 34, 97, 34, 58, 53, 46, 48, 125] := by decide +kernel
 rw [this]
theorem quote4 : quoL [60, 47, 10] = [34, 92, 117, 48, 48, 51, 99, 47, 92, 117, 48, 48, 48, 97, 34] := by decide +kernel
end Go.Proofs.YtckaoeloofbklaaGreatDoor
namespace Go.Proofs.YtckaoeloofbklaaGreatDoor
open Go Go.RowKit Go.Lib
theorem number_any (r : Nat) (s : ByteArray) (a t : List UInt8) (v : JV) (d : Nat) (w : World) (h : Rd r s (a ++ t) d w) (hn : a.all numC = true) (ht : Ends numC t) (K : Nat) (hG : Globs w) (hT : GlobT K w) (hK : K ≤ r) (hv : NJ a v) :
  Calls Tryz.prog 51 #[.pointer (some ⟨r, 0, none⟩)] w (ValOk r s d w v t) := by
 cases hv with
 | int ng l c W ha hf hl h0 hp => exact number_int r s a t d w h hn ht _ ng l c W ha hf hl h0 hp
 | flt ng l c W fr ex ha hf hl hw hu hi hP => exact number_flt r s a t d w h hn ht K hG hT hK _ ng l c W fr ex ha hf hl hw hu hi hP
structure Env (K r : Nat) (s : ByteArray) (w : World) : Prop where
 k : K ≤ r
 t : Lib.Utf8Tabs 0 1 w
 g : Globs w
 gt : GlobT K w
 s : (s.size + 1) * 88 ≤ 140737488355328
theorem Env.h17 {K r : Nat} {s : ByteArray} {w : World} (h : Env K r s w) : 17 ≤ r := Nat.le_trans h.gt.lt h.k
theorem Env.kr {K r : Nat} {s : ByteArray} {w W : World} (h : Env K r s w) (hk : KR r w W) (hr : r < w.heap.size) : Env K r s W :=
 ⟨h.k, utabs_kept h.t (hk.low' h.h17 (by have := h.h17; omega)), h.g.below h.h17 (hk.below (by omega)), h.gt.below h.k (hk.below (by omega)), h.s⟩
def Shorter {σ : Type} (t : List UInt8) : Out σ → Prop
 | .ok _ t' => t'.length < t.length
 | .err _ _ => True
theorem atom_short {t : List UInt8} {o : Out JV} (h : Atom decB8 enc NJ t o) : Shorter t o := by
 cases h with
 | null => simp [Shorter]; omega
 | tru => simp [Shorter]; omega
 | fals => simp [Shorter]; omega
 | str h => have := str_len h; simp [Shorter]; omega
 | num => simp [Shorter]; omega
 | bad => trivial
theorem sev_short {σ : Type} {e : UInt8} {One : σ → List UInt8 → Out σ → Prop} (hO : ∀ s t o, One s t o → Shorter t o) {s : σ} {t : List UInt8} {o : Out σ} (h : Sev e One s t o) : Shorter t o := by
 induction h with
 | stop => simp [Shorter]
 | more h _ ih =>
  have := hO _ _ _ h
  rename_i o _
  cases o with
  | ok v t' => simp [Shorter] at this ih ⊢; omega
  | err => trivial
 | bad => trivial
theorem sev0_short {σ : Type} {e : UInt8} {One : σ → List UInt8 → Out σ → Prop} (hO : ∀ s t o, One s t o → Shorter t o) {s : σ} {t : List UInt8} {o : Out σ} (h : Sev0 e One s t o) : Shorter t o := by
 cases h with
 | stop => simp [Shorter]
 | more _ h h2 =>
  have h3 := hO _ _ _ h
  have h4 := sev_short hO h2
  cases o with
  | ok v t' => simp [Shorter] at h3 h4 ⊢; omega
  | err => trivial
 | bad => trivial
theorem short_skip {t u : List UInt8} {o : Out JV} (h : Shorter u o) (hu : u.length ≤ t.length) : Shorter t o.skip := by
 cases o with
 | ok v t' =>
  have := skip_len t'
  simp [Shorter, Out.skip] at h ⊢
  omega
 | err => trivial
theorem val_short : ∀ (n : Nat) (t : List UInt8) (o : Out JV), Val decB8 enc NJ n t o → Shorter t o
 | 0, t, o, h => by
  obtain ⟨o', h1, rfl⟩ := h
  exact short_skip (atom_short h1) (skip_len t)
 | n + 1, t, o, h => by
  obtain ⟨o', h1, rfl⟩ := h
  refine short_skip ?_ (skip_len t)
  have ih := val_short n
  generalize skipB t = tt at h1 ⊢
  cases h1 with
  | atom h => exact atom_short h
  | list h =>
   rename_i t2 o2
   have := sev0_short (One := OneL (Val decB8 enc NJ n)) (fun s t o ho => by
    cases ho with
    | ok hp => exact ih _ _ hp
    | err hp => trivial) h
   have hs := skip_len t2
   cases o2 with
   | ok v t' => simp [Shorter, Out.map] at this ⊢; omega
   | err => trivial
  | rcd h =>
   rename_i t2 o2
   have := sev0_short (One := OneR decB8 enc (Val decB8 enc NJ n)) (fun s t o ho => by
    cases ho with
    | ok e1 e2 e3 e4 hp =>
     have h1 := ih _ _ hp
     have h2 := str_len e2
     have h3 := congrArg List.length e1
     have h4 := congrArg List.length e4
     rename_i t1 k t2 t3 v t4
     have h5 := skip_len t
     have h6 := skip_len t2
     simp [Shorter] at h1 h3 h4 ⊢; omega
    | err => trivial
    | twice => trivial) h
   have hs := skip_len t2
   cases o2 with
   | ok v t' => simp [Shorter, Out.map] at this ⊢; omega
   | err => trivial
theorem beg_dig (c : UInt8) (h : isDgB c = true) : begF c = none := by
 have key : ∀ c : Fin 256, isDgB (UInt8.ofNat c.val) = true → begF (UInt8.ofNat c.val) = none := by decide +kernel
 have := key ⟨c.toNat, c.toNat_lt⟩
 simp only [UInt8.ofNat_toNat] at this
 exact this h
theorem beg_none (c : UInt8) (h : begC c = false) : begF c = none ∧ isDgB c = false ∧ isAl c = false := by
 have key : ∀ c : Fin 256, begC (UInt8.ofNat c.val) = false → begF (UInt8.ofNat c.val) = none ∧ isDgB (UInt8.ofNat c.val) = false ∧ isAl (UInt8.ofNat c.val) = false := by decide +kernel
 have := key ⟨c.toNat, c.toNat_lt⟩
 simp only [UInt8.ofNat_toNat] at this
 exact this h
theorem ent_list : ∀ args w, (callFunc 48 args).run Tryz.prog w = .ok (.enter 48 args) w := enters_of Tryz.func48 (by kernel_rfl) rfl
theorem ent_record : ∀ args w, (callFunc 49 args).run Tryz.prog w = .ok (.enter 49 args) w := enters_of Tryz.func49 (by kernel_rfl) rfl
theorem ent_text : ∀ args w, (callFunc 50 args).run Tryz.prog w = .ok (.enter 50 args) w := enters_of Tryz.func50 (by kernel_rfl) rfl
theorem ent_number : ∀ args w, (callFunc 51 args).run Tryz.prog w = .ok (.enter 51 args) w := enters_of Tryz.func51 (by kernel_rfl) rfl
theorem atom_value {K r : Nat} {s : ByteArray} {t : List UInt8} {d : Nat} {w : World} (h : Rd r s t d w) (hE : Env K r s w) {u : List UInt8} (hu : skipB t = u) {o : Out JV} (ha : Atom decB8 enc NJ u o) :
  Calls Tryz.prog 25 #[.pointer (some ⟨r, 0, none⟩)] w (ValPost r s d w o.skip) := by
 have hrl := h.lt
 cases ha with
 | null he => exact value_word (o := .ok jNull _) r s t _ 110 d w h hu (by decide) (by decide) (by decide) fun W hr hk => word_null r s _ d W hr he
 | tru he => exact value_word (o := .ok (jBool true) _) r s t _ 116 d w h hu (by decide) (by decide) (by decide) fun W hr hk => word_true r s _ d W hr he
 | fals he => exact value_word (o := .ok (jBool false) _) r s t _ 102 d w h hu (by decide) (by decide) (by decide) fun W hr hk => word_false r s _ d W hr he
 | str hs => exact value_map (o := .ok (jStr _) _) r s t _ 34 d w h hu 50 (by decide) ent_text fun W hr hk => textJ_any r s _ _ _ d W hr hE.h17 (hE.kr hk hrl).t hs
 | num hc hall hv ht =>
  rename_i c a t2 v
  have hN : ∀ W, Rd r s (c :: (a ++ t2)) d W → KR r w W → Calls Tryz.prog 51 #[.pointer (some ⟨r, 0, none⟩)] W (ValPost r s d W (.ok v t2)) := fun W hr hk =>
   number_any r s (c :: a) t2 v d W hr (by
    rw [List.all_cons, hall, Bool.and_true]
    rcases hc with rfl | hc
    ·decide
    ·unfold numC; rw [hc]; simp) ht K (hE.kr hk hrl).g (hE.kr hk hrl).gt hE.k hv
  rcases hc with rfl | hc
  ·exact value_map (o := .ok v t2) r s t _ 45 d w h hu 51 (by decide) ent_number hN
  ·exact value_dig (o := .ok v t2) r s t _ c d w h hu (beg_dig c hc) hc hN
 | bad he =>
  cases u with
  | nil =>
   have := value_nil r s t d w h hu
   rw [hu] at this
   exact this
  | cons c u =>
   obtain ⟨h1, h2, h3⟩ := beg_none c he
   have := value_bad r s t u c d w h hu h1 h2 h3
   rw [hu] at this
   exact this
theorem value_any (K : Nat) : ∀ (n r : Nat) (s : ByteArray) (t : List UInt8) (d : Nat) (w : World) (o : Out JV), d + n = 64 → Rd r s t d w → Env K r s w → Val decB8 enc NJ n t o →
  Calls Tryz.prog 25 #[.pointer (some ⟨r, 0, none⟩)] w (ValPost r s d w o)
 | 0, r, s, t, d, w, o, hd, h, hE, hv => by
  obtain ⟨o', h1, rfl⟩ := hv
  exact atom_value h hE rfl h1
 | n + 1, r, s, t, d, w, o, hd, h, hE, hv => by
  have hrl := h.lt
  obtain ⟨o', h1, rfl⟩ := hv
  have ih := value_any K n
  have hsh : ∀ t v t', Val decB8 enc NJ n t (.ok v t') → t'.length < t.length := fun t v t' hv => val_short n _ _ hv
  generalize hu : skipB t = u at h1
  cases h1 with
  | atom ha => exact atom_value h hE hu ha
  | list hs =>
   exact value_map r s t _ 91 d w h hu 48 (by decide) ent_list fun W hr hk =>
    list_yes (Val decB8 enc NJ n) hsh r s d (by omega) hE.s _ W hr (fun W2 t2 o2 hk2 hr2 hp => ih r s t2 (d + 1) W2 o2 (by omega) hr2 ((hE.kr hk hrl).kr hk2 hr.lt) hp) _ hs
  | rcd hs =>
   exact value_map r s t _ 123 d w h hu 49 (by decide) ent_record fun W hr hk =>
    record_yes (Val decB8 enc NJ n) hsh r s d (by omega) hE.s hE.h17 _ W hr (hE.kr hk hrl).t (fun W2 t2 o2 hk2 hr2 hp => ih r s t2 (d + 1) W2 o2 (by omega) hr2 ((hE.kr hk hrl).kr hk2 hr.lt) hp) _ hs
end Go.Proofs.YtckaoeloofbklaaGreatDoor
namespace Go.Proofs.YtckaoeloofbklaaGreatDoor
open Go Go.RowKit Go.Lib
theorem ta_yes (v : Value) (w : World) : (Instr.typeAssert (.iface 53 v) 20 53 true).run Tryz.prog w = .ok (.tuple #[v, .bool true]) w := by
 simp [Instr.typeAssert, run_underlying Tryz.underlying53]
theorem catch_idle (a b c : Addr) (w : World) :
  CallsD Tryz.prog 24 #[.pointer (some a), .pointer (some b), .pointer (some c)] .returning w fun e u' w' => e = .returned (.tuple #[]) ∧ u' = .returning ∧ w' = w := by
 refine callsD_of_wpS Tryz.func24 rfl fun c₀ cs hu => ?_
 apply wpS_seq
 apply wpS_region
 simp [wpOpsS, go_sem, recoverD, hu, Tryz.ntmps24, Exit.thenS]
 refine wpS_of_wp ?_
 go_wp2
 cases c₀
 simp_all [bodyPostS, results, Tryz.results24]
theorem catch_hit (n0 a b c : Nat) (x : Int) (n : Nat) (w : World) (x0 x1 x2 x3 x4 x5 x6 y z : Value) (ha : w.heap[a]? = some (.cells #[x0, x1, x2, x3, x4, x5, x6] 27 (0, 0))) (hb : w.heap[b]? = some (.cells #[y] 31 (0, 0))) (hc : w.heap[c]? = some (.cells #[z] 3 (0, 0))) (h0 : n0 ≤ a) (h1 : n0 ≤ b) (h2 : n0 ≤ c) (hab : a ≠ b) (hac : a ≠ c) (hbc : b ≠ c) :
  CallsD Tryz.prog 24 #[.pointer (some ⟨a, 0, none⟩), .pointer (some ⟨b, 0, none⟩), .pointer (some ⟨c, 0, none⟩)] (.panicking [{ v := wrongV x n, recovered := false }]) w fun e u' w' => e = .returned (.tuple #[]) ∧ u' = .panicking [{ v := wrongV x n, recovered := true }] ∧
   w'.heap[a]? = some (.cells #[.int .u8 0, .bool false, .int .i64 0, .int .u64 0, .string ⟨#[]⟩, .slice none 0 0, .slice none 0 0] 27 (0, 0)) ∧ w'.heap[b]? = some (.cells #[.int .i64 x] 31 (0, 0)) ∧ w'.heap[c]? = some (.cells #[.int .i64 (n : Int)] 3 (0, 0)) ∧ Below n0 w w' := by
 obtain ⟨c0, c1, c2, c3, c4, c5, c6⟩ := cell_agg7 ha
 have fa : ∀ j, w.frozen? ⟨a, j, none⟩ = false := fun j => froz_agg ha j
 refine callsD_of_wpS Tryz.func24 rfl fun c₀ cs hu => ?_
 apply wpS_seq
 apply wpS_region
 simp [wpOpsS, go_sem, recoverD, hu, Tryz.ntmps24, Exit.thenS]
 unfold wrongV
 refine wpS_of_wp ?_
 have hta := fun v w => ta_yes v w
 simp only [Array.replicate_succ, Array.replicate_zero, List.push_toArray, List.append_toArray, List.nil_append, List.cons_append, List.setIfInBounds_toArray, List.set_cons_zero, List.set_cons_succ]
 go_upto_region 7 with fail
 have hal : a < w.heap.size := (Array.getElem?_eq_some_iff.1 ha).1
 have hbl : b < w.heap.size := (Array.getElem?_eq_some_iff.1 hb).1
 have hcl : c < w.heap.size := (Array.getElem?_eq_some_iff.1 hc).1
 have nH := heap_alloc_new w (.cells #[.int .i64 x, .int .i64 (n : Int)] 53)
 have ha1 := (heapJ_old w (.cells #[.int .i64 x, .int .i64 (n : Int)] 53) a hal).trans ha
 have hb1 := (heapJ_old w (.cells #[.int .i64 x, .int .i64 (n : Int)] 53) b hbl).trans hb
 have hc1 := (heapJ_old w (.cells #[.int .i64 x, .int .i64 (n : Int)] 53) c hcl).trans hc
 have hB1 : Below n0 w (w.alloc (.cells #[.int .i64 x, .int .i64 (n : Int)] 53)) := (Below.refl _ _).alloc (by omega) _
 generalize w.alloc (.cells #[.int .i64 x, .int .i64 (n : Int)] 53) = w1 at *
 obtain ⟨H, hH⟩ : ∃ H, H = w.heap.size := ⟨_, rfl⟩
 rw [← hH] at hal hbl hcl nH ⊢
 clear hH c0 c1 c2 c3 c4 c5 c6 fa ha hb hc
 have hS : ∀ W : World, W.heap[H]? = w1.heap[H]? → W.cell? ⟨H, 0, none⟩ = some (.int .i64 x) ∧ W.cell? ⟨H, 1, none⟩ = some (.int .i64 (n : Int)) := fun W h => by
  have h2 := h.trans nH
  exact ⟨by rw [cell_of_row _ _ 0 _ _ _ h2]; rfl, by rw [cell_of_row _ _ 1 _ _ _ h2]; rfl⟩
 refine wp_region_held_drew (S := fun w' => w'.cell? ⟨H, 0, none⟩ = some (.int .i64 x) ∧ w'.cell? ⟨H, 1, none⟩ = some (.int .i64 (n : Int))) (by kernel_rfl) (hS _ rfl) (fun hH0 => ?_)
 refine wpAnyH_take (i := 0) (v := .agg #[.int .u8 0, .bool false, .int .i64 0, .int .u64 0, .string ⟨#[]⟩, .slice none 0 0, .slice none 0 0]) rfl (by kernel_rfl) (by kernel_rfl) (by kernel_rfl) (fun _ _ _ h => h) (Or.inl ⟨by rfl, ?_⟩) hH0 ?_
 ·(intro w hSw; (try dsimp only at hSw); obtain ⟨hs0, hs1⟩ := hSw; go_simp; try rfl)
 try simp only [Act.put, List.setIfInBounds_toArray, List.set_cons_zero, List.set_cons_succ, List.getElem_toArray, List.getElem_cons_zero]
 refine wpAnyH_take (i := 1) (v := .pointer (some ⟨H, 0, none⟩)) rfl (by kernel_rfl) (by kernel_rfl) (by kernel_rfl) (fun _ _ _ h => h) (Or.inl ⟨by rfl, ?_⟩) hH0 ?_
 ·(intro w hSw; (try dsimp only at hSw); obtain ⟨hs0, hs1⟩ := hSw; go_simp; try rfl)
 try simp only [Act.put, List.setIfInBounds_toArray, List.set_cons_zero, List.set_cons_succ, List.getElem_toArray, List.getElem_cons_succ, List.getElem_cons_zero]
 refine wpAnyH_take (i := 2) (v := .int .i64 x) rfl (by kernel_rfl) (by kernel_rfl) (by kernel_rfl) (fun _ _ _ h => h) (Or.inl ⟨by rfl, ?_⟩) hH0 ?_
 ·(intro w hSw; (try dsimp only at hSw); obtain ⟨hs0, hs1⟩ := hSw; go_simp; try rfl)
 try simp only [Act.put, List.setIfInBounds_toArray, List.set_cons_zero, List.set_cons_succ, List.getElem_toArray, List.getElem_cons_succ, List.getElem_cons_zero]
 refine wpAnyH_take (i := 3) (v := .pointer (some ⟨H, 1, none⟩)) rfl (by kernel_rfl) (by kernel_rfl) (by kernel_rfl) (fun _ _ _ h => h) (Or.inl ⟨by rfl, ?_⟩) hH0 ?_
 ·(intro w hSw; (try dsimp only at hSw); obtain ⟨hs0, hs1⟩ := hSw; go_simp; try rfl)
 try simp only [Act.put, List.setIfInBounds_toArray, List.set_cons_zero, List.set_cons_succ, List.getElem_toArray, List.getElem_cons_succ, List.getElem_cons_zero]
 refine wpAnyH_take (i := 4) (v := .int .i64 (n : Int)) rfl (by kernel_rfl) (by kernel_rfl) (by kernel_rfl) (fun _ _ _ h => h) (Or.inl ⟨by rfl, ?_⟩) hH0 ?_
 ·(intro w hSw; (try dsimp only at hSw); obtain ⟨hs0, hs1⟩ := hSw; go_simp; try rfl)
 try simp only [Act.put, List.setIfInBounds_toArray, List.set_cons_zero, List.set_cons_succ, List.getElem_toArray, List.getElem_cons_succ, List.getElem_cons_zero]
 have ha2 : w1.drew.heap[a]? = _ := ha1
 have hb2 : w1.drew.heap[b]? = _ := hb1
 have hc2 : w1.drew.heap[c]? = _ := hc1
 have hB2 : Below n0 w w1.drew := hB1.drew
 have hS2 : ∀ W : World, W.heap[H]? = w1.drew.heap[H]? → _ := hS
 generalize w1.drew = w2 at *
 refine wpAnyH_ready (rs := [5]) (by kernel_rfl) (by simp) ?_
 refine AllReadyH.cons rfl (fun K hK => ?_) AllReadyH.nil
 obtain ⟨c0, c1, c2, c3, c4, c5, c6⟩ := cell_agg7 ha2
 have fa : ∀ j, w2.frozen? ⟨a, j, none⟩ = false := fun j => froz_agg ha2 j
 go_simp
 have ha3 := seven_set ha2 (.int .u8 0) (.bool false) (.int .i64 0) (.int .u64 0) (.string ⟨#[]⟩) (.slice none 0 0) (.slice none 0 0)
 have hk3 : ∀ j, j ≠ a → (set7 w2 a (.int .u8 0) (.bool false) (.int .i64 0) (.int .u64 0) (.string ⟨#[]⟩) (.slice none 0 0) (.slice none 0 0)).heap[j]? = w2.heap[j]? := fun j hj => set7_block hj ..
 have hB3 : Below n0 w (set7 w2 a (.int .u8 0) (.bool false) (.int .i64 0) (.int .u64 0) (.string ⟨#[]⟩) (.slice none 0 0) (.slice none 0 0)) := ((((((hB2.setCell (p := ⟨a, 0, none⟩) h0 _).setCell (p := ⟨a, 1, none⟩) h0 _).setCell (p := ⟨a, 2, none⟩) h0 _).setCell (p := ⟨a, 3, none⟩) h0 _).setCell (p := ⟨a, 4, none⟩) h0 _).setCell (p := ⟨a, 5, none⟩) h0 _).setCell (p := ⟨a, 6, none⟩) h0 _
 unfold set7 at hk3 hB3
 generalize ((((((w2.setCell ⟨a, 0, none⟩ (.int .u8 0)).setCell ⟨a, 1, none⟩ (.bool false)).setCell ⟨a, 2, none⟩ (.int .i64 0)).setCell ⟨a, 3, none⟩ (.int .u64 0)).setCell ⟨a, 4, none⟩ (.string ⟨#[]⟩)).setCell ⟨a, 5, none⟩ (.slice none 0 0)).setCell ⟨a, 6, none⟩ (.slice none 0 0) = w3 at *
 have hb3 := (hk3 b (fun h => hab h.symm)).trans hb2
 have hc3 := (hk3 c (fun h => hac h.symm)).trans hc2
 have hS3 : ∀ W : World, W.heap[H]? = w3.heap[H]? → _ := fun W h => hS2 W (h.trans (hk3 H (by omega)))
 refine hK.out _ _ (hS3 _ rfl) (fun hHx => ?_)
 clear hK K c0 c1 c2 c3 c4 c5 c6 fa ha2 hb2 hc2 hB2 hk3 hS2
 try simp only [Act.put, List.setIfInBounds_toArray, List.set_cons_zero, List.set_cons_succ, List.getElem_toArray, List.getElem_cons_succ, List.getElem_cons_zero]
 refine wpAnyH_ready (rs := [6]) (by kernel_rfl) (by simp) ?_
 refine AllReadyH.cons rfl (fun K hK => ?_) AllReadyH.nil
 have cb : w3.cell? ⟨b, 0, none⟩ = some y := by rw [cell_of_row _ _ 0 _ _ _ hb3]; rfl
 have fb := froz_agg hb3 0
 go_simp
 have hb4 := setCellJ (j := 0) hb3 (.int .i64 x)
 have hk4 : ∀ j, j ≠ b → (w3.setCell ⟨b, 0, none⟩ (.int .i64 x)).heap[j]? = w3.heap[j]? := fun j hj => Below.heap_setCell _ _ _ _ hj
 have hB4 := hB3.setCell (p := ⟨b, 0, none⟩) h1 (.int .i64 x)
 generalize w3.setCell ⟨b, 0, none⟩ (.int .i64 x) = w4 at *
 have ha4 := (hk4 a hab).trans ha3
 have hc4 := (hk4 c (fun h => hbc h.symm)).trans hc3
 have hS4 : ∀ W : World, W.heap[H]? = w4.heap[H]? → _ := fun W h => hS3 W (h.trans (hk4 H (by omega)))
 refine hK.out _ _ (hS4 _ rfl) (fun hHx => ?_)
 clear hK K cb fb hb3 hk4 hB3 hS3 ha3 hc3
 try simp only [Act.put, List.setIfInBounds_toArray, List.set_cons_zero, List.set_cons_succ, List.getElem_toArray, List.getElem_cons_succ, List.getElem_cons_zero]
 refine wpAnyH_ready (rs := [7]) (by kernel_rfl) (by simp) ?_
 refine AllReadyH.cons rfl (fun K hK => ?_) AllReadyH.nil
 have cc : w4.cell? ⟨c, 0, none⟩ = some z := by rw [cell_of_row _ _ 0 _ _ _ hc4]; rfl
 have fc := froz_agg hc4 0
 go_simp
 have hc5 := setCellJ (j := 0) hc4 (.int .i64 (n : Int))
 have hk5 : ∀ j, j ≠ c → (w4.setCell ⟨c, 0, none⟩ (.int .i64 (n : Int))).heap[j]? = w4.heap[j]? := fun j hj => Below.heap_setCell _ _ _ _ hj
 have hB5 := hB4.setCell (p := ⟨c, 0, none⟩) h2 (.int .i64 (n : Int))
 generalize w4.setCell ⟨c, 0, none⟩ (.int .i64 (n : Int)) = w5 at *
 have ha5 := (hk5 a hac).trans ha4
 have hb5 := (hk5 b hbc).trans hb4
 have hS5 : ∀ W : World, W.heap[H]? = w5.heap[H]? → _ := fun W h => hS4 W (h.trans (hk5 H (by omega)))
 refine hK.out _ _ (hS5 _ rfl) (fun hHx => ?_)
 clear hK K cc fc hc4 hk5 hB4 hS4 ha4 hb4
 try simp only [Act.put, List.setIfInBounds_toArray, List.set_cons_zero, List.set_cons_succ, List.getElem_toArray, List.getElem_cons_succ, List.getElem_cons_zero]
 refine wpAnyH_done (by kernel_rfl) ?_ _
 have hb6 : w5.heap[b]? = some (.cells #[.int .i64 x] 31 (0, 0)) := by simpa using hb5
 have hc6 : w5.heap[c]? = some (.cells #[.int .i64 (n : Int)] 3 (0, 0)) := by simpa using hc5
 clear hb5 hc5 hS5 hHx hH0 hS ha1 hb1 hc1 nH hta hB1
 simp (config := { zetaDelta := true }) only [Exit.inBlock, bodyPostS]
 refine ⟨trivial, _, rfl, .tuple #[], by simp [results, Tryz.results24], rfl, rfl, ha5, hb6, hc6, hB5⟩
end Go.Proofs.YtckaoeloofbklaaGreatDoor
