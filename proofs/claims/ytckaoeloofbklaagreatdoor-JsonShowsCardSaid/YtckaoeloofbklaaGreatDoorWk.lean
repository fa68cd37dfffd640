/- Joined texts: Om Jg Jb Jh Ji Jk. Each begins with its own remark. -/
import Derived.Test.YtckaoeloofbklaaGreatDoorWe
import Derived.Test.YtckaoeloofbklaaGreatDoorWj
import Derived.Test.YtckaoeloofbklaaGreatDoorWShelf
import Derived.Test.YtckaoeloofbklaaGreatDoorWd
import Derived.Test.YtckaoeloofbklaaGreatDoorWh
import Derived.Test.YtckaoeloofbklaaGreatDoorWg
import Derived.Deep.LoopGhost
import Derived.Test.YtckaoeloofbklaaGreatDoorWi
import Derived.Lib.ConvBytes
import Derived.Lib.AtoiErrMem
import Derived.Test.YtckaoeloofbklaaGreatDoorWc
import Derived.Maps.OwnSet
import Derived.Maps.Views
set_option maxRecDepth 100000
set_option maxHeartbeats 8000000
namespace Go.Proofs.YtckaoeloofbklaaGreatDoor
open Go Go.RowKit Go.Lib
theorem ent_same : ∀ args w, (callFunc 14 args).run Tryz.prog w = .ok (.enter 14 args) w := enters_of Tryz.func14 (by kernel_rfl) rfl
theorem strs_eq (ok ok' : Nat → Prop) (ka ka' : Option Addr) (kc kc' : Nat) (ks ks' : List ByteArray) (w : World) (h : StrsAt ok w ka ks) (h' : StrsAt ok' w ka' ks') (hn : ks.length ≤ 35184372080000) (hn' : ks'.length ≤ 35184372080000) :
  Calls Tryz.prog 29 #[.slice ka ks.length kc, .slice ka' ks'.length kc'] w fun e w' => e = .returned (.bool (decide (ks = ks'))) ∧ Below w.heap.size w w' := by
 by_cases hl : ks.length = ks'.length
 ·rcases h with rfl | ⟨b, off, rfl, -, -, hc⟩
  ·refine (Tryz.slices_Equal_string_empty ka ka' kc ks'.length kc' w (by omega)).mono ?_
   rintro e w' ⟨rfl, rfl⟩
   refine ⟨rboolS ?_, Below.refl _ _⟩
   rw [Bool.eq_iff_iff, decide_eq_true_iff, decide_eq_true_iff]
   exact ⟨fun h => (List.length_eq_zero_iff.1 h).symm, fun h => by rw [← h]; rfl⟩
  ·rcases h' with rfl | ⟨b', off', rfl, -, -, hc'⟩
   ·have hk0 : ks.length = 0 := hl
    have hk1 := List.length_eq_zero_iff.1 hk0
    subst hk1
    refine (Tryz.slices_Equal_string_empty (some ⟨b, off, none⟩) ka' kc 0 kc' w (by omega)).mono ?_
    rintro e w' ⟨rfl, rfl⟩
    exact ⟨rboolS rfl, Below.refl _ _⟩
   ·have hget : ∀ (l : List ByteArray) (j : Nat), j < l.length → l[j]? = some (l.getD j ByteArray.empty) := fun l j hj => by rw [List.getD_eq_getElem?_getD, List.getElem?_eq_getElem hj]; rfl
    refine (Tryz.slices_Equal_string b off ks.length kc b' off' ks'.length kc' ks ks' w (Nat.le_refl _) (Nat.le_refl _) (by omega) (by omega) (fun j hj => hc j _ (hget ks j hj)) (fun j hj => hc' j _ (hget ks' j hj))).mono ?_
    rintro e w' ⟨rfl, q, rfl⟩
    rw [List.take_length, List.take_length]
    exact ⟨rfl, bDrewS (Below.refl _ _) q⟩
 ·refine (Tryz.slices_Equal_string_lens ka ka' ks.length kc ks'.length kc' w hl).mono ?_
  rintro e w' ⟨rfl, rfl⟩
  exact ⟨rboolS (decide_eq_false fun e => hl (by rw [e])).symm, Below.refl _ _⟩
theorem its_kept {vs : List JV} {a : Option Addr} {ok : Nat → Prop} {w W : World} (h : (vs = [] ∨ ∃ q off, a = some ⟨q, off, none⟩ ∧ ok q ∧ q < w.heap.size ∧ ItAt ok w q off vs)) (hW : Below w.heap.size w W) : vs = [] ∨ ∃ q off, a = some ⟨q, off, none⟩ ∧ (fun _ : Nat => True) q ∧ q < W.heap.size ∧ ItAt (fun _ => True) W q off vs := by
 rcases h with h | ⟨q, off, h1, h2, h3, h4⟩
 ·exact .inl h
 ·exact .inr ⟨q, off, h1, trivial, Nat.lt_of_lt_of_le h3 hW.size, ItAt.kept (fun i _ hi => ⟨hW.block i hi, trivial⟩) (hW.block q h3) vs h4⟩
def JSameOk (x : JV) : Prop := ∀ (y : JV) (ok ok' : Nat → Prop) (V V' : Value) (w : World), JAt ok w x V → JAt ok' w y V' →
 Calls Tryz.prog 14 #[V, V'] w fun e w' => e = .returned (.bool (JV.same x y)) ∧ Below w.heap.size w w'
theorem eqf_any (vs vs' : List JV) (ih : ∀ x ∈ vs, JSameOk x) (ok ok' : Nat → Prop) (a a' : Option Addr) (c c' : Nat) (w : World) (hvs : (vs = [] ∨ ∃ q off, a = some ⟨q, off, none⟩ ∧ ok q ∧ q < w.heap.size ∧ ItAt ok w q off vs)) (hvs' : (vs' = [] ∨ ∃ q off, a' = some ⟨q, off, none⟩ ∧ ok' q ∧ q < w.heap.size ∧ ItAt ok' w q off vs')) (hn : vs.length ≤ 35184372080000) (hn' : vs'.length ≤ 35184372080000) :
  Calls Tryz.prog 30 #[.slice a vs.length c, .slice a' vs'.length c', .func (.func 14) #[] #[]] w fun e w' => e = .returned (.bool (JV.sameL vs vs')) ∧ Below w.heap.size w w' := by
 have HVS := Lib.hid hvs
 have HVS' := Lib.hid hvs'
 have HIH := Lib.hid ih
 clear hvs hvs' ih
 by_cases hl : vs.length = vs'.length
 ·have HVL := Lib.hid hl
  have f1 : ((vs.length : Int) == (vs'.length : Int)) = true := by rw [beq_iff_eq]; omega
  have f2 : ((vs.length : Int) != (vs'.length : Int)) = false := by rw [bne, f1]; rfl
  have f3 : (vs.length : Int) = (vs'.length : Int) := by omega
  clear hl
  go_enter Tryz.func30, Tryz.ntmps30
  go_wp2_with fail
  clear f1 f2 f3
  go_loopg [7, 8, 9, 17] vs.length (fun g _ _ _ s17 wr => ∃ i : Nat, i + g = vs.length ∧ s17 = .int .i64 i ∧ JV.sameL (vs.take i) (vs'.take i) = true ∧ Below w.heap.size w wr)
  case atStart => exact ⟨0, by omega, rfl, by rw [List.take_zero, List.take_zero, JV.sameL], Below.refl _ _⟩
  case round =>
   obtain ⟨i, hi, rfl, hsm, hbt⟩ := hrel
   have HS := Lib.hid hsm
   clear hsm
   by_cases hlt : i < vs.length
   ·have hlt2 : i < vs'.length := by have := HVL.out; omega
    have hlt3 : (i : Int) < (vs.length : Int) := by omega
    have hlt4 : (i : Int) < (vs'.length : Int) := by omega
    obtain ⟨x, hx⟩ : ∃ x, vs[i]? = some x := ⟨_, List.getElem?_eq_getElem hlt⟩
    obtain ⟨y, hy⟩ : ∃ y, vs'[i]? = some y := ⟨_, List.getElem?_eq_getElem hlt2⟩
    obtain ⟨q, off, ha, -, hqw, hit⟩ := HVS.out.resolve_left (by rintro rfl; simp at hlt)
    obtain ⟨q', off', ha', -, hqw', hit'⟩ := HVS'.out.resolve_left (by rintro rfl; simp at hlt2)
    obtain ⟨W1, h7, hja⟩ := hit.get hx
    obtain ⟨W2, h7', hja'⟩ := hit'.get hy
    obtain ⟨xk, xb, xn, xu, xs, xa, xm, xc, xa2, xm2, xc2, rfl, d0, d1, d2, d3, d4, d5, d6⟩ := it_cells h7 hja
    obtain ⟨yk, yb, yn, yu, ys, ya, ym, yc, ya2, ym2, yc2, rfl, g0, g1, g2, g3, g4, g5, g6⟩ := it_cells h7' hja'
    have hn1 := heap_alloc_new wr (.cells #[.int .u8 xk, .bool xb, .int .i64 xn, .int .u64 xu, .string xs, .slice xa xm xc, .slice xa2 xm2 xc2] 27)
    have hs1 : (wr.alloc (.cells #[.int .u8 xk, .bool xb, .int .i64 xn, .int .u64 xu, .string xs, .slice xa xm xc, .slice xa2 xm2 xc2] 27)).heap.size = wr.heap.size + 1 := by simp
    have hb1 : Below w.heap.size w (wr.alloc (.cells #[.int .u8 xk, .bool xb, .int .i64 xn, .int .u64 xu, .string xs, .slice xa xm xc, .slice xa2 xm2 xc2] 27)) := hbt.alloc hbt.size _
    have hkq : ∀ i : Nat, wr.cell? ⟨q, i, none⟩ = w.cell? ⟨q, i, none⟩ := fun i => hbt.cell (p := ⟨q, i, none⟩) hqw
    have hkq' : ∀ i : Nat, (wr.alloc (.cells #[.int .u8 xk, .bool xb, .int .i64 xn, .int .u64 xu, .string xs, .slice xa xm xc, .slice xa2 xm2 xc2] 27)).cell? ⟨q', i, none⟩ = w.cell? ⟨q', i, none⟩ := fun i => hb1.cell (p := ⟨q', i, none⟩) hqw'
    rw [← hkq, Nat.mul_comm 7 i] at d0 d1 d2 d3 d4 d5 d6
    rw [← hkq', Nat.mul_comm 7 i] at g0 g1 g2 g3 g4 g5 g6
    have htk : vs.take (i + 1) = vs.take i ++ [x] := by rw [List.take_add_one, hx]; rfl
    have htk' : vs'.take (i + 1) = vs'.take i ++ [y] := by rw [List.take_add_one, hy]; rfl
    have hsn := sameL_snoc (a := vs.take i) (b := vs'.take i) x y (by rw [List.length_take, List.length_take]; omega)
    rw [← htk, ← htk', HS.out, Bool.true_and] at hsn
    have HSN := Lib.hid hsn
    have HNO := Lib.hid (fun h => sameL_no hx hy h)
    have HCL := Lib.hid (fun (W : World) (hW : Below w.heap.size w W) => HIH.out x (List.mem_of_getElem? hx) y (fun _ => True) (fun _ => True) _ _ W (hja.kept (fun j _ hj => ⟨hW.block j hj, trivial⟩)) (hja'.kept (fun j _ hj => ⟨hW.block j hj, trivial⟩)))
    have HB1 := Lib.hid hb1
    have HN1 := Lib.hid hn1
    subst ha ha'
    clear hit hit' h7 h7' hja hja' hkq hkq' HVS HVS' hx hy htk htk' hsn hb1 hn1 hbt
    generalize JV.same x y = z at *
    go_upto_region 6 with fail
    generalize wr.alloc (.cells #[.int .u8 xk, .bool xb, .int .i64 xn, .int .u64 xu, .string xs, .slice xa xm xc, .slice xa2 xm2 xc2] 27) = W1 at *
    clear d0 d1 d2 d3 d4 d5 d6
    have hn2 := heap_alloc_new W1 (.cells #[.int .u8 yk, .bool yb, .int .i64 yn, .int .u64 yu, .string ys, .slice ya ym yc, .slice ya2 ym2 yc2] 27)
    have hb2 := HB1.out.alloc HB1.out.size (.cells #[.int .u8 yk, .bool yb, .int .i64 yn, .int .u64 yu, .string ys, .slice ya ym yc, .slice ya2 ym2 yc2] 27)
    have hx2 := (heapJ_old W1 (.cells #[.int .u8 yk, .bool yb, .int .i64 yn, .int .u64 yu, .string ys, .slice ya ym yc, .slice ya2 ym2 yc2] 27) wr.heap.size (by omega)).trans HN1.out
    have HB2 := Lib.hid hb2
    rw [hs1] at hn2
    have HN2 := Lib.hid hn2
    have HX2 := Lib.hid hx2
    clear hn2 hx2 hb2
    go_upto_region 7 with fail
    generalize W1.alloc (.cells #[.int .u8 yk, .bool yb, .int .i64 yn, .int .u64 yu, .string ys, .slice ya ym yc, .slice ya2 ym2 yc2] 27) = W2 at *
    clear g0 g1 g2 g3 g4 g5 g6
    obtain ⟨d0, d1, d2, d3, d4, d5, d6⟩ := cell_agg7 HX2.out
    obtain ⟨g0, g1, g2, g3, g4, g5, g6⟩ := cell_agg7 HN2.out
    have HC := Lib.hid (HCL.out W2 HB2.out)
    clear HCL
    have hent := ent_same
    go_wp2_with fail
    refine HC.out.mono ?_
    rintro e w3 ⟨rfl, hb3⟩
    have HB3 := Lib.hid (HB2.out.trans (hb3.mono HB2.out.size))
    clear hb3 HC d0 d1 d2 d3 d4 d5 d6 g0 g1 g2 g3 g4 g5 g6
    cases z with
    | false =>
     go_wp2_with fail
     go_ret
     exact ⟨rboolS (HNO.out trivial).symm, HB3.out⟩
    | true =>
     go_wp2_with fail
     go_roundg (gk - 1)
     case measure => omega
     case rel => exact ⟨i + 1, by omega, by go_num, HSN.out, HB3.out⟩
   ·obtain rfl : i = vs.length := by omega
    have hnl : ¬ (vs.length : Int) < (vs.length : Int) := by omega
    have hnl2 : ¬ (vs.length : Int) < (vs'.length : Int) := by have := HVL.out; omega
    have HBT := Lib.hid hbt
    clear hbt
    go_wp2_with fail
    go_ret
    refine ⟨rboolS ?_, HBT.out⟩
    have h1 := HS.out
    rw [List.take_length, HVL.out, List.take_length] at h1
    exact h1.symm
 ·have HVL := Lib.hid hl
  have f1 : ((vs.length : Int) == (vs'.length : Int)) = false := by rw [beq_eq_false_iff_ne]; omega
  have f2 : ((vs.length : Int) != (vs'.length : Int)) = true := by rw [bne, f1]; rfl
  have f3 : ¬ (vs.length : Int) = (vs'.length : Int) := by omega
  clear hl
  go_enter Tryz.func30, Tryz.ntmps30
  go_wp2_with fail
  go_ret
  exact ⟨rboolS (sameL_len HVL.out).symm, Below.refl _ _⟩
theorem jsame_one (k : Int) (b : Bool) (n u : Int) (s : ByteArray) (ks : List ByteArray) (vs : List JV) (ih : ∀ x ∈ vs, JSameOk x) : JSameOk (.mk k b n u s ks vs) := by
 intro y ok ok' V V' w hj hj'
 obtain ⟨k', b', n', u', s', ks', vs'⟩ := y
 rw [JAt] at hj hj'
 obtain ⟨ka, kc, a, c, rfl, hks, hvs, hkn, hvn⟩ := hj
 obtain ⟨ka', kc', a', c', rfl, hks', hvs', hkn', hvn'⟩ := hj'
 have hx1 := heap_alloc_new w (.cells #[.int .u8 k, .bool b, .int .i64 n, .int .u64 u, .string s, .slice ka ks.length kc, .slice a vs.length c] 27)
 have hs1 : (w.alloc (.cells #[.int .u8 k, .bool b, .int .i64 n, .int .u64 u, .string s, .slice ka ks.length kc, .slice a vs.length c] 27)).heap.size = w.heap.size + 1 := by simp
 have hx2 := (Below.heap_alloc (w.alloc (.cells #[.int .u8 k, .bool b, .int .i64 n, .int .u64 u, .string s, .slice ka ks.length kc, .slice a vs.length c] 27)) (.cells #[.int .u8 k', .bool b', .int .i64 n', .int .u64 u', .string s', .slice ka' ks'.length kc', .slice a' vs'.length c'] 27) w.heap.size (by omega)).trans hx1
 have hy2 := heap_alloc_new (w.alloc (.cells #[.int .u8 k, .bool b, .int .i64 n, .int .u64 u, .string s, .slice ka ks.length kc, .slice a vs.length c] 27)) (.cells #[.int .u8 k', .bool b', .int .i64 n', .int .u64 u', .string s', .slice ka' ks'.length kc', .slice a' vs'.length c'] 27)
 rw [hs1] at hy2
 have hbA : Below w.heap.size w ((w.alloc (.cells #[.int .u8 k, .bool b, .int .i64 n, .int .u64 u, .string s, .slice ka ks.length kc, .slice a vs.length c] 27)).alloc (.cells #[.int .u8 k', .bool b', .int .i64 n', .int .u64 u', .string s', .slice ka' ks'.length kc', .slice a' vs'.length c'] 27)) := ((Below.refl _ _).alloc (Nat.le_refl _) _).alloc (by omega) _
 have hlx := (Array.getElem?_eq_some_iff.1 hx2).1
 have hly := (Array.getElem?_eq_some_iff.1 hy2).1
 obtain ⟨c0, c1, c2, c3, c4, c5, c6⟩ := cell_agg7 hx2
 obtain ⟨e0, e1, e2, e3, e4, e5, e6⟩ := cell_agg7 hy2
 have HX := Lib.hid hx2
 have HY := Lib.hid hy2
 have HBA := Lib.hid hbA
 have H29 := Lib.hid (strs_eq (fun _ => True) (fun _ => True) ka ka' kc kc' ks ks' _ (hks.kept (fun i _ hi => ⟨hbA.block i hi, trivial⟩)) (hks'.kept (fun i _ hi => ⟨hbA.block i hi, trivial⟩)) hkn hkn')
 have H30 := Lib.hid (fun (W : World) (hW : Below w.heap.size w W) => eqf_any vs vs' ih (fun _ => True) (fun _ => True) a a' c c' W (its_kept hvs hW) (its_kept hvs' hW) hvn hvn')
 obtain ⟨F, hF⟩ : ∃ F, F = JV.same (.mk k b n u s ks vs) (.mk k' b' n' u' s' ks' vs') := ⟨_, rfl⟩
 rw [← hF]
 rw [JV.same] at hF
 have HF := Lib.hid hF
 clear hx1 hx2 hy2 hbA hks hks' hvs hvs' ih hs1 hF hkn hkn' hvn hvn'
 go_enter Tryz.func14, Tryz.ntmps14
 go_upto_region 1 with fail
 generalize (w.alloc (.cells #[.int .u8 k, .bool b, .int .i64 n, .int .u64 u, .string s, .slice ka ks.length kc, .slice a vs.length c] 27)).alloc (.cells #[.int .u8 k', .bool b', .int .i64 n', .int .u64 u', .string s', .slice ka' ks'.length kc', .slice a' vs'.length c'] 27) = wA at *
 by_cases q1 : k = k'
 ·subst q1
  obtain ⟨E, hE⟩ : ∃ E, E = decide (b = b' ∧ n = n' ∧ u = u' ∧ s = s') := ⟨_, rfl⟩
  have hre : ∀ W, (binOp .eql 63 (.agg #[.bool b, .int .i64 n, .int .u64 u, .string s]) (.agg #[.bool b', .int .i64 n', .int .u64 u', .string s'])).run Tryz.prog W = .ok (.bool E) W := fun W => by rw [rest_eql, hE]
  have heg : Tryz.prog.eqGuardType Tryz.prog.depth 63 = false := by kernel_rfl
  have HE := Lib.hid hE
  clear hE
  cases E with
  | false =>
   go_wp2_with fail
   go_ret
   refine ⟨rboolS ?_, HBA.out⟩
   have he := of_decide_eq_false HE.out.symm
   rw [HF.out, decide_eq_false (fun h => he ⟨h.2.1, h.2.2.1, h.2.2.2.1, h.2.2.2.2.1⟩)]
   rfl
  | true =>
   go_wp2_with fail
   refine H29.out.mono ?_
   rintro e w1 ⟨rfl, hb1⟩
   have hx1 := (hb1.block _ hlx).trans HX.out
   have hy1 := (hb1.block _ hly).trans HY.out
   clear c0 c1 c2 c3 c4 c5 c6 e0 e1 e2 e3 e4 e5 e6
   obtain ⟨c0, c1, c2, c3, c4, c5, c6⟩ := cell_agg7 hx1
   obtain ⟨e0, e1, e2, e3, e4, e5, e6⟩ := cell_agg7 hy1
   have hbt := HBA.out.trans (hb1.mono HBA.out.size)
   have HC := Lib.hid (H30.out w1 hbt)
   have HB1 := Lib.hid hbt
   clear hb1 hx1 hy1 HX HY H29 H30 HBA hlx hly hbt
   by_cases q0 : ks = ks'
   ·have hd0 : decide (ks = ks') = true := decide_eq_true q0
    simp only [hd0]
    clear hd0
    have Q0 := Lib.hid q0
    clear q0
    go_wp2_with fail
    refine HC.out.mono ?_
    rintro e w2 ⟨rfl, hb2⟩
    have HB2 := Lib.hid (HB1.out.trans (hb2.mono HB1.out.size))
    clear hb2 HC c0 c1 c2 c3 c4 c5 c6 e0 e1 e2 e3 e4 e5 e6
    generalize JV.sameL vs vs' = z at *
    go_wp2_with fail
    go_ret
    refine ⟨rboolS ?_, HB2.out⟩
    have he := of_decide_eq_true HE.out.symm
    rw [HF.out, decide_eq_true ⟨trivial, he.1, he.2.1, he.2.2.1, he.2.2.2, Q0.out⟩, Bool.true_and]
   ·have hd0 : decide (ks = ks') = false := decide_eq_false q0
    simp only [hd0]
    clear hd0
    have Q0 := Lib.hid q0
    clear q0
    go_wp2_with fail
    go_ret
    exact ⟨rboolS (by rw [HF.out, decide_eq_false (fun h => Q0.out h.2.2.2.2.2)]; rfl), HB1.out⟩
 ·have Q1 := Lib.hid q1
  have f1 : (k == k') = false := beq_eq_false_iff_ne.2 q1
  go_wp2_with fail
  go_ret
  exact ⟨rboolS (by rw [HF.out, decide_eq_false (fun h => Q1.out h.1)]; rfl), HBA.out⟩
theorem jsame_any : ∀ x, JSameOk x := JV.ind fun k b n u s ks vs ih => jsame_one k b n u s ks vs ih
end Go.Proofs.YtckaoeloofbklaaGreatDoor
namespace Go.Proofs.YtckaoeloofbklaaGreatDoor
open Go Go.RowKit Go.Sort Go.Lib
theorem hex_low : ∀ c : Fin 256, ∀ v, hexV (UInt8.ofNat c.val) = some v → (48 ≤ c.val ∧ c.val ≤ 57 ∧ v = c.val - 48) ∨ (57 < c.val ∧ v < 16 ∧ bits .or .u8 ((c.val : Nat) : Int) 32 = ((v + 87 : Nat) : Int) ∧ 10 ≤ v) := by decide +kernel
theorem hex_case (c : UInt8) (v : Nat) (h : hexV c = some v) : v < 16 ∧ ((48 ≤ c.toNat ∧ c.toNat ≤ 57 ∧ v = c.toNat - 48) ∨ (57 < c.toNat ∧ bits .or .u8 (c.toNat : Int) 32 = ((v + 87 : Nat) : Int) ∧ 10 ≤ v)) := by
 have := hex_low ⟨c.toNat, c.toNat_lt⟩ v (by simpa only [UInt8.ofNat_toNat] using h)
 rcases this with h | ⟨h1, h2, h3, h4⟩
 ·exact ⟨by omega, .inl h⟩
 ·exact ⟨h2, .inr ⟨h1, h3, h4⟩⟩
def hxl (l : List UInt8) : Nat := l.foldl (fun a c => a * 16 + (hexV c).getD 0) 0
theorem hxl_snoc (l : List UInt8) (c : UInt8) : hxl (l ++ [c]) = hxl l * 16 + (hexV c).getD 0 := by unfold hxl; rw [List.foldl_append]; rfl
theorem hxl_lt : ∀ l : List UInt8, (∀ c ∈ l, ∃ v, hexV c = some v) → hxl l < 16 ^ l.length := by
 refine snoc_ind (by simp [hxl]) fun l c ih h => ?_
 obtain ⟨v, hv⟩ := h c (by simp)
 have h1 := ih fun x hx => h x (by simp [hx])
 have h2 := (hex_case c v hv).1
 rw [hxl_snoc, hv, List.length_append, List.length_singleton, Nat.pow_succ]
 simp only [Option.getD_some]
 omega
theorem hxl_take (s : ByteArray) (k : Nat) (h : k < s.size) : hxl (s.data.toList.take (k + 1)) = hxl (s.data.toList.take k) * 16 + (hexV s[k]).getD 0 := by
 have hl : k < s.data.toList.length := by simpa using h
 rw [List.take_succ_eq_append_getElem hl, hxl_snoc]
 rfl
theorem hxl_tlt (s : ByteArray) (hb : ∀ i (h : i < s.size), ∃ v, hexV s[i] = some v) (k : Nat) (hk : k ≤ s.size) : hxl (s.data.toList.take k) < 16 ^ k := by
 have h1 := hxl_lt (s.data.toList.take k) (fun x hx => by
  obtain ⟨i, hi, rfl⟩ := List.getElem_of_mem (List.mem_of_mem_take hx)
  have hi2 : i < s.size := by simpa using hi
  exact hb i hi2)
 have h2 : (s.data.toList.take k).length = k := by
  rw [List.length_take]
  have : s.data.toList.length = s.size := by simp
  omega
 rwa [h2] at h1
theorem puint_16 (s : ByteArray) (w : World) (h1 : 1 ≤ s.size) (h8 : s.size ≤ 4) (hb : ∀ i (h : i < s.size), ∃ v, hexV s[i] = some v) :
   Calls Tryz.prog 154 #[.string s, .int .i64 16, .int .i64 16] w fun e w' => e = .returned (.tuple #[.int .u64 (hxl s.data.toList : Nat), .nilIface]) ∧ Below w.heap.size w w' := by
 have hlen : s.data.toList.length = s.size := by simp
 have hn : s.toList.isEmpty = false := by
   rw [ByteArray.toList_eq]
   cases h : s.data.toList with
   | nil => rw [h] at hlen; simp at hlen; omega
   | cons x t => rfl
 have hcv := Go.Lib.run_convert_string_bytes (P := Tryz.prog) w 9 28 5 s Tryz.underlying9 Tryz.underlying28 Tryz.underlying5
 have hcell : ∀ j (h : j < s.size), (bytesWorld w 5 s).cell? ⟨w.heap.size, j, none⟩ = some (.int .u8 (s[j].toNat : Int)) := fun j h => by
   rw [bytesWorld_cell w _ s j h, List.getD_eq_getElem?_getD, List.getElem?_eq_getElem (by rw [hlen]; exact h)]
   rfl
 have HB := Lib.hid hb
 have HCELL := Lib.hid hcell
 have HBW := Lib.hid (bytesWorld_below w 5 s)
 have HLT := Lib.hid (fun k hk => hxl_tlt s hb k hk)
 have HLOW := Lib.hid (fun (c : Int) (W : World) => Tryz.internal_strconv_lower c W)
 generalize bytesWorld w 5 s = w2 at *
 clear hb hcell hlen
 go_enter Tryz.func154, Tryz.ntmps154
 go_wp2_with fail
 clear hcv
 go_loopg [12, 13, 101] s.size (fun g s12 s13 s101 wr => ∃ (k : Nat), k + g = s.size ∧ s12 = .bool false ∧ s13 = .int .u64 (hxl (s.data.toList.take k) : Nat) ∧ s101 = .int .i64 k ∧ wr = w2)
 case atStart => exact ⟨0, by omega, rfl, rfl, rfl, rfl⟩
 case round =>
   obtain ⟨k, hkg, rfl, rfl, rfl, rfl⟩ := hrel
   by_cases hlt : k < s.size
   · have hc := HCELL.out k hlt
     obtain ⟨v, hv⟩ := HB.out k hlt
     obtain ⟨hv16, hcase⟩ := hex_case _ v hv
     have hn1 := HLT.out k (by omega)
     have hn2 := HLT.out (k + 1) (by omega)
     have HS := Lib.hid (hxl_take s k hlt)
     have h4096 : hxl (s.data.toList.take k) < 4096 := Nat.lt_of_lt_of_le hn1 (Nat.pow_le_pow_right (by decide) (show k ≤ 3 by omega))
     have h65 : hxl (s.data.toList.take (k + 1)) < 65536 := Nat.lt_of_lt_of_le hn2 (Nat.pow_le_pow_right (by decide) (show k + 1 ≤ 4 by omega))
     clear hn1 hn2
     obtain ⟨m, hme⟩ : ∃ m, hxl (s.data.toList.take (k + 1)) = m := ⟨_, rfl⟩
     rw [hme, hv] at HS
     rw [hme] at h65
     have HME := Lib.hid hme
     clear hme
     generalize hxl (s.data.toList.take k) = n at *
     have hm : m = n * 16 + v := HS.out
     have hc8 := s[k].toNat_lt
     have t95 : ((s[k].toNat : Int) == 95) = false := by
       rw [beq_eq_false_iff_ne]; intro e
       have e2 : s[k] = 95 := UInt8.toNat_inj.1 (by have : s[k].toNat = 95 := by omega
                                                    rw [this]; rfl)
       rw [e2] at hv; revert hv; simp [hexV]
     have htc : decide ((1152921504606846976 : Int) ≤ (n : Int)) = false := by rw [decide_eq_false_iff_not]; omega
     have htc2 : decide (1152921504606846976 ≤ n) = false := by rw [decide_eq_false_iff_not]; omega
     have hw1 : IntKind.u64.wrap ((n : Int) * 16) = (n : Int) * 16 := by rw [IntKind.wrap_u64]; omega
     have hw3 : decide ((m : Int) < (n : Int) * 16) = false := by rw [decide_eq_false_iff_not]; omega
     have hw4 : decide ((65535 : Int) < (m : Int)) = false := by rw [decide_eq_false_iff_not]; omega
     have hw5 : decide (65535 < m) = false := by rw [decide_eq_false_iff_not]; omega
     rcases hcase with ⟨hd1, hd2, hd3⟩ | ⟨hd1, hd2, hd3⟩
     · have hd1' : (48 : Int) ≤ (s[k].toNat : Int) := by omega
       have hd2' : (s[k].toNat : Int) ≤ 57 := by omega
       have hlt2 : decide ((16 : Int) ≤ (s[k].toNat : Int) - 48) = false := by rw [decide_eq_false_iff_not]; omega
       have hw2 : IntKind.u64.wrap ((n : Int) * 16 + ((s[k].toNat : Int) - 48)) = (m : Int) := by rw [IntKind.wrap_u64]; omega
       clear hm HS hv
       go_wp2_with fail
       go_roundg (gk - 1)
       case measure => omega
       case rel => exact ⟨k + 1, by omega, rfl, by rw [HME.out], by go_num, rfl⟩
     · have hlw : Calls Tryz.prog 191 #[.int .u8 (s[k].toNat : Int)] wr fun e w' => e = .returned (.int .u8 ((v : Int) + 87)) ∧ w' = wr := by
         have := HLOW.out (s[k].toNat : Int) wr
         rw [hd2] at this
         simpa using this
       have HLW := Lib.hid hlw
       have hd1' : (57 : Int) < (s[k].toNat : Int) := by omega
       have hlo : (97 : Int) ≤ (v : Int) + 87 := by omega
       have hhi : (v : Int) + 87 ≤ 122 := by omega
       have hlt2 : decide ((16 : Int) ≤ (v : Int)) = false := by rw [decide_eq_false_iff_not]; omega
       have hw2 : IntKind.u64.wrap ((n : Int) * 16 + (v : Int)) = (m : Int) := by rw [IntKind.wrap_u64]; omega
       have HM := Lib.hid hm
       clear hm HS hv hd2 hlw hd1
       go_wp2_with (first | (refine HLW.out.mono ?_; rintro e w5 ⟨rfl, rfl⟩) | fail)
       go_roundg (gk - 1)
       case measure => omega
       case rel => exact ⟨k + 1, by omega, rfl, by rw [HME.out]; have := HM.out; congr 1; omega, by go_num, rfl⟩
   · have hks : k = s.size := by omega
     subst hks
     have hfull : s.data.toList.take s.size = s.data.toList := List.take_of_length_le (by simp)
     rw [hfull]
     clear hfull
     obtain ⟨R, hR⟩ : ∃ R, R = hxl s.data.toList := ⟨_, rfl⟩
     rw [← hR]
     have HR := Lib.hid hR
     clear hR
     go_wp2_with fail
     refine bodyPost_ret (v := .tuple #[.int .u64 R, .nilIface]) (by simp [results, Tryz.results154, go_sem]) rfl ⟨by rw [HR.out], HBW.out⟩
theorem ppuint_16 (s : ByteArray) (w : World) (h1 : 1 ≤ s.size) (h8 : s.size ≤ 4) (hb : ∀ i (h : i < s.size), ∃ v, hexV s[i] = some v) :
  Calls Tryz.prog 187 #[.string s, .int .i64 16, .int .i64 16] w fun e w' => e = .returned (.tuple #[.int .u64 (hxl s.data.toList : Nat), .nilIface]) ∧ Below w.heap.size w w' := by
 have HP := Lib.hid (puint_16 s w h1 h8 hb)
 generalize hxl s.data.toList = R at *
 clear hb
 go_enter Tryz.func187, Tryz.ntmps187
 go_wp2_with fail
 refine HP.out.mono ?_
 rintro e w2 ⟨rfl, hb⟩
 have HB := Lib.hid hb
 clear hb
 go_wp2_with fail
 refine bodyPost_ret (v := .tuple #[.int .u64 R, .nilIface]) (by simp [results, Tryz.results187, go_sem]) rfl ⟨rfl, HB.out⟩
theorem hex4_val (a b c d : UInt8) (n : Nat) (h : hex4 a b c d = some n) : n < 65536 ∧ hxl [a, b, c, d] = n ∧ ∀ x ∈ [a, b, c, d], ∃ v, hexV x = some v := by
 unfold hex4 at h
 cases ha : hexV a with
 | none => rw [ha] at h; simp at h
 | some va =>
  cases hb : hexV b with
  | none => rw [ha, hb] at h; simp at h
  | some vb =>
   cases hc : hexV c with
   | none => rw [ha, hb, hc] at h; simp at h
   | some vc =>
    cases hd : hexV d with
    | none => rw [ha, hb, hc, hd] at h; simp at h
    | some vd =>
     rw [ha, hb, hc, hd] at h
     simp only [Option.some.injEq] at h
     have g1 := (hex_case a va ha).1
     have g2 := (hex_case b vb hb).1
     have g3 := (hex_case c vc hc).1
     have g4 := (hex_case d vd hd).1
     refine ⟨by omega, ?_, ?_⟩
     ·simp only [hxl, List.foldl_cons, List.foldl_nil, ha, hb, hc, hd, Option.getD_some]; omega
     ·intro x hx
      simp only [List.mem_cons, List.mem_nil_iff, or_false] at hx
      rcases hx with rfl | rfl | rfl | rfl
      ·exact ⟨_, ha⟩
      ·exact ⟨_, hb⟩
      ·exact ⟨_, hc⟩
      ·exact ⟨_, hd⟩
theorem hexJ_any (r : Nat) (s : ByteArray) (t0 t : List UInt8) (a b c d : UInt8) (n dd : Nat) (w : World) (h : Rd r s t0 dd w) (p : Nat) (hp : p + ([a, b, c, d] ++ t).length = s.size) (hsuf : ([a, b, c, d] ++ t) <:+ s.data.toList) (hn : hex4 a b c d = some n) :
  Calls Tryz.prog 146 #[.pointer (some ⟨r, 0, none⟩), .int .i64 (p : Int)] w fun e w' => e = .returned (.tuple #[.int .i32 (n : Int), .bool true]) ∧ Rd r s t0 dd w' ∧ KR r w w' := by
 have hbig := h.big
 obtain ⟨c0, -, -⟩ := cell_agg3 h.at_
 obtain ⟨hn1, hn2, hn3⟩ := hex4_val a b c d n hn
 have hl4 : p + 4 ≤ s.size := by rw [List.length_append] at hp; simp at hp; omega
 have hmid := run_mid s [a, b, c, d] t hsuf p (p + 4) hp (by rw [List.length_append] at hp; simp at hp; omega)
 have hsl : ∀ W, (Instr.slice 9 (.string s) (some (.int .i64 p)) (some (.int .i64 ((p : Int) + 4))) Option.none).run Tryz.prog W = .ok (.string ⟨#[a, b, c, d]⟩) W := fun W => by
  have := run_slice_string (P := Tryz.prog) W 9 s .i64 .i64 p ((p : Int) + 4) Tryz.underlying9 (by omega) (by omega) (by omega)
  rw [show ((p : Int) + 4).toNat = p + 4 by omega, Int.toNat_natCast, hmid] at this
  exact this
 have hP := fun W => ppuint_16 ⟨#[a, b, c, d]⟩ W (show 1 ≤ 4 by decide) (show 4 ≤ 4 by decide) (fun i hi => hn3 _ (by
  have : (⟨#[a, b, c, d]⟩ : ByteArray)[i] = [a, b, c, d][i]'hi := rfl
  rw [this]; exact List.getElem_mem _))
 have HP := Lib.hid hP
 have HR := Lib.hid h
 have HNN := Lib.hid hn2
 clear h hP hmid hn hsuf hp hn2 hn3
 have hli : ((s.size : Int) < (p : Int) + 4) = False := by simp; omega
 have hwn : IntKind.i32.wrap (n : Int) = (n : Int) := by rw [IntKind.wrap_i32]; omega
 have hnil : ∀ W, (binOp BinOp.eql 68 .nilIface .nilIface).run Tryz.prog W = .ok (.bool true) W := fun _ => by kernel_rfl
 go_enter Tryz.func146, Tryz.ntmps146
 go_wp2_with fail
 refine (HP.out _).mono ?_
 rintro e w2 ⟨rfl, hb⟩
 have HB := Lib.hid hb
 clear hb
 rw [show hxl (⟨#[a, b, c, d]⟩ : ByteArray).data.toList = n from HNN.out]
 go_wp2_with fail
 go_quiet (fail)
 go_wp2_with fail
 go_ret2
 exact ⟨rfl, (HR.out.below HB.out).drewN _, (KR.of HB.out).drewN _⟩
end Go.Proofs.YtckaoeloofbklaaGreatDoor
namespace Go.Proofs.YtckaoeloofbklaaGreatDoor
open Go Go.RowKit Go.Lib
theorem trim_left (s cs : ByteArray) (w : World) (hcs : cs.size < 4294967281) (ha : cs.data.toList.all (fun b => decide (b.toNat < 128)) = true) :
  Calls Tryz.prog 71 #[.string s, .string cs] w fun e w' => e = .returned (.string ⟨(s.data.toList.dropWhile (cs.data.toList.contains ·)).toArray⟩) ∧ Below w.heap.size w w' :=
 Any.strings_TrimLeft_laid Tryz.lays161 (by kernel_rfl) s cs w hcs (fun j b hj => of_decide_eq_true (List.all_eq_true.1 ha b (List.mem_of_getElem? hj)))
theorem blanks_is : ∀ c : UInt8, (([32, 9, 10, 13] : List UInt8)).contains c = isBl c := by
 intro c
 have key : ∀ c : Fin 256, (([32, 9, 10, 13] : List UInt8)).contains (UInt8.ofNat c.val) = isBl (UInt8.ofNat c.val) := by decide +kernel
 have := key ⟨c.toNat, c.toNat_lt⟩
 simpa only [UInt8.ofNat_toNat] using this
theorem trim_blanks (s : ByteArray) (w : World) :
  Calls Tryz.prog 71 #[.string s, .string (⟨#[32, 9, 10, 13]⟩ : ByteArray)] w fun e w' => e = .returned (.string ⟨(skipB s.data.toList).toArray⟩) ∧ Below w.heap.size w w' := by
 have := trim_left s (⟨#[32, 9, 10, 13]⟩ : ByteArray) w (by decide) (by decide)
 rw [show (fun x => ((⟨#[32, 9, 10, 13]⟩ : ByteArray)).data.toList.contains x) = isBl from funext blanks_is] at this
 exact this
theorem suf_drop {s : ByteArray} {t : List UInt8} (h : t <:+ s.data.toList) : s.data.toList.drop (s.size - t.length) = t := by
 obtain ⟨p, hp⟩ := h
 have hl := congrArg List.length hp
 rw [List.length_append] at hl
 have hl2 : s.data.toList.length = s.size := by simp
 rw [← hp, show s.size - t.length = p.length by omega, List.drop_left]
theorem suf_ext {s : ByteArray} {t : List UInt8} (h : t <:+ s.data.toList) (m : Nat) (hm : m + t.length = s.size) : (s.extract m s.size).data.toList = t := by
 rw [ext_drop, show m = s.size - t.length by omega, suf_drop h]
theorem skip_suf (t : List UInt8) : skipB t <:+ t := List.dropWhile_suffix _
theorem blanks_any (r : Nat) (s : ByteArray) (t : List UInt8) (d : Nat) (w : World) (h : Rd r s t d w) :
  Calls Tryz.prog 47 #[.pointer (some ⟨r, 0, none⟩)] w fun e w' => e = .returned (.tuple #[]) ∧ Rd r s (skipB t) d w' ∧ KR r w w' := by
 have hbig := h.big
 obtain ⟨m, hm, c1⟩ := h.pos
 obtain ⟨c0, -, -⟩ := cell_agg3 h.at_
 have f1 := froz_agg h.at_ 1
 have hex := suf_ext h.suf m hm
 have hT : ∀ W, Calls Tryz.prog 71 #[.string (s.extract m s.size), .string (⟨#[32, 9, 10, 13]⟩ : ByteArray)] W fun e w' => e = .returned (.string ⟨(skipB t).toArray⟩) ∧ Below W.heap.size W w' := fun W => by
  have := trim_blanks (s.extract m s.size) W
  rwa [hex] at this
 have hsl : ∀ W, (Instr.slice 9 (.string s) (some (.int .i64 m)) Option.none Option.none).run Tryz.prog W = .ok (.string (s.extract m s.size)) W := fun W => run_slice_string_l W _ s Tryz.underlying9 .i64 m (by omega) (by omega)
 have hsk := (skip_suf t).length_le
 have hsz : (⟨(skipB t).toArray⟩ : ByteArray).size = (skipB t).length := rfl
 obtain ⟨k, hk⟩ : ∃ k, k + (skipB t).length = s.size := ⟨s.size - (skipB t).length, by omega⟩
 have hsub : (s.size : Int) - ((skipB t).length : Int) = (k : Int) := by omega
 have hwk : IntKind.i64.wrap (k : Int) = (k : Int) := by rw [IntKind.wrap_i64]; omega
 have HT := Lib.hid hT
 have hset := fun (w' : World) (hb : Below w.heap.size w w') => (h.below hb).set' (t' := skipB t) (skip_suf t) k hk
 have HSET := Lib.hid hset
 have HH := Lib.hid h
 have hrl := h.lt
 have hat := h.at_
 have HAT := Lib.hid hat
 clear hT hex hset h hat hk
 generalize s.extract m s.size = sx at *
 generalize (⟨(skipB t).toArray⟩ : ByteArray) = sy at *
 generalize (skipB t).length = n at *
 subst hsz
 go_enter Tryz.func47, Tryz.ntmps47
 go_region_with (first | (refine (HT.out _).mono ?_; rintro e w5 ⟨rfl, hb5⟩; have ha5 := (hb5.block r (by simpa using hrl)).trans HAT.out; obtain ⟨e0, e1, e2⟩ := cell_agg3 ha5; have f5 := froz_agg ha5 1) | fail)
 all_goals
  go_end0
  exact ⟨rfl, HSET.out _ ((Below.refl _ _).drew.trans hb5), (KR.of ((Below.refl _ _).drew.trans hb5)).set _ _⟩
end Go.Proofs.YtckaoeloofbklaaGreatDoor
namespace Go.Proofs.YtckaoeloofbklaaGreatDoor
open Go Go.RowKit Go.Lib
theorem toN (z : Int) (k : Nat) (h : z = (k : Int)) : z.toNat.toUInt8 = UInt8.ofNat k := by subst h; rfl
theorem utf_enc (n : Nat) : Utf8.encode (n : Int) = ⟨(enc n).toArray⟩ := by
 have hnat : ((n : Int)).toNat = n := by omega
 unfold enc Go.Lib.encodeRune
 by_cases hs : Scal n
 ·have hv : Utf8.valid (n : Int) = true := by
   unfold Scal at hs
   simp [Utf8.valid]
   omega
  unfold Utf8.encode
  simp only [hv, if_true, hnat]
  unfold Scal at hs
  by_cases h1 : n < 128
  ·rw [if_pos h1, Lib.encodeRuneZ_one (by omega) (by omega)]
   rfl
  ·rw [if_neg h1]
   by_cases h2 : n < 2048
   ·rw [if_pos h2, Lib.encodeRuneZ_two (by omega) (by omega)]
    simp only [List.map_cons, List.map_nil]
    rw [toN _ (192 + n / 64) (by omega), toN _ (128 + n % 64) (by omega)]
   ·rw [if_neg h2]
    by_cases h3 : n < 65536
    ·rw [if_pos h3, Lib.encodeRuneZ_three (by omega)]
     simp only [List.map_cons, List.map_nil]
     rw [toN _ (224 + n / 4096) (by omega), toN _ (128 + n / 64 % 64) (by omega), toN _ (128 + n % 64) (by omega)]
    ·rw [if_neg h3, Lib.encodeRuneZ_four (by omega) (by omega)]
     simp only [List.map_cons, List.map_nil]
     rw [toN _ (240 + n / 262144) (by omega), toN _ (128 + n / 4096 % 64) (by omega), toN _ (128 + n / 64 % 64) (by omega), toN _ (128 + n % 64) (by omega)]
 ·have hv : Utf8.valid (n : Int) = false := by
   unfold Scal at hs
   simp [Utf8.valid]
   omega
  unfold Scal at hs
  unfold Utf8.encode
  simp only [hv, Bool.false_eq_true, if_false]
  rw [Lib.encodeRuneZ_bad (by omega)]
  rfl
theorem conv_rune (n : Nat) (W : World) : (convert 21 9 (.int .i32 (n : Int))).run Tryz.prog W = .ok (.string ⟨(enc n).toArray⟩) W := by
 rw [run_convert_int_string W 21 9 .i32 n (by kernel_rfl) Tryz.underlying9, utf_enc]
theorem Rd.cell1 {r : Nat} {s : ByteArray} {t : List UInt8} {d : Nat} {w : World} (h : Rd r s t d w) (m : Nat) (hm : m + t.length = s.size) : w.cell? ⟨r, 1, none⟩ = some (.int .i64 (m : Int)) := by
 obtain ⟨k, hk, hc⟩ := h.pos
 rwa [show k = m by omega] at hc
theorem has_pre_no (t : List UInt8) (h : t.take 2 ≠ [92, 117]) : Lib.hasPrefix t [92, 117] = false := by
 unfold Lib.hasPrefix
 rw [Bool.eq_false_iff]
 intro hp
 apply h
 rw [List.isPrefixOf_iff_prefix] at hp
 obtain ⟨u, rfl⟩ := hp
 rfl
theorem ixb_none : Lib.indexByte (⟨#[34, 92, 47, 98, 102, 110, 114, 116]⟩ : ByteArray).data.toList ((117 : Int)).toNat.toUInt8 = -1 := by decide
theorem escape_one (r : Nat) (s : ByteArray) (t : List UInt8) (a b c d : UInt8) (n dd : Nat) (w : World) (h : Rd r s (92 :: 117 :: a :: b :: c :: d :: t) dd w) (hn : hex4 a b c d = some n) (hr : n < 55296 ∨ 56320 ≤ n) :
  Calls Tryz.prog 113 #[.pointer (some ⟨r, 0, none⟩)] w fun e w' => e = .returned (.string ⟨(enc n).toArray⟩) ∧ Rd r s t dd w' ∧ KR r w w' := by
 have hbig := h.big
 obtain ⟨m, hlt, hm, -, c1⟩ := h.head
 have HM := Lib.hid (show m + (92 :: 117 :: a :: b :: c :: d :: t).length = s.size from hm)
 simp only [List.length_cons] at hm
 obtain ⟨c0, -, -⟩ := cell_agg3 h.at_
 have f1 := froz_agg h.at_ 1
 obtain ⟨hn1, -, -⟩ := hex4_val a b c d n hn
 have hsuf := h.suf
 obtain ⟨h0, hu⟩ := suf_get ((List.suffix_cons 92 _).trans hsuf)
 simp only [List.length_cons] at h0 hu
 obtain ⟨hlt1, hu2⟩ : ∃ hl : m + 1 < s.size, s[m + 1] = 117 := by
  have : s.size - (t.length + 1 + 1 + 1 + 1 + 1) = m + 1 := by omega
  simp only [this] at hu h0
  exact ⟨h0, hu⟩
 clear hu h0
 have hX : ∀ W, Rd r s (92 :: 117 :: a :: b :: c :: d :: t) dd W → Calls Tryz.prog 146 #[.pointer (some ⟨r, 0, none⟩), .int .i64 ((m : Int) + 2)] W fun e w' => e = .returned (.tuple #[.int .i32 (n : Int), .bool true]) ∧ Rd r s (92 :: 117 :: a :: b :: c :: d :: t) dd w' ∧ KR r W w' := fun W (hW : Rd r s (92 :: 117 :: a :: b :: c :: d :: t) dd W) => hexJ_any r s _ t a b c d n dd W hW (m + 2) (by simp; omega) (((List.suffix_cons 117 _).trans (List.suffix_cons 92 _)).trans hsuf) hn
 have hI := fun W => Tryz.strings_IndexByte ⟨#[34, 92, 47, 98, 102, 110, 114, 116]⟩ 117 W
 rw [ixb_none] at hI
 have hset : ∀ W, Rd r s (92 :: 117 :: a :: b :: c :: d :: t) dd W → Rd r s t dd (W.setCell ⟨r, 1, none⟩ (.int .i64 ((m : Int) + 6))) := fun W (hW : Rd r s (92 :: 117 :: a :: b :: c :: d :: t) dd W) => hW.set' (t' := t) (((((List.suffix_cons _ _).trans (List.suffix_cons _ _)).trans (List.suffix_cons _ _)).trans (List.suffix_cons _ _)).trans ((List.suffix_cons _ _).trans (List.suffix_cons _ _))) (m + 6) (by omega)
 have HX := Lib.hid hX
 have HI := Lib.hid hI
 have HSET := Lib.hid hset
 have HH := Lib.hid h
 have hm6 : (m : Int) + 6 ≤ s.size := by omega
 have hne : ((m : Int) + 1 == (s.size : Int)) = false := by rw [beq_eq_false_iff_ne]; omega
 have hcr := fun W => conv_rune n W
 clear hX hI hset h hsuf hm
 rcases hr with hr | hr
 ·have g1 : (55296 : Int) ≤ (n : Int) ↔ False := by simp; omega
  go_enter Tryz.func113, Tryz.ntmps113
  go_wp2_with (first | (go_at_call 118; refine (HI.out _).mono ?_; rintro e w5 ⟨rfl, rfl⟩) | fail)
  refine (HX.out _ HH.out).mono ?_
  rintro e w6 ⟨rfl, hr6, hk6⟩
  obtain ⟨d0, -, -⟩ := cell_agg3 hr6.at_
  have d1 := hr6.cell1 m HM.out
  have f6 := froz_agg hr6.at_ 1
  have HR6 := Lib.hid (HSET.out _ hr6)
  have HK6 := Lib.hid hk6
  clear hr6 hk6 c0 c1 f1
  go_upto_region 15 with fail
  go_quiet (fail)
  go_wp2_with fail
  go_ret
  exact ⟨rfl, HR6.out.drewN _, (HK6.out.set _ _).drewN _⟩
 ·have g1 : (55296 : Int) ≤ (n : Int) := by omega
  have g2 : decide ((n : Int) < 56320) = false := by rw [decide_eq_false_iff_not]; omega
  have g3 : decide (n < 56320) = false := by rw [decide_eq_false_iff_not]; omega
  go_enter Tryz.func113, Tryz.ntmps113
  go_wp2_with (first | (go_at_call 118; refine (HI.out _).mono ?_; rintro e w5 ⟨rfl, rfl⟩) | fail)
  refine (HX.out _ HH.out).mono ?_
  rintro e w6 ⟨rfl, hr6, hk6⟩
  obtain ⟨d0, -, -⟩ := cell_agg3 hr6.at_
  have d1 := hr6.cell1 m HM.out
  have f6 := froz_agg hr6.at_ 1
  have HR6 := Lib.hid (HSET.out _ hr6)
  have HK6 := Lib.hid hk6
  clear hr6 hk6 c0 c1 f1
  go_upto_region 15 with fail
  go_quiet (fail)
  go_wp2_with fail
  go_ret
  exact ⟨rfl, HR6.out.drewN _, (HK6.out.set _ _).drewN _⟩
theorem escape_lone (r : Nat) (s : ByteArray) (t : List UInt8) (a b c d : UInt8) (n dd : Nat) (w : World) (h : Rd r s (92 :: 117 :: a :: b :: c :: d :: t) dd w) (hn : hex4 a b c d = some n) (hr1 : 55296 ≤ n) (hr2 : n < 56320) (ht : t.take 2 ≠ [92, 117]) :
  Calls Tryz.prog 113 #[.pointer (some ⟨r, 0, none⟩)] w fun e w' => e = .returned (.string ⟨(enc n).toArray⟩) ∧ Rd r s t dd w' ∧ KR r w w' := by
 have hbig := h.big
 obtain ⟨m, hlt, hm, -, c1⟩ := h.head
 have HM := Lib.hid (show m + (92 :: 117 :: a :: b :: c :: d :: t).length = s.size from hm)
 simp only [List.length_cons] at hm
 obtain ⟨c0, -, -⟩ := cell_agg3 h.at_
 have f1 := froz_agg h.at_ 1
 obtain ⟨hn1, -, -⟩ := hex4_val a b c d n hn
 have hsuf := h.suf
 obtain ⟨h0, hu⟩ := suf_get ((List.suffix_cons 92 _).trans hsuf)
 simp only [List.length_cons] at h0 hu
 obtain ⟨hlt1, hu2⟩ : ∃ hl : m + 1 < s.size, s[m + 1] = 117 := by
  have : s.size - (t.length + 1 + 1 + 1 + 1 + 1) = m + 1 := by omega
  simp only [this] at hu h0
  exact ⟨h0, hu⟩
 clear hu h0
 have hX : ∀ W, Rd r s (92 :: 117 :: a :: b :: c :: d :: t) dd W → Calls Tryz.prog 146 #[.pointer (some ⟨r, 0, none⟩), .int .i64 ((m : Int) + 2)] W fun e w' => e = .returned (.tuple #[.int .i32 (n : Int), .bool true]) ∧ Rd r s (92 :: 117 :: a :: b :: c :: d :: t) dd w' ∧ KR r W w' := fun W (hW : Rd r s (92 :: 117 :: a :: b :: c :: d :: t) dd W) => hexJ_any r s _ t a b c d n dd W hW (m + 2) (by simp; omega) (((List.suffix_cons 117 _).trans (List.suffix_cons 92 _)).trans hsuf) hn
 have hI := fun W => Tryz.strings_IndexByte ⟨#[34, 92, 47, 98, 102, 110, 114, 116]⟩ 117 W
 rw [ixb_none] at hI
 have hset : ∀ W, Rd r s (92 :: 117 :: a :: b :: c :: d :: t) dd W → Rd r s t dd (W.setCell ⟨r, 1, none⟩ (.int .i64 ((m : Int) + 6))) := fun W (hW : Rd r s (92 :: 117 :: a :: b :: c :: d :: t) dd W) => hW.set' (t' := t) (((((List.suffix_cons _ _).trans (List.suffix_cons _ _)).trans (List.suffix_cons _ _)).trans (List.suffix_cons _ _)).trans ((List.suffix_cons _ _).trans (List.suffix_cons _ _))) (m + 6) (by omega)
 have HX := Lib.hid hX
 have HI := Lib.hid hI
 have HSET := Lib.hid hset
 have HH := Lib.hid h
 have hm6 : (m : Int) + 6 ≤ s.size := by omega
 have hne : ((m : Int) + 1 == (s.size : Int)) = false := by rw [beq_eq_false_iff_ne]; omega
 have hcr := fun W => conv_rune n W
 have hts : (s.extract (m + 6) s.size).data.toList = t := suf_ext ((((((List.suffix_cons _ _).trans (List.suffix_cons _ _)).trans (List.suffix_cons _ _)).trans (List.suffix_cons _ _)).trans ((List.suffix_cons _ _).trans (List.suffix_cons _ _))).trans hsuf) (m + 6) (by omega)
 have hsl : ∀ W, (Instr.slice 9 (.string s) (some (.int .i64 ((m : Int) + 6))) Option.none Option.none).run Tryz.prog W = .ok (.string (s.extract (m + 6) s.size)) W := fun W => run_slice_string_l W _ s Tryz.underlying9 .i64 ((m : Int) + 6) (by omega) (by omega)
 have hpr : ∀ W, Calls Tryz.prog 150 #[.string (s.extract (m + 6) s.size), .string ⟨#[92, 117]⟩] W fun e w' => e = .returned (.bool false) ∧ w' = W := fun W => by
  have := Tryz.strings_HasPrefix (s.extract (m + 6) s.size) ⟨#[92, 117]⟩ W
  rw [hts, has_pre_no t ht] at this
  exact this
 have HPR := Lib.hid hpr
 generalize s.extract (m + 6) s.size = sx at *
 clear hX hI hset h hsuf hm hpr hts
 have g1 : (55296 : Int) ≤ (n : Int) := by omega
 have g2 : (n : Int) < 56320 := by omega
 go_enter Tryz.func113, Tryz.ntmps113
 go_wp2_with (first | (go_at_call 118; refine (HI.out _).mono ?_; rintro e w5 ⟨rfl, rfl⟩) | fail)
 refine (HX.out _ HH.out).mono ?_
 rintro e w6 ⟨rfl, hr6, hk6⟩
 obtain ⟨d0, -, -⟩ := cell_agg3 hr6.at_
 have d1 := hr6.cell1 m HM.out
 have f6 := froz_agg hr6.at_ 1
 have HR6 := Lib.hid (HSET.out _ hr6)
 have HK6 := Lib.hid hk6
 clear hr6 hk6 c0 c1 f1
 go_upto_region 15 with fail
 go_quiet ((exact Calls.quiet_of_same (HPR.out _)))
 go_wp2_with fail
 go_ret
 exact ⟨rfl, HR6.out.drewN _, (HK6.out.set _ _).drewN _⟩
theorem escape_pair (r : Nat) (s : ByteArray) (t : List UInt8) (a b c d a' b' c' d' : UInt8) (n n' dd : Nat) (w : World) (h : Rd r s (92 :: 117 :: a :: b :: c :: d :: 92 :: 117 :: a' :: b' :: c' :: d' :: t) dd w) (hn : hex4 a b c d = some n) (hr1 : 55296 ≤ n) (hr2 : n < 56320) (hn' : hex4 a' b' c' d' = some n') (hr3 : 56320 ≤ n') (hr4 : n' < 57344) :
  Calls Tryz.prog 113 #[.pointer (some ⟨r, 0, none⟩)] w fun e w' => e = .returned (.string ⟨(enc (65536 + (n - 55296) * 1024 + (n' - 56320))).toArray⟩) ∧ Rd r s t dd w' ∧ KR r w w' := by
 have hbig := h.big
 obtain ⟨m, hlt, hm, -, c1⟩ := h.head
 have HM := Lib.hid (show m + (92 :: 117 :: a :: b :: c :: d :: 92 :: 117 :: a' :: b' :: c' :: d' :: t).length = s.size from hm)
 simp only [List.length_cons] at hm
 obtain ⟨c0, -, -⟩ := cell_agg3 h.at_
 have f1 := froz_agg h.at_ 1
 obtain ⟨hn1, -, -⟩ := hex4_val a b c d n hn
 obtain ⟨hn1', -, -⟩ := hex4_val a' b' c' d' n' hn'
 have hsuf := h.suf
 obtain ⟨h0, hu⟩ := suf_get ((List.suffix_cons 92 _).trans hsuf)
 simp only [List.length_cons] at h0 hu
 obtain ⟨hlt1, hu2⟩ : ∃ hl : m + 1 < s.size, s[m + 1] = 117 := by
  have : s.size - (t.length + 1 + 1 + 1 + 1 + 1 + 1 + 1 + 1 + 1 + 1 + 1) = m + 1 := by omega
  simp only [this] at hu h0
  exact ⟨h0, hu⟩
 clear hu h0
 have hX : ∀ W, Rd r s (92 :: 117 :: a :: b :: c :: d :: 92 :: 117 :: a' :: b' :: c' :: d' :: t) dd W → Calls Tryz.prog 146 #[.pointer (some ⟨r, 0, none⟩), .int .i64 ((m : Int) + 2)] W fun e w' => e = .returned (.tuple #[.int .i32 (n : Int), .bool true]) ∧ Rd r s (92 :: 117 :: a :: b :: c :: d :: 92 :: 117 :: a' :: b' :: c' :: d' :: t) dd w' ∧ KR r W w' := fun W (hW : Rd r s (92 :: 117 :: a :: b :: c :: d :: 92 :: 117 :: a' :: b' :: c' :: d' :: t) dd W) => hexJ_any r s _ (92 :: 117 :: a' :: b' :: c' :: d' :: t) a b c d n dd W hW (m + 2) (by simp; omega) (((List.suffix_cons 117 _).trans (List.suffix_cons 92 _)).trans hsuf) hn
 have hI := fun W => Tryz.strings_IndexByte ⟨#[34, 92, 47, 98, 102, 110, 114, 116]⟩ 117 W
 rw [ixb_none] at hI
 have hset : ∀ W, Rd r s (92 :: 117 :: a :: b :: c :: d :: 92 :: 117 :: a' :: b' :: c' :: d' :: t) dd W → Rd r s (92 :: 117 :: a' :: b' :: c' :: d' :: t) dd (W.setCell ⟨r, 1, none⟩ (.int .i64 ((m : Int) + 6))) := fun W (hW : Rd r s (92 :: 117 :: a :: b :: c :: d :: 92 :: 117 :: a' :: b' :: c' :: d' :: t) dd W) => hW.set' (t' := (92 :: 117 :: a' :: b' :: c' :: d' :: t)) (((((List.suffix_cons _ _).trans (List.suffix_cons _ _)).trans (List.suffix_cons _ _)).trans (List.suffix_cons _ _)).trans ((List.suffix_cons _ _).trans (List.suffix_cons _ _))) (m + 6) (by simp only [List.length_cons]; omega)
 have hX2 : ∀ W, Rd r s (92 :: 117 :: a' :: b' :: c' :: d' :: t) dd W → Calls Tryz.prog 146 #[.pointer (some ⟨r, 0, none⟩), .int .i64 ((m : Int) + 6 + 2)] W fun e w' => e = .returned (.tuple #[.int .i32 (n' : Int), .bool true]) ∧ Rd r s (92 :: 117 :: a' :: b' :: c' :: d' :: t) dd w' ∧ KR r W w' := fun W (hW : Rd r s (92 :: 117 :: a' :: b' :: c' :: d' :: t) dd W) => hexJ_any r s _ t a' b' c' d' n' dd W hW (m + 6 + 2) (by simp; omega) (((List.suffix_cons 117 _).trans (List.suffix_cons 92 _)).trans ((((((List.suffix_cons _ _).trans (List.suffix_cons _ _)).trans (List.suffix_cons _ _)).trans (List.suffix_cons _ _)).trans ((List.suffix_cons _ _).trans (List.suffix_cons _ _))).trans hsuf)) hn'
 have HX2 := Lib.hid hX2
 have hset2 : ∀ W, Rd r s (92 :: 117 :: a' :: b' :: c' :: d' :: t) dd W → Rd r s t dd (W.setCell ⟨r, 1, none⟩ (.int .i64 ((m : Int) + 6 + 6))) := fun W hW => hW.set' (t' := t) (((((List.suffix_cons _ _).trans (List.suffix_cons _ _)).trans (List.suffix_cons _ _)).trans (List.suffix_cons _ _)).trans ((List.suffix_cons _ _).trans (List.suffix_cons _ _))) (m + 6 + 6) (by omega)
 have HSET2 := Lib.hid hset2
 have HM2 := Lib.hid (show (m + 6) + (92 :: 117 :: a' :: b' :: c' :: d' :: t).length = s.size by simp; omega)
 have HX := Lib.hid hX
 have HI := Lib.hid hI
 have HSET := Lib.hid hset
 have HH := Lib.hid h
 have hm6 : (m : Int) + 12 ≤ s.size := by omega
 have hne : ((m : Int) + 1 == (s.size : Int)) = false := by rw [beq_eq_false_iff_ne]; omega
 have hts : (s.extract (m + 6) s.size).data.toList = (92 :: 117 :: a' :: b' :: c' :: d' :: t) := suf_ext ((((((List.suffix_cons _ _).trans (List.suffix_cons _ _)).trans (List.suffix_cons _ _)).trans (List.suffix_cons _ _)).trans ((List.suffix_cons _ _).trans (List.suffix_cons _ _))).trans hsuf) (m + 6) (by simp only [List.length_cons]; omega)
 have hsl : ∀ W, (Instr.slice 9 (.string s) (some (.int .i64 ((m : Int) + 6))) Option.none Option.none).run Tryz.prog W = .ok (.string (s.extract (m + 6) s.size)) W := fun W => run_slice_string_l W _ s Tryz.underlying9 .i64 ((m : Int) + 6) (by omega) (by omega)
 have hpr : ∀ W, Calls Tryz.prog 150 #[.string (s.extract (m + 6) s.size), .string ⟨#[92, 117]⟩] W fun e w' => e = .returned (.bool true) ∧ w' = W := fun W => by
  have := Tryz.strings_HasPrefix (s.extract (m + 6) s.size) ⟨#[92, 117]⟩ W
  rw [hts, show Lib.hasPrefix (92 :: 117 :: a' :: b' :: c' :: d' :: t) (⟨#[92, 117]⟩ : ByteArray).data.toList = true from by simp [Lib.hasPrefix]] at this
  exact this
 have HPR := Lib.hid hpr
 generalize s.extract (m + 6) s.size = sx at *
 clear hX2 hset2 hX hI hset h hsuf hm hpr hts
 have g1 : (55296 : Int) ≤ (n : Int) := by omega
 have g2 : (n : Int) < 56320 := by omega
 go_enter Tryz.func113, Tryz.ntmps113
 go_wp2_with (first | (go_at_call 118; refine (HI.out _).mono ?_; rintro e w5 ⟨rfl, rfl⟩) | fail)
 refine (HX.out _ HH.out).mono ?_
 rintro e w6 ⟨rfl, hr6, hk6⟩
 obtain ⟨d0, -, -⟩ := cell_agg3 hr6.at_
 have d1 := hr6.cell1 m HM.out
 have f6 := froz_agg hr6.at_ 1
 have HR6 := Lib.hid (HSET.out _ hr6)
 have HK6 := Lib.hid hk6
 clear hr6 hk6 c0 c1 f1
 go_upto_region 15 with fail
 go_quiet ((exact Calls.quiet_of_same (HPR.out _)))
 go_wp2_with fail
 refine (HX2.out _ (HR6.out.drewN _)).mono ?_
 rintro e w7 ⟨rfl, hr7, hk7⟩
 obtain ⟨q0, -, -⟩ := cell_agg3 hr7.at_
 have q1 := hr7.cell1 (m + 6) HM2.out
 have f7 := froz_agg hr7.at_ 1
 have HR7 := Lib.hid (HSET2.out _ hr7)
 have HK7 := Lib.hid hk7
 have g3 : (56320 : Int) ≤ (n' : Int) := by omega
 have g4 : (n' : Int) < 57344 := by omega
 clear hr7 hk7 d0 d1 f6
 go_wp2_with fail
 rw [show (65536 + ((n : Int) - 55296) * 1024 + (n' : Int) - 56320) = ((65536 + (n - 55296) * 1024 + (n' - 56320) : Nat) : Int) by omega, utf_enc]
 go_ret
 exact ⟨rfl, HR7.out, ((((HK6.out.set _ _).drewN _).trans HK7.out).set _ _)⟩
end Go.Proofs.YtckaoeloofbklaaGreatDoor
namespace Go.Proofs.YtckaoeloofbklaaGreatDoor
open Go Go.RowKit Go.Lib
theorem escape_any (r : Nat) (s : ByteArray) (x o t : List UInt8) (dd : Nat) (w : World) (h : Rd r s (92 :: x) dd w) (he : Esc enc x o t) :
  Calls Tryz.prog 113 #[.pointer (some ⟨r, 0, none⟩)] w fun e w' => e = .returned (.string ⟨o.toArray⟩) ∧ Rd r s t dd w' ∧ KR r w w' := by
 cases he with
 | one hn hr => exact escape_one r s t _ _ _ _ _ dd w h hn hr
 | lone hn h1 h2 ht => exact escape_lone r s t _ _ _ _ _ dd w h hn h1 h2 ht
 | pair hn h1 h2 hn' h3 h4 => exact escape_pair r s t _ _ _ _ _ _ _ _ _ _ dd w h hn h1 h2 hn' h3 h4
theorem esc_len {x o t : List UInt8} (he : Esc enc x o t) : o.length ≤ 4 ∧ t.length + 5 ≤ x.length ∧ t <:+ x := by
 cases he with
 | one hn hr => exact ⟨(enc_len _).2, by simp, ⟨[117, _, _, _, _], rfl⟩⟩
 | lone hn h1 h2 ht => exact ⟨(enc_len _).2, by simp, ⟨[117, _, _, _, _], rfl⟩⟩
 | pair hn h1 h2 hn' h3 h4 => exact ⟨(enc_len _).2, by simp, ⟨[117, _, _, _, _, 92, 117, _, _, _, _], rfl⟩⟩
theorem dec_len (l : List UInt8) : (decB8 l).length ≤ 4 * l.length := by
 have h1 := encs_len (pts l)
 have h2 := pts_len l
 unfold decB8
 omega
theorem BL.kr {B b r : Nat} {l : List UInt8} {W W' : World} (h : BL B b l W) (hk : KR r W W') (hr : ∃ c, W.heap[r]? = some (.cells c 56 (0, 0))) : BL B b l W' := by
 obtain ⟨c, hr⟩ := hr
 rcases h with ⟨h1, v, h2, h3, h4⟩ | ⟨h1, v, h2, h3, h4⟩
 all_goals
  have hb : b ≠ r := by rintro rfl; rw [h2] at hr; simp at hr
  have hv : W'.ownsRowF B 5 1 v (Lib.byteCells l).length (Lib.byteCells l) := by
   refine ⟨h3.1, ?_⟩
   rcases h3.2 with g | ⟨g, cap, cur, fz, g1, g2, g3, g4⟩
   ·exact .inl g
   ·refine .inr ⟨g, cap, cur, fz, g1, g2, ?_, g4⟩
    rw [hk.block g (Array.getElem?_eq_some_iff.1 g3).1 (by rintro rfl; rw [g3] at hr; simp at hr)]
    exact g3
  have hbk := (hk.block b (Array.getElem?_eq_some_iff.1 h2).1 hb).trans h2
 ·exact .inl ⟨h1, v, hbk, hv, h4⟩
 ·exact .inr ⟨h1, v, hbk, hv, h4⟩
theorem Rd.obj {r : Nat} {s : ByteArray} {t : List UInt8} {d : Nat} {w : World} (h : Rd r s t d w) : ∃ c, w.heap[r]? = some (.cells c 56 (0, 0)) := ⟨_, h.at_⟩
theorem Rd.bw {B b r : Nat} {l : List UInt8} {s : ByteArray} {t : List UInt8} {d : Nat} {W W' : World} (h : Rd r s t d W) (hw : BW B b l W W') (hb : b ≠ r) : Rd r s t d W' := by
 refine h.kept ?_
 rw [h.at_]
 exact hw.oth _ _ h.at_ (by simp; omega) (fun c fz e => by injection e with _ e _; simp at e)
theorem KR.low {r B : Nat} {a w w' : World} (h : KR r a w) (hb : Below B w w') (hB : a.heap.size ≤ B) : KR r a w' :=
 ⟨hb.os.trans h.os, hb.tape.trans h.tape, hb.output.trans h.output, Nat.le_trans h.size hb.size, fun k hk hr => (hb.block k (by omega)).trans (h.block k hk hr)⟩
theorem KR.low' {r n : Nat} {a w : World} (h : KR r a w) (hn : n ≤ r) (hn2 : n ≤ a.heap.size) : Below n a w := ⟨h.os, h.tape, h.output, h.size, fun k hk => h.block k (by omega) (by omega)⟩
theorem quoted_any (r : Nat) (s : ByteArray) (t out t' : List UInt8) (d : Nat) (w : World) (h : Rd r s (34 :: t) d w) (h17 : 17 ≤ r) (hT : Lib.Utf8Tabs 0 1 w) (hs : Str decB8 enc t out t') :
  Calls Tryz.prog 76 #[.pointer (some ⟨r, 0, none⟩)] w fun e w' => e = .returned (.string ⟨out.toArray⟩) ∧ Rd r s t' d w' ∧ KR r w w' := by
 have hbig := h.big
 have HMU := Lib.hid (must_yes r s 34 t d w h)
 have hrl := h.lt
 have HT := Lib.hid hT
 have HS := Lib.hid hs
 clear h hT hs
 go_enter Tryz.func76, Tryz.ntmps76
 go_wp2_with fail
 refine HMU.out.mono ?_
 rintro e w1 ⟨rfl, hr1, hk1⟩
 have HR1 := Lib.hid hr1
 have HK1 := Lib.hid hk1
 have h1s := hk1.size
 clear hr1 hk1
 go_wp2_with fail
 have hbl := bl_new w1.heap.size w1 (Nat.le_refl _)
 have hrA := HR1.out.alloc (.cells #[.pointer none, .slice none 0 0] 49)
 have hkA := HK1.out.alloc (.cells #[.pointer none, .slice none 0 0] 49)
 have hsA : w1.heap.size < (w1.alloc (.cells #[.pointer none, .slice none 0 0] 49)).heap.size := by simp
 have HBL := Lib.hid hbl
 have HRA := Lib.hid hrA
 have HKA := Lib.hid hkA
 clear hbl hrA hkA
 generalize w1.alloc (.cells #[.pointer none, .slice none 0 0] 49) = wA at *
 obtain ⟨b, hb⟩ : ∃ b, b = w1.heap.size := ⟨_, rfl⟩
 rw [← hb] at HBL hsA h1s
 rw [← hb]
 have hbr : b ≠ r := by omega
 clear hb HR1 HK1
 go_loopg [] t.length (fun g wr => ∃ (acc u o2 : List UInt8), u.length ≤ g ∧ Str decB8 enc u o2 t' ∧ acc ++ o2 = out ∧ acc.length + 4 * u.length ≤ 4 * s.size ∧ Rd r s u d wr ∧ KR r w wr ∧ BL b b acc wr ∧ b < wr.heap.size)
 case atStart => exact ⟨[], t, out, Nat.le_refl _, HS.out, rfl, by have := HRA.out.len; simp; omega, HRA.out, HKA.out, HBL.out, hsA⟩
 case round =>
  obtain ⟨acc, u, o2, hug, hstr, hacc, hal, hrd, hkr, hbl, hbs⟩ := hrel
  have hTW := utabs_kept HT.out (hkr.low' h17 (by omega))
  cases hstr with
  | last ha =>
   rename_i a
   rw [List.length_append, List.length_cons] at hug hal
   have hlen := hrd.len
   rw [List.length_append, List.length_cons] at hlen
   have HRUN := Lib.hid (run_any _ strC strc_any ent_strc r s a (34 :: t') d wr hrd ha (show strC 34 = false by decide))
   have HKR := Lib.hid hkr
   have HBL2 := Lib.hid (fun w2 (hk : KR r wr w2) => hbl.kr hk hrd.obj)
   have HTW := Lib.hid hTW
   have hrs := hkr.size
   clear hrd hkr hbl hTW
   go_wp2_with fail
   refine HRUN.out.mono ?_
   rintro e w2 ⟨rfl, hr2, hk2⟩
   have hs2 := hk2.size
   have HDEC := Lib.hid (decode_any ⟨a.toArray⟩ w2 (by omega) (utabs_kept HTW.out (hk2.low' h17 (by omega))) (by show a.toArray.size ≤ _; rw [List.size_toArray]; omega))
   have HR2 := Lib.hid hr2
   have HK2 := Lib.hid hk2
   clear hr2 hk2
   go_wp2_with fail
   refine HDEC.out.mono ?_
   rintro e w3 ⟨rfl, hb3⟩
   have hs3 := hb3.size
   have hdl := dec_len a
   have HW := Lib.hid (bw_string b b acc ⟨(decB8 a).toArray⟩ w3 ((HBL2.out _ HK2.out).below hb3) (by show _ + (decB8 a).toArray.size ≤ _; rw [List.size_toArray]; omega) (by omega))
   have HR3 := Lib.hid (HR2.out.below hb3)
   have HK3 := Lib.hid ((HKR.out.trans HK2.out).trans (KR.of hb3))
   clear hb3
   go_wp2_with fail
   refine HW.out.mono ?_
   rintro e w4 ⟨rfl, hw4⟩
   have hr4 := HR3.out.bw hw4 hbr
   have hk4 := HK3.out.low hw4.below h1s
   have hs4 := hw4.below.size
   have HBL4 := Lib.hid hw4.bl
   obtain ⟨k, hlt, hk, -, c1⟩ := hr4.head
   obtain ⟨c0, -, -⟩ := cell_agg3 hr4.at_
   have hne : ((k : Int) == (s.size : Int)) = false := by rw [beq_eq_false_iff_ne]; omega
   have HR4 := Lib.hid hr4
   have HK4 := Lib.hid hk4
   clear hr4 hk4 hw4
   go_upto_region 4 with fail
   go_quiet (fail)
   have HIS := Lib.hid (is_yes r s 34 t' d _ (HR4.out.drewN nq))
   go_wp2_with fail
   refine HIS.out.mono ?_
   rintro e w5 ⟨rfl, hr5, hk5⟩
   have hs5 := hk5.size
   have hbl5 : BL b b (acc ++ decB8 a) w5 := (HBL4.out.below ((Below.refl _ _).trans (bDrewN (Below.refl _ _) nq))).kr hk5 (HR4.out.drewN nq).obj
   have HST := Lib.hid (Tryz.Builder_String_any_k b b _ w5 hbl5 (by have : w4.heap.size ≤ w5.heap.size := hs5; omega))
   have HR5 := Lib.hid hr5
   have HK5 := Lib.hid hk5
   clear hr5 hk5 hbl5
   go_wp2_with fail
   refine HST.out.mono ?_
   rintro e w6 ⟨rfl, hbl6, hb6, hk6⟩
   have hr6 : Rd r s t' d w6 := HR5.out.bw ⟨hbl6, hb6, hk6⟩ hbr
   have HR6 := Lib.hid hr6
   have HB6 := Lib.hid hb6
   clear hbl6 hr6 hb6 hk6
   go_wp2_with fail
   go_ret
   exact ⟨rfl, HR6.out, ((HK4.out.drewN _).trans HK5.out).low HB6.out h1s⟩
  | esc ha he hstr2 =>
   rename_i a TX o1 t1 o3
   rw [List.length_append, List.length_cons] at hug hal
   have hlen := hrd.len
   rw [List.length_append, List.length_cons] at hlen
   have HRUN := Lib.hid (run_any _ strC strc_any ent_strc r s a (92 :: TX) d wr hrd ha (show strC 92 = false by decide))
   have HKR := Lib.hid hkr
   have HBL2 := Lib.hid (fun w2 (hk : KR r wr w2) => hbl.kr hk hrd.obj)
   have HTW := Lib.hid hTW
   have hrs := hkr.size
   clear hrd hkr hbl hTW
   go_wp2_with fail
   refine HRUN.out.mono ?_
   rintro e w2 ⟨rfl, hr2, hk2⟩
   have hs2 := hk2.size
   have HDEC := Lib.hid (decode_any ⟨a.toArray⟩ w2 (by omega) (utabs_kept HTW.out (hk2.low' h17 (by omega))) (by show a.toArray.size ≤ _; rw [List.size_toArray]; omega))
   have HR2 := Lib.hid hr2
   have HK2 := Lib.hid hk2
   clear hr2 hk2
   go_wp2_with fail
   refine HDEC.out.mono ?_
   rintro e w3 ⟨rfl, hb3⟩
   have hs3 := hb3.size
   have hdl := dec_len a
   have HW := Lib.hid (bw_string b b acc ⟨(decB8 a).toArray⟩ w3 ((HBL2.out _ HK2.out).below hb3) (by show _ + (decB8 a).toArray.size ≤ _; rw [List.size_toArray]; omega) (by omega))
   have HR3 := Lib.hid (HR2.out.below hb3)
   have HK3 := Lib.hid ((HKR.out.trans HK2.out).trans (KR.of hb3))
   clear hb3
   go_wp2_with fail
   refine HW.out.mono ?_
   rintro e w4 ⟨rfl, hw4⟩
   have hr4 := HR3.out.bw hw4 hbr
   have hk4 := HK3.out.low hw4.below h1s
   have hs4 := hw4.below.size
   have HBL4 := Lib.hid hw4.bl
   obtain ⟨k, hlt, hk, -, c1⟩ := hr4.head
   obtain ⟨c0, -, -⟩ := cell_agg3 hr4.at_
   have hne : ((k : Int) == (s.size : Int)) = false := by rw [beq_eq_false_iff_ne]; omega
   have HR4 := Lib.hid hr4
   have HK4 := Lib.hid hk4
   clear hr4 hk4 hw4
   go_upto_region 4 with fail
   go_quiet (fail)
   have HIS := Lib.hid (is_no r s 34 (92 :: TX) d _ (HR4.out.drewN nq) (show ((92 : UInt8) == 34) = false by decide))
   go_wp2_with fail
   refine HIS.out.mono ?_
   rintro e w5 ⟨rfl, hr5, hk5⟩
   have hs5 := hk5.size
   have hbl5 : BL b b (acc ++ decB8 a) w5 := (HBL4.out.below ((Below.refl _ _).trans (bDrewN (Below.refl _ _) nq))).kr hk5 (HR4.out.drewN nq).obj
   have HBL5 := Lib.hid hbl5
   have HR5 := Lib.hid hr5
   have HK5 := Lib.hid ((HK4.out.drewN nq).trans hk5)
   have HPK := Lib.hid (peek_cons r s 92 TX d w5 hr5)
   clear hr5 hk5 hbl5 c0 c1
   go_wp2_with fail
   refine HPK.out.mono ?_
   rintro e w6 ⟨rfl, hr6, hk6⟩
   have hs6 := hk6.size
   have HESC := Lib.hid (escape_any r s TX o1 t1 d w6 hr6 he)
   have HBL6 := Lib.hid (HBL5.out.kr hk6 HR5.out.obj)
   have HR6 := Lib.hid hr6
   have HK6 := Lib.hid (HK5.out.trans hk6)
   obtain ⟨hel1, hel2, -⟩ := esc_len he
   clear hr6 hk6
   go_wp2_with fail
   refine HESC.out.mono ?_
   rintro e w7 ⟨rfl, hr7, hk7⟩
   have hs7 := hk7.size
   have hbw : b ≤ w7.heap.size := by have : w4.heap.size ≤ w5.heap.size := hs5; omega
   have HW7 := Lib.hid (bw_string b b (acc ++ decB8 a) ⟨o1.toArray⟩ w7 (HBL6.out.kr hk7 HR6.out.obj) (by show _ + o1.toArray.size ≤ _; rw [List.size_toArray, List.length_append]; omega) hbw)
   have HR7 := Lib.hid hr7
   have HK7 := Lib.hid (HK6.out.trans hk7)
   clear hr7 hk7
   go_wp2_with fail
   refine HW7.out.mono ?_
   rintro e w8 ⟨rfl, hw8⟩
   have hs8 := hw8.below.size
   have HR8 := Lib.hid (HR7.out.bw hw8 hbr)
   have HK8 := Lib.hid (HK7.out.low hw8.below h1s)
   have HBL8 := Lib.hid hw8.bl
   clear hw8
   go_wp2_with fail
   go_roundg t1.length
   case measure => omega
   case rel => exact ⟨acc ++ decB8 a ++ o1, t1, o3, Nat.le_refl _, hstr2, by rw [← hacc]; simp, by rw [List.length_append, List.length_append]; omega, HR8.out, HK8.out, HBL8.out, by obtain ⟨_, _, hh⟩ := HBL8.out.cells; exact (Array.getElem?_eq_some_iff.1 hh).1⟩
end Go.Proofs.YtckaoeloofbklaaGreatDoor
namespace Go.Proofs.YtckaoeloofbklaaGreatDoor
open Go Go.RowKit Go.Lib Go.Maps
theorem lawB : Keyed Tryz.prog 5 := int_keyed Tryz.underlying5
def mvV (r : Nat) (f : Nat) : Value := .func (.func f) #[.pointer (some ⟨r, 0, none⟩)] #[]
def mvR (r : Nat) (v : Value) : Option (DataW Unit × List MemPlace) := match v with
 | .func (.func f) ⟨[.pointer (some ⟨r', 0, none⟩)]⟩ ⟨[]⟩ => if r' = r then some (.lit (.int .i64 f), []) else none
 | .nilFunc => some (.lit (.int .i64 (-1)), [])
 | _ => none
theorem mvR_mk (r f : Nat) : mvR r (mvV r f) = some (.lit (.int .i64 f), []) := by simp [mvR, mvV]
theorem mvR_nil (r : Nat) : mvR r .nilFunc = some (.lit (.int .i64 (-1)), []) := rfl
theorem mvR_inv {r : Nat} {v : Value} {f : Nat} {ps : List MemPlace} (h : mvR r v = some (.lit (.int .i64 (f : Int)), ps)) : v = mvV r f := by
 unfold mvR at h
 split at h
 ·split at h
  ·rename_i e
   subst e
   simp only [Option.some.injEq, Prod.mk.injEq, DataW.lit.injEq, Lit.int.injEq] at h
   obtain ⟨⟨_, h⟩, _⟩ := h
   rw [mvV, Int.ofNat_inj.1 h]
  ·cases h
 ·simp only [Option.some.injEq, Prod.mk.injEq, DataW.lit.injEq, Lit.int.injEq] at h
  obtain ⟨⟨_, h⟩, _⟩ := h
  omega
 ·cases h
theorem mvR_none {r : Nat} {v : Value} {ps : List MemPlace} (h : mvR r v = some (.lit (.int .i64 (-1)), ps)) : v = .nilFunc := by
 unfold mvR at h
 split at h
 ·split at h
  ·simp only [Option.some.injEq, Prod.mk.injEq, DataW.lit.injEq, Lit.int.injEq] at h
   obtain ⟨⟨_, h⟩, _⟩ := h
   omega
  ·cases h
 ·rfl
 ·cases h
def u8L (c : Int) : Lit := .int .u8 c
def begD : DataW Unit := (((DataW.put (.map []) (u8L 91) (.lit (.int .i64 48))).put (u8L 123) (.lit (.int .i64 49))).put (u8L 34) (.lit (.int .i64 50))).put (u8L 45) (.lit (.int .i64 51))
def begF (c : UInt8) : Option Nat := if c = 91 then some 48 else if c = 123 then some 49 else if c = 34 then some 50 else if c = 45 then some 51 else none
def begZ (c : UInt8) : Int := match begF c with | some f => f | none => -1
theorem beg_ne (c : UInt8) (k : UInt8) (h : ¬ c = k) : u8L (c.toNat : Int) ≠ u8L (k.toNat : Int) := by
 unfold u8L
 intro e
 injection e with _ e
 exact h (UInt8.toNat_inj.1 (by omega))
theorem beg_at (c : UInt8) : begD.atKey (u8L (c.toNat : Int)) (.lit (.int .i64 (-1))) = .lit (.int .i64 (begZ c)) ∧ Maps.has begD (u8L (c.toNat : Int)) = (begF c).isSome := by
 by_cases h1 : c = 91
 ·subst h1; exact ⟨rfl, rfl⟩
 by_cases h2 : c = 123
 ·subst h2; exact ⟨rfl, rfl⟩
 by_cases h3 : c = 34
 ·subst h3; exact ⟨rfl, rfl⟩
 by_cases h4 : c = 45
 ·subst h4; exact ⟨rfl, rfl⟩
 have e : begF c = none := by unfold begF; rw [if_neg h1, if_neg h2, if_neg h3, if_neg h4]
 have g1 : u8L (c.toNat : Int) ≠ u8L 91 := beg_ne c 91 h1
 have g2 : u8L (c.toNat : Int) ≠ u8L 123 := beg_ne c 123 h2
 have g3 : u8L (c.toNat : Int) ≠ u8L 34 := beg_ne c 34 h3
 have g4 : u8L (c.toNat : Int) ≠ u8L 45 := beg_ne c 45 h4
 unfold begZ
 rw [e]
 unfold begD
 rw [atKey_put_other g4, atKey_put_other g3, atKey_put_other g2, atKey_put_other g1, has_put_other g4, has_put_other g3, has_put_other g2, has_put_other g1]
 exact ⟨rfl, rfl⟩
theorem wpList_insert_own {H : Type} {P : Program} (w : World) {ops : Array Oper} {rest : List Oper} {o : Oper} {a : Act} {Q : Exit → Act → World → Prop}
  (hg : o.guard = none) (m x v : Operand) (t : TypeId) (hop : o.op = Op.insert t m x v)
  (k e : TypeId) (K : Keyed P k) (ht : P.underlying t = some (.map k e)) (R : Value → Option (DataW H × List MemPlace)) (b n : Nat) (D : DataW H)
  (hm : a.eval m = .map (some b)) (hown : w.ownsMap P k R b n D) (hn : n < maxLen) (key val : Value) (kl : Lit) (hx : a.eval x = key) (hv : a.eval v = val) (hkey : keyOf P k key = some kl)
  (d : DataW H) (ps : List MemPlace) (hval : R val = some (d, ps))
  (hK : ∀ w', w'.ownsMap P k R b (n + 1) (D.put kl d) → w.grownBy w' (some b) → wpList P ops Q rest (a.put o.dst undef) w') :
  wpList P ops Q (o :: rest) a w := by
 refine wpList_plain hg fun K' hK' => ?_
 obtain ⟨w', hrun, r1, r2⟩ := hown.update K ht hn hkey hval
 unfold Oper.wp
 simp [execOp, hop, hm, hx, hv, hrun, Result.andThen]
 exact hK' _ _ (hK w' r1 r2)
theorem key8 (c : Nat) (h : c < 256) : keyOf Tryz.prog 5 (.int .u8 (c : Int)) = some (u8L (c : Int)) := keyOf_int_mk Tryz.underlying5 (by simp only [Lit.wf, Bool.and_eq_true, decide_eq_true_eq]; exact ⟨show (0 : Int) ≤ c by omega, show (c : Int) ≤ 255 by omega⟩)
end Go.Proofs.YtckaoeloofbklaaGreatDoor
