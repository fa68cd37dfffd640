/- Joined texts: Kp Ko Kq Kr. Each begins with its own remark. -/
import Derived.Test.YtckaoeloofbklaaGreatDoorZp
import Derived.Test.YtckaoeloofbklaaGreatDoorZq
import Derived.Test.YtckaoeloofbklaaGreatDoorZr
import Derived.Test.YtckaoeloofbklaaGreatDoorZs
import Derived.Deep.Slices
import Derived.SliceStrings
import Derived.SizedLaws
import Derived.ProofKit
import Derived.LaidMore
import Derived.Test.YtckaoeloofbklaaGreatDoorRows

/- What is shown of a value: its code points, its length (plain). -/
namespace Go.Proofs.YtckaoeloofbklaaGreatDoor
open Go Go.RowKit Go.Lib

/-- may a code point stand in what is shown? -/
def safeR (r : Nat) : Prop := Scal r ∧ 32 ≤ r ∧ r ≠ 127 ∧ r ≠ 60 ∧ r ≠ 62 ∧ r ≠ 38 ∧ r ≠ 39 ∧ r ≠ 8232 ∧ r ≠ 8233
/-- bytes that are such code points -/
def Sf (l : List UInt8) : Prop := ∃ rs : List Nat, (∀ r ∈ rs, safeR r) ∧ l = rs.flatMap enc
theorem Sf.nil : Sf [] := ⟨[], by simp, rfl⟩
theorem Sf.app {a b : List UInt8} (h : Sf a) (k : Sf b) : Sf (a ++ b) := by
  obtain ⟨x, h1, rfl⟩ := h
  obtain ⟨y, h2, rfl⟩ := k
  refine ⟨x ++ y, fun r hr => ?_, by rw [List.flatMap_append]⟩
  rcases List.mem_append.1 hr with h | h
  · exact h1 r h
  · exact h2 r h
theorem Sf.one {r : Nat} (h : safeR r) : Sf (enc r) := ⟨[r], by simp [h], by simp⟩
def okB8 (c : UInt8) : Bool := decide (32 ≤ c.toNat ∧ c.toNat < 127 ∧ c.toNat ≠ 60 ∧ c.toNat ≠ 62 ∧ c.toNat ≠ 38 ∧ c.toNat ≠ 39)
theorem enc_byte : ∀ c : Fin 256, okB8 (UInt8.ofNat c.val) = true → enc c.val = [UInt8.ofNat c.val] := by decide +kernel
theorem Sf.byte {c : UInt8} (h : okB8 c = true) : Sf [c] := by
  have e := enc_byte ⟨c.toNat, c.toNat_lt⟩ (by simpa only [UInt8.ofNat_toNat] using h)
  simp only [UInt8.ofNat_toNat] at e
  rw [← e]
  have h := of_decide_eq_true h
  exact .one ⟨by unfold Scal; omega, by omega, by omega, by omega, by omega, by omega, by omega, by omega, by omega⟩
theorem Sf.bytes : ∀ {l : List UInt8}, (∀ c ∈ l, okB8 c = true) → Sf l
  | [], _ => .nil
  | c :: l, h => (Sf.byte (h c (by simp))).app (Sf.bytes fun x hx => h x (by simp [hx]))
theorem Sf.flat {α : Type} (f : α → List UInt8) : ∀ {l : List α}, (∀ x ∈ l, Sf (f x)) → Sf (l.flatMap f)
  | [], _ => .nil
  | x :: l, h => by rw [List.flatMap_cons]; exact (h x (by simp)).app (Sf.flat f fun y hy => h y (by simp [hy]))
theorem numC_ok (c : UInt8) (h : numC c = true) : okB8 c = true := by
  have key : ∀ c : Fin 256, numC (UInt8.ofNat c.val) = true → okB8 (UInt8.ofNat c.val) = true := by decide +kernel
  have := key ⟨c.toNat, c.toNat_lt⟩
  simp only [UInt8.ofNat_toNat] at this
  exact this h
theorem sf_quo (l : List UInt8) : Sf (quoL l) := by
  have h34 : Sf [34] := .byte (by decide)
  have h : Sf (quoI l) := Sf.flat quoR fun r hr => by
    have hs := pts_scals l r hr
    unfold quoR
    split
    · rename_i hi
      unfold asIsN at hi
      have := of_decide_eq_true hi
      exact .one ⟨hs, by omega, by omega, by omega, by omega, by omega, by omega, by omega, by omega⟩
    · refine Sf.bytes fun c hc => ?_
      have hd : ∀ n : Fin 16, okB8 (hexD n.val) = true := by decide +kernel
      simp only [hex4L, List.mem_cons, List.mem_nil_iff, or_false] at hc
      have hd' : ∀ n, n < 16 → okB8 (hexD n) = true := fun n h => hd ⟨n, h⟩
      rcases hc with rfl | rfl | rfl | rfl | rfl | rfl
      · decide
      · decide
      all_goals exact hd' _ (by omega)
  unfold quoL
  exact (h34.app h).app h34
theorem sf_num {s : List UInt8} (h : NumS s) : Sf s := Sf.bytes fun c hc => numC_ok c (h.all c hc)
theorem sf_T (r : Bool) : ∀ (vs : List JV) (ks : List ByteArray), (∀ v ∈ vs, Sf (shJ v)) → Sf ((showT Lib.itoa fltI r ks vs).drop 1) ∧ Sf (showT Lib.itoa fltI r ks vs)
  | [], _, _ => by rw [showT]; exact ⟨.nil, .nil⟩
  | v :: vs, ks, h => by
    have ih := (sf_T r vs ks.tail fun x hx => h x (by simp [hx])).2
    rw [showT]
    have h1 : Sf ((if r then quoL (ks.headD ⟨#[]⟩).data.toList ++ [58] else []) ++ shJ v) := by
      refine Sf.app ?_ (h v (by simp))
      cases r with
      | false => exact .nil
      | true => exact (sf_quo _).app (.byte (by decide))
    exact ⟨h1.app ih, ((Sf.byte (c := 44) (by decide)).app h1).app ih⟩
theorem sf_show : ∀ v, Rng v → Sf (shJ v) := by
  refine JV.ind fun k b n u s ks vs ih hr => ?_
  obtain ⟨h1, h2, h3, h4, h⟩ := hr
  have hnum := num_ok
  unfold shJ at ih ⊢
  rw [showJ]
  split
  · exact .bytes (by decide)
  · split
    · cases b
      · exact .bytes (by decide)
      · exact .bytes (by decide)
    · split
      · exact sf_num (hnum.int n h1 h2).2
      · split
        · cases hi : infI u with
          | false => exact sf_num (hnum.flt u h3 h4 hi).2
          | true => rw [hnum.nul u h3 h4 hi]; exact .bytes (by decide)
        · split
          · exact sf_quo _
          · split
            · exact ((Sf.byte (c := 123) (by decide)).app (sf_T true vs ks fun v hv => ih v hv (h v hv)).1).app (.byte (by decide))
            · exact ((Sf.byte (c := 91) (by decide)).app (sf_T false vs ks fun v hv => ih v hv (h v hv)).1).app (.byte (by decide))

/-- its code points -/
theorem Sf.pts {l : List UInt8} (h : Sf l) : ∀ r ∈ pts l, safeR r := by
  obtain ⟨rs, h1, rfl⟩ := h
  rw [pts_encs rs fun r hr => (h1 r hr).1]
  exact h1
theorem valid_enc (r : Nat) (h : Scal r) (t : List UInt8) : Lib.validD (enc r ++ t) = Lib.validD t := by
  obtain ⟨a, l, e⟩ := enc_ne r
  have hd := dcd_enc r h t
  rw [dcd_is] at hd
  have hl := enc_len r
  have h3 : (enc 65533).length = 3 := by decide +kernel
  rw [Lib.validD_step _ (by rw [e]; simp), hd]
  dsimp only
  rw [if_neg (fun hh => by rw [hh.1] at hh; omega), List.drop_left]
theorem Sf.valid {l : List UInt8} (h : Sf l) : Lib.validD l = true := by
  obtain ⟨rs, h1, rfl⟩ := h
  induction rs with
  | nil => decide +kernel
  | cons r rs ih =>
    rw [List.flatMap_cons, valid_enc r (h1 r (by simp)).1]
    exact ih fun x hx => h1 x (by simp [hx])

/-- no value's text is longer than its weight lets it be -/
theorem showT_len (r : Bool) : ∀ (vs : List JV) (ks : List ByteArray), (∀ v ∈ vs, (shJ v).length + 10 ≤ 200 * v.weigh) → (showT Lib.itoa fltI r ks vs).length ≤ 6 * (ks.map ByteArray.size).sum + 200 * JV.weighL vs
  | [], ks, _ => by rw [showT]; simp
  | v :: vs, ks, h => by
    have ih := showT_len r vs ks.tail fun x hx => h x (by simp [hx])
    have h1 := h v (by simp)
    unfold shJ at h1
    have hq := quoL_len (ks.headD ⟨#[]⟩).data.toList
    have hs : (ks.headD ⟨#[]⟩).data.toList.length + (ks.tail.map ByteArray.size).sum ≤ (ks.map ByteArray.size).sum := by
      cases ks with
      | nil => simp
      | cons k ks => simp
    rw [showT, JV.weighL, List.length_append, List.length_cons, List.length_append]
    cases r with
    | false => simp only [Bool.false_eq_true, if_false, List.length_nil]; omega
    | true => simp only [if_true, List.length_append, List.length_cons, List.length_nil]; omega
theorem show_len : ∀ v, Rng v → (shJ v).length + 10 ≤ 200 * v.weigh := by
  refine JV.ind fun k b n u s ks vs ih hr => ?_
  obtain ⟨h1, h2, h3, h4, h⟩ := hr
  have hT := fun r => showT_len r vs ks fun v hv => ih v hv (h v hv)
  unfold shJ
  rw [showJ, JV.weigh]
  have hd : ∀ l : List UInt8, (l.drop 1).length ≤ l.length := fun l => by rw [List.length_drop]; omega
  split
  · simp only [List.length_cons, List.length_nil]; omega
  · split
    · cases b <;> simp <;> omega
    · split
      · have := itoa_len n h1 h2; omega
      · split
        · have := fltN_len u.toNat
          unfold fltI
          omega
        · split
          · have := quoL_len s.data.toList
            have h0 : s.data.toList.length = s.size := by simp
            omega
          · split
            · have h1 := hT true
              have h2 := hd (showT Lib.itoa fltI true ks vs)
              simp only [List.length_cons, List.length_append, List.length_nil]
              omega
            · have h1 := hT false
              have h2 := hd (showT Lib.itoa fltI false ks vs)
              simp only [List.length_cons, List.length_append, List.length_nil]
              omega
end Go.Proofs.YtckaoeloofbklaaGreatDoor

/- lacunaref00.WeighValue; lacunalaw16.far. -/
namespace Go.Proofs.YtckaoeloofbklaaGreatDoor
open Go Go.RowKit Go.Lib

theorem weighL_snoc : ∀ (l : List JV) (x : JV), JV.weighL (l ++ [x]) = JV.weighL l + x.weigh
  | [], x => by simp [JV.weighL]
  | v :: l, x => by rw [List.cons_append, JV.weighL, JV.weighL, weighL_snoc l x]; omega
def keyS (l : List ByteArray) : Nat := (l.map ByteArray.size).sum
theorem keyS_snoc (l : List ByteArray) (x : ByteArray) : keyS (l ++ [x]) = keyS l + x.size := by simp [keyS]
/-- are a value's texts and names no longer than the memory reaches? -/
inductive Loc : JV → Prop
  | mk {k b n u s ks vs} (h1 : s.size ≤ 140737488351232) (h2 : ∀ k ∈ ks, k.size ≤ 140737488351232) (h : ∀ v ∈ vs, Loc v) : Loc (.mk k b n u s ks vs)
/-- what lacunaref00.WeighValue does -/
def WeighOk (v : JV) : Prop := ∀ (ok : Nat → Prop) (V : Value) (w : World) (most : Nat), JAt ok w v V → Loc v → most ≤ 1125899906842624 →
  Calls Tryz.prog 21 #[V, .int .i64 (most : Int)] w fun e w' => (∃ r : Nat, e = .returned (.int .i64 (r : Int)) ∧ r ≤ most + 200000000000000 ∧ (r ≤ most → r = v.weigh)) ∧ Below w.heap.size w w'

set_option maxRecDepth 100000 in
set_option maxHeartbeats 4000000 in
theorem weigh_one (k : Int) (b : Bool) (n u : Int) (s : ByteArray) (ks : List ByteArray) (vs : List JV) (ih : ∀ x ∈ vs, WeighOk x) : WeighOk (.mk k b n u s ks vs) := by
  intro ok V w most hj hw hm
  have hwv : (JV.mk k b n u s ks vs).weigh = 1 + s.size + ks.length + keyS ks + JV.weighL vs := by rw [JV.weigh]; rfl
  rw [hwv]
  obtain ⟨hs0, hkl, hvl⟩ := hw
  rw [JAt] at hj
  obtain ⟨ka, kc, a, c, rfl, hks, hvs, hkn, hvn⟩ := hj
  have hbx := heap_alloc_new w (.cells #[.int .u8 k, .bool b, .int .i64 n, .int .u64 u, .string s, .slice ka ks.length kc, .slice a vs.length c] 27)
  have hbA : Below w.heap.size w (w.alloc (.cells #[.int .u8 k, .bool b, .int .i64 n, .int .u64 u, .string s, .slice ka ks.length kc, .slice a vs.length c] 27)) := (Below.refl _ _).alloc (Nat.le_refl _) _
  have hlA := (Array.getElem?_eq_some_iff.1 hbx).1
  have hbx0 := hbx
  obtain ⟨c0, c1, c2, c3, c4, c5, c6⟩ := cell_agg7 hbx0
  have HBX := Lib.hid hbx
  have HBA := Lib.hid hbA
  have HVS := Lib.hid hvs
  have HKS := Lib.hid hks
  have HIH := Lib.hid ih
  have HKL := Lib.hid hkl
  have HVL := Lib.hid hvl
  clear hbx hbA hvs hks ih hkl hvl hwv hbx0
  go_enter Tryz.func21, Tryz.ntmps21
  go_upto_region 1 with fail
  generalize w.alloc (.cells #[.int .u8 k, .bool b, .int .i64 n, .int .u64 u, .string s, .slice ka ks.length kc, .slice a vs.length c] 27) = wA at *
  go_wp2_with fail
  go_loopg [5, 6] ks.length (fun g s5 s6 wr => wr = wA ∧ ∃ i : Nat, i + g = ks.length ∧ s6 = .int .i64 i ∧ s5 = .int .i64 ((1 + s.size + ks.length + keyS (ks.take i) : Nat) : Int) ∧ 1 + s.size + ks.length + keyS (ks.take i) ≤ most + 200000000000000)
  case atStart => exact ⟨rfl, 0, by omega, rfl, by rw [List.take_zero]; simp [keyS], by rw [List.take_zero]; show _ + 0 ≤ _; omega⟩
  case round =>
    obtain ⟨hwr, i, hi, rfl, rfl, hmb⟩ := hrel
    have hwr2 := hwr.symm
    subst hwr2
    obtain ⟨m, hmm⟩ : ∃ m, m = 1 + s.size + ks.length + keyS (ks.take i) := ⟨_, rfl⟩
    have HM := Lib.hid hmm
    rw [← hmm] at hmb ⊢
    clear hmm
    by_cases hlt : i < ks.length ∧ m ≤ most
    · obtain ⟨hlt, hle⟩ := hlt
      obtain ⟨x, hx⟩ : ∃ x, ks[i]? = some x := ⟨_, List.getElem?_eq_getElem hlt⟩
      obtain ⟨kb, ko, ha, -, hkb, hkc⟩ := HKS.out.resolve_left (by rintro rfl; simp at hlt)
      have f0 : wA.cell? ⟨kb, ko + i, none⟩ = some (.string x) := by rw [HBA.out.cell (p := ⟨kb, ko + i, none⟩) hkb]; exact hkc i x hx
      have htk : ks.take (i + 1) = ks.take i ++ [x] := by rw [List.take_add_one, hx]; rfl
      have hk1 := keyS_snoc (ks.take i) x
      rw [← htk] at hk1
      have hxs := HKL.out x (List.mem_of_getElem? hx)
      have HK1 := Lib.hid hk1
      have hle2 : (m : Int) ≤ (most : Int) := by omega
      subst ha
      clear hkc HKS htk hk1 hx
      go_wp2_with fail
      go_roundg (gk - 1)
      case measure => omega
      case rel => exact ⟨rfl, i + 1, by omega, by go_num, by rw [HK1.out, HM.out]; simp; omega, by rw [HK1.out]; have := HM.out; omega⟩
    · rcases Nat.lt_or_ge i ks.length with hik | hik
      · have hmo : ¬ (m : Int) ≤ (most : Int) := by omega
        clear hlt
        go_wp2_with fail
        go_loopg [5, 7] vs.length (fun g s5 s7 w9w => ∃ (j r : Nat), j + g = vs.length ∧ s7 = .int .i64 j ∧ s5 = .int .i64 r ∧ m ≤ r ∧ r ≤ most + 200000000000000 ∧ (r ≤ most → i = ks.length ∧ r = m + JV.weighL (vs.take j)) ∧ Below wA.heap.size wA w9w)
        case atStart => exact ⟨0, m, by omega, rfl, rfl, Nat.le_refl _, hmb, fun h => ⟨by omega, by rw [List.take_zero]; simp [JV.weighL]⟩, Below.refl _ _⟩
        case round =>
          obtain ⟨j, r, hj, rfl, rfl, hmr, hrb, hr2, hbq⟩ := hrel
          have hbxq := (hbq.block w.heap.size hlA).trans HBX.out
          obtain ⟨c0, c1, c2, c3, c4, c5, c6⟩ := cell_agg7 hbxq
          have HR2 := Lib.hid hr2
          have HBQ := Lib.hid hbq
          clear hr2 hbq hbxq
          rcases Nat.lt_or_ge j vs.length with hjv | hjv
          · rcases Nat.lt_or_ge most r with hrm | hrm
            · have hrm2 : ¬ (r : Int) ≤ (most : Int) := by omega
              go_wp2_with fail
              go_ret
              exact ⟨⟨r, rfl, hrb, fun h => by omega⟩, HBA.out.trans (HBQ.out.mono HBA.out.size)⟩
            · exfalso; omega
          · obtain rfl : j = vs.length := by omega
            go_wp2_with fail
            go_ret
            refine ⟨⟨r, rfl, hrb, fun h => ?_⟩, HBA.out.trans (HBQ.out.mono HBA.out.size)⟩
            · obtain ⟨h1, h2⟩ := HR2.out h
              have h3 := HM.out
              rw [h1, List.take_length] at h3
              rw [List.take_length] at h2
              omega
      · clear hlt
        go_wp2_with fail
        go_loopg [5, 7] vs.length (fun g s5 s7 w9w => ∃ (j r : Nat), j + g = vs.length ∧ s7 = .int .i64 j ∧ s5 = .int .i64 r ∧ m ≤ r ∧ r ≤ most + 200000000000000 ∧ (r ≤ most → i = ks.length ∧ r = m + JV.weighL (vs.take j)) ∧ Below wA.heap.size wA w9w)
        case atStart => exact ⟨0, m, by omega, rfl, rfl, Nat.le_refl _, hmb, fun h => ⟨by omega, by rw [List.take_zero]; simp [JV.weighL]⟩, Below.refl _ _⟩
        case round =>
          obtain ⟨j, r, hj, rfl, rfl, hmr, hrb, hr2, hbq⟩ := hrel
          have hbxq := (hbq.block w.heap.size hlA).trans HBX.out
          obtain ⟨c0, c1, c2, c3, c4, c5, c6⟩ := cell_agg7 hbxq
          have HR2 := Lib.hid hr2
          have HBQ := Lib.hid hbq
          clear hr2 hbq hbxq
          rcases Nat.lt_or_ge j vs.length with hjv | hjv
          · rcases Nat.lt_or_ge most r with hrm | hrm
            · have hrm2 : ¬ (r : Int) ≤ (most : Int) := by omega
              go_wp2_with fail
              go_ret
              exact ⟨⟨r, rfl, hrb, fun h => by omega⟩, HBA.out.trans (HBQ.out.mono HBA.out.size)⟩
            · obtain ⟨x, hx⟩ : ∃ x, vs[j]? = some x := ⟨_, List.getElem?_eq_getElem hjv⟩
              obtain ⟨q, off, ha, hq, hqw, hit⟩ := HVS.out.resolve_left (by rintro rfl; simp at hjv)
              obtain ⟨V, h7, hja⟩ := hit.get hx
              obtain ⟨xk, xb, xn, xu, xs, xa, xm, xc, xa2, xm2, xc2, rfl, d0, d1, d2, d3, d4, d5, d6⟩ := it_cells h7 hja
              have hbw := HBA.out.trans (HBQ.out.mono HBA.out.size)
              have hkq : ∀ i : Nat, wr.cell? ⟨q, i, none⟩ = w.cell? ⟨q, i, none⟩ := fun i => hbw.cell (p := ⟨q, i, none⟩) hqw
              rw [← hkq, Nat.mul_comm 7 j] at d0 d1 d2 d3 d4 d5 d6
              have htk : vs.take (j + 1) = vs.take j ++ [x] := by rw [List.take_add_one, hx]; rfl
              have hk1 := weighL_snoc (vs.take j) x
              rw [← htk] at hk1
              obtain ⟨d, hd⟩ : ∃ d : Nat, d = most - r := ⟨_, rfl⟩
              have hJ := HIH.out x (List.mem_of_getElem? hx) (fun _ => True) _ wr d (hja.kept (fun i hi hi2 => ⟨hbw.block i hi2, trivial⟩)) (HVL.out x (List.mem_of_getElem? hx)) (by omega)
              rw [show ((d : Nat) : Int) = (most : Int) - (r : Int) by omega] at hJ
              have HJ := Lib.hid hJ
              have HK1 := Lib.hid hk1
              have hrm2 : (r : Int) ≤ (most : Int) := by omega
              have HD := Lib.hid hd
              subst ha
              clear hit h7 hja hkq HVS hx htk hk1 hJ hbw hd
              go_wp2_with fail
              refine HJ.out.mono ?_
              rintro e w9 ⟨⟨z, rfl, hz1, hz2⟩, hb9⟩
              have hzb : r + z ≤ most + 200000000000000 := by have := HD.out; omega
              have HZ := Lib.hid hz2
              have HB9 := Lib.hid (HBQ.out.trans (hb9.mono HBQ.out.size))
              clear hz1 hz2 hb9 c0 c1 c2 c3 c4 c5 c6 d0 d1 d2 d3 d4 d5 d6
              go_wp2_with fail
              go_roundg (gk - 1)
              case measure => omega
              case rel =>
                refine ⟨j + 1, r + z, by omega, by go_num, by go_num, by omega, hzb, fun h => ?_, HB9.out⟩
                · have h1 := HR2.out hrm
                  have h2 := HZ.out (by have := HD.out; omega)
                  rw [HK1.out]
                  exact ⟨h1.1, by omega⟩
          · obtain rfl : j = vs.length := by omega
            go_wp2_with fail
            go_ret
            refine ⟨⟨r, rfl, hrb, fun h => ?_⟩, HBA.out.trans (HBQ.out.mono HBA.out.size)⟩
            · obtain ⟨h1, h2⟩ := HR2.out h
              have h3 := HM.out
              rw [h1, List.take_length] at h3
              rw [List.take_length] at h2
              omega
theorem weigh_any : ∀ v, WeighOk v := JV.ind fun k b n u s ks vs ih => weigh_one k b n u s ks vs ih

set_option maxRecDepth 100000 in
set_option maxHeartbeats 4000000 in
theorem far_any (ok : Nat → Prop) (v : JV) (V : Value) (w : World) (h : JAt ok w v V) (hw : Loc v) :
    Calls Tryz.prog 8 #[V] w fun e w' => (∃ z : Bool, e = .returned (.bool z) ∧ (z = false → v.weigh ≤ 8192)) ∧ Below w.heap.size w w' := by
  have hjk := fun (W : World) (hW : Below w.heap.size w W) => h.kept (ok' := fun _ => True) (fun i _ hi => ⟨hW.block i hi, trivial⟩)
  obtain ⟨k, b, n, u, s, ks, vs⟩ := v
  have h0 := h
  rw [JAt] at h0
  obtain ⟨ka, kc, a, c, rfl, -⟩ := h0
  have hbx := heap_alloc_new w (.cells #[.int .u8 k, .bool b, .int .i64 n, .int .u64 u, .string s, .slice ka ks.length kc, .slice a vs.length c] 27)
  have hbA : Below w.heap.size w (w.alloc (.cells #[.int .u8 k, .bool b, .int .i64 n, .int .u64 u, .string s, .slice ka ks.length kc, .slice a vs.length c] 27)) := (Below.refl _ _).alloc (Nat.le_refl _) _
  obtain ⟨c0, c1, c2, c3, c4, c5, c6⟩ := cell_agg7 hbx
  have HL := Lib.hid (weigh_any _ _ _ _ 8192 (hjk _ hbA) hw (by decide))
  have HBA := Lib.hid hbA
  clear hbx hbA h hjk
  generalize JV.mk k b n u s ks vs = v at *
  go_enter Tryz.func8, Tryz.ntmps8
  go_wp2_with fail
  refine HL.out.mono ?_
  rintro e w1 ⟨⟨r, rfl, h1, h2⟩, hb1⟩
  have HB1 := Lib.hid (HBA.out.trans (hb1.mono HBA.out.size))
  have H2 := Lib.hid h2
  clear hb1 c0 c1 c2 c3 c4 c5 c6 h1 h2
  by_cases h8 : 8192 < r
  · go_wp2_with fail
    go_ret
    exact ⟨⟨_, rfl, fun h => absurd h (by simp; omega)⟩, HB1.out⟩
  · go_wp2_with fail
    go_ret
    exact ⟨⟨_, rfl, fun _ => by have := H2.out (by omega); omega⟩, HB1.out⟩
end Go.Proofs.YtckaoeloofbklaaGreatDoor

/- JsonSafe: the walk. -/
namespace Go.Proofs.YtckaoeloofbklaaGreatDoor
open Go Go.RowKit Go.Lib

attribute [local go_sem] Oper.semAt_some

theorem keeps_set {W : World} {p : Nat} {c : Array Value} {T : TypeId} {f : Nat × Nat} (h : W.heap[p]? = some (.cells c T f)) (u : Value) : KeepsOthers W (W.setCell ⟨p, 0, none⟩ u) := by
  refine ⟨by simp [World.setCell], fun k o hk hc => ?_⟩
  by_cases e : k = p
  · subst e; rw [h] at hk; cases hk; cases hc
  · rw [Below.heap_setCell _ _ _ _ e]; exact hk
/-- the test of a code point -/
def sfR (r : Nat) : Prop := 32 ≤ r ∧ r ≠ 127 ∧ r ≠ 60 ∧ r ≠ 62 ∧ r ≠ 38 ∧ r ≠ 39 ∧ r ≠ 8232 ∧ r ≠ 8233
def badP (pre : List (Nat × Nat)) : Prop := ∃ y ∈ pre, ¬ sfR (min y.2 1114111)
theorem safe_pts (l : List UInt8) (h : Sf l) (x : Nat × Nat) (hx : x ∈ ptsO 0 l) : sfR (min x.2 1114111) := by
  have h1 : x.2 ∈ pts l := by rw [← ptsO_pts 0 l]; exact List.mem_map_of_mem hx
  obtain ⟨hs, h2⟩ := h.pts _ h1
  unfold Scal at hs
  unfold sfR
  rw [Nat.min_eq_left (by omega)]
  omega
set_option maxRecDepth 100000 in
set_option maxHeartbeats 8000000 in
theorem safe_walk (ok : Nat → Prop) (v : JV) (V : Value) (K : Nat) (w : World) (hT : Lib.Utf8Tabs 0 1 w) (hG : Globs w) (hGT : GlobT K w) (h : JAt ok w v V) (hk : KOk v) (hr : Rng v) (hw : Loc v) :
    Calls Tryz.prog 5 #[V] w fun e w' => e = .returned (.bool true) ∧ Below w.heap.size w w' := by
  have h17 := hG.glob.lt
  have hjk := fun (W : World) (hW : Below w.heap.size w W) => h.kept (ok' := fun _ => True) (fun i _ hi => ⟨hW.block i hi, trivial⟩)
  have HTT := Lib.hid hT
  have HW := Lib.hid (fun (W : World) (hb : Below w.heap.size w W) => (callsIn_wide (n := 3)).2 (works_any K W (utabs_kept hT (hb.mono h17)) (hG.on hb) (hGT.on hb)))
  have HF := Lib.hid (fun (W : World) (hb : Below w.heap.size w W) => (callsIn_wide (n := 3)).2 (far_any (fun _ => True) v V W (hjk W hb) hw))
  have HS := Lib.hid (fun (W : World) (hb : Below w.heap.size w W) (h8 : v.weigh ≤ 8192) => (callsIn_wide (n := 3)).2 (showM_any (fun _ => True) v V W (hG.on hb) (utabs_kept hT (hb.mono h17)) (Nat.le_trans h17 hb.size) (hjk W hb) hk hr (by omega) (by have := show_len v hr; omega)))
  have hvs : v.check ≠ 0 ∨ (shJ v).length ≤ 200 * v.weigh := .inr (by have := show_len v hr; omega)
  have hsf := sf_show v hr
  obtain ⟨S, hS, hSf, hSl⟩ : ∃ S : ByteArray, showR v = .tuple #[.string S, .int .i64 v.check] ∧ Sf S.data.toList ∧ S.size ≤ 200 * v.weigh := by
    refine ⟨_, rfl, ?_, ?_⟩
    · split
      · exact hsf
      · exact Sf.nil
    · split
      · show (shJ v).length ≤ _; have := show_len v hr; omega
      · show 0 ≤ _; omega
  have HSF := Lib.hid hSf
  rw [hS] at HS
  clear hvs hsf hS hSf
  have hform : ∃ (k : Int) (b : Bool) (n u : Int) (s : ByteArray) (ka : Option Addr) (kn kc : Nat) (a : Option Addr) (an c : Nat), V = .agg #[.int .u8 k, .bool b, .int .i64 n, .int .u64 u, .string s, .slice ka kn kc, .slice a an c] := by
    obtain ⟨k, b, n, u, s, ks, vs⟩ := v
    rw [JAt] at h
    obtain ⟨ka, kc, a, c, rfl, -⟩ := h
    exact ⟨_, _, _, _, _, _, _, _, _, _, _, rfl⟩
  obtain ⟨k, b, n, u, s, ka, kn, kc, a, an, c, rfl⟩ := hform
  have hbx := heap_alloc_new w (.cells #[.int .u8 k, .bool b, .int .i64 n, .int .u64 u, .string s, .slice ka kn kc, .slice a an c] 27)
  have hbA : Below w.heap.size w (w.alloc (.cells #[.int .u8 k, .bool b, .int .i64 n, .int .u64 u, .string s, .slice ka kn kc, .slice a an c] 27)) := (Below.refl _ _).alloc (Nat.le_refl _) _
  have hsA : (w.alloc (.cells #[.int .u8 k, .bool b, .int .i64 n, .int .u64 u, .string s, .slice ka kn kc, .slice a an c] 27)).heap.size = w.heap.size + 1 := by simp
  have hbB := hbA.alloc (by simp) (.cells #[.bool false] 4)
  have hbox := (heapJ_old _ (.cells #[.bool false] 4) w.heap.size (by omega)).trans hbx
  have hbr := heap_alloc_new (w.alloc (.cells #[.int .u8 k, .bool b, .int .i64 n, .int .u64 u, .string s, .slice ka kn kc, .slice a an c] 27)) (.cells #[.bool false] 4)
  rw [hsA] at hbr
  have HBOX := Lib.hid hbox
  have HBR := Lib.hid hbr
  have HBB := Lib.hid hbB
  have HWK := Lib.hid (HW.out _ hbB)
  have hlr := (Array.getElem?_eq_some_iff.1 hbr).1
  obtain ⟨c0, c1, c2, c3, c4, c5, c6⟩ := cell_agg7 hbox
  clear hbx hbA hbB hbox hbr h hjk hT hG hGT hk hr HW hsA
  refine (callsIn_wide (n := 4)).1 ?_
  refine callsIn_of_wp_marks Tryz.func5 rfl trivial ?_ rfl
  simp only [Tryz.ntmps5, List.size_toArray, List.length_cons, List.length_nil, Nat.reduceAdd, Nat.reduceSub, Array.replicate_succ, Array.replicate_zero, List.push_toArray, List.append_toArray, List.nil_append, List.cons_append]
  gi_wp2_with fail
  refine ⟨trivial, HWK.out.mono ?_⟩
  rintro e w1 ⟨rfl, hb1⟩
  have hbx1 := (hb1.block w.heap.size (by omega)).trans HBOX.out
  have hbr1 := (hb1.block (w.heap.size + 1) hlr).trans HBR.out
  have hw1 := HBB.out.trans (hb1.mono HBB.out.size)
  clear c0 c1 c2 c3 c4 c5 c6
  obtain ⟨c0, c1, c2, c3, c4, c5, c6⟩ := cell_agg7 hbx1
  have HBX1 := Lib.hid hbx1
  have HBR1 := Lib.hid hbr1
  have hlr1 := (Array.getElem?_eq_some_iff.1 hbr1).1
  have HW1 := Lib.hid hw1
  have HFF := Lib.hid (HF.out _ hw1)
  clear hb1 hbx1 hbr1 hw1 HBOX HBR HBB HWK HF hlr
  gi_wp2_with fail
  refine ⟨trivial, HFF.out.mono ?_⟩
  rintro e w2 ⟨⟨z, rfl, hz⟩, hb2⟩
  have hbx2 := (hb2.block w.heap.size (by omega)).trans HBX1.out
  have hbr2 := (hb2.block (w.heap.size + 1) hlr1).trans HBR1.out
  have hw2 := HW1.out.trans (hb2.mono HW1.out.size)
  clear c0 c1 c2 c3 c4 c5 c6
  obtain ⟨c0, c1, c2, c3, c4, c5, c6⟩ := cell_agg7 hbx2
  have r0 : w2.cell? ⟨w.heap.size + 1, 0, none⟩ = some (.bool false) := by rw [cell_of_row _ _ 0 _ _ _ hbr2]; rfl
  have r1 : w2.frozen? ⟨w.heap.size + 1, 0, none⟩ = false := froz_agg hbr2 0
  have HBX2 := Lib.hid hbx2
  have HBR2 := Lib.hid hbr2
  have hlr2 := (Array.getElem?_eq_some_iff.1 hbr2).1
  have HW2 := Lib.hid hw2
  clear hb2 hbx2 hbr2 hw2 HBX1 HBR1 HW1 HFF hlr1
  cases z with
  | true =>
    clear hz
    gi_wp2_with fail
    have r9 : (w2.setCell ⟨w.heap.size + 1, 0, none⟩ (.bool true)).cell? ⟨w.heap.size + 1, 0, none⟩ = some (.bool true) := by
      have := setCellJ (j := 0) HBR2.out (.bool true)
      rw [cell_of_row _ _ 0 _ _ _ this]; rfl
    refine ⟨.bool true, ?_, rfl, HW2.out.setCell (p := ⟨w.heap.size + 1, 0, none⟩) (Nat.le_succ _) _⟩
    simp [results, Tryz.f5, go_sem, r9]
  | false =>
    have h8 := hz rfl
    have HSS := Lib.hid (HS.out _ HW2.out h8)
    have hSb : S.size ≤ 1638400 := by omega
    clear hz hSl
    gi_wp2_with fail
    refine ⟨trivial, HSS.out.mono ?_⟩
    rintro e w3 ⟨rfl, hb3⟩
    have hbr3 := (hb3.block (w.heap.size + 1) hlr2).trans HBR2.out
    have hw3 := HW2.out.trans (hb3.mono HW2.out.size)
    have HBR3 := Lib.hid hbr3
    have hlr3 := (Array.getElem?_eq_some_iff.1 hbr3).1
    have HW3 := Lib.hid hw3
    clear hb3 hbr3 hw3 HBR2 HW2 HSS c0 c1 c2 c3 c4 c5 c6 r0 r1
    gi_wp2_with fail
    refine ⟨trivial, (points_in 3 S _).mono ?_⟩
    rintro e w4 ⟨rfl, rfl⟩
    have hbox := heap_alloc_new w3 (.cells #[.string S] 9)
    have hws : (w3.alloc (.cells #[.string S] 9)).heap.size = w3.heap.size + 1 := by simp
    have hbr4 := (heapJ_old w3 (.cells #[.string S] 9) (w.heap.size + 1) hlr3).trans HBR3.out
    have hw4 := HW3.out.alloc HW3.out.size (.cells #[.string S] 9)
    generalize w3.alloc (.cells #[.string S] 9) = wL at *
    obtain ⟨sq, hsqq⟩ : ∃ n, n = w3.heap.size := ⟨_, rfl⟩
    rw [← hsqq] at hbox hws ⊢
    have hcL : wL.cell? ⟨sq, 0, Option.none⟩ = some (.string S) := by rw [cell_of_row wL _ 0 _ _ _ hbox]; rfl
    have HBOX := Lib.hid hbox
    have HBR4 := Lib.hid hbr4
    have HW4 := Lib.hid hw4
    have hsl := hw4.size
    have hlr4 := (Array.getElem?_eq_some_iff.1 hbr4).1
    clear hsqq
    gi_wp2_with fail
    refine wpIn_rangeFunc_ownF (α := Nat × Nat) rfl (by omega) (gf := 40) (lb := #[.pointer (some ⟨sq, 0, Option.none⟩)]) rfl trivial (enters_of Tryz.func40 (by kernel_rfl) rfl)
      (points_stops _ (by omega) sq S wL (by omega) (utabs_kept HTT.out (hw4.mono h17)) (by omega) (by omega) hcL) KpP.t (KpP.b (by omega) (by omega)) (Below.refl _ _) (fun _ => rfl)
      (fun pre W => Below w.heap.size w W ∧ wL.heap.size ≤ W.heap.size ∧ W.heap[w.heap.size + 1]? = some (.cells #[.bool false] 4 (0, 0)))
      (fun _ pre _ => badP pre)
      (fun s A B row hs hg hr => ⟨hs.1.grown hg hs.1.size (fun k e => by have := (hr k e).1; omega), Nat.le_trans hs.2.1 hg.size, by
        rw [hg.block _ (Array.getElem?_eq_some_iff.1 hs.2.2).1 (fun e => by obtain ⟨_, o, ho, hcl⟩ := hr _ e.symm; rw [hs.2.2] at ho; cases ho; cases hcl)]; exact hs.2.2⟩)
      (fun c s A B row hs hg hr => hs)
      ⟨HW4.out, Nat.le_refl _, HBR4.out⟩
      (fun x => { tmps := #[.agg #[.int .u8 k, .bool b, .int .i64 n, .int .u64 u, .string s, .slice ka kn kc, .slice a an c], .pointer (some ⟨w.heap.size, 0, none⟩), .pointer (some ⟨w.heap.size + 1, 0, none⟩), .bool true, .bool false, .string S, .int .i64 v.check, undef, .int .i32 ((min x.2 1114111 : Nat) : Int), .bool true, .bool true, .bool false, .agg #[.int .u8 k, .bool b, .int .i64 n, .int .u64 u, .string s, .slice ka kn kc, .slice a an c], .bool false, .bool false, undef, .tuple #[.string S, .int .i64 v.check], .agg #[.int .u8 k, .bool b, .int .i64 n, .int .u64 u, .string s, .slice ka kn kc, .slice a an c], .tuple #[.string S, .int .i64 v.check], .string S, .int .i64 v.check, .string S, .func (.func 40) #[] #[.pointer (some ⟨sq, 0, Option.none⟩)], .int .i64 (x.1 : Int), .int .i32 ((min x.2 1114111 : Nat) : Int), undef, undef, undef, undef, undef, undef, undef, undef, undef, undef, undef, undef, undef, undef, undef, undef, undef, undef, undef, undef, undef, undef, undef, undef, undef, undef, undef, undef, undef, undef, undef, undef, undef, undef, undef], defers := [] })
      ?assign ?body ?done ?stop
    case assign =>
      rintro l' x W K hK
      dsimp only [encP]
      gi_wp2
      exact hK
    case body =>
      rintro l' pre x W ⟨hB, hsz, hbr⟩ hlt
      have r0 : W.cell? ⟨w.heap.size + 1, 0, none⟩ = some (.bool false) := by rw [cell_of_row _ _ 0 _ _ _ hbr]; rfl
      have r1 : W.frozen? ⟨w.heap.size + 1, 0, none⟩ = false := froz_agg hbr 0
      have HB := Lib.hid (And.intro hB (And.intro hsz hbr))
      have hun : ¬ sfR (min x.2 1114111) → badP (pre ++ [x]) := fun h => ⟨x, by simp, h⟩
      have HUN := Lib.hid hun
      clear hB hsz hbr hun
      have hrl : min x.2 1114111 ≤ 1114111 := by omega
      generalize min x.2 1114111 = r at *
      rcases Nat.lt_or_ge r 32 with g0 | g0
      · gi_wp2_with fail
        exact ⟨keeps_set HB.out.2.2 _, HUN.out (by unfold sfR; omega)⟩
      · by_cases g127 : r = 127
        · gi_wp2_with fail
          exact ⟨keeps_set HB.out.2.2 _, HUN.out (by unfold sfR; omega)⟩
        · by_cases g60 : r = 60
          · gi_wp2_with fail
            exact ⟨keeps_set HB.out.2.2 _, HUN.out (by unfold sfR; omega)⟩
          · by_cases g62 : r = 62
            · gi_wp2_with fail
              exact ⟨keeps_set HB.out.2.2 _, HUN.out (by unfold sfR; omega)⟩
            · by_cases g38 : r = 38
              · gi_wp2_with fail
                exact ⟨keeps_set HB.out.2.2 _, HUN.out (by unfold sfR; omega)⟩
              · by_cases g39 : r = 39
                · gi_wp2_with fail
                  exact ⟨keeps_set HB.out.2.2 _, HUN.out (by unfold sfR; omega)⟩
                · by_cases g8232 : r = 8232
                  · gi_wp2_with fail
                    exact ⟨keeps_set HB.out.2.2 _, HUN.out (by unfold sfR; omega)⟩
                  · by_cases g8233 : r = 8233
                    · gi_wp2_with fail
                      exact ⟨keeps_set HB.out.2.2 _, HUN.out (by unfold sfR; omega)⟩
                    · have i32 : ¬ (r : Int) < 32 := by omega
                      have i127 : ((r : Int) == 127) = false := by rw [beq_eq_false_iff_ne]; omega
                      have j127 : ¬ (r : Int) = 127 := by omega
                      have i60 : ((r : Int) == 60) = false := by rw [beq_eq_false_iff_ne]; omega
                      have j60 : ¬ (r : Int) = 60 := by omega
                      have i62 : ((r : Int) == 62) = false := by rw [beq_eq_false_iff_ne]; omega
                      have j62 : ¬ (r : Int) = 62 := by omega
                      have i38 : ((r : Int) == 38) = false := by rw [beq_eq_false_iff_ne]; omega
                      have j38 : ¬ (r : Int) = 38 := by omega
                      have i39 : ((r : Int) == 39) = false := by rw [beq_eq_false_iff_ne]; omega
                      have j39 : ¬ (r : Int) = 39 := by omega
                      have i8232 : ((r : Int) == 8232) = false := by rw [beq_eq_false_iff_ne]; omega
                      have j8232 : ¬ (r : Int) = 8232 := by omega
                      have i8233 : ((r : Int) == 8233) = false := by rw [beq_eq_false_iff_ne]; omega
                      have j8233 : ¬ (r : Int) = 8233 := by omega
                      gi_wp2_with fail
                      exact ⟨KeepsOthers.refl _, KpP.refl _ _, HB.out.1, by have := HB.out.2.1; omega, HB.out.2.2⟩
    case done =>
      rintro D ys W hD rfl ⟨hB, hsz, hbr⟩ hK
      have hv := (callsIn_wide (n := 3)).2 (valid_any S W (utabs_kept HTT.out (hB.mono h17)) (by omega))
      rw [HSF.out.valid] at hv
      have HV := Lib.hid hv
      have hlr := (Array.getElem?_eq_some_iff.1 hbr).1
      have hlD := (Array.getElem?_eq_some_iff.1 hK).1
      have hne : w.heap.size + 1 ≠ D := by omega
      have hne2 : D ≠ w.heap.size + 1 := by omega
      have HNE := Lib.hid (And.intro hne hne2)
      have HBB := Lib.hid hB
      have HBR := Lib.hid hbr
      have HK := Lib.hid hK
      clear hv hB hbr hK
      gi_wp2_with fail
      refine ⟨trivial, HV.out.mono ?_⟩
      rintro e w9 ⟨rfl, hb9⟩
      have hbr9 := (hb9.block (w.heap.size + 1) hlr).trans HBR.out
      have hK9 := (hb9.block D hlD).trans HK.out
      have r0 : w9.cell? ⟨w.heap.size + 1, 0, none⟩ = some (.bool false) := by rw [cell_of_row _ _ 0 _ _ _ hbr9]; rfl
      have r1 : w9.frozen? ⟨w.heap.size + 1, 0, none⟩ = false := froz_agg hbr9 0
      have HB9 := Lib.hid (HBB.out.trans (hb9.mono HBB.out.size))
      have HR9 := Lib.hid hbr9
      have HK9 := Lib.hid hK9
      clear hb9 hbr9 hK9
      gi_wp2_with fail
      have hset := setCellJ (j := 0) HR9.out (.bool true)
      have hD2 : (w9.setCell ⟨w.heap.size + 1, 0, none⟩ (.bool true)).heap[D]? = some (.deferred (some [])) := by
        rw [Below.heap_setCell _ _ _ _ HNE.out.2]; exact HK9.out
      refine ⟨by simp, .inl ⟨_, _, rfl, run_takeDeferred hD2, ?_⟩⟩
      refine ⟨.bool true, ?_, rfl, (HB9.out.setCell (p := ⟨w.heap.size + 1, 0, none⟩) (Nat.le_succ _) _).trans (belowK_b (w := w) (Nat.le_refl _) _ D _ _ (by omega) hD2 rfl rfl)⟩
      have r9 : ∀ o, ((w9.setCell ⟨w.heap.size + 1, 0, none⟩ (.bool true)).putObj D o).cell? ⟨w.heap.size + 1, 0, none⟩ = some (.bool true) := fun o => by
        have h1 : ((w9.setCell ⟨w.heap.size + 1, 0, none⟩ (.bool true)).putObj D o).heap[w.heap.size + 1]? = _ := (World.putObj_heap_other HNE.out.1).trans hset
        rw [cell_of_row _ _ 0 _ _ _ h1]; rfl
      simp [results, Tryz.f5, go_sem, r9]
    case stop =>
      rintro D c pre W hD ⟨rr, hrr⟩ ⟨y, hy, hn⟩ hK
      exact absurd (safe_pts _ HSF.out y (by rw [← hrr]; exact List.mem_append_left _ hy)) hn
end Go.Proofs.YtckaoeloofbklaaGreatDoor

/- Values that came in. -/
namespace Go.Proofs.YtckaoeloofbklaaGreatDoor
open Go Go.ChangeShapes Go.WideShapes Go.ChangeAt Go.RowKit Go.WideMaps Go.WideElems Go.Deep

theorem weightsAllV_mem {H : Type} {P : Program} {e : TypeId} : ∀ {l : List (DataW H)} {d : DataW H}, d ∈ l → ∀ n ∈ d.weights P e, n ∈ DataW.weightsAll P e l
  | d' :: r, d, hd, n, hn => by
    simp only [DataW.weightsAll, List.mem_append]
    rcases List.mem_cons.1 hd with rfl | h
    · exact .inl hn
    · exact .inr (weightsAllV_mem h n hn)

section
variable {H : Type} {enc : TypeId × Value → H} {W : World}

theorem val_cells : Tryz.prog.cellsOf 27 = 7 := by kernel_rfl
theorem kind_cells : Tryz.prog.cellsOf 22 = 1 := by kernel_rfl
theorem boolV_cells : Tryz.prog.cellsOf 4 = 1 := by kernel_rfl
theorem i64_cells : Tryz.prog.cellsOf 2 = 1 := by kernel_rfl
theorem u64V_cells : Tryz.prog.cellsOf 23 = 1 := by kernel_rfl
theorem strV_cells : Tryz.prog.cellsOf 9 = 1 := by kernel_rfl
theorem strsV_cells : Tryz.prog.cellsOf 24 = 1 := by kernel_rfl
theorem vals_cells : Tryz.prog.cellsOf 25 = 1 := by kernel_rfl
theorem strV_bytes : Tryz.prog.bytesOf 9 = 16 := by kernel_rfl
theorem val_bytes : 16 ≤ Tryz.prog.bytesOf 27 := of_decide_eq_true (by kernel_rfl)
theorem seven {α : Type} (l : List α) (h : l.length = 7) : ∃ a b c d e f g, l = [a, b, c, d, e, f, g] := by
  match l, h with
  | [a, b, c, d, e, f, g], _ => exact ⟨a, b, c, d, e, f, g, rfl⟩
theorem add_noneV (b o k : Nat) : (⟨b, o, Option.none⟩ : Addr).add k = ⟨b, o + k, Option.none⟩ := by simp [Addr.add]
theorem itAt_of {ok : Nat → Prop} {q : Nat} : ∀ (vs : List JV) (off : Nat), (∀ i x, vs[i]? = some x → ∃ V, Cells7 W q (off + 7 * i) V ∧ JAt ok W x V) → ItAt ok W q off vs
  | [], _, _ => by rw [ItAt]; trivial
  | v :: vs, off, h => by
    rw [ItAt]
    refine ⟨by simpa using h 0 v rfl, itAt_of vs (off + 7) fun i x hx => ?_⟩
    have := h (i + 1) x (by simpa using hx)
    rwa [show off + 7 * (i + 1) = off + 7 + 7 * i by omega] at this

theorem bulk_strs : ∀ l : List ByteArray, l.length + (l.map ByteArray.size).sum ≤ Rows.uptoBulkAll (strs (H := H) l)
  | [] => by simp
  | s :: l => by
    have := bulk_strs l
    have e : strs (H := H) (s :: l) = .lit (.string s.data.toList) :: strs l := rfl
    rw [e, Rows.uptoBulkAll, Rows.uptoBulk, List.length_cons, List.map_cons, List.sum_cons]
    have h : s.data.toList.length = s.size := by simp
    omega
theorem bulk_vals (f : Nat → JV) (D : Nat → DataW H) : ∀ l : List Nat, (∀ i ∈ l, (f i).weigh ≤ Rows.uptoBulk (D i)) → JV.weighL (l.map f) ≤ Rows.uptoBulkAll (l.map D)
  | [], _ => by simp [JV.weighL]
  | i :: l, h => by
    have := bulk_vals f D l fun j hj => h j (by simp [hj])
    have := h i (by simp)
    rw [List.map_cons, List.map_cons, JV.weighL, Rows.uptoBulkAll]
    omega
/-- names, and what they weigh -/
theorem namesV_of_trod {fuel : Nat} {c : Value} {x : DataW H × List MemPlace} (h : DataW.trod enc Tryz.prog W 0 (fun _ => true) true fuel 24 [c] = some x) (hw : ∀ q ∈ x.1.weights Tryz.prog 24, q ≤ reachBytes) :
    ∃ a k ks, c = .slice a (ks : List ByteArray).length k ∧ StrsAt (fun _ => True) W a ks ∧ ks.length ≤ 35184372080000 ∧ (∀ s ∈ ks, s.size ≤ 140737488351232) ∧ ks.length + (ks.map ByteArray.size).sum ≤ Rows.uptoBulk x.1 := by
  rcases open_strings Tryz.underlying24 Tryz.underlying9 strV_cells h with ⟨hcs, _⟩ | ⟨ad, len, cap, ss, hcs, _, hl, hm, hz, rfl, hcell, _⟩
  · simp at hcs
    subst hcs
    exact ⟨Option.none, 0, [], rfl, .inl rfl, by simp, by simp, by simp⟩
  · simp at hcs
    subst hcs
    simp only [if_true] at hz
    have hlen : (ss.take len).length = len := by rw [List.length_take]; omega
    simp only [DataW.weights, Tryz.underlying24, List.mem_cons, List.mem_append] at hw
    have hb := hw _ (.inl rfl)
    rw [strV_bytes] at hb
    have hle : len ≤ (strs (H := H) (ss.take len)).length + (strs (H := H) (ss.drop len)).length := by simp [strs]; omega
    refine ⟨some ad, cap, ss.take len, by rw [hlen], ?_, by rw [hlen]; unfold reachBytes at hb; omega, fun s hs => ?_, ?_⟩
    · by_cases h0 : len = 0
      · exact .inl (by rw [h0, List.take_zero])
      · have hc0 := hcell 0 (by omega)
        have hspot : ad.spot = Option.none := by
          have := World.cell?_spot hc0
          simpa [Addr.add] using this
        obtain ⟨b, off, spot⟩ := ad
        simp at hspot
        subst hspot
        refine .inr ⟨b, off, rfl, trivial, World.block_lt_of_cell? W _ hc0, fun j k hj => ?_⟩
        have hj2 := (List.getElem?_eq_some_iff.1 hj).1
        rw [hlen] at hj2
        have := hcell j (by omega)
        rw [show (⟨b, off, Option.none⟩ : Addr).add j = ⟨b, off + j, Option.none⟩ from by simp [Addr.add]] at this
        rw [this]
        rw [List.getElem?_take, if_pos hj2] at hj
        rw [List.getD_eq_getElem?_getD, hj]
        rfl
    · have := hw s.size (.inr (.inl (weightsAllV_mem (d := .lit (.string s.data.toList)) (List.mem_map.2 ⟨s, hs, rfl⟩) _ (by simp [DataW.weights]))))
      unfold reachBytes at this
      omega
    · rw [Rows.uptoBulk]
      have := bulk_strs (H := H) (ss.take len)
      omega

set_option maxRecDepth 10000 in
/-- a value, read cell by cell -/
theorem val_of_trod : ∀ (N fuel : Nat) (cs : List Value) (x : DataW H × List MemPlace), SizeOf.sizeOf x.1 < N → DataW.trod enc Tryz.prog W 0 (fun _ => true) true fuel 27 cs = some x →
    (∀ q ∈ x.1.weights Tryz.prog 27, q ≤ reachBytes) → ∃ (v : JV) (c0 c1 c2 c3 c4 c5 c6 : Value), cs = [c0, c1, c2, c3, c4, c5, c6] ∧ JAt (fun _ => True) W v (.agg #[c0, c1, c2, c3, c4, c5, c6]) ∧ KOk v ∧ Rng v ∧ Loc v ∧ v.weigh ≤ Rows.uptoBulk x.1
  | 0, _, _, _, h, _, _ => by omega
  | N + 1, fuel, cs, x, hN, h, hw => by
    obtain ⟨ys, n', hn', hy, hlen, hyl, hf⟩ := DataW.trod_struct Tryz.underlying27 h
    rw [val_cells] at hlen
    obtain ⟨c0, c1, c2, c3, c4, c5, c6, rfl⟩ := seven cs hlen
    obtain ⟨y0, y1, y2, y3, y4, y5, y6, rfl⟩ := seven ys hyl
    have h0 := hf 0 _ rfl
    have h1 := hf 1 _ rfl
    have h2 := hf 2 _ rfl
    have h3 := hf 3 _ rfl
    have h4 := hf 4 _ rfl
    have h5 := hf 5 _ rfl
    have h6 := hf 6 _ rfl
    replace h0 : DataW.trod enc Tryz.prog W 0 (fun _ => true) true n' 22 (List.take (Tryz.prog.cellsOf 22) [c0, c1, c2, c3, c4, c5, c6]) = some y0 := h0
    replace h1 : DataW.trod enc Tryz.prog W 0 (fun _ => true) true n' 4 (List.take (Tryz.prog.cellsOf 4) [c1, c2, c3, c4, c5, c6]) = some y1 := h1
    replace h2 : DataW.trod enc Tryz.prog W 0 (fun _ => true) true n' 2 (List.take (Tryz.prog.cellsOf 2) [c2, c3, c4, c5, c6]) = some y2 := h2
    replace h3 : DataW.trod enc Tryz.prog W 0 (fun _ => true) true n' 23 (List.take (Tryz.prog.cellsOf 23) [c3, c4, c5, c6]) = some y3 := h3
    replace h4 : DataW.trod enc Tryz.prog W 0 (fun _ => true) true n' 9 (List.take (Tryz.prog.cellsOf 9) [c4, c5, c6]) = some y4 := h4
    replace h5 : DataW.trod enc Tryz.prog W 0 (fun _ => true) true n' 24 (List.take (Tryz.prog.cellsOf 24) [c5, c6]) = some y5 := h5
    replace h6 : DataW.trod enc Tryz.prog W 0 (fun _ => true) true n' 25 (List.take (Tryz.prog.cellsOf 25) [c6]) = some y6 := h6
    rw [kind_cells] at h0
    rw [boolV_cells] at h1
    rw [i64_cells] at h2
    rw [u64V_cells] at h3
    rw [strV_cells] at h4
    rw [strsV_cells] at h5
    rw [vals_cells] at h6
    obtain ⟨k, e0, _, w0⟩ := DataW.trod_int Tryz.underlying22 h0
    obtain ⟨b, e1, _⟩ := DataW.trod_bool Tryz.underlying4 h1
    obtain ⟨nn, e2, _, w2⟩ := DataW.trod_int Tryz.underlying2 h2
    obtain ⟨u, e3, _, w3⟩ := DataW.trod_int Tryz.underlying23 h3
    obtain ⟨s, e4, f4, w4⟩ := DataW.trod_string Tryz.underlying9 h4
    simp at e0 e1 e2 e3 e4
    subst e0 e1 e2 e3 e4
    simp only [Lit.wf, IntKind.min, IntKind.max, IntKind.signed, IntKind.bits] at w0 w2 w3
    simp at w0 w2 w3
    have hx1 : x.1 = .agg [y0.1, y1.1, y2.1, y3.1, y4.1, y5.1, y6.1] := by rw [hy]; rfl
    have hwe : ∀ (j : Nat) (t : TypeId) (d : DataW H), [22, 4, 2, 23, 9, 24, 25][j]? = some t → [y0.1, y1.1, y2.1, y3.1, y4.1, y5.1, y6.1][j]? = some d → ∀ q ∈ d.weights Tryz.prog t, q ≤ reachBytes := by
      intro j t d ht hd q hq
      refine hw q ?_
      rw [hx1]
      simp only [DataW.weights, Tryz.underlying27]
      exact DataW.weights_mem_each (j := j) (t := t) (d := d) ht hd q hq
    have hs : s.size ≤ 140737488351232 := by
      have := hwe 4 _ _ rfl rfl s.size (by rw [f4]; simp [DataW.weights])
      unfold reachBytes at this
      omega
    simp only [List.take_succ_cons, List.take_zero] at h5 h6
    obtain ⟨ka, kc, ks, rfl, hks, hkn, hkz, hkb⟩ := namesV_of_trod h5 (hwe 5 _ _ rfl rfl)
    have hw6 := hwe 6 _ _ rfl rfl
    obtain ⟨a, c, vs, rfl, hvs, hvn, hall, hvb⟩ : ∃ a c vs, c6 = .slice a (vs : List JV).length c ∧ (vs = [] ∨ ∃ q off, a = some ⟨q, off, none⟩ ∧ True ∧ q < W.heap.size ∧ ItAt (fun _ => True) W q off vs) ∧ vs.length ≤ 35184372080000 ∧ (∀ v ∈ vs, KOk v ∧ Rng v ∧ Loc v) ∧ JV.weighL vs ≤ Rows.uptoBulk y6.1 := by
      rcases open_slice Tryz.underlying25 h6 with ⟨hcs, _⟩ | ⟨ad, len, cap, m, n, D, Pl, hcs, _, hl, hm, hmm, hx, hi⟩
      · simp at hcs
        subst hcs
        exact ⟨Option.none, 0, [], rfl, .inl rfl, by simp, by simp, by simp [JV.weighL]⟩
      · simp at hcs
        subst hcs
        simp at hmm
        subst hmm
        have hd : y6.1 = .slice ((List.range len).map D) ((List.range (m - len)).map fun j => D (len + j)) := congrArg Prod.fst hx
        rw [hd] at hw6
        simp only [DataW.weights, Tryz.underlying25, List.mem_cons, List.mem_append] at hw6
        have hb := hw6 _ (.inl rfl)
        have hvb := val_bytes
        have hln : len * 16 ≤ reachBytes := by
          refine Nat.le_trans (Nat.mul_le_mul (by simp) hvb) hb
        have hsz : ∀ i, i < len → SizeOf.sizeOf (D i) < N := by
          intro i hi'
          have g1 : SizeOf.sizeOf (D i) < SizeOf.sizeOf ((List.range len).map D) := List.sizeOf_lt_of_mem (List.mem_map.2 ⟨i, List.mem_range.2 hi', rfl⟩)
          have g2 : SizeOf.sizeOf y6.1 = 1 + SizeOf.sizeOf ((List.range len).map D) + SizeOf.sizeOf ((List.range (m - len)).map fun j => D (len + j)) := by rw [hd, DataW.slice.sizeOf_spec]
          have g3 : SizeOf.sizeOf x.1 = 1 + SizeOf.sizeOf [y0.1, y1.1, y2.1, y3.1, y4.1, y5.1, y6.1] := by rw [hx1, DataW.agg.sizeOf_spec]
          have g4 : SizeOf.sizeOf y6.1 < SizeOf.sizeOf [y0.1, y1.1, y2.1, y3.1, y4.1, y5.1, y6.1] := List.sizeOf_lt_of_mem (by simp)
          omega
        by_cases hl0 : len = 0
        · subst hl0
          exact ⟨some ad, m, [], rfl, .inl rfl, by simp, by simp, by simp [JV.weighL]⟩
        have hspot : ad.spot = Option.none ∧ ad.block < W.heap.size := by
          obtain ⟨cs', hc, ht⟩ := hi 0 (by omega)
          rw [val_cells] at hc
          obtain ⟨v, d0, d1, d2, d3, d4, d5, d6, rfl, _⟩ := val_of_trod N n cs' (D 0, Pl 0) (hsz 0 (by omega)) ht (fun q hq => hw6 q (.inr (.inl (weightsAllV_mem (List.mem_map.2 ⟨0, List.mem_range.2 (by omega), rfl⟩) q hq))))
          obtain ⟨_, _, hat⟩ := World.cells?_some hc
          have hc0 := hat 0 (by decide)
          have hsp : ad.spot = Option.none := by
            have := World.cell?_spot hc0
            simpa [Addr.add] using this
          obtain ⟨bb, off, spot⟩ := ad
          simp at hsp
          subst hsp
          refine ⟨rfl, World.block_lt_of_cell? W (u := d0) ⟨bb, off, Option.none⟩ ?_⟩
          rw [show ((⟨bb, off, Option.none⟩ : Addr).add (0 * 7)).add 0 = ⟨bb, off, Option.none⟩ from by simp [Addr.add]] at hc0
          exact hc0
        obtain ⟨bb, off, spot⟩ := ad
        obtain ⟨hsp, hbw⟩ := hspot
        simp only at hsp hbw
        subst hsp
        have each : ∀ i, i < len → ∃ v : JV, (∃ V, Cells7 W bb (off + 7 * i) V ∧ JAt (fun _ => True) W v V) ∧ (KOk v ∧ Rng v ∧ Loc v) ∧ v.weigh ≤ Rows.uptoBulk (D i) := by
          intro i hi'
          obtain ⟨cs', hc, ht⟩ := hi i (by omega)
          rw [val_cells] at hc
          obtain ⟨v, d0, d1, d2, d3, d4, d5, d6, rfl, hj, g1, g2, g3, g4⟩ := val_of_trod N n cs' (D i, Pl i) (hsz i hi') ht (fun q hq => hw6 q (.inr (.inl (weightsAllV_mem (List.mem_map.2 ⟨i, List.mem_range.2 hi', rfl⟩) q hq))))
          obtain ⟨_, _, hat⟩ := World.cells?_some hc
          have key : ∀ j, j < 7 → W.cell? ⟨bb, off + 7 * i + j, Option.none⟩ = [d0, d1, d2, d3, d4, d5, d6][j]? := fun j hj => by
            have := hat j hj
            rw [add_noneV, add_noneV, Nat.mul_comm i 7] at this
            exact this
          exact ⟨v, ⟨_, ⟨d0, d1, d2, d3, d4, d5, d6, rfl, key 0 (by decide), key 1 (by decide), key 2 (by decide), key 3 (by decide), key 4 (by decide), key 5 (by decide), key 6 (by decide)⟩, hj⟩, ⟨g1, g2, g3⟩, g4⟩
        obtain ⟨f, hfe⟩ : ∃ f : Nat → JV, ∀ i, i < len → (∃ V, Cells7 W bb (off + 7 * i) V ∧ JAt (fun _ => True) W (f i) V) ∧ (KOk (f i) ∧ Rng (f i) ∧ Loc (f i)) ∧ (f i).weigh ≤ Rows.uptoBulk (D i) := by
          refine ⟨fun i => if h : i < len then (each i h).choose else .mk 0 false 0 0 ⟨#[]⟩ [] [], fun i hi' => ?_⟩
          simp only [hi', dif_pos]
          exact (each i hi').choose_spec
        have hvl : ((List.range len).map f).length = len := by simp
        refine ⟨some ⟨bb, off, Option.none⟩, m, (List.range len).map f, by rw [hvl], .inr ⟨bb, off, rfl, trivial, hbw, itAt_of _ _ fun i x hx => ?_⟩, by rw [hvl]; unfold reachBytes at hln; omega, fun v hv => ?_, ?_⟩
        · rw [List.getElem?_map, Option.map_eq_some_iff] at hx
          obtain ⟨j, hj, rfl⟩ := hx
          obtain ⟨hlt, rfl⟩ := List.getElem?_eq_some_iff.1 hj
          simp only [List.length_range] at hlt
          simp only [List.getElem_range]
          exact (hfe i hlt).1
        · obtain ⟨i, hi', rfl⟩ := List.mem_map.1 hv
          exact (hfe i (List.mem_range.1 hi')).2.1
        · rw [hd, Rows.uptoBulk]
          have := bulk_vals f D (List.range len) fun i hi' => (hfe i (List.mem_range.1 hi')).2.2
          omega
    refine ⟨.mk k b nn u s ks vs, _, _, _, _, _, _, _, rfl, ?_, .mk w0.1 (by omega) fun v hv => (hall v hv).1, .mk w2.1 (by omega) w3.1 (by omega) fun v hv => (hall v hv).2.1, .mk hs hkz fun v hv => (hall v hv).2.2, ?_⟩
    · rw [JAt]
      exact ⟨ka, kc, a, c, rfl, hks, hvs, hkn, hvn⟩
    · have hs4 : s.size ≤ Rows.uptoBulk y4.1 := by rw [f4, Rows.uptoBulk]; simp
      rw [hx1, Rows.uptoBulk, JV.weigh]
      simp only [Rows.uptoBulkAll]
      omega

/-- .. as an argument -/
theorem arg_value_at (j : Nat) {v : Value} {d : DataW H} {p : List MemPlace} {ts : List TypeId} {ds : List (DataW H)} (h : DataW.Trod enc Tryz.prog W 0 (fun _ => true) true 27 v d p)
    (hv : ∃ xs, v = .agg xs) (ht : ts[j]? = some 27) (hd : ds[j]? = some d) (hsz : (DataW.weightsEach Tryz.prog ts ds).all (· ≤ reachBytes) = true) :
    ∃ x : JV, JAt (fun _ => True) W x v ∧ KOk x ∧ Rng x ∧ Loc x ∧ x.weigh ≤ Rows.uptoBulk d := by
  obtain ⟨fuel, hf⟩ := h
  obtain ⟨xs, rfl⟩ := hv
  obtain ⟨x, c0, c1, c2, c3, c4, c5, c6, hc, hj, h1, h2, h3, h4⟩ := val_of_trod (SizeOf.sizeOf d + 1) fuel _ (d, p) (by show SizeOf.sizeOf d < _; omega) hf (fun q hq => of_decide_eq_true (List.all_eq_true.1 hsz q (DataW.weights_mem_each (j := j) (t := 27) (d := d) ht hd q hq)))
  refine ⟨x, ?_, h1, h2, h3, h4⟩
  simp only [Value.cells] at hc
  have : xs = #[c0, c1, c2, c3, c4, c5, c6] := by cases xs; simp_all
  rw [this]
  exact hj
end
end Go.Proofs.YtckaoeloofbklaaGreatDoor
