/- Joined texts: Kf Ki Hf Hg Hh. Each begins with its own remark. -/
import Derived.Test.YtckaoeloofbklaaGreatDoorZp
import Derived.Test.YtckaoeloofbklaaGreatDoorZq

/- json.show: lists, records, and so any value. -/
namespace Go.Proofs.YtckaoeloofbklaaGreatDoor
open Go Go.RowKit Go.Lib

theorem BL.lt {B b : Nat} {l : List UInt8} {W : World} (h : BL B b l W) : b < W.heap.size := by
  obtain ⟨p, v, h⟩ := h.cells
  exact (Array.getElem?_eq_some_iff.1 h).1
theorem BW.blk {B b : Nat} {l : List UInt8} {A C : World} (h : BW B b l A C) {p : Nat} {c : Array Value} {f : Nat × Nat} (hp : A.heap[p]? = some (.cells c 27 f)) (hb : p ≠ b) : C.heap[p]? = some (.cells c 27 f) :=
  h.oth _ _ hp (by simp; omega) (fun c fz h => by cases h)

theorem it_cells {ok : Nat → Prop} {w : World} {q off : Nat} {x : JV} {V : Value} (h7 : Cells7 w q off V) (hj : JAt ok w x V) :
    ∃ (k : Int) (b : Bool) (n u : Int) (s : ByteArray) (a : Option Addr) (m c : Nat) (a' : Option Addr) (m' c' : Nat), V = .agg #[.int .u8 k, .bool b, .int .i64 n, .int .u64 u, .string s, .slice a m c, .slice a' m' c'] ∧
      w.cell? ⟨q, off, none⟩ = some (.int .u8 k) ∧ w.cell? ⟨q, off + 1, none⟩ = some (.bool b) ∧ w.cell? ⟨q, off + 2, none⟩ = some (.int .i64 n) ∧ w.cell? ⟨q, off + 3, none⟩ = some (.int .u64 u) ∧ w.cell? ⟨q, off + 4, none⟩ = some (.string s) ∧
      w.cell? ⟨q, off + 5, none⟩ = some (.slice a m c) ∧ w.cell? ⟨q, off + 6, none⟩ = some (.slice a' m' c') := by
  obtain ⟨k, b, n, u, s, ks, vs⟩ := x
  rw [JAt] at hj
  obtain ⟨a, c, a', c', rfl, -⟩ := hj
  obtain ⟨x0, x1, x2, x3, x4, x5, x6, hV, d0, d1, d2, d3, d4, d5, d6⟩ := h7
  simp only [Value.agg.injEq, Array.mk.injEq, List.cons.injEq, and_true] at hV
  obtain ⟨rfl, rfl, rfl, rfl, rfl, rfl, rfl⟩ := hV
  exact ⟨k, b, n, u, s, a, _, c, a', _, c', rfl, d0, d1, d2, d3, d4, d5, d6⟩

/-- what json.show does of a value -/
def ShowOk (B b : Nat) (v : JV) : Prop := ∀ (V : Value) (l : List UInt8) (w : World), BL B b l w → B ≤ w.heap.size → 17 ≤ B → Globs w → Lib.Utf8Tabs 0 1 w → JAt (fun q => q < B) w v V → v.formed = true → Rng v →
  l.length + (shJ v).length + 1000 ≤ 100000000000000 → v.weigh ≤ 1000000000000 →
  Calls Tryz.prog 22 #[.pointer (some ⟨b, 0, none⟩), V] w fun e w' => e = .returned (.tuple #[]) ∧ BW B b (l ++ shJ v) w w'

theorem weigh_le : ∀ {vs : List JV} {i : Nat} {x : JV}, vs[i]? = some x → x.weigh ≤ JV.weighL vs
  | [], _, _, h => by simp at h
  | v :: vs, 0, x, h => by simp at h; subst h; rw [JV.weighL]; omega
  | v :: vs, i + 1, x, h => by
    have := weigh_le (vs := vs) (i := i) (x := x) (by simpa using h)
    rw [JV.weighL]; omega
theorem key_le {ks : List ByteArray} {k : ByteArray} (h : k ∈ ks) : k.size ≤ (ks.map ByteArray.size).sum := by
  induction ks with
  | nil => simp at h
  | cons x ks ih =>
    rw [List.map_cons, List.sum_cons]
    rcases List.mem_cons.1 h with rfl | h
    · omega
    · have := ih h; omega
theorem showK_f (ks : List ByteArray) (v : JV) : showK Lib.itoa fltI false ks v = shJ v := by unfold showK; rw [if_neg (by decide)]; rfl
theorem showK_t (ks : List ByteArray) (v : JV) (k : ByteArray) (h : ks.headD ⟨#[]⟩ = k) : showK Lib.itoa fltI true ks v = quoL k.data.toList ++ [58] ++ shJ v := by unfold showK; rw [if_pos rfl, h]
/-- what stands ahead of an item, with the item, is no longer than all -/
theorem showT_le (r : Bool) (ks : List ByteArray) (vs : List JV) (i : Nat) (x : JV) (hx : vs[i]? = some x) :
    ((showT Lib.itoa fltI r ks (vs.take i)).drop 1).length + ((if i = 0 then ([] : List UInt8) else [44]) ++ showK Lib.itoa fltI r (ks.drop i) x).length ≤ ((showT Lib.itoa fltI r ks vs).drop 1).length := by
  have h := congrArg List.length (showT_step Lib.itoa fltI r ks vs i x hx)
  rw [List.length_append] at h
  rw [← h, List.length_drop, List.length_drop]
  have key : ∀ (vs : List JV) (ks : List ByteArray) (j : Nat), (showT Lib.itoa fltI r ks (vs.take j)).length ≤ (showT Lib.itoa fltI r ks vs).length := by
    intro vs
    induction vs with
    | nil => intro ks j; simp
    | cons v vs ih =>
      intro ks j
      cases j with
      | zero => rw [List.take_zero, showT]; simp
      | succ j =>
        rw [List.take_succ_cons, showT, showT, List.length_append, List.length_append]
        have := ih ks.tail j
        omega
  have := key vs ks (i + 1)
  omega

set_option maxRecDepth 100000 in
set_option maxHeartbeats 8000000 in
theorem show_list (B b : Nat) (bb : Bool) (n u : Int) (s : ByteArray) (ks : List ByteArray) (vs : List JV) (ka : Option Addr) (kc : Nat) (a : Option Addr) (ac : Nat) (l : List UInt8) (w : World) (h : BL B b l w) (hB : B ≤ w.heap.size) (h17 : 17 ≤ B) (hg : Globs w) (hT : Lib.Utf8Tabs 0 1 w)
    (hks : StrsAt (fun q => q < B) w ka ks) (hvs : vs = [] ∨ ∃ q off, a = some ⟨q, off, none⟩ ∧ q < B ∧ q < w.heap.size ∧ ItAt (fun q => q < B) w q off vs) (_hkn : ks.length ≤ 35184372080000) (hvn : vs.length ≤ 35184372080000)
    (ih : ∀ x ∈ vs, ShowOk B b x) (hf : ∀ x ∈ vs, x.formed = true) (hr : ∀ x ∈ vs, Rng x) (hw : JV.weighL vs ≤ 1000000000000) (hkw : ∀ k ∈ ks, k.size ≤ 1000000000000)
    (hl : l.length + ((showT Lib.itoa fltI false ks vs).drop 1).length + 1002 ≤ 100000000000000) :
    Calls Tryz.prog 22 #[.pointer (some ⟨b, 0, none⟩), .agg #[.int .u8 6, .bool bb, .int .i64 n, .int .u64 u, .string s, .slice ka ks.length kc, .slice a vs.length ac]] w fun e w' => e = .returned (.tuple #[]) ∧ BW B b (l ++ (91 :: (showT Lib.itoa fltI false ks vs).drop 1 ++ [93])) w w' := by
  have hbx := heap_alloc_new w (.cells #[.int .u8 6, .bool bb, .int .i64 n, .int .u64 u, .string s, .slice ka ks.length kc, .slice a vs.length ac] 27)
  have hA : BW B b l w (w.alloc (.cells #[.int .u8 6, .bool bb, .int .i64 n, .int .u64 u, .string s, .slice ka ks.length kc, .slice a vs.length ac] 27)) := ⟨h.below ((Below.refl _ _).alloc (Nat.le_refl _) _), (Below.refl _ _).alloc hB _, (Lib.OthersKept.refl _ _ _).alloc _⟩
  have hbl := h.lt
  have hsA : (w.alloc (.cells #[.int .u8 6, .bool bb, .int .i64 n, .int .u64 u, .string s, .slice ka ks.length kc, .slice a vs.length ac] 27)).heap.size = w.heap.size + 1 := by simp
  obtain ⟨c0, c1, c2, c3, c4, c5, c6⟩ := cell_agg7 hbx
  have HA := Lib.hid hA
  have HBX := Lib.hid hbx
  have HKS := Lib.hid hks
  have HVS := Lib.hid hvs
  have HKW := Lib.hid hkw
  have HL := Lib.hid hl
  have HG := Lib.hid (hg.below h17 hA.below)
  have HT := Lib.hid (utabs_kept hT (hA.below.mono h17))
  have HIH := Lib.hid ih
  have HW := Lib.hid hw
  have HF := Lib.hid hf
  have HR := Lib.hid hr
  clear hA hbx h hks hvs hkw hg hT ih hl hf hr hw
  go_enter Tryz.func22, Tryz.ntmps22
  go_upto_region 1 with fail
  generalize w.alloc (.cells #[.int .u8 6, .bool bb, .int .i64 n, .int .u64 u, .string s, .slice ka ks.length kc, .slice a vs.length ac] 27) = wA at *
  have hBA : B ≤ wA.heap.size := Nat.le_trans hB HA.out.below.size
  have HBY := Lib.hid (bw_byte B b l 91 wA HA.out.bl (by have := HL.out; omega) hBA)
  go_wp2_with fail
  refine HBY.out.mono ?_
  rintro e w3 ⟨rfl, hw3⟩
  have hb3 := hw3.blk HBX.out (by omega)
  clear c0 c1 c2 c3 c4 c5 c6
  obtain ⟨c0, c1, c2, c3, c4, c5, c6⟩ := cell_agg7 hb3
  have HW3 := Lib.hid hw3
  clear hw3 hb3
  go_wp2_with fail
  clear c0 c1 c2 c3 c4 c5 c6
  go_loopg [5, 6, 19] vs.length (fun g _ _ s19 wr => ∃ k : Nat, k + g = vs.length ∧ s19 = .int .i64 k ∧ BW B b (l ++ [91] ++ (showT Lib.itoa fltI false ks (vs.take k)).drop 1) wA wr)
  case atStart => exact ⟨0, by omega, rfl, by rw [List.take_zero, showT]; simpa using HW3.out⟩
  case round =>
    obtain ⟨k, hk, rfl, hbw⟩ := hrel
    have hbr := hbw.blk HBX.out (by omega)
    obtain ⟨c0, c1, c2, c3, c4, c5, c6⟩ := cell_agg7 hbr
    have hsr := hbw.below.size
    have HBW := Lib.hid hbw
    have HBR := Lib.hid hbr
    clear hbw hbr
    by_cases hlt : k < vs.length
    · obtain ⟨x, hx⟩ : ∃ x, vs[k]? = some x := ⟨_, List.getElem?_eq_getElem hlt⟩
      have hxm := List.mem_of_getElem? hx
      obtain ⟨q, off, ha, hq, hqw, hit⟩ := HVS.out.resolve_left (by rintro rfl; simp at hlt)
      obtain ⟨V, h7, hja⟩ := hit.get hx
      obtain ⟨xk, xb, xn, xu, xs, xa, xm, xc, xa2, xm2, xc2, rfl, d0, d1, d2, d3, d4, d5, d6⟩ := it_cells h7 hja
      clear h7
      have hst := showT_step Lib.itoa fltI false ks vs k x hx
      have hle := showT_le false ks vs k x hx
      rw [showK_f] at hst hle
      rw [List.length_append] at hle
      have hkq : ∀ i : Nat, wr.cell? ⟨q, i, none⟩ = w.cell? ⟨q, i, none⟩ := fun i => (HA.out.below.trans HBW.out.below).cell (p := ⟨q, i, none⟩) hq
      rw [← hkq, Nat.mul_comm 7 k] at d0 d1 d2 d3 d4 d5 d6
      have HJ := Lib.hid (hja.kept (w' := wr) (ok' := fun q => q < B) (fun i hi _ => ⟨(HA.out.below.trans HBW.out.below).block i hi, hi⟩))
      have HST := Lib.hid hst
      have HLE := Lib.hid hle
      subst ha
      clear hst hle hja hit hkq hqw HVS
      go_upto_region 9 with fail
      have hX := heap_alloc_new wr (.cells #[(.int .u8 xk), (.bool xb), (.int .i64 xn), (.int .u64 xu), (.string xs), (.slice xa xm xc), (.slice xa2 xm2 xc2)] 27)
      have hXb : Below wr.heap.size wr (wr.alloc (.cells #[(.int .u8 xk), (.bool xb), (.int .i64 xn), (.int .u64 xu), (.string xs), (.slice xa xm xc), (.slice xa2 xm2 xc2)] 27)) := (Below.refl _ _).alloc (Nat.le_refl _) _
      generalize wr.alloc (.cells #[(.int .u8 xk), (.bool xb), (.int .i64 xn), (.int .u64 xu), (.string xs), (.slice xa xm xc), (.slice xa2 xm2 xc2)] 27) = W1 at *
      have hb1 := (hXb.block w.heap.size (by omega)).trans HBR.out
      have hbw1 := HBW.out.on hXb hBA
      obtain ⟨e0, e1, e2, e3, e4, e5, e6⟩ := cell_agg7 hX
      obtain ⟨c0, c1, c2, c3, c4, c5, c6⟩ := cell_agg7 hb1
      have hs1 := hXb.size
      have hs0 := (Array.getElem?_eq_some_iff.1 hX).1
      have HB1 := Lib.hid hb1
      have HX1 := Lib.hid hX
      have HXB := Lib.hid hXb
      have HBW1 := Lib.hid hbw1
      clear hb1 hX hXb hbw1 d0 d1 d2 d3 d4 d5 d6
      rcases Nat.eq_zero_or_pos k with rfl | hk0
      · have hst2 := HST.out
        rw [if_pos rfl, List.nil_append] at hst2
        have HST2 := Lib.hid hst2
        have hln : l.length + 1 + ((showT Lib.itoa fltI false ks (vs.take 0)).drop 1).length + 0 + (shJ x).length + 1000 ≤ 100000000000000 := by
          have h1 := HLE.out
          have h2 := HL.out
          rw [if_pos rfl] at h1
          simp only [List.length_nil] at *
          omega
        have HLN := Lib.hid hln
        clear hst2 hln
        have HSH := Lib.hid (HIH.out x hxm (.agg #[(.int .u8 xk), (.bool xb), (.int .i64 xn), (.int .u64 xu), (.string xs), (.slice xa xm xc), (.slice xa2 xm2 xc2)]) (l ++ [91] ++ (showT Lib.itoa fltI false ks (vs.take 0)).drop 1) W1 HBW1.out.bl (Nat.le_trans hBA HBW1.out.below.size) h17 (HG.out.below h17 HBW1.out.below) (utabs_kept HT.out (HBW1.out.below.mono h17)) (HJ.out.kept (fun i hi _ => ⟨(HBW1.out.below.block i hi).trans (HBW.out.below.block i hi).symm, hi⟩)) (HF.out x hxm) (HR.out x hxm) (by have := HLN.out; simp only [List.length_append, List.length_cons, List.length_nil] at *; omega) (Nat.le_trans (weigh_le hx) HW.out))
        go_wp2_with fail
        refine HSH.out.mono ?_
        rintro e w9 ⟨rfl, hw9⟩
        have HW9 := Lib.hid (HBW1.out.trans hw9)
        clear hw9
        go_wp2_with fail
        go_roundg (gk - 1)
        case measure => omega
        case rel => exact ⟨0 + 1, by omega, by go_num, by rw [HST2.out]; simpa only [List.append_assoc] using HW9.out⟩
      · have hst2 := HST.out
        rw [if_neg (show ¬ k = 0 by omega)] at hst2
        have HST2 := Lib.hid hst2
        have hln : l.length + 1 + ((showT Lib.itoa fltI false ks (vs.take k)).drop 1).length + 1 + (shJ x).length + 1000 ≤ 100000000000000 := by
          have h1 := HLE.out
          have h2 := HL.out
          rw [if_neg (show ¬ k = 0 by omega)] at h1
          simp only [List.length_cons, List.length_nil] at *
          omega
        have HLN := Lib.hid hln
        clear hst2 hln
        have hki : (0 : Int) < (k : Int) := by omega
        have HCM := Lib.hid (bw_byte B b (l ++ [91] ++ (showT Lib.itoa fltI false ks (vs.take k)).drop 1) 44 W1 HBW1.out.bl (by have := HLN.out; simp only [List.length_append, List.length_cons, List.length_nil] at *; omega) (Nat.le_trans hBA HBW1.out.below.size))
        go_wp2_with fail
        refine HCM.out.mono ?_
        rintro e w4 ⟨rfl, hw4⟩
        have hb4 := hw4.blk HB1.out (by omega)
        have hx4 := hw4.blk HX1.out (by omega)
        have hbw4 := HBW1.out.trans hw4
        have hs4 := hw4.below.size
        clear c0 c1 c2 c3 c4 c5 c6 e0 e1 e2 e3 e4 e5 e6
        obtain ⟨e0, e1, e2, e3, e4, e5, e6⟩ := cell_agg7 hx4
        obtain ⟨c0, c1, c2, c3, c4, c5, c6⟩ := cell_agg7 hb4
        have HB4 := Lib.hid hb4
        have HX4 := Lib.hid hx4
        have HBW4 := Lib.hid hbw4
        clear hb4 hx4 hbw4 hw4
        have HSH := Lib.hid (HIH.out x hxm (.agg #[(.int .u8 xk), (.bool xb), (.int .i64 xn), (.int .u64 xu), (.string xs), (.slice xa xm xc), (.slice xa2 xm2 xc2)]) (l ++ [91] ++ (showT Lib.itoa fltI false ks (vs.take k)).drop 1 ++ [44]) w4 HBW4.out.bl (Nat.le_trans hBA HBW4.out.below.size) h17 (HG.out.below h17 HBW4.out.below) (utabs_kept HT.out (HBW4.out.below.mono h17)) (HJ.out.kept (fun i hi _ => ⟨(HBW4.out.below.block i hi).trans (HBW.out.below.block i hi).symm, hi⟩)) (HF.out x hxm) (HR.out x hxm) (by have := HLN.out; simp only [List.length_append, List.length_cons, List.length_nil] at *; omega) (Nat.le_trans (weigh_le hx) HW.out))
        go_wp2_with fail
        refine HSH.out.mono ?_
        rintro e w9 ⟨rfl, hw9⟩
        have HW9 := Lib.hid (HBW4.out.trans hw9)
        clear hw9
        go_wp2_with fail
        go_roundg (gk - 1)
        case measure => omega
        case rel => exact ⟨k + 1, by omega, by go_num, by rw [HST2.out]; simpa only [List.append_assoc] using HW9.out⟩
    · obtain rfl : k = vs.length := by omega
      rw [List.take_length] at HBW
      have HBZ := Lib.hid (bw_byte B b _ 93 wr HBW.out.bl (by have := HL.out; simp only [List.length_append, List.length_cons, List.length_nil] at *; omega) (Nat.le_trans hBA HBW.out.below.size))
      go_wp2_with fail
      refine HBZ.out.mono ?_
      rintro e w9 ⟨rfl, hw9⟩
      have HW9 := Lib.hid hw9
      clear hw9
      go_wp2_with fail
      go_end0
      exact ⟨rfl, by have := (HA.out.trans HBW.out).trans HW9.out; simpa [List.append_assoc] using this⟩

set_option maxRecDepth 100000 in
set_option maxHeartbeats 8000000 in
theorem show_rec (B b : Nat) (bb : Bool) (n u : Int) (s : ByteArray) (ks : List ByteArray) (vs : List JV) (hkl : vs.length = ks.length) (ka : Option Addr) (kc : Nat) (a : Option Addr) (ac : Nat) (l : List UInt8) (w : World) (h : BL B b l w) (hB : B ≤ w.heap.size) (h17 : 17 ≤ B) (hg : Globs w) (hT : Lib.Utf8Tabs 0 1 w)
    (hks : StrsAt (fun q => q < B) w ka ks) (hvs : vs = [] ∨ ∃ q off, a = some ⟨q, off, none⟩ ∧ q < B ∧ q < w.heap.size ∧ ItAt (fun q => q < B) w q off vs) (_hkn : ks.length ≤ 35184372080000) (hvn : vs.length ≤ 35184372080000)
    (ih : ∀ x ∈ vs, ShowOk B b x) (hf : ∀ x ∈ vs, x.formed = true) (hr : ∀ x ∈ vs, Rng x) (hw : JV.weighL vs ≤ 1000000000000) (hkw : ∀ k ∈ ks, k.size ≤ 1000000000000)
    (hl : l.length + ((showT Lib.itoa fltI true ks vs).drop 1).length + 1002 ≤ 100000000000000) :
    Calls Tryz.prog 22 #[.pointer (some ⟨b, 0, none⟩), .agg #[.int .u8 7, .bool bb, .int .i64 n, .int .u64 u, .string s, .slice ka ks.length kc, .slice a vs.length ac]] w fun e w' => e = .returned (.tuple #[]) ∧ BW B b (l ++ (123 :: (showT Lib.itoa fltI true ks vs).drop 1 ++ [125])) w w' := by
  have hbx := heap_alloc_new w (.cells #[.int .u8 7, .bool bb, .int .i64 n, .int .u64 u, .string s, .slice ka ks.length kc, .slice a vs.length ac] 27)
  have hA : BW B b l w (w.alloc (.cells #[.int .u8 7, .bool bb, .int .i64 n, .int .u64 u, .string s, .slice ka ks.length kc, .slice a vs.length ac] 27)) := ⟨h.below ((Below.refl _ _).alloc (Nat.le_refl _) _), (Below.refl _ _).alloc hB _, (Lib.OthersKept.refl _ _ _).alloc _⟩
  have hbl := h.lt
  have hsA : (w.alloc (.cells #[.int .u8 7, .bool bb, .int .i64 n, .int .u64 u, .string s, .slice ka ks.length kc, .slice a vs.length ac] 27)).heap.size = w.heap.size + 1 := by simp
  obtain ⟨c0, c1, c2, c3, c4, c5, c6⟩ := cell_agg7 hbx
  have HA := Lib.hid hA
  have HBX := Lib.hid hbx
  have HKS := Lib.hid hks
  have HVS := Lib.hid hvs
  have HKW := Lib.hid hkw
  have HL := Lib.hid hl
  have HG := Lib.hid (hg.below h17 hA.below)
  have HT := Lib.hid (utabs_kept hT (hA.below.mono h17))
  have HIH := Lib.hid ih
  have HW := Lib.hid hw
  have HF := Lib.hid hf
  have HR := Lib.hid hr
  clear hA hbx h hks hvs hkw hg hT ih hl hf hr hw
  have HKL := Lib.hid hkl
  clear hkl
  go_enter Tryz.func22, Tryz.ntmps22
  go_upto_region 1 with fail
  generalize w.alloc (.cells #[.int .u8 7, .bool bb, .int .i64 n, .int .u64 u, .string s, .slice ka ks.length kc, .slice a vs.length ac] 27) = wA at *
  have hBA : B ≤ wA.heap.size := Nat.le_trans hB HA.out.below.size
  have HBY := Lib.hid (bw_byte B b l 123 wA HA.out.bl (by have := HL.out; omega) hBA)
  go_wp2_with fail
  refine HBY.out.mono ?_
  rintro e w3 ⟨rfl, hw3⟩
  have hb3 := hw3.blk HBX.out (by omega)
  clear c0 c1 c2 c3 c4 c5 c6
  obtain ⟨c0, c1, c2, c3, c4, c5, c6⟩ := cell_agg7 hb3
  have HW3 := Lib.hid hw3
  clear hw3 hb3
  go_wp2_with fail
  clear c0 c1 c2 c3 c4 c5 c6
  go_loopg [5, 6, 19] vs.length (fun g _ _ s19 wr => ∃ k : Nat, k + g = vs.length ∧ s19 = .int .i64 k ∧ BW B b (l ++ [123] ++ (showT Lib.itoa fltI true ks (vs.take k)).drop 1) wA wr)
  case atStart => exact ⟨0, by omega, rfl, by rw [List.take_zero, showT]; simpa using HW3.out⟩
  case round =>
    obtain ⟨k, hk, rfl, hbw⟩ := hrel
    have hbr := hbw.blk HBX.out (by omega)
    obtain ⟨c0, c1, c2, c3, c4, c5, c6⟩ := cell_agg7 hbr
    have hsr := hbw.below.size
    have HBW := Lib.hid hbw
    have HBR := Lib.hid hbr
    clear hbw hbr
    by_cases hlt : k < vs.length
    · obtain ⟨x, hx⟩ : ∃ x, vs[k]? = some x := ⟨_, List.getElem?_eq_getElem hlt⟩
      have hxm := List.mem_of_getElem? hx
      obtain ⟨q, off, ha, hq, hqw, hit⟩ := HVS.out.resolve_left (by rintro rfl; simp at hlt)
      obtain ⟨V, h7, hja⟩ := hit.get hx
      obtain ⟨xk, xb, xn, xu, xs, xa, xm, xc, xa2, xm2, xc2, rfl, d0, d1, d2, d3, d4, d5, d6⟩ := it_cells h7 hja
      clear h7
      have hst := showT_step Lib.itoa fltI true ks vs k x hx
      have hle := showT_le true ks vs k x hx
      obtain ⟨kk, hkk⟩ : ∃ kk, ks[k]? = some kk := ⟨_, List.getElem?_eq_getElem (by have := HKL.out; omega)⟩
      obtain ⟨kb, ko, hka, hkb, -, hkc⟩ := HKS.out.resolve_left (by rintro rfl; simp at hkk)
      have hks1 := HKW.out kk (List.mem_of_getElem? hkk)
      have hkq := quoL_len kk.data.toList
      have hkd : kk.data.toList.length = kk.size := by simp
      have hkh : (ks.drop k).headD ⟨#[]⟩ = kk := by rw [List.headD_eq_head?_getD, List.head?_drop, hkk]; rfl
      have hkl2 : k < ks.length := by have := HKL.out; omega
      have HKC := Lib.hid (hkc k kk hkk)
      rw [showK_t _ _ _ hkh] at hst hle
      rw [List.length_append] at hle
      subst hka
      clear HKS hkc hkh hkk
      have hkq : ∀ i : Nat, wr.cell? ⟨q, i, none⟩ = w.cell? ⟨q, i, none⟩ := fun i => (HA.out.below.trans HBW.out.below).cell (p := ⟨q, i, none⟩) hq
      rw [← hkq, Nat.mul_comm 7 k] at d0 d1 d2 d3 d4 d5 d6
      have HJ := Lib.hid (hja.kept (w' := wr) (ok' := fun q => q < B) (fun i hi _ => ⟨(HA.out.below.trans HBW.out.below).block i hi, hi⟩))
      have HST := Lib.hid hst
      have HLE := Lib.hid hle
      subst ha
      clear hst hle hja hit hkq hqw HVS
      go_upto_region 9 with fail
      have hX := heap_alloc_new wr (.cells #[(.int .u8 xk), (.bool xb), (.int .i64 xn), (.int .u64 xu), (.string xs), (.slice xa xm xc), (.slice xa2 xm2 xc2)] 27)
      have hXb : Below wr.heap.size wr (wr.alloc (.cells #[(.int .u8 xk), (.bool xb), (.int .i64 xn), (.int .u64 xu), (.string xs), (.slice xa xm xc), (.slice xa2 xm2 xc2)] 27)) := (Below.refl _ _).alloc (Nat.le_refl _) _
      generalize wr.alloc (.cells #[(.int .u8 xk), (.bool xb), (.int .i64 xn), (.int .u64 xu), (.string xs), (.slice xa xm xc), (.slice xa2 xm2 xc2)] 27) = W1 at *
      have hb1 := (hXb.block w.heap.size (by omega)).trans HBR.out
      have hbw1 := HBW.out.on hXb hBA
      obtain ⟨e0, e1, e2, e3, e4, e5, e6⟩ := cell_agg7 hX
      obtain ⟨c0, c1, c2, c3, c4, c5, c6⟩ := cell_agg7 hb1
      have hs1 := hXb.size
      have hs0 := (Array.getElem?_eq_some_iff.1 hX).1
      have HB1 := Lib.hid hb1
      have HX1 := Lib.hid hX
      have HXB := Lib.hid hXb
      have HBW1 := Lib.hid hbw1
      clear hb1 hX hXb hbw1 d0 d1 d2 d3 d4 d5 d6
      rcases Nat.eq_zero_or_pos k with rfl | hk0
      · have hst2 := HST.out
        rw [if_pos rfl, List.nil_append] at hst2
        have HST2 := Lib.hid hst2
        have hln : l.length + 1 + ((showT Lib.itoa fltI true ks (vs.take 0)).drop 1).length + 0 + (quoL kk.data.toList ++ [58] ++ shJ x).length + 1000 ≤ 100000000000000 := by
          have h1 := HLE.out
          have h2 := HL.out
          rw [if_pos rfl] at h1
          simp only [List.length_append, List.length_cons, List.length_nil] at *
          omega
        have HLN := Lib.hid hln
        clear hst2 hln
        have HQ := Lib.hid (quote_any kk W1 (by have := HBW1.out.below.size; omega) (utabs_kept HT.out (HBW1.out.below.mono h17)) (by omega))
        have f0 : W1.cell? ⟨kb, ko, none⟩ = some (.string kk) := by rw [(HA.out.below.trans HBW1.out.below).cell (p := ⟨kb, ko, none⟩) hkb]; exact HKC.out
        go_wp2_with fail
        refine HQ.out.mono ?_
        rintro e w5 ⟨rfl, hb5⟩
        have hs5 := hb5.size
        have HBX5 := Lib.hid ((hb5.block w.heap.size (by omega)).trans HB1.out)
        have HX5 := Lib.hid ((hb5.block wr.heap.size (by omega)).trans HX1.out)
        have HBW5 := Lib.hid (HBW1.out.on hb5 hBA)
        clear hb5 f0 c0 c1 c2 c3 c4 c5 c6 e0 e1 e2 e3 e4 e5 e6
        rw [hkd] at hkq
        generalize hQL : quoL kk.data.toList = QL at *
        have hqs : (⟨QL.toArray⟩ : ByteArray).size = QL.length := rfl
        have HWS := Lib.hid (bw_string B b (l ++ [123] ++ (showT Lib.itoa fltI true ks (vs.take 0)).drop 1) (⟨QL.toArray⟩ ++ ⟨#[58]⟩) w5 HBW5.out.bl (by rw [ByteArray.size_append, hqs, show (⟨#[58]⟩ : ByteArray).size = 1 from rfl]; have := HLN.out; simp only [List.length_append, List.length_cons, List.length_nil] at *; omega) (Nat.le_trans hBA HBW5.out.below.size))
        go_wp2_with fail
        refine HWS.out.mono ?_
        rintro e w6 ⟨rfl, hw6⟩
        rw [show ((⟨QL.toArray⟩ : ByteArray) ++ ⟨#[58]⟩) = ⟨(QL ++ [58]).toArray⟩ from ba_app QL [58]] at hw6
        have hw6 : BW B b (l ++ [123] ++ (showT Lib.itoa fltI true ks (vs.take 0)).drop 1 ++ (QL ++ [58])) w5 w6 := hw6
        have hx6 := hw6.blk HX5.out (by omega)
        obtain ⟨e0, e1, e2, e3, e4, e5, e6⟩ := cell_agg7 hx6
        have HBW6 := Lib.hid (HBW5.out.trans hw6)
        clear hx6 hw6
        have HSH := Lib.hid (HIH.out x hxm (.agg #[(.int .u8 xk), (.bool xb), (.int .i64 xn), (.int .u64 xu), (.string xs), (.slice xa xm xc), (.slice xa2 xm2 xc2)]) (l ++ [123] ++ (showT Lib.itoa fltI true ks (vs.take 0)).drop 1 ++ (QL ++ [58])) w6 HBW6.out.bl (Nat.le_trans hBA HBW6.out.below.size) h17 (HG.out.below h17 HBW6.out.below) (utabs_kept HT.out (HBW6.out.below.mono h17)) (HJ.out.kept (fun i hi _ => ⟨(HBW6.out.below.block i hi).trans (HBW.out.below.block i hi).symm, hi⟩)) (HF.out x hxm) (HR.out x hxm) (by have := HLN.out; simp only [List.length_append, List.length_cons, List.length_nil] at *; omega) (Nat.le_trans (weigh_le hx) HW.out))
        go_wp2_with fail
        refine HSH.out.mono ?_
        rintro e w9 ⟨rfl, hw9⟩
        have HW9 := Lib.hid (HBW6.out.trans hw9)
        clear hw9
        go_wp2_with fail
        go_roundg (gk - 1)
        case measure => omega
        case rel => exact ⟨0 + 1, by omega, by go_num, by rw [HST2.out]; simpa only [List.append_assoc] using HW9.out⟩
      · have hst2 := HST.out
        rw [if_neg (show ¬ k = 0 by omega)] at hst2
        have HST2 := Lib.hid hst2
        have hln : l.length + 1 + ((showT Lib.itoa fltI true ks (vs.take k)).drop 1).length + 1 + (quoL kk.data.toList ++ [58] ++ shJ x).length + 1000 ≤ 100000000000000 := by
          have h1 := HLE.out
          have h2 := HL.out
          rw [if_neg (show ¬ k = 0 by omega)] at h1
          simp only [List.length_append, List.length_cons, List.length_nil] at *
          omega
        have HLN := Lib.hid hln
        clear hst2 hln
        have hki : (0 : Int) < (k : Int) := by omega
        have HCM := Lib.hid (bw_byte B b (l ++ [123] ++ (showT Lib.itoa fltI true ks (vs.take k)).drop 1) 44 W1 HBW1.out.bl (by have := HLN.out; simp only [List.length_append, List.length_cons, List.length_nil] at *; omega) (Nat.le_trans hBA HBW1.out.below.size))
        go_wp2_with fail
        refine HCM.out.mono ?_
        rintro e w4 ⟨rfl, hw4⟩
        have hb4 := hw4.blk HB1.out (by omega)
        have hx4 := hw4.blk HX1.out (by omega)
        have hbw4 := HBW1.out.trans hw4
        have hs4 := hw4.below.size
        clear c0 c1 c2 c3 c4 c5 c6 e0 e1 e2 e3 e4 e5 e6
        obtain ⟨e0, e1, e2, e3, e4, e5, e6⟩ := cell_agg7 hx4
        obtain ⟨c0, c1, c2, c3, c4, c5, c6⟩ := cell_agg7 hb4
        have HB4 := Lib.hid hb4
        have HX4 := Lib.hid hx4
        have HBW4 := Lib.hid hbw4
        clear hb4 hx4 hbw4 hw4
        have HQ := Lib.hid (quote_any kk w4 (by have := HBW4.out.below.size; omega) (utabs_kept HT.out (HBW4.out.below.mono h17)) (by omega))
        have f0 : w4.cell? ⟨kb, ko + k, none⟩ = some (.string kk) := by rw [(HA.out.below.trans HBW4.out.below).cell (p := ⟨kb, ko + k, none⟩) hkb]; exact HKC.out
        go_wp2_with fail
        refine HQ.out.mono ?_
        rintro e w5 ⟨rfl, hb5⟩
        have hs5 := hb5.size
        have HBX5 := Lib.hid ((hb5.block w.heap.size (by omega)).trans HB4.out)
        have HX5 := Lib.hid ((hb5.block wr.heap.size (by omega)).trans HX4.out)
        have HBW5 := Lib.hid (HBW4.out.on hb5 hBA)
        clear hb5 f0 c0 c1 c2 c3 c4 c5 c6 e0 e1 e2 e3 e4 e5 e6
        rw [hkd] at hkq
        generalize hQL : quoL kk.data.toList = QL at *
        have hqs : (⟨QL.toArray⟩ : ByteArray).size = QL.length := rfl
        have HWS := Lib.hid (bw_string B b (l ++ [123] ++ (showT Lib.itoa fltI true ks (vs.take k)).drop 1 ++ [44]) (⟨QL.toArray⟩ ++ ⟨#[58]⟩) w5 HBW5.out.bl (by rw [ByteArray.size_append, hqs, show (⟨#[58]⟩ : ByteArray).size = 1 from rfl]; have := HLN.out; simp only [List.length_append, List.length_cons, List.length_nil] at *; omega) (Nat.le_trans hBA HBW5.out.below.size))
        go_wp2_with fail
        refine HWS.out.mono ?_
        rintro e w6 ⟨rfl, hw6⟩
        rw [show ((⟨QL.toArray⟩ : ByteArray) ++ ⟨#[58]⟩) = ⟨(QL ++ [58]).toArray⟩ from ba_app QL [58]] at hw6
        have hw6 : BW B b (l ++ [123] ++ (showT Lib.itoa fltI true ks (vs.take k)).drop 1 ++ [44] ++ (QL ++ [58])) w5 w6 := hw6
        have hx6 := hw6.blk HX5.out (by omega)
        obtain ⟨e0, e1, e2, e3, e4, e5, e6⟩ := cell_agg7 hx6
        have HBW6 := Lib.hid (HBW5.out.trans hw6)
        clear hx6 hw6
        have HSH := Lib.hid (HIH.out x hxm (.agg #[(.int .u8 xk), (.bool xb), (.int .i64 xn), (.int .u64 xu), (.string xs), (.slice xa xm xc), (.slice xa2 xm2 xc2)]) (l ++ [123] ++ (showT Lib.itoa fltI true ks (vs.take k)).drop 1 ++ [44] ++ (QL ++ [58])) w6 HBW6.out.bl (Nat.le_trans hBA HBW6.out.below.size) h17 (HG.out.below h17 HBW6.out.below) (utabs_kept HT.out (HBW6.out.below.mono h17)) (HJ.out.kept (fun i hi _ => ⟨(HBW6.out.below.block i hi).trans (HBW.out.below.block i hi).symm, hi⟩)) (HF.out x hxm) (HR.out x hxm) (by have := HLN.out; simp only [List.length_append, List.length_cons, List.length_nil] at *; omega) (Nat.le_trans (weigh_le hx) HW.out))
        go_wp2_with fail
        refine HSH.out.mono ?_
        rintro e w9 ⟨rfl, hw9⟩
        have HW9 := Lib.hid (HBW6.out.trans hw9)
        clear hw9
        go_wp2_with fail
        go_roundg (gk - 1)
        case measure => omega
        case rel => exact ⟨k + 1, by omega, by go_num, by rw [HST2.out]; simpa only [List.append_assoc] using HW9.out⟩
    · obtain rfl : k = vs.length := by omega
      rw [List.take_length] at HBW
      have HBZ := Lib.hid (bw_byte B b _ 125 wr HBW.out.bl (by have := HL.out; simp only [List.length_append, List.length_cons, List.length_nil] at *; omega) (Nat.le_trans hBA HBW.out.below.size))
      go_wp2_with fail
      refine HBZ.out.mono ?_
      rintro e w9 ⟨rfl, hw9⟩
      have HW9 := Lib.hid hw9
      clear hw9
      go_wp2_with fail
      go_end0
      exact ⟨rfl, by have := (HA.out.trans HBW.out).trans HW9.out; simpa [List.append_assoc] using this⟩

/-- json.show of any value that may be -/
theorem showV_any (B b : Nat) : ∀ v, ShowOk B b v := by
  refine JV.ind fun k bb n u s ks vs ih => ?_
  intro V l w hbl hB h17 hg hT hj hf hr hl hw
  rw [JAt] at hj
  obtain ⟨ka, kc, a, ac, rfl, hks, hvs, hkn, hvn⟩ := hj
  rw [JV.formed, Bool.and_eq_true] at hf
  obtain ⟨hp, hfl⟩ := hf
  have hfl := formedL_mem hfl
  obtain ⟨r1, r2, r3, r4, hR⟩ := hr
  rw [JV.weigh] at hw
  unfold shJ at hl ⊢
  rw [showJ] at hl ⊢
  simp only [JV.plain] at hp
  by_cases k1 : k = 1
  · subst k1
    rw [if_pos rfl] at hl ⊢
    simp only [List.length_cons, List.length_nil] at hl
    exact show_null B b l bb n u s _ _ w hbl hB (by omega)
  rw [if_neg k1] at hl hp ⊢
  by_cases k2 : k = 2
  · subst k2
    rw [if_pos rfl] at hl ⊢
    rw [← fbool_is] at hl ⊢
    exact show_bool B b l bb n u s _ _ w hbl hB (by omega)
  rw [if_neg k2] at hl hp ⊢
  by_cases k3 : k = 3
  · subst k3
    rw [if_pos rfl] at hl ⊢
    exact show_int B b l bb n u s _ _ w hbl hB (by omega) hg r1 r2
  rw [if_neg k3] at hl hp ⊢
  by_cases k4 : k = 4
  · subst k4
    rw [if_pos rfl] at hl ⊢
    obtain ⟨m, rfl⟩ : ∃ m : Nat, u = (m : Int) := ⟨u.toNat, by omega⟩
    have := show_flt B b l bb n m s (.slice ka ks.length kc) (.slice a vs.length ac) w hbl hB (by omega) hg (by omega)
    unfold fltI
    rwa [Int.toNat_natCast]
  rw [if_neg k4] at hl hp ⊢
  by_cases k5 : k = 5
  · subst k5
    rw [if_pos rfl] at hl ⊢
    exact show_str B b l bb n u s _ _ w hbl hB (by omega) (by omega) hT (by omega)
  rw [if_neg k5] at hl hp ⊢
  have hkw : ∀ k ∈ ks, k.size ≤ 1000000000000 := fun k hk => by have := key_le hk; omega
  by_cases k7 : k = 7
  · subst k7
    rw [if_neg (by decide), if_pos rfl] at hp
    rw [if_pos rfl] at hl ⊢
    simp only [Bool.and_eq_true, decide_eq_true_eq] at hp
    simp only [List.length_cons, List.length_append, List.length_nil] at hl
    exact show_rec B b bb n u s ks vs hp.1.2 ka kc a ac l w hbl hB h17 hg hT hks hvs hkn hvn ih hfl hR (by omega) hkw (by omega)
  · have k6 : k = 6 := by
      by_cases k6 : k = 6
      · exact k6
      · rw [if_neg k6, if_neg k7] at hp; cases hp
    subst k6
    rw [if_neg k7] at hl ⊢
    simp only [List.length_cons, List.length_append, List.length_nil] at hl
    exact show_list B b bb n u s ks vs ka kc a ac l w hbl hB h17 hg hT hks hvs hkn hvn ih hfl hR (by omega) hkw (by omega)
end Go.Proofs.YtckaoeloofbklaaGreatDoor

/- json.look, json.Check, json.Show. -/
namespace Go.Proofs.YtckaoeloofbklaaGreatDoor
open Go Go.RowKit Go.Lib

/-- are a value's kinds ones of a byte? -/
inductive KOk : JV → Prop
  | mk {k b n u s ks vs} (h1 : 0 ≤ k) (h2 : k < 256) (h : ∀ v ∈ vs, KOk v) : KOk (.mk k b n u s ks vs)

theorem deepL_snoc : ∀ (l : List JV) (x : JV), JV.deepL (l ++ [x]) = max (JV.deepL l) x.deep
  | [], x => by simp [JV.deepL]
  | v :: l, x => by rw [List.cons_append, JV.deepL, JV.deepL, deepL_snoc l x]; omega
theorem formedL_snoc : ∀ (l : List JV) (x : JV), JV.formedL (l ++ [x]) = (JV.formedL l && x.formed)
  | [], x => by simp [JV.formedL]
  | v :: l, x => by rw [List.cons_append, JV.formedL, JV.formedL, formedL_snoc l x, Bool.and_assoc]
mutual
theorem deep_le : ∀ v : JV, v.deep ≤ v.weigh
  | .mk k b n u s ks vs => by
    rw [JV.deep, JV.weigh]
    have := deepL_le vs
    split <;> omega
theorem deepL_le : ∀ l : List JV, JV.deepL l ≤ JV.weighL l
  | [] => by rw [JV.deepL, JV.weighL]; omega
  | v :: l => by
    rw [JV.deepL, JV.weighL]
    have := deep_le v
    have := deepL_le l
    omega
end
theorem formedL_no : ∀ {l : List JV} {x : JV} {i : Nat}, l[i]? = some x → x.formed = false → JV.formedL l = false
  | [], _, _, h, _ => by simp at h
  | v :: l, x, 0, h, hx => by simp at h; subst h; rw [JV.formedL, hx]; rfl
  | v :: l, x, i + 1, h, hx => by rw [JV.formedL, formedL_no (i := i) (by simpa using h) hx]; simp
/-- what json.look hands back -/
def lookR (v : JV) : Value := if v.formed then .tuple #[.int .i64 (v.deep : Nat), .bool true] else .tuple #[.int .i64 0, .bool false]
def LookOk (v : JV) : Prop := ∀ (ok : Nat → Prop) (V : Value) (w : World), JAt ok w v V → KOk v → v.weigh ≤ 1000000000000 →
  Calls Tryz.prog 28 #[V] w fun e w' => e = .returned (lookR v) ∧ Below w.heap.size w w'

set_option maxRecDepth 100000 in
set_option maxHeartbeats 4000000 in
theorem look_one (k : Int) (b : Bool) (n u : Int) (s : ByteArray) (ks : List ByteArray) (vs : List JV) (ih : ∀ x ∈ vs, LookOk x) : LookOk (.mk k b n u s ks vs) := by
  intro ok V w hj hko hw
  have hkw : ∀ k ∈ ks, k.size ≤ maxLen := fun k hk => by
    have := key_le hk
    rw [JV.weigh] at hw
    unfold maxLen
    omega
  have hwL : JV.weighL vs ≤ 1000000000000 := by rw [JV.weigh] at hw; omega
  obtain ⟨hk1, hk2, hko⟩ := hko
  have hPA := fun (W : World) (hW : Below w.heap.size w W) => plain_any (fun _ => True) (.mk k b n u s ks vs) V W (hj.kept (fun i _ hi => ⟨hW.block i hi, trivial⟩)) ⟨hk1, hk2⟩ hkw
  have hpk := fun h => JV.plain_kind (v := .mk k b n u s ks vs) h
  simp only [JV.kind, JV.items] at hpk
  rw [JAt] at hj
  obtain ⟨ka, kc, a, c, rfl, -, hvs, -, hvn⟩ := hj
  have hbx := heap_alloc_new w (.cells #[.int .u8 k, .bool b, .int .i64 n, .int .u64 u, .string s, .slice ka ks.length kc, .slice a vs.length c] 27)
  have hbA : Below w.heap.size w (w.alloc (.cells #[.int .u8 k, .bool b, .int .i64 n, .int .u64 u, .string s, .slice ka ks.length kc, .slice a vs.length c] 27)) := (Below.refl _ _).alloc (Nat.le_refl _) _
  obtain ⟨c0, c1, c2, c3, c4, c5, c6⟩ := cell_agg7 hbx
  have hlA := (Array.getElem?_eq_some_iff.1 hbx).1
  have HPL := Lib.hid (hPA _ hbA)
  have HBX := Lib.hid hbx
  have HBA := Lib.hid hbA
  have HVS := Lib.hid hvs
  have HIH := Lib.hid ih
  have HKO := Lib.hid hko
  have HWL := Lib.hid hwL
  have HPK := Lib.hid hpk
  have hfm : ∀ z, JV.plain (.mk k b n u s ks vs) = z → JV.formed (.mk k b n u s ks vs) = (z && JV.formedL vs) := fun z hz => by rw [JV.formed, hz]
  have HFM := Lib.hid hfm
  have hdp : 6 ≤ k ∧ k ≤ 7 → JV.deep (.mk k b n u s ks vs) = JV.deepL vs + 1 := fun h => by rw [JV.deep, if_pos (by omega)]
  have hdp0 : ¬ 6 ≤ k → JV.deep (.mk k b n u s ks vs) = 0 := fun h => by rw [JV.deep, if_neg (by omega)]
  have HDP := Lib.hid (And.intro hdp hdp0)
  clear hbx hbA hvs ih hko hw hkw hwL hPA hfm hdp hdp0 hpk
  go_enter Tryz.func28, Tryz.ntmps28
  go_upto_region 1 with fail
  generalize w.alloc (.cells #[.int .u8 k, .bool b, .int .i64 n, .int .u64 u, .string s, .slice ka ks.length kc, .slice a vs.length c] 27) = wA at *
  go_wp2_with fail
  refine HPL.out.mono ?_
  rintro e w1 ⟨rfl, hb1⟩
  have hbx1 := (hb1.block w.heap.size hlA).trans HBX.out
  clear c0 c1 c2 c3 c4 c5 c6
  obtain ⟨c0, c1, c2, c3, c4, c5, c6⟩ := cell_agg7 hbx1
  have HB1 := Lib.hid (HBA.out.trans (hb1.mono HBA.out.size))
  clear hb1 hbx1
  cases hp : JV.plain (.mk k b n u s ks vs) with
  | false =>
    go_wp2_with fail
    go_ret2
    exact ⟨by unfold lookR; rw [HFM.out _ hp]; rfl, HB1.out⟩
  | true =>
    obtain ⟨p1, p2, p3⟩ := HPK.out hp
    have HFT := Lib.hid (HFM.out _ hp)
    have HP3 := Lib.hid p3
    clear HFM HPK hp p3
    by_cases h6 : 6 ≤ k
    · have HD := Lib.hid (HDP.out.1 ⟨h6, p2⟩)
      go_wp2_with fail
      clear c0 c1 c2 c3 c4 c5 c6
      go_loopg [2, 3, 4, 6, 7, 8, 20] vs.length (fun g s2 s3 s4 _ _ _ s20 wr => ∃ i : Nat, i + g = vs.length ∧ s2 = .int .i64 0 ∧ s3 = .bool false ∧ s4 = .int .i64 ((JV.deepL (vs.take i) + 1 : Nat) : Int) ∧ s20 = .int .i64 i ∧ JV.formedL (vs.take i) = true ∧ Below w.heap.size w wr)
      case atStart => exact ⟨0, by omega, rfl, rfl, by rw [List.take_zero, JV.deepL]; rfl, rfl, by rw [List.take_zero, JV.formedL], HB1.out⟩
      case round =>
        obtain ⟨i, hi, rfl, rfl, rfl, rfl, hfl, hbw⟩ := hrel
        have HBW := Lib.hid hbw
        have HFL := Lib.hid hfl
        clear hbw hfl
        by_cases hlt : i < vs.length
        · obtain ⟨x, hx⟩ : ∃ x, vs[i]? = some x := ⟨_, List.getElem?_eq_getElem hlt⟩
          have hxm := List.mem_of_getElem? hx
          obtain ⟨q, off, ha, hq, hqw, hit⟩ := HVS.out.resolve_left (by rintro rfl; simp at hlt)
          obtain ⟨V, h7, hja⟩ := hit.get hx
          obtain ⟨xk, xb, xn, xu, xs, xa, xm, xc, xa2, xm2, xc2, rfl, d0, d1, d2, d3, d4, d5, d6⟩ := it_cells h7 hja
          have hkq : ∀ i : Nat, wr.cell? ⟨q, i, none⟩ = w.cell? ⟨q, i, none⟩ := fun i => HBW.out.cell (p := ⟨q, i, none⟩) hqw
          rw [← hkq, Nat.mul_comm 7 i] at d0 d1 d2 d3 d4 d5 d6
          have htk : vs.take (i + 1) = vs.take i ++ [x] := by rw [List.take_add_one, hx]; rfl
          have hd1 := deepL_snoc (vs.take i) x
          have hf1 := formedL_snoc (vs.take i) x
          rw [← htk] at hd1 hf1
          have hwx := Nat.le_trans (weigh_le hx) HWL.out
          have hdx := Nat.le_trans (deep_le x) hwx
          have hdl := Nat.le_trans (deepL_le vs) HWL.out
          have hdt : JV.deepL (vs.take i) ≤ JV.deepL vs := by
            have key : ∀ (l : List JV) (j : Nat), JV.deepL (l.take j) ≤ JV.deepL l := by
              intro l
              induction l with
              | nil => intro j; simp
              | cons v l ih =>
                intro j
                cases j with
                | zero => rw [List.take_zero]; simp [JV.deepL]
                | succ j => rw [List.take_succ_cons, JV.deepL, JV.deepL]; have := ih j; omega
            exact key vs i
          have hdt2 := Nat.le_trans hdt hdl
          have HLO := Lib.hid (HIH.out x hxm)
          have HKX := Lib.hid (HKO.out x hxm)
          have HWX := Lib.hid hwx
          have HD1 := Lib.hid hd1
          have HF1 := Lib.hid hf1
          have HNO := Lib.hid (fun h => formedL_no hx h)
          subst ha
          have hal : Below w.heap.size w (wr.alloc (.cells #[.int .u8 xk, .bool xb, .int .i64 xn, .int .u64 xu, .string xs, .slice xa xm xc, .slice xa2 xm2 xc2] 27)) := HBW.out.alloc HBW.out.size _
          have hbx := heap_alloc_new wr (.cells #[.int .u8 xk, .bool xb, .int .i64 xn, .int .u64 xu, .string xs, .slice xa xm xc, .slice xa2 xm2 xc2] 27)
          have HJ := Lib.hid (hja.kept (ok' := fun _ => True) (fun i _ hi => ⟨hal.block i hi, trivial⟩))
          have HAL := Lib.hid hal
          have HBX2 := Lib.hid hbx
          generalize JV.deepL (vs.take i) = D at *
          clear hit h7 hja hkq HVS hxm hq hx hwx hd1 hf1 hdl hdt htk hal hbx
          go_upto_region 9 with fail
          generalize wr.alloc (.cells #[.int .u8 xk, .bool xb, .int .i64 xn, .int .u64 xu, .string xs, .slice xa xm xc, .slice xa2 xm2 xc2] 27) = W1 at *
          have hbx2 := HBX2.out
          obtain ⟨e0, e1, e2, e3, e4, e5, e6⟩ := cell_agg7 hbx2
          have HL := Lib.hid (HLO.out _ _ _ HJ.out HKX.out HWX.out)
          clear hbx2 d0 d1 d2 d3 d4 d5 d6
          go_wp2_with fail
          refine HL.out.mono ?_
          rintro e w3 ⟨rfl, hb3⟩
          have HB3 := Lib.hid (HAL.out.trans (hb3.mono HAL.out.size))
          clear hb3 e0 e1 e2 e3 e4 e5 e6
          unfold lookR
          cases hf : x.formed with
          | false =>
            have HF := Lib.hid hf
            clear hf
            simp only [Bool.false_eq_true, if_false]
            go_wp2_with fail
            go_ret2
            exact ⟨by unfold lookR; rw [HFT.out, HNO.out HF.out]; rfl, HB3.out⟩
          | true =>
            have HF := Lib.hid hf
            clear hf
            simp only [if_true]
            obtain ⟨d, hd⟩ : ∃ d, x.deep = d := ⟨_, rfl⟩
            rw [hd] at hdx HD1 ⊢
            clear hd
            obtain ⟨M, hM⟩ : ∃ M : Nat, M = max D d := ⟨_, rfl⟩
            have hmx : max ((D : Int) + 1) ((d : Int) + 1) = (M : Int) + 1 := by omega
            have hmx2 : max (((D + 1 : Nat) : Int)) ((d : Int) + 1) = (M : Int) + 1 := by omega
            rw [← hM] at HD1
            go_wp2_with fail
            go_roundg (gk - 1)
            case measure => omega
            case rel => exact ⟨i + 1, by omega, rfl, rfl, by rw [HD1.out]; first | rfl | go_num | (simp; omega), by go_num, by rw [HF1.out, HFL.out, HF.out]; rfl, HB3.out⟩
        · obtain rfl : i = vs.length := by omega
          rw [List.take_length] at HFL
          rw [List.take_length]
          have hdl := Nat.le_trans (deepL_le vs) HWL.out
          go_wp2_with fail
          go_ret2
          exact ⟨by unfold lookR; rw [HFT.out, HFL.out, HD.out]; rfl, HBW.out⟩
    · have HD := Lib.hid (HDP.out.2 (by omega))
      have hv := HP3.out (by omega)
      subst hv
      go_wp2_with fail
      clear c0 c1 c2 c3 c4 c5 c6
      go_loopg [2, 3, 4, 6, 7, 8, 20] 0 (fun g s2 s3 s4 _ _ _ s20 wr => s2 = .int .i64 0 ∧ s3 = .bool false ∧ s4 = .int .i64 0 ∧ s20 = .int .i64 0 ∧ Below w.heap.size w wr)
      case atStart => exact ⟨rfl, rfl, rfl, rfl, HB1.out⟩
      case round =>
        obtain ⟨rfl, rfl, rfl, rfl, hbw⟩ := hrel
        have HBW := Lib.hid hbw
        clear hbw
        go_wp2_with fail
        go_ret2
        exact ⟨by unfold lookR; rw [HFT.out, HD.out]; rfl, HBW.out⟩
theorem look_any : ∀ v, LookOk v := JV.ind fun k b n u s ks vs ih => look_one k b n u s ks vs ih

theorem check_is (v : JV) : v.check = if v.formed then (if 64 < v.deep then 161 else 0) else 160 := by
  unfold JV.check
  rw [JV.look_is]
  cases v.formed <;> rfl
set_option maxRecDepth 100000 in
set_option maxHeartbeats 4000000 in
theorem check_any (ok : Nat → Prop) (v : JV) (V : Value) (w : World) (h : JAt ok w v V) (hk : KOk v) (hw : v.weigh ≤ 1000000000000) :
    Calls Tryz.prog 13 #[V] w fun e w' => e = .returned (.int .i64 v.check) ∧ Below w.heap.size w w' := by
  have hd := Nat.le_trans (deep_le v) hw
  have hjk := fun (W : World) (hW : Below w.heap.size w W) => h.kept (ok' := fun _ => True) (fun i _ hi => ⟨hW.block i hi, trivial⟩)
  obtain ⟨k, b, n, u, s, ks, vs⟩ := v
  have h0 := h
  rw [JAt] at h0
  obtain ⟨ka, kc, a, c, rfl, -⟩ := h0
  have hbx := heap_alloc_new w (.cells #[.int .u8 k, .bool b, .int .i64 n, .int .u64 u, .string s, .slice ka ks.length kc, .slice a vs.length c] 27)
  have hbA : Below w.heap.size w (w.alloc (.cells #[.int .u8 k, .bool b, .int .i64 n, .int .u64 u, .string s, .slice ka ks.length kc, .slice a vs.length c] 27)) := (Below.refl _ _).alloc (Nat.le_refl _) _
  obtain ⟨c0, c1, c2, c3, c4, c5, c6⟩ := cell_agg7 hbx
  have HL := Lib.hid (look_any _ _ _ _ (hjk _ hbA) hk hw)
  have HBA := Lib.hid hbA
  have HCI := Lib.hid (check_is (.mk k b n u s ks vs))
  clear hbx hbA h hjk hk hw
  generalize JV.mk k b n u s ks vs = v at *
  go_enter Tryz.func13, Tryz.ntmps13
  go_wp2_with fail
  refine HL.out.mono ?_
  rintro e w1 ⟨rfl, hb1⟩
  have HB1 := Lib.hid (HBA.out.trans (hb1.mono HBA.out.size))
  clear hb1 c0 c1 c2 c3 c4 c5 c6
  unfold lookR
  cases hf : v.formed with
  | false =>
    have HF := Lib.hid hf
    clear hf
    simp only [Bool.false_eq_true, if_false]
    go_wp2_with fail
    go_ret
    exact ⟨by rw [HCI.out, HF.out]; rfl, HB1.out⟩
  | true =>
    have HF := Lib.hid hf
    clear hf
    simp only [if_true]
    obtain ⟨d, hd2⟩ : ∃ d, v.deep = d := ⟨_, rfl⟩
    have HD := Lib.hid hd2
    rw [hd2] at hd ⊢
    clear hd2
    by_cases h6 : 64 < d
    · go_wp2_with fail
      go_ret
      exact ⟨by rw [HCI.out, HF.out, HD.out, if_pos rfl, if_pos h6]; rfl, HB1.out⟩
    · go_wp2_with fail
      go_ret
      exact ⟨by rw [HCI.out, HF.out, HD.out, if_pos rfl, if_neg h6]; rfl, HB1.out⟩

/-- what json.Show hands back -/
def showR (v : JV) : Value := .tuple #[.string (if v.check = 0 then ⟨(shJ v).toArray⟩ else ⟨#[]⟩), .int .i64 v.check]
theorem check_form {v : JV} (h : v.check = 0) : v.formed = true ∧ v.deep ≤ 64 := by
  rw [check_is] at h
  cases hf : v.formed with
  | false => rw [hf, if_neg (by decide)] at h; omega
  | true =>
    rw [hf, if_pos rfl] at h
    by_cases h6 : 64 < v.deep
    · rw [if_pos h6] at h; omega
    · exact ⟨rfl, by omega⟩
set_option maxRecDepth 100000 in
set_option maxHeartbeats 4000000 in
theorem showM_any (ok : Nat → Prop) (v : JV) (V : Value) (w : World) (hg : Globs w) (hT : Lib.Utf8Tabs 0 1 w) (h17 : 17 ≤ w.heap.size) (h : JAt ok w v V) (hk : KOk v) (hr : Rng v) (hw : v.weigh ≤ 1000000000000) (hl : (shJ v).length ≤ 90000000000000) :
    Calls Tryz.prog 9 #[V] w fun e w' => e = .returned (showR v) ∧ Below w.heap.size w w' := by
  have hjk := fun (B : Nat) (hB : w.heap.size ≤ B) (W : World) (hW : Below w.heap.size w W) => h.kept (ok' := fun q => q < B) (fun i _ hi => ⟨hW.block i hi, by omega⟩)
  have hcf := fun h => check_form (v := v) h
  obtain ⟨k, b, n, u, s, ks, vs⟩ := v
  have h0 := h
  rw [JAt] at h0
  obtain ⟨ka, kc, a, c, rfl, -⟩ := h0
  have hbx := heap_alloc_new w (.cells #[.int .u8 k, .bool b, .int .i64 n, .int .u64 u, .string s, .slice ka ks.length kc, .slice a vs.length c] 27)
  have hbA : Below w.heap.size w (w.alloc (.cells #[.int .u8 k, .bool b, .int .i64 n, .int .u64 u, .string s, .slice ka ks.length kc, .slice a vs.length c] 27)) := (Below.refl _ _).alloc (Nat.le_refl _) _
  obtain ⟨c0, c1, c2, c3, c4, c5, c6⟩ := cell_agg7 hbx
  have hlA := (Array.getElem?_eq_some_iff.1 hbx).1
  have HL := Lib.hid (check_any _ _ _ _ (hjk _ (Nat.le_refl _) _ hbA) hk hw)
  have HJK := Lib.hid hjk
  have HBA := Lib.hid hbA
  have HBX := Lib.hid hbx
  have HCF := Lib.hid hcf
  have HG := Lib.hid hg
  have HT := Lib.hid hT
  have HR := Lib.hid hr
  have HW := Lib.hid hw
  have HLN := Lib.hid hl
  clear hbx hbA h hjk hk hw hcf hg hT hr hl
  generalize hvv : JV.mk k b n u s ks vs = v at *
  clear hvv
  go_enter Tryz.func9, Tryz.ntmps9
  go_upto_region 1 with fail
  generalize w.alloc (.cells #[.int .u8 k, .bool b, .int .i64 n, .int .u64 u, .string s, .slice ka ks.length kc, .slice a vs.length c] 27) = wA at *
  go_wp2_with fail
  refine HL.out.mono ?_
  rintro e w1 ⟨rfl, hb1⟩
  have hbx1 := (hb1.block w.heap.size hlA).trans HBX.out
  clear c0 c1 c2 c3 c4 c5 c6
  have hb1' := HBA.out.trans (hb1.mono HBA.out.size)
  have hsz1 := hb1'.size
  obtain ⟨c0, c1, c2, c3, c4, c5, c6⟩ := cell_agg7 hbx1
  have hl1 := (Array.getElem?_eq_some_iff.1 hbx1).1
  have HB1 := Lib.hid hb1'
  have HBX1 := Lib.hid hbx1
  clear hb1 hbx1 hb1'
  by_cases hc : v.check = 0
  · have HC := Lib.hid hc
    rw [hc]
    clear hc
    have hbl := bl_new w1.heap.size w1 (Nat.le_refl _)
    have hal : Below w1.heap.size w1 (w1.alloc (.cells #[.pointer none, .slice none 0 0] 49)) := (Below.refl _ _).alloc (Nat.le_refl _) _
    have hbx2 := (hal.block w.heap.size hl1).trans HBX1.out
    clear c0 c1 c2 c3 c4 c5 c6
    obtain ⟨c0, c1, c2, c3, c4, c5, c6⟩ := cell_agg7 hbx2
    have hal2 := HB1.out.trans (hal.mono HB1.out.size)
    have HS := Lib.hid (showV_any w1.heap.size w1.heap.size v _ [] _ hbl hal.size (by omega) (HG.out.on hal2) (utabs_kept HT.out (hal2.mono h17)) (HJK.out w1.heap.size HB1.out.size _ hal2) (HCF.out HC.out).1 HR.out (by have := HLN.out; rw [List.length_nil]; omega) HW.out)
    have HAL := Lib.hid hal
    clear hbl hal hbx2 hal2
    go_wp2_with fail
    refine HS.out.mono ?_
    rintro e w3 ⟨rfl, hw3⟩
    have HSS := Lib.hid (Tryz.Builder_String_any_k w1.heap.size w1.heap.size _ w3 hw3.bl (by have := hw3.below.size; have := HAL.out.size; omega))
    have HB3 := Lib.hid (HB1.out.trans ((HAL.out.trans hw3.below).mono HB1.out.size))
    clear hw3 c0 c1 c2 c3 c4 c5 c6
    go_wp2_with fail
    refine HSS.out.mono ?_
    rintro e w4 ⟨rfl, hbl4, hb4, hk4⟩
    have HB4 := Lib.hid (HB3.out.trans (hb4.mono HB1.out.size))
    clear hbl4 hb4 hk4
    go_wp2_with fail
    go_ret2
    exact ⟨by unfold showR; rw [HC.out, if_pos rfl]; rfl, HB4.out⟩
  · have HC := Lib.hid hc
    have hc2 : (v.check == 0) = false := beq_eq_false_iff_ne.2 hc
    have hc3 : (v.check != 0) = true := by rw [bne, hc2]; rfl
    obtain ⟨z, hz⟩ : ∃ z, v.check = z := ⟨_, rfl⟩
    have HZ := Lib.hid hz
    rw [hz] at hc hc2 hc3 ⊢
    clear hz
    go_wp2_with fail
    go_ret2
    exact ⟨by unfold showR; rw [HZ.out, if_neg (by rw [← HZ.out]; exact HC.out)]; rfl, HB1.out⟩
end Go.Proofs.YtckaoeloofbklaaGreatDoor

/- What a shown value, with blanks, is read as: itself, or a name stands twice (plain). -/
namespace Go.Proofs.YtckaoeloofbklaaGreatDoor
section
variable {N : List UInt8 → JV → Prop} {intL fltL : Int → List UInt8} {inf : Int → Bool}

/-- a name as it is read -/
def nmK (k : ByteArray) : ByteArray := ⟨(decB8 k.data.toList).toArray⟩
/-- how a value's text, with blanks, is read -/
def Reads (N : List UInt8 → JV → Prop) (intL fltL : Int → List UInt8) (inf : Int → Bool) (v : JV) : Prop :=
  ∀ (n : Nat) (t u : List UInt8), v.formed = true → Rng v → v.deep ≤ n → Bl false (showJ intL fltL v) t → EndV u →
    ∃ o, Val decB8 enc N n (t ++ u) o ∧ ((dupJ v = false ∧ o = .ok (normJ inf v) (skipB u)) ∨ (dupJ v = true ∧ ∃ t', o = .err 162 t'))

theorem Bl.at_mark {c : UInt8} {s t : List UInt8} (hc : markC c = true) (h : Bl false (c :: s) t) : ∃ p q t', t = p ++ c :: (q ++ t') ∧ p.all isBl = true ∧ q.all isBl = true ∧ Bl false s t' := by
  cases h with
  | char h1 h2 =>
    exfalso
    have : (c == 34) = false := by rw [beq_eq_false_iff_ne]; rintro rfl; revert hc; decide
    rw [this, hc] at h1
    simp at h1
  | mark h1 hp hq h2 => exact ⟨_, _, _, rfl, hp, hq, h2⟩
theorem skip_mark (p q t u : List UInt8) (c : UInt8) (hp : p.all isBl = true) (hc : isBl c = false) : skipB (p ++ c :: (q ++ t) ++ u) = c :: (q ++ (t ++ u)) := by
  rw [List.append_assoc, skip_blanks p _ hp, List.cons_append, skip_at c _ hc, List.append_assoc]
theorem end_bl {c : UInt8} {s t : List UInt8} (hc : c = 44 ∨ c = 93 ∨ c = 125) (h : Bl false (c :: s) t) (u : List UInt8) : EndV (t ++ u) := by
  have hm : markC c = true := by rcases hc with rfl | rfl | rfl <;> decide
  obtain ⟨p, q, t', rfl, hp, -, -⟩ := h.at_mark hm
  cases p with
  | nil => exact .inr hc
  | cons b p =>
    rw [List.all_cons, Bool.and_eq_true] at hp
    exact .inl hp.1
theorem rest_head (r : Bool) (e : UInt8) (ks : List ByteArray) (vs : List JV) (he : e = 93 ∨ e = 125) : ∃ c s, showT intL fltL r ks vs ++ [e] = c :: s ∧ (c = 44 ∨ c = 93 ∨ c = 125) := by
  cases vs with
  | nil => exact ⟨e, [], by rw [showT]; rfl, .inr he⟩
  | cons v vs => exact ⟨44, _, by rw [showT]; rfl, .inl rfl⟩

/-- one value, and what stands behind it -/
theorem read_one (hN : NumOK N intL fltL inf) (r : Bool) (e : UInt8) (he : e = 93 ∨ e = 125) (n : Nat) (v : JV) (ks : List ByteArray) (vs : List JV) (P : Reads N intL fltL inf v) (hf : v.formed = true) (hr : Rng v) (hd : v.deep ≤ n) (t u : List UInt8)
    (h : Bl false (showJ intL fltL v ++ (showT intL fltL r ks vs ++ [e])) t) :
    ∃ T o, Bl false (showT intL fltL r ks vs ++ [e]) T ∧ Val decB8 enc N n (t ++ u) o ∧ ((dupJ v = false ∧ o = .ok (normJ inf v) (skipB (T ++ u))) ∨ (dupJ v = true ∧ ∃ t', o = .err 162 t')) := by
  obtain ⟨t1, T, rfl, g1, g2⟩ := h.split
  rw [(fst_show hN v hr).2] at g2
  have hE : EndV (T ++ u) := by
    obtain ⟨c, s, e1, hc⟩ := rest_head (intL := intL) (fltL := fltL) r e ks vs he
    rw [e1] at g2
    exact end_bl hc g2 u
  obtain ⟨o, h1, h2⟩ := P n t1 (T ++ u) hf hr hd g1 hE
  exact ⟨T, o, g2, by rw [List.append_assoc]; exact h1, h2⟩

/-- what comes of a list's rest -/
def ResL (inf : Int → Bool) (acc vs : List JV) (u : List UInt8) (o : Out (List JV)) : Prop :=
  (dupL vs = false ∧ ∃ q, q.all isBl = true ∧ o = .ok (acc ++ normL inf vs) (q ++ u)) ∨ (dupL vs = true ∧ ∃ t', o = .err 162 t')
theorem read_t (hN : NumOK N intL fltL inf) (n : Nat) (u : List UInt8) : ∀ (vs acc : List JV) (ks : List ByteArray) (t : List UInt8), (∀ v ∈ vs, Reads N intL fltL inf v) → (∀ v ∈ vs, v.formed = true) → (∀ v ∈ vs, Rng v) → (∀ v ∈ vs, v.deep ≤ n) →
    Bl false (showT intL fltL false ks vs ++ [93]) t → ∃ o, Sev 93 (OneL (Val decB8 enc N n)) acc (skipB (t ++ u)) o ∧ ResL inf acc vs u o
  | [], acc, ks, t, _, _, _, _, h => by
    rw [showT, List.nil_append] at h
    obtain ⟨p, q, t', rfl, hp, hq, h'⟩ := h.at_mark (by decide)
    cases h'
    rw [skip_mark _ _ _ _ _ hp (by decide)]
    refine ⟨_, .stop, .inl ⟨rfl, q, hq, ?_⟩⟩
    rw [normL, List.append_nil, List.nil_append]
  | v :: vs, acc, ks, t, hP, hf, hr, hd, h => by
    rw [showT, if_neg (by decide), List.nil_append, List.cons_append, List.cons_append, List.append_assoc] at h
    obtain ⟨p, q, t', rfl, hp, hq, h'⟩ := h.at_mark (by decide)
    rw [skip_mark _ _ _ _ _ hp (by decide)]
    obtain ⟨T, o1, g2, h1, h2⟩ := read_one hN false 93 (.inl rfl) n v ks.tail vs (hP v (by simp)) (hf v (by simp)) (hr v (by simp)) (hd v (by simp)) t' u h'
    have h1 := val_skip (N := N) (t' ++ u) (q ++ (t' ++ u)) (skip_blanks q _ hq).symm n h1
    rcases h2 with ⟨hdu, rfl⟩ | ⟨hdu, t2, rfl⟩
    · obtain ⟨o, h3, h4⟩ := read_t hN n u vs (acc ++ [normJ inf v]) ks.tail T (fun x hx => hP x (by simp [hx])) (fun x hx => hf x (by simp [hx])) (fun x hx => hr x (by simp [hx])) (fun x hx => hd x (by simp [hx])) g2
      refine ⟨o, .more (.ok h1) h3, ?_⟩
      unfold ResL at h4 ⊢
      rw [dupL, hdu, Bool.false_or, normL]
      rw [List.append_assoc, List.singleton_append] at h4
      exact h4
    · refine ⟨_, .bad (.err h1), .inr ⟨?_, t2, rfl⟩⟩
      rw [dupL, hdu]; rfl
theorem fst_skip {s t : List UInt8} (hs : Fst s) (h : Bl false s t) (u : List UInt8) (e : UInt8) (he : e = 93 ∨ e = 125) : Ends (· == e) (skipB (t ++ u)) := by
  obtain ⟨⟨c, l, rfl, h1, h2, h3⟩, -⟩ := hs
  have hce : (c == e) = false := by rw [beq_eq_false_iff_ne]; rintro rfl; rcases he with h | h <;> contradiction
  cases h with
  | char g1 g2 => rw [List.cons_append, skip_at _ _ h1]; exact hce
  | mark g1 hp hq g2 => rw [skip_mark _ _ _ _ _ hp h1]; exact hce
theorem read_l0 (hN : NumOK N intL fltL inf) (n : Nat) (u : List UInt8) (vs : List JV) (ks : List ByteArray) (t : List UInt8) (hP : ∀ v ∈ vs, Reads N intL fltL inf v) (hf : ∀ v ∈ vs, v.formed = true) (hr : ∀ v ∈ vs, Rng v) (hd : ∀ v ∈ vs, v.deep ≤ n)
    (h : Bl false ((showT intL fltL false ks vs).drop 1 ++ [93]) t) : ∃ o, Sev0 93 (OneL (Val decB8 enc N n)) [] (skipB (t ++ u)) o ∧ ResL inf [] vs u o := by
  cases vs with
  | nil =>
    rw [showT] at h
    obtain ⟨p, q, t', rfl, hp, hq, h'⟩ := h.at_mark (by decide)
    cases h'
    rw [skip_mark _ _ _ _ _ hp (by decide)]
    refine ⟨_, .stop, .inl ⟨rfl, q, hq, ?_⟩⟩
    rw [normL, List.append_nil, List.nil_append]
  | cons v vs =>
    rw [showT, if_neg (by decide), List.nil_append, List.cons_append, List.drop_one, List.tail_cons, List.append_assoc] at h
    have hE : Ends (· == 93) (skipB (t ++ u)) := by
      obtain ⟨t1, T, rfl, g1, -⟩ := h.split
      rw [List.append_assoc]
      exact fst_skip (fst_show hN v (hr v (by simp))) g1 _ 93 (.inl rfl)
    obtain ⟨T, o1, g2, h1, h2⟩ := read_one hN false 93 (.inl rfl) n v ks.tail vs (hP v (by simp)) (hf v (by simp)) (hr v (by simp)) (hd v (by simp)) t u h
    have h1 := val_skip (N := N) (t ++ u) (skipB (t ++ u)) (skip_skip _).symm n h1
    rcases h2 with ⟨hdu, rfl⟩ | ⟨hdu, t2, rfl⟩
    · obtain ⟨o, h3, h4⟩ := read_t hN n u vs [normJ inf v] ks.tail T (fun x hx => hP x (by simp [hx])) (fun x hx => hf x (by simp [hx])) (fun x hx => hr x (by simp [hx])) (fun x hx => hd x (by simp [hx])) g2
      refine ⟨o, .more hE (.ok h1) h3, ?_⟩
      unfold ResL at h4 ⊢
      rw [dupL, hdu, Bool.false_or, normL]
      exact h4
    · refine ⟨_, .bad hE (.err h1), .inr ⟨?_, t2, rfl⟩⟩
      rw [dupL, hdu]; rfl
end
end Go.Proofs.YtckaoeloofbklaaGreatDoor

/- Records, and values as a whole: what a shown value, with blanks, is read as (plain). -/
namespace Go.Proofs.YtckaoeloofbklaaGreatDoor
section
variable {N : List UInt8 → JV → Prop} {intL fltL : Int → List UInt8} {inf : Int → Bool}

/-- one name and its value, and what stands behind them: X is where the name is read from -/
theorem read_kv (hN : NumOK N intL fltL inf) (n : Nat) (v : JV) (k : ByteArray) (ks : List ByteArray) (vs : List JV) (P : Reads N intL fltL inf v) (hf : v.formed = true) (hr : Rng v) (hd : v.deep ≤ n) (t u X : List UInt8) (aK : List ByteArray) (aV : List JV)
    (h : Bl false (quoL k.data.toList ++ [58] ++ showJ intL fltL v ++ (showT intL fltL true ks vs ++ [125])) t) (hX : skipB X = skipB (t ++ u)) :
    (∃ t1, t = 34 :: t1) ∧ ∃ T o, Bl false (showT intL fltL true ks vs ++ [125]) T ∧ OneR decB8 enc (Val decB8 enc N n) (aK, aV) X o ∧
      ((nmK k ∉ aK ∧ dupJ v = false ∧ o = .ok (aK ++ [nmK k], aV ++ [normJ inf v]) (skipB (T ++ u))) ∨ ((nmK k ∈ aK ∨ dupJ v = true) ∧ ∃ t', o = .err 162 t')) := by
  rw [List.append_assoc, List.append_assoc] at h
  obtain ⟨T1, rfl, h1⟩ := h.quoted
  rw [List.singleton_append] at h1
  obtain ⟨p, q, T2, rfl, hp, hq, h2⟩ := h1.at_mark (by decide)
  obtain ⟨T, o1, g2, g1, g3⟩ := read_one hN true 125 (.inr rfl) n v ks vs P hf hr hd T2 u h2
  have g1 := val_skip (N := N) (T2 ++ u) (q ++ (T2 ++ u)) (skip_blanks q _ hq).symm n g1
  have e1 : skipB X = 34 :: (quoI k.data.toList ++ 34 :: (p ++ 58 :: (q ++ T2) ++ u)) := by
    rw [hX, List.cons_append, skip_at _ _ (by decide), List.append_assoc, List.cons_append]
  have hS := str_quoted k.data.toList (p ++ 58 :: (q ++ T2) ++ u)
  have e2 : skipB (p ++ 58 :: (q ++ T2) ++ u) = 58 :: (q ++ (T2 ++ u)) := skip_mark _ _ _ _ _ hp (by decide)
  refine ⟨⟨_, rfl⟩, T, ?_⟩
  by_cases hk : nmK k ∈ aK
  · exact ⟨_, g2, .twice e1 hS hk, .inr ⟨.inl hk, _, rfl⟩⟩
  · rcases g3 with ⟨hdu, rfl⟩ | ⟨hdu, t2, rfl⟩
    · exact ⟨_, g2, .ok e1 hS hk e2 g1, .inl ⟨hk, hdu, rfl⟩⟩
    · exact ⟨_, g2, .err e1 hS hk e2 g1, .inr ⟨.inr hdu, _, rfl⟩⟩

/-- what comes of a record's rest -/
def ResR (inf : Int → Bool) (aK : List ByteArray) (aV : List JV) (ks : List ByteArray) (vs : List JV) (u : List UInt8) (o : Out (List ByteArray × List JV)) : Prop :=
  ((aK ++ ks.map nmK).Nodup ∧ dupL vs = false ∧ ∃ q, q.all isBl = true ∧ o = .ok (aK ++ ks.map nmK, aV ++ normL inf vs) (q ++ u)) ∨ ((¬ (aK ++ ks.map nmK).Nodup ∨ dupL vs = true) ∧ ∃ t', o = .err 162 t')
theorem nodup_in {aK : List ByteArray} {k : ByteArray} {l : List ByteArray} (h : k ∈ aK) : ¬ (aK ++ k :: l).Nodup := by
  rw [List.nodup_append]
  rintro ⟨-, -, h3⟩
  exact h3 k h k (by simp) rfl
theorem res_step {aK : List ByteArray} {aV : List JV} {k : ByteArray} {ks : List ByteArray} {v : JV} {vs : List JV} {u : List UInt8} {o : Out (List ByteArray × List JV)} (hdu : dupJ v = false)
    (h : ResR inf (aK ++ [nmK k]) (aV ++ [normJ inf v]) ks vs u o) : ResR inf aK aV (k :: ks) (v :: vs) u o := by
  unfold ResR at h ⊢
  rw [dupL, hdu, Bool.false_or, normL, List.map_cons]
  rw [List.append_assoc, List.singleton_append, List.append_assoc, List.singleton_append] at h
  exact h
theorem res_bad {aK : List ByteArray} {aV : List JV} {k : ByteArray} {ks : List ByteArray} {v : JV} {vs : List JV} {u t' : List UInt8} (h : nmK k ∈ aK ∨ dupJ v = true) :
    ResR inf aK aV (k :: ks) (v :: vs) u (.err 162 t') := by
  refine .inr ⟨?_, t', rfl⟩
  rcases h with h | h
  · exact .inl (nodup_in h)
  · right; rw [dupL, h]; rfl
theorem read_tr (hN : NumOK N intL fltL inf) (n : Nat) (u : List UInt8) : ∀ (vs : List JV) (ks aK : List ByteArray) (aV : List JV) (t : List UInt8), ks.length = vs.length → aK.Nodup → (∀ v ∈ vs, Reads N intL fltL inf v) → (∀ v ∈ vs, v.formed = true) → (∀ v ∈ vs, Rng v) → (∀ v ∈ vs, v.deep ≤ n) →
    Bl false (showT intL fltL true ks vs ++ [125]) t → ∃ o, Sev 125 (OneR decB8 enc (Val decB8 enc N n)) (aK, aV) (skipB (t ++ u)) o ∧ ResR inf aK aV ks vs u o
  | [], ks, aK, aV, t, hl, hK, _, _, _, _, h => by
    have : ks = [] := List.eq_nil_of_length_eq_zero hl
    subst this
    rw [showT, List.nil_append] at h
    obtain ⟨p, q, t', rfl, hp, hq, h'⟩ := h.at_mark (by decide)
    cases h'
    rw [skip_mark _ _ _ _ _ hp (by decide)]
    refine ⟨_, .stop, .inl ⟨?_, rfl, q, hq, ?_⟩⟩
    · rw [List.map_nil, List.append_nil]; exact hK
    · rw [normL, List.map_nil, List.append_nil, List.append_nil, List.nil_append]
  | v :: vs, [], aK, aV, t, hl, _, _, _, _, _, _ => by simp at hl
  | v :: vs, k :: ks, aK, aV, t, hl, hK, hP, hf, hr, hd, h => by
    rw [showT, if_pos rfl, List.headD_cons, List.tail_cons, List.cons_append, List.cons_append, List.append_assoc] at h
    obtain ⟨p, q, t', rfl, hp, hq, h'⟩ := h.at_mark (by decide)
    rw [skip_mark _ _ _ _ _ hp (by decide)]
    obtain ⟨-, T, o1, g2, h1, h2⟩ := read_kv hN n v k ks vs (hP v (by simp)) (hf v (by simp)) (hr v (by simp)) (hd v (by simp)) t' u (q ++ (t' ++ u)) aK aV h' (skip_blanks q _ hq)
    rcases h2 with ⟨hk, hdu, rfl⟩ | ⟨hdu, t2, rfl⟩
    · obtain ⟨o, h3, h4⟩ := read_tr hN n u vs ks (aK ++ [nmK k]) (aV ++ [normJ inf v]) T (by simpa using hl) (by
        rw [List.nodup_append]
        refine ⟨hK, by simp, fun a ha b hb => ?_⟩
        simp only [List.mem_singleton] at hb
        subst hb
        rintro rfl
        exact hk ha) (fun x hx => hP x (by simp [hx])) (fun x hx => hf x (by simp [hx])) (fun x hx => hr x (by simp [hx])) (fun x hx => hd x (by simp [hx])) g2
      exact ⟨o, .more h1 h3, res_step hdu h4⟩
    · exact ⟨_, .bad h1, res_bad hdu⟩
theorem read_r0 (hN : NumOK N intL fltL inf) (n : Nat) (u : List UInt8) (vs : List JV) (ks : List ByteArray) (t : List UInt8) (hl : ks.length = vs.length) (hP : ∀ v ∈ vs, Reads N intL fltL inf v) (hf : ∀ v ∈ vs, v.formed = true) (hr : ∀ v ∈ vs, Rng v) (hd : ∀ v ∈ vs, v.deep ≤ n)
    (h : Bl false ((showT intL fltL true ks vs).drop 1 ++ [125]) t) : ∃ o, Sev0 125 (OneR decB8 enc (Val decB8 enc N n)) ([], []) (skipB (t ++ u)) o ∧ ResR inf [] [] ks vs u o := by
  cases vs with
  | nil =>
    have : ks = [] := List.eq_nil_of_length_eq_zero hl
    subst this
    rw [showT] at h
    obtain ⟨p, q, t', rfl, hp, hq, h'⟩ := h.at_mark (by decide)
    cases h'
    rw [skip_mark _ _ _ _ _ hp (by decide)]
    refine ⟨_, .stop, .inl ⟨by simp, rfl, q, hq, ?_⟩⟩
    rw [normL, List.map_nil, List.append_nil, List.append_nil, List.nil_append]
  | cons v vs =>
    cases ks with
    | nil => simp at hl
    | cons k ks =>
      rw [showT, if_pos rfl, List.headD_cons, List.tail_cons, List.cons_append, List.drop_one, List.tail_cons, List.append_assoc] at h
      obtain ⟨⟨t1, rfl⟩, T, o1, g2, h1, h2⟩ := read_kv hN n v k ks vs (hP v (by simp)) (hf v (by simp)) (hr v (by simp)) (hd v (by simp)) t u (skipB (t ++ u)) [] [] h (skip_skip _)
      have hE : Ends (· == 125) (skipB (34 :: t1 ++ u)) := by
        rw [List.cons_append, skip_at _ _ (by decide)]
        show ((34 : UInt8) == 125) = false
        decide
      rcases h2 with ⟨hk, hdu, rfl⟩ | ⟨hdu, t2, rfl⟩
      · obtain ⟨o, h3, h4⟩ := read_tr hN n u vs ks ([] ++ [nmK k]) ([] ++ [normJ inf v]) T (by simpa using hl) (by simp) (fun x hx => hP x (by simp [hx])) (fun x hx => hf x (by simp [hx])) (fun x hx => hr x (by simp [hx])) (fun x hx => hd x (by simp [hx])) g2
        exact ⟨o, .more hE h1 h3, res_step hdu h4⟩
      · exact ⟨_, .bad hE h1, res_bad hdu⟩
end
end Go.Proofs.YtckaoeloofbklaaGreatDoor

/- Every value that is shown is read so, with blanks or without (plain). -/
namespace Go.Proofs.YtckaoeloofbklaaGreatDoor
section
variable {N : List UInt8 → JV → Prop} {intL fltL : Int → List UInt8} {inf : Int → Bool}
theorem num_text {s t : List UInt8} (hs : NumS s) (h : Bl false s t) : t = s := h.same fun c hc => ⟨(numC_no c (hs.all c hc)).1, (numC_no c (hs.all c hc)).2.1⟩
theorem atom_num {s u : List UInt8} {v : JV} (hs : NumS s) (hv : N s v) (hu : EndV u) (n : Nat) : Val decB8 enc N n (s ++ u) (.ok v (skipB u)) := by
  obtain ⟨c, l, rfl, hc, hl⟩ := hs
  have hb := (numC_no c (NumS.all ⟨c, l, rfl, hc, hl⟩ c (by simp))).2.2
  refine val_atom (o := .ok v u) n ?_
  rw [List.cons_append, skip_at _ _ hb]
  exact .num hc hl hv (end_num hu).1
theorem dup_atom (k : Int) (b : Bool) (n u : Int) (s : ByteArray) : dupJ (.mk k b n u s [] []) = false := by rw [dupJ, dupL]; simp
theorem reads_all (hN : NumOK N intL fltL inf) : ∀ v, Reads N intL fltL inf v := by
  refine JV.ind fun k b n u s ks vs ih => ?_
  intro m t w hf hr hd h hw
  obtain ⟨r1, r2, r3, r4, hR⟩ := hr
  rw [JV.formed, Bool.and_eq_true] at hf
  obtain ⟨hp, hfl⟩ := hf
  have hfl := formedL_mem hfl
  simp only [JV.plain] at hp
  rw [showJ] at h
  rw [JV.deep] at hd
  by_cases k1 : k = 1
  · subst k1
    rw [if_pos rfl] at hp h
    simp at hp
    obtain ⟨⟨rfl, rfl, rfl, rfl, rfl⟩, rfl⟩ := hp
    have := h.same (by decide)
    subst this
    refine ⟨_, val_atom (o := .ok jNull w) m (Atom.null (end_num hw).2), .inl ⟨dup_atom .., ?_⟩⟩
    rw [normJ, if_neg (by simp)]; rfl
  rw [if_neg k1] at hp h
  by_cases k2 : k = 2
  · subst k2
    rw [if_pos rfl] at hp h
    simp at hp
    obtain ⟨⟨rfl, rfl, rfl, rfl⟩, rfl⟩ := hp
    cases b with
    | true =>
      have := h.same (by decide)
      subst this
      refine ⟨_, val_atom (o := .ok (jBool true) w) m (Atom.tru (end_num hw).2), .inl ⟨dup_atom .., ?_⟩⟩
      rw [normJ, if_neg (by simp)]; rfl
    | false =>
      have := h.same (by decide)
      subst this
      refine ⟨_, val_atom (o := .ok (jBool false) w) m (Atom.fals (end_num hw).2), .inl ⟨dup_atom .., ?_⟩⟩
      rw [normJ, if_neg (by simp)]; rfl
  rw [if_neg k2] at hp h
  by_cases k3 : k = 3
  · subst k3
    rw [if_pos rfl] at hp h
    simp at hp
    obtain ⟨⟨rfl, rfl, rfl, rfl⟩, rfl⟩ := hp
    obtain ⟨g1, g2⟩ := hN.int n r1 r2
    have := num_text g2 h
    subst this
    refine ⟨_, atom_num g2 g1 hw m, .inl ⟨dup_atom .., ?_⟩⟩
    rw [normJ, if_neg (by simp)]; rfl
  rw [if_neg k3] at hp h
  by_cases k4 : k = 4
  · subst k4
    rw [if_pos rfl] at hp h
    simp at hp
    obtain ⟨⟨rfl, rfl, rfl, rfl⟩, rfl⟩ := hp
    cases hi : inf u with
    | false =>
      obtain ⟨g1, g2⟩ := hN.flt u r3 r4 hi
      have := num_text g2 h
      subst this
      refine ⟨_, atom_num g2 g1 hw m, .inl ⟨dup_atom .., ?_⟩⟩
      rw [normJ, if_neg (by rw [hi]; simp)]; rfl
    | true =>
      rw [hN.nul u r3 r4 hi] at h
      have := h.same (by decide)
      subst this
      refine ⟨_, val_atom (o := .ok jNull w) m (Atom.null (end_num hw).2), .inl ⟨dup_atom .., ?_⟩⟩
      rw [normJ, if_pos ⟨rfl, hi⟩]; rfl
  rw [if_neg k4] at hp h
  by_cases k5 : k = 5
  · subst k5
    rw [if_pos rfl] at hp h
    simp at hp
    obtain ⟨⟨rfl, rfl, rfl, rfl⟩, rfl⟩ := hp
    obtain ⟨T, rfl, h2⟩ := Bl.quoted (s := []) (by rw [List.append_nil]; exact h)
    cases h2
    refine ⟨_, val_atom (o := .ok (jStr ⟨(decB8 s.data.toList).toArray⟩) w) m ?_, .inl ⟨dup_atom .., ?_⟩⟩
    · rw [List.cons_append, skip_at _ _ (by decide), List.append_assoc]
      exact .str (str_quoted _ w)
    · rw [normJ, if_neg (by simp)]; rfl
  rw [if_neg k5] at hp h
  by_cases k7 : k = 7
  · subst k7
    rw [if_neg (by decide), if_pos rfl] at hp
    rw [if_pos rfl] at h
    rw [if_pos (.inr rfl)] at hd
    simp at hp
    obtain ⟨⟨⟨rfl, rfl, rfl, rfl⟩, hlen⟩, hnd⟩ := hp
    obtain ⟨p, q, t', rfl, hp, hq, h'⟩ := h.at_mark (by decide)
    obtain ⟨m, rfl⟩ : ∃ j, m = j + 1 := ⟨m - 1, by omega⟩
    obtain ⟨o, h1, h2⟩ := read_r0 hN m w vs ks t' hlen.symm ih hfl hR (deepL_mem (by omega)) h'
    have hv : Val decB8 enc N (m + 1) (p ++ 123 :: (q ++ t') ++ w) (o.map fun x => jRec x.1 x.2).skip := by
      refine ⟨_, ?_, rfl⟩
      rw [skip_mark _ _ _ _ _ hp (by decide)]
      refine .rcd ?_
      rw [skip_blanks q _ hq]
      exact h1
    refine ⟨_, hv, ?_⟩
    rcases h2 with ⟨g1, g2, q', hq', rfl⟩ | ⟨g, t2, rfl⟩
    · refine .inl ⟨?_, ?_⟩
      · rw [dupJ, g2, Bool.or_false]
        rw [List.nil_append] at g1
        unfold nmK at g1
        simp [g1]
      · show Out.ok (jRec ([] ++ ks.map nmK) ([] ++ normL inf vs)) (skipB (q' ++ w)) = _
        rw [skip_blanks q' _ hq', List.nil_append, List.nil_append, normJ, if_neg (by simp)]
        rfl
    · refine .inr ⟨?_, t2, rfl⟩
      rw [dupJ]
      rcases g with g | g
      · rw [List.nil_append] at g
        unfold nmK at g
        simp [g]
      · rw [g, Bool.or_true]
  · by_cases k6 : k = 6
    · subst k6
      rw [if_pos rfl] at hp
      rw [if_neg k7] at h
      rw [if_pos (.inl rfl)] at hd
      simp at hp
      obtain ⟨rfl, rfl, rfl, rfl, rfl⟩ := hp
      obtain ⟨p, q, t', rfl, hp, hq, h'⟩ := h.at_mark (by decide)
      obtain ⟨m, rfl⟩ : ∃ j, m = j + 1 := ⟨m - 1, by omega⟩
      obtain ⟨o, h1, h2⟩ := read_l0 hN m w vs [] t' ih hfl hR (deepL_mem (by omega)) h'
      have hv : Val decB8 enc N (m + 1) (p ++ 91 :: (q ++ t') ++ w) (o.map jList).skip := by
        refine ⟨_, ?_, rfl⟩
        rw [skip_mark _ _ _ _ _ hp (by decide)]
        refine .list ?_
        rw [skip_blanks q _ hq]
        exact h1
      refine ⟨_, hv, ?_⟩
      rcases h2 with ⟨g2, q', hq', rfl⟩ | ⟨g, t2, rfl⟩
      · refine .inl ⟨?_, ?_⟩
        · rw [dupJ, g2]; simp
        · show Out.ok (jList ([] ++ normL inf vs)) (skipB (q' ++ w)) = _
          rw [skip_blanks q' _ hq', List.nil_append, normJ, if_neg (by simp)]
          rfl
      · refine .inr ⟨?_, t2, rfl⟩
        rw [dupJ, g, Bool.or_true]
    · rw [if_neg k6, if_neg k7] at hp
      cases hp
end
end Go.Proofs.YtckaoeloofbklaaGreatDoor
