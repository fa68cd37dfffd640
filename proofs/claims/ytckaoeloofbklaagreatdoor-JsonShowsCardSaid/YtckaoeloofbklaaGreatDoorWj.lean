/- Joined texts: Ke He Kf Kt. Each begins with its own remark. -/
import Derived.Test.YtckaoeloofbklaaGreatDoorWi
import Derived.BigQuiet
import Derived.Deep.RegionHeld
set_option maxRecDepth 100000
set_option maxHeartbeats 8000000
namespace Go.Proofs.YtckaoeloofbklaaGreatDoor
open Go Go.RowKit Go.Lib
def fltI (u : Int) : List UInt8 := fltN u.toNat
theorem BW.on {B b : Nat} {l : List UInt8} {A C D : World} (h : BW B b l A C) (hb : Below C.heap.size C D) (hA : B ≤ A.heap.size) : BW B b l A D :=
 ⟨h.bl.below hb, h.below.trans (hb.mono (Nat.le_trans hA h.below.size)), h.oth.below hb⟩
abbrev shJ : JV → List UInt8 := showJ Lib.itoa fltI
theorem fbool_is (bb : Bool) : Lib.formatBool bb = if bb then [116, 114, 117, 101] else [102, 97, 108, 115, 101] := by cases bb <;> rfl
theorem fbool_len (bb : Bool) : (Lib.formatBool bb).length ≤ 5 := by cases bb <;> decide
theorem itoa_len (n : Int) (h1 : -9223372036854775808 ≤ n) (h2 : n < 9223372036854775808) : (Lib.itoa n).length ≤ 20 := by
 unfold Lib.itoa
 split
 ·rw [List.length_cons, decDigits_length]
  have := nd_le 18 n.natAbs (by omega)
  omega
 ·rw [decDigits_length]
  have := nd_le 18 n.toNat (by omega)
  omega
theorem fltN_len (u : Nat) : (fltN u).length ≤ 110 := by
 have := showB_len u
 unfold fltN
 split
 ·simp
 ·split
  ·omega
  ·rw [List.length_append]; simp; omega
theorem quoL_len (l : List UInt8) : (quoL l).length ≤ 6 * l.length + 2 := by
 have h := outQ_len (ptsO 0 l)
 rw [outQ_all, ptsO_len] at h
 have := pts_len l
 unfold quoL
 rw [List.length_append, List.length_cons]
 simp
 omega
theorem show_null (B b : Nat) (l : List UInt8) (bb : Bool) (n u : Int) (s : ByteArray) (x y : Value) (w : World) (h : BL B b l w) (hB : B ≤ w.heap.size) (hl : l.length + 4 ≤ 140737488355328) :
  Calls Tryz.prog 22 #[.pointer (some ⟨b, 0, none⟩), .agg #[.int .u8 1, .bool bb, .int .i64 n, .int .u64 u, .string s, x, y]] w fun e w' => e = .returned (.tuple #[]) ∧ BW B b (l ++ [110, 117, 108, 108]) w w' := by
 have hA : BW B b l w (w.alloc (.cells #[.int .u8 1, .bool bb, .int .i64 n, .int .u64 u, .string s, x, y] 27)) := ⟨h.below ((Below.refl _ _).alloc (Nat.le_refl _) _), (Below.refl _ _).alloc hB _, (Lib.OthersKept.refl _ _ _).alloc _⟩
 have hsA : (w.alloc (.cells #[.int .u8 1, .bool bb, .int .i64 n, .int .u64 u, .string s, x, y] 27)).heap.size = w.heap.size + 1 := by simp
 have hbx := heap_alloc_new w (.cells #[.int .u8 1, .bool bb, .int .i64 n, .int .u64 u, .string s, x, y] 27)
 have hbA : Below w.heap.size w (w.alloc (.cells #[.int .u8 1, .bool bb, .int .i64 n, .int .u64 u, .string s, x, y] 27)) := (Below.refl _ _).alloc (Nat.le_refl _) _
 obtain ⟨c0, c1, c2, c3, c4, c5, c6⟩ := cell_agg7 hbx
 have HA := Lib.hid hA
 have HBA := Lib.hid hbA
 clear hA hbx h hbA
 go_enter Tryz.func22, Tryz.ntmps22
 go_upto_region 1 with fail
 generalize w.alloc (.cells #[.int .u8 1, .bool bb, .int .i64 n, .int .u64 u, .string s, x, y] 27) = wA at *
 have HWW := HA
 have HW := Lib.hid (bw_string B b l (⟨#[110, 117, 108, 108]⟩ : ByteArray) wA HWW.out.bl (by show _ + 4 ≤ _; omega) (by have := HWW.out.below.size; omega))
 go_wp2_with fail
 refine HW.out.mono ?_
 rintro e w3 ⟨rfl, hw⟩
 have HW3 := Lib.hid hw
 clear hw
 go_wp2_with fail
 go_end0
 exact ⟨rfl, HWW.out.trans HW3.out⟩
theorem show_bool (B b : Nat) (l : List UInt8) (bb : Bool) (n u : Int) (s : ByteArray) (x y : Value) (w : World) (h : BL B b l w) (hB : B ≤ w.heap.size) (hl : l.length + 5 ≤ 140737488355328) :
  Calls Tryz.prog 22 #[.pointer (some ⟨b, 0, none⟩), .agg #[.int .u8 2, .bool bb, .int .i64 n, .int .u64 u, .string s, x, y]] w fun e w' => e = .returned (.tuple #[]) ∧ BW B b (l ++ Lib.formatBool bb) w w' := by
 have hA : BW B b l w (w.alloc (.cells #[.int .u8 2, .bool bb, .int .i64 n, .int .u64 u, .string s, x, y] 27)) := ⟨h.below ((Below.refl _ _).alloc (Nat.le_refl _) _), (Below.refl _ _).alloc hB _, (Lib.OthersKept.refl _ _ _).alloc _⟩
 have hsA : (w.alloc (.cells #[.int .u8 2, .bool bb, .int .i64 n, .int .u64 u, .string s, x, y] 27)).heap.size = w.heap.size + 1 := by simp
 have hbx := heap_alloc_new w (.cells #[.int .u8 2, .bool bb, .int .i64 n, .int .u64 u, .string s, x, y] 27)
 have hbA : Below w.heap.size w (w.alloc (.cells #[.int .u8 2, .bool bb, .int .i64 n, .int .u64 u, .string s, x, y] 27)) := (Below.refl _ _).alloc (Nat.le_refl _) _
 obtain ⟨c0, c1, c2, c3, c4, c5, c6⟩ := cell_agg7 hbx
 have HA := Lib.hid hA
 have HBA := Lib.hid hbA
 clear hA hbx h hbA
 go_enter Tryz.func22, Tryz.ntmps22
 go_upto_region 1 with fail
 generalize w.alloc (.cells #[.int .u8 2, .bool bb, .int .i64 n, .int .u64 u, .string s, x, y] 27) = wA at *
 have HC := Lib.hid ((Tryz.strconv_FormatBool bb wA).mono (R' := fun e w' => e = .returned (.string ⟨(Lib.formatBool bb).toArray⟩) ∧ Below wA.heap.size wA w') (by rintro e w' ⟨rfl, rfl⟩; exact ⟨rfl, Below.refl _ _⟩))
 go_wp2_with fail
 refine HC.out.mono ?_
 rintro e w2 ⟨rfl, hb2⟩
 have HWW := Lib.hid (HA.out.on hb2 hB)
 clear hb2
 have HW := Lib.hid (bw_string B b l ⟨(Lib.formatBool bb).toArray⟩ w2 HWW.out.bl (by show _ + (Lib.formatBool bb).length ≤ _; have := fbool_len bb; omega) (by have := HWW.out.below.size; omega))
 go_wp2_with fail
 refine HW.out.mono ?_
 rintro e w3 ⟨rfl, hw⟩
 have HW3 := Lib.hid hw
 clear hw
 go_wp2_with fail
 go_end0
 exact ⟨rfl, HWW.out.trans HW3.out⟩
theorem show_int (B b : Nat) (l : List UInt8) (bb : Bool) (n u : Int) (s : ByteArray) (x y : Value) (w : World) (h : BL B b l w) (hB : B ≤ w.heap.size) (hl : l.length + 100 ≤ 140737488355328) (hg : Globs w) (h1 : -9223372036854775808 ≤ n) (h2 : n < 9223372036854775808) :
  Calls Tryz.prog 22 #[.pointer (some ⟨b, 0, none⟩), .agg #[.int .u8 3, .bool bb, .int .i64 n, .int .u64 u, .string s, x, y]] w fun e w' => e = .returned (.tuple #[]) ∧ BW B b (l ++ Lib.itoa n) w w' := by
 have hA : BW B b l w (w.alloc (.cells #[.int .u8 3, .bool bb, .int .i64 n, .int .u64 u, .string s, x, y] 27)) := ⟨h.below ((Below.refl _ _).alloc (Nat.le_refl _) _), (Below.refl _ _).alloc hB _, (Lib.OthersKept.refl _ _ _).alloc _⟩
 have hsA : (w.alloc (.cells #[.int .u8 3, .bool bb, .int .i64 n, .int .u64 u, .string s, x, y] 27)).heap.size = w.heap.size + 1 := by simp
 have hbx := heap_alloc_new w (.cells #[.int .u8 3, .bool bb, .int .i64 n, .int .u64 u, .string s, x, y] 27)
 have hbA : Below w.heap.size w (w.alloc (.cells #[.int .u8 3, .bool bb, .int .i64 n, .int .u64 u, .string s, x, y] 27)) := (Below.refl _ _).alloc (Nat.le_refl _) _
 obtain ⟨c0, c1, c2, c3, c4, c5, c6⟩ := cell_agg7 hbx
 have HA := Lib.hid hA
 have HBA := Lib.hid hbA
 clear hA hbx h hbA
 go_enter Tryz.func22, Tryz.ntmps22
 go_upto_region 1 with fail
 generalize w.alloc (.cells #[.int .u8 3, .bool bb, .int .i64 n, .int .u64 u, .string s, x, y] 27) = wA at *
 have HC := Lib.hid ((Tryz.strconv_FormatInt_10 n h1 (by omega) wA (hg.on HBA.out).glob.u10).mono (R' := fun e w' => e = .returned (.string ⟨(Lib.itoa n).toArray⟩) ∧ Below wA.heap.size wA w') (by rintro e w' ⟨rfl, k, os, rfl⟩; exact ⟨rfl, below_grow _ wA (Nat.le_refl _) k os⟩))
 go_wp2_with fail
 refine HC.out.mono ?_
 rintro e w2 ⟨rfl, hb2⟩
 have HWW := Lib.hid (HA.out.on hb2 hB)
 clear hb2
 have HW := Lib.hid (bw_string B b l ⟨(Lib.itoa n).toArray⟩ w2 HWW.out.bl (by show _ + (Lib.itoa n).length ≤ _; have := itoa_len n h1 h2; omega) (by have := HWW.out.below.size; omega))
 go_wp2_with fail
 refine HW.out.mono ?_
 rintro e w3 ⟨rfl, hw⟩
 have HW3 := Lib.hid hw
 clear hw
 go_wp2_with fail
 go_end0
 exact ⟨rfl, HWW.out.trans HW3.out⟩
theorem show_flt (B b : Nat) (l : List UInt8) (bb : Bool) (n : Int) (u : Nat) (s : ByteArray) (x y : Value) (w : World) (h : BL B b l w) (hB : B ≤ w.heap.size) (hl : l.length + 200 ≤ 140737488355328) (hg : Globs w) (h2 : u < 18446744073709551616) :
  Calls Tryz.prog 22 #[.pointer (some ⟨b, 0, none⟩), .agg #[.int .u8 4, .bool bb, .int .i64 n, .int .u64 (u : Int), .string s, x, y]] w fun e w' => e = .returned (.tuple #[]) ∧ BW B b (l ++ fltN u) w w' := by
 have hA : BW B b l w (w.alloc (.cells #[.int .u8 4, .bool bb, .int .i64 n, .int .u64 (u : Int), .string s, x, y] 27)) := ⟨h.below ((Below.refl _ _).alloc (Nat.le_refl _) _), (Below.refl _ _).alloc hB _, (Lib.OthersKept.refl _ _ _).alloc _⟩
 have hsA : (w.alloc (.cells #[.int .u8 4, .bool bb, .int .i64 n, .int .u64 (u : Int), .string s, x, y] 27)).heap.size = w.heap.size + 1 := by simp
 have hbx := heap_alloc_new w (.cells #[.int .u8 4, .bool bb, .int .i64 n, .int .u64 (u : Int), .string s, x, y] 27)
 have hbA : Below w.heap.size w (w.alloc (.cells #[.int .u8 4, .bool bb, .int .i64 n, .int .u64 (u : Int), .string s, x, y] 27)) := (Below.refl _ _).alloc (Nat.le_refl _) _
 obtain ⟨c0, c1, c2, c3, c4, c5, c6⟩ := cell_agg7 hbx
 have HA := Lib.hid hA
 have HBA := Lib.hid hbA
 clear hA hbx h hbA
 go_enter Tryz.func22, Tryz.ntmps22
 go_upto_region 1 with fail
 generalize w.alloc (.cells #[.int .u8 4, .bool bb, .int .i64 n, .int .u64 (u : Int), .string s, x, y] 27) = wA at *
 have HC := Lib.hid (float_any u wA (hg.on HBA.out) h2)
 go_wp2_with fail
 refine HC.out.mono ?_
 rintro e w2 ⟨rfl, hb2⟩
 have HWW := Lib.hid (HA.out.on hb2 hB)
 clear hb2
 have HW := Lib.hid (bw_string B b l ⟨(fltN u).toArray⟩ w2 HWW.out.bl (by show _ + (fltN u).length ≤ _; have := fltN_len u; omega) (by have := HWW.out.below.size; omega))
 go_wp2_with fail
 refine HW.out.mono ?_
 rintro e w3 ⟨rfl, hw⟩
 have HW3 := Lib.hid hw
 clear hw
 go_wp2_with fail
 go_end0
 exact ⟨rfl, HWW.out.trans HW3.out⟩
theorem show_str (B b : Nat) (l : List UInt8) (bb : Bool) (n u : Int) (s : ByteArray) (x y : Value) (w : World) (h : BL B b l w) (hB : B ≤ w.heap.size) (hl : l.length + 6 * s.size + 2 ≤ 140737488355328) (h17 : 17 ≤ w.heap.size) (hT : Lib.Utf8Tabs 0 1 w) (hs : s.size ≤ 17592186040000) :
  Calls Tryz.prog 22 #[.pointer (some ⟨b, 0, none⟩), .agg #[.int .u8 5, .bool bb, .int .i64 n, .int .u64 u, .string s, x, y]] w fun e w' => e = .returned (.tuple #[]) ∧ BW B b (l ++ quoL s.data.toList) w w' := by
 have hA : BW B b l w (w.alloc (.cells #[.int .u8 5, .bool bb, .int .i64 n, .int .u64 u, .string s, x, y] 27)) := ⟨h.below ((Below.refl _ _).alloc (Nat.le_refl _) _), (Below.refl _ _).alloc hB _, (Lib.OthersKept.refl _ _ _).alloc _⟩
 have hsA : (w.alloc (.cells #[.int .u8 5, .bool bb, .int .i64 n, .int .u64 u, .string s, x, y] 27)).heap.size = w.heap.size + 1 := by simp
 have hbx := heap_alloc_new w (.cells #[.int .u8 5, .bool bb, .int .i64 n, .int .u64 u, .string s, x, y] 27)
 have hbA : Below w.heap.size w (w.alloc (.cells #[.int .u8 5, .bool bb, .int .i64 n, .int .u64 u, .string s, x, y] 27)) := (Below.refl _ _).alloc (Nat.le_refl _) _
 obtain ⟨c0, c1, c2, c3, c4, c5, c6⟩ := cell_agg7 hbx
 have HA := Lib.hid hA
 have HBA := Lib.hid hbA
 clear hA hbx h hbA
 go_enter Tryz.func22, Tryz.ntmps22
 go_upto_region 1 with fail
 generalize w.alloc (.cells #[.int .u8 5, .bool bb, .int .i64 n, .int .u64 u, .string s, x, y] 27) = wA at *
 have HC := Lib.hid (quote_any s wA (by have := HBA.out.size; omega) (utabs_kept hT (HBA.out.mono h17)) hs)
 go_wp2_with fail
 refine HC.out.mono ?_
 rintro e w2 ⟨rfl, hb2⟩
 have HWW := Lib.hid (HA.out.on hb2 hB)
 clear hb2
 have HW := Lib.hid (bw_string B b l ⟨(quoL s.data.toList).toArray⟩ w2 HWW.out.bl (by show _ + (quoL s.data.toList).length ≤ _; have := quoL_len s.data.toList; have h0 : s.data.toList.length = s.size := (by simp); omega) (by have := HWW.out.below.size; omega))
 go_wp2_with fail
 refine HW.out.mono ?_
 rintro e w3 ⟨rfl, hw⟩
 have HW3 := Lib.hid hw
 clear hw
 go_wp2_with fail
 go_end0
 exact ⟨rfl, HWW.out.trans HW3.out⟩
end Go.Proofs.YtckaoeloofbklaaGreatDoor
namespace Go.Proofs.YtckaoeloofbklaaGreatDoor
theorem JV.ind {P : JV → Prop} (h : ∀ k b n u s ks vs, (∀ v ∈ vs, P v) → P (.mk k b n u s ks vs)) : ∀ v, P v
 | .mk k b n u s ks vs => h k b n u s ks vs fun v _ => JV.ind h v
theorem skip_at (c : UInt8) (t : List UInt8) (h : isBl c = false) : skipB (c :: t) = c :: t := by
 unfold skipB
 rw [List.dropWhile_cons, h]
 rfl
section
variable {N : List UInt8 → JV → Prop}
theorem val_atom {t : List UInt8} {o : Out JV} : ∀ n : Nat, Atom decB8 enc N (skipB t) o → Val decB8 enc N n t o.skip
 | 0, h => ⟨o, h, rfl⟩
 | _ + 1, h => ⟨o, .atom h, rfl⟩
def EndV : List UInt8 → Prop
 | [] => True
 | c :: _ => isBl c = true ∨ c = 44 ∨ c = 93 ∨ c = 125
theorem end_num {u : List UInt8} (h : EndV u) : Ends numC u ∧ Ends isAl u := by
 cases u with
 | nil => exact ⟨trivial, trivial⟩
 | cons c u =>
  have : ∀ c : Fin 256, (isBl (UInt8.ofNat c.val) = true ∨ UInt8.ofNat c.val = 44 ∨ UInt8.ofNat c.val = 93 ∨ UInt8.ofNat c.val = 125) → numC (UInt8.ofNat c.val) = false ∧ isAl (UInt8.ofNat c.val) = false := by decide +kernel
  have h1 := this ⟨c.toNat, c.toNat_lt⟩
  simp only [UInt8.ofNat_toNat] at h1
  exact h1 h
theorem numC_no (c : UInt8) (h : numC c = true) : markC c = false ∧ c ≠ 34 ∧ isBl c = false := by
 have : ∀ c : Fin 256, numC (UInt8.ofNat c.val) = true → markC (UInt8.ofNat c.val) = false ∧ UInt8.ofNat c.val ≠ 34 ∧ isBl (UInt8.ofNat c.val) = false := by decide +kernel
 have h1 := this ⟨c.toNat, c.toNat_lt⟩
 simp only [UInt8.ofNat_toNat] at h1
 exact h1 h
def NumS (s : List UInt8) : Prop := ∃ c l, s = c :: l ∧ (c = 45 ∨ isDgB c = true) ∧ l.all numC = true
theorem NumS.all {s : List UInt8} (h : NumS s) : ∀ c ∈ s, numC c = true := by
 obtain ⟨c, l, rfl, hc, hl⟩ := h
 intro x hx
 rcases List.mem_cons.1 hx with rfl | hx
 ·unfold numC
  rcases hc with rfl | hc
  ·decide
  ·rw [hc]; simp
 ·exact List.all_eq_true.1 hl x hx
inductive Rng : JV → Prop
 | mk {k b n u s ks vs} (h1 : -9223372036854775808 ≤ n) (h2 : n < 9223372036854775808) (h3 : 0 ≤ u) (h4 : u < 18446744073709551616) (h : ∀ v ∈ vs, Rng v) : Rng (.mk k b n u s ks vs)
theorem formedL_mem : ∀ {l : List JV}, JV.formedL l = true → ∀ v ∈ l, v.formed = true
 | v :: l, h, x, hx => by
  rw [JV.formedL, Bool.and_eq_true] at h
  rcases List.mem_cons.1 hx with rfl | hx
  ·exact h.1
  ·exact formedL_mem h.2 x hx
variable {intL fltL : Int → List UInt8} {inf : Int → Bool}
end
end Go.Proofs.YtckaoeloofbklaaGreatDoor
namespace Go.Proofs.YtckaoeloofbklaaGreatDoor
open Go Go.RowKit Go.Lib
theorem BL.lt {B b : Nat} {l : List UInt8} {W : World} (h : BL B b l W) : b < W.heap.size := by
 obtain ⟨p, v, h⟩ := h.cells
 exact (Array.getElem?_eq_some_iff.1 h).1
theorem BW.blk {B b : Nat} {l : List UInt8} {A C : World} (h : BW B b l A C) {p : Nat} {c : Array Value} {f : Nat × Nat} (hp : A.heap[p]? = some (.cells c 27 f)) (hb : p ≠ b) : C.heap[p]? = some (.cells c 27 f) :=
 h.oth _ _ hp (by simp; omega) (fun c fz h => by cases h)
theorem it_cells {ok : Nat → Prop} {w : World} {q off : Nat} {x : JV} {V : Value} (h7 : Cells7 w q off V) (hj : JAt ok w x V) :
  ∃ (k : Int) (b : Bool) (n u : Int) (s : ByteArray) (a : Option Addr) (m c : Nat) (a' : Option Addr) (m' c' : Nat), V = .agg #[.int .u8 k, .bool b, .int .i64 n, .int .u64 u, .string s, .slice a m c, .slice a' m' c'] ∧
   w.cell? ⟨q, off, none⟩ = some (.int .u8 k) ∧ w.cell? ⟨q, off + 1, none⟩ = some (.bool b) ∧ w.cell? ⟨q, off + 2, none⟩ = some (.int .i64 n) ∧ w.cell? ⟨q, off + 3, none⟩ = some (.int .u64 u) ∧ w.cell? ⟨q, off + 4, none⟩ = some (.string s) ∧
   w.cell? ⟨q, off + 5, none⟩ = some (.slice a m c) ∧ w.cell? ⟨q, off + 6, none⟩ = some (.slice a' m' c') := by
 obtain ⟨k, b, n, u, s, ks, vs⟩ := x
 rw [JAt] at hj
 obtain ⟨a, c, a', c', rfl, -⟩ := hj
 obtain ⟨x0, x1, x2, x3, x4, x5, x6, hV, d0, d1, d2, d3, d4, d5, d6⟩ := h7
 simp only [Value.agg.injEq, Array.mk.injEq, List.cons.injEq, and_true] at hV
 obtain ⟨rfl, rfl, rfl, rfl, rfl, rfl, rfl⟩ := hV
 exact ⟨k, b, n, u, s, a, _, c, a', _, c', rfl, d0, d1, d2, d3, d4, d5, d6⟩
def ShowOk (B b : Nat) (v : JV) : Prop := ∀ (V : Value) (l : List UInt8) (w : World), BL B b l w → B ≤ w.heap.size → 17 ≤ B → Globs w → Lib.Utf8Tabs 0 1 w → JAt (fun q => q < B) w v V → v.formed = true → Rng v →
 l.length + (shJ v).length + 1000 ≤ 100000000000000 → v.weigh ≤ 1000000000000 →
 Calls Tryz.prog 22 #[.pointer (some ⟨b, 0, none⟩), V] w fun e w' => e = .returned (.tuple #[]) ∧ BW B b (l ++ shJ v) w w'
theorem weigh_le : ∀ {vs : List JV} {i : Nat} {x : JV}, vs[i]? = some x → x.weigh ≤ JV.weighL vs
 | [], _, _, h => by simp at h
 | v :: vs, 0, x, h => by simp at h; subst h; rw [JV.weighL]; omega
 | v :: vs, i + 1, x, h => by
  have := weigh_le (vs := vs) (i := i) (x := x) (by simpa using h)
  rw [JV.weighL]; omega
theorem key_le {ks : List ByteArray} {k : ByteArray} (h : k ∈ ks) : k.size ≤ (ks.map ByteArray.size).sum := by
 induction ks with
 | nil => simp at h
 | cons x ks ih =>
  rw [List.map_cons, List.sum_cons]
  rcases List.mem_cons.1 h with rfl | h
  ·omega
  ·have := ih h; omega
theorem showK_f (ks : List ByteArray) (v : JV) : showK Lib.itoa fltI false ks v = shJ v := by unfold showK; rw [if_neg (by decide)]; rfl
theorem showK_t (ks : List ByteArray) (v : JV) (k : ByteArray) (h : ks.headD ⟨#[]⟩ = k) : showK Lib.itoa fltI true ks v = quoL k.data.toList ++ [58] ++ shJ v := by unfold showK; rw [if_pos rfl, h]
theorem showT_le (r : Bool) (ks : List ByteArray) (vs : List JV) (i : Nat) (x : JV) (hx : vs[i]? = some x) :
  ((showT Lib.itoa fltI r ks (vs.take i)).drop 1).length + ((if i = 0 then ([] : List UInt8) else [44]) ++ showK Lib.itoa fltI r (ks.drop i) x).length ≤ ((showT Lib.itoa fltI r ks vs).drop 1).length := by
 have h := congrArg List.length (showT_step Lib.itoa fltI r ks vs i x hx)
 rw [List.length_append] at h
 rw [← h, List.length_drop, List.length_drop]
 have key : ∀ (vs : List JV) (ks : List ByteArray) (j : Nat), (showT Lib.itoa fltI r ks (vs.take j)).length ≤ (showT Lib.itoa fltI r ks vs).length := by
  intro vs
  induction vs with
  | nil => intro ks j; simp
  | cons v vs ih =>
   intro ks j
   cases j with
   | zero => rw [List.take_zero, showT]; simp
   | succ j =>
    rw [List.take_succ_cons, showT, showT, List.length_append, List.length_append]
    have := ih ks.tail j
    omega
 have := key vs ks (i + 1)
 omega
theorem show_list (B b : Nat) (bb : Bool) (n u : Int) (s : ByteArray) (ks : List ByteArray) (vs : List JV) (ka : Option Addr) (kc : Nat) (a : Option Addr) (ac : Nat) (l : List UInt8) (w : World) (h : BL B b l w) (hB : B ≤ w.heap.size) (h17 : 17 ≤ B) (hg : Globs w) (hT : Lib.Utf8Tabs 0 1 w)
  (hks : StrsAt (fun q => q < B) w ka ks) (hvs : vs = [] ∨ ∃ q off, a = some ⟨q, off, none⟩ ∧ q < B ∧ q < w.heap.size ∧ ItAt (fun q => q < B) w q off vs) (_hkn : ks.length ≤ 35184372080000) (hvn : vs.length ≤ 35184372080000)
  (ih : ∀ x ∈ vs, ShowOk B b x) (hf : ∀ x ∈ vs, x.formed = true) (hr : ∀ x ∈ vs, Rng x) (hw : JV.weighL vs ≤ 1000000000000) (hkw : ∀ k ∈ ks, k.size ≤ 1000000000000)
  (hl : l.length + ((showT Lib.itoa fltI false ks vs).drop 1).length + 1002 ≤ 100000000000000) :
  Calls Tryz.prog 22 #[.pointer (some ⟨b, 0, none⟩), .agg #[.int .u8 6, .bool bb, .int .i64 n, .int .u64 u, .string s, .slice ka ks.length kc, .slice a vs.length ac]] w fun e w' => e = .returned (.tuple #[]) ∧ BW B b (l ++ (91 :: (showT Lib.itoa fltI false ks vs).drop 1 ++ [93])) w w' := by
 have hbx := heap_alloc_new w (.cells #[.int .u8 6, .bool bb, .int .i64 n, .int .u64 u, .string s, .slice ka ks.length kc, .slice a vs.length ac] 27)
 have hA : BW B b l w (w.alloc (.cells #[.int .u8 6, .bool bb, .int .i64 n, .int .u64 u, .string s, .slice ka ks.length kc, .slice a vs.length ac] 27)) := ⟨h.below ((Below.refl _ _).alloc (Nat.le_refl _) _), (Below.refl _ _).alloc hB _, (Lib.OthersKept.refl _ _ _).alloc _⟩
 have hbl := h.lt
 have hsA : (w.alloc (.cells #[.int .u8 6, .bool bb, .int .i64 n, .int .u64 u, .string s, .slice ka ks.length kc, .slice a vs.length ac] 27)).heap.size = w.heap.size + 1 := by simp
 obtain ⟨c0, c1, c2, c3, c4, c5, c6⟩ := cell_agg7 hbx
 have HA := Lib.hid hA
 have HBX := Lib.hid hbx
 have HKS := Lib.hid hks
 have HVS := Lib.hid hvs
 have HKW := Lib.hid hkw
 have HL := Lib.hid hl
 have HG := Lib.hid (hg.below h17 hA.below)
 have HT := Lib.hid (utabs_kept hT (hA.below.mono h17))
 have HIH := Lib.hid ih
 have HW := Lib.hid hw
 have HF := Lib.hid hf
 have HR := Lib.hid hr
 clear hA hbx h hks hvs hkw hg hT ih hl hf hr hw
 go_enter Tryz.func22, Tryz.ntmps22
 go_upto_region 1 with fail
 generalize w.alloc (.cells #[.int .u8 6, .bool bb, .int .i64 n, .int .u64 u, .string s, .slice ka ks.length kc, .slice a vs.length ac] 27) = wA at *
 have hBA : B ≤ wA.heap.size := Nat.le_trans hB HA.out.below.size
 have HBY := Lib.hid (bw_byte B b l 91 wA HA.out.bl (by have := HL.out; omega) hBA)
 go_wp2_with fail
 refine HBY.out.mono ?_
 rintro e w3 ⟨rfl, hw3⟩
 have hb3 := hw3.blk HBX.out (by omega)
 clear c0 c1 c2 c3 c4 c5 c6
 obtain ⟨c0, c1, c2, c3, c4, c5, c6⟩ := cell_agg7 hb3
 have HW3 := Lib.hid hw3
 clear hw3 hb3
 go_wp2_with fail
 clear c0 c1 c2 c3 c4 c5 c6
 go_loopg [5, 6, 19] vs.length (fun g _ _ s19 wr => ∃ k : Nat, k + g = vs.length ∧ s19 = .int .i64 k ∧ BW B b (l ++ [91] ++ (showT Lib.itoa fltI false ks (vs.take k)).drop 1) wA wr)
 case atStart => exact ⟨0, by omega, rfl, by rw [List.take_zero, showT]; simpa using HW3.out⟩
 case round =>
  obtain ⟨k, hk, rfl, hbw⟩ := hrel
  have hbr := hbw.blk HBX.out (by omega)
  obtain ⟨c0, c1, c2, c3, c4, c5, c6⟩ := cell_agg7 hbr
  have hsr := hbw.below.size
  have HBW := Lib.hid hbw
  have HBR := Lib.hid hbr
  clear hbw hbr
  by_cases hlt : k < vs.length
  ·obtain ⟨x, hx⟩ : ∃ x, vs[k]? = some x := ⟨_, List.getElem?_eq_getElem hlt⟩
   have hxm := List.mem_of_getElem? hx
   obtain ⟨q, off, ha, hq, hqw, hit⟩ := HVS.out.resolve_left (by rintro rfl; simp at hlt)
   obtain ⟨V, h7, hja⟩ := hit.get hx
   obtain ⟨xk, xb, xn, xu, xs, xa, xm, xc, xa2, xm2, xc2, rfl, d0, d1, d2, d3, d4, d5, d6⟩ := it_cells h7 hja
   clear h7
   have hst := showT_step Lib.itoa fltI false ks vs k x hx
   have hle := showT_le false ks vs k x hx
   rw [showK_f] at hst hle
   rw [List.length_append] at hle
   have hkq : ∀ i : Nat, wr.cell? ⟨q, i, none⟩ = w.cell? ⟨q, i, none⟩ := fun i => (HA.out.below.trans HBW.out.below).cell (p := ⟨q, i, none⟩) hq
   rw [← hkq, Nat.mul_comm 7 k] at d0 d1 d2 d3 d4 d5 d6
   have HJ := Lib.hid (hja.kept (w' := wr) (ok' := fun q => q < B) (fun i hi _ => ⟨(HA.out.below.trans HBW.out.below).block i hi, hi⟩))
   have HST := Lib.hid hst
   have HLE := Lib.hid hle
   subst ha
   clear hst hle hja hit hkq hqw HVS
   go_upto_region 9 with fail
   have hX := heap_alloc_new wr (.cells #[(.int .u8 xk), (.bool xb), (.int .i64 xn), (.int .u64 xu), (.string xs), (.slice xa xm xc), (.slice xa2 xm2 xc2)] 27)
   have hXb : Below wr.heap.size wr (wr.alloc (.cells #[(.int .u8 xk), (.bool xb), (.int .i64 xn), (.int .u64 xu), (.string xs), (.slice xa xm xc), (.slice xa2 xm2 xc2)] 27)) := (Below.refl _ _).alloc (Nat.le_refl _) _
   generalize wr.alloc (.cells #[(.int .u8 xk), (.bool xb), (.int .i64 xn), (.int .u64 xu), (.string xs), (.slice xa xm xc), (.slice xa2 xm2 xc2)] 27) = W1 at *
   have hb1 := (hXb.block w.heap.size (by omega)).trans HBR.out
   have hbw1 := HBW.out.on hXb hBA
   obtain ⟨e0, e1, e2, e3, e4, e5, e6⟩ := cell_agg7 hX
   obtain ⟨c0, c1, c2, c3, c4, c5, c6⟩ := cell_agg7 hb1
   have hs1 := hXb.size
   have hs0 := (Array.getElem?_eq_some_iff.1 hX).1
   have HB1 := Lib.hid hb1
   have HX1 := Lib.hid hX
   have HXB := Lib.hid hXb
   have HBW1 := Lib.hid hbw1
   clear hb1 hX hXb hbw1 d0 d1 d2 d3 d4 d5 d6
   rcases Nat.eq_zero_or_pos k with rfl | hk0
   ·have hst2 := HST.out
    rw [if_pos rfl, List.nil_append] at hst2
    have HST2 := Lib.hid hst2
    have hln : l.length + 1 + ((showT Lib.itoa fltI false ks (vs.take 0)).drop 1).length + 0 + (shJ x).length + 1000 ≤ 100000000000000 := by
     have h1 := HLE.out
     have h2 := HL.out
     rw [if_pos rfl] at h1
     simp only [List.length_nil] at *
     omega
    have HLN := Lib.hid hln
    clear hst2 hln
    have HSH := Lib.hid (HIH.out x hxm (.agg #[(.int .u8 xk), (.bool xb), (.int .i64 xn), (.int .u64 xu), (.string xs), (.slice xa xm xc), (.slice xa2 xm2 xc2)]) (l ++ [91] ++ (showT Lib.itoa fltI false ks (vs.take 0)).drop 1) W1 HBW1.out.bl (Nat.le_trans hBA HBW1.out.below.size) h17 (HG.out.below h17 HBW1.out.below) (utabs_kept HT.out (HBW1.out.below.mono h17)) (HJ.out.kept (fun i hi _ => ⟨(HBW1.out.below.block i hi).trans (HBW.out.below.block i hi).symm, hi⟩)) (HF.out x hxm) (HR.out x hxm) (by have := HLN.out; simp only [List.length_append, List.length_cons, List.length_nil] at *; omega) (Nat.le_trans (weigh_le hx) HW.out))
    go_wp2_with fail
    refine HSH.out.mono ?_
    rintro e w9 ⟨rfl, hw9⟩
    have HW9 := Lib.hid (HBW1.out.trans hw9)
    clear hw9
    go_wp2_with fail
    go_roundg (gk - 1)
    case measure => omega
    case rel => exact ⟨0 + 1, by omega, by go_num, by rw [HST2.out]; simpa only [List.append_assoc] using HW9.out⟩
   ·have hst2 := HST.out
    rw [if_neg (show ¬ k = 0 by omega)] at hst2
    have HST2 := Lib.hid hst2
    have hln : l.length + 1 + ((showT Lib.itoa fltI false ks (vs.take k)).drop 1).length + 1 + (shJ x).length + 1000 ≤ 100000000000000 := by
     have h1 := HLE.out
     have h2 := HL.out
     rw [if_neg (show ¬ k = 0 by omega)] at h1
     simp only [List.length_cons, List.length_nil] at *
     omega
    have HLN := Lib.hid hln
    clear hst2 hln
    have hki : (0 : Int) < (k : Int) := by omega
    have HCM := Lib.hid (bw_byte B b (l ++ [91] ++ (showT Lib.itoa fltI false ks (vs.take k)).drop 1) 44 W1 HBW1.out.bl (by have := HLN.out; simp only [List.length_append, List.length_cons, List.length_nil] at *; omega) (Nat.le_trans hBA HBW1.out.below.size))
    go_wp2_with fail
    refine HCM.out.mono ?_
    rintro e w4 ⟨rfl, hw4⟩
    have hb4 := hw4.blk HB1.out (by omega)
    have hx4 := hw4.blk HX1.out (by omega)
    have hbw4 := HBW1.out.trans hw4
    have hs4 := hw4.below.size
    clear c0 c1 c2 c3 c4 c5 c6 e0 e1 e2 e3 e4 e5 e6
    obtain ⟨e0, e1, e2, e3, e4, e5, e6⟩ := cell_agg7 hx4
    obtain ⟨c0, c1, c2, c3, c4, c5, c6⟩ := cell_agg7 hb4
    have HB4 := Lib.hid hb4
    have HX4 := Lib.hid hx4
    have HBW4 := Lib.hid hbw4
    clear hb4 hx4 hbw4 hw4
    have HSH := Lib.hid (HIH.out x hxm (.agg #[(.int .u8 xk), (.bool xb), (.int .i64 xn), (.int .u64 xu), (.string xs), (.slice xa xm xc), (.slice xa2 xm2 xc2)]) (l ++ [91] ++ (showT Lib.itoa fltI false ks (vs.take k)).drop 1 ++ [44]) w4 HBW4.out.bl (Nat.le_trans hBA HBW4.out.below.size) h17 (HG.out.below h17 HBW4.out.below) (utabs_kept HT.out (HBW4.out.below.mono h17)) (HJ.out.kept (fun i hi _ => ⟨(HBW4.out.below.block i hi).trans (HBW.out.below.block i hi).symm, hi⟩)) (HF.out x hxm) (HR.out x hxm) (by have := HLN.out; simp only [List.length_append, List.length_cons, List.length_nil] at *; omega) (Nat.le_trans (weigh_le hx) HW.out))
    go_wp2_with fail
    refine HSH.out.mono ?_
    rintro e w9 ⟨rfl, hw9⟩
    have HW9 := Lib.hid (HBW4.out.trans hw9)
    clear hw9
    go_wp2_with fail
    go_roundg (gk - 1)
    case measure => omega
    case rel => exact ⟨k + 1, by omega, by go_num, by rw [HST2.out]; simpa only [List.append_assoc] using HW9.out⟩
  ·obtain rfl : k = vs.length := by omega
   rw [List.take_length] at HBW
   have HBZ := Lib.hid (bw_byte B b _ 93 wr HBW.out.bl (by have := HL.out; simp only [List.length_append, List.length_cons, List.length_nil] at *; omega) (Nat.le_trans hBA HBW.out.below.size))
   go_wp2_with fail
   refine HBZ.out.mono ?_
   rintro e w9 ⟨rfl, hw9⟩
   have HW9 := Lib.hid hw9
   clear hw9
   go_wp2_with fail
   go_end0
   exact ⟨rfl, by have := (HA.out.trans HBW.out).trans HW9.out; simpa [List.append_assoc] using this⟩
theorem show_rec (B b : Nat) (bb : Bool) (n u : Int) (s : ByteArray) (ks : List ByteArray) (vs : List JV) (hkl : vs.length = ks.length) (ka : Option Addr) (kc : Nat) (a : Option Addr) (ac : Nat) (l : List UInt8) (w : World) (h : BL B b l w) (hB : B ≤ w.heap.size) (h17 : 17 ≤ B) (hg : Globs w) (hT : Lib.Utf8Tabs 0 1 w)
  (hks : StrsAt (fun q => q < B) w ka ks) (hvs : vs = [] ∨ ∃ q off, a = some ⟨q, off, none⟩ ∧ q < B ∧ q < w.heap.size ∧ ItAt (fun q => q < B) w q off vs) (_hkn : ks.length ≤ 35184372080000) (hvn : vs.length ≤ 35184372080000)
  (ih : ∀ x ∈ vs, ShowOk B b x) (hf : ∀ x ∈ vs, x.formed = true) (hr : ∀ x ∈ vs, Rng x) (hw : JV.weighL vs ≤ 1000000000000) (hkw : ∀ k ∈ ks, k.size ≤ 1000000000000)
  (hl : l.length + ((showT Lib.itoa fltI true ks vs).drop 1).length + 1002 ≤ 100000000000000) :
  Calls Tryz.prog 22 #[.pointer (some ⟨b, 0, none⟩), .agg #[.int .u8 7, .bool bb, .int .i64 n, .int .u64 u, .string s, .slice ka ks.length kc, .slice a vs.length ac]] w fun e w' => e = .returned (.tuple #[]) ∧ BW B b (l ++ (123 :: (showT Lib.itoa fltI true ks vs).drop 1 ++ [125])) w w' := by
 have hbx := heap_alloc_new w (.cells #[.int .u8 7, .bool bb, .int .i64 n, .int .u64 u, .string s, .slice ka ks.length kc, .slice a vs.length ac] 27)
 have hA : BW B b l w (w.alloc (.cells #[.int .u8 7, .bool bb, .int .i64 n, .int .u64 u, .string s, .slice ka ks.length kc, .slice a vs.length ac] 27)) := ⟨h.below ((Below.refl _ _).alloc (Nat.le_refl _) _), (Below.refl _ _).alloc hB _, (Lib.OthersKept.refl _ _ _).alloc _⟩
 have hbl := h.lt
 have hsA : (w.alloc (.cells #[.int .u8 7, .bool bb, .int .i64 n, .int .u64 u, .string s, .slice ka ks.length kc, .slice a vs.length ac] 27)).heap.size = w.heap.size + 1 := by simp
 obtain ⟨c0, c1, c2, c3, c4, c5, c6⟩ := cell_agg7 hbx
 have HA := Lib.hid hA
 have HBX := Lib.hid hbx
 have HKS := Lib.hid hks
 have HVS := Lib.hid hvs
 have HKW := Lib.hid hkw
 have HL := Lib.hid hl
 have HG := Lib.hid (hg.below h17 hA.below)
 have HT := Lib.hid (utabs_kept hT (hA.below.mono h17))
 have HIH := Lib.hid ih
 have HW := Lib.hid hw
 have HF := Lib.hid hf
 have HR := Lib.hid hr
 clear hA hbx h hks hvs hkw hg hT ih hl hf hr hw
 have HKL := Lib.hid hkl
 clear hkl
 go_enter Tryz.func22, Tryz.ntmps22
 go_upto_region 1 with fail
 generalize w.alloc (.cells #[.int .u8 7, .bool bb, .int .i64 n, .int .u64 u, .string s, .slice ka ks.length kc, .slice a vs.length ac] 27) = wA at *
 have hBA : B ≤ wA.heap.size := Nat.le_trans hB HA.out.below.size
 have HBY := Lib.hid (bw_byte B b l 123 wA HA.out.bl (by have := HL.out; omega) hBA)
 go_wp2_with fail
 refine HBY.out.mono ?_
 rintro e w3 ⟨rfl, hw3⟩
 have hb3 := hw3.blk HBX.out (by omega)
 clear c0 c1 c2 c3 c4 c5 c6
 obtain ⟨c0, c1, c2, c3, c4, c5, c6⟩ := cell_agg7 hb3
 have HW3 := Lib.hid hw3
 clear hw3 hb3
 go_wp2_with fail
 clear c0 c1 c2 c3 c4 c5 c6
 go_loopg [5, 6, 19] vs.length (fun g _ _ s19 wr => ∃ k : Nat, k + g = vs.length ∧ s19 = .int .i64 k ∧ BW B b (l ++ [123] ++ (showT Lib.itoa fltI true ks (vs.take k)).drop 1) wA wr)
 case atStart => exact ⟨0, by omega, rfl, by rw [List.take_zero, showT]; simpa using HW3.out⟩
 case round =>
  obtain ⟨k, hk, rfl, hbw⟩ := hrel
  have hbr := hbw.blk HBX.out (by omega)
  obtain ⟨c0, c1, c2, c3, c4, c5, c6⟩ := cell_agg7 hbr
  have hsr := hbw.below.size
  have HBW := Lib.hid hbw
  have HBR := Lib.hid hbr
  clear hbw hbr
  by_cases hlt : k < vs.length
  ·obtain ⟨x, hx⟩ : ∃ x, vs[k]? = some x := ⟨_, List.getElem?_eq_getElem hlt⟩
   have hxm := List.mem_of_getElem? hx
   obtain ⟨q, off, ha, hq, hqw, hit⟩ := HVS.out.resolve_left (by rintro rfl; simp at hlt)
   obtain ⟨V, h7, hja⟩ := hit.get hx
   obtain ⟨xk, xb, xn, xu, xs, xa, xm, xc, xa2, xm2, xc2, rfl, d0, d1, d2, d3, d4, d5, d6⟩ := it_cells h7 hja
   clear h7
   have hst := showT_step Lib.itoa fltI true ks vs k x hx
   have hle := showT_le true ks vs k x hx
   obtain ⟨kk, hkk⟩ : ∃ kk, ks[k]? = some kk := ⟨_, List.getElem?_eq_getElem (by have := HKL.out; omega)⟩
   obtain ⟨kb, ko, hka, hkb, -, hkc⟩ := HKS.out.resolve_left (by rintro rfl; simp at hkk)
   have hks1 := HKW.out kk (List.mem_of_getElem? hkk)
   have hkq := quoL_len kk.data.toList
   have hkd : kk.data.toList.length = kk.size := by simp
   have hkh : (ks.drop k).headD ⟨#[]⟩ = kk := by rw [List.headD_eq_head?_getD, List.head?_drop, hkk]; rfl
   have hkl2 : k < ks.length := by have := HKL.out; omega
   have HKC := Lib.hid (hkc k kk hkk)
   rw [showK_t _ _ _ hkh] at hst hle
   rw [List.length_append] at hle
   subst hka
   clear HKS hkc hkh hkk
   have hkq : ∀ i : Nat, wr.cell? ⟨q, i, none⟩ = w.cell? ⟨q, i, none⟩ := fun i => (HA.out.below.trans HBW.out.below).cell (p := ⟨q, i, none⟩) hq
   rw [← hkq, Nat.mul_comm 7 k] at d0 d1 d2 d3 d4 d5 d6
   have HJ := Lib.hid (hja.kept (w' := wr) (ok' := fun q => q < B) (fun i hi _ => ⟨(HA.out.below.trans HBW.out.below).block i hi, hi⟩))
   have HST := Lib.hid hst
   have HLE := Lib.hid hle
   subst ha
   clear hst hle hja hit hkq hqw HVS
   go_upto_region 9 with fail
   have hX := heap_alloc_new wr (.cells #[(.int .u8 xk), (.bool xb), (.int .i64 xn), (.int .u64 xu), (.string xs), (.slice xa xm xc), (.slice xa2 xm2 xc2)] 27)
   have hXb : Below wr.heap.size wr (wr.alloc (.cells #[(.int .u8 xk), (.bool xb), (.int .i64 xn), (.int .u64 xu), (.string xs), (.slice xa xm xc), (.slice xa2 xm2 xc2)] 27)) := (Below.refl _ _).alloc (Nat.le_refl _) _
   generalize wr.alloc (.cells #[(.int .u8 xk), (.bool xb), (.int .i64 xn), (.int .u64 xu), (.string xs), (.slice xa xm xc), (.slice xa2 xm2 xc2)] 27) = W1 at *
   have hb1 := (hXb.block w.heap.size (by omega)).trans HBR.out
   have hbw1 := HBW.out.on hXb hBA
   obtain ⟨e0, e1, e2, e3, e4, e5, e6⟩ := cell_agg7 hX
   obtain ⟨c0, c1, c2, c3, c4, c5, c6⟩ := cell_agg7 hb1
   have hs1 := hXb.size
   have hs0 := (Array.getElem?_eq_some_iff.1 hX).1
   have HB1 := Lib.hid hb1
   have HX1 := Lib.hid hX
   have HXB := Lib.hid hXb
   have HBW1 := Lib.hid hbw1
   clear hb1 hX hXb hbw1 d0 d1 d2 d3 d4 d5 d6
   rcases Nat.eq_zero_or_pos k with rfl | hk0
   ·have hst2 := HST.out
    rw [if_pos rfl, List.nil_append] at hst2
    have HST2 := Lib.hid hst2
    have hln : l.length + 1 + ((showT Lib.itoa fltI true ks (vs.take 0)).drop 1).length + 0 + (quoL kk.data.toList ++ [58] ++ shJ x).length + 1000 ≤ 100000000000000 := by
     have h1 := HLE.out
     have h2 := HL.out
     rw [if_pos rfl] at h1
     simp only [List.length_append, List.length_cons, List.length_nil] at *
     omega
    have HLN := Lib.hid hln
    clear hst2 hln
    have HQ := Lib.hid (quote_any kk W1 (by have := HBW1.out.below.size; omega) (utabs_kept HT.out (HBW1.out.below.mono h17)) (by omega))
    have f0 : W1.cell? ⟨kb, ko, none⟩ = some (.string kk) := by rw [(HA.out.below.trans HBW1.out.below).cell (p := ⟨kb, ko, none⟩) hkb]; exact HKC.out
    go_wp2_with fail
    refine HQ.out.mono ?_
    rintro e w5 ⟨rfl, hb5⟩
    have hs5 := hb5.size
    have HBX5 := Lib.hid ((hb5.block w.heap.size (by omega)).trans HB1.out)
    have HX5 := Lib.hid ((hb5.block wr.heap.size (by omega)).trans HX1.out)
    have HBW5 := Lib.hid (HBW1.out.on hb5 hBA)
    clear hb5 f0 c0 c1 c2 c3 c4 c5 c6 e0 e1 e2 e3 e4 e5 e6
    rw [hkd] at hkq
    generalize hQL : quoL kk.data.toList = QL at *
    have hqs : (⟨QL.toArray⟩ : ByteArray).size = QL.length := rfl
    have HWS := Lib.hid (bw_string B b (l ++ [123] ++ (showT Lib.itoa fltI true ks (vs.take 0)).drop 1) (⟨QL.toArray⟩ ++ ⟨#[58]⟩) w5 HBW5.out.bl (by rw [ByteArray.size_append, hqs, show (⟨#[58]⟩ : ByteArray).size = 1 from rfl]; have := HLN.out; simp only [List.length_append, List.length_cons, List.length_nil] at *; omega) (Nat.le_trans hBA HBW5.out.below.size))
    go_wp2_with fail
    refine HWS.out.mono ?_
    rintro e w6 ⟨rfl, hw6⟩
    rw [show ((⟨QL.toArray⟩ : ByteArray) ++ ⟨#[58]⟩) = ⟨(QL ++ [58]).toArray⟩ from ba_app QL [58]] at hw6
    have hw6 : BW B b (l ++ [123] ++ (showT Lib.itoa fltI true ks (vs.take 0)).drop 1 ++ (QL ++ [58])) w5 w6 := hw6
    have hx6 := hw6.blk HX5.out (by omega)
    obtain ⟨e0, e1, e2, e3, e4, e5, e6⟩ := cell_agg7 hx6
    have HBW6 := Lib.hid (HBW5.out.trans hw6)
    clear hx6 hw6
    have HSH := Lib.hid (HIH.out x hxm (.agg #[(.int .u8 xk), (.bool xb), (.int .i64 xn), (.int .u64 xu), (.string xs), (.slice xa xm xc), (.slice xa2 xm2 xc2)]) (l ++ [123] ++ (showT Lib.itoa fltI true ks (vs.take 0)).drop 1 ++ (QL ++ [58])) w6 HBW6.out.bl (Nat.le_trans hBA HBW6.out.below.size) h17 (HG.out.below h17 HBW6.out.below) (utabs_kept HT.out (HBW6.out.below.mono h17)) (HJ.out.kept (fun i hi _ => ⟨(HBW6.out.below.block i hi).trans (HBW.out.below.block i hi).symm, hi⟩)) (HF.out x hxm) (HR.out x hxm) (by have := HLN.out; simp only [List.length_append, List.length_cons, List.length_nil] at *; omega) (Nat.le_trans (weigh_le hx) HW.out))
    go_wp2_with fail
    refine HSH.out.mono ?_
    rintro e w9 ⟨rfl, hw9⟩
    have HW9 := Lib.hid (HBW6.out.trans hw9)
    clear hw9
    go_wp2_with fail
    go_roundg (gk - 1)
    case measure => omega
    case rel => exact ⟨0 + 1, by omega, by go_num, by rw [HST2.out]; simpa only [List.append_assoc] using HW9.out⟩
   ·have hst2 := HST.out
    rw [if_neg (show ¬ k = 0 by omega)] at hst2
    have HST2 := Lib.hid hst2
    have hln : l.length + 1 + ((showT Lib.itoa fltI true ks (vs.take k)).drop 1).length + 1 + (quoL kk.data.toList ++ [58] ++ shJ x).length + 1000 ≤ 100000000000000 := by
     have h1 := HLE.out
     have h2 := HL.out
     rw [if_neg (show ¬ k = 0 by omega)] at h1
     simp only [List.length_append, List.length_cons, List.length_nil] at *
     omega
    have HLN := Lib.hid hln
    clear hst2 hln
    have hki : (0 : Int) < (k : Int) := by omega
    have HCM := Lib.hid (bw_byte B b (l ++ [123] ++ (showT Lib.itoa fltI true ks (vs.take k)).drop 1) 44 W1 HBW1.out.bl (by have := HLN.out; simp only [List.length_append, List.length_cons, List.length_nil] at *; omega) (Nat.le_trans hBA HBW1.out.below.size))
    go_wp2_with fail
    refine HCM.out.mono ?_
    rintro e w4 ⟨rfl, hw4⟩
    have hb4 := hw4.blk HB1.out (by omega)
    have hx4 := hw4.blk HX1.out (by omega)
    have hbw4 := HBW1.out.trans hw4
    have hs4 := hw4.below.size
    clear c0 c1 c2 c3 c4 c5 c6 e0 e1 e2 e3 e4 e5 e6
    obtain ⟨e0, e1, e2, e3, e4, e5, e6⟩ := cell_agg7 hx4
    obtain ⟨c0, c1, c2, c3, c4, c5, c6⟩ := cell_agg7 hb4
    have HB4 := Lib.hid hb4
    have HX4 := Lib.hid hx4
    have HBW4 := Lib.hid hbw4
    clear hb4 hx4 hbw4 hw4
    have HQ := Lib.hid (quote_any kk w4 (by have := HBW4.out.below.size; omega) (utabs_kept HT.out (HBW4.out.below.mono h17)) (by omega))
    have f0 : w4.cell? ⟨kb, ko + k, none⟩ = some (.string kk) := by rw [(HA.out.below.trans HBW4.out.below).cell (p := ⟨kb, ko + k, none⟩) hkb]; exact HKC.out
    go_wp2_with fail
    refine HQ.out.mono ?_
    rintro e w5 ⟨rfl, hb5⟩
    have hs5 := hb5.size
    have HBX5 := Lib.hid ((hb5.block w.heap.size (by omega)).trans HB4.out)
    have HX5 := Lib.hid ((hb5.block wr.heap.size (by omega)).trans HX4.out)
    have HBW5 := Lib.hid (HBW4.out.on hb5 hBA)
    clear hb5 f0 c0 c1 c2 c3 c4 c5 c6 e0 e1 e2 e3 e4 e5 e6
    rw [hkd] at hkq
    generalize hQL : quoL kk.data.toList = QL at *
    have hqs : (⟨QL.toArray⟩ : ByteArray).size = QL.length := rfl
    have HWS := Lib.hid (bw_string B b (l ++ [123] ++ (showT Lib.itoa fltI true ks (vs.take k)).drop 1 ++ [44]) (⟨QL.toArray⟩ ++ ⟨#[58]⟩) w5 HBW5.out.bl (by rw [ByteArray.size_append, hqs, show (⟨#[58]⟩ : ByteArray).size = 1 from rfl]; have := HLN.out; simp only [List.length_append, List.length_cons, List.length_nil] at *; omega) (Nat.le_trans hBA HBW5.out.below.size))
    go_wp2_with fail
    refine HWS.out.mono ?_
    rintro e w6 ⟨rfl, hw6⟩
    rw [show ((⟨QL.toArray⟩ : ByteArray) ++ ⟨#[58]⟩) = ⟨(QL ++ [58]).toArray⟩ from ba_app QL [58]] at hw6
    have hw6 : BW B b (l ++ [123] ++ (showT Lib.itoa fltI true ks (vs.take k)).drop 1 ++ [44] ++ (QL ++ [58])) w5 w6 := hw6
    have hx6 := hw6.blk HX5.out (by omega)
    obtain ⟨e0, e1, e2, e3, e4, e5, e6⟩ := cell_agg7 hx6
    have HBW6 := Lib.hid (HBW5.out.trans hw6)
    clear hx6 hw6
    have HSH := Lib.hid (HIH.out x hxm (.agg #[(.int .u8 xk), (.bool xb), (.int .i64 xn), (.int .u64 xu), (.string xs), (.slice xa xm xc), (.slice xa2 xm2 xc2)]) (l ++ [123] ++ (showT Lib.itoa fltI true ks (vs.take k)).drop 1 ++ [44] ++ (QL ++ [58])) w6 HBW6.out.bl (Nat.le_trans hBA HBW6.out.below.size) h17 (HG.out.below h17 HBW6.out.below) (utabs_kept HT.out (HBW6.out.below.mono h17)) (HJ.out.kept (fun i hi _ => ⟨(HBW6.out.below.block i hi).trans (HBW.out.below.block i hi).symm, hi⟩)) (HF.out x hxm) (HR.out x hxm) (by have := HLN.out; simp only [List.length_append, List.length_cons, List.length_nil] at *; omega) (Nat.le_trans (weigh_le hx) HW.out))
    go_wp2_with fail
    refine HSH.out.mono ?_
    rintro e w9 ⟨rfl, hw9⟩
    have HW9 := Lib.hid (HBW6.out.trans hw9)
    clear hw9
    go_wp2_with fail
    go_roundg (gk - 1)
    case measure => omega
    case rel => exact ⟨k + 1, by omega, by go_num, by rw [HST2.out]; simpa only [List.append_assoc] using HW9.out⟩
  ·obtain rfl : k = vs.length := by omega
   rw [List.take_length] at HBW
   have HBZ := Lib.hid (bw_byte B b _ 125 wr HBW.out.bl (by have := HL.out; simp only [List.length_append, List.length_cons, List.length_nil] at *; omega) (Nat.le_trans hBA HBW.out.below.size))
   go_wp2_with fail
   refine HBZ.out.mono ?_
   rintro e w9 ⟨rfl, hw9⟩
   have HW9 := Lib.hid hw9
   clear hw9
   go_wp2_with fail
   go_end0
   exact ⟨rfl, by have := (HA.out.trans HBW.out).trans HW9.out; simpa [List.append_assoc] using this⟩
theorem showV_any (B b : Nat) : ∀ v, ShowOk B b v := by
 refine JV.ind fun k bb n u s ks vs ih => ?_
 intro V l w hbl hB h17 hg hT hj hf hr hl hw
 rw [JAt] at hj
 obtain ⟨ka, kc, a, ac, rfl, hks, hvs, hkn, hvn⟩ := hj
 rw [JV.formed, Bool.and_eq_true] at hf
 obtain ⟨hp, hfl⟩ := hf
 have hfl := formedL_mem hfl
 obtain ⟨r1, r2, r3, r4, hR⟩ := hr
 rw [JV.weigh] at hw
 unfold shJ at hl ⊢
 rw [showJ] at hl ⊢
 simp only [JV.plain] at hp
 by_cases k1 : k = 1
 ·subst k1
  rw [if_pos rfl] at hl ⊢
  simp only [List.length_cons, List.length_nil] at hl
  exact show_null B b l bb n u s _ _ w hbl hB (by omega)
 rw [if_neg k1] at hl hp ⊢
 by_cases k2 : k = 2
 ·subst k2
  rw [if_pos rfl] at hl ⊢
  rw [← fbool_is] at hl ⊢
  exact show_bool B b l bb n u s _ _ w hbl hB (by omega)
 rw [if_neg k2] at hl hp ⊢
 by_cases k3 : k = 3
 ·subst k3
  rw [if_pos rfl] at hl ⊢
  exact show_int B b l bb n u s _ _ w hbl hB (by omega) hg r1 r2
 rw [if_neg k3] at hl hp ⊢
 by_cases k4 : k = 4
 ·subst k4
  rw [if_pos rfl] at hl ⊢
  obtain ⟨m, rfl⟩ : ∃ m : Nat, u = (m : Int) := ⟨u.toNat, by omega⟩
  have := show_flt B b l bb n m s (.slice ka ks.length kc) (.slice a vs.length ac) w hbl hB (by omega) hg (by omega)
  unfold fltI
  rwa [Int.toNat_natCast]
 rw [if_neg k4] at hl hp ⊢
 by_cases k5 : k = 5
 ·subst k5
  rw [if_pos rfl] at hl ⊢
  exact show_str B b l bb n u s _ _ w hbl hB (by omega) (by omega) hT (by omega)
 rw [if_neg k5] at hl hp ⊢
 have hkw : ∀ k ∈ ks, k.size ≤ 1000000000000 := fun k hk => by have := key_le hk; omega
 by_cases k7 : k = 7
 ·subst k7
  rw [if_neg (by decide), if_pos rfl] at hp
  rw [if_pos rfl] at hl ⊢
  simp only [Bool.and_eq_true, decide_eq_true_eq] at hp
  simp only [List.length_cons, List.length_append, List.length_nil] at hl
  exact show_rec B b bb n u s ks vs hp.1.2 ka kc a ac l w hbl hB h17 hg hT hks hvs hkn hvn ih hfl hR (by omega) hkw (by omega)
 ·have k6 : k = 6 := by
   by_cases k6 : k = 6
   ·exact k6
   ·rw [if_neg k6, if_neg k7] at hp; cases hp
  subst k6
  rw [if_neg k7] at hl ⊢
  simp only [List.length_cons, List.length_append, List.length_nil] at hl
  exact show_list B b bb n u s ks vs ka kc a ac l w hbl hB h17 hg hT hks hvs hkn hvn ih hfl hR (by omega) hkw (by omega)
end Go.Proofs.YtckaoeloofbklaaGreatDoor
namespace Go.Proofs.YtckaoeloofbklaaGreatDoor
open Go Go.RowKit Go.Lib
theorem bstr_ne {s t : ByteArray} (h : s ≠ t) : (s.toList == t.toList) = false := by
 rw [ByteArray.toList_eq, ByteArray.toList_eq, beq_eq_false_iff_ne]
 exact fun e => h (ByteArray.ext (Array.toList_inj.1 e))
theorem rboolS {a b : Bool} (h : a = b) : Ending.returned (.bool a) = Ending.returned (.bool b) := by rw [h]
theorem bDrewS {B : Nat} {a w : World} (h : Below B a w) (n : Nat) : Below B a (w.drewN n) := h.trans ⟨rfl, rfl, rfl, Nat.le_refl _, fun _ _ => rfl⟩
theorem texts_any (ok ok' : Nat → Prop) (a a' : Option Addr) (c c' : Nat) (ks ks' : List ByteArray) (w : World) (h : StrsAt ok w a ks) (h' : StrsAt ok' w a' ks') (hn : ks.length ≤ 35184372080000) (hn' : ks'.length ≤ 35184372080000) :
  Calls Tryz.prog 27 #[.slice a ks.length c, .slice a' ks'.length c'] w fun e w' => e = .returned (.bool (decide (ks = ks'))) ∧ Below w.heap.size w w' := by
 have H := Lib.hid h
 have H' := Lib.hid h'
 clear h h'
 by_cases hl : ks.length = ks'.length
 ·have HL := Lib.hid hl
  have hl2 : ((ks.length : Int) == (ks'.length : Int)) = true := by rw [beq_iff_eq]; omega
  have hl3 : (ks.length : Int) = (ks'.length : Int) := by omega
  clear hl
  go_enter Tryz.func27, Tryz.ntmps27
  go_wp2_with fail
  clear hl3 hl2
  go_loopg [4, 5] ks.length (fun g s4 s5 wr => ∃ i : Nat, i + g = ks.length ∧ s4 = .bool false ∧ s5 = .int .i64 i ∧ ks.take i = ks'.take i ∧ Below w.heap.size w wr)
  case atStart => exact ⟨0, by omega, rfl, rfl, by simp, Below.refl _ _⟩
  case round =>
   obtain ⟨i, hi, rfl, rfl, htk, hbw⟩ := hrel
   have HTK := Lib.hid htk
   have HBW := Lib.hid hbw
   clear htk hbw
   by_cases hlt : i < ks.length
   ·have hlt2 : i < ks'.length := by have := HL.out; omega
    obtain ⟨x, hx⟩ : ∃ x, ks[i]? = some x := ⟨_, List.getElem?_eq_getElem hlt⟩
    obtain ⟨y, hy⟩ : ∃ y, ks'[i]? = some y := ⟨_, List.getElem?_eq_getElem hlt2⟩
    obtain ⟨b, o, ha, -, hb, hc⟩ := H.out.resolve_left (by rintro rfl; simp at hlt)
    obtain ⟨b', o', ha', -, hb', hc'⟩ := H'.out.resolve_left (by rintro rfl; simp at hlt2)
    have d0 : wr.cell? ⟨b, o + i, none⟩ = some (.string x) := by rw [HBW.out.cell (p := ⟨b, o + i, none⟩) hb]; exact hc i x hx
    have d1 : wr.cell? ⟨b', o' + i, none⟩ = some (.string y) := by rw [HBW.out.cell (p := ⟨b', o' + i, none⟩) hb']; exact hc' i y hy
    have t1 : ks.take (i + 1) = ks.take i ++ [x] := by rw [List.take_add_one, hx]; rfl
    have t2 : ks'.take (i + 1) = ks'.take i ++ [y] := by rw [List.take_add_one, hy]; rfl
    have HT := Lib.hid (And.intro t1 t2)
    subst ha ha'
    clear hc hc' hx hy t1 t2
    by_cases hxy : x = y
    ·subst hxy
     go_wp2_with fail
     go_quiet (fail)
     go_wp2_with fail
     go_roundg (gk - 1)
     case measure => omega
     case rel => exact ⟨i + 1, by omega, rfl, by go_num, by rw [HT.out.1, HT.out.2, HTK.out], bDrewS HBW.out _⟩
    ·have hq := bstr_ne hxy
     have hq2 : (x.toList != y.toList) = true := by rw [bne, hq]; rfl
     have hq3 : ¬ x.toList = y.toList := fun e => by rw [e] at hq; simp at hq
     have HXY := Lib.hid hxy
     clear hxy
     go_wp2_with fail
     go_quiet (fail)
     go_wp2_with fail
     go_ret
     refine ⟨rboolS (decide_eq_false fun e => ?_).symm, bDrewS HBW.out _⟩
     have h1 := HT.out.1
     rw [e, HT.out.2] at h1
     have := List.append_cancel_left h1
     simp at this
     exact HXY.out this.symm
   ·have hii : i = ks.length := by omega
    have HII := Lib.hid hii
    have hnl : ¬ (i : Int) < (ks.length : Int) := by omega
    clear hlt hii
    go_wp2_with fail
    go_ret
    refine ⟨rboolS (decide_eq_true ?_).symm, HBW.out⟩
    have h1 := HTK.out
    rw [HII.out, List.take_length] at h1
    rwa [HL.out, List.take_length] at h1
 ·have HL := Lib.hid hl
  have hl2 : ((ks.length : Int) == (ks'.length : Int)) = false := by rw [beq_eq_false_iff_ne]; omega
  have hl3 : ((ks.length : Int) != (ks'.length : Int)) = true := by rw [bne, hl2]; rfl
  have hl4 : ¬ (ks.length : Int) = (ks'.length : Int) := by omega
  clear hl
  go_enter Tryz.func27, Tryz.ntmps27
  go_wp2_with fail
  go_ret
  exact ⟨rboolS (decide_eq_false fun e => HL.out (by rw [e])).symm, Below.refl _ _⟩
theorem sameL_snoc : ∀ {a b : List JV} (x y : JV), a.length = b.length → JV.sameL (a ++ [x]) (b ++ [y]) = (JV.sameL a b && JV.same x y)
 | [], [], x, y, _ => by simp [JV.sameL]
 | u :: a, v :: b, x, y, h => by
  rw [List.cons_append, List.cons_append, JV.sameL, JV.sameL, sameL_snoc x y (by simpa using h), Bool.and_assoc]
theorem sameL_no : ∀ {a b : List JV} {x y : JV} {i : Nat}, a[i]? = some x → b[i]? = some y → JV.same x y = false → JV.sameL a b = false
 | [], _, _, _, _, h, _, _ => by simp at h
 | _ :: _, [], _, _, _, _, h, _ => by simp at h
 | u :: a, v :: b, x, y, 0, h1, h2, h => by simp at h1 h2; subst h1 h2; rw [JV.sameL, h]; rfl
 | u :: a, v :: b, x, y, i + 1, h1, h2, h => by rw [JV.sameL, sameL_no (i := i) (by simpa using h1) (by simpa using h2) h]; simp
theorem sameL_len : ∀ {a b : List JV}, a.length ≠ b.length → JV.sameL a b = false
 | [], [], h => absurd rfl h
 | [], _ :: _, _ => by rw [JV.sameL]
 | _ :: _, [], _ => by rw [JV.sameL]
 | u :: a, v :: b, h => by rw [JV.sameL, sameL_len (by simpa using h)]; simp
theorem below17 {p1 p2 p3 p4 p5 p6 p7 p8 p9 p10 p11 p12 p13 p14 p15 p16 : Prop} {w w' : World} (h : p1 ∧ p2 ∧ p3 ∧ p4 ∧ p5 ∧ p6 ∧ p7 ∧ p8 ∧ p9 ∧ p10 ∧ p11 ∧ p12 ∧ p13 ∧ p14 ∧ p15 ∧ p16 ∧ Below w.heap.size w w') : Below w.heap.size w w' := h.2.2.2.2.2.2.2.2.2.2.2.2.2.2.2.2
def SameOk (x : JV) : Prop := ∀ (y : JV) (ok ok' : Nat → Prop) (V V' : Value) (w : World), JAt ok w x V → JAt ok' w y V' →
 Calls Tryz.prog 11 #[V, V'] w fun e w' => e = .returned (.bool (JV.same x y)) ∧ Below w.heap.size w w'
theorem same_one (k : Int) (b : Bool) (n u : Int) (s : ByteArray) (ks : List ByteArray) (vs : List JV) (ih : ∀ x ∈ vs, SameOk x) : SameOk (.mk k b n u s ks vs) := by
 intro y ok ok' V V' w hj hj'
 obtain ⟨k', b', n', u', s', ks', vs'⟩ := y
 rw [JAt] at hj hj'
 obtain ⟨ka, kc, a, c, rfl, hks, hvs, hkn, hvn⟩ := hj
 obtain ⟨ka', kc', a', c', rfl, hks', hvs', hkn', hvn'⟩ := hj'
 have hx1 := heap_alloc_new w (.cells #[.int .u8 k, .bool b, .int .i64 n, .int .u64 u, .string s, .slice ka ks.length kc, .slice a vs.length c] 27)
 have hs1 : (w.alloc (.cells #[.int .u8 k, .bool b, .int .i64 n, .int .u64 u, .string s, .slice ka ks.length kc, .slice a vs.length c] 27)).heap.size = w.heap.size + 1 := by simp
 have hx2 := (Below.heap_alloc (w.alloc (.cells #[.int .u8 k, .bool b, .int .i64 n, .int .u64 u, .string s, .slice ka ks.length kc, .slice a vs.length c] 27)) (.cells #[.int .u8 k', .bool b', .int .i64 n', .int .u64 u', .string s', .slice ka' ks'.length kc', .slice a' vs'.length c'] 27) w.heap.size (by omega)).trans hx1
 have hy2 := heap_alloc_new (w.alloc (.cells #[.int .u8 k, .bool b, .int .i64 n, .int .u64 u, .string s, .slice ka ks.length kc, .slice a vs.length c] 27)) (.cells #[.int .u8 k', .bool b', .int .i64 n', .int .u64 u', .string s', .slice ka' ks'.length kc', .slice a' vs'.length c'] 27)
 rw [hs1] at hy2
 have hbA : Below w.heap.size w ((w.alloc (.cells #[.int .u8 k, .bool b, .int .i64 n, .int .u64 u, .string s, .slice ka ks.length kc, .slice a vs.length c] 27)).alloc (.cells #[.int .u8 k', .bool b', .int .i64 n', .int .u64 u', .string s', .slice ka' ks'.length kc', .slice a' vs'.length c'] 27)) := ((Below.refl _ _).alloc (Nat.le_refl _) _).alloc (by omega) _
 have hlx := (Array.getElem?_eq_some_iff.1 hx2).1
 have hly := (Array.getElem?_eq_some_iff.1 hy2).1
 obtain ⟨c0, c1, c2, c3, c4, c5, c6⟩ := cell_agg7 hx2
 obtain ⟨e0, e1, e2, e3, e4, e5, e6⟩ := cell_agg7 hy2
 have HX := Lib.hid hx2
 have HY := Lib.hid hy2
 have HBA := Lib.hid hbA
 have HVS := Lib.hid hvs
 have HVS' := Lib.hid hvs'
 have HIH := Lib.hid ih
 have HTX := Lib.hid (texts_any (fun _ => True) (fun _ => True) ka ka' kc kc' ks ks' _ (hks.kept (fun i _ hi => ⟨hbA.block i hi, trivial⟩)) (hks'.kept (fun i _ hi => ⟨hbA.block i hi, trivial⟩)) hkn hkn')
 have HSM := Lib.hid (show JV.same (.mk k b n u s ks vs) (.mk k' b' n' u' s' ks' vs') = (decide (k = k' ∧ b = b' ∧ n = n' ∧ u = u' ∧ s = s' ∧ ks = ks') && JV.sameL vs vs') by rw [JV.same])
 clear hx1 hx2 hy2 hbA hks hks' hvs hvs' ih hs1
 go_enter Tryz.func11, Tryz.ntmps11
 go_upto_region 1 with fail
 generalize (w.alloc (.cells #[.int .u8 k, .bool b, .int .i64 n, .int .u64 u, .string s, .slice ka ks.length kc, .slice a vs.length c] 27)).alloc (.cells #[.int .u8 k', .bool b', .int .i64 n', .int .u64 u', .string s', .slice ka' ks'.length kc', .slice a' vs'.length c'] 27) = wA at *
 go_wp2_with fail
 refine HTX.out.mono ?_
 rintro e w1 ⟨rfl, hb1⟩
 have hx1 := (hb1.block _ hlx).trans HX.out
 have hy1 := (hb1.block _ hly).trans HY.out
 clear c0 c1 c2 c3 c4 c5 c6 e0 e1 e2 e3 e4 e5 e6
 obtain ⟨c0, c1, c2, c3, c4, c5, c6⟩ := cell_agg7 hx1
 obtain ⟨e0, e1, e2, e3, e4, e5, e6⟩ := cell_agg7 hy1
 have hlx1 := (Array.getElem?_eq_some_iff.1 hx1).1
 have hly1 := (Array.getElem?_eq_some_iff.1 hy1).1
 have HX1 := Lib.hid hx1
 have HY1 := Lib.hid hy1
 have HB1 := Lib.hid (HBA.out.trans (hb1.mono HBA.out.size))
 clear hb1 hx1 hy1 HX HY HTX HBA hlx hly
 by_cases q0 : ks = ks'
 ·have hd0 : decide (ks = ks') = true := decide_eq_true q0
  simp only [hd0]
  clear hd0
  have Q0 := Lib.hid q0
  clear q0
  by_cases q1 : k = k'
  ·subst q1
   by_cases q1 : b = b'
   ·subst q1
    by_cases q1 : n = n'
    ·subst q1
     by_cases q1 : u = u'
     ·subst q1
      by_cases q1 : s = s'
      ·subst q1
       by_cases q1 : vs.length = vs'.length
       ·have HVL := Lib.hid q1
        have f1 : ((vs.length : Int) == (vs'.length : Int)) = true := by rw [beq_iff_eq]; omega
        have f2 : ((vs.length : Int) != (vs'.length : Int)) = false := by rw [bne, f1]; rfl
        have f3 : (vs.length : Int) = (vs'.length : Int) := by omega
        clear q1
        go_wp2_with fail
        clear f1 f2 f3 c0 c1 c2 c3 c4 c5 c6 e0 e1 e2 e3 e4 e5 e6
        go_loopg [4, 6, 7] vs.length (fun g s4 s6 _ wr => ∃ i : Nat, i + g = vs.length ∧ s4 = .bool false ∧ s6 = .int .i64 i ∧ JV.sameL (vs.take i) (vs'.take i) = true ∧ Below w1.heap.size w1 wr)
        case atStart => exact ⟨0, by omega, rfl, rfl, by rw [List.take_zero, List.take_zero, JV.sameL], Below.refl _ _⟩
        case round =>
         obtain ⟨i, hi, rfl, rfl, hsm, hbw⟩ := hrel
         have hxr := (hbw.block _ hlx1).trans HX1.out
         have hyr := (hbw.block _ hly1).trans HY1.out
         obtain ⟨-, -, -, -, -, -, c6⟩ := cell_agg7 hxr
         obtain ⟨-, -, -, -, -, -, e6⟩ := cell_agg7 hyr
         have HBW := Lib.hid hbw
         have HS := Lib.hid hsm
         have hbt := HB1.out.trans (hbw.mono HB1.out.size)
         have hlxr := (Array.getElem?_eq_some_iff.1 hxr).1
         have hlyr := (Array.getElem?_eq_some_iff.1 hyr).1
         clear hbw hsm hxr hyr
         by_cases hlt : i < vs.length
         ·have hlt2 : i < vs'.length := by have := HVL.out; omega
          obtain ⟨x, hx⟩ : ∃ x, vs[i]? = some x := ⟨_, List.getElem?_eq_getElem hlt⟩
          obtain ⟨y, hy⟩ : ∃ y, vs'[i]? = some y := ⟨_, List.getElem?_eq_getElem hlt2⟩
          obtain ⟨q, off, ha, -, hqw, hit⟩ := HVS.out.resolve_left (by rintro rfl; simp at hlt)
          obtain ⟨q', off', ha', -, hqw', hit'⟩ := HVS'.out.resolve_left (by rintro rfl; simp at hlt2)
          obtain ⟨W1, h7, hja⟩ := hit.get hx
          obtain ⟨W2, h7', hja'⟩ := hit'.get hy
          obtain ⟨xk, xb, xn, xu, xs, xa, xm, xc, xa2, xm2, xc2, rfl, d0, d1, d2, d3, d4, d5, d6⟩ := it_cells h7 hja
          obtain ⟨yk, yb, yn, yu, ys, ya, ym, yc, ya2, ym2, yc2, rfl, g0, g1, g2, g3, g4, g5, g6⟩ := it_cells h7' hja'
          have hkq : ∀ i : Nat, wr.cell? ⟨q, i, none⟩ = w.cell? ⟨q, i, none⟩ := fun i => hbt.cell (p := ⟨q, i, none⟩) hqw
          have hkq' : ∀ i : Nat, wr.cell? ⟨q', i, none⟩ = w.cell? ⟨q', i, none⟩ := fun i => hbt.cell (p := ⟨q', i, none⟩) hqw'
          rw [← hkq, Nat.mul_comm 7 i] at d0 d1 d2 d3 d4 d5 d6
          rw [← hkq', Nat.mul_comm 7 i] at g0 g1 g2 g3 g4 g5 g6
          have htk : vs.take (i + 1) = vs.take i ++ [x] := by rw [List.take_add_one, hx]; rfl
          have htk' : vs'.take (i + 1) = vs'.take i ++ [y] := by rw [List.take_add_one, hy]; rfl
          have hsn := sameL_snoc (a := vs.take i) (b := vs'.take i) x y (by rw [List.length_take, List.length_take]; omega)
          rw [← htk, ← htk', HS.out, Bool.true_and] at hsn
          have HSN := Lib.hid hsn
          have HNO := Lib.hid (fun h => sameL_no hx hy h)
          have hqr : q < wr.heap.size := Nat.lt_of_lt_of_le hqw hbt.size
          have hqr' : q' < wr.heap.size := Nat.lt_of_lt_of_le hqw' hbt.size
          have HCL := Lib.hid (fun (W : World) (hW : Below wr.heap.size wr W) => HIH.out x (List.mem_of_getElem? hx) y (fun _ => True) (fun _ => True) _ _ W (hja.kept (fun j _ hj => ⟨(hbt.trans (hW.mono hbt.size)).block j hj, trivial⟩)) (hja'.kept (fun j _ hj => ⟨(hbt.trans (hW.mono hbt.size)).block j hj, trivial⟩)))
          have HBT := Lib.hid hbt
          have HD := Lib.hid (And.intro hqr (And.intro hqr' (And.intro hlxr hlyr)))
          subst ha ha'
          clear hit hit' h7 h7' hja hja' hkq hkq' HVS HVS' hx hy htk htk' hsn hbt hqr hqr' hlxr hlyr
          generalize JV.same x y = z at *
          go_wp2_with fail
          have hfr : ∀ W, Below wr.heap.size wr W → W.cell? ⟨w.heap.size, 6, none⟩ = some (.slice (some ⟨q, off, none⟩) vs.length c) ∧ W.cell? ⟨w.heap.size + 1, 6, none⟩ = some (.slice (some ⟨q', off', none⟩) vs'.length c') ∧
          W.cell? ⟨q, off + i * 7, none⟩ = some (.int .u8 xk) ∧ W.cell? ⟨q, off + i * 7 + 1, none⟩ = some (.bool xb) ∧ W.cell? ⟨q, off + i * 7 + 2, none⟩ = some (.int .i64 xn) ∧ W.cell? ⟨q, off + i * 7 + 3, none⟩ = some (.int .u64 xu) ∧ W.cell? ⟨q, off + i * 7 + 4, none⟩ = some (.string xs) ∧ W.cell? ⟨q, off + i * 7 + 5, none⟩ = some (.slice xa xm xc) ∧ W.cell? ⟨q, off + i * 7 + 6, none⟩ = some (.slice xa2 xm2 xc2) ∧
          W.cell? ⟨q', off' + i * 7, none⟩ = some (.int .u8 yk) ∧ W.cell? ⟨q', off' + i * 7 + 1, none⟩ = some (.bool yb) ∧ W.cell? ⟨q', off' + i * 7 + 2, none⟩ = some (.int .i64 yn) ∧ W.cell? ⟨q', off' + i * 7 + 3, none⟩ = some (.int .u64 yu) ∧ W.cell? ⟨q', off' + i * 7 + 4, none⟩ = some (.string ys) ∧ W.cell? ⟨q', off' + i * 7 + 5, none⟩ = some (.slice ya ym yc) ∧ W.cell? ⟨q', off' + i * 7 + 6, none⟩ = some (.slice ya2 ym2 yc2) ∧ Below wr.heap.size wr W := fun W hW => by
           obtain ⟨h1, h2, h3, h4⟩ := HD.out
           have k1 : ∀ j, W.cell? ⟨q, j, none⟩ = wr.cell? ⟨q, j, none⟩ := fun j => hW.cell (p := ⟨q, j, none⟩) h1
           have k2 : ∀ j, W.cell? ⟨q', j, none⟩ = wr.cell? ⟨q', j, none⟩ := fun j => hW.cell (p := ⟨q', j, none⟩) h2
           have k3 : ∀ j, W.cell? ⟨w.heap.size, j, none⟩ = wr.cell? ⟨w.heap.size, j, none⟩ := fun j => hW.cell (p := ⟨w.heap.size, j, none⟩) h3
           have k4 : ∀ j, W.cell? ⟨w.heap.size + 1, j, none⟩ = wr.cell? ⟨w.heap.size + 1, j, none⟩ := fun j => hW.cell (p := ⟨w.heap.size + 1, j, none⟩) h4
           simp only [k1, k2, k3, k4]
           exact ⟨c6, e6, d0, d1, d2, d3, d4, d5, d6, g0, g1, g2, g3, g4, g5, g6, hW⟩
          have HFR := Lib.hid hfr
          have hbd : Below wr.heap.size wr wr.drew := (Below.refl _ _).drew
          clear hfr
          go_region_held (fun W => W.cell? ⟨w.heap.size, 6, none⟩ = some (.slice (some ⟨q, off, none⟩) vs.length c) ∧ W.cell? ⟨w.heap.size + 1, 6, none⟩ = some (.slice (some ⟨q', off', none⟩) vs'.length c') ∧
          W.cell? ⟨q, off + i * 7, none⟩ = some (.int .u8 xk) ∧ W.cell? ⟨q, off + i * 7 + 1, none⟩ = some (.bool xb) ∧ W.cell? ⟨q, off + i * 7 + 2, none⟩ = some (.int .i64 xn) ∧ W.cell? ⟨q, off + i * 7 + 3, none⟩ = some (.int .u64 xu) ∧ W.cell? ⟨q, off + i * 7 + 4, none⟩ = some (.string xs) ∧ W.cell? ⟨q, off + i * 7 + 5, none⟩ = some (.slice xa xm xc) ∧ W.cell? ⟨q, off + i * 7 + 6, none⟩ = some (.slice xa2 xm2 xc2) ∧
          W.cell? ⟨q', off' + i * 7, none⟩ = some (.int .u8 yk) ∧ W.cell? ⟨q', off' + i * 7 + 1, none⟩ = some (.bool yb) ∧ W.cell? ⟨q', off' + i * 7 + 2, none⟩ = some (.int .i64 yn) ∧ W.cell? ⟨q', off' + i * 7 + 3, none⟩ = some (.int .u64 yu) ∧ W.cell? ⟨q', off' + i * 7 + 4, none⟩ = some (.string ys) ∧ W.cell? ⟨q', off' + i * 7 + 5, none⟩ = some (.slice ya ym yc) ∧ W.cell? ⟨q', off' + i * 7 + 6, none⟩ = some (.slice ya2 ym2 yc2) ∧ Below wr.heap.size wr W)
           (first | exact HFR.out _ hb' | exact HFR.out _ hbd | go_keep)
           (first | (go_at_call 11; refine (HCL.out _ (by first | assumption | exact below17 (by assumption))).mono ?_; rintro e w9 ⟨rfl, hb⟩; have hb' : Below wr.heap.size wr w9 := Below.trans (below17 (by assumption)) (hb.mono (Below.size (below17 (by assumption))))))
          have HBE := Lib.hid hb'
          have HBF := Lib.hid (HBT.out.trans (hb'.mono HBT.out.size))
          have HBG := Lib.hid (HBW.out.trans (hb'.mono HBW.out.size))
          cases z with
          | false =>
           go_wp2_with fail
           go_ret
           exact ⟨rboolS (by rw [HSM.out, HNO.out trivial, Bool.and_false]), HBF.out⟩
          | true =>
           go_wp2_with fail
           go_roundg (gk - 1)
           case measure => omega
           case rel => exact ⟨i + 1, by omega, rfl, by go_num, HSN.out, HBG.out⟩
         ·have hii : i = vs.length := by omega
          have HII := Lib.hid hii
          have hnl : ¬ (i : Int) < (vs.length : Int) := by omega
          clear hlt hii
          go_wp2_with fail
          go_ret
          refine ⟨rboolS ?_, hbt⟩
          have h1 := HS.out
          rw [HII.out, List.take_length] at h1
          rw [HVL.out, List.take_length] at h1
          rw [HSM.out, h1, decide_eq_true (by simp [Q0.out])]
          rfl
       ·have Q1 := Lib.hid q1
        have f1 : ((vs.length : Int) == (vs'.length : Int)) = false := by rw [beq_eq_false_iff_ne]; omega
        have f2 : ((vs.length : Int) != (vs'.length : Int)) = true := by rw [bne, f1]; rfl
        have f3 : ¬ (vs.length : Int) = (vs'.length : Int) := by omega
        clear q1
        go_wp2_with fail
        go_ret
        exact ⟨rboolS (by rw [HSM.out, sameL_len Q1.out, Bool.and_false]), HB1.out⟩
      ·have Q1 := Lib.hid q1
       have f1 := bstr_ne q1
       have f2 : (s.toList != s'.toList) = true := by rw [bne, f1]; rfl
       have f3 : ¬ s.toList = s'.toList := fun e => by rw [e] at f1; simp at f1
       go_wp2_with fail
       go_ret
       exact ⟨rboolS (by rw [HSM.out, decide_eq_false (fun h => Q1.out h.2.2.2.2.1)]; rfl), HB1.out⟩
     ·have Q1 := Lib.hid q1
      have f1 : (u == u') = false := beq_eq_false_iff_ne.2 q1
      have f2 : (u != u') = true := by rw [bne, f1]; rfl
      go_wp2_with fail
      go_ret
      exact ⟨rboolS (by rw [HSM.out, decide_eq_false (fun h => Q1.out h.2.2.2.1)]; rfl), HB1.out⟩
    ·have Q1 := Lib.hid q1
     have f1 : (n == n') = false := beq_eq_false_iff_ne.2 q1
     have f2 : (n != n') = true := by rw [bne, f1]; rfl
     go_wp2_with fail
     go_ret
     exact ⟨rboolS (by rw [HSM.out, decide_eq_false (fun h => Q1.out h.2.2.1)]; rfl), HB1.out⟩
   ·have Q1 := Lib.hid q1
    have f1 : (b == b') = false := beq_eq_false_iff_ne.2 q1
    have f2 : (b != b') = true := by rw [bne, f1]; rfl
    go_wp2_with fail
    go_ret
    exact ⟨rboolS (by rw [HSM.out, decide_eq_false (fun h => Q1.out h.2.1)]; rfl), HB1.out⟩
  ·have Q1 := Lib.hid q1
   have f1 : (k == k') = false := beq_eq_false_iff_ne.2 q1
   have f2 : (k != k') = true := by rw [bne, f1]; rfl
   go_wp2_with fail
   go_ret
   exact ⟨rboolS (by rw [HSM.out, decide_eq_false (fun h => Q1.out h.1)]; rfl), HB1.out⟩
 ·have hd0 : decide (ks = ks') = false := decide_eq_false q0
  simp only [hd0]
  clear hd0
  have Q1 := Lib.hid q0
  clear q0
  go_wp2_with fail
  go_ret
  exact ⟨rboolS (by rw [HSM.out, decide_eq_false (fun h => Q1.out h.2.2.2.2.2)]; rfl), HB1.out⟩
theorem same_any : ∀ x, SameOk x := JV.ind fun k b n u s ks vs ih => same_one k b n u s ks vs ih
end Go.Proofs.YtckaoeloofbklaaGreatDoor
