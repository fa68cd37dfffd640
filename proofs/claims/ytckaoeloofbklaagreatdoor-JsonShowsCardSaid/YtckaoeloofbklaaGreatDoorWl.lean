/- Joined texts: Jl Jm. Each begins with its own remark. -/
import Derived.Test.YtckaoeloofbklaaGreatDoorWk
import Derived.Deep.AppendLies
set_option maxRecDepth 100000
set_option maxHeartbeats 8000000
namespace Go.Proofs.YtckaoeloofbklaaGreatDoor
open Go Go.RowKit Go.Lib Go.Maps
theorem zeroF (w : World) : (zeroValue 57).run Tryz.prog w = .ok .nilFunc w := by kernel_rfl
theorem beg_hit {r : Nat} {c : UInt8} {f : Nat} {v : Value} {ps : List MemPlace} (hf : begF c = some f) (hv : mvR r v = some (begD.atKey (u8L (c.toNat : Int)) (.lit (.int .i64 (-1))), ps)) : v = mvV r f := by
 rw [(beg_at c).1] at hv
 unfold begZ at hv
 rw [hf] at hv
 exact mvR_inv hv
theorem beg_miss {r : Nat} {c : UInt8} {v : Value} {ps : List MemPlace} (hf : begF c = none) (hv : mvR r v = some (begD.atKey (u8L (c.toNat : Int)) (.lit (.int .i64 (-1))), ps)) : v = .nilFunc := by
 rw [(beg_at c).1] at hv
 unfold begZ at hv
 rw [hf] at hv
 exact mvR_none hv
theorem wpList_beg_hit {P : Program} (hP : P = Tryz.prog) (w : World) {ops : Array Oper} {rest : List Oper} {o : Oper} {a : Act} {Q : Exit → Act → World → Prop} (hg : o.guard = Option.none) (m x : Operand) (hop : o.op = Op.lookup 87 m x true)
  (r q : Nat) (hm : a.eval m = .map (some q)) (hown : w.ownsMap Tryz.prog 5 (mvR r) q 4 begD) (c : UInt8) (hx : a.eval x = .int .u8 (c.toNat : Int)) (f : Nat) (hf : begF c = some f)
  (hK : wpList P ops Q rest (a.put o.dst (.tuple #[mvV r f, .bool true])) w) : wpList P ops Q (o :: rest) a w := by
 subst hP
 refine wpList_lookup_own_ok w hg m x _ hop 5 57 lawB Tryz.underlying87 (mvR r) (zeroF w) (.lit (.int .i64 (-1))) [] (mvR_nil r) q 4 _ hm hown _ _ hx (key8 c.toNat c.toNat_lt) ?_
 intro v ps hv
 rw [beg_hit hf hv, (beg_at c).2, hf]
 exact hK
theorem wpList_beg_miss {P : Program} (hP : P = Tryz.prog) (w : World) {ops : Array Oper} {rest : List Oper} {o : Oper} {a : Act} {Q : Exit → Act → World → Prop} (hg : o.guard = Option.none) (m x : Operand) (hop : o.op = Op.lookup 87 m x true)
  (r q : Nat) (hm : a.eval m = .map (some q)) (hown : w.ownsMap Tryz.prog 5 (mvR r) q 4 begD) (c : UInt8) (hx : a.eval x = .int .u8 (c.toNat : Int)) (hf : begF c = none)
  (hK : wpList P ops Q rest (a.put o.dst (.tuple #[.nilFunc, .bool false])) w) : wpList P ops Q (o :: rest) a w := by
 subst hP
 refine wpList_lookup_own_ok w hg m x _ hop 5 57 lawB Tryz.underlying87 (mvR r) (zeroF w) (.lit (.int .i64 (-1))) [] (mvR_nil r) q 4 _ hm hown _ _ hx (key8 c.toNat c.toNat_lt) ?_
 intro v ps hv
 rw [beg_miss hf hv, (beg_at c).2, hf]
 exact hK
theorem KR.grown {r q : Nat} {a w w' : World} (h : KR r a w) (hg : w.grownBy w' (some q)) (hq : a.heap.size ≤ q) : KR r a w' :=
 ⟨hg.os.trans h.os, hg.tape.trans h.tape, hg.output.trans h.output, Nat.le_trans h.size hg.size, fun k hk hr => (hg.block k (Nat.lt_of_lt_of_le hk h.size) (by simp; omega)).trans (h.block k hk hr)⟩
theorem Rd.grown {r q : Nat} {s : ByteArray} {t : List UInt8} {d : Nat} {w w' : World} (h : Rd r s t d w) (hg : w.grownBy w' (some q)) (hq : r ≠ q) : Rd r s t d w' := h.kept (hg.block r h.lt (by simpa using hq))
theorem value_map {o : Out JV} (r : Nat) (s : ByteArray) (t u : List UInt8) (c : UInt8) (d : Nat) (w : World) (h : Rd r s t d w) (hc : skipB t = c :: u) (f : Nat) (hf : begF c = some f) (hef : ∀ args w, (callFunc f args).run Tryz.prog w = .ok (.enter f args) w)
  (HC : ∀ W, Rd r s (c :: u) d W → KR r w W → Calls Tryz.prog f #[.pointer (some ⟨r, 0, none⟩)] W (ValPost r s d W o)) :
  Calls Tryz.prog 25 #[.pointer (some ⟨r, 0, none⟩)] w (ValPost r s d w o.skip) := by
 have hmf : ∀ (fn : Fn) (first cap : Array Value) (w : World), (Instr.makeFunc fn first cap).run Tryz.prog w = .ok (.func fn first cap) w := fun _ _ _ _ => rfl
 have hmm := @run_makeMap Tryz.prog
 have hrl := h.lt
 have hal := h.alloc (.cells #[.int .u8 0, .bool false, .int .i64 0, .int .u64 0, .string ⟨#[]⟩, .slice none 0 0, .slice none 0 0] 27)
 have HBLK := Lib.hid (blanks_any r s t d _ hal)
 have HKA := Lib.hid ((KR.refl r w).alloc (.cells #[.int .u8 0, .bool false, .int .i64 0, .int .u64 0, .string ⟨#[]⟩, .slice none 0 0, .slice none 0 0] 27))
 have hnew := heap_alloc_new w (.cells #[.int .u8 0, .bool false, .int .i64 0, .int .u64 0, .string ⟨#[]⟩, .slice none 0 0, .slice none 0 0] 27)
 have HN := Lib.hid hnew
 clear h hal hnew
 go_enter Tryz.func25, Tryz.ntmps25
 go_wp2_with fail
 refine HBLK.out.mono ?_
 rintro e w1 ⟨rfl, hr1, hk1⟩
 have hn1 := (hk1.block w.heap.size (by simp) (by omega)).trans HN.out
 have hs1 := hk1.size
 rw [World.size_alloc] at hs1
 have HR1 := Lib.hid hr1
 have HK1 := Lib.hid (HKA.out.trans hk1)
 have HN1 := Lib.hid hn1
 clear hr1 hk1 hn1 HKA
 have hown0 : (w1.alloc (.map #[] 0)).ownsMap Tryz.prog 5 (mvR r) w1.heap.size 0 (.map []) := World.ownsMap_made _ _ _ _
 go_wp2_with (first
  | (refine wpList_insert_own _ rfl _ _ _ 87 rfl 5 57 lawB Tryz.underlying87 (mvR r) _ 0 _ rfl hown0 (by decide) _ _ _ rfl rfl (key8 91 (by decide)) _ [] (mvR_mk r 48) ?_; intro wm1 hown1 hg1; clear hown0)
  | (refine wpList_insert_own _ rfl _ _ _ 87 rfl 5 57 lawB Tryz.underlying87 (mvR r) _ 1 _ rfl hown1 (by decide) _ _ _ rfl rfl (key8 123 (by decide)) _ [] (mvR_mk r 49) ?_; intro wm2 hown2 hg2; clear hown1)
  | (refine wpList_insert_own _ rfl _ _ _ 87 rfl 5 57 lawB Tryz.underlying87 (mvR r) _ 2 _ rfl hown2 (by decide) _ _ _ rfl rfl (key8 34 (by decide)) _ [] (mvR_mk r 50) ?_; intro wm3 hown3 hg3; clear hown2)
  | (refine wpList_insert_own _ rfl _ _ _ 87 rfl 5 57 lawB Tryz.underlying87 (mvR r) _ 3 _ rfl hown3 (by decide) _ _ _ rfl rfl (key8 45 (by decide)) _ [] (mvR_mk r 51) ?_; intro wm4 hown4 hg4; clear hown3)
  | fail)
 have hrg := (((HR1.out.alloc (.map #[] 0)).grown hg1 (by omega)).grown hg2 (by omega)).grown hg3 (by omega) |>.grown hg4 (by omega)
 have hkg := ((((HK1.out.alloc (.map #[] 0)).grown hg1 (by omega)).grown hg2 (by omega)).grown hg3 (by omega)).grown hg4 (by omega)
 have hng : wm4.heap[w.heap.size]? = w1.heap[w.heap.size]? := by
  have e1 := hg1.size
  have e2 := hg2.size
  have e3 := hg3.size
  rw [World.size_alloc] at e1
  rw [hg4.block _ (by omega) (by simp; omega), hg3.block _ (by omega) (by simp; omega), hg2.block _ (by omega) (by simp; omega), hg1.block _ (by simp; omega) (by simp; omega), Below.heap_alloc _ _ _ (by omega)]
 have hng := hng.trans HN1.out
 have hown : wm4.ownsMap Tryz.prog 5 (mvR r) w1.heap.size 4 begD := hown4
 rw [hc] at hrg
 have HPK := Lib.hid (peek_cons r s c u d wm4 hrg)
 have hqs : w1.heap.size < wm4.heap.size := hown.lt
 have HRG := Lib.hid hrg
 have HKG := Lib.hid hkg
 have HNG := Lib.hid hng
 have HOWN := Lib.hid hown
 obtain ⟨q, hq⟩ : ∃ q, q = w1.heap.size := ⟨_, rfl⟩
 rw [← hq] at HOWN hs1 hqs
 rw [← hq]
 clear hrg hkg hng hown hown4 HR1 HK1 HN1 hq
 go_wp2_with fail
 refine HPK.out.mono ?_
 rintro e w3 ⟨rfl, hr3, hk3⟩
 have hown3 : w3.ownsMap Tryz.prog 5 (mvR r) q 4 begD := by
  obtain ⟨es, clock, g1, g2⟩ := HOWN.out
  exact ⟨es, clock, (hk3.block q hqs (by rintro rfl; obtain ⟨x, hx⟩ := HRG.out.obj; rw [g1] at hx; simp at hx)).trans g1, g2⟩
 have hn3 := (hk3.block w.heap.size (by omega) (by omega)).trans HNG.out
 have hs3 := hk3.size
 have HR3 := Lib.hid hr3
 have HK3 := Lib.hid (HKG.out.trans hk3)
 have HN3 := Lib.hid hn3
 clear hr3 hk3 hn3 hmm
 go_wp2_with (first | (at_lookup; refine wpList_beg_hit rfl _ rfl _ _ rfl r q rfl hown3 c rfl f hf ?_; unfold mvV) | fail)
 have HCC := Lib.hid (HC w3 HR3.out HK3.out)
 have hpz : w.heap.size < w3.heap.size := by omega
 clear HC
 cases o with
 | err x t' =>
  refine HCC.out.mono ?_
  intro e w5 hp
  obtain ⟨hg, hk5⟩ : ValBad r s w3 x t' e w5 := hp
  unfold Gives at hg
  subst hg
  have HK5 := Lib.hid (HK3.out.trans hk5)
  clear hk5
  go_wp2_with fail
  exact ⟨rfl, rfl, HK5.out⟩
 | ok v t' =>
  refine HCC.out.mono ?_
  intro e w5 hp
  obtain ⟨V, rfl, hJ, hr5, hk5⟩ : ValOk r s d w3 v t' e w5 := hp
  obtain ⟨k, b, n, u', s', ks, vs⟩ := v
  have hJ2 := hJ
  rw [JAt] at hJ2
  obtain ⟨a, c1, a', c2, rfl, -⟩ := hJ2
  have hs5 := hk5.size
  have hnB := heap_alloc_new w5 (.cells #[.int .u8 k, .bool b, .int .i64 n, .int .u64 u', .string s', .slice a ks.length c1, .slice a' vs.length c2] 27)
  have HBL2 := Lib.hid (blanks_any r s t' d _ (hr5.alloc (.cells #[.int .u8 k, .bool b, .int .i64 n, .int .u64 u', .string s', .slice a ks.length c1, .slice a' vs.length c2] 27)))
  have HJ := Lib.hid hJ
  have HK5 := Lib.hid hk5
  have HNB := Lib.hid hnB
  have hn5 := (hk5.block w.heap.size hpz (by omega)).trans HN3.out
  have HN5 := Lib.hid hn5
  clear hJ hr5 hk5 hnB hn5
  go_wp2_with fail
  refine HBL2.out.mono ?_
  rintro e w6 ⟨rfl, hr6, hk6⟩
  have hs6 := hk6.size
  rw [World.size_alloc] at hs6
  have hB6 := (hk6.block w5.heap.size (by simp) (by omega)).trans HNB.out
  obtain ⟨b0, b1, b2, b3, b4, b5, b6⟩ := cell_agg7 hB6
  have hp6 := ((hk6.block w.heap.size (by simp; omega) (by omega)).trans (Below.heap_alloc _ _ _ (by omega))).trans HN5.out
  obtain ⟨n0, n1, n2, n3, n4, n5, n6⟩ := cell_agg7 hp6
  have qf : ∀ j, w6.frozen? ⟨w.heap.size, j, none⟩ = false := fun j => froz_agg hp6 j
  have HR6 := Lib.hid hr6
  have HK6 := Lib.hid hk6
  have HP6 := Lib.hid hp6
  clear hr6 hk6 hB6 hp6
  go_wp2_with fail
  show bodyPost _ _ _ _ _ (set7 w6 w.heap.size (.int .u8 k) (.bool b) (.int .i64 n) (.int .u64 u') (.string s') (.slice a ks.length c1) (.slice a' vs.length c2))
  have hF := seven_set HP6.out (.int .u8 k) (.bool b) (.int .i64 n) (.int .u64 u') (.string s') (.slice a ks.length c1) (.slice a' vs.length c2)
  have hblk : ∀ j, j ≠ w.heap.size → (set7 w6 w.heap.size (.int .u8 k) (.bool b) (.int .i64 n) (.int .u64 u') (.string s') (.slice a ks.length c1) (.slice a' vs.length c2)).heap[j]? = w6.heap[j]? := fun j hj => set7_block hj ..
  have hkr := set7_kr (p := w.heap.size) (((HK3.out.trans HK5.out).alloc (.cells #[.int .u8 k, .bool b, .int .i64 n, .int .u64 u', .string s', .slice a ks.length c1, .slice a' vs.length c2] 27)).trans HK6.out) (Nat.le_refl _) (.int .u8 k) (.bool b) (.int .i64 n) (.int .u64 u') (.string s') (.slice a ks.length c1) (.slice a' vs.length c2)
  unfold set7 at hblk hkr ⊢
  generalize ((((((w6.setCell ⟨w.heap.size, 0, none⟩ (.int .u8 k)).setCell ⟨w.heap.size, 1, none⟩ (.bool b)).setCell ⟨w.heap.size, 2, none⟩ (.int .i64 n)).setCell ⟨w.heap.size, 3, none⟩ (.int .u64 u')).setCell ⟨w.heap.size, 4, none⟩ (.string s')).setCell ⟨w.heap.size, 5, none⟩ (.slice a ks.length c1)).setCell ⟨w.heap.size, 6, none⟩ (.slice a' vs.length c2) = F at *
  obtain ⟨g0, g1, g2, g3, g4, g5, g6⟩ := cell_agg7 hF
  refine bodyPost_ret (v := .agg #[.int .u8 k, .bool b, .int .i64 n, .int .u64 u', .string s', .slice a ks.length c1, .slice a' vs.length c2]) (by simp [results, Tryz.results25, go_sem, g0, g1, g2, g3, g4, g5, g6]) rfl ?_
  refine ⟨_, rfl, JAt.kept ?_ _ _ HJ.out, HR6.out.kept (hblk r (by omega)), hkr⟩
  intro j hj1 hj2
  refine ⟨?_, by omega⟩
  rw [hblk j (by omega), HK6.out.block j (by simp; omega) (by omega), Below.heap_alloc _ _ _ hj2]
theorem value_dig {o : Out JV} (r : Nat) (s : ByteArray) (t u : List UInt8) (c : UInt8) (d : Nat) (w : World) (h : Rd r s t d w) (hc : skipB t = c :: u) (hf : begF c = none) (hdg : isDgB c = true)
  (HC : ∀ W, Rd r s (c :: u) d W → KR r w W → Calls Tryz.prog 51 #[.pointer (some ⟨r, 0, none⟩)] W (ValPost r s d W o)) :
  Calls Tryz.prog 25 #[.pointer (some ⟨r, 0, none⟩)] w (ValPost r s d w o.skip) := by
 have hmf : ∀ (fn : Fn) (first cap : Array Value) (w : World), (Instr.makeFunc fn first cap).run Tryz.prog w = .ok (.func fn first cap) w := fun _ _ _ _ => rfl
 have hmm := @run_makeMap Tryz.prog
 have hrl := h.lt
 have hal := h.alloc (.cells #[.int .u8 0, .bool false, .int .i64 0, .int .u64 0, .string ⟨#[]⟩, .slice none 0 0, .slice none 0 0] 27)
 have HBLK := Lib.hid (blanks_any r s t d _ hal)
 have HKA := Lib.hid ((KR.refl r w).alloc (.cells #[.int .u8 0, .bool false, .int .i64 0, .int .u64 0, .string ⟨#[]⟩, .slice none 0 0, .slice none 0 0] 27))
 have hnew := heap_alloc_new w (.cells #[.int .u8 0, .bool false, .int .i64 0, .int .u64 0, .string ⟨#[]⟩, .slice none 0 0, .slice none 0 0] 27)
 have HN := Lib.hid hnew
 clear h hal hnew
 go_enter Tryz.func25, Tryz.ntmps25
 go_wp2_with fail
 refine HBLK.out.mono ?_
 rintro e w1 ⟨rfl, hr1, hk1⟩
 have hn1 := (hk1.block w.heap.size (by simp) (by omega)).trans HN.out
 have hs1 := hk1.size
 rw [World.size_alloc] at hs1
 have HR1 := Lib.hid hr1
 have HK1 := Lib.hid (HKA.out.trans hk1)
 have HN1 := Lib.hid hn1
 clear hr1 hk1 hn1 HKA
 have hown0 : (w1.alloc (.map #[] 0)).ownsMap Tryz.prog 5 (mvR r) w1.heap.size 0 (.map []) := World.ownsMap_made _ _ _ _
 go_wp2_with (first
  | (refine wpList_insert_own _ rfl _ _ _ 87 rfl 5 57 lawB Tryz.underlying87 (mvR r) _ 0 _ rfl hown0 (by decide) _ _ _ rfl rfl (key8 91 (by decide)) _ [] (mvR_mk r 48) ?_; intro wm1 hown1 hg1; clear hown0)
  | (refine wpList_insert_own _ rfl _ _ _ 87 rfl 5 57 lawB Tryz.underlying87 (mvR r) _ 1 _ rfl hown1 (by decide) _ _ _ rfl rfl (key8 123 (by decide)) _ [] (mvR_mk r 49) ?_; intro wm2 hown2 hg2; clear hown1)
  | (refine wpList_insert_own _ rfl _ _ _ 87 rfl 5 57 lawB Tryz.underlying87 (mvR r) _ 2 _ rfl hown2 (by decide) _ _ _ rfl rfl (key8 34 (by decide)) _ [] (mvR_mk r 50) ?_; intro wm3 hown3 hg3; clear hown2)
  | (refine wpList_insert_own _ rfl _ _ _ 87 rfl 5 57 lawB Tryz.underlying87 (mvR r) _ 3 _ rfl hown3 (by decide) _ _ _ rfl rfl (key8 45 (by decide)) _ [] (mvR_mk r 51) ?_; intro wm4 hown4 hg4; clear hown3)
  | fail)
 have hrg := (((HR1.out.alloc (.map #[] 0)).grown hg1 (by omega)).grown hg2 (by omega)).grown hg3 (by omega) |>.grown hg4 (by omega)
 have hkg := ((((HK1.out.alloc (.map #[] 0)).grown hg1 (by omega)).grown hg2 (by omega)).grown hg3 (by omega)).grown hg4 (by omega)
 have hng : wm4.heap[w.heap.size]? = w1.heap[w.heap.size]? := by
  have e1 := hg1.size
  have e2 := hg2.size
  have e3 := hg3.size
  rw [World.size_alloc] at e1
  rw [hg4.block _ (by omega) (by simp; omega), hg3.block _ (by omega) (by simp; omega), hg2.block _ (by omega) (by simp; omega), hg1.block _ (by simp; omega) (by simp; omega), Below.heap_alloc _ _ _ (by omega)]
 have hng := hng.trans HN1.out
 have hown : wm4.ownsMap Tryz.prog 5 (mvR r) w1.heap.size 4 begD := hown4
 rw [hc] at hrg
 have HPK := Lib.hid (peek_cons r s c u d wm4 hrg)
 have hqs : w1.heap.size < wm4.heap.size := hown.lt
 have HRG := Lib.hid hrg
 have HKG := Lib.hid hkg
 have HNG := Lib.hid hng
 have HOWN := Lib.hid hown
 obtain ⟨q, hq⟩ : ∃ q, q = w1.heap.size := ⟨_, rfl⟩
 rw [← hq] at HOWN hs1 hqs
 rw [← hq]
 clear hrg hkg hng hown hown4 HR1 HK1 HN1 hq
 go_wp2_with fail
 refine HPK.out.mono ?_
 rintro e w3 ⟨rfl, hr3, hk3⟩
 have hown3 : w3.ownsMap Tryz.prog 5 (mvR r) q 4 begD := by
  obtain ⟨es, clock, g1, g2⟩ := HOWN.out
  exact ⟨es, clock, (hk3.block q hqs (by rintro rfl; obtain ⟨x, hx⟩ := HRG.out.obj; rw [g1] at hx; simp at hx)).trans g1, g2⟩
 have hn3 := (hk3.block w.heap.size (by omega) (by omega)).trans HNG.out
 have hs3 := hk3.size
 have HR3 := Lib.hid hr3
 have HK3 := Lib.hid (HKG.out.trans hk3)
 have HN3 := Lib.hid hn3
 clear hr3 hk3 hn3 hmm
 have HDG := Lib.hid (digit_any c)
 rw [hdg] at HDG
 have hwx := wrap_byte c
 go_wp2_with (first | (at_lookup; refine wpList_beg_miss rfl _ rfl _ _ rfl r q rfl hown3 c rfl hf ?_) | fail)
 refine (HDG.out _).mono ?_
 rintro e w5 ⟨rfl, hw⟩
 replace hw := hw.symm
 subst hw
 go_wp2_with fail
 have HCC := Lib.hid (HC w3 HR3.out HK3.out)
 have hpz : w.heap.size < w3.heap.size := by omega
 clear HC
 cases o with
 | err x t' =>
  refine HCC.out.mono ?_
  intro e w5 hp
  obtain ⟨hg, hk5⟩ : ValBad r s w3 x t' e w5 := hp
  unfold Gives at hg
  subst hg
  have HK5 := Lib.hid (HK3.out.trans hk5)
  clear hk5
  go_wp2_with fail
  exact ⟨rfl, rfl, HK5.out⟩
 | ok v t' =>
  refine HCC.out.mono ?_
  intro e w5 hp
  obtain ⟨V, rfl, hJ, hr5, hk5⟩ : ValOk r s d w3 v t' e w5 := hp
  obtain ⟨k, b, n, u', s', ks, vs⟩ := v
  have hJ2 := hJ
  rw [JAt] at hJ2
  obtain ⟨a, c1, a', c2, rfl, -⟩ := hJ2
  have hs5 := hk5.size
  have hnB := heap_alloc_new w5 (.cells #[.int .u8 k, .bool b, .int .i64 n, .int .u64 u', .string s', .slice a ks.length c1, .slice a' vs.length c2] 27)
  have HBL2 := Lib.hid (blanks_any r s t' d _ (hr5.alloc (.cells #[.int .u8 k, .bool b, .int .i64 n, .int .u64 u', .string s', .slice a ks.length c1, .slice a' vs.length c2] 27)))
  have HJ := Lib.hid hJ
  have HK5 := Lib.hid hk5
  have HNB := Lib.hid hnB
  have hn5 := (hk5.block w.heap.size hpz (by omega)).trans HN3.out
  have HN5 := Lib.hid hn5
  clear hJ hr5 hk5 hnB hn5
  go_wp2_with fail
  refine HBL2.out.mono ?_
  rintro e w6 ⟨rfl, hr6, hk6⟩
  have hs6 := hk6.size
  rw [World.size_alloc] at hs6
  have hB6 := (hk6.block w5.heap.size (by simp) (by omega)).trans HNB.out
  obtain ⟨b0, b1, b2, b3, b4, b5, b6⟩ := cell_agg7 hB6
  have hp6 := ((hk6.block w.heap.size (by simp; omega) (by omega)).trans (Below.heap_alloc _ _ _ (by omega))).trans HN5.out
  obtain ⟨n0, n1, n2, n3, n4, n5, n6⟩ := cell_agg7 hp6
  have qf : ∀ j, w6.frozen? ⟨w.heap.size, j, none⟩ = false := fun j => froz_agg hp6 j
  have HR6 := Lib.hid hr6
  have HK6 := Lib.hid hk6
  have HP6 := Lib.hid hp6
  clear hr6 hk6 hB6 hp6
  go_wp2_with fail
  show bodyPost _ _ _ _ _ (set7 w6 w.heap.size (.int .u8 k) (.bool b) (.int .i64 n) (.int .u64 u') (.string s') (.slice a ks.length c1) (.slice a' vs.length c2))
  have hF := seven_set HP6.out (.int .u8 k) (.bool b) (.int .i64 n) (.int .u64 u') (.string s') (.slice a ks.length c1) (.slice a' vs.length c2)
  have hblk : ∀ j, j ≠ w.heap.size → (set7 w6 w.heap.size (.int .u8 k) (.bool b) (.int .i64 n) (.int .u64 u') (.string s') (.slice a ks.length c1) (.slice a' vs.length c2)).heap[j]? = w6.heap[j]? := fun j hj => set7_block hj ..
  have hkr := set7_kr (p := w.heap.size) (((HK3.out.trans HK5.out).alloc (.cells #[.int .u8 k, .bool b, .int .i64 n, .int .u64 u', .string s', .slice a ks.length c1, .slice a' vs.length c2] 27)).trans HK6.out) (Nat.le_refl _) (.int .u8 k) (.bool b) (.int .i64 n) (.int .u64 u') (.string s') (.slice a ks.length c1) (.slice a' vs.length c2)
  unfold set7 at hblk hkr ⊢
  generalize ((((((w6.setCell ⟨w.heap.size, 0, none⟩ (.int .u8 k)).setCell ⟨w.heap.size, 1, none⟩ (.bool b)).setCell ⟨w.heap.size, 2, none⟩ (.int .i64 n)).setCell ⟨w.heap.size, 3, none⟩ (.int .u64 u')).setCell ⟨w.heap.size, 4, none⟩ (.string s')).setCell ⟨w.heap.size, 5, none⟩ (.slice a ks.length c1)).setCell ⟨w.heap.size, 6, none⟩ (.slice a' vs.length c2) = F at *
  obtain ⟨g0, g1, g2, g3, g4, g5, g6⟩ := cell_agg7 hF
  refine bodyPost_ret (v := .agg #[.int .u8 k, .bool b, .int .i64 n, .int .u64 u', .string s', .slice a ks.length c1, .slice a' vs.length c2]) (by simp [results, Tryz.results25, go_sem, g0, g1, g2, g3, g4, g5, g6]) rfl ?_
  refine ⟨_, rfl, JAt.kept ?_ _ _ HJ.out, HR6.out.kept (hblk r (by omega)), hkr⟩
  intro j hj1 hj2
  refine ⟨?_, by omega⟩
  rw [hblk j (by omega), HK6.out.block j (by simp; omega) (by omega), Below.heap_alloc _ _ _ hj2]
theorem value_word {o : Out JV} (r : Nat) (s : ByteArray) (t u : List UInt8) (c : UInt8) (d : Nat) (w : World) (h : Rd r s t d w) (hc : skipB t = c :: u) (hf : begF c = none) (hdg : isDgB c = false) (hal1 : isAl c = true)
  (HC : ∀ W, Rd r s (c :: u) d W → KR r w W → Calls Tryz.prog 55 #[.pointer (some ⟨r, 0, none⟩)] W (ValPost r s d W o)) :
  Calls Tryz.prog 25 #[.pointer (some ⟨r, 0, none⟩)] w (ValPost r s d w o.skip) := by
 have hmf : ∀ (fn : Fn) (first cap : Array Value) (w : World), (Instr.makeFunc fn first cap).run Tryz.prog w = .ok (.func fn first cap) w := fun _ _ _ _ => rfl
 have hmm := @run_makeMap Tryz.prog
 have hrl := h.lt
 have hal := h.alloc (.cells #[.int .u8 0, .bool false, .int .i64 0, .int .u64 0, .string ⟨#[]⟩, .slice none 0 0, .slice none 0 0] 27)
 have HBLK := Lib.hid (blanks_any r s t d _ hal)
 have HKA := Lib.hid ((KR.refl r w).alloc (.cells #[.int .u8 0, .bool false, .int .i64 0, .int .u64 0, .string ⟨#[]⟩, .slice none 0 0, .slice none 0 0] 27))
 have hnew := heap_alloc_new w (.cells #[.int .u8 0, .bool false, .int .i64 0, .int .u64 0, .string ⟨#[]⟩, .slice none 0 0, .slice none 0 0] 27)
 have HN := Lib.hid hnew
 clear h hal hnew
 go_enter Tryz.func25, Tryz.ntmps25
 go_wp2_with fail
 refine HBLK.out.mono ?_
 rintro e w1 ⟨rfl, hr1, hk1⟩
 have hn1 := (hk1.block w.heap.size (by simp) (by omega)).trans HN.out
 have hs1 := hk1.size
 rw [World.size_alloc] at hs1
 have HR1 := Lib.hid hr1
 have HK1 := Lib.hid (HKA.out.trans hk1)
 have HN1 := Lib.hid hn1
 clear hr1 hk1 hn1 HKA
 have hown0 : (w1.alloc (.map #[] 0)).ownsMap Tryz.prog 5 (mvR r) w1.heap.size 0 (.map []) := World.ownsMap_made _ _ _ _
 go_wp2_with (first
  | (refine wpList_insert_own _ rfl _ _ _ 87 rfl 5 57 lawB Tryz.underlying87 (mvR r) _ 0 _ rfl hown0 (by decide) _ _ _ rfl rfl (key8 91 (by decide)) _ [] (mvR_mk r 48) ?_; intro wm1 hown1 hg1; clear hown0)
  | (refine wpList_insert_own _ rfl _ _ _ 87 rfl 5 57 lawB Tryz.underlying87 (mvR r) _ 1 _ rfl hown1 (by decide) _ _ _ rfl rfl (key8 123 (by decide)) _ [] (mvR_mk r 49) ?_; intro wm2 hown2 hg2; clear hown1)
  | (refine wpList_insert_own _ rfl _ _ _ 87 rfl 5 57 lawB Tryz.underlying87 (mvR r) _ 2 _ rfl hown2 (by decide) _ _ _ rfl rfl (key8 34 (by decide)) _ [] (mvR_mk r 50) ?_; intro wm3 hown3 hg3; clear hown2)
  | (refine wpList_insert_own _ rfl _ _ _ 87 rfl 5 57 lawB Tryz.underlying87 (mvR r) _ 3 _ rfl hown3 (by decide) _ _ _ rfl rfl (key8 45 (by decide)) _ [] (mvR_mk r 51) ?_; intro wm4 hown4 hg4; clear hown3)
  | fail)
 have hrg := (((HR1.out.alloc (.map #[] 0)).grown hg1 (by omega)).grown hg2 (by omega)).grown hg3 (by omega) |>.grown hg4 (by omega)
 have hkg := ((((HK1.out.alloc (.map #[] 0)).grown hg1 (by omega)).grown hg2 (by omega)).grown hg3 (by omega)).grown hg4 (by omega)
 have hng : wm4.heap[w.heap.size]? = w1.heap[w.heap.size]? := by
  have e1 := hg1.size
  have e2 := hg2.size
  have e3 := hg3.size
  rw [World.size_alloc] at e1
  rw [hg4.block _ (by omega) (by simp; omega), hg3.block _ (by omega) (by simp; omega), hg2.block _ (by omega) (by simp; omega), hg1.block _ (by simp; omega) (by simp; omega), Below.heap_alloc _ _ _ (by omega)]
 have hng := hng.trans HN1.out
 have hown : wm4.ownsMap Tryz.prog 5 (mvR r) w1.heap.size 4 begD := hown4
 rw [hc] at hrg
 have HPK := Lib.hid (peek_cons r s c u d wm4 hrg)
 have hqs : w1.heap.size < wm4.heap.size := hown.lt
 have HRG := Lib.hid hrg
 have HKG := Lib.hid hkg
 have HNG := Lib.hid hng
 have HOWN := Lib.hid hown
 obtain ⟨q, hq⟩ : ∃ q, q = w1.heap.size := ⟨_, rfl⟩
 rw [← hq] at HOWN hs1 hqs
 rw [← hq]
 clear hrg hkg hng hown hown4 HR1 HK1 HN1 hq
 go_wp2_with fail
 refine HPK.out.mono ?_
 rintro e w3 ⟨rfl, hr3, hk3⟩
 have hown3 : w3.ownsMap Tryz.prog 5 (mvR r) q 4 begD := by
  obtain ⟨es, clock, g1, g2⟩ := HOWN.out
  exact ⟨es, clock, (hk3.block q hqs (by rintro rfl; obtain ⟨x, hx⟩ := HRG.out.obj; rw [g1] at hx; simp at hx)).trans g1, g2⟩
 have hn3 := (hk3.block w.heap.size (by omega) (by omega)).trans HNG.out
 have hs3 := hk3.size
 have HR3 := Lib.hid hr3
 have HK3 := Lib.hid (HKG.out.trans hk3)
 have HN3 := Lib.hid hn3
 clear hr3 hk3 hn3 hmm
 have HDG := Lib.hid (digit_any c)
 rw [hdg] at HDG
 have HAL := Lib.hid (alphaJ_any c)
 rw [hal1] at HAL
 have hwx := wrap_byte c
 go_wp2_with (first | (at_lookup; refine wpList_beg_miss rfl _ rfl _ _ rfl r q rfl hown3 c rfl hf ?_) | fail)
 refine (HDG.out _).mono ?_
 rintro e w5 ⟨rfl, hw⟩
 replace hw := hw.symm
 subst hw
 go_wp2_with fail
 refine (HAL.out _).mono ?_
 rintro e w5 ⟨rfl, hw⟩
 replace hw := hw.symm
 subst hw
 go_wp2_with fail
 have HCC := Lib.hid (HC w3 HR3.out HK3.out)
 have hpz : w.heap.size < w3.heap.size := by omega
 clear HC
 cases o with
 | err x t' =>
  refine HCC.out.mono ?_
  intro e w5 hp
  obtain ⟨hg, hk5⟩ : ValBad r s w3 x t' e w5 := hp
  unfold Gives at hg
  subst hg
  have HK5 := Lib.hid (HK3.out.trans hk5)
  clear hk5
  go_wp2_with fail
  exact ⟨rfl, rfl, HK5.out⟩
 | ok v t' =>
  refine HCC.out.mono ?_
  intro e w5 hp
  obtain ⟨V, rfl, hJ, hr5, hk5⟩ : ValOk r s d w3 v t' e w5 := hp
  obtain ⟨k, b, n, u', s', ks, vs⟩ := v
  have hJ2 := hJ
  rw [JAt] at hJ2
  obtain ⟨a, c1, a', c2, rfl, -⟩ := hJ2
  have hs5 := hk5.size
  have hnB := heap_alloc_new w5 (.cells #[.int .u8 k, .bool b, .int .i64 n, .int .u64 u', .string s', .slice a ks.length c1, .slice a' vs.length c2] 27)
  have HBL2 := Lib.hid (blanks_any r s t' d _ (hr5.alloc (.cells #[.int .u8 k, .bool b, .int .i64 n, .int .u64 u', .string s', .slice a ks.length c1, .slice a' vs.length c2] 27)))
  have HJ := Lib.hid hJ
  have HK5 := Lib.hid hk5
  have HNB := Lib.hid hnB
  have hn5 := (hk5.block w.heap.size hpz (by omega)).trans HN3.out
  have HN5 := Lib.hid hn5
  clear hJ hr5 hk5 hnB hn5
  go_wp2_with fail
  refine HBL2.out.mono ?_
  rintro e w6 ⟨rfl, hr6, hk6⟩
  have hs6 := hk6.size
  rw [World.size_alloc] at hs6
  have hB6 := (hk6.block w5.heap.size (by simp) (by omega)).trans HNB.out
  obtain ⟨b0, b1, b2, b3, b4, b5, b6⟩ := cell_agg7 hB6
  have hp6 := ((hk6.block w.heap.size (by simp; omega) (by omega)).trans (Below.heap_alloc _ _ _ (by omega))).trans HN5.out
  obtain ⟨n0, n1, n2, n3, n4, n5, n6⟩ := cell_agg7 hp6
  have qf : ∀ j, w6.frozen? ⟨w.heap.size, j, none⟩ = false := fun j => froz_agg hp6 j
  have HR6 := Lib.hid hr6
  have HK6 := Lib.hid hk6
  have HP6 := Lib.hid hp6
  clear hr6 hk6 hB6 hp6
  go_wp2_with fail
  show bodyPost _ _ _ _ _ (set7 w6 w.heap.size (.int .u8 k) (.bool b) (.int .i64 n) (.int .u64 u') (.string s') (.slice a ks.length c1) (.slice a' vs.length c2))
  have hF := seven_set HP6.out (.int .u8 k) (.bool b) (.int .i64 n) (.int .u64 u') (.string s') (.slice a ks.length c1) (.slice a' vs.length c2)
  have hblk : ∀ j, j ≠ w.heap.size → (set7 w6 w.heap.size (.int .u8 k) (.bool b) (.int .i64 n) (.int .u64 u') (.string s') (.slice a ks.length c1) (.slice a' vs.length c2)).heap[j]? = w6.heap[j]? := fun j hj => set7_block hj ..
  have hkr := set7_kr (p := w.heap.size) (((HK3.out.trans HK5.out).alloc (.cells #[.int .u8 k, .bool b, .int .i64 n, .int .u64 u', .string s', .slice a ks.length c1, .slice a' vs.length c2] 27)).trans HK6.out) (Nat.le_refl _) (.int .u8 k) (.bool b) (.int .i64 n) (.int .u64 u') (.string s') (.slice a ks.length c1) (.slice a' vs.length c2)
  unfold set7 at hblk hkr ⊢
  generalize ((((((w6.setCell ⟨w.heap.size, 0, none⟩ (.int .u8 k)).setCell ⟨w.heap.size, 1, none⟩ (.bool b)).setCell ⟨w.heap.size, 2, none⟩ (.int .i64 n)).setCell ⟨w.heap.size, 3, none⟩ (.int .u64 u')).setCell ⟨w.heap.size, 4, none⟩ (.string s')).setCell ⟨w.heap.size, 5, none⟩ (.slice a ks.length c1)).setCell ⟨w.heap.size, 6, none⟩ (.slice a' vs.length c2) = F at *
  obtain ⟨g0, g1, g2, g3, g4, g5, g6⟩ := cell_agg7 hF
  refine bodyPost_ret (v := .agg #[.int .u8 k, .bool b, .int .i64 n, .int .u64 u', .string s', .slice a ks.length c1, .slice a' vs.length c2]) (by simp [results, Tryz.results25, go_sem, g0, g1, g2, g3, g4, g5, g6]) rfl ?_
  refine ⟨_, rfl, JAt.kept ?_ _ _ HJ.out, HR6.out.kept (hblk r (by omega)), hkr⟩
  intro j hj1 hj2
  refine ⟨?_, by omega⟩
  rw [hblk j (by omega), HK6.out.block j (by simp; omega) (by omega), Below.heap_alloc _ _ _ hj2]
theorem value_bad (r : Nat) (s : ByteArray) (t u : List UInt8) (c : UInt8) (d : Nat) (w : World) (h : Rd r s t d w) (hc : skipB t = c :: u) (hf : begF c = none) (hdg : isDgB c = false) (hal0 : isAl c = false) :
  Calls Tryz.prog 25 #[.pointer (some ⟨r, 0, none⟩)] w (ValBad r s w 160 (skipB t)) := by
 have hmf : ∀ (fn : Fn) (first cap : Array Value) (w : World), (Instr.makeFunc fn first cap).run Tryz.prog w = .ok (.func fn first cap) w := fun _ _ _ _ => rfl
 have hmm := @run_makeMap Tryz.prog
 have hrl := h.lt
 have hal := h.alloc (.cells #[.int .u8 0, .bool false, .int .i64 0, .int .u64 0, .string ⟨#[]⟩, .slice none 0 0, .slice none 0 0] 27)
 have HBLK := Lib.hid (blanks_any r s t d _ hal)
 have HKA := Lib.hid ((KR.refl r w).alloc (.cells #[.int .u8 0, .bool false, .int .i64 0, .int .u64 0, .string ⟨#[]⟩, .slice none 0 0, .slice none 0 0] 27))
 have hnew := heap_alloc_new w (.cells #[.int .u8 0, .bool false, .int .i64 0, .int .u64 0, .string ⟨#[]⟩, .slice none 0 0, .slice none 0 0] 27)
 have HN := Lib.hid hnew
 clear h hal hnew
 go_enter Tryz.func25, Tryz.ntmps25
 go_wp2_with fail
 refine HBLK.out.mono ?_
 rintro e w1 ⟨rfl, hr1, hk1⟩
 have hn1 := (hk1.block w.heap.size (by simp) (by omega)).trans HN.out
 have hs1 := hk1.size
 rw [World.size_alloc] at hs1
 have HR1 := Lib.hid hr1
 have HK1 := Lib.hid (HKA.out.trans hk1)
 have HN1 := Lib.hid hn1
 clear hr1 hk1 hn1 HKA
 have hown0 : (w1.alloc (.map #[] 0)).ownsMap Tryz.prog 5 (mvR r) w1.heap.size 0 (.map []) := World.ownsMap_made _ _ _ _
 go_wp2_with (first
  | (refine wpList_insert_own _ rfl _ _ _ 87 rfl 5 57 lawB Tryz.underlying87 (mvR r) _ 0 _ rfl hown0 (by decide) _ _ _ rfl rfl (key8 91 (by decide)) _ [] (mvR_mk r 48) ?_; intro wm1 hown1 hg1; clear hown0)
  | (refine wpList_insert_own _ rfl _ _ _ 87 rfl 5 57 lawB Tryz.underlying87 (mvR r) _ 1 _ rfl hown1 (by decide) _ _ _ rfl rfl (key8 123 (by decide)) _ [] (mvR_mk r 49) ?_; intro wm2 hown2 hg2; clear hown1)
  | (refine wpList_insert_own _ rfl _ _ _ 87 rfl 5 57 lawB Tryz.underlying87 (mvR r) _ 2 _ rfl hown2 (by decide) _ _ _ rfl rfl (key8 34 (by decide)) _ [] (mvR_mk r 50) ?_; intro wm3 hown3 hg3; clear hown2)
  | (refine wpList_insert_own _ rfl _ _ _ 87 rfl 5 57 lawB Tryz.underlying87 (mvR r) _ 3 _ rfl hown3 (by decide) _ _ _ rfl rfl (key8 45 (by decide)) _ [] (mvR_mk r 51) ?_; intro wm4 hown4 hg4; clear hown3)
  | fail)
 have hrg := (((HR1.out.alloc (.map #[] 0)).grown hg1 (by omega)).grown hg2 (by omega)).grown hg3 (by omega) |>.grown hg4 (by omega)
 have hkg := ((((HK1.out.alloc (.map #[] 0)).grown hg1 (by omega)).grown hg2 (by omega)).grown hg3 (by omega)).grown hg4 (by omega)
 have hng : wm4.heap[w.heap.size]? = w1.heap[w.heap.size]? := by
  have e1 := hg1.size
  have e2 := hg2.size
  have e3 := hg3.size
  rw [World.size_alloc] at e1
  rw [hg4.block _ (by omega) (by simp; omega), hg3.block _ (by omega) (by simp; omega), hg2.block _ (by omega) (by simp; omega), hg1.block _ (by simp; omega) (by simp; omega), Below.heap_alloc _ _ _ (by omega)]
 have hng := hng.trans HN1.out
 have hown : wm4.ownsMap Tryz.prog 5 (mvR r) w1.heap.size 4 begD := hown4
 rw [hc] at hrg
 have HPK := Lib.hid (peek_cons r s c u d wm4 hrg)
 have hqs : w1.heap.size < wm4.heap.size := hown.lt
 have HRG := Lib.hid hrg
 have HKG := Lib.hid hkg
 have HNG := Lib.hid hng
 have HOWN := Lib.hid hown
 obtain ⟨q, hq⟩ : ∃ q, q = w1.heap.size := ⟨_, rfl⟩
 rw [← hq] at HOWN hs1 hqs
 rw [← hq]
 clear hrg hkg hng hown hown4 HR1 HK1 HN1 hq
 go_wp2_with fail
 refine HPK.out.mono ?_
 rintro e w3 ⟨rfl, hr3, hk3⟩
 have hown3 : w3.ownsMap Tryz.prog 5 (mvR r) q 4 begD := by
  obtain ⟨es, clock, g1, g2⟩ := HOWN.out
  exact ⟨es, clock, (hk3.block q hqs (by rintro rfl; obtain ⟨x, hx⟩ := HRG.out.obj; rw [g1] at hx; simp at hx)).trans g1, g2⟩
 have hn3 := (hk3.block w.heap.size (by omega) (by omega)).trans HNG.out
 have hs3 := hk3.size
 have HR3 := Lib.hid hr3
 have HK3 := Lib.hid (HKG.out.trans hk3)
 have HN3 := Lib.hid hn3
 clear hr3 hk3 hn3 hmm
 obtain ⟨m, hm, cm⟩ := HR3.out.pos
 have HM := Lib.hid hm
 clear hm
 have HDG := Lib.hid (digit_any c)
 rw [hdg] at HDG
 have HAL := Lib.hid (alphaJ_any c)
 rw [hal0] at HAL
 have hwx := wrap_byte c
 go_wp2_with (first | (at_lookup; refine wpList_beg_miss rfl _ rfl _ _ rfl r q rfl hown3 c rfl hf ?_) | fail)
 refine (HDG.out _).mono ?_
 rintro e w5 ⟨rfl, hw⟩
 replace hw := hw.symm
 subst hw
 go_wp2_with fail
 refine (HAL.out _).mono ?_
 rintro e w5 ⟨rfl, hw⟩
 replace hw := hw.symm
 subst hw
 go_wp2_with fail
 go_wp2_with fail
 refine (fail_any (.pointer (some ⟨r, 0, none⟩)) m _).mono ?_
 intro e w9 hp
 obtain ⟨hg, rfl⟩ := hp
 unfold Gives at hg
 subst hg
 go_wp2_with fail
 refine ⟨rfl, ?_, HK3.out⟩
 unfold Gives
 rw [show s.size - _ = m from by have := HM.out; omega]
theorem value_nil (r : Nat) (s : ByteArray) (t : List UInt8) (d : Nat) (w : World) (h : Rd r s t d w) (hc : skipB t = []) :
  Calls Tryz.prog 25 #[.pointer (some ⟨r, 0, none⟩)] w (ValBad r s w 160 (skipB t)) := by
 have hmf : ∀ (fn : Fn) (first cap : Array Value) (w : World), (Instr.makeFunc fn first cap).run Tryz.prog w = .ok (.func fn first cap) w := fun _ _ _ _ => rfl
 have hmm := @run_makeMap Tryz.prog
 have hrl := h.lt
 have hal := h.alloc (.cells #[.int .u8 0, .bool false, .int .i64 0, .int .u64 0, .string ⟨#[]⟩, .slice none 0 0, .slice none 0 0] 27)
 have HBLK := Lib.hid (blanks_any r s t d _ hal)
 have HKA := Lib.hid ((KR.refl r w).alloc (.cells #[.int .u8 0, .bool false, .int .i64 0, .int .u64 0, .string ⟨#[]⟩, .slice none 0 0, .slice none 0 0] 27))
 have hnew := heap_alloc_new w (.cells #[.int .u8 0, .bool false, .int .i64 0, .int .u64 0, .string ⟨#[]⟩, .slice none 0 0, .slice none 0 0] 27)
 have HN := Lib.hid hnew
 clear h hal hnew
 go_enter Tryz.func25, Tryz.ntmps25
 go_wp2_with fail
 refine HBLK.out.mono ?_
 rintro e w1 ⟨rfl, hr1, hk1⟩
 have hn1 := (hk1.block w.heap.size (by simp) (by omega)).trans HN.out
 have hs1 := hk1.size
 rw [World.size_alloc] at hs1
 have HR1 := Lib.hid hr1
 have HK1 := Lib.hid (HKA.out.trans hk1)
 have HN1 := Lib.hid hn1
 clear hr1 hk1 hn1 HKA
 have hown0 : (w1.alloc (.map #[] 0)).ownsMap Tryz.prog 5 (mvR r) w1.heap.size 0 (.map []) := World.ownsMap_made _ _ _ _
 go_wp2_with (first
  | (refine wpList_insert_own _ rfl _ _ _ 87 rfl 5 57 lawB Tryz.underlying87 (mvR r) _ 0 _ rfl hown0 (by decide) _ _ _ rfl rfl (key8 91 (by decide)) _ [] (mvR_mk r 48) ?_; intro wm1 hown1 hg1; clear hown0)
  | (refine wpList_insert_own _ rfl _ _ _ 87 rfl 5 57 lawB Tryz.underlying87 (mvR r) _ 1 _ rfl hown1 (by decide) _ _ _ rfl rfl (key8 123 (by decide)) _ [] (mvR_mk r 49) ?_; intro wm2 hown2 hg2; clear hown1)
  | (refine wpList_insert_own _ rfl _ _ _ 87 rfl 5 57 lawB Tryz.underlying87 (mvR r) _ 2 _ rfl hown2 (by decide) _ _ _ rfl rfl (key8 34 (by decide)) _ [] (mvR_mk r 50) ?_; intro wm3 hown3 hg3; clear hown2)
  | (refine wpList_insert_own _ rfl _ _ _ 87 rfl 5 57 lawB Tryz.underlying87 (mvR r) _ 3 _ rfl hown3 (by decide) _ _ _ rfl rfl (key8 45 (by decide)) _ [] (mvR_mk r 51) ?_; intro wm4 hown4 hg4; clear hown3)
  | fail)
 have hrg := (((HR1.out.alloc (.map #[] 0)).grown hg1 (by omega)).grown hg2 (by omega)).grown hg3 (by omega) |>.grown hg4 (by omega)
 have hkg := ((((HK1.out.alloc (.map #[] 0)).grown hg1 (by omega)).grown hg2 (by omega)).grown hg3 (by omega)).grown hg4 (by omega)
 have hng : wm4.heap[w.heap.size]? = w1.heap[w.heap.size]? := by
  have e1 := hg1.size
  have e2 := hg2.size
  have e3 := hg3.size
  rw [World.size_alloc] at e1
  rw [hg4.block _ (by omega) (by simp; omega), hg3.block _ (by omega) (by simp; omega), hg2.block _ (by omega) (by simp; omega), hg1.block _ (by simp; omega) (by simp; omega), Below.heap_alloc _ _ _ (by omega)]
 have hng := hng.trans HN1.out
 have hown : wm4.ownsMap Tryz.prog 5 (mvR r) w1.heap.size 4 begD := hown4
 rw [hc] at hrg
 have HPK := Lib.hid (peek_nil r s d wm4 hrg)
 have hqs : w1.heap.size < wm4.heap.size := hown.lt
 have HRG := Lib.hid hrg
 have HKG := Lib.hid hkg
 have HNG := Lib.hid hng
 have HOWN := Lib.hid hown
 obtain ⟨q, hq⟩ : ∃ q, q = w1.heap.size := ⟨_, rfl⟩
 rw [← hq] at HOWN hs1 hqs
 rw [← hq]
 clear hrg hkg hng hown hown4 HR1 HK1 HN1 hq
 go_wp2_with fail
 refine HPK.out.mono ?_
 rintro e w3 ⟨rfl, hr3, hk3⟩
 have hown3 : w3.ownsMap Tryz.prog 5 (mvR r) q 4 begD := by
  obtain ⟨es, clock, g1, g2⟩ := HOWN.out
  exact ⟨es, clock, (hk3.block q hqs (by rintro rfl; obtain ⟨x, hx⟩ := HRG.out.obj; rw [g1] at hx; simp at hx)).trans g1, g2⟩
 have hn3 := (hk3.block w.heap.size (by omega) (by omega)).trans HNG.out
 have hs3 := hk3.size
 have HR3 := Lib.hid hr3
 have HK3 := Lib.hid (HKG.out.trans hk3)
 have HN3 := Lib.hid hn3
 clear hr3 hk3 hn3 hmm
 obtain ⟨m, hm, cm⟩ := HR3.out.pos
 have HM := Lib.hid hm
 clear hm
 have HDG : Hid (∀ W : World, Calls Tryz.prog 53 #[.int .i32 0] W fun e W' => e = .returned (.bool false) ∧ W' = W) := Lib.hid (fun W => digit_any 0 W)
 have HAL : Hid (∀ W : World, Calls Tryz.prog 54 #[.int .i32 0] W fun e W' => e = .returned (.bool false) ∧ W' = W) := Lib.hid (fun W => alphaJ_any 0 W)
 go_wp2_with (first | (at_lookup; refine wpList_beg_miss rfl _ rfl _ _ rfl r q rfl hown3 0 rfl (by decide) ?_) | fail)
 refine (HDG.out _).mono ?_
 rintro e w5 ⟨rfl, hw⟩
 replace hw := hw.symm
 subst hw
 go_wp2_with fail
 refine (HAL.out _).mono ?_
 rintro e w5 ⟨rfl, hw⟩
 replace hw := hw.symm
 subst hw
 go_wp2_with fail
 go_wp2_with fail
 refine (fail_any (.pointer (some ⟨r, 0, none⟩)) m _).mono ?_
 intro e w9 hp
 obtain ⟨hg, rfl⟩ := hp
 unfold Gives at hg
 subst hg
 go_wp2_with fail
 refine ⟨rfl, ?_, HK3.out⟩
 unfold Gives
 rw [show s.size - _ = m from by have := HM.out; omega]
end Go.Proofs.YtckaoeloofbklaaGreatDoor
namespace Go.Proofs.YtckaoeloofbklaaGreatDoor
open Go Go.RowKit Go.Lib
def c7 : Value → List Value
 | .agg a => a.toList
 | _ => []
def JAll (ok : Nat → Prop) (w : World) : List JV → List Value → Prop
 | [], [] => True
 | v :: l, V :: Vs => (JAt ok w v V ∧ ∃ x0 x1 x2 x3 x4 x5 x6, V = .agg #[x0, x1, x2, x3, x4, x5, x6]) ∧ JAll ok w l Vs
 | _, _ => False
theorem JAll.len {ok : Nat → Prop} {w : World} : ∀ {l : List JV} {Vs : List Value}, JAll ok w l Vs → Vs.length = l.length
 | [], [], _ => rfl
 | v :: l, V :: Vs, h => by
  have := JAll.len h.2
  simp [this]
 | [], _ :: _, h => h.elim
 | _ :: _, [], h => h.elim
theorem JAll.kept {ok ok' : Nat → Prop} {w w' : World} (hk : ∀ b, ok b → b < w.heap.size → w'.heap[b]? = w.heap[b]? ∧ ok' b) : ∀ {l : List JV} {Vs : List Value}, JAll ok w l Vs → JAll ok' w' l Vs
 | [], [], _ => trivial
 | v :: _l, V :: _Vs, h => ⟨⟨JAt.kept hk v V h.1.1, h.1.2⟩, JAll.kept hk h.2⟩
 | [], _ :: _, h => h.elim
 | _ :: _, [], h => h.elim
theorem JAll.snoc {ok : Nat → Prop} {w : World} {v : JV} {V : Value} (hV : JAt ok w v V) : ∀ {l : List JV} {Vs : List Value}, JAll ok w l Vs → JAll ok w (l ++ [v]) (Vs ++ [V])
 | [], [], _ => by
  obtain ⟨k, b, n, u, s, ks, vs⟩ := v
  refine ⟨⟨hV, ?_⟩, trivial⟩
  rw [JAt] at hV
  obtain ⟨a, c, a', c', h, -⟩ := hV
  exact ⟨_, _, _, _, _, _, _, h⟩
 | _ :: _, _ :: _, h => ⟨h.1, JAll.snoc hV h.2⟩
 | [], _ :: _, h => h.elim
 | _ :: _, [], h => h.elim
structure LS (r : Nat) (s : ByteArray) (d b rb : Nat) (w0 : World) (k : Int) (slk : Value) (ks : List ByteArray) (t : List UInt8) (slb slr : Value) (n : Nat) (xs : List Value) (l : List JV) (Vs : List Value) (W : World) : Prop where
 rd : Rd r s t d W
 kr : KR r w0 W
 r0 : r < w0.heap.size
 b0 : w0.heap.size ≤ b
 rb0 : rb ≠ r
 box : W.heap[b]? = some (.cells #[.int .u8 k, .bool false, .int .i64 0, .int .u64 0, .string ⟨#[]⟩, slk, slb] 27 (0, 0))
 rbx : W.heap[rb]? = some (.cells #[.pointer (some ⟨r, 0, none⟩)] 54 (0, 0))
 row : W.ownsRow w0.heap.size 27 7 slr n xs
 ne : slr.ownBlock ≠ some b
 keys : W.ownsRow w0.heap.size 9 1 slk ks.length (ks.map Value.string)
 its : JAll (fun j => w0.heap.size ≤ j ∧ j ≠ b ∧ slr.ownBlock ≠ some j ∧ slk.ownBlock ≠ some j) W l Vs
theorem row_blk {W : World} {B : Nat} {e : TypeId} {z n : Nat} {v : Value} {xs : List Value} (h : W.ownsRow B e z v n xs) {g : Nat} (hg : v.ownBlock = some g) : B ≤ g ∧ g < W.heap.size ∧ ∃ c, W.heap[g]? = some (.cells c e (0, 0)) := by
 rcases h.2 with ⟨rfl, _⟩ | ⟨g', cap, cur, rfl, h1, h2, _⟩
 ·cases hg
 ·have : g' = g := by simpa [Value.ownBlock] using hg
  subst this
  exact ⟨h1, (Array.getElem?_eq_some_iff.1 h2).1, cur, h2⟩
theorem row_kept {W W' : World} {B : Nat} {e : TypeId} {z n : Nat} {v : Value} {xs : List Value} (h : W.ownsRow B e z v n xs) (hk : ∀ g, v.ownBlock = some g → W'.heap[g]? = W.heap[g]?) : W'.ownsRow B e z v n xs := by
 refine ⟨h.1, ?_⟩
 rcases h.2 with h | ⟨g', cap, cur, h0, h1, h2, h3⟩
 ·exact .inl h
 ·exact .inr ⟨g', cap, cur, h0, h1, (hk g' (by rw [h0]; rfl)).trans h2, h3⟩
section
variable {r : Nat} {s : ByteArray} {d b rb : Nat} {w0 : World} {k : Int} {slk : Value} {ks : List ByteArray} {t : List UInt8} {slb slr : Value} {n : Nat} {xs : List Value} {l : List JV} {Vs : List Value} {W : World}
theorem LS.go {t' : List UInt8} {W' : World} (h : LS r s d b rb w0 k slk ks t slb slr n xs l Vs W) (hk : KR r W W') (hr : Rd r s t' d W') : LS r s d b rb w0 k slk ks t' slb slr n xs l Vs W' := by
 have hr0 := h.r0
 have hb0 := h.b0
 have hrb0 := h.rb0
 have hws := h.kr.size
 refine ⟨hr, h.kr.trans hk, h.r0, h.b0, h.rb0, (hk.block b (Array.getElem?_eq_some_iff.1 h.box).1 (by omega)).trans h.box, (hk.block rb (Array.getElem?_eq_some_iff.1 h.rbx).1 (by omega)).trans h.rbx, row_kept h.row fun g hg => ?_, h.ne, row_kept h.keys fun g hg => ?_, h.its.kept fun j hj hj2 => ⟨hk.block j hj2 (by omega), hj⟩⟩
 ·obtain ⟨g1, g2, -⟩ := row_blk h.row hg
  exact hk.block g g2 (by omega)
 ·obtain ⟨g1, g2, -⟩ := row_blk h.keys hg
  exact hk.block g g2 (by omega)
theorem LS.below {W' : World} (h : LS r s d b rb w0 k slk ks t slb slr n xs l Vs W) (hb : Below W.heap.size W W') : LS r s d b rb w0 k slk ks t slb slr n xs l Vs W' := h.go (KR.of hb) (h.rd.below hb)
theorem LS.read {t' : List UInt8} {W' : World} {v : JV} {V : Value} (h : LS r s d b rb w0 k slk ks t slb slr n xs l Vs W) (hk : KR r W W') (hr : Rd r s t' d W') (hV : JAt (fun j => W.heap.size ≤ j) W' v V) : LS r s d b rb w0 k slk ks t' slb slr n xs (l ++ [v]) (Vs ++ [V]) W' := by
 have h2 := h.go hk hr
 refine { h2 with its := JAll.snoc ?_ h2.its }
 refine JAt.kept ?_ v V hV
 intro j hj _
 have hws := h.kr.size
 refine ⟨rfl, by omega, ?_, ?_, ?_⟩
 ·have := (Array.getElem?_eq_some_iff.1 h.box).1; omega
 ·intro e
  have := (row_blk h.row e).2.1; omega
 ·intro e
  have := (row_blk h.keys e).2.1; omega
theorem LS.app {W' : World} {sl' : Value} {n' : Nat} {xs' : List Value} (h : LS r s d b rb w0 k slk ks t slb slr n xs l Vs W) (hrow : W'.ownsRow w0.heap.size 27 7 sl' n' xs') (hg : W.grownBy W' slr.ownBlock) (hat : ∀ g, sl'.ownBlock = some g → slr.ownBlock = some g ∨ W.heap.size ≤ g) : LS r s d b rb w0 k slk ks t slb sl' n' xs' l Vs W' := by
 have hr0 := h.r0
 have hws := h.kr.size
 have hkeep : ∀ (j : Nat) (c : Array Value) (T : TypeId), W.heap[j]? = some (.cells c T (0, 0)) → T ≠ 27 → W'.heap[j]? = W.heap[j]? := fun j c T hj hT => hg.block j (Array.getElem?_eq_some_iff.1 hj).1 (fun e => by
  obtain ⟨_, _, c', hc⟩ := row_blk h.row e.symm
  rw [hj] at hc; injection hc with hc; injection hc with _ hc; exact hT hc)
 refine ⟨h.rd.kept (hkeep r _ _ h.rd.at_ (by decide)), ?_, h.r0, h.b0, h.rb0, (hg.block b (Array.getElem?_eq_some_iff.1 h.box).1 (fun e => h.ne e.symm)).trans h.box, (hkeep rb _ _ h.rbx (by decide)).trans h.rbx, hrow, ?_, row_kept h.keys fun g hgk => ?_, h.its.kept fun j hj hj2 => ⟨hg.block j hj2 (fun e => hj.2.2.1 e.symm), hj.1, hj.2.1, ?_, hj.2.2.2⟩⟩
 ·exact ⟨hg.os.trans h.kr.os, hg.tape.trans h.kr.tape, hg.output.trans h.kr.output, Nat.le_trans h.kr.size hg.size, fun j hj hjr => (hg.block j (by omega) (fun e => by have := (row_blk h.row e.symm).1; omega)).trans (h.kr.block j hj hjr)⟩
 ·intro e
  rcases hat b e with e2 | e2
  ·exact h.ne e2
  ·have := (Array.getElem?_eq_some_iff.1 h.box).1; omega
 ·obtain ⟨_, _, c, hc⟩ := row_blk h.keys hgk
  exact hkeep g c _ hc (by decide)
 ·intro e
  rcases hat j e with e2 | e2
  ·exact hj.2.2.1 e2
  ·omega
theorem LS.put (h : LS r s d b rb w0 k slk ks t slb slr n xs l Vs W) (u : Value) : LS r s d b rb w0 k slk ks t u slr n xs l Vs (W.setCell ⟨b, 6, none⟩ u) := by
 have hr0 := h.r0
 have hb0 := h.b0
 have hne : ∀ j, j ≠ b → (W.setCell ⟨b, 6, none⟩ u).heap[j]? = W.heap[j]? := fun j hj => Below.heap_setCell _ _ _ _ hj
 refine ⟨h.rd.kept (hne r (by omega)), h.kr.setNew _ _ h.b0, h.r0, h.b0, h.rb0, ?_, (hne rb ?_).trans h.rbx, row_kept h.row fun g hg => hne g (fun e => h.ne (by rw [hg, e])), h.ne, row_kept h.keys fun g hg => hne g ?_, h.its.kept fun j hj hj2 => ⟨hne j hj.2.1, hj⟩⟩
 ·have := setCellJ (j := 6) h.box u
  simpa using this
 ·rintro rfl
  have := h.box.symm.trans h.rbx
  simp at this
 ·rintro rfl
  obtain ⟨_, _, c, hc⟩ := row_blk h.keys hg
  have := h.box.symm.trans hc
  simp at this
end
end Go.Proofs.YtckaoeloofbklaaGreatDoor
