/- Joined texts: Jq Ok Ol Oi Sa. Each begins with its own remark. -/
import Derived.Test.YtckaoeloofbklaaGreatDoorWm
import Derived.Test.YtckaoeloofbklaaGreatDoorWj
import Derived.Deep.DeepAppendWide
import Derived.Test.YtckaoeloofbklaaGreatDoorWe
import Derived.Deep.Cut
import Derived.Test.YtckaoeloofbklaaGreatDoorProg
import Derived.Below
set_option maxRecDepth 100000
set_option maxHeartbeats 16000000
namespace Go.Proofs.YtckaoeloofbklaaGreatDoor
open Go Go.RowKit Go.Lib
theorem ent_list1 : ∀ args w, (callFunc 74 args).run Tryz.prog w = .ok (.enter 74 args) w := enters_of Tryz.func74 (by kernel_rfl) rfl
theorem ent_rec1 : ∀ args w, (callFunc 75 args).run Tryz.prog w = .ok (.enter 75 args) w := enters_of Tryz.func75 (by kernel_rfl) rfl
theorem it_of {ok : Nat → Prop} {w : World} {g : Nat} : ∀ (l : List JV) (Vs : List Value) (off : Nat), JAll ok w l Vs → (∀ i u, (Vs.flatMap c7)[i]? = some u → w.cell? ⟨g, off + i, none⟩ = some u) → ItAt ok w g off l
 | [], _, _, _, _ => by rw [ItAt]; trivial
 | v :: l, [], _, h, _ => h.elim
 | v :: l, V :: Vs, off, h, hc => by
  obtain ⟨⟨hV, x0, x1, x2, x3, x4, x5, x6, rfl⟩, h2⟩ := h
  rw [ItAt]
  have hc' : ∀ i u, ([x0, x1, x2, x3, x4, x5, x6] ++ Vs.flatMap c7)[i]? = some u → w.cell? ⟨g, off + i, none⟩ = some u := fun i u hu => hc i u (by rw [List.flatMap_cons]; exact hu)
  refine ⟨⟨_, ⟨x0, x1, x2, x3, x4, x5, x6, rfl, hc' 0 _ rfl, hc' 1 _ rfl, hc' 2 _ rfl, hc' 3 _ rfl, hc' 4 _ rfl, hc' 5 _ rfl, hc' 6 _ rfl⟩, hV⟩, it_of l Vs (off + 7) h2 fun i u hu => ?_⟩
  have := hc' (7 + i) u (by rw [List.getElem?_append_right (by simp)]; simpa using hu)
  rwa [show off + (7 + i) = off + 7 + i by omega] at this
section
variable {r : Nat} {s : ByteArray} {d b rb : Nat} {w0 : World} {k : Int} {slk : Value} {ks : List ByteArray} {t : List UInt8} {slb slr : Value} {n : Nat} {xs : List Value} {l : List JV} {Vs : List Value} {W W' : World}
theorem LS.god {t' : List UInt8} {d' : Nat} (h : LS r s d b rb w0 k slk ks t slb slr n xs l Vs W) (hk : KR r W W') (hr : Rd r s t' d' W') : LS r s d' b rb w0 k slk ks t' slb slr n xs l Vs W' := by
 have hr0 := h.r0
 have hb0 := h.b0
 have hrb0 := h.rb0
 have hws := h.kr.size
 refine ⟨hr, h.kr.trans hk, h.r0, h.b0, h.rb0, (hk.block b (Array.getElem?_eq_some_iff.1 h.box).1 (by omega)).trans h.box, (hk.block rb (Array.getElem?_eq_some_iff.1 h.rbx).1 (by omega)).trans h.rbx, row_kept h.row fun g hg => ?_, h.ne, row_kept h.keys fun g hg => ?_, h.its.kept fun j hj hj2 => ⟨hk.block j hj2 (by omega), hj⟩⟩
 ·obtain ⟨g1, g2, -⟩ := row_blk h.row hg
  exact hk.block g g2 (by omega)
 ·obtain ⟨g1, g2, -⟩ := row_blk h.keys hg
  exact hk.block g g2 (by omega)
theorem LS.out {sl : Value} (h : LS r s d b rb w0 k slk ks t sl sl l.length (Vs.flatMap c7) l Vs W) {n0 : Nat} (hw : n0 ≤ w0.heap.size) (hkeep : ∀ j, w0.heap.size ≤ j → j < W.heap.size → W'.heap[j]? = W.heap[j]?) (hl1 : ks.length ≤ 35184372080000) (hl2 : l.length ≤ 35184372080000) :
  JAt (fun j => n0 ≤ j) W' (.mk k false 0 0 ⟨#[]⟩ ks l) (.agg #[.int .u8 k, .bool false, .int .i64 0, .int .u64 0, .string ⟨#[]⟩, slk, sl]) := by
 rw [JAt]
 have hblk : ∀ j, w0.heap.size ≤ j → j < W.heap.size → j < W'.heap.size := fun j h1 h2 => (Array.getElem?_eq_some_iff.1 ((hkeep j h1 h2).trans (Array.getElem?_eq_getElem h2))).1
 have hK : ∃ a c, slk = .slice a ks.length c ∧ StrsAt (fun j => n0 ≤ j) W' a ks := by
  rcases h.keys.2 with ⟨h1, h2⟩ | ⟨g, cap, cur, h1, _⟩
  ·exact ⟨none, 0, by rw [h1, h2], .inl (List.length_eq_zero_iff.1 h2)⟩
  ·refine ⟨some ⟨g, 0, none⟩, cap, h1, ?_⟩
   obtain ⟨hg1, hg2, -⟩ := row_blk h.keys (g := g) (by rw [h1]; rfl)
   by_cases hks : ks = []
   ·exact .inl hks
   ·refine .inr ⟨g, 0, rfl, by omega, hblk g hg1 hg2, fun j x hj => ?_⟩
    have := h.keys.cells (g := g) (by rw [h1]; rfl) j (.string x) (by simp [List.getElem?_map, hj])
    have hadd : (⟨g, 0, none⟩ : Addr).add j = ⟨g, 0 + j, none⟩ := by unfold Addr.add; split <;> simp_all
    rw [hadd] at this
    rw [World.cell?_of_block (hkeep g hg1 hg2)]
    exact this
 have hI : ∃ a c, sl = .slice a l.length c ∧ (l = [] ∨ ∃ q off, a = some ⟨q, off, none⟩ ∧ n0 ≤ q ∧ q < W'.heap.size ∧ ItAt (fun j => n0 ≤ j) W' q off l) := by
  rcases h.row.2 with ⟨h1, h2⟩ | ⟨g, cap, cur, h1, _⟩
  ·exact ⟨none, 0, by rw [h1, h2], .inl (List.length_eq_zero_iff.1 h2)⟩
  ·obtain ⟨hg1, hg2, -⟩ := row_blk h.row (g := g) (by rw [h1]; rfl)
   refine ⟨some ⟨g, 0, none⟩, cap, h1, .inr ⟨g, 0, rfl, by omega, hblk g hg1 hg2, it_of l Vs 0 (h.its.kept fun j hj hj2 => ⟨hkeep j hj.1 hj2, by omega⟩) fun i u hu => ?_⟩⟩
   have := h.row.cells (g := g) (by rw [h1]; rfl) i u hu
   have hadd : (⟨g, 0, none⟩ : Addr).add i = ⟨g, 0 + i, none⟩ := by unfold Addr.add; split <;> simp_all
   rw [hadd] at this
   rw [World.cell?_of_block (hkeep g hg1 hg2)]
   exact this
 obtain ⟨a, c, e1, h1⟩ := hK
 obtain ⟨a', c', e2, h2⟩ := hI
 exact ⟨a, c, a', c', by rw [e1, e2], h1, h2, hl1, hl2⟩
end
def InvL (r : Nat) (s : ByteArray) (d b rb : Nat) (w0 : World) (l : List JV) (t : List UInt8) (W : World) : Prop :=
 l.length + t.length ≤ s.size ∧ ∃ sl Vs, LS r s (d + 1) b rb w0 6 (.slice none 0 0) [] t sl sl l.length (Vs.flatMap c7) l Vs W
def InvR (r : Nat) (s : ByteArray) (d b rb : Nat) (w0 : World) (x : List ByteArray × List JV) (t : List UInt8) (W : World) : Prop :=
 x.1.length + t.length ≤ s.size ∧ x.2.length + t.length ≤ s.size ∧ ∃ slk sl Vs, LS r s (d + 1) b rb w0 7 slk x.1 t sl sl x.2.length (Vs.flatMap c7) x.2 Vs W
theorem invL_ok (r : Nat) (s : ByteArray) (d b rb : Nat) (w0 : World) : InvOK (InvL r s d b rb w0) r s d w0 :=
 ⟨fun _ _ _ ⟨_, _, _, h⟩ => h.rd, fun _ _ _ ⟨_, _, _, h⟩ => h.kr, fun _ _ _ _ _ ⟨h0, _, _, h⟩ ht hk hr => ⟨by omega, _, _, h.go hk hr⟩⟩
theorem invR_ok (r : Nat) (s : ByteArray) (d b rb : Nat) (w0 : World) : InvOK (InvR r s d b rb w0) r s d w0 :=
 ⟨fun _ _ _ ⟨_, _, _, _, _, h⟩ => h.rd, fun _ _ _ ⟨_, _, _, _, _, h⟩ => h.kr, fun _ _ _ _ _ ⟨h0, h1, _, _, _, h⟩ ht hk hr => ⟨by omega, by omega, _, _, _, h.go hk hr⟩⟩
theorem row_form {W : World} {B : Nat} {e : TypeId} {z n : Nat} {v : Value} {xs : List Value} (h : W.ownsRow B e z v n xs) : ∃ ao cap, v = .slice ao n cap := by
 rcases h.2 with ⟨h1, h2⟩ | ⟨g, cap, cur, h1, _⟩
 ·exact ⟨_, _, by rw [h2]; exact h1⟩
 ·exact ⟨_, _, h1⟩
theorem ls_init {r : Nat} {s : ByteArray} {t : List UInt8} {d rb : Nat} {W0 : World} (k : Int) (h : Rd r s t d W0) (hrb : W0.heap[rb]? = some (.cells #[.pointer (some ⟨r, 0, none⟩)] 54 (0, 0))) (hne : rb ≠ r) :
  LS r s d W0.heap.size rb W0 k (.slice none 0 0) [] t (.slice none 0 0) (.slice none 0 0) 0 [] [] [] (W0.alloc (.cells #[.int .u8 k, .bool false, .int .i64 0, .int .u64 0, .string ⟨#[]⟩, .slice none 0 0, .slice none 0 0] 27)) :=
 ⟨h.alloc _, (KR.refl r W0).alloc _, h.lt, Nat.le_refl _, hne, heap_alloc_new W0 _, (heapJ_old W0 _ rb (Array.getElem?_eq_some_iff.1 hrb).1).trans hrb, ⟨rfl, .inl ⟨rfl, rfl⟩⟩, by simp [Value.ownBlock], ⟨rfl, .inl ⟨rfl, rfl⟩⟩, trivial⟩
theorem two_blocks {r : Nat} {s : ByteArray} {t : List UInt8} {d : Nat} {w : World} (h : Rd r s t d w) (o : Obj) :
  Rd r s t d ((w.alloc (.cells #[.pointer (some ⟨r, 0, none⟩)] 54)).alloc o) ∧ KR r w ((w.alloc (.cells #[.pointer (some ⟨r, 0, none⟩)] 54)).alloc o) ∧ ((w.alloc (.cells #[.pointer (some ⟨r, 0, none⟩)] 54)).alloc o).heap.size = w.heap.size + 1 + 1 ∧
  ((w.alloc (.cells #[.pointer (some ⟨r, 0, none⟩)] 54)).alloc o).heap[w.heap.size]? = some (.cells #[.pointer (some ⟨r, 0, none⟩)] 54 (0, 0)) := by
 refine ⟨(h.alloc _).alloc _, ((KR.refl r w).alloc _).alloc _, by simp, ?_⟩
 rw [heapJ_old _ _ _ (by simp)]
 exact heap_alloc_new _ _
theorem rec1_twice (r : Nat) (s : ByteArray) (d b rb : Nat) (w0 : World) (t t1 x t2 : List UInt8) (slk : Value) (ks : List ByteArray) (sl : Value) (l : List JV) (Vs : List Value) (w : World) (h : LS r s d b rb w0 7 slk ks t sl sl l.length (Vs.flatMap c7) l Vs w) (hks : (ks.length + 1) * 16 ≤ 140737488355328) (h17 : 17 ≤ r) (hT : Lib.Utf8Tabs 0 1 w0)
  (e1 : skipB t = 34 :: t1) (e2 : Str decB8 enc t1 x t2) (e3 : ⟨x.toArray⟩ ∈ ks) :
  Calls Tryz.prog 75 #[.pointer (some ⟨rb, 0, none⟩), .pointer (some ⟨b, 0, none⟩)] w fun e w' => Gives 162 (s.size - (skipB t).length) e ∧ KR r w0 w' := by
 obtain ⟨ka, kc, hk⟩ : ∃ ao cap, slk = .slice ao ks.length cap := by
  rcases h.keys.2 with ⟨h1, h2⟩ | ⟨g, cap, cur, h1, _⟩
  ·exact ⟨_, _, by rw [h2]; exact h1⟩
  ·exact ⟨_, _, h1⟩
 subst hk
 have HL := Lib.hid h
 have HB := Lib.hid (blanks_any r s t d w h.rd)
 have crb : w.cell? ⟨rb, 0, none⟩ = some (.pointer (some ⟨r, 0, none⟩)) := by have := h.rbx; rw [cell_of_row _ _ 0 _ _ _ this]; rfl
 clear h
 unfold Gives wrongV
 rw [e1]
 go_enter Tryz.func75, Tryz.ntmps75
 go_wp2_with fail
 refine HB.out.mono ?_
 rintro e wb ⟨rfl, hr1, hk1⟩
 rw [e1] at hr1
 have h1 := HL.out.go hk1 hr1
 have HL1 := Lib.hid h1
 clear HB HL crb
 have crb : wb.cell? ⟨rb, 0, none⟩ = some (.pointer (some ⟨r, 0, none⟩)) := by have := h1.rbx; rw [cell_of_row _ _ 0 _ _ _ this]; rfl
 obtain ⟨m, -, hmm, -, cm⟩ := h1.rd.head
 have HQ := Lib.hid (quoted_any r s t1 x t2 d wb h1.rd h17 (utabs_kept hT (h1.kr.low' h17 (by have := h1.r0; omega))) e2)
 clear h1 hr1 hk1
 go_wp2_with fail
 refine HQ.out.mono ?_
 rintro e wq ⟨rfl, hr2, hk2⟩
 have h2 := HL1.out.go hk2 hr2
 have HL2 := Lib.hid h2
 clear HQ HL1 crb cm
 have HH := Lib.hid (h2.has (by omega) ⟨x.toArray⟩)
 have hno : Lib.containsS ks ⟨x.toArray⟩ = true := by rw [Lib.containsS_iff]; exact e3
 have ck : wq.cell? ⟨b, 5, none⟩ = some (.slice ka ks.length kc) := by have := h2.box; rw [cell_of_row _ _ 5 _ _ _ this]; rfl
 clear h2 hr2 hk2
 go_wp2_with fail
 refine HH.out.mono ?_
 rintro e wh ⟨rfl, hw⟩
 subst hw
 rw [hno]
 have hpos : s.size - (t1.length + 1) = m := by omega
 go_wp2_with fail
 exact ⟨rfl, by rw [hpos], HL2.out.kr⟩
theorem str_len {t out t' : List UInt8} (h : Str decB8 enc t out t') : t'.length ≤ t.length := by
 induction h with
 | last => simp; omega
 | esc _ he _ ih =>
  have := (esc_len he).2.1
  simp; omega
theorem skip_len (t : List UInt8) : (skipB t).length ≤ t.length := (List.dropWhile_suffix _).length_le
theorem one_list (P : List UInt8 → Out JV → Prop) (hP : ∀ t v t', P t (.ok v t') → t'.length < t.length) (r : Nat) (s : ByteArray) (d b rb : Nat) (hs40 : (s.size + 1) * 88 ≤ 140737488355328) (w0 : World)
  (HC : ∀ W t o, KR r w0 W → Rd r s t (d + 1) W → P t o → Calls Tryz.prog 25 #[.pointer (some ⟨r, 0, none⟩)] W (ValPost r s (d + 1) W o)) (st : (List JV)) (t : List UInt8) (o : Out (List JV)) (W : World) (hv : InvL r s d b rb w0 st t W) (ho : OneL P st t o) :
  Calls Tryz.prog 74 #[.pointer (some ⟨b, 0, none⟩), .pointer (some ⟨rb, 0, none⟩)] W (OnePost (InvL r s d b rb w0) r s w0 o) := by
 obtain ⟨h0, sl, Vs, hls⟩ := hv
 cases ho with
 | ok hp =>
  have := hP _ _ _ hp
  refine (list1_any r s (d + 1) b rb w0 t sl st Vs _ W hls (by omega) (fun W hk hr => HC W t _ hk hr hp)).mono ?_
  rintro e w' ⟨rfl, sl', Vs', h2⟩
  exact ⟨rfl, by simp; omega, _, _, h2⟩
 | err hp =>
  refine (list1_any r s (d + 1) b rb w0 t sl st Vs _ W hls (by omega) (fun W hk hr => HC W t _ hk hr hp)).mono ?_
  rintro e w' ⟨h1, h2⟩
  exact ⟨h1, h2⟩
theorem list_yes (P : List UInt8 → Out JV → Prop) (hP : ∀ t v t', P t (.ok v t') → t'.length < t.length) (r : Nat) (s : ByteArray) (d : Nat) (hd : d < 64) (hs40 : (s.size + 1) * 88 ≤ 140737488355328) (t : List UInt8) (w : World) (h : Rd r s (91 :: t) d w)
  (HC : ∀ W t o, KR r w W → Rd r s t (d + 1) W → P t o → Calls Tryz.prog 25 #[.pointer (some ⟨r, 0, none⟩)] W (ValPost r s (d + 1) W o)) (o : Out (List JV)) (ho : Sev0 93 (OneL P) [] (skipB t) o) :
  Calls Tryz.prog 48 #[.pointer (some ⟨r, 0, none⟩)] w (ValPost r s d w (o.map jList)) := by
 have hrl := h.lt
 have hlen := h.len
 have hbig := h.big
 obtain ⟨h0, k0, s0, n0⟩ := two_blocks h (.cells #[.int .u8 0, .bool false, .int .i64 0, .int .u64 0, .string ⟨#[]⟩, .slice none 0 0, .slice none 0 0] 27)
 have q0 : ((w.alloc (.cells #[.pointer (some ⟨r, 0, none⟩)] 54)).alloc (.cells #[.int .u8 0, .bool false, .int .i64 0, .int .u64 0, .string ⟨#[]⟩, .slice none 0 0, .slice none 0 0] 27)).heap[w.heap.size + 1]? = some (.cells #[.int .u8 0, .bool false, .int .i64 0, .int .u64 0, .string ⟨#[]⟩, .slice none 0 0, .slice none 0 0] 27 (0, 0)) := by
  have := heap_alloc_new (w.alloc (.cells #[.pointer (some ⟨r, 0, none⟩)] 54)) (.cells #[.int .u8 0, .bool false, .int .i64 0, .int .u64 0, .string ⟨#[]⟩, .slice none 0 0, .slice none 0 0] 27)
  simpa using this
 have hin := ls_init (t := 91 :: t) 6 h0 n0 (by omega)
 have HIN := Lib.hid hin
 have HK0 := Lib.hid k0
 have HQ0 := Lib.hid q0
 have HC := Lib.hid HC
 have HO := Lib.hid ho
 clear h h0 n0 k0 q0 ho hin
 go_enter Tryz.func48, Tryz.ntmps48
 go_upto_region 2 with fail
 generalize (w.alloc (.cells #[.pointer (some ⟨r, 0, none⟩)] 54)).alloc (.cells #[.int .u8 0, .bool false, .int .i64 0, .int .u64 0, .string ⟨#[]⟩, .slice none 0 0, .slice none 0 0] 27) = W0 at *
 have crb : (W0.alloc (.cells #[.int .u8 6, .bool false, .int .i64 0, .int .u64 0, .string ⟨#[]⟩, .slice none 0 0, .slice none 0 0] 27)).cell? ⟨w.heap.size, 0, none⟩ = some (.pointer (some ⟨r, 0, none⟩)) := by have := HIN.out.rbx; rw [cell_of_row _ _ 0 _ _ _ this]; rfl
 have HWI := Lib.hid (within_yes r s 91 t d _ HIN.out.rd hd)
 go_wp2_with fail
 refine HWI.out.mono ?_
 rintro e w1 ⟨rfl, hr1, hk1⟩
 have h1 := HIN.out.god hk1 hr1
 rw [s0] at h1
 have HL := Lib.hid h1
 have crb : w1.cell? ⟨w.heap.size, 0, none⟩ = some (.pointer (some ⟨r, 0, none⟩)) := by have := h1.rbx; rw [cell_of_row _ _ 0 _ _ _ this]; rfl
 clear HWI HIN hr1 hk1 h1
 have hmf : ∀ (fn : Fn) (first cap : Array Value) (w : World), (Instr.makeFunc fn first cap).run Tryz.prog w = .ok (.func fn first cap) w := fun _ _ _ _ => rfl
 have hsk : (skipB t).length ≤ t.length := (List.dropWhile_suffix _).length_le
 have hstart : InvL r s d (w.heap.size + 1 + 1) w.heap.size W0 [] (skipB t) w1 := ⟨by simp at hlen ⊢; omega, .slice none 0 0, [], HL.out⟩
 have HSV := Lib.hid (several_any (InvL r s d (w.heap.size + 1 + 1) w.heap.size W0) (OneL P) 74 #[.pointer (some ⟨w.heap.size + 1 + 1, 0, none⟩), .pointer (some ⟨w.heap.size, 0, none⟩)] ent_list1 93 (by decide) r s d hd W0 (invL_ok r s d _ _ W0)
  (one_list P hP r s d _ _ hs40 W0 (fun W t o hk hr hp => HC.out W t o (HK0.out.trans hk) hr hp)) [] (skipB t) w1 hstart o HO.out)
 clear hstart
 go_wp2_with fail
 refine HSV.out.mono ?_
 intro e w2 hp
 cases o with
 | err x t' =>
  obtain ⟨hg, hk2⟩ := hp
  unfold Gives at hg
  subst hg
  exact ⟨rfl, rfl, HK0.out.trans hk2⟩
 | ok x t' =>
  obtain ⟨rfl, W1, hv, hr2, hk2⟩ := hp
  obtain ⟨hl0, sl, Vs, hls⟩ := hv
  obtain ⟨ao, co, rfl⟩ := row_form hls.row
  have h2 := hls.god hk2 hr2
  have HL2 := Lib.hid h2
  have hq := (h2.kr.block (w.heap.size + 1) (by omega) (by omega)).trans HQ0.out
  obtain ⟨b0, b1, b2, b3, b4, b5, b6⟩ := cell_agg7 h2.box
  have q : ∀ j, w2.frozen? ⟨w.heap.size + 1, j, none⟩ = false := fun j => froz_agg hq j
  obtain ⟨q0, q1, q2, q3, q4, q5, q6⟩ := cell_agg7 hq
  have HQ := Lib.hid hq
  clear hls hk2 hr2 h2 hq HSV
  go_wp2_with fail
  show bodyPost _ _ _ _ _ (set7 w2 (w.heap.size + 1) (.int .u8 6) (.bool false) (.int .i64 0) (.int .u64 0) (.string ⟨#[]⟩) (.slice none 0 0) (.slice ao x.length co))
  have hF := seven_set HQ.out (.int .u8 6) (.bool false) (.int .i64 0) (.int .u64 0) (.string ⟨#[]⟩) (.slice none 0 0) (.slice ao x.length co)
  have hk := set7_kr (p := w.heap.size + 1) (HK0.out.trans HL2.out.kr) (by omega) (.int .u8 6) (.bool false) (.int .i64 0) (.int .u64 0) (.string ⟨#[]⟩) (.slice none 0 0) (.slice ao x.length co)
  have hb : ∀ j, j ≠ w.heap.size + 1 → _ := fun j hj => set7_block (w := w2) hj (.int .u8 6) (.bool false) (.int .i64 0) (.int .u64 0) (.string ⟨#[]⟩) (.slice none 0 0) (.slice ao x.length co)
  unfold set7 at hk hb ⊢
  generalize ((((((w2.setCell ⟨w.heap.size + 1, 0, none⟩ (.int .u8 6)).setCell ⟨w.heap.size + 1, 1, none⟩ (.bool false)).setCell ⟨w.heap.size + 1, 2, none⟩ (.int .i64 0)).setCell ⟨w.heap.size + 1, 3, none⟩ (.int .u64 0)).setCell ⟨w.heap.size + 1, 4, none⟩ (.string ⟨#[]⟩)).setCell ⟨w.heap.size + 1, 5, none⟩ (.slice none 0 0)).setCell ⟨w.heap.size + 1, 6, none⟩ (.slice ao x.length co) = F at *
  obtain ⟨g0, g1, g2, g3, g4, g5, g6⟩ := cell_agg7 hF
  refine bodyPost_ret (v := .agg #[.int .u8 6, .bool false, .int .i64 0, .int .u64 0, .string ⟨#[]⟩, (.slice none 0 0), (.slice ao x.length co)]) (by simp [results, Tryz.results48, go_sem, g0, g1, g2, g3, g4, g5, g6]) rfl ?_
  exact ⟨_, rfl, HL2.out.out (by omega) (fun j hj _ => hb j (by omega)) (by simp) (by omega), HL2.out.rd.kept (hb r (by omega)), hk⟩
theorem one_record (P : List UInt8 → Out JV → Prop) (hP : ∀ t v t', P t (.ok v t') → t'.length < t.length) (r : Nat) (s : ByteArray) (d b rb : Nat) (hs40 : (s.size + 1) * 88 ≤ 140737488355328) (h17 : 17 ≤ r) (w0 : World) (hT : Lib.Utf8Tabs 0 1 w0)
  (HC : ∀ W t o, KR r w0 W → Rd r s t (d + 1) W → P t o → Calls Tryz.prog 25 #[.pointer (some ⟨r, 0, none⟩)] W (ValPost r s (d + 1) W o)) (st : (List ByteArray × List JV)) (t : List UInt8) (o : Out (List ByteArray × List JV)) (W : World) (hv : InvR r s d b rb w0 st t W) (ho : OneR decB8 enc P st t o) :
  Calls Tryz.prog 75 #[.pointer (some ⟨rb, 0, none⟩), .pointer (some ⟨b, 0, none⟩)] W (OnePost (InvR r s d b rb w0) r s w0 o) := by
 obtain ⟨ks, vs⟩ := st
 obtain ⟨h0, h1, slk, sl, Vs, hls⟩ := hv
 replace h0 : ks.length + t.length ≤ s.size := h0
 replace h1 : vs.length + t.length ≤ s.size := h1
 replace hls : LS r s (d + 1) b rb w0 7 slk ks t sl sl vs.length (Vs.flatMap c7) vs Vs W := hls
 cases ho with
 | ok e1 e2 e3 e4 hp =>
  rename_i t1 k t2 t3 v t4
  have q1 := hP _ _ _ hp
  have q2 := str_len e2
  have q3 := skip_len t
  rw [e1, List.length_cons] at q3
  have q4 := skip_len t2
  rw [e4, List.length_cons] at q4
  refine (rec1_go P r s (d + 1) b rb w0 t _ _ _ _ slk _ sl _ Vs _ W hls (by omega) (by omega) h17 hT e1 e2 e3 e4 (fun W hk hr => HC W _ _ hk hr hp)).mono ?_
  rintro e w' ⟨rfl, slk', sl', Vs', h2⟩
  exact ⟨rfl, by simp; omega, by simp; omega, _, _, _, h2⟩
 | err e1 e2 e3 e4 hp =>
  refine (rec1_go P r s (d + 1) b rb w0 t _ _ _ _ slk _ sl _ Vs _ W hls (by omega) (by omega) h17 hT e1 e2 e3 e4 (fun W hk hr => HC W _ _ hk hr hp)).mono ?_
  rintro e w' ⟨h1, h2⟩
  exact ⟨h1, h2⟩
 | twice e1 e2 e3 =>
  refine (rec1_twice r s (d + 1) b rb w0 t _ _ _ slk _ sl _ Vs W hls (by omega) h17 hT e1 e2 e3).mono ?_
  rintro e w' ⟨h1, h2⟩
  exact ⟨h1, h2⟩
theorem record_yes (P : List UInt8 → Out JV → Prop) (hP : ∀ t v t', P t (.ok v t') → t'.length < t.length) (r : Nat) (s : ByteArray) (d : Nat) (hd : d < 64) (hs40 : (s.size + 1) * 88 ≤ 140737488355328) (h17 : 17 ≤ r) (t : List UInt8) (w : World) (h : Rd r s (123 :: t) d w) (hT : Lib.Utf8Tabs 0 1 w)
  (HC : ∀ W t o, KR r w W → Rd r s t (d + 1) W → P t o → Calls Tryz.prog 25 #[.pointer (some ⟨r, 0, none⟩)] W (ValPost r s (d + 1) W o)) (o : Out (List ByteArray × List JV)) (ho : Sev0 125 (OneR decB8 enc P) ([], []) (skipB t) o) :
  Calls Tryz.prog 49 #[.pointer (some ⟨r, 0, none⟩)] w (ValPost r s d w (o.map (fun x => jRec x.1 x.2))) := by
 have hrl := h.lt
 have hlen := h.len
 have hbig := h.big
 obtain ⟨h0, k0, s0, n0⟩ := two_blocks h (.cells #[.int .u8 0, .bool false, .int .i64 0, .int .u64 0, .string ⟨#[]⟩, .slice none 0 0, .slice none 0 0] 27)
 have q0 : ((w.alloc (.cells #[.pointer (some ⟨r, 0, none⟩)] 54)).alloc (.cells #[.int .u8 0, .bool false, .int .i64 0, .int .u64 0, .string ⟨#[]⟩, .slice none 0 0, .slice none 0 0] 27)).heap[w.heap.size + 1]? = some (.cells #[.int .u8 0, .bool false, .int .i64 0, .int .u64 0, .string ⟨#[]⟩, .slice none 0 0, .slice none 0 0] 27 (0, 0)) := by
  have := heap_alloc_new (w.alloc (.cells #[.pointer (some ⟨r, 0, none⟩)] 54)) (.cells #[.int .u8 0, .bool false, .int .i64 0, .int .u64 0, .string ⟨#[]⟩, .slice none 0 0, .slice none 0 0] 27)
  simpa using this
 have hin := ls_init (t := 123 :: t) 7 h0 n0 (by omega)
 have HIN := Lib.hid hin
 have HK0 := Lib.hid k0
 have HQ0 := Lib.hid q0
 have HC := Lib.hid HC
 have HO := Lib.hid ho
 clear h h0 n0 k0 q0 ho hin
 go_enter Tryz.func49, Tryz.ntmps49
 go_upto_region 2 with fail
 generalize (w.alloc (.cells #[.pointer (some ⟨r, 0, none⟩)] 54)).alloc (.cells #[.int .u8 0, .bool false, .int .i64 0, .int .u64 0, .string ⟨#[]⟩, .slice none 0 0, .slice none 0 0] 27) = W0 at *
 have crb : (W0.alloc (.cells #[.int .u8 7, .bool false, .int .i64 0, .int .u64 0, .string ⟨#[]⟩, .slice none 0 0, .slice none 0 0] 27)).cell? ⟨w.heap.size, 0, none⟩ = some (.pointer (some ⟨r, 0, none⟩)) := by have := HIN.out.rbx; rw [cell_of_row _ _ 0 _ _ _ this]; rfl
 have HWI := Lib.hid (within_yes r s 123 t d _ HIN.out.rd hd)
 go_wp2_with fail
 refine HWI.out.mono ?_
 rintro e w1 ⟨rfl, hr1, hk1⟩
 have h1 := HIN.out.god hk1 hr1
 rw [s0] at h1
 have HL := Lib.hid h1
 have crb : w1.cell? ⟨w.heap.size, 0, none⟩ = some (.pointer (some ⟨r, 0, none⟩)) := by have := h1.rbx; rw [cell_of_row _ _ 0 _ _ _ this]; rfl
 clear HWI HIN hr1 hk1 h1
 have hmf : ∀ (fn : Fn) (first cap : Array Value) (w : World), (Instr.makeFunc fn first cap).run Tryz.prog w = .ok (.func fn first cap) w := fun _ _ _ _ => rfl
 have hsk : (skipB t).length ≤ t.length := (List.dropWhile_suffix _).length_le
 have hstart : InvR r s d (w.heap.size + 1 + 1) w.heap.size W0 ([], []) (skipB t) w1 := ⟨by simp at hlen ⊢; omega, by simp at hlen ⊢; omega, .slice none 0 0, .slice none 0 0, [], HL.out⟩
 have HSV := Lib.hid (several_any (InvR r s d (w.heap.size + 1 + 1) w.heap.size W0) (OneR decB8 enc P) 75 #[.pointer (some ⟨w.heap.size, 0, none⟩), .pointer (some ⟨w.heap.size + 1 + 1, 0, none⟩)] ent_rec1 125 (by decide) r s d hd W0 (invR_ok r s d _ _ W0)
  (one_record P hP r s d _ _ hs40 h17 W0 (utabs_kept hT (HK0.out.low' h17 (by omega))) (fun W t o hk hr hp => HC.out W t o (HK0.out.trans hk) hr hp)) ([], []) (skipB t) w1 hstart o HO.out)
 clear hstart
 go_wp2_with fail
 refine HSV.out.mono ?_
 intro e w2 hp
 cases o with
 | err x t' =>
  obtain ⟨hg, hk2⟩ := hp
  unfold Gives at hg
  subst hg
  exact ⟨rfl, rfl, HK0.out.trans hk2⟩
 | ok x t' =>
  obtain ⟨rfl, W1, hv, hr2, hk2⟩ := hp
  obtain ⟨hl0, hl1, slk, sl, Vs, hls⟩ := hv
  obtain ⟨ka, kc, rfl⟩ := row_form hls.keys
  obtain ⟨ao, co, rfl⟩ := row_form hls.row
  have h2 := hls.god hk2 hr2
  have HL2 := Lib.hid h2
  have hq := (h2.kr.block (w.heap.size + 1) (by omega) (by omega)).trans HQ0.out
  obtain ⟨b0, b1, b2, b3, b4, b5, b6⟩ := cell_agg7 h2.box
  have q : ∀ j, w2.frozen? ⟨w.heap.size + 1, j, none⟩ = false := fun j => froz_agg hq j
  obtain ⟨q0, q1, q2, q3, q4, q5, q6⟩ := cell_agg7 hq
  have HQ := Lib.hid hq
  clear hls hk2 hr2 h2 hq HSV
  go_wp2_with fail
  show bodyPost _ _ _ _ _ (set7 w2 (w.heap.size + 1) (.int .u8 7) (.bool false) (.int .i64 0) (.int .u64 0) (.string ⟨#[]⟩) (.slice ka x.1.length kc) (.slice ao x.2.length co))
  have hF := seven_set HQ.out (.int .u8 7) (.bool false) (.int .i64 0) (.int .u64 0) (.string ⟨#[]⟩) (.slice ka x.1.length kc) (.slice ao x.2.length co)
  have hk := set7_kr (p := w.heap.size + 1) (HK0.out.trans HL2.out.kr) (by omega) (.int .u8 7) (.bool false) (.int .i64 0) (.int .u64 0) (.string ⟨#[]⟩) (.slice ka x.1.length kc) (.slice ao x.2.length co)
  have hb : ∀ j, j ≠ w.heap.size + 1 → _ := fun j hj => set7_block (w := w2) hj (.int .u8 7) (.bool false) (.int .i64 0) (.int .u64 0) (.string ⟨#[]⟩) (.slice ka x.1.length kc) (.slice ao x.2.length co)
  unfold set7 at hk hb ⊢
  generalize ((((((w2.setCell ⟨w.heap.size + 1, 0, none⟩ (.int .u8 7)).setCell ⟨w.heap.size + 1, 1, none⟩ (.bool false)).setCell ⟨w.heap.size + 1, 2, none⟩ (.int .i64 0)).setCell ⟨w.heap.size + 1, 3, none⟩ (.int .u64 0)).setCell ⟨w.heap.size + 1, 4, none⟩ (.string ⟨#[]⟩)).setCell ⟨w.heap.size + 1, 5, none⟩ (.slice ka x.1.length kc)).setCell ⟨w.heap.size + 1, 6, none⟩ (.slice ao x.2.length co) = F at *
  obtain ⟨g0, g1, g2, g3, g4, g5, g6⟩ := cell_agg7 hF
  refine bodyPost_ret (v := .agg #[.int .u8 7, .bool false, .int .i64 0, .int .u64 0, .string ⟨#[]⟩, (.slice ka x.1.length kc), (.slice ao x.2.length co)]) (by simp [results, Tryz.results49, go_sem, g0, g1, g2, g3, g4, g5, g6]) rfl ?_
  exact ⟨_, rfl, HL2.out.out (by omega) (fun j hj _ => hb j (by omega)) (by omega) (by omega), HL2.out.rd.kept (hb r (by omega)), hk⟩
end Go.Proofs.YtckaoeloofbklaaGreatDoor
namespace Go.Proofs.YtckaoeloofbklaaGreatDoor
open Go Go.RowKit Go.Lib
theorem len_weighL : ∀ l : List JV, l.length ≤ JV.weighL l
 | [] => by simp
 | .mk k b n u s ks vs :: l => by
  rw [JV.weighL, JV.weigh, List.length_cons]
  have := len_weighL l
  omega
theorem grown_below {w W W' : World} {row : Option Nat} {B : Nat} (h : Below B w W) (hg : W.grownBy W' row) (hr : ∀ g, row = some g → B ≤ g) (hB : B ≤ W.heap.size) : Below B w W' :=
 h.trans ⟨hg.os, hg.tape, hg.output, hg.size, fun k hk => hg.block k (Nat.lt_of_lt_of_le hk hB) (fun e => by have := hr k e.symm; omega)⟩
theorem names_copy (ok : Nat → Prop) (w : World) (ka : Option Addr) (kc : Nat) (ks : List ByteArray) (h : StrsAt ok w ka ks) (hn : ks.length ≤ 1000000) (B : Nat) (hB : B ≤ w.heap.size) :
  ∃ ao cap W', (Builtin.append_ #[24, 24] 24 #[.slice Option.none 0 0, .slice ka ks.length kc]).run Tryz.prog w = .ok (.slice ao ks.length cap) W' ∧ W'.ownsRow B 9 1 (.slice ao ks.length cap) ks.length (ks.map Value.string) ∧ Below w.heap.size w W' := by
 obtain ⟨i, hi, hz0, hz1, hz2⟩ := info_parts infoStr
 have fin : ∀ (a : Addr), (∀ j u, (ks.map Value.string)[j]? = some u → w.cell? (a.add j) = some u) →
   ∃ ao cap W', (Builtin.append_ #[24, 24] 24 #[.slice Option.none 0 0, .slice (some a) ks.length kc]).run Tryz.prog w = .ok (.slice ao ks.length cap) W' ∧ W'.ownsRow B 9 1 (.slice ao ks.length cap) ks.length (ks.map Value.string) ∧ Below w.heap.size w W' := by
  intro a hc
  obtain ⟨v', W', h1, h2, h3, _⟩ := run_append_own_wide (P := Tryz.prog) w B 24 24 9 i _ 1 16 Tryz.underlying24 hi hz0 hz1 hz2 rfl (by decide) (.slice Option.none 0 0) 0 [] (World.ownsRow_nil w B _ 1) a ks.length kc (ks.map Value.string) (by simp) hc (by intro u hu; obtain ⟨x, -, rfl⟩ := List.mem_map.1 hu; rfl) (by unfold maxLen; omega) (by omega) hB
  rw [Nat.zero_add, List.nil_append] at h2
  obtain ⟨ao, cap, rfl⟩ := row_form h2
  exact ⟨ao, cap, W', h1, h2, grown_below (Below.refl _ _) h3 (by intro g e; cases e) (Nat.le_refl _)⟩
 rcases h with rfl | ⟨b, off, rfl, -, -, hc⟩
 ·cases ka with
  | none =>
   refine ⟨none, 0, w, ?_, World.ownsRow_nil w B _ 1, Below.refl _ _⟩
   simp [Builtin.append_, run_underlying Tryz.underlying24, sizeOf, typeInfo, hi, Builtin.lenOf, Builtin.firstCells]
  | some a => exact fin a (by intro j u hj; simp at hj)
 ·refine fin _ fun j u hj => ?_
  rw [show (⟨b, off, none⟩ : Addr).add j = ⟨b, off + j, none⟩ from by unfold Addr.add; split <;> simp_all]
  rw [List.getElem?_map] at hj
  cases hk : ks[j]? with
  | none => rw [hk] at hj; cases hj
  | some k => rw [hk] at hj; cases hj; exact hc j k hk
structure CS (w0 : World) (b b2 : Nat) (x x2 : Array Value) (slk : Value) (ks : List ByteArray) (slr : Value) (l : List JV) (Vs : List Value) (W : World) : Prop where
 below : Below w0.heap.size w0 W
 box : W.heap[b]? = some (.cells x 27 (0, 0))
 rbx : W.heap[b2]? = some (.cells x2 27 (0, 0))
 row : W.ownsRow w0.heap.size 27 7 slr l.length (Vs.flatMap c7)
 ne : slr.ownBlock ≠ some b ∧ slr.ownBlock ≠ some b2
 keys : W.ownsRow w0.heap.size 9 1 slk ks.length (ks.map Value.string)
 its : JAll (fun j => w0.heap.size ≤ j ∧ j ≠ b ∧ j ≠ b2 ∧ slr.ownBlock ≠ some j) W l Vs
section
variable {w0 : World} {b b2 : Nat} {x x2 : Array Value} {slk : Value} {ks : List ByteArray} {slr : Value} {l : List JV} {Vs : List Value} {W W' : World}
theorem CS.go (h : CS w0 b b2 x x2 slk ks slr l Vs W) (hb : Below W.heap.size W W') : CS w0 b b2 x x2 slk ks slr l Vs W' :=
 ⟨h.below.trans (hb.mono h.below.size), (hb.block b (Array.getElem?_eq_some_iff.1 h.box).1).trans h.box, (hb.block b2 (Array.getElem?_eq_some_iff.1 h.rbx).1).trans h.rbx, row_kept h.row fun g hg => hb.block g (row_blk h.row hg).2.1, h.ne, row_kept h.keys fun g hg => hb.block g (row_blk h.keys hg).2.1, h.its.kept fun j hj hj2 => ⟨hb.block j hj2, hj⟩⟩
theorem CS.step {y : JV} {x0 x1 x3 x4 x5 x6 x7 : Value} (h : CS w0 b b2 x x2 slk ks slr l Vs W) (hb : Below W.heap.size W W') (hj : JAt (fun j => W.heap.size ≤ j) W' y (.agg #[x0, x1, x3, x4, x5, x6, x7])) (h1 : ∀ u ∈ [x0, x1, x3, x4, x5, x6, x7], u.oneCell' = true) (hl : l.length ≤ 1000000) :
  ∃ g cap W2, (Builtin.append_ #[25, 25] 25 #[slr, .slice (some ⟨W'.heap.size, 0, Option.none⟩) 1 1]).run Tryz.prog (W'.alloc (.cells #[x0, x1, x3, x4, x5, x6, x7] 27)) = .ok (.slice (some ⟨g, 0, none⟩) (l.length + 1) cap) W2 ∧ CS w0 b b2 x x2 slk ks (.slice (some ⟨g, 0, none⟩) (l.length + 1) cap) (l ++ [y]) (Vs ++ [.agg #[x0, x1, x3, x4, x5, x6, x7]]) W2 := by
 obtain ⟨i, hi, hz0, hz1, hz2⟩ := info_parts infoV
 have hb2 : Below W.heap.size W (W'.alloc (.cells #[x0, x1, x3, x4, x5, x6, x7] 27)) := hb.alloc hb.size _
 have hA := h.go hb2
 have hbx := heap_alloc_new W' (.cells #[x0, x1, x3, x4, x5, x6, x7] 27)
 have hlx := (Array.getElem?_eq_some_iff.1 h.box).1
 have hlx2 := (Array.getElem?_eq_some_iff.1 h.rbx).1
 have hsz := h.below.size
 have hit : JAll (fun j => w0.heap.size ≤ j ∧ j ≠ b ∧ j ≠ b2 ∧ slr.ownBlock ≠ some j) (W'.alloc (.cells #[x0, x1, x3, x4, x5, x6, x7] 27)) (l ++ [y]) (Vs ++ [.agg #[x0, x1, x3, x4, x5, x6, x7]]) := by
  refine JAll.snoc (hj.kept fun j hj1 hj2 => ⟨heapJ_old _ _ _ hj2, by omega, by omega, by omega, fun e => ?_⟩) hA.its
  have := (row_blk h.row e).2.1
  omega
 have hsA : (W'.alloc (.cells #[x0, x1, x3, x4, x5, x6, x7] 27)).heap.size = W'.heap.size + 1 := by simp
 have hsb := hb.size
 generalize W'.alloc (.cells #[x0, x1, x3, x4, x5, x6, x7] 27) = WA at *
 obtain ⟨g, cap, W2, hr, hrow, hg, hat, hlt⟩ := run_append_lies (P := Tryz.prog) WA 25 25 w0.heap.size 27 i _ 7 88 Tryz.underlying25 hi hz0 hz1 hz2 rfl (by decide) slr l.length _ hA.row ⟨W'.heap.size, 0, none⟩ 1 1 [x0, x1, x3, x4, x5, x6, x7] rfl (fun j u hu => by
  rw [show (⟨W'.heap.size, 0, none⟩ : Addr).add j = ⟨W'.heap.size, 0 + j, none⟩ from by unfold Addr.add; split <;> simp_all]
  rw [cell_of_row _ _ _ _ _ _ hbx, Nat.zero_add, Array.getElem?_toList.symm]
  exact hu) h1 (by decide) (by unfold maxLen; omega) (by omega) hA.below.size WA.heap.size rfl
 refine ⟨g, cap, W2, hr, ?_⟩
 have hne : ∀ j, j < WA.heap.size → slr.ownBlock ≠ some j → g ≠ j := fun j hj hn e => by
  subst e
  rcases hat with e | e
  ·exact hn e
  ·omega
 have hkb : ∀ j, j < WA.heap.size → slr.ownBlock ≠ some j → W2.heap[j]? = WA.heap[j]? := fun j hj hn => hg.block j hj (fun e => hn e.symm)
 have hown : ∀ j, (Value.slice (some ⟨g, 0, none⟩) (l.length + 1) cap).ownBlock = some j ↔ g = j := fun j => by simp [Value.ownBlock]
 refine ⟨grown_below hA.below hg (fun g' e => (row_blk hA.row e).1) hA.below.size, (hkb b (by omega) h.ne.1).trans hA.box, (hkb b2 (by omega) h.ne.2).trans hA.rbx, ?_, ⟨fun e => hne b (by omega) h.ne.1 ((hown b).1 e), fun e => hne b2 (by omega) h.ne.2 ((hown b2).1 e)⟩, row_kept hA.keys fun g' hg' => ?_, hit.kept fun j hj hj2 => ⟨hkb j hj2 hj.2.2.2, hj.1, hj.2.1, hj.2.2.1, fun e => hne j hj2 hj.2.2.2 ((hown j).1 e)⟩⟩
 ·rw [List.length_append, List.flatMap_append]
  simpa [c7] using hrow
 ·obtain ⟨_, h2, c, hc⟩ := row_blk hA.keys hg'
  refine hkb g' h2 (fun e => ?_)
  obtain ⟨_, _, c', hc'⟩ := row_blk hA.row e
  rw [hc] at hc'
  injection hc' with hc'
  injection hc' with _ hc'
  exact absurd hc' (by decide)
theorem CS.out (h : CS w0 b b2 x x2 slk ks slr l Vs W) (hkeep : ∀ j, w0.heap.size ≤ j → j < W.heap.size → j ≠ b → j ≠ b2 → W'.heap[j]? = W.heap[j]?) (k : Int) (bb : Bool) (n u : Int) (s : ByteArray) (hl1 : ks.length ≤ 35184372080000) (hl2 : l.length ≤ 35184372080000) :
  JAt (fun j => w0.heap.size ≤ j) W' (.mk k bb n u s ks l) (.agg #[.int .u8 k, .bool bb, .int .i64 n, .int .u64 u, .string s, slk, slr]) := by
 rw [JAt]
 have hblk : ∀ j, w0.heap.size ≤ j → j < W.heap.size → j ≠ b → j ≠ b2 → j < W'.heap.size := fun j h1 h2 h3 h4 => (Array.getElem?_eq_some_iff.1 ((hkeep j h1 h2 h3 h4).trans (Array.getElem?_eq_getElem h2))).1
 have hkk : ∀ g, slk.ownBlock = some g → g ≠ b ∧ g ≠ b2 := by
  intro g hg
  obtain ⟨_, _, c, hc⟩ := row_blk h.keys hg
  constructor
  ·rintro rfl
   have := h.box.symm.trans hc
   simp at this
  ·rintro rfl
   have := h.rbx.symm.trans hc
   simp at this
 have hK : ∃ a c, slk = .slice a ks.length c ∧ StrsAt (fun j => w0.heap.size ≤ j) W' a ks := by
  rcases h.keys.2 with ⟨h1, h2⟩ | ⟨g, cap, cur, h1, _⟩
  ·exact ⟨none, 0, by rw [h1, h2], .inl (List.length_eq_zero_iff.1 h2)⟩
  ·refine ⟨some ⟨g, 0, none⟩, cap, h1, ?_⟩
   obtain ⟨hg1, hg2, -⟩ := row_blk h.keys (g := g) (by rw [h1]; rfl)
   obtain ⟨hg3, hg4⟩ := hkk g (by rw [h1]; rfl)
   by_cases hks : ks = []
   ·exact .inl hks
   ·refine .inr ⟨g, 0, rfl, hg1, hblk g hg1 hg2 hg3 hg4, fun j y hj => ?_⟩
    have := h.keys.cells (g := g) (by rw [h1]; rfl) j (.string y) (by simp [List.getElem?_map, hj])
    have hadd : (⟨g, 0, none⟩ : Addr).add j = ⟨g, 0 + j, none⟩ := by unfold Addr.add; split <;> simp_all
    rw [hadd] at this
    rw [World.cell?_of_block (hkeep g hg1 hg2 hg3 hg4)]
    exact this
 have hI : ∃ a c, slr = .slice a l.length c ∧ (l = [] ∨ ∃ q off, a = some ⟨q, off, none⟩ ∧ w0.heap.size ≤ q ∧ q < W'.heap.size ∧ ItAt (fun j => w0.heap.size ≤ j) W' q off l) := by
  rcases h.row.2 with ⟨h1, h2⟩ | ⟨g, cap, cur, h1, _⟩
  ·exact ⟨none, 0, by rw [h1, h2], .inl (List.length_eq_zero_iff.1 h2)⟩
  ·obtain ⟨hg1, hg2, -⟩ := row_blk h.row (g := g) (by rw [h1]; rfl)
   have hg3 : g ≠ b := fun e => h.ne.1 (by rw [h1, ← e]; rfl)
   have hg4 : g ≠ b2 := fun e => h.ne.2 (by rw [h1, ← e]; rfl)
   refine ⟨some ⟨g, 0, none⟩, cap, h1, .inr ⟨g, 0, rfl, hg1, hblk g hg1 hg2 hg3 hg4, it_of l Vs 0 (h.its.kept fun j hj hj2 => ⟨hkeep j hj.1 hj2 hj.2.1 hj.2.2.1, hj.1⟩) fun i u hu => ?_⟩⟩
   have := h.row.cells (g := g) (by rw [h1]; rfl) i u hu
   have hadd : (⟨g, 0, none⟩ : Addr).add i = ⟨g, 0 + i, none⟩ := by unfold Addr.add; split <;> simp_all
   rw [hadd] at this
   rw [World.cell?_of_block (hkeep g hg1 hg2 hg3 hg4)]
   exact this
 obtain ⟨a, c, e1, h1⟩ := hK
 obtain ⟨a', c', e2, h2⟩ := hI
 exact ⟨a, c, a', c', by rw [e1, e2], h1, h2, hl1, hl2⟩
end
end Go.Proofs.YtckaoeloofbklaaGreatDoor
namespace Go.Proofs.YtckaoeloofbklaaGreatDoor
open Go Go.RowKit Go.Lib
theorem jat_form {ok : Nat → Prop} {w : World} {v : JV} {V : Value} (h : JAt ok w v V) : ∃ k b n u s a m c a2 m2 c2, V = .agg #[.int .u8 k, .bool b, .int .i64 n, .int .u64 u, .string s, .slice a m c, .slice a2 m2 c2] := by
 obtain ⟨k, b, n, u, s, ks, vs⟩ := v
 rw [JAt] at h
 obtain ⟨a, c, a', c', h, -⟩ := h
 exact ⟨_, _, _, _, _, _, _, _, _, _, _, h⟩
def CopyOk (v : JV) : Prop := ∀ (ok : Nat → Prop) (V : Value) (w : World), JAt ok w v V → v.weigh ≤ 1000000 →
 Calls Tryz.prog 12 #[V] w fun e w' => ∃ V', e = .returned V' ∧ JAt (fun j => w.heap.size ≤ j) w' v V' ∧ Below w.heap.size w w'
theorem copy_one (k : Int) (b : Bool) (n u : Int) (s : ByteArray) (ks : List ByteArray) (vs : List JV) (ih : ∀ x ∈ vs, CopyOk x) : CopyOk (.mk k b n u s ks vs) := by
 intro ok V w hj hw
 rw [JV.weigh] at hw
 have hwL : JV.weighL vs ≤ 1000000 := by omega
 have hkl : ks.length ≤ 1000000 := by omega
 have hvl := Nat.le_trans (len_weighL vs) hwL
 rw [JAt] at hj
 obtain ⟨ka, kc, a, c, rfl, hks, hvs, hkn, hvn⟩ := hj
 have hx1 := heap_alloc_new w (.cells #[.int .u8 k, .bool b, .int .i64 n, .int .u64 u, .string s, .slice ka ks.length kc, .slice a vs.length c] 27)
 have hs1 : (w.alloc (.cells #[.int .u8 k, .bool b, .int .i64 n, .int .u64 u, .string s, .slice ka ks.length kc, .slice a vs.length c] 27)).heap.size = w.heap.size + 1 := by simp
 have hx2 := (heapJ_old (w.alloc (.cells #[.int .u8 k, .bool b, .int .i64 n, .int .u64 u, .string s, .slice ka ks.length kc, .slice a vs.length c] 27)) (.cells #[.int .u8 0, .bool false, .int .i64 0, .int .u64 0, .string ⟨#[]⟩, .slice none 0 0, .slice none 0 0] 27) w.heap.size (by omega)).trans hx1
 have hy2 := heap_alloc_new (w.alloc (.cells #[.int .u8 k, .bool b, .int .i64 n, .int .u64 u, .string s, .slice ka ks.length kc, .slice a vs.length c] 27)) (.cells #[.int .u8 0, .bool false, .int .i64 0, .int .u64 0, .string ⟨#[]⟩, .slice none 0 0, .slice none 0 0] 27)
 rw [hs1] at hy2
 have hbA : Below w.heap.size w ((w.alloc (.cells #[.int .u8 k, .bool b, .int .i64 n, .int .u64 u, .string s, .slice ka ks.length kc, .slice a vs.length c] 27)).alloc (.cells #[.int .u8 0, .bool false, .int .i64 0, .int .u64 0, .string ⟨#[]⟩, .slice none 0 0, .slice none 0 0] 27)) := ((Below.refl _ _).alloc (Nat.le_refl _) _).alloc (by omega) _
 obtain ⟨ao, cap, W2, hr, hrow, hbn⟩ := names_copy (fun _ => True) ((w.alloc (.cells #[.int .u8 k, .bool b, .int .i64 n, .int .u64 u, .string s, .slice ka ks.length kc, .slice a vs.length c] 27)).alloc (.cells #[.int .u8 0, .bool false, .int .i64 0, .int .u64 0, .string ⟨#[]⟩, .slice none 0 0, .slice none 0 0] 27)) ka kc ks (hks.kept (fun i _ hi => ⟨hbA.block i hi, trivial⟩)) hkl w.heap.size hbA.size
 obtain ⟨c0, c1, c2, c3, c4, c5, c6⟩ := cell_agg7 hx2
 have hx3 := (hbn.block _ (Array.getElem?_eq_some_iff.1 hx2).1).trans hx2
 have hy3 := (hbn.block _ (Array.getElem?_eq_some_iff.1 hy2).1).trans hy2
 obtain ⟨e0, e1, e2, e3, e4, e5, e6⟩ := cell_agg7 hx3
 have q : ∀ j, W2.frozen? ⟨w.heap.size, j, none⟩ = false := fun j => froz_agg hx3 j
 have hcs : CS w w.heap.size (w.heap.size + 1) #[.int .u8 k, .bool b, .int .i64 n, .int .u64 u, .string s, .slice ao ks.length cap, .slice a vs.length c] #[.int .u8 0, .bool false, .int .i64 0, .int .u64 0, .string ⟨#[]⟩, .slice none 0 0, .slice none 0 0] (.slice ao ks.length cap) ks (.slice none 0 0) [] [] (W2.setCell ⟨w.heap.size, 5, none⟩ (.slice ao ks.length cap)) := by
  have hne : ∀ j, j ≠ w.heap.size → (W2.setCell ⟨w.heap.size, 5, none⟩ (.slice ao ks.length cap)).heap[j]? = W2.heap[j]? := fun j hj => Below.heap_setCell _ _ _ _ hj
  refine ⟨(hbA.trans (hbn.mono hbA.size)).setCell (Nat.le_refl _) _, ?_, (hne _ (by omega)).trans hy3, World.ownsRow_nil _ _ _ _, ⟨by simp [Value.ownBlock], by simp [Value.ownBlock]⟩, row_kept hrow fun g hg => hne g ?_, trivial⟩
  ·have := setCellJ (j := 5) hx3 (.slice ao ks.length cap)
   simpa using this
  ·rintro rfl
   obtain ⟨_, _, c, hc⟩ := row_blk hrow hg
   have := hx3.symm.trans hc
   simp at this
 have HCS := Lib.hid hcs
 have HR := Lib.hid hr
 have HVS := Lib.hid hvs
 have HIH := Lib.hid ih
 have HWL := Lib.hid hwL
 have HV := Lib.hid hvl
 have HKN := Lib.hid hkn
 clear hx1 hx2 hy2 hbA hr hrow hbn hx3 hy3 hcs hvs ih hw hwL hks hs1 hkl hvl hkn
 go_enter Tryz.func12, Tryz.ntmps12
 go_upto_region 1 with fail
 generalize (w.alloc (.cells #[.int .u8 k, .bool b, .int .i64 n, .int .u64 u, .string s, .slice ka ks.length kc, .slice a vs.length c] 27)).alloc (.cells #[.int .u8 0, .bool false, .int .i64 0, .int .u64 0, .string ⟨#[]⟩, .slice none 0 0, .slice none 0 0] 27) = wA at *
 go_upto_region 2 with (first | (at_builtin; refine Lib.wpList_append_run _ rfl _ _ _ _ rfl _ _ rfl rfl _ _ HR.out ?_) | fail)
 generalize W2.setCell ⟨w.heap.size, 5, none⟩ (.slice ao ks.length cap) = W3 at *
 clear q c0 c1 c2 c3 c4 c5 c6 e0 e1 e2 e3 e4 e5 e6 HR
 go_wp2_with fail
 go_loopg [3, 4] vs.length (fun g s3 s4 wr => ∃ (i : Nat) (ao2 : Option Addr) (cap2 : Nat) (Vs : List Value), i + g = vs.length ∧ s3 = .slice ao2 i cap2 ∧ s4 = .int .i64 i ∧ CS w w.heap.size (w.heap.size + 1) #[.int .u8 k, .bool b, .int .i64 n, .int .u64 u, .string s, .slice ao ks.length cap, .slice a vs.length c] #[.int .u8 0, .bool false, .int .i64 0, .int .u64 0, .string ⟨#[]⟩, .slice none 0 0, .slice none 0 0] (.slice ao ks.length cap) ks (.slice ao2 i cap2) (vs.take i) Vs wr)
 case atStart => exact ⟨0, none, 0, [], by omega, rfl, rfl, by rw [List.take_zero]; exact HCS.out⟩
 case round =>
  obtain ⟨i, ao2, cap2, Vs, hi, rfl, rfl, hcs⟩ := hrel
  have hbx := hcs.box
  obtain ⟨c0, c1, c2, c3, c4, c5, c6⟩ := cell_agg7 hbx
  have HC := Lib.hid hcs
  by_cases hlt : i < vs.length
  ·have hlt2 : (i : Int) < (vs.length : Int) := by omega
   obtain ⟨x, hx⟩ : ∃ x, vs[i]? = some x := ⟨_, List.getElem?_eq_getElem hlt⟩
   have hxm := List.mem_of_getElem? hx
   obtain ⟨q, off, ha, _hq, hqw, hit⟩ := HVS.out.resolve_left (by rintro rfl; simp at hlt)
   obtain ⟨V, h7, hja⟩ := hit.get hx
   obtain ⟨xk, xb, xn, xu, xs, xa, xm, xc, xa2, xm2, xc2, rfl, d0, d1, d2, d3, d4, d5, d6⟩ := it_cells h7 hja
   have hbt := hcs.below
   have hkq : ∀ i : Nat, wr.cell? ⟨q, i, none⟩ = w.cell? ⟨q, i, none⟩ := fun i => hbt.cell (p := ⟨q, i, none⟩) hqw
   rw [← hkq, Nat.mul_comm 7 i] at d0 d1 d2 d3 d4 d5 d6
   have htk : vs.take (i + 1) = vs.take i ++ [x] := by rw [List.take_add_one, hx]; rfl
   have hlen : (vs.take i).length = i := by rw [List.length_take]; omega
   have HTK := Lib.hid htk
   have HLEN := Lib.hid hlen
   have HJ := Lib.hid (HIH.out x hxm (fun _ => True) _ wr (hja.kept (fun i _ hi2 => ⟨hbt.block i hi2, trivial⟩)) (Nat.le_trans (weigh_le hx) HWL.out))
   subst ha
   clear hx hxm h7 hja hit hqw hkq htk hbt _hq hbx hcs hlen
   go_wp2_with fail
   refine HJ.out.mono ?_
   rintro e w5 ⟨V', rfl, hJ', hb5⟩
   obtain ⟨yk, yb, yn, yu, ys, ya, ym, yc, ya2, ym2, yc2, rfl⟩ := jat_form hJ'
   obtain ⟨g6, cap6, w6, hr6, hcs6⟩ := HC.out.step hb5 hJ' (by simp [Value.oneCell']) (by rw [HLEN.out]; have := HV.out; omega)
   rw [HLEN.out, ← HTK.out] at hcs6
   rw [HLEN.out] at hr6
   have HR6 := Lib.hid hr6
   have HC6 := Lib.hid hcs6
   clear hr6 hcs6 hb5 hJ' HJ HC c0 c1 c2 c3 c4 c5 c6 d0 d1 d2 d3 d4 d5 d6
   go_wp2_with (first | (at_builtin; refine Lib.wpList_append_run _ rfl _ _ _ _ rfl _ _ rfl rfl _ _ HR6.out ?_) | fail)
   go_roundg (vs.length - (i + 1))
   case measure => omega
   case rel => exact ⟨i + 1, _, cap6, _, by omega, rfl, by go_num, HC6.out⟩
  ·obtain rfl : i = vs.length := by omega
   have hnl : ¬ (vs.length : Int) < (vs.length : Int) := by omega
   rw [List.take_length] at HC
   have q : ∀ j, wr.frozen? ⟨w.heap.size, j, none⟩ = false := fun j => froz_agg hbx j
   have hF := setCellJ (j := 6) hbx (.slice ao2 vs.length cap2)
   have hne : ∀ j, j ≠ w.heap.size → (wr.setCell ⟨w.heap.size, 6, none⟩ (.slice ao2 vs.length cap2)).heap[j]? = wr.heap[j]? := fun j hj => Below.heap_setCell _ _ _ _ hj
   have hF2 := (hne (w.heap.size + 1) (by omega)).trans HC.out.rbx
   have hFb := HC.out.below.setCell (Nat.le_refl w.heap.size) (p := ⟨w.heap.size, 6, none⟩) (.slice ao2 vs.length cap2)
   have HNE := Lib.hid hne
   clear hcs hbx hne
   go_upto_region 8 with fail
   clear c0 c1 c2 c3 c4 c5 c6 q
   generalize wr.setCell ⟨w.heap.size, 6, none⟩ (.slice ao2 vs.length cap2) = W7 at *
   have hF' : W7.heap[w.heap.size]? = some (.cells #[.int .u8 k, .bool b, .int .i64 n, .int .u64 u, .string s, .slice ao ks.length cap, .slice ao2 vs.length cap2] 27 (0, 0)) := by simpa using hF
   obtain ⟨c0, c1, c2, c3, c4, c5, c6⟩ := cell_agg7 hF'
   obtain ⟨f0, f1, f2, f3, f4, f5, f6⟩ := cell_agg7 hF2
   have q : ∀ j, W7.frozen? ⟨w.heap.size + 1, j, none⟩ = false := fun j => froz_agg hF2 j
   have HFB := Lib.hid hFb
   have HF2 := Lib.hid hF2
   clear hF hF' hFb hF2
   go_wp2_with fail
   show bodyPost _ _ _ _ _ (set7 W7 (w.heap.size + 1) (.int .u8 k) (.bool b) (.int .i64 n) (.int .u64 u) (.string s) (.slice ao ks.length cap) (.slice ao2 vs.length cap2))
   have hS := seven_set HF2.out (.int .u8 k) (.bool b) (.int .i64 n) (.int .u64 u) (.string s) (.slice ao ks.length cap) (.slice ao2 vs.length cap2)
   have hSb : Below w.heap.size w (set7 W7 (w.heap.size + 1) (.int .u8 k) (.bool b) (.int .i64 n) (.int .u64 u) (.string s) (.slice ao ks.length cap) (.slice ao2 vs.length cap2)) := by
    unfold set7
    exact ((((((HFB.out.setCell (by show w.heap.size ≤ w.heap.size + 1; omega) _).setCell (by show w.heap.size ≤ w.heap.size + 1; omega) _).setCell (by show w.heap.size ≤ w.heap.size + 1; omega) _).setCell (by show w.heap.size ≤ w.heap.size + 1; omega) _).setCell (by show w.heap.size ≤ w.heap.size + 1; omega) _).setCell (by show w.heap.size ≤ w.heap.size + 1; omega) _).setCell (by show w.heap.size ≤ w.heap.size + 1; omega) _
   have hout : JAt (fun j => w.heap.size ≤ j) (set7 W7 (w.heap.size + 1) (.int .u8 k) (.bool b) (.int .i64 n) (.int .u64 u) (.string s) (.slice ao ks.length cap) (.slice ao2 vs.length cap2)) (.mk k b n u s ks vs) (.agg #[.int .u8 k, .bool b, .int .i64 n, .int .u64 u, .string s, .slice ao ks.length cap, .slice ao2 vs.length cap2]) :=
    HC.out.out (fun j _ _ h1 h2 => (set7_block h2 ..).trans (HNE.out j h1)) k b n u s HKN.out (by have := HV.out; omega)
   unfold set7 at hSb hout ⊢
   generalize ((((((W7.setCell ⟨w.heap.size + 1, 0, none⟩ (.int .u8 k)).setCell ⟨w.heap.size + 1, 1, none⟩ (.bool b)).setCell ⟨w.heap.size + 1, 2, none⟩ (.int .i64 n)).setCell ⟨w.heap.size + 1, 3, none⟩ (.int .u64 u)).setCell ⟨w.heap.size + 1, 4, none⟩ (.string s)).setCell ⟨w.heap.size + 1, 5, none⟩ (.slice ao ks.length cap)).setCell ⟨w.heap.size + 1, 6, none⟩ (.slice ao2 vs.length cap2) = F at *
   obtain ⟨g0, g1, g2, g3, g4, g5, g6⟩ := cell_agg7 hS
   refine bodyPost_ret (v := .agg #[.int .u8 k, .bool b, .int .i64 n, .int .u64 u, .string s, .slice ao ks.length cap, .slice ao2 vs.length cap2]) (by simp [results, Tryz.results12, go_sem, g0, g1, g2, g3, g4, g5, g6]) rfl ?_
   exact ⟨_, rfl, hout, hSb⟩
theorem copy_any : ∀ v, CopyOk v := JV.ind fun k b n u s ks vs ih => copy_one k b n u s ks vs ih
end Go.Proofs.YtckaoeloofbklaaGreatDoor
namespace Go.Proofs.YtckaoeloofbklaaGreatDoor
open Go Go.RowKit Go.Lib
def plF (I K B : Bool) (N U : Int) (S : ByteArray) : Bool := I && K && !B && decide (N = 0) && decide (U = 0) && decide (S = ⟨#[]⟩)
def freshB (x : ByteArray) (l : List ByteArray) : Bool := decide (∀ y ∈ l, y ≠ x)
theorem fresh_snoc (x y : ByteArray) (l : List ByteArray) : freshB x (l ++ [y]) = (freshB x l && decide (y ≠ x)) := by
 unfold freshB
 rw [Bool.eq_iff_iff]
 simp
 grind
theorem nodup_snoc (l : List ByteArray) (x : ByteArray) : decide (l ++ [x]).Nodup = (decide l.Nodup && freshB x l) := by
 unfold freshB
 rw [Bool.eq_iff_iff]
 simp [List.nodup_append]
theorem plf_1 (b : Bool) (n u : Int) (s : ByteArray) (ks : List ByteArray) (vs : List JV) : JV.plain (.mk 1 b n u s ks vs) = plF (decide (vs.length = 0)) (decide (ks.length = 0)) b n u s := by
 rw [Bool.eq_iff_iff]
 simp [JV.plain, plF] <;> grind
theorem plf_2 (b : Bool) (n u : Int) (s : ByteArray) (ks : List ByteArray) (vs : List JV) : JV.plain (.mk 2 b n u s ks vs) = plF (decide (vs.length = 0)) (decide (ks.length = 0)) false n u s := by
 rw [Bool.eq_iff_iff]
 simp [JV.plain, plF] <;> grind
theorem plf_3 (b : Bool) (n u : Int) (s : ByteArray) (ks : List ByteArray) (vs : List JV) : JV.plain (.mk 3 b n u s ks vs) = plF (decide (vs.length = 0)) (decide (ks.length = 0)) b 0 u s := by
 rw [Bool.eq_iff_iff]
 simp [JV.plain, plF] <;> grind
theorem plf_4 (b : Bool) (n u : Int) (s : ByteArray) (ks : List ByteArray) (vs : List JV) : JV.plain (.mk 4 b n u s ks vs) = plF (decide (vs.length = 0)) (decide (ks.length = 0)) b n 0 s := by
 rw [Bool.eq_iff_iff]
 simp [JV.plain, plF] <;> grind
theorem plf_5 (b : Bool) (n u : Int) (s : ByteArray) (ks : List ByteArray) (vs : List JV) : JV.plain (.mk 5 b n u s ks vs) = plF (decide (vs.length = 0)) (decide (ks.length = 0)) b n u ⟨#[]⟩ := by
 rw [Bool.eq_iff_iff]
 simp [JV.plain, plF] <;> grind
theorem plf_6 (b : Bool) (n u : Int) (s : ByteArray) (ks : List ByteArray) (vs : List JV) : JV.plain (.mk 6 b n u s ks vs) = plF true (decide (ks.length = 0)) b n u s := by
 rw [Bool.eq_iff_iff]
 simp [JV.plain, plF] <;> grind
theorem plf_7 (b : Bool) (n u : Int) (s : ByteArray) (ks : List ByteArray) (vs : List JV) : JV.plain (.mk 7 b n u s ks vs) = plF (decide (ks.length = vs.length)) (decide ks.Nodup) b n u s := by
 rw [Bool.eq_iff_iff]
 simp [JV.plain, plF] <;> grind
theorem fields_no (k : Int) (b : Bool) (n u : Int) (s : ByteArray) (ks : List ByteArray) (vs : List JV) (ka : Option Addr) (kc : Nat) (a : Option Addr) (c : Nat) (w : World) (_hk0 : 0 ≤ k) (_hk9 : k < 256) (hk : k ≠ 1 ∧ k ≠ 2 ∧ k ≠ 3 ∧ k ≠ 4 ∧ k ≠ 5 ∧ k ≠ 6 ∧ k ≠ 7) :
  Calls Tryz.prog 59 #[.agg #[.int .u8 k, .bool b, .int .i64 n, .int .u64 u, .string s, .slice ka ks.length kc, .slice a vs.length c]] w fun e w' => e = .returned (.bool (JV.plain (.mk k b n u s ks vs))) ∧ Below w.heap.size w w' := by
 have hbx := heap_alloc_new w (.cells #[.int .u8 k, .bool b, .int .i64 n, .int .u64 u, .string s, .slice ka ks.length kc, .slice a vs.length c] 27)
 have hbA : Below w.heap.size w (w.alloc (.cells #[.int .u8 k, .bool b, .int .i64 n, .int .u64 u, .string s, .slice ka ks.length kc, .slice a vs.length c] 27)) := (Below.refl _ _).alloc (Nat.le_refl _) _
 have hlA := (Array.getElem?_eq_some_iff.1 hbx).1
 obtain ⟨c0, c1, c2, c3, c4, c5, c6⟩ := cell_agg7 hbx
 have HBA := Lib.hid hbA
 clear hbx hbA
 obtain ⟨hk1, hk2, hk3, hk4, hk5, hk6, hk7⟩ := hk
 have HP : JV.plain (.mk k b n u s ks vs) = false := by simp only [JV.plain]; rw [if_neg hk1, if_neg hk2, if_neg hk3, if_neg hk4, if_neg hk5, if_neg hk6, if_neg hk7]
 rw [HP]
 have j1 : (k == 1) = false := beq_eq_false_iff_ne.2 hk1
 have j2 : (k == 2) = false := beq_eq_false_iff_ne.2 hk2
 have j3 : (k == 3) = false := beq_eq_false_iff_ne.2 hk3
 have j4 : (k == 4) = false := beq_eq_false_iff_ne.2 hk4
 have j5 : (k == 5) = false := beq_eq_false_iff_ne.2 hk5
 have j6 : (k == 6) = false := beq_eq_false_iff_ne.2 hk6
 have j7 : (k == 7) = false := beq_eq_false_iff_ne.2 hk7
 clear HP
 go_enter Tryz.func59, Tryz.ntmps59
 go_wp2_with fail
 go_ret
 exact ⟨rfl, HBA.out⟩
theorem fields_yes (k : Int) (b : Bool) (n u : Int) (s : ByteArray) (ks : List ByteArray) (vs : List JV) (ka : Option Addr) (kc : Nat) (a : Option Addr) (c : Nat) (w : World) (ok : Nat → Prop) (hks : StrsAt ok w ka ks) (hkn : ks.length ≤ 35184372080000) (hk : 1 ≤ k ∧ k ≤ 7) :
  Calls Tryz.prog 59 #[.agg #[.int .u8 k, .bool b, .int .i64 n, .int .u64 u, .string s, .slice ka ks.length kc, .slice a vs.length c]] w fun e w' => e = .returned (.bool (JV.plain (.mk k b n u s ks vs))) ∧ Below w.heap.size w w' := by
 have hbx := heap_alloc_new w (.cells #[.int .u8 k, .bool b, .int .i64 n, .int .u64 u, .string s, .slice ka ks.length kc, .slice a vs.length c] 27)
 have hbA : Below w.heap.size w (w.alloc (.cells #[.int .u8 k, .bool b, .int .i64 n, .int .u64 u, .string s, .slice ka ks.length kc, .slice a vs.length c] 27)) := (Below.refl _ _).alloc (Nat.le_refl _) _
 have hlA := (Array.getElem?_eq_some_iff.1 hbx).1
 have hsA : (w.alloc (.cells #[.int .u8 k, .bool b, .int .i64 n, .int .u64 u, .string s, .slice ka ks.length kc, .slice a vs.length c] 27)).heap.size = w.heap.size + 1 := by simp
 have HKS := Lib.hid hks
 obtain ⟨P, hP⟩ : ∃ P, P = JV.plain (.mk k b n u s ks vs) := ⟨_, rfl⟩
 rw [← hP]
 have HP := Lib.hid hP
 obtain ⟨c0, c1, c2, c3, c4, c5, c6⟩ := cell_agg7 hbx
 have HBX := Lib.hid hbx
 have HBA := Lib.hid hbA
 clear hbx hbA hks hP
 go_enter Tryz.func59, Tryz.ntmps59
 go_upto_region 1 with fail
 generalize w.alloc (.cells #[.int .u8 k, .bool b, .int .i64 n, .int .u64 u, .string s, .slice ka ks.length kc, .slice a vs.length c] 27) = wA at *
 go_upto_block 0 with fail
 go_cut [3, 4, 5, 6] from 17 to 67 (fun s3 s4 _ _ wx => ∃ (I K B : Bool) (N U : Int) (S : ByteArray), s3 = .bool I ∧ s4 = .bool K ∧ P = plF I K B N U S ∧ wx.heap[w.heap.size]? = some (.cells #[.int .u8 k, .bool B, .int .i64 N, .int .u64 U, .string S, .slice ka ks.length kc, .slice a vs.length c] 27 (0, 0)) ∧ Below w.heap.size w wx)
 case first =>
  have q : ∀ j, wA.frozen? ⟨w.heap.size, j, none⟩ = false := fun j => froz_agg HBX.out j
  have hk7 : k = 1 ∨ k = 2 ∨ k = 3 ∨ k = 4 ∨ k = 5 ∨ k = 6 ∨ k = 7 := by omega
  clear hk
  rcases hk7 with rfl | rfl | rfl | rfl | rfl | rfl | rfl
  ·have hpl := HP.out.trans (plf_1 b n u s ks vs)
   have HPL := Lib.hid hpl
   clear hpl HP
   go_wp2_with fail
   go_meet
   exact ⟨_, _, b, n, u, s, rfl, rfl, by rw [HPL.out]; congr 1 <;> first | rfl | (rw [Bool.eq_iff_iff]; simp; try omega), HBX.out, HBA.out⟩
  ·have hpl := HP.out.trans (plf_2 b n u s ks vs)
   have HPL := Lib.hid hpl
   have hst := setCellJ (j := 1) HBX.out (.bool false)
   have HST := Lib.hid hst
   clear hpl hst HP
   go_wp2_with fail
   go_meet
   exact ⟨_, _, false, n, u, s, rfl, rfl, by rw [HPL.out]; congr 1 <;> first | rfl | (rw [Bool.eq_iff_iff]; simp; try omega), HST.out, HBA.out.setCell (Nat.le_refl _) _⟩
  ·have hpl := HP.out.trans (plf_3 b n u s ks vs)
   have HPL := Lib.hid hpl
   have hst := setCellJ (j := 2) HBX.out (.int .i64 0)
   have HST := Lib.hid hst
   clear hpl hst HP
   go_wp2_with fail
   go_meet
   exact ⟨_, _, b, 0, u, s, rfl, rfl, by rw [HPL.out]; congr 1 <;> first | rfl | (rw [Bool.eq_iff_iff]; simp; try omega), HST.out, HBA.out.setCell (Nat.le_refl _) _⟩
  ·have hpl := HP.out.trans (plf_4 b n u s ks vs)
   have HPL := Lib.hid hpl
   have hst := setCellJ (j := 3) HBX.out (.int .u64 0)
   have HST := Lib.hid hst
   clear hpl hst HP
   go_wp2_with fail
   go_meet
   exact ⟨_, _, b, n, 0, s, rfl, rfl, by rw [HPL.out]; congr 1 <;> first | rfl | (rw [Bool.eq_iff_iff]; simp; try omega), HST.out, HBA.out.setCell (Nat.le_refl _) _⟩
  ·have hpl := HP.out.trans (plf_5 b n u s ks vs)
   have HPL := Lib.hid hpl
   have hst := setCellJ (j := 4) HBX.out (.string ⟨#[]⟩)
   have HST := Lib.hid hst
   clear hpl hst HP
   go_wp2_with fail
   go_meet
   exact ⟨_, _, b, n, u, ⟨#[]⟩, rfl, rfl, by rw [HPL.out]; congr 1 <;> first | rfl | (rw [Bool.eq_iff_iff]; simp; try omega), HST.out, HBA.out.setCell (Nat.le_refl _) _⟩
  ·have hpl := HP.out.trans (plf_6 b n u s ks vs)
   have HPL := Lib.hid hpl
   clear hpl HP
   go_wp2_with fail
   go_meet
   exact ⟨_, _, b, n, u, s, rfl, rfl, by rw [HPL.out]; congr 1 <;> first | rfl | (rw [Bool.eq_iff_iff]; simp; try omega), HBX.out, HBA.out⟩
  ·have hpl := HP.out.trans (plf_7 b n u s ks vs)
   have HPL := Lib.hid hpl
   clear hpl HP
   have hkd : ∀ i, i + 1 ≤ ks.length → ∃ x, ks[i]? = some x ∧ ks.take (i + 1) = ks.take i ++ [x] := fun i hi => by
    refine ⟨ks[i]'(by omega), List.getElem?_eq_getElem _, ?_⟩
    rw [List.take_add_one, List.getElem?_eq_getElem (by omega)]; rfl
   have HKD := Lib.hid hkd
   clear hkd
   go_wp2_with fail
   clear c0 c1 c2 c3 c4 c5 c6
   go_loopg [4, 5, 6] ks.length (fun g s4 s5 _ wr => ∃ i : Nat, i + g = ks.length ∧ s4 = .bool (decide (ks.take i).Nodup) ∧ s5 = .int .i64 i ∧ Below wA.heap.size wA wr)
   case atStart => exact ⟨0, by omega, rfl, rfl, Below.refl _ _⟩
   case round =>
    obtain ⟨i, hi, rfl, rfl, hbw⟩ := hrel
    obtain ⟨wo, rfl⟩ : ∃ wo, wo = wr := ⟨_, rfl⟩
    have hbr := (hbw.block w.heap.size hlA).trans HBX.out
    obtain ⟨-, -, -, -, -, c5, -⟩ := cell_agg7 hbr
    have HBW := Lib.hid hbw
    clear hbw hbr
    rcases Nat.lt_or_ge i ks.length with hlt | hge
    ·obtain ⟨x, hx, htk⟩ := HKD.out i hlt
     have HX := Lib.hid hx
     have HTK := Lib.hid htk
     obtain ⟨q, off, ha, _hq, hqw, hc2⟩ := HKS.out.resolve_left (by rintro rfl; simp at hlt)
     have HC2 := Lib.hid hc2
     have hqA : q < wA.heap.size := by omega
     have hlt2 : (i : Int) < (ks.length : Int) := by omega
     clear hx htk hc2 _hq
     subst ha
     obtain ⟨Z, hZ⟩ : ∃ Z, Z = decide (ks.take i).Nodup := ⟨_, rfl⟩
     rw [← hZ]
     have HZ := Lib.hid hZ
     clear hZ
     go_wp2_with fail
     clear c5
     go_loopg [4, 6] i (fun g s4 s6 wr => ∃ k : Nat, k + g = i ∧ s4 = .bool (Z && freshB x (ks.take k)) ∧ s6 = .int .i64 k ∧ Below wA.heap.size wA wr)
     case atStart => exact ⟨0, by omega, by rw [List.take_zero]; simp [freshB], rfl, HBW.out⟩
     case round =>
      obtain ⟨k, hk, rfl, rfl, hbw⟩ := hrel
      have hbr := (hbw.block w.heap.size hlA).trans HBX.out
      obtain ⟨-, -, -, -, -, c5, -⟩ := cell_agg7 hbr
      have HBV := Lib.hid hbw
      rcases Nat.lt_or_ge k i with hlk | hgk
      ·obtain ⟨y, hy, htk⟩ := HKD.out k (by omega)
       have hcq : ∀ j : Nat, wr.cell? ⟨q, j, none⟩ = w.cell? ⟨q, j, none⟩ := fun j => (HBA.out.trans (hbw.mono HBA.out.size)).cell (p := ⟨q, j, none⟩) hqw
       have d1 : wr.cell? ⟨q, off + k, none⟩ = some (.string y) := by rw [hcq]; exact HC2.out k y hy
       have d2 : wr.cell? ⟨q, off + i, none⟩ = some (.string x) := by rw [hcq]; exact HC2.out i x HX.out
       have hmem : freshB x (ks.take (k + 1)) = (freshB x (ks.take k) && decide (y ≠ x)) := by rw [htk, fresh_snoc]
       have HM := Lib.hid hmem
       obtain ⟨Y, hY⟩ : ∃ Y, Y = (Z && freshB x (ks.take k)) := ⟨_, rfl⟩
       rw [← hY]
       have HY := Lib.hid hY
       have hlk2 : (k : Int) < (i : Int) := by omega
       clear hbw hbr hcq hmem hY hy htk
       cases Y with
       | false =>
        go_wp2_with fail
        go_quiet (fail)
        go_wp2_with fail
        go_roundg (gk - 1)
        case measure => omega
        case rel => exact ⟨k + 1, by omega, by rw [HM.out, ← Bool.and_assoc, ← HY.out]; rfl, by go_num, bDrewS HBV.out _⟩
       | true =>
        by_cases hxy : y = x
        ·subst hxy
         go_wp2_with fail
         go_quiet (fail)
         go_wp2_with fail
         go_roundg (gk - 1)
         case measure => omega
         case rel => exact ⟨k + 1, by omega, by rw [HM.out, ← Bool.and_assoc, ← HY.out]; simp, by go_num, bDrewS HBV.out _⟩
        ·have hq1 := bstr_ne hxy
         have hq2 : (y.toList != x.toList) = true := by rw [bne, hq1]; rfl
         have hq3 : ¬ y.toList = x.toList := fun e => by rw [e] at hq1; simp at hq1
         have HXY := Lib.hid hxy
         clear hxy
         go_wp2_with fail
         go_quiet (fail)
         go_wp2_with fail
         go_roundg (gk - 1)
         case measure => omega
         case rel => exact ⟨k + 1, by omega, by rw [HM.out, ← Bool.and_assoc, ← HY.out, decide_eq_true HXY.out]; rfl, by go_num, bDrewS HBV.out _⟩
      ·obtain rfl : k = i := by omega
       have hnl : ¬ (k : Int) < (k : Int) := by omega
       go_wp2_with fail
       go_roundg (ks.length - (k + 1))
       case measure => omega
       case rel => exact ⟨k + 1, by omega, by rw [HTK.out, nodup_snoc, HZ.out], by go_num, HBV.out⟩
    ·obtain rfl : i = ks.length := by omega
     have hnl : ¬ (ks.length : Int) < (ks.length : Int) := by omega
     go_wp2_with fail
     go_meet
     exact ⟨_, _, b, n, u, s, rfl, rfl, by rw [HPL.out]; congr 1 <;> first | rfl | (rw [Bool.eq_iff_iff]; simp; try omega), (HBW.out.block w.heap.size hlA).trans HBX.out, HBA.out.trans (HBW.out.mono HBA.out.size)⟩
 case rest =>
  obtain ⟨I, K, B, N, U, S, rfl, rfl, hP, hbox, hbw⟩ := hcut
  have HB := Lib.hid hbw
  have HPP := Lib.hid hP
  unfold plF at HPP
  clear HBX hlA hsA HKS hbw hP
  obtain ⟨-, c1, c2, c3, c4, -, -⟩ := cell_agg7 hbox
  clear hbox
  cases I with
  | false =>
   go_wp2_with fail
   go_ret
   exact ⟨rboolS (by rw [HPP.out]; simp), HB.out⟩
  | true =>
  cases K with
  | false =>
   go_wp2_with fail
   go_ret
   exact ⟨rboolS (by rw [HPP.out]; simp), HB.out⟩
  | true =>
  cases B with
  | true =>
   go_wp2_with fail
   go_ret
   exact ⟨rboolS (by rw [HPP.out]; simp), HB.out⟩
  | false =>
  by_cases hN : ¬ N = 0
  ·have HN := Lib.hid hN
   have f1 : (N == 0) = false := beq_eq_false_iff_ne.2 hN
   go_wp2_with fail
   go_ret
   exact ⟨rboolS (by rw [HPP.out, decide_eq_false HN.out]; simp), HB.out⟩
  have hN := Decidable.not_not.1 hN
  subst hN
  by_cases hU : ¬ U = 0
  ·have HU := Lib.hid hU
   have f1 : (U == 0) = false := beq_eq_false_iff_ne.2 hU
   go_wp2_with fail
   go_ret
   exact ⟨rboolS (by rw [HPP.out, decide_eq_false HU.out]; simp), HB.out⟩
  have hU := Decidable.not_not.1 hU
  subst hU
  by_cases hS : ¬ S = ⟨#[]⟩
  ·have HS := Lib.hid hS
   have f1 := bstr_ne hS
   have f2 : (S.toList == []) = false := by have := f1; simpa using this
   have f3 : ¬ S.toList = [] := fun e => by rw [e] at f2; simp at f2
   go_wp2_with fail
   go_ret
   exact ⟨rboolS (by rw [HPP.out, decide_eq_false HS.out]; simp), HB.out⟩
  have hS := Decidable.not_not.1 hS
  subst hS
  go_wp2_with fail
  go_ret
  exact ⟨rboolS (by rw [HPP.out]; simp), HB.out⟩
theorem fieldsR_any (ok : Nat → Prop) (v : JV) (V : Value) (w : World) (hj : JAt ok w v V) (hk : 0 ≤ v.kind ∧ v.kind < 256) :
  Calls Tryz.prog 59 #[V] w fun e w' => e = .returned (.bool v.plain) ∧ Below w.heap.size w w' := by
 obtain ⟨k, b, n, u, s, ks, vs⟩ := v
 rw [JAt] at hj
 obtain ⟨ka, kc, a, c, rfl, hks, -, hkn, -⟩ := hj
 simp only [JV.kind] at hk
 by_cases h : 1 ≤ k ∧ k ≤ 7
 ·exact fields_yes k b n u s ks vs ka kc a c w ok hks hkn h
 ·exact fields_no k b n u s ks vs ka kc a c w hk.1 hk.2 (by omega)
end Go.Proofs.YtckaoeloofbklaaGreatDoor
namespace Go.Proofs.YtckaoeloofbklaaGreatDoor
open Go Go.RowKit
def leV : List UInt8 → Nat
 | [] => 0
 | x :: l => x.toNat + 256 * leV l
def NormB (l : List UInt8) : Prop := l.getLast? ≠ some 0
def trimL (l : List UInt8) : List UInt8 := (l.reverse.dropWhile (· == 0)).reverse
theorem leV_app (l m : List UInt8) : leV (l ++ m) = leV l + 256 ^ l.length * leV m := by
 induction l with
 | nil => simp [leV]
 | cons x l ih =>
  rw [List.cons_append, leV, leV, ih, List.length_cons, Nat.pow_succ, Nat.mul_add, Nat.add_assoc, Nat.mul_comm (256 ^ l.length) 256, Nat.mul_assoc]
theorem leV_lt (l : List UInt8) : leV l < 256 ^ l.length := by
 induction l with
 | nil => simp [leV]
 | cons x l ih =>
  have := x.toNat_lt
  rw [leV, List.length_cons, Nat.pow_succ]
  omega
theorem leV_snoc (l : List UInt8) (x : UInt8) : leV (l ++ [x]) = leV l + 256 ^ l.length * x.toNat := by
 rw [leV_app]; simp [leV]
theorem leV_take_drop (l : List UInt8) (k : Nat) (h : k ≤ l.length) : leV l = leV (l.take k) + 256 ^ k * leV (l.drop k) := by
 conv => lhs; rw [← List.take_append_drop k l]
 rw [leV_app, List.length_take, Nat.min_eq_left h]
theorem leV_zeros (l : List UInt8) (h : ∀ x ∈ l, x = 0) : leV l = 0 := by
 induction l with
 | nil => rfl
 | cons x l ih =>
  rw [leV, ih fun y hy => h y (by simp [hy]), h x (by simp)]; rfl
theorem norm_ge (l : List UInt8) (h : NormB l) (h0 : l ≠ []) : 256 ^ (l.length - 1) ≤ leV l := by
 obtain ⟨m, x, rfl⟩ : ∃ m x, l = m ++ [x] := ⟨l.dropLast, l.getLast h0, (List.dropLast_concat_getLast h0).symm⟩
 have hx : x ≠ 0 := by
  intro hx
  apply h
  rw [List.getLast?_append, hx]; rfl
 have hx1 : 1 ≤ x.toNat := by
  rcases Nat.eq_zero_or_pos x.toNat with g | g
  ·exact absurd (UInt8.toNat_inj.1 (by rw [g]; rfl)) hx
  ·exact g
 rw [leV_snoc, List.length_append, List.length_singleton, Nat.add_sub_cancel]
 exact Nat.le_trans (Nat.le_mul_of_pos_right _ hx1) (Nat.le_add_left _ _)
theorem norm_zero (l : List UInt8) (h : NormB l) : leV l = 0 ↔ l = [] := by
 constructor
 ·intro h0
  rcases Classical.em (l = []) with g | g
  ·exact g
  ·have := norm_ge l h g
   have := Nat.pow_pos (n := l.length - 1) (show 0 < 256 by decide)
   omega
 ·rintro rfl; rfl
theorem norm_len (l : List UInt8) (h : NormB l) (K : Nat) (hK : leV l < 256 ^ K) : l.length ≤ K := by
 rcases Classical.em (l = []) with g | g
 ·subst g; exact Nat.zero_le _
 ·have h1 := norm_ge l h g
  have h2 := Nat.lt_of_le_of_lt h1 hK
  have := (Nat.pow_lt_pow_iff_right (a := 256) (by decide)).1 h2
  omega
theorem norm_lt (a b : List UInt8) (hb : NormB b) (h : a.length < b.length) : leV a < leV b := by
 have h1 := leV_lt a
 have h2 := norm_ge b hb (by rintro rfl; simp at h)
 exact Nat.lt_of_lt_of_le h1 (Nat.le_trans (Nat.pow_le_pow_right (by decide) (by omega)) h2)
theorem cmp_at (a b : List UInt8) (i : Nat) (ha : i < a.length) (hb : i < b.length) (hl : a.length = b.length) (hd : a.drop (i + 1) = b.drop (i + 1)) (h : a[i].toNat < b[i].toNat) : leV a < leV b := by
 have ea := leV_take_drop a i (by omega)
 have eb := leV_take_drop b i (by omega)
 rw [List.drop_eq_getElem_cons ha, leV] at ea
 rw [List.drop_eq_getElem_cons hb, leV, ← hd] at eb
 have h1 := leV_lt (a.take i)
 rw [List.length_take, Nat.min_eq_left (by omega)] at h1
 rw [ea, eb]
 generalize 256 * leV (a.drop (i + 1)) = T
 have h2 : 256 ^ i * (a[i].toNat + T) + 256 ^ i ≤ 256 ^ i * (b[i].toNat + T) := by
  rw [← Nat.mul_succ]
  exact Nat.mul_le_mul_left _ (by omega)
 omega
theorem drop_eq (a b : List UInt8) (i : Nat) (ha : i < a.length) (hb : i < b.length) (hd : a.drop (i + 1) = b.drop (i + 1)) (h : a[i] = b[i]) : a.drop i = b.drop i := by
 rw [List.drop_eq_getElem_cons ha, List.drop_eq_getElem_cons hb, hd, h]
theorem trim_norm (l : List UInt8) : NormB (trimL l) := by
 unfold NormB trimL
 rw [List.getLast?_reverse]
 intro h
 cases hd : l.reverse.dropWhile (· == 0) with
 | nil => rw [hd] at h; simp at h
 | cons x t =>
  rw [hd] at h
  simp at h
  have := List.head?_dropWhile_not (p := fun x : UInt8 => x == 0) (l := l.reverse)
  rw [hd] at this
  simp at this
  exact this h
theorem trim_val (l : List UInt8) : leV (trimL l) = leV l := by
 unfold trimL
 have e : l.reverse = l.reverse.takeWhile (· == 0) ++ l.reverse.dropWhile (· == 0) := (List.takeWhile_append_dropWhile).symm
 have e2 : l = (l.reverse.dropWhile (· == 0)).reverse ++ (l.reverse.takeWhile (· == 0)).reverse := by
  rw [← List.reverse_append, ← e, List.reverse_reverse]
 conv => rhs; rw [e2, leV_app]
 rw [leV_zeros (l.reverse.takeWhile (· == 0)).reverse]
 ·simp
 ·intro x hx
  rw [List.mem_reverse] at hx
  have := List.all_eq_true.1 (List.all_takeWhile (p := fun x : UInt8 => x == 0) (l := l.reverse)) x hx
  simpa using this
theorem trim_take (l : List UInt8) (k : Nat) (hk : k ≤ l.length) (h : ∀ x ∈ l.drop k, x = 0) (h2 : k = 0 ∨ ∃ h : k - 1 < l.length, l[k - 1] ≠ 0) : trimL l = l.take k := by
 unfold trimL
 have e : l.reverse = (l.drop k).reverse ++ (l.take k).reverse := by rw [← List.reverse_append, List.take_append_drop]
 rw [e, List.dropWhile_append_of_pos (by intro x hx; rw [List.mem_reverse] at hx; simp [h x hx])]
 rcases h2 with rfl | ⟨h3, h4⟩
 ·simp
 ·have hk0 : k ≠ 0 ∨ k = 0 := by omega
  rcases hk0 with hk0 | rfl
  ·have e3 : l.take k = l.take (k - 1) ++ [l[k - 1]] := by
    have := List.take_succ_eq_append_getElem h3
    rwa [show k - 1 + 1 = k by omega] at this
   rw [e3, List.reverse_append, List.reverse_singleton, List.singleton_append, List.dropWhile_cons, if_neg (by simpa using h4)]
   simp
  ·simp
theorem leV_byte (l : List UInt8) (j : Nat) (h : j < l.length) : leV l / 256 ^ j % 256 = l[j].toNat := by
 have e := leV_take_drop l j (by omega)
 rw [List.drop_eq_getElem_cons h, leV] at e
 have h1 := leV_lt (l.take j)
 rw [List.length_take, Nat.min_eq_left (by omega)] at h1
 have h2 := l[j].toNat_lt
 rw [e, Nat.add_mul_div_left _ _ (Nat.pow_pos (by decide)), Nat.div_eq_of_lt h1, Nat.zero_add]
 omega
theorem leV_bit (l : List UInt8) (n : Nat) (h : n / 8 < l.length) : l[n / 8].toNat / 2 ^ (n % 8) % 2 = leV l / 2 ^ n % 2 := by
 have h1 := leV_byte l (n / 8) h
 have e : (2 : Nat) ^ n = 256 ^ (n / 8) * 2 ^ (n % 8) := by
  rw [show (256 : Nat) = 2 ^ 8 from by decide, ← Nat.pow_mul, ← Nat.pow_add]; congr 1; omega
 rw [e, ← Nat.div_div_eq_div_mul]
 generalize leV l / 256 ^ (n / 8) = X at *
 rw [← h1]
 have h8 : n % 8 < 8 := Nat.mod_lt _ (by decide)
 generalize n % 8 = k at *
 have hk : k = 0 ∨ k = 1 ∨ k = 2 ∨ k = 3 ∨ k = 4 ∨ k = 5 ∨ k = 6 ∨ k = 7 := by omega
 rcases hk with rfl | rfl | rfl | rfl | rfl | rfl | rfl | rfl <;> omega
theorem times_step (o : List UInt8) (A m y T : Nat) (h : leV o + 256 ^ o.length * m = A) (hb : m + y = T) :
  leV (o ++ [UInt8.ofNat (T % 256)]) + 256 ^ (o.length + 1) * (T / 256) = A + 256 ^ o.length * y := by
 rw [leV_snoc, UInt8.toNat_ofNat', Nat.mod_eq_of_lt (show T % 256 < 2 ^ 8 by omega), Nat.pow_succ, ← h, Nat.mul_assoc, Nat.add_assoc, Nat.add_assoc, ← Nat.mul_add, ← Nat.mul_add, hb]
 congr 2
 omega
theorem minus_step (o : List UInt8) (A B P r x y r' : Nat) (P' : UInt8) (h : A + P * r = leV o + B) (hP : P = 256 ^ o.length) (hb : x + 256 * r' = P'.toNat + y + r) :
  A + P * x + 256 ^ (o.length + 1) * r' = leV (o ++ [P']) + (B + P * y) := by
 have h2 : 256 ^ (o.length + 1) * r' = P * (256 * r') := by rw [Nat.pow_succ, hP, Nat.mul_assoc]
 rw [leV_snoc, h2, ← hP]
 have h3 : P * x + P * (256 * r') = P * P'.toNat + P * y + P * r := by rw [← Nat.mul_add, ← Nat.mul_add, ← Nat.mul_add, hb]
 omega
theorem leV_take_succ (l : List UInt8) (k : Nat) (h : k < l.length) : leV (l.take (k + 1)) = leV (l.take k) + 256 ^ k * l[k].toNat := by
 rw [List.take_succ_eq_append_getElem h, leV_snoc, List.length_take, Nat.min_eq_left (by omega)]
end Go.Proofs.YtckaoeloofbklaaGreatDoor
