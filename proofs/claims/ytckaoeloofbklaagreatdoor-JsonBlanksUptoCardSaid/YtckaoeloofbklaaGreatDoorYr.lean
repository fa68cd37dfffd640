/- Joined texts: Jq Jr Js. Each begins with its own remark. -/
import Derived.Test.YtckaoeloofbklaaGreatDoorYq
import Derived.Test.YtckaoeloofbklaaGreatDoorYk
import Derived.Test.YtckaoeloofbklaaGreatDoorYl
namespace Go.Proofs.YtckaoeloofbklaaGreatDoor
open Go Go.RowKit Go.Lib
theorem ent_list1 : ∀ args w, (callFunc 74 args).run Tryz.prog w = .ok (.enter 74 args) w := enters_of Tryz.func74 (by kernel_rfl) rfl
theorem ent_rec1 : ∀ args w, (callFunc 75 args).run Tryz.prog w = .ok (.enter 75 args) w := enters_of Tryz.func75 (by kernel_rfl) rfl
theorem it_of {ok : Nat → Prop} {w : World} {g : Nat} : ∀ (l : List JV) (Vs : List Value) (off : Nat), JAll ok w l Vs → (∀ i u, (Vs.flatMap c7)[i]? = some u → w.cell? ⟨g, off + i, none⟩ = some u) → ItAt ok w g off l
  | [], _, _, _, _ => by rw [ItAt]; trivial
  | v :: l, [], _, h, _ => h.elim
  | v :: l, V :: Vs, off, h, hc => by
    obtain ⟨⟨hV, x0, x1, x2, x3, x4, x5, x6, rfl⟩, h2⟩ := h
    rw [ItAt]
    have hc' : ∀ i u, ([x0, x1, x2, x3, x4, x5, x6] ++ Vs.flatMap c7)[i]? = some u → w.cell? ⟨g, off + i, none⟩ = some u := fun i u hu => hc i u (by rw [List.flatMap_cons]; exact hu)
    refine ⟨⟨_, ⟨x0, x1, x2, x3, x4, x5, x6, rfl, hc' 0 _ rfl, hc' 1 _ rfl, hc' 2 _ rfl, hc' 3 _ rfl, hc' 4 _ rfl, hc' 5 _ rfl, hc' 6 _ rfl⟩, hV⟩, it_of l Vs (off + 7) h2 fun i u hu => ?_⟩
    have := hc' (7 + i) u (by rw [List.getElem?_append_right (by simp)]; simpa using hu)
    rwa [show off + (7 + i) = off + 7 + i by omega] at this
section
variable {r : Nat} {s : ByteArray} {d b rb : Nat} {w0 : World} {k : Int} {slk : Value} {ks : List ByteArray} {t : List UInt8} {slb slr : Value} {n : Nat} {xs : List Value} {l : List JV} {Vs : List Value} {W W' : World}
theorem LS.god {t' : List UInt8} {d' : Nat} (h : LS r s d b rb w0 k slk ks t slb slr n xs l Vs W) (hk : KR r W W') (hr : Rd r s t' d' W') : LS r s d' b rb w0 k slk ks t' slb slr n xs l Vs W' := by
  have hr0 := h.r0
  have hb0 := h.b0
  have hrb0 := h.rb0
  have hws := h.kr.size
  refine ⟨hr, h.kr.trans hk, h.r0, h.b0, h.rb0, (hk.block b (Array.getElem?_eq_some_iff.1 h.box).1 (by omega)).trans h.box, (hk.block rb (Array.getElem?_eq_some_iff.1 h.rbx).1 (by omega)).trans h.rbx, row_kept h.row fun g hg => ?_, h.ne, row_kept h.keys fun g hg => ?_, h.its.kept fun j hj hj2 => ⟨hk.block j hj2 (by omega), hj⟩⟩
  · obtain ⟨g1, g2, -⟩ := row_blk h.row hg
    exact hk.block g g2 (by omega)
  · obtain ⟨g1, g2, -⟩ := row_blk h.keys hg
    exact hk.block g g2 (by omega)
theorem LS.out {sl : Value} (h : LS r s d b rb w0 k slk ks t sl sl l.length (Vs.flatMap c7) l Vs W) {n0 : Nat} (hw : n0 ≤ w0.heap.size) (hkeep : ∀ j, w0.heap.size ≤ j → j < W.heap.size → W'.heap[j]? = W.heap[j]?) (hl1 : ks.length ≤ 35184372080000) (hl2 : l.length ≤ 35184372080000) :
    JAt (fun j => n0 ≤ j) W' (.mk k false 0 0 ⟨#[]⟩ ks l) (.agg #[.int .u8 k, .bool false, .int .i64 0, .int .u64 0, .string ⟨#[]⟩, slk, sl]) := by
  rw [JAt]
  have hblk : ∀ j, w0.heap.size ≤ j → j < W.heap.size → j < W'.heap.size := fun j h1 h2 => (Array.getElem?_eq_some_iff.1 ((hkeep j h1 h2).trans (Array.getElem?_eq_getElem h2))).1
  have hK : ∃ a c, slk = .slice a ks.length c ∧ StrsAt (fun j => n0 ≤ j) W' a ks := by
    rcases h.keys.2 with ⟨h1, h2⟩ | ⟨g, cap, cur, h1, _⟩
    · exact ⟨none, 0, by rw [h1, h2], .inl (List.length_eq_zero_iff.1 h2)⟩
    · refine ⟨some ⟨g, 0, none⟩, cap, h1, ?_⟩
      obtain ⟨hg1, hg2, -⟩ := row_blk h.keys (g := g) (by rw [h1]; rfl)
      by_cases hks : ks = []
      · exact .inl hks
      · refine .inr ⟨g, 0, rfl, by omega, hblk g hg1 hg2, fun j x hj => ?_⟩
        have := h.keys.cells (g := g) (by rw [h1]; rfl) j (.string x) (by simp [List.getElem?_map, hj])
        have hadd : (⟨g, 0, none⟩ : Addr).add j = ⟨g, 0 + j, none⟩ := by unfold Addr.add; split <;> simp_all
        rw [hadd] at this
        rw [World.cell?_of_block (hkeep g hg1 hg2)]
        exact this
  have hI : ∃ a c, sl = .slice a l.length c ∧ (l = [] ∨ ∃ q off, a = some ⟨q, off, none⟩ ∧ n0 ≤ q ∧ q < W'.heap.size ∧ ItAt (fun j => n0 ≤ j) W' q off l) := by
    rcases h.row.2 with ⟨h1, h2⟩ | ⟨g, cap, cur, h1, _⟩
    · exact ⟨none, 0, by rw [h1, h2], .inl (List.length_eq_zero_iff.1 h2)⟩
    · obtain ⟨hg1, hg2, -⟩ := row_blk h.row (g := g) (by rw [h1]; rfl)
      refine ⟨some ⟨g, 0, none⟩, cap, h1, .inr ⟨g, 0, rfl, by omega, hblk g hg1 hg2, it_of l Vs 0 (h.its.kept fun j hj hj2 => ⟨hkeep j hj.1 hj2, by omega⟩) fun i u hu => ?_⟩⟩
      have := h.row.cells (g := g) (by rw [h1]; rfl) i u hu
      have hadd : (⟨g, 0, none⟩ : Addr).add i = ⟨g, 0 + i, none⟩ := by unfold Addr.add; split <;> simp_all
      rw [hadd] at this
      rw [World.cell?_of_block (hkeep g hg1 hg2)]
      exact this
  obtain ⟨a, c, e1, h1⟩ := hK
  obtain ⟨a', c', e2, h2⟩ := hI
  exact ⟨a, c, a', c', by rw [e1, e2], h1, h2, hl1, hl2⟩
end
def InvL (r : Nat) (s : ByteArray) (d b rb : Nat) (w0 : World) (l : List JV) (t : List UInt8) (W : World) : Prop :=
  l.length + t.length ≤ s.size ∧ ∃ sl Vs, LS r s (d + 1) b rb w0 6 (.slice none 0 0) [] t sl sl l.length (Vs.flatMap c7) l Vs W
def InvR (r : Nat) (s : ByteArray) (d b rb : Nat) (w0 : World) (x : List ByteArray × List JV) (t : List UInt8) (W : World) : Prop :=
  x.1.length + t.length ≤ s.size ∧ x.2.length + t.length ≤ s.size ∧ ∃ slk sl Vs, LS r s (d + 1) b rb w0 7 slk x.1 t sl sl x.2.length (Vs.flatMap c7) x.2 Vs W
theorem invL_ok (r : Nat) (s : ByteArray) (d b rb : Nat) (w0 : World) : InvOK (InvL r s d b rb w0) r s d w0 :=
  ⟨fun _ _ _ ⟨_, _, _, h⟩ => h.rd, fun _ _ _ ⟨_, _, _, h⟩ => h.kr, fun _ _ _ _ _ ⟨h0, _, _, h⟩ ht hk hr => ⟨by omega, _, _, h.go hk hr⟩⟩
theorem invR_ok (r : Nat) (s : ByteArray) (d b rb : Nat) (w0 : World) : InvOK (InvR r s d b rb w0) r s d w0 :=
  ⟨fun _ _ _ ⟨_, _, _, _, _, h⟩ => h.rd, fun _ _ _ ⟨_, _, _, _, _, h⟩ => h.kr, fun _ _ _ _ _ ⟨h0, h1, _, _, _, h⟩ ht hk hr => ⟨by omega, by omega, _, _, _, h.go hk hr⟩⟩
theorem row_form {W : World} {B : Nat} {e : TypeId} {z n : Nat} {v : Value} {xs : List Value} (h : W.ownsRow B e z v n xs) : ∃ ao cap, v = .slice ao n cap := by
  rcases h.2 with ⟨h1, h2⟩ | ⟨g, cap, cur, h1, _⟩
  · exact ⟨_, _, by rw [h2]; exact h1⟩
  · exact ⟨_, _, h1⟩
theorem ls_init {r : Nat} {s : ByteArray} {t : List UInt8} {d rb : Nat} {W0 : World} (k : Int) (h : Rd r s t d W0) (hrb : W0.heap[rb]? = some (.cells #[.pointer (some ⟨r, 0, none⟩)] 54 (0, 0))) (hne : rb ≠ r) :
    LS r s d W0.heap.size rb W0 k (.slice none 0 0) [] t (.slice none 0 0) (.slice none 0 0) 0 [] [] [] (W0.alloc (.cells #[.int .u8 k, .bool false, .int .i64 0, .int .u64 0, .string ⟨#[]⟩, .slice none 0 0, .slice none 0 0] 27)) :=
  ⟨h.alloc _, (KR.refl r W0).alloc _, h.lt, Nat.le_refl _, hne, heap_alloc_new W0 _, (heapJ_old W0 _ rb (Array.getElem?_eq_some_iff.1 hrb).1).trans hrb, ⟨rfl, .inl ⟨rfl, rfl⟩⟩, by simp [Value.ownBlock], ⟨rfl, .inl ⟨rfl, rfl⟩⟩, trivial⟩
theorem two_blocks {r : Nat} {s : ByteArray} {t : List UInt8} {d : Nat} {w : World} (h : Rd r s t d w) (o : Obj) :
    Rd r s t d ((w.alloc (.cells #[.pointer (some ⟨r, 0, none⟩)] 54)).alloc o) ∧ KR r w ((w.alloc (.cells #[.pointer (some ⟨r, 0, none⟩)] 54)).alloc o) ∧ ((w.alloc (.cells #[.pointer (some ⟨r, 0, none⟩)] 54)).alloc o).heap.size = w.heap.size + 1 + 1 ∧
    ((w.alloc (.cells #[.pointer (some ⟨r, 0, none⟩)] 54)).alloc o).heap[w.heap.size]? = some (.cells #[.pointer (some ⟨r, 0, none⟩)] 54 (0, 0)) := by
  refine ⟨(h.alloc _).alloc _, ((KR.refl r w).alloc _).alloc _, by simp, ?_⟩
  rw [heapJ_old _ _ _ (by simp)]
  exact heap_alloc_new _ _
set_option maxRecDepth 100000 in
set_option maxHeartbeats 16000000 in
theorem rec1_twice (r : Nat) (s : ByteArray) (d b rb : Nat) (w0 : World) (t t1 x t2 : List UInt8) (slk : Value) (ks : List ByteArray) (sl : Value) (l : List JV) (Vs : List Value) (w : World) (h : LS r s d b rb w0 7 slk ks t sl sl l.length (Vs.flatMap c7) l Vs w) (hks : (ks.length + 1) * 16 ≤ 140737488355328) (h17 : 17 ≤ r) (hT : Lib.Utf8Tabs 0 1 w0)
    (e1 : skipB t = 34 :: t1) (e2 : Str decB8 enc t1 x t2) (e3 : ⟨x.toArray⟩ ∈ ks) :
    Calls Tryz.prog 75 #[.pointer (some ⟨rb, 0, none⟩), .pointer (some ⟨b, 0, none⟩)] w fun e w' => Gives 162 (s.size - (skipB t).length) e ∧ KR r w0 w' := by
  obtain ⟨ka, kc, hk⟩ : ∃ ao cap, slk = .slice ao ks.length cap := by
    rcases h.keys.2 with ⟨h1, h2⟩ | ⟨g, cap, cur, h1, _⟩
    · exact ⟨_, _, by rw [h2]; exact h1⟩
    · exact ⟨_, _, h1⟩
  subst hk
  have HL := Lib.hid h
  have HB := Lib.hid (blanks_any r s t d w h.rd)
  have crb : w.cell? ⟨rb, 0, none⟩ = some (.pointer (some ⟨r, 0, none⟩)) := by have := h.rbx; rw [cell_of_row _ _ 0 _ _ _ this]; rfl
  clear h
  unfold Gives wrongV
  rw [e1]
  go_enter Tryz.func75, Tryz.ntmps75
  go_wp2_with fail
  refine HB.out.mono ?_
  rintro e wb ⟨rfl, hr1, hk1⟩
  rw [e1] at hr1
  have h1 := HL.out.go hk1 hr1
  have HL1 := Lib.hid h1
  clear HB HL crb
  have crb : wb.cell? ⟨rb, 0, none⟩ = some (.pointer (some ⟨r, 0, none⟩)) := by have := h1.rbx; rw [cell_of_row _ _ 0 _ _ _ this]; rfl
  obtain ⟨m, -, hmm, -, cm⟩ := h1.rd.head
  have HQ := Lib.hid (quoted_any r s t1 x t2 d wb h1.rd h17 (utabs_kept hT (h1.kr.low' h17 (by have := h1.r0; omega))) e2)
  clear h1 hr1 hk1
  go_wp2_with fail
  refine HQ.out.mono ?_
  rintro e wq ⟨rfl, hr2, hk2⟩
  have h2 := HL1.out.go hk2 hr2
  have HL2 := Lib.hid h2
  clear HQ HL1 crb cm
  have HH := Lib.hid (h2.has (by omega) ⟨x.toArray⟩)
  have hno : Lib.containsS ks ⟨x.toArray⟩ = true := by rw [Lib.containsS_iff]; exact e3
  have ck : wq.cell? ⟨b, 5, none⟩ = some (.slice ka ks.length kc) := by have := h2.box; rw [cell_of_row _ _ 5 _ _ _ this]; rfl
  clear h2 hr2 hk2
  go_wp2_with fail
  refine HH.out.mono ?_
  rintro e wh ⟨rfl, hw⟩
  subst hw
  rw [hno]
  have hpos : s.size - (t1.length + 1) = m := by omega
  go_wp2_with fail
  exact ⟨rfl, by rw [hpos], HL2.out.kr⟩
theorem str_len {t out t' : List UInt8} (h : Str decB8 enc t out t') : t'.length ≤ t.length := by
  induction h with
  | last => simp; omega
  | esc _ he _ ih =>
    have := (esc_len he).2.1
    simp; omega
theorem skip_len (t : List UInt8) : (skipB t).length ≤ t.length := (List.dropWhile_suffix _).length_le
theorem one_list (P : List UInt8 → Out JV → Prop) (hP : ∀ t v t', P t (.ok v t') → t'.length < t.length) (r : Nat) (s : ByteArray) (d b rb : Nat) (hs40 : (s.size + 1) * 88 ≤ 140737488355328) (w0 : World)
    (HC : ∀ W t o, KR r w0 W → Rd r s t (d + 1) W → P t o → Calls Tryz.prog 25 #[.pointer (some ⟨r, 0, none⟩)] W (ValPost r s (d + 1) W o)) (st : (List JV)) (t : List UInt8) (o : Out (List JV)) (W : World) (hv : InvL r s d b rb w0 st t W) (ho : OneL P st t o) :
    Calls Tryz.prog 74 #[.pointer (some ⟨b, 0, none⟩), .pointer (some ⟨rb, 0, none⟩)] W (OnePost (InvL r s d b rb w0) r s w0 o) := by
  obtain ⟨h0, sl, Vs, hls⟩ := hv
  cases ho with
  | ok hp =>
    have := hP _ _ _ hp
    refine (list1_any r s (d + 1) b rb w0 t sl st Vs _ W hls (by omega) (fun W hk hr => HC W t _ hk hr hp)).mono ?_
    rintro e w' ⟨rfl, sl', Vs', h2⟩
    exact ⟨rfl, by simp; omega, _, _, h2⟩
  | err hp =>
    refine (list1_any r s (d + 1) b rb w0 t sl st Vs _ W hls (by omega) (fun W hk hr => HC W t _ hk hr hp)).mono ?_
    rintro e w' ⟨h1, h2⟩
    exact ⟨h1, h2⟩
set_option maxRecDepth 100000 in
set_option maxHeartbeats 16000000 in
theorem list_yes (P : List UInt8 → Out JV → Prop) (hP : ∀ t v t', P t (.ok v t') → t'.length < t.length) (r : Nat) (s : ByteArray) (d : Nat) (hd : d < 64) (hs40 : (s.size + 1) * 88 ≤ 140737488355328) (t : List UInt8) (w : World) (h : Rd r s (91 :: t) d w)
    (HC : ∀ W t o, KR r w W → Rd r s t (d + 1) W → P t o → Calls Tryz.prog 25 #[.pointer (some ⟨r, 0, none⟩)] W (ValPost r s (d + 1) W o)) (o : Out (List JV)) (ho : Sev0 93 (OneL P) [] (skipB t) o) :
    Calls Tryz.prog 48 #[.pointer (some ⟨r, 0, none⟩)] w (ValPost r s d w (o.map jList)) := by
  have hrl := h.lt
  have hlen := h.len
  have hbig := h.big
  obtain ⟨h0, k0, s0, n0⟩ := two_blocks h (.cells #[.int .u8 0, .bool false, .int .i64 0, .int .u64 0, .string ⟨#[]⟩, .slice none 0 0, .slice none 0 0] 27)
  have q0 : ((w.alloc (.cells #[.pointer (some ⟨r, 0, none⟩)] 54)).alloc (.cells #[.int .u8 0, .bool false, .int .i64 0, .int .u64 0, .string ⟨#[]⟩, .slice none 0 0, .slice none 0 0] 27)).heap[w.heap.size + 1]? = some (.cells #[.int .u8 0, .bool false, .int .i64 0, .int .u64 0, .string ⟨#[]⟩, .slice none 0 0, .slice none 0 0] 27 (0, 0)) := by
    have := heap_alloc_new (w.alloc (.cells #[.pointer (some ⟨r, 0, none⟩)] 54)) (.cells #[.int .u8 0, .bool false, .int .i64 0, .int .u64 0, .string ⟨#[]⟩, .slice none 0 0, .slice none 0 0] 27)
    simpa using this
  have hin := ls_init (t := 91 :: t) 6 h0 n0 (by omega)
  have HIN := Lib.hid hin
  have HK0 := Lib.hid k0
  have HQ0 := Lib.hid q0
  have HC := Lib.hid HC
  have HO := Lib.hid ho
  clear h h0 n0 k0 q0 ho hin
  go_enter Tryz.func48, Tryz.ntmps48
  go_upto_region 2 with fail
  generalize (w.alloc (.cells #[.pointer (some ⟨r, 0, none⟩)] 54)).alloc (.cells #[.int .u8 0, .bool false, .int .i64 0, .int .u64 0, .string ⟨#[]⟩, .slice none 0 0, .slice none 0 0] 27) = W0 at *
  have crb : (W0.alloc (.cells #[.int .u8 6, .bool false, .int .i64 0, .int .u64 0, .string ⟨#[]⟩, .slice none 0 0, .slice none 0 0] 27)).cell? ⟨w.heap.size, 0, none⟩ = some (.pointer (some ⟨r, 0, none⟩)) := by have := HIN.out.rbx; rw [cell_of_row _ _ 0 _ _ _ this]; rfl
  have HWI := Lib.hid (within_yes r s 91 t d _ HIN.out.rd hd)
  go_wp2_with fail
  refine HWI.out.mono ?_
  rintro e w1 ⟨rfl, hr1, hk1⟩
  have h1 := HIN.out.god hk1 hr1
  rw [s0] at h1
  have HL := Lib.hid h1
  have crb : w1.cell? ⟨w.heap.size, 0, none⟩ = some (.pointer (some ⟨r, 0, none⟩)) := by have := h1.rbx; rw [cell_of_row _ _ 0 _ _ _ this]; rfl
  clear HWI HIN hr1 hk1 h1
  have hmf : ∀ (fn : Fn) (first cap : Array Value) (w : World), (Instr.makeFunc fn first cap).run Tryz.prog w = .ok (.func fn first cap) w := fun _ _ _ _ => rfl
  have hsk : (skipB t).length ≤ t.length := (List.dropWhile_suffix _).length_le
  have hstart : InvL r s d (w.heap.size + 1 + 1) w.heap.size W0 [] (skipB t) w1 := ⟨by simp at hlen ⊢; omega, .slice none 0 0, [], HL.out⟩
  have HSV := Lib.hid (several_any (InvL r s d (w.heap.size + 1 + 1) w.heap.size W0) (OneL P) 74 #[.pointer (some ⟨w.heap.size + 1 + 1, 0, none⟩), .pointer (some ⟨w.heap.size, 0, none⟩)] ent_list1 93 (by decide) r s d hd W0 (invL_ok r s d _ _ W0)
    (one_list P hP r s d _ _ hs40 W0 (fun W t o hk hr hp => HC.out W t o (HK0.out.trans hk) hr hp)) [] (skipB t) w1 hstart o HO.out)
  clear hstart
  go_wp2_with fail
  refine HSV.out.mono ?_
  intro e w2 hp
  cases o with
  | err x t' =>
    obtain ⟨hg, hk2⟩ := hp
    unfold Gives at hg
    subst hg
    exact ⟨rfl, rfl, HK0.out.trans hk2⟩
  | ok x t' =>
    obtain ⟨rfl, W1, hv, hr2, hk2⟩ := hp
    obtain ⟨hl0, sl, Vs, hls⟩ := hv
    obtain ⟨ao, co, rfl⟩ := row_form hls.row
    have h2 := hls.god hk2 hr2
    have HL2 := Lib.hid h2
    have hq := (h2.kr.block (w.heap.size + 1) (by omega) (by omega)).trans HQ0.out
    obtain ⟨b0, b1, b2, b3, b4, b5, b6⟩ := cell_agg7 h2.box
    have q : ∀ j, w2.frozen? ⟨w.heap.size + 1, j, none⟩ = false := fun j => froz_agg hq j
    obtain ⟨q0, q1, q2, q3, q4, q5, q6⟩ := cell_agg7 hq
    have HQ := Lib.hid hq
    clear hls hk2 hr2 h2 hq HSV
    go_wp2_with fail
    show bodyPost _ _ _ _ _ (set7 w2 (w.heap.size + 1) (.int .u8 6) (.bool false) (.int .i64 0) (.int .u64 0) (.string ⟨#[]⟩) (.slice none 0 0) (.slice ao x.length co))
    have hF := seven_set HQ.out (.int .u8 6) (.bool false) (.int .i64 0) (.int .u64 0) (.string ⟨#[]⟩) (.slice none 0 0) (.slice ao x.length co)
    have hk := set7_kr (p := w.heap.size + 1) (HK0.out.trans HL2.out.kr) (by omega) (.int .u8 6) (.bool false) (.int .i64 0) (.int .u64 0) (.string ⟨#[]⟩) (.slice none 0 0) (.slice ao x.length co)
    have hb : ∀ j, j ≠ w.heap.size + 1 → _ := fun j hj => set7_block (w := w2) hj (.int .u8 6) (.bool false) (.int .i64 0) (.int .u64 0) (.string ⟨#[]⟩) (.slice none 0 0) (.slice ao x.length co)
    unfold set7 at hk hb ⊢
    generalize ((((((w2.setCell ⟨w.heap.size + 1, 0, none⟩ (.int .u8 6)).setCell ⟨w.heap.size + 1, 1, none⟩ (.bool false)).setCell ⟨w.heap.size + 1, 2, none⟩ (.int .i64 0)).setCell ⟨w.heap.size + 1, 3, none⟩ (.int .u64 0)).setCell ⟨w.heap.size + 1, 4, none⟩ (.string ⟨#[]⟩)).setCell ⟨w.heap.size + 1, 5, none⟩ (.slice none 0 0)).setCell ⟨w.heap.size + 1, 6, none⟩ (.slice ao x.length co) = F at *
    obtain ⟨g0, g1, g2, g3, g4, g5, g6⟩ := cell_agg7 hF
    refine bodyPost_ret (v := .agg #[.int .u8 6, .bool false, .int .i64 0, .int .u64 0, .string ⟨#[]⟩, (.slice none 0 0), (.slice ao x.length co)]) (by simp [results, Tryz.results48, go_sem, g0, g1, g2, g3, g4, g5, g6]) rfl ?_
    exact ⟨_, rfl, HL2.out.out (by omega) (fun j hj _ => hb j (by omega)) (by simp) (by omega), HL2.out.rd.kept (hb r (by omega)), hk⟩
theorem one_record (P : List UInt8 → Out JV → Prop) (hP : ∀ t v t', P t (.ok v t') → t'.length < t.length) (r : Nat) (s : ByteArray) (d b rb : Nat) (hs40 : (s.size + 1) * 88 ≤ 140737488355328) (h17 : 17 ≤ r) (w0 : World) (hT : Lib.Utf8Tabs 0 1 w0)
    (HC : ∀ W t o, KR r w0 W → Rd r s t (d + 1) W → P t o → Calls Tryz.prog 25 #[.pointer (some ⟨r, 0, none⟩)] W (ValPost r s (d + 1) W o)) (st : (List ByteArray × List JV)) (t : List UInt8) (o : Out (List ByteArray × List JV)) (W : World) (hv : InvR r s d b rb w0 st t W) (ho : OneR decB8 enc P st t o) :
    Calls Tryz.prog 75 #[.pointer (some ⟨rb, 0, none⟩), .pointer (some ⟨b, 0, none⟩)] W (OnePost (InvR r s d b rb w0) r s w0 o) := by
  obtain ⟨ks, vs⟩ := st
  obtain ⟨h0, h1, slk, sl, Vs, hls⟩ := hv
  replace h0 : ks.length + t.length ≤ s.size := h0
  replace h1 : vs.length + t.length ≤ s.size := h1
  replace hls : LS r s (d + 1) b rb w0 7 slk ks t sl sl vs.length (Vs.flatMap c7) vs Vs W := hls
  cases ho with
  | ok e1 e2 e3 e4 hp =>
    rename_i t1 k t2 t3 v t4
    have q1 := hP _ _ _ hp
    have q2 := str_len e2
    have q3 := skip_len t
    rw [e1, List.length_cons] at q3
    have q4 := skip_len t2
    rw [e4, List.length_cons] at q4
    refine (rec1_go P r s (d + 1) b rb w0 t _ _ _ _ slk _ sl _ Vs _ W hls (by omega) (by omega) h17 hT e1 e2 e3 e4 (fun W hk hr => HC W _ _ hk hr hp)).mono ?_
    rintro e w' ⟨rfl, slk', sl', Vs', h2⟩
    exact ⟨rfl, by simp; omega, by simp; omega, _, _, _, h2⟩
  | err e1 e2 e3 e4 hp =>
    refine (rec1_go P r s (d + 1) b rb w0 t _ _ _ _ slk _ sl _ Vs _ W hls (by omega) (by omega) h17 hT e1 e2 e3 e4 (fun W hk hr => HC W _ _ hk hr hp)).mono ?_
    rintro e w' ⟨h1, h2⟩
    exact ⟨h1, h2⟩
  | twice e1 e2 e3 =>
    refine (rec1_twice r s (d + 1) b rb w0 t _ _ _ slk _ sl _ Vs W hls (by omega) h17 hT e1 e2 e3).mono ?_
    rintro e w' ⟨h1, h2⟩
    exact ⟨h1, h2⟩
set_option maxRecDepth 100000 in
set_option maxHeartbeats 16000000 in
theorem record_yes (P : List UInt8 → Out JV → Prop) (hP : ∀ t v t', P t (.ok v t') → t'.length < t.length) (r : Nat) (s : ByteArray) (d : Nat) (hd : d < 64) (hs40 : (s.size + 1) * 88 ≤ 140737488355328) (h17 : 17 ≤ r) (t : List UInt8) (w : World) (h : Rd r s (123 :: t) d w) (hT : Lib.Utf8Tabs 0 1 w)
    (HC : ∀ W t o, KR r w W → Rd r s t (d + 1) W → P t o → Calls Tryz.prog 25 #[.pointer (some ⟨r, 0, none⟩)] W (ValPost r s (d + 1) W o)) (o : Out (List ByteArray × List JV)) (ho : Sev0 125 (OneR decB8 enc P) ([], []) (skipB t) o) :
    Calls Tryz.prog 49 #[.pointer (some ⟨r, 0, none⟩)] w (ValPost r s d w (o.map (fun x => jRec x.1 x.2))) := by
  have hrl := h.lt
  have hlen := h.len
  have hbig := h.big
  obtain ⟨h0, k0, s0, n0⟩ := two_blocks h (.cells #[.int .u8 0, .bool false, .int .i64 0, .int .u64 0, .string ⟨#[]⟩, .slice none 0 0, .slice none 0 0] 27)
  have q0 : ((w.alloc (.cells #[.pointer (some ⟨r, 0, none⟩)] 54)).alloc (.cells #[.int .u8 0, .bool false, .int .i64 0, .int .u64 0, .string ⟨#[]⟩, .slice none 0 0, .slice none 0 0] 27)).heap[w.heap.size + 1]? = some (.cells #[.int .u8 0, .bool false, .int .i64 0, .int .u64 0, .string ⟨#[]⟩, .slice none 0 0, .slice none 0 0] 27 (0, 0)) := by
    have := heap_alloc_new (w.alloc (.cells #[.pointer (some ⟨r, 0, none⟩)] 54)) (.cells #[.int .u8 0, .bool false, .int .i64 0, .int .u64 0, .string ⟨#[]⟩, .slice none 0 0, .slice none 0 0] 27)
    simpa using this
  have hin := ls_init (t := 123 :: t) 7 h0 n0 (by omega)
  have HIN := Lib.hid hin
  have HK0 := Lib.hid k0
  have HQ0 := Lib.hid q0
  have HC := Lib.hid HC
  have HO := Lib.hid ho
  clear h h0 n0 k0 q0 ho hin
  go_enter Tryz.func49, Tryz.ntmps49
  go_upto_region 2 with fail
  generalize (w.alloc (.cells #[.pointer (some ⟨r, 0, none⟩)] 54)).alloc (.cells #[.int .u8 0, .bool false, .int .i64 0, .int .u64 0, .string ⟨#[]⟩, .slice none 0 0, .slice none 0 0] 27) = W0 at *
  have crb : (W0.alloc (.cells #[.int .u8 7, .bool false, .int .i64 0, .int .u64 0, .string ⟨#[]⟩, .slice none 0 0, .slice none 0 0] 27)).cell? ⟨w.heap.size, 0, none⟩ = some (.pointer (some ⟨r, 0, none⟩)) := by have := HIN.out.rbx; rw [cell_of_row _ _ 0 _ _ _ this]; rfl
  have HWI := Lib.hid (within_yes r s 123 t d _ HIN.out.rd hd)
  go_wp2_with fail
  refine HWI.out.mono ?_
  rintro e w1 ⟨rfl, hr1, hk1⟩
  have h1 := HIN.out.god hk1 hr1
  rw [s0] at h1
  have HL := Lib.hid h1
  have crb : w1.cell? ⟨w.heap.size, 0, none⟩ = some (.pointer (some ⟨r, 0, none⟩)) := by have := h1.rbx; rw [cell_of_row _ _ 0 _ _ _ this]; rfl
  clear HWI HIN hr1 hk1 h1
  have hmf : ∀ (fn : Fn) (first cap : Array Value) (w : World), (Instr.makeFunc fn first cap).run Tryz.prog w = .ok (.func fn first cap) w := fun _ _ _ _ => rfl
  have hsk : (skipB t).length ≤ t.length := (List.dropWhile_suffix _).length_le
  have hstart : InvR r s d (w.heap.size + 1 + 1) w.heap.size W0 ([], []) (skipB t) w1 := ⟨by simp at hlen ⊢; omega, by simp at hlen ⊢; omega, .slice none 0 0, .slice none 0 0, [], HL.out⟩
  have HSV := Lib.hid (several_any (InvR r s d (w.heap.size + 1 + 1) w.heap.size W0) (OneR decB8 enc P) 75 #[.pointer (some ⟨w.heap.size, 0, none⟩), .pointer (some ⟨w.heap.size + 1 + 1, 0, none⟩)] ent_rec1 125 (by decide) r s d hd W0 (invR_ok r s d _ _ W0)
    (one_record P hP r s d _ _ hs40 h17 W0 (utabs_kept hT (HK0.out.low' h17 (by omega))) (fun W t o hk hr hp => HC.out W t o (HK0.out.trans hk) hr hp)) ([], []) (skipB t) w1 hstart o HO.out)
  clear hstart
  go_wp2_with fail
  refine HSV.out.mono ?_
  intro e w2 hp
  cases o with
  | err x t' =>
    obtain ⟨hg, hk2⟩ := hp
    unfold Gives at hg
    subst hg
    exact ⟨rfl, rfl, HK0.out.trans hk2⟩
  | ok x t' =>
    obtain ⟨rfl, W1, hv, hr2, hk2⟩ := hp
    obtain ⟨hl0, hl1, slk, sl, Vs, hls⟩ := hv
    obtain ⟨ka, kc, rfl⟩ := row_form hls.keys
    obtain ⟨ao, co, rfl⟩ := row_form hls.row
    have h2 := hls.god hk2 hr2
    have HL2 := Lib.hid h2
    have hq := (h2.kr.block (w.heap.size + 1) (by omega) (by omega)).trans HQ0.out
    obtain ⟨b0, b1, b2, b3, b4, b5, b6⟩ := cell_agg7 h2.box
    have q : ∀ j, w2.frozen? ⟨w.heap.size + 1, j, none⟩ = false := fun j => froz_agg hq j
    obtain ⟨q0, q1, q2, q3, q4, q5, q6⟩ := cell_agg7 hq
    have HQ := Lib.hid hq
    clear hls hk2 hr2 h2 hq HSV
    go_wp2_with fail
    show bodyPost _ _ _ _ _ (set7 w2 (w.heap.size + 1) (.int .u8 7) (.bool false) (.int .i64 0) (.int .u64 0) (.string ⟨#[]⟩) (.slice ka x.1.length kc) (.slice ao x.2.length co))
    have hF := seven_set HQ.out (.int .u8 7) (.bool false) (.int .i64 0) (.int .u64 0) (.string ⟨#[]⟩) (.slice ka x.1.length kc) (.slice ao x.2.length co)
    have hk := set7_kr (p := w.heap.size + 1) (HK0.out.trans HL2.out.kr) (by omega) (.int .u8 7) (.bool false) (.int .i64 0) (.int .u64 0) (.string ⟨#[]⟩) (.slice ka x.1.length kc) (.slice ao x.2.length co)
    have hb : ∀ j, j ≠ w.heap.size + 1 → _ := fun j hj => set7_block (w := w2) hj (.int .u8 7) (.bool false) (.int .i64 0) (.int .u64 0) (.string ⟨#[]⟩) (.slice ka x.1.length kc) (.slice ao x.2.length co)
    unfold set7 at hk hb ⊢
    generalize ((((((w2.setCell ⟨w.heap.size + 1, 0, none⟩ (.int .u8 7)).setCell ⟨w.heap.size + 1, 1, none⟩ (.bool false)).setCell ⟨w.heap.size + 1, 2, none⟩ (.int .i64 0)).setCell ⟨w.heap.size + 1, 3, none⟩ (.int .u64 0)).setCell ⟨w.heap.size + 1, 4, none⟩ (.string ⟨#[]⟩)).setCell ⟨w.heap.size + 1, 5, none⟩ (.slice ka x.1.length kc)).setCell ⟨w.heap.size + 1, 6, none⟩ (.slice ao x.2.length co) = F at *
    obtain ⟨g0, g1, g2, g3, g4, g5, g6⟩ := cell_agg7 hF
    refine bodyPost_ret (v := .agg #[.int .u8 7, .bool false, .int .i64 0, .int .u64 0, .string ⟨#[]⟩, (.slice ka x.1.length kc), (.slice ao x.2.length co)]) (by simp [results, Tryz.results49, go_sem, g0, g1, g2, g3, g4, g5, g6]) rfl ?_
    exact ⟨_, rfl, HL2.out.out (by omega) (fun j hj _ => hb j (by omega)) (by omega) (by omega), HL2.out.rd.kept (hb r (by omega)), hk⟩
end Go.Proofs.YtckaoeloofbklaaGreatDoor
namespace Go.Proofs.YtckaoeloofbklaaGreatDoor
open Go Go.RowKit Go.Lib
set_option maxRecDepth 100000 in
set_option maxHeartbeats 4000000 in
theorem textJ_any (r : Nat) (s : ByteArray) (t out t' : List UInt8) (d : Nat) (w : World) (h : Rd r s (34 :: t) d w) (h17 : 17 ≤ r) (hT : Lib.Utf8Tabs 0 1 w) (hs : Str decB8 enc t out t') :
    Calls Tryz.prog 50 #[.pointer (some ⟨r, 0, none⟩)] w (ValOk r s d w (jStr ⟨out.toArray⟩) t') := by
  have hal := h.alloc (.cells #[.int .u8 0, .bool false, .int .i64 0, .int .u64 0, .string ⟨#[]⟩, .slice none 0 0, .slice none 0 0] 27)
  have hnew := heap_alloc_new w (.cells #[.int .u8 0, .bool false, .int .i64 0, .int .u64 0, .string ⟨#[]⟩, .slice none 0 0, .slice none 0 0] 27)
  have hkr := (KR.refl r w).alloc (.cells #[.int .u8 0, .bool false, .int .i64 0, .int .u64 0, .string ⟨#[]⟩, .slice none 0 0, .slice none 0 0] 27)
  have hrl := h.lt
  have HR := Lib.hid (quoted_any r s t out t' d _ hal h17 (utabs_kept hT (hkr.low' h17 (by omega))) hs)
  have HN := Lib.hid hnew
  have HKR := Lib.hid hkr
  clear h hal hnew hkr
  go_enter Tryz.func50, Tryz.ntmps50
  go_wp2_with fail
  refine HR.out.mono ?_
  rintro e w1 ⟨rfl, hrd, hkr⟩
  have hn1 := (hkr.block w.heap.size (by simp) (by omega)).trans HN.out
  obtain ⟨n0, n1, n2, n3, n4, n5, n6⟩ := cell_agg7 hn1
  have q : ∀ j, w1.frozen? ⟨w.heap.size, j, none⟩ = false := fun j => froz_agg hn1 j
  have HRD := Lib.hid hrd
  have HK1 := Lib.hid hkr
  have HN1 := Lib.hid hn1
  clear hrd hkr hn1
  go_wp2_with fail
  show bodyPost _ _ _ _ _ (set7 w1 w.heap.size (.int .u8 5) (.bool false) (.int .i64 0) (.int .u64 0) (.string ⟨out.toArray⟩) (.slice none 0 0) (.slice none 0 0))
  have hF := seven_set HN1.out (.int .u8 5) (.bool false) (.int .i64 0) (.int .u64 0) (.string ⟨out.toArray⟩) (.slice none 0 0) (.slice none 0 0)
  have hok := fun e he => set7_ok (e := e) (k := 5) (b := false) (n := 0) (u := 0) (x := ⟨out.toArray⟩) (p := w.heap.size) he (HKR.out.trans HK1.out) HRD.out (Nat.le_refl _) hrl (.int .u8 5) (.bool false) (.int .i64 0) (.int .u64 0) (.string ⟨out.toArray⟩) (.slice none 0 0) (.slice none 0 0)
  unfold set7 at hok ⊢
  generalize ((((((w1.setCell ⟨w.heap.size, 0, none⟩ (.int .u8 5)).setCell ⟨w.heap.size, 1, none⟩ (.bool false)).setCell ⟨w.heap.size, 2, none⟩ (.int .i64 0)).setCell ⟨w.heap.size, 3, none⟩ (.int .u64 0)).setCell ⟨w.heap.size, 4, none⟩ (.string ⟨out.toArray⟩)).setCell ⟨w.heap.size, 5, none⟩ (.slice none 0 0)).setCell ⟨w.heap.size, 6, none⟩ (.slice none 0 0) = F at *
  obtain ⟨g0, g1, g2, g3, g4, g5, g6⟩ := cell_agg7 hF
  refine bodyPost_ret (v := atomV 5 false 0 0 ⟨out.toArray⟩) (by simp [results, Tryz.results50, go_sem, atomV, g0, g1, g2, g3, g4, g5, g6]) rfl ?_
  exact hok _ rfl
theorem digs_is : ∀ c : UInt8, (([48, 49, 50, 51, 52, 53, 54, 55, 56, 57] : List UInt8)).contains c = isDgB c := by
  intro c
  have key : ∀ c : Fin 256, (([48, 49, 50, 51, 52, 53, 54, 55, 56, 57] : List UInt8)).contains (UInt8.ofNat c.val) = isDgB (UInt8.ofNat c.val) := by decide +kernel
  have := key ⟨c.toNat, c.toNat_lt⟩
  simpa only [UInt8.ofNat_toNat] using this
theorem drop_digs : ∀ (D u : List UInt8), D.all isDgB = true → Ends isDgB u → (D ++ u).dropWhile isDgB = u
  | [], [], _, _ => rfl
  | [], c :: u, _, h => by
    have h : isDgB c = false := h
    rw [List.nil_append, List.dropWhile_cons, if_neg (by rw [h]; decide)]
  | c :: D, u, h, hu => by
    rw [List.all_cons, Bool.and_eq_true] at h
    rw [List.cons_append, List.dropWhile_cons, if_pos h.1]
    exact drop_digs D u h.2 hu
set_option maxRecDepth 100000 in
theorem digits_any (c : UInt8) (D u : List UInt8) (hc : isDgB c = true) (hD : D.all isDgB = true) (hu : Ends isDgB u) (w : World) :
    Calls Tryz.prog 116 #[.string ⟨(c :: D ++ u).toArray⟩] w fun e w' => e = .returned (.tuple #[.string ⟨u.toArray⟩, .bool true]) ∧ Below w.heap.size w w' := by
  have ht := trim_left ⟨(c :: D ++ u).toArray⟩ (⟨#[48, 49, 50, 51, 52, 53, 54, 55, 56, 57]⟩ : ByteArray) w (by decide) (by decide)
  rw [show (fun x => ((⟨#[48, 49, 50, 51, 52, 53, 54, 55, 56, 57]⟩ : ByteArray)).data.toList.contains x) = isDgB from funext digs_is] at ht
  rw [show (⟨(c :: D ++ u).toArray⟩ : ByteArray).data.toList = c :: D ++ u from rfl, drop_digs (c :: D) u (by rw [List.all_cons, hc, hD]; rfl) hu] at ht
  have HT := Lib.hid ht
  clear ht
  have hne : (u == c :: (D ++ u)) = false := by
    rw [beq_eq_false_iff_ne]
    intro e
    have := congrArg List.length e
    simp only [List.length_append, List.length_cons] at this
    omega
  go_enter Tryz.func116, Tryz.ntmps116
  go_wp2_with fail
  refine HT.out.mono ?_
  rintro e w1 ⟨rfl, hb⟩
  go_wp2_with fail
  go_ret2
  exact ⟨by simp, hb⟩
structure NumT (l : List UInt8) (c : UInt8) (W fr ex : List UInt8) : Prop where
  eq : l = c :: W ++ (fr ++ ex)
  hc : isDgB c = true
  hw : W.all isDgB = true
  z : c = 48 → W = []
  fr : fr = [] ∨ ∃ x F, fr = 46 :: x :: F ∧ isDgB x = true ∧ F.all isDgB = true
  ex : ex = [] ∨ ∃ sg x X, ex = 101 :: sg :: x :: X ∧ (sg = 43 ∨ sg = 45) ∧ isDgB x = true ∧ X.all isDgB = true
theorem cut_no (l : List UInt8) (w : World) (h : ∀ t, l ≠ 46 :: t) : Calls Tryz.prog 117 #[.string ⟨l.toArray⟩, .string (⟨#[46]⟩ : ByteArray)] w fun e w' => e = .returned (.tuple #[.string ⟨l.toArray⟩, .bool false]) ∧ w' = w := by
  have := Tryz.strings_CutPrefix ⟨l.toArray⟩ (⟨#[46]⟩ : ByteArray) w
  rw [show (⟨l.toArray⟩ : ByteArray).data.toList = l from rfl, show ((⟨#[46]⟩ : ByteArray) : ByteArray).data.toList = [46] from rfl] at this
  have hp : Lib.hasPrefix l [46] = false := by
    cases l with
    | nil => rfl
    | cons c t =>
      have : c ≠ 46 := by rintro rfl; exact h t rfl
      have : ¬ (46 = c) := fun e => this e.symm
      simp [Lib.hasPrefix, List.isPrefixOf, this]
  have ht : Lib.trimPrefix l [46] = l := by simp [Lib.trimPrefix, hp]
  rwa [hp, ht] at this
theorem cut_yes (l : List UInt8) (w : World) : Calls Tryz.prog 117 #[.string ⟨(46 :: l).toArray⟩, .string (⟨#[46]⟩ : ByteArray)] w fun e w' => e = .returned (.tuple #[.string ⟨l.toArray⟩, .bool true]) ∧ w' = w := by
  have := Tryz.strings_CutPrefix ⟨(46 :: l).toArray⟩ (⟨#[46]⟩ : ByteArray) w
  rw [show (⟨(46 :: l).toArray⟩ : ByteArray).data.toList = 46 :: l from rfl, show ((⟨#[46]⟩ : ByteArray) : ByteArray).data.toList = [46] from rfl] at this
  have hp : Lib.hasPrefix (46 :: l) [46] = true := by simp [Lib.hasPrefix]
  have ht : Lib.trimPrefix (46 :: l) [46] = l := by simp [Lib.trimPrefix, hp]
  rwa [hp, ht] at this
theorem sign_any (sg : UInt8) (h : sg = 43 ∨ sg = 45) (W : World) : ∃ z : Int, 0 ≤ z ∧ Calls Tryz.prog 118 #[.string (⟨#[43, 45]⟩ : ByteArray), .int .u8 (sg.toNat : Int)] W fun e w' => e = .returned (.int .i64 z) ∧ w' = W := by
  refine ⟨_, ?_, Tryz.strings_IndexByte (⟨#[43, 45]⟩ : ByteArray) (sg.toNat : Int) W⟩
  rcases h with rfl | rfl <;> decide
theorem sl1 (c : UInt8) (t : List UInt8) (_h : (c :: t).length ≤ 1000000) : ∀ W, (Instr.slice 9 (.string ⟨(c :: t).toArray⟩) (some (.int .i64 1)) Option.none Option.none).run Tryz.prog W = .ok (.string ⟨t.toArray⟩) W := fun W => by
  have hs : (⟨(c :: t).toArray⟩ : ByteArray).size = (c :: t).length := rfl
  have := run_slice_string_l W 9 ⟨(c :: t).toArray⟩ Tryz.underlying9 .i64 1 (by decide) (by rw [hs, List.length_cons]; omega)
  have he : (⟨(c :: t).toArray⟩ : ByteArray).extract 1 (⟨(c :: t).toArray⟩ : ByteArray).size = ⟨t.toArray⟩ := by
    apply ByteArray.ext
    apply Array.toList_inj.1
    rw [ext_drop]
    rfl
  rw [show (Int.toNat 1) = 1 from rfl, he] at this
  exact this
set_option maxRecDepth 100000 in
set_option maxHeartbeats 8000000 in
theorem formed_any (ng : Bool) (l : List UInt8) (c : UInt8) (W fr ex : List UInt8) (h : NumT l c W fr ex) (w : World) (hl : l.length ≤ 100000) :
    Calls Tryz.prog 81 #[.string ⟨(sgB ng ++ l).toArray⟩] w fun e w' => e = .returned (.tuple #[.bool true, .bool (fr ++ ex).isEmpty]) ∧ Below w.heap.size w w' := by
  obtain ⟨rfl, hc, hw, hz, hf, he⟩ := h
  have h1 := Tryz.strings_TrimPrefix ⟨(sgB ng ++ (c :: W ++ (fr ++ ex))).toArray⟩ (⟨#[45]⟩ : ByteArray) w
  have htp : Lib.trimPrefix (sgB ng ++ (c :: W ++ (fr ++ ex))) ([45] : List UInt8) = c :: W ++ (fr ++ ex) := by
    cases ng
    · have hne : c ≠ 45 := by rintro rfl; revert hc; decide
      have : ¬ (45 = c) := fun e => hne e.symm
      simp [sgB, Lib.trimPrefix, Lib.hasPrefix, this]
    · simp [sgB, Lib.trimPrefix, Lib.hasPrefix]
  rw [show ((⟨#[45]⟩ : ByteArray) : ByteArray).data.toList = ([45] : List UInt8) from rfl, show (⟨(sgB ng ++ (c :: W ++ (fr ++ ex))).toArray⟩ : ByteArray).data.toList = sgB ng ++ (c :: W ++ (fr ++ ex)) from rfl, htp] at h1
  have hu : Ends isDgB (fr ++ ex) := by
    rcases hf with rfl | ⟨x, F, rfl, -⟩
    · rcases he with rfl | ⟨sg, x, X, rfl, -⟩
      · trivial
      · show isDgB 101 = false; decide
    · show isDgB 46 = false; decide
  have h2 := fun w => digits_any c W (fr ++ ex) hc hw hu w
  obtain ⟨S, hS⟩ : ∃ S : ByteArray, S = ⟨(c :: W ++ (fr ++ ex)).toArray⟩ := ⟨_, rfl⟩
  have hsz : S.size = W.length + 1 + (fr.length + ex.length) := by
    rw [hS]
    show (c :: W ++ (fr ++ ex)).length = _
    simp; omega
  have hlt : 0 < S.size := by omega
  have hget : S[0]'hlt = c := by subst hS; rfl
  rw [← hS] at h1
  simp only [← hS] at h2
  clear hS htp
  have H1 := Lib.hid h1
  have H2 := Lib.hid h2
  clear h1 h2
  have hlti : (0 : Int) < (S.size : Int) := by omega
  go_enter Tryz.func81, Tryz.ntmps81
  go_wp2_with fail
  refine H1.out.mono ?_
  rintro e w1 ⟨rfl, hww⟩
  subst hww
  have H2' := Lib.hid (H2.out w1)
  go_wp2_with fail
  refine H2'.out.mono ?_
  rintro e w2 ⟨rfl, hb2⟩
  go_upto_region 5 with fail
  · rename_i hq1 hq2
    have : c = 48 := UInt8.toNat_inj.1 (by show c.toNat = 48; omega)
    have hW := hz this
    subst hW
    exact absurd hq2 (by simp [wrap64])
  · clear hget hlt hlti hsz H1 H2 H2' hz hw
    have HB2 := Lib.hid hb2
    clear hb2
    rcases hf with rfl | ⟨x, F, rfl, hx, hF⟩
    · rcases he with rfl | ⟨sg, y, Y, rfl, hsg, hy, hY⟩
      · skip
        have H3 := Lib.hid (cut_no [] w2 (by intro t h; cases h))
        go_upto_region 6 with fail
        go_wp2_with fail
        refine H3.out.mono ?_
        rintro e w3 ⟨rfl, hww⟩
        replace hww := hww.symm
        subst hww
        go_wp2_with fail
        go_ret2
        exact ⟨by simp, HB2.out⟩
      · skip
        have H3 := Lib.hid (cut_no (101 :: sg :: y :: Y) w2 (by intro t h; cases h))
        go_upto_region 6 with fail
        go_wp2_with fail
        refine H3.out.mono ?_
        rintro e w3 ⟨rfl, hww⟩
        replace hww := hww.symm
        subst hww
        have hsl1 := sl1 101 (sg :: y :: Y) (by simp at hl ⊢; omega)
        have hsl2 := sl1 sg (y :: Y) (by simp at hl ⊢; omega)
        have hor : (bits .or .u8 ((((⟨(101 :: sg :: y :: Y).toArray⟩ : ByteArray)[0]'(Nat.succ_pos _)).toNat : Nat) : Int) 32 == 101) = true := by
          show (bits .or .u8 101 32 == 101) = true
          decide +kernel
        obtain ⟨z, hge, h5⟩ := sign_any sg hsg w2
        have H5 := Lib.hid h5
        clear h5
        have H6 := Lib.hid (digits_any y Y [] hy hY trivial w2)
        rw [List.append_nil] at H6
        go_wp2_with fail
        refine H5.out.mono ?_
        rintro e w5 ⟨rfl, hww⟩
        replace hww := hww.symm
        subst hww
        go_wp2_with fail
        refine H6.out.mono ?_
        rintro e w6 ⟨rfl, hb6⟩
        have HB6 := Lib.hid (HB2.out.trans (hb6.mono HB2.out.size))
        clear hb6
        go_wp2_with fail
        go_ret2
        exact ⟨by simp, HB6.out⟩
    · rcases he with rfl | ⟨sg, y, Y, rfl, hsg, hy, hY⟩
      · skip
        have H3 := Lib.hid (cut_yes (x :: F) w2)
        go_upto_region 6 with fail
        go_wp2_with fail
        refine H3.out.mono ?_
        rintro e w3 ⟨rfl, hww⟩
        replace hww := hww.symm
        subst hww
        have H4 := Lib.hid (digits_any x F [] hx hF trivial w2)
        rw [List.append_nil] at H4
        go_wp2_with fail
        refine H4.out.mono ?_
        rintro e w4 ⟨rfl, hb4⟩
        have HB4 := Lib.hid (HB2.out.trans (hb4.mono HB2.out.size))
        clear hb4
        go_wp2_with fail
        go_ret2
        exact ⟨by simp, HB4.out⟩
      · skip
        have H3 := Lib.hid (cut_yes (x :: F ++ (101 :: sg :: y :: Y)) w2)
        go_upto_region 6 with fail
        go_wp2_with fail
        refine H3.out.mono ?_
        rintro e w3 ⟨rfl, hww⟩
        replace hww := hww.symm
        subst hww
        have H4 := Lib.hid (digits_any x F (101 :: sg :: y :: Y) hx hF (show isDgB 101 = false by decide) w2)
        go_wp2_with fail
        refine H4.out.mono ?_
        rintro e w4 ⟨rfl, hb4⟩
        have HB4 := Lib.hid (HB2.out.trans (hb4.mono HB2.out.size))
        clear hb4
        have hsl1 := sl1 101 (sg :: y :: Y) (by simp at hl ⊢; omega)
        have hsl2 := sl1 sg (y :: Y) (by simp at hl ⊢; omega)
        have hor : (bits .or .u8 ((((⟨(101 :: sg :: y :: Y).toArray⟩ : ByteArray)[0]'(Nat.succ_pos _)).toNat : Nat) : Int) 32 == 101) = true := by
          show (bits .or .u8 101 32 == 101) = true
          decide +kernel
        obtain ⟨z, hge, h5⟩ := sign_any sg hsg w4
        have H5 := Lib.hid h5
        clear h5
        have H6 := Lib.hid (digits_any y Y [] hy hY trivial w4)
        rw [List.append_nil] at H6
        go_wp2_with fail
        refine H5.out.mono ?_
        rintro e w5 ⟨rfl, hww⟩
        replace hww := hww.symm
        subst hww
        go_wp2_with fail
        refine H6.out.mono ?_
        rintro e w6 ⟨rfl, hb6⟩
        have HB6 := Lib.hid (HB4.out.trans (hb6.mono HB4.out.size))
        clear hb6
        go_wp2_with fail
        go_ret2
        exact ⟨by simp, HB6.out⟩
  · clear hget hlt hlti hsz H1 H2 H2' hz hw
    have HB2 := Lib.hid hb2
    clear hb2
    rcases hf with rfl | ⟨x, F, rfl, hx, hF⟩
    · rcases he with rfl | ⟨sg, y, Y, rfl, hsg, hy, hY⟩
      · skip
        have H3 := Lib.hid (cut_no [] w2 (by intro t h; cases h))
        go_upto_region 6 with fail
        go_wp2_with fail
        refine H3.out.mono ?_
        rintro e w3 ⟨rfl, hww⟩
        replace hww := hww.symm
        subst hww
        go_wp2_with fail
        go_ret2
        exact ⟨by simp, HB2.out⟩
      · skip
        have H3 := Lib.hid (cut_no (101 :: sg :: y :: Y) w2 (by intro t h; cases h))
        go_upto_region 6 with fail
        go_wp2_with fail
        refine H3.out.mono ?_
        rintro e w3 ⟨rfl, hww⟩
        replace hww := hww.symm
        subst hww
        have hsl1 := sl1 101 (sg :: y :: Y) (by simp at hl ⊢; omega)
        have hsl2 := sl1 sg (y :: Y) (by simp at hl ⊢; omega)
        have hor : (bits .or .u8 ((((⟨(101 :: sg :: y :: Y).toArray⟩ : ByteArray)[0]'(Nat.succ_pos _)).toNat : Nat) : Int) 32 == 101) = true := by
          show (bits .or .u8 101 32 == 101) = true
          decide +kernel
        obtain ⟨z, hge, h5⟩ := sign_any sg hsg w2
        have H5 := Lib.hid h5
        clear h5
        have H6 := Lib.hid (digits_any y Y [] hy hY trivial w2)
        rw [List.append_nil] at H6
        go_wp2_with fail
        refine H5.out.mono ?_
        rintro e w5 ⟨rfl, hww⟩
        replace hww := hww.symm
        subst hww
        go_wp2_with fail
        refine H6.out.mono ?_
        rintro e w6 ⟨rfl, hb6⟩
        have HB6 := Lib.hid (HB2.out.trans (hb6.mono HB2.out.size))
        clear hb6
        go_wp2_with fail
        go_ret2
        exact ⟨by simp, HB6.out⟩
    · rcases he with rfl | ⟨sg, y, Y, rfl, hsg, hy, hY⟩
      · skip
        have H3 := Lib.hid (cut_yes (x :: F) w2)
        go_upto_region 6 with fail
        go_wp2_with fail
        refine H3.out.mono ?_
        rintro e w3 ⟨rfl, hww⟩
        replace hww := hww.symm
        subst hww
        have H4 := Lib.hid (digits_any x F [] hx hF trivial w2)
        rw [List.append_nil] at H4
        go_wp2_with fail
        refine H4.out.mono ?_
        rintro e w4 ⟨rfl, hb4⟩
        have HB4 := Lib.hid (HB2.out.trans (hb4.mono HB2.out.size))
        clear hb4
        go_wp2_with fail
        go_ret2
        exact ⟨by simp, HB4.out⟩
      · skip
        have H3 := Lib.hid (cut_yes (x :: F ++ (101 :: sg :: y :: Y)) w2)
        go_upto_region 6 with fail
        go_wp2_with fail
        refine H3.out.mono ?_
        rintro e w3 ⟨rfl, hww⟩
        replace hww := hww.symm
        subst hww
        have H4 := Lib.hid (digits_any x F (101 :: sg :: y :: Y) hx hF (show isDgB 101 = false by decide) w2)
        go_wp2_with fail
        refine H4.out.mono ?_
        rintro e w4 ⟨rfl, hb4⟩
        have HB4 := Lib.hid (HB2.out.trans (hb4.mono HB2.out.size))
        clear hb4
        have hsl1 := sl1 101 (sg :: y :: Y) (by simp at hl ⊢; omega)
        have hsl2 := sl1 sg (y :: Y) (by simp at hl ⊢; omega)
        have hor : (bits .or .u8 ((((⟨(101 :: sg :: y :: Y).toArray⟩ : ByteArray)[0]'(Nat.succ_pos _)).toNat : Nat) : Int) 32 == 101) = true := by
          show (bits .or .u8 101 32 == 101) = true
          decide +kernel
        obtain ⟨z, hge, h5⟩ := sign_any sg hsg w4
        have H5 := Lib.hid h5
        clear h5
        have H6 := Lib.hid (digits_any y Y [] hy hY trivial w4)
        rw [List.append_nil] at H6
        go_wp2_with fail
        refine H5.out.mono ?_
        rintro e w5 ⟨rfl, hww⟩
        replace hww := hww.symm
        subst hww
        go_wp2_with fail
        refine H6.out.mono ?_
        rintro e w6 ⟨rfl, hb6⟩
        have HB6 := Lib.hid (HB4.out.trans (hb6.mono HB4.out.size))
        clear hb6
        go_wp2_with fail
        go_ret2
        exact ⟨by simp, HB6.out⟩
end Go.Proofs.YtckaoeloofbklaaGreatDoor
namespace Go.Proofs.YtckaoeloofbklaaGreatDoor
open Go Go.RowKit Go.Lib
inductive NJ : List UInt8 → JV → Prop
  | int {a : List UInt8} {n : Int} (ng : Bool) (l : List UInt8) (c : UInt8) (W : List UInt8) (ha : a = sgB ng ++ l) (hf : NumT l c W [] []) (hl : l.length ≤ 1000) (h0 : a ≠ [45, 48]) (hp : Lib.parseIntB 64 a = .ok n) : NJ a (jInt n)
  | flt {a : List UInt8} {u : Nat} (ng : Bool) (l : List UInt8) (c : UInt8) (W fr ex : List UInt8) (ha : a = sgB ng ++ l) (hf : NumT l c W fr ex) (hl : l.length ≤ 1000) (h : fr ++ ex ≠ [] ∨ a = [45, 48]) (hu : u < 18446744073709551616) (hi : infU u = false)
      (hP : ∀ K w, Globs w → GlobT K w → Calls Tryz.prog 121 #[.string ⟨a.toArray⟩] w fun e w' => e = .returned (.tuple #[.int .u64 (u : Nat), .int .i64 0]) ∧ Below w.heap.size w w') : NJ a (jFlt u)
theorem suf_mem (l : List UInt8) (c : UInt8) (h : Lib.hasSuffix l [c] = true) : c ∈ l := by
  unfold Lib.hasSuffix at h
  have := List.isSuffixOf_iff_suffix.1 h
  exact this.subset (by simp)
set_option maxRecDepth 100000 in
theorem long_any (a : List UInt8) (u : Nat) (w : World) (hP : Calls Tryz.prog 121 #[.string ⟨a.toArray⟩] w fun e w' => e = .returned (.tuple #[.int .u64 (u : Nat), .int .i64 0]) ∧ Below w.heap.size w w') :
    Calls Tryz.prog 83 #[.string ⟨a.toArray⟩] w fun e w' => e = .returned (.int .u64 (u : Nat)) ∧ Below w.heap.size w w' := by
  have HP := Lib.hid hP
  clear hP
  go_enter Tryz.func83, Tryz.ntmps83
  go_wp2_with fail
  refine HP.out.mono ?_
  rintro e w1 ⟨rfl, hb⟩
  go_wp2_with fail
  go_ret
  exact ⟨rfl, hb⟩
set_option maxRecDepth 100000 in
set_option maxHeartbeats 4000000 in
theorem number_int (r : Nat) (s : ByteArray) (a t : List UInt8) (d : Nat) (w : World) (h : Rd r s (a ++ t) d w) (hn : a.all numC = true) (ht : Ends numC t) (n : Int) (ng : Bool) (l : List UInt8) (c : UInt8) (W : List UInt8) (ha : a = sgB ng ++ l) (hf : NumT l c W [] []) (hl : l.length ≤ 1000) (h0 : a ≠ [45, 48]) (hp : Lib.parseIntB 64 a = .ok n) :
    Calls Tryz.prog 51 #[.pointer (some ⟨r, 0, none⟩)] w (ValOk r s d w (jInt n) t) := by
  have hal := h.alloc (.cells #[.int .u8 0, .bool false, .int .i64 0, .int .u64 0, .string ⟨#[]⟩, .slice none 0 0, .slice none 0 0] 27)
  have hnew := heap_alloc_new w (.cells #[.int .u8 0, .bool false, .int .i64 0, .int .u64 0, .string ⟨#[]⟩, .slice none 0 0, .slice none 0 0] 27)
  have hkr := (KR.refl r w).alloc (.cells #[.int .u8 0, .bool false, .int .i64 0, .int .u64 0, .string ⟨#[]⟩, .slice none 0 0, .slice none 0 0] 27)
  have hrl := h.lt
  obtain ⟨m, hm, c1⟩ := hal.pos
  have HR := Lib.hid (run_any _ numC numc_any ent_numc r s a t d _ hal hn ht)
  have HN := Lib.hid hnew
  have HKR := Lib.hid hkr
  have HFM := Lib.hid (fun w => formed_any ng l c W [] [] hf w (by omega))
  rw [← ha] at HFM
  have hal2 : a.length ≤ 1001 := by rw [ha, List.length_append]; cases ng <;> simp [sgB] <;> omega
  have hne : (a == [45, 48]) = false := by rw [beq_eq_false_iff_ne]; exact h0
  have HPI := Lib.hid (fun W => Tryz.strconv_ParseInt_10_at64_ok ⟨a.toArray⟩ (by show a.length ≤ _; omega) n hp W)
  clear h hal hnew hkr hm h0 ha hf hp
  go_enter Tryz.func51, Tryz.ntmps51
  go_wp2_with fail
  refine HR.out.mono ?_
  rintro e w1 ⟨rfl, hr1, hk1⟩
  have hs1 := hk1.size
  have HK1 := Lib.hid (HKR.out.trans hk1)
  have HN1 := Lib.hid ((hk1.block w.heap.size (by simp) (by omega)).trans HN.out)
  have HR1 := Lib.hid hr1
  have HFO := Lib.hid (HFM.out w1)
  clear hr1 hk1 c1
  go_wp2_with fail
  refine HFO.out.mono ?_
  rintro e w2 ⟨rfl, hb2⟩
  have hs2 := hb2.size
  have hlt1 : w.heap.size < w1.heap.size := by simp at hs1; omega
  have HK2 := Lib.hid (HK1.out.trans (KR.of hb2))
  have HN2 := Lib.hid ((hb2.block w.heap.size hlt1).trans HN1.out)
  have HR2 := Lib.hid (HR1.out.below hb2)
  clear hb2
  have HPP := Lib.hid (HPI.out w2)
  go_wp2_with fail
  refine HPP.out.mono ?_
  rintro e w3 ⟨rfl, hw3⟩
  have hb3 : Below w2.heap.size w2 w3 := by
    rcases hw3 with rfl | ⟨x, rfl⟩
    · exact Below.refl _ _
    · exact bytesWorld_below _ _ _
  have hs3 := hb3.size
  have HK3 := Lib.hid (HK2.out.trans (KR.of hb3))
  have HN3 := Lib.hid ((hb3.block w.heap.size (by omega)).trans HN2.out)
  have HR3 := Lib.hid (HR2.out.below hb3)
  clear hb3 hw3
  have hn9 := HN3.out
  obtain ⟨n0, n1, n2, n3, n4, n5, n6⟩ := cell_agg7 hn9
  have q : ∀ j, w3.frozen? ⟨w.heap.size, j, none⟩ = false := fun j => froz_agg hn9 j
  have HN9 := Lib.hid hn9
  have HK9 := Lib.hid HK3.out
  have HRD9 := Lib.hid HR3.out
  clear hn9
  go_wp2_with fail
  show bodyPost _ _ _ _ _ (set7 w3 w.heap.size (.int .u8 3) (.bool false) (.int .i64 n) (.int .u64 0) (.string ⟨#[]⟩) (.slice none 0 0) (.slice none 0 0))
  have hF := seven_set HN9.out (.int .u8 3) (.bool false) (.int .i64 n) (.int .u64 0) (.string ⟨#[]⟩) (.slice none 0 0) (.slice none 0 0)
  have hok := fun e he => set7_ok (e := e) (k := 3) (b := false) (n := n) (u := 0) (x := ⟨#[]⟩) (p := w.heap.size) he HK9.out HRD9.out (Nat.le_refl _) hrl (.int .u8 3) (.bool false) (.int .i64 n) (.int .u64 0) (.string ⟨#[]⟩) (.slice none 0 0) (.slice none 0 0)
  unfold set7 at hok ⊢
  generalize ((((((w3.setCell ⟨w.heap.size, 0, none⟩ (.int .u8 3)).setCell ⟨w.heap.size, 1, none⟩ (.bool false)).setCell ⟨w.heap.size, 2, none⟩ (.int .i64 n)).setCell ⟨w.heap.size, 3, none⟩ (.int .u64 0)).setCell ⟨w.heap.size, 4, none⟩ (.string ⟨#[]⟩)).setCell ⟨w.heap.size, 5, none⟩ (.slice none 0 0)).setCell ⟨w.heap.size, 6, none⟩ (.slice none 0 0) = F at *
  obtain ⟨g0, g1, g2, g3, g4, g5, g6⟩ := cell_agg7 hF
  refine bodyPost_ret (v := atomV 3 false n 0 ⟨#[]⟩) (by simp [results, Tryz.results51, go_sem, atomV, g0, g1, g2, g3, g4, g5, g6]) rfl ?_
  exact hok _ rfl
set_option maxRecDepth 100000 in
set_option maxHeartbeats 8000000 in
theorem number_flt (r : Nat) (s : ByteArray) (a t : List UInt8) (d : Nat) (w : World) (h : Rd r s (a ++ t) d w) (hn : a.all numC = true) (ht : Ends numC t) (K : Nat) (hG : Globs w) (hT : GlobT K w) (hK : K ≤ r) (u : Nat) (ng : Bool) (l : List UInt8) (c : UInt8) (W fr ex : List UInt8) (ha : a = sgB ng ++ l) (hf : NumT l c W fr ex) (hl : l.length ≤ 1000) (hw : fr ++ ex ≠ [] ∨ a = [45, 48]) (hu : u < 18446744073709551616) (hi : infU u = false)
    (hP : ∀ K w, Globs w → GlobT K w → Calls Tryz.prog 121 #[.string ⟨a.toArray⟩] w fun e w' => e = .returned (.tuple #[.int .u64 (u : Nat), .int .i64 0]) ∧ Below w.heap.size w w') :
    Calls Tryz.prog 51 #[.pointer (some ⟨r, 0, none⟩)] w (ValOk r s d w (jFlt u) t) := by
  have hal := h.alloc (.cells #[.int .u8 0, .bool false, .int .i64 0, .int .u64 0, .string ⟨#[]⟩, .slice none 0 0, .slice none 0 0] 27)
  have hnew := heap_alloc_new w (.cells #[.int .u8 0, .bool false, .int .i64 0, .int .u64 0, .string ⟨#[]⟩, .slice none 0 0, .slice none 0 0] 27)
  have hkr := (KR.refl r w).alloc (.cells #[.int .u8 0, .bool false, .int .i64 0, .int .u64 0, .string ⟨#[]⟩, .slice none 0 0, .slice none 0 0] 27)
  have hrl := h.lt
  obtain ⟨m, hm, c1⟩ := hal.pos
  have HR := Lib.hid (run_any _ numC numc_any ent_numc r s a t d _ hal hn ht)
  have HN := Lib.hid hnew
  have HKR := Lib.hid hkr
  have HFM := Lib.hid (fun w => formed_any ng l c W fr ex hf w (by omega))
  rw [← ha] at HFM
  have hK17 := hT.lt
  have HG := Lib.hid (fun W (h : KR r w W) => (⟨hG.below (by omega) (h.below (by omega)), hT.below hK (h.below (by omega))⟩ : Globs W ∧ GlobT K W))
  have HLO := Lib.hid (fun W (h : KR r w W) => long_any a u W (hP K W (HG.out W h).1 (HG.out W h).2))
  have HSH := Lib.hid (fun W (h : KR r w W) => show_any u W (HG.out W h).1 hu)
  have hsl := showB_len u
  have hsuf : Lib.hasSuffix (showB u) ((⟨#[121]⟩ : ByteArray) : ByteArray).data.toList = false := by
    rw [← Bool.not_eq_true]
    intro hh
    have := showB_okC u hi 121 (suf_mem _ _ hh)
    revert this; decide
  have HSU := Lib.hid (fun W => Tryz.strings_HasSuffix ⟨(showB u).toArray⟩ (⟨#[121]⟩ : ByteArray) W (by show (showB u).length ≤ _; omega))
  rw [show (⟨(showB u).toArray⟩ : ByteArray).data.toList = showB u from rfl, hsuf] at HSU
  have hcond : ((fr ++ ex).isEmpty = false) ∨ ((fr ++ ex).isEmpty = true ∧ a = [45, 48]) := by
    rcases hw with hw | hw
    · left; cases he : fr ++ ex with
      | nil => exact absurd he hw
      | cons => rfl
    · cases he : fr ++ ex with
      | nil => exact .inr ⟨rfl, hw⟩
      | cons => exact .inl rfl
  clear h hal hnew hkr hm hw hP hf ha
  generalize (fr ++ ex).isEmpty = wh at *
  go_enter Tryz.func51, Tryz.ntmps51
  go_wp2_with fail
  refine HR.out.mono ?_
  rintro e w1 ⟨rfl, hr1, hk1⟩
  have hs1 := hk1.size
  have HK1 := Lib.hid (HKR.out.trans hk1)
  have HN1 := Lib.hid ((hk1.block w.heap.size (by simp) (by omega)).trans HN.out)
  have HR1 := Lib.hid hr1
  have HFO := Lib.hid (HFM.out w1)
  clear hr1 hk1 c1
  go_wp2_with fail
  refine HFO.out.mono ?_
  rintro e w2 ⟨rfl, hb2⟩
  have hs2 := hb2.size
  have hlt1 : w.heap.size < w1.heap.size := by simp at hs1; omega
  have HK2 := Lib.hid (HK1.out.trans (KR.of hb2))
  have HN2 := Lib.hid ((hb2.block w.heap.size hlt1).trans HN1.out)
  have HR2 := Lib.hid (HR1.out.below hb2)
  clear hb2
  have HLL := Lib.hid (HLO.out w2 HK2.out)
  go_upto_region 10 with fail
  · exfalso
    clear HR HN HKR HFM HG HLO HSH HSU HK1 HN1 HR1 HFO HK2 HN2 HR2 HLL
    rcases hcond with h | ⟨-, h⟩ <;> simp_all
  · skip
    go_wp2_with fail
    refine HLL.out.mono ?_
    rintro e w3 ⟨rfl, hb3⟩
    have hs3 := hb3.size
    have HK3 := Lib.hid (HK2.out.trans (KR.of hb3))
    have HN3 := Lib.hid ((hb3.block w.heap.size (by omega)).trans HN2.out)
    have HR3 := Lib.hid (HR2.out.below hb3)
    clear hb3
    have HSW := Lib.hid (HSH.out w3 HK3.out)
    go_wp2_with fail
    refine HSW.out.mono ?_
    rintro e w4 ⟨rfl, hb4⟩
    have hs4 := hb4.size
    have HK4 := Lib.hid (HK3.out.trans (KR.of hb4))
    have HN4 := Lib.hid ((hb4.block w.heap.size (by omega)).trans HN3.out)
    have HR4 := Lib.hid (HR3.out.below hb4)
    clear hb4
    have HSX := Lib.hid (HSU.out w4)
    go_wp2_with fail
    refine HSX.out.mono ?_
    rintro e w5 ⟨rfl, hw5⟩
    replace hw5 := hw5.symm
    subst hw5
    have hn9 := HN4.out
    obtain ⟨n0, n1, n2, n3, n4, n5, n6⟩ := cell_agg7 hn9
    have q : ∀ j, w4.frozen? ⟨w.heap.size, j, none⟩ = false := fun j => froz_agg hn9 j
    have HN9 := Lib.hid hn9
    have HK9 := Lib.hid HK4.out
    have HRD9 := Lib.hid HR4.out
    clear hn9
    go_wp2_with fail
    show bodyPost _ _ _ _ _ (set7 w4 w.heap.size (.int .u8 4) (.bool false) (.int .i64 0) (.int .u64 ((u : Nat) : Int)) (.string ⟨#[]⟩) (.slice none 0 0) (.slice none 0 0))
    have hF := seven_set HN9.out (.int .u8 4) (.bool false) (.int .i64 0) (.int .u64 ((u : Nat) : Int)) (.string ⟨#[]⟩) (.slice none 0 0) (.slice none 0 0)
    have hok := fun e he => set7_ok (e := e) (k := 4) (b := false) (n := 0) (u := ((u : Nat) : Int)) (x := ⟨#[]⟩) (p := w.heap.size) he HK9.out HRD9.out (Nat.le_refl _) hrl (.int .u8 4) (.bool false) (.int .i64 0) (.int .u64 ((u : Nat) : Int)) (.string ⟨#[]⟩) (.slice none 0 0) (.slice none 0 0)
    unfold set7 at hok ⊢
    generalize ((((((w4.setCell ⟨w.heap.size, 0, none⟩ (.int .u8 4)).setCell ⟨w.heap.size, 1, none⟩ (.bool false)).setCell ⟨w.heap.size, 2, none⟩ (.int .i64 0)).setCell ⟨w.heap.size, 3, none⟩ (.int .u64 ((u : Nat) : Int))).setCell ⟨w.heap.size, 4, none⟩ (.string ⟨#[]⟩)).setCell ⟨w.heap.size, 5, none⟩ (.slice none 0 0)).setCell ⟨w.heap.size, 6, none⟩ (.slice none 0 0) = F at *
    obtain ⟨g0, g1, g2, g3, g4, g5, g6⟩ := cell_agg7 hF
    refine bodyPost_ret (v := atomV 4 false 0 ((u : Nat) : Int) ⟨#[]⟩) (by simp [results, Tryz.results51, go_sem, atomV, g0, g1, g2, g3, g4, g5, g6]) rfl ?_
    exact hok _ rfl
  · skip
    go_wp2_with fail
    refine HLL.out.mono ?_
    rintro e w3 ⟨rfl, hb3⟩
    have hs3 := hb3.size
    have HK3 := Lib.hid (HK2.out.trans (KR.of hb3))
    have HN3 := Lib.hid ((hb3.block w.heap.size (by omega)).trans HN2.out)
    have HR3 := Lib.hid (HR2.out.below hb3)
    clear hb3
    have HSW := Lib.hid (HSH.out w3 HK3.out)
    go_wp2_with fail
    refine HSW.out.mono ?_
    rintro e w4 ⟨rfl, hb4⟩
    have hs4 := hb4.size
    have HK4 := Lib.hid (HK3.out.trans (KR.of hb4))
    have HN4 := Lib.hid ((hb4.block w.heap.size (by omega)).trans HN3.out)
    have HR4 := Lib.hid (HR3.out.below hb4)
    clear hb4
    have HSX := Lib.hid (HSU.out w4)
    go_wp2_with fail
    refine HSX.out.mono ?_
    rintro e w5 ⟨rfl, hw5⟩
    replace hw5 := hw5.symm
    subst hw5
    have hn9 := HN4.out
    obtain ⟨n0, n1, n2, n3, n4, n5, n6⟩ := cell_agg7 hn9
    have q : ∀ j, w4.frozen? ⟨w.heap.size, j, none⟩ = false := fun j => froz_agg hn9 j
    have HN9 := Lib.hid hn9
    have HK9 := Lib.hid HK4.out
    have HRD9 := Lib.hid HR4.out
    clear hn9
    go_wp2_with fail
    show bodyPost _ _ _ _ _ (set7 w4 w.heap.size (.int .u8 4) (.bool false) (.int .i64 0) (.int .u64 ((u : Nat) : Int)) (.string ⟨#[]⟩) (.slice none 0 0) (.slice none 0 0))
    have hF := seven_set HN9.out (.int .u8 4) (.bool false) (.int .i64 0) (.int .u64 ((u : Nat) : Int)) (.string ⟨#[]⟩) (.slice none 0 0) (.slice none 0 0)
    have hok := fun e he => set7_ok (e := e) (k := 4) (b := false) (n := 0) (u := ((u : Nat) : Int)) (x := ⟨#[]⟩) (p := w.heap.size) he HK9.out HRD9.out (Nat.le_refl _) hrl (.int .u8 4) (.bool false) (.int .i64 0) (.int .u64 ((u : Nat) : Int)) (.string ⟨#[]⟩) (.slice none 0 0) (.slice none 0 0)
    unfold set7 at hok ⊢
    generalize ((((((w4.setCell ⟨w.heap.size, 0, none⟩ (.int .u8 4)).setCell ⟨w.heap.size, 1, none⟩ (.bool false)).setCell ⟨w.heap.size, 2, none⟩ (.int .i64 0)).setCell ⟨w.heap.size, 3, none⟩ (.int .u64 ((u : Nat) : Int))).setCell ⟨w.heap.size, 4, none⟩ (.string ⟨#[]⟩)).setCell ⟨w.heap.size, 5, none⟩ (.slice none 0 0)).setCell ⟨w.heap.size, 6, none⟩ (.slice none 0 0) = F at *
    obtain ⟨g0, g1, g2, g3, g4, g5, g6⟩ := cell_agg7 hF
    refine bodyPost_ret (v := atomV 4 false 0 ((u : Nat) : Int) ⟨#[]⟩) (by simp [results, Tryz.results51, go_sem, atomV, g0, g1, g2, g3, g4, g5, g6]) rfl ?_
    exact hok _ rfl
end Go.Proofs.YtckaoeloofbklaaGreatDoor
