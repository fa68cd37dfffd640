/- Joined texts: Jq Vo Vp Qb Qc Vq. Each begins with its own remark. -/
import Derived.Test.YtckaoeloofbklaaGreatDoorZl
import Derived.Test.YtckaoeloofbklaaGreatDoorZh
import Derived.Test.YtckaoeloofbklaaGreatDoorZShelf
import Derived.Lib.AppendIntMem
import Derived.Lib.IndexBytes
import Derived.Lib.Replace
import Derived.Test.YtckaoeloofbklaaGreatDoorZg
import Derived.Test.YtckaoeloofbklaaGreatDoorZf
import Derived.Test.YtckaoeloofbklaaGreatDoorZd
import Derived.Laws.BitsAllLaws

/- The reader: strings, lists and records. -/
namespace Go.Proofs.YtckaoeloofbklaaGreatDoor
open Go Go.RowKit Go.Lib

theorem ent_list1 : ∀ args w, (callFunc 74 args).run Tryz.prog w = .ok (.enter 74 args) w := enters_of Tryz.func74 (by kernel_rfl) rfl
theorem ent_rec1 : ∀ args w, (callFunc 75 args).run Tryz.prog w = .ok (.enter 75 args) w := enters_of Tryz.func75 (by kernel_rfl) rfl

theorem it_of {ok : Nat → Prop} {w : World} {g : Nat} : ∀ (l : List JV) (Vs : List Value) (off : Nat), JAll ok w l Vs → (∀ i u, (Vs.flatMap c7)[i]? = some u → w.cell? ⟨g, off + i, none⟩ = some u) → ItAt ok w g off l
  | [], _, _, _, _ => by rw [ItAt]; trivial
  | v :: l, [], _, h, _ => h.elim
  | v :: l, V :: Vs, off, h, hc => by
    obtain ⟨⟨hV, x0, x1, x2, x3, x4, x5, x6, rfl⟩, h2⟩ := h
    rw [ItAt]
    have hc' : ∀ i u, ([x0, x1, x2, x3, x4, x5, x6] ++ Vs.flatMap c7)[i]? = some u → w.cell? ⟨g, off + i, none⟩ = some u := fun i u hu => hc i u (by rw [List.flatMap_cons]; exact hu)
    refine ⟨⟨_, ⟨x0, x1, x2, x3, x4, x5, x6, rfl, hc' 0 _ rfl, hc' 1 _ rfl, hc' 2 _ rfl, hc' 3 _ rfl, hc' 4 _ rfl, hc' 5 _ rfl, hc' 6 _ rfl⟩, hV⟩, it_of l Vs (off + 7) h2 fun i u hu => ?_⟩
    have := hc' (7 + i) u (by rw [List.getElem?_append_right (by simp)]; simpa using hu)
    rwa [show off + (7 + i) = off + 7 + i by omega] at this
section
variable {r : Nat} {s : ByteArray} {d b rb : Nat} {w0 : World} {k : Int} {slk : Value} {ks : List ByteArray} {t : List UInt8} {slb slr : Value} {n : Nat} {xs : List Value} {l : List JV} {Vs : List Value} {W W' : World}
/-- as LS.go, at another depth -/
theorem LS.god {t' : List UInt8} {d' : Nat} (h : LS r s d b rb w0 k slk ks t slb slr n xs l Vs W) (hk : KR r W W') (hr : Rd r s t' d' W') : LS r s d' b rb w0 k slk ks t' slb slr n xs l Vs W' := by
  have hr0 := h.r0
  have hb0 := h.b0
  have hrb0 := h.rb0
  have hws := h.kr.size
  refine ⟨hr, h.kr.trans hk, h.r0, h.b0, h.rb0, (hk.block b (Array.getElem?_eq_some_iff.1 h.box).1 (by omega)).trans h.box, (hk.block rb (Array.getElem?_eq_some_iff.1 h.rbx).1 (by omega)).trans h.rbx, row_kept h.row fun g hg => ?_, h.ne, row_kept h.keys fun g hg => ?_, h.its.kept fun j hj hj2 => ⟨hk.block j hj2 (by omega), hj⟩⟩
  · obtain ⟨g1, g2, -⟩ := row_blk h.row hg
    exact hk.block g g2 (by omega)
  · obtain ⟨g1, g2, -⟩ := row_blk h.keys hg
    exact hk.block g g2 (by omega)
/-- what lies there is a value -/
theorem LS.out {sl : Value} (h : LS r s d b rb w0 k slk ks t sl sl l.length (Vs.flatMap c7) l Vs W) {n0 : Nat} (hw : n0 ≤ w0.heap.size) (hkeep : ∀ j, w0.heap.size ≤ j → j < W.heap.size → W'.heap[j]? = W.heap[j]?) (hl1 : ks.length ≤ 35184372080000) (hl2 : l.length ≤ 35184372080000) :
    JAt (fun j => n0 ≤ j) W' (.mk k false 0 0 ⟨#[]⟩ ks l) (.agg #[.int .u8 k, .bool false, .int .i64 0, .int .u64 0, .string ⟨#[]⟩, slk, sl]) := by
  rw [JAt]
  have hblk : ∀ j, w0.heap.size ≤ j → j < W.heap.size → j < W'.heap.size := fun j h1 h2 => (Array.getElem?_eq_some_iff.1 ((hkeep j h1 h2).trans (Array.getElem?_eq_getElem h2))).1
  have hK : ∃ a c, slk = .slice a ks.length c ∧ StrsAt (fun j => n0 ≤ j) W' a ks := by
    rcases h.keys.2 with ⟨h1, h2⟩ | ⟨g, cap, cur, h1, _⟩
    · exact ⟨none, 0, by rw [h1, h2], .inl (List.length_eq_zero_iff.1 h2)⟩
    · refine ⟨some ⟨g, 0, none⟩, cap, h1, ?_⟩
      obtain ⟨hg1, hg2, -⟩ := row_blk h.keys (g := g) (by rw [h1]; rfl)
      by_cases hks : ks = []
      · exact .inl hks
      · refine .inr ⟨g, 0, rfl, by omega, hblk g hg1 hg2, fun j x hj => ?_⟩
        have := h.keys.cells (g := g) (by rw [h1]; rfl) j (.string x) (by simp [List.getElem?_map, hj])
        have hadd : (⟨g, 0, none⟩ : Addr).add j = ⟨g, 0 + j, none⟩ := by unfold Addr.add; split <;> simp_all
        rw [hadd] at this
        rw [World.cell?_of_block (hkeep g hg1 hg2)]
        exact this
  have hI : ∃ a c, sl = .slice a l.length c ∧ (l = [] ∨ ∃ q off, a = some ⟨q, off, none⟩ ∧ n0 ≤ q ∧ q < W'.heap.size ∧ ItAt (fun j => n0 ≤ j) W' q off l) := by
    rcases h.row.2 with ⟨h1, h2⟩ | ⟨g, cap, cur, h1, _⟩
    · exact ⟨none, 0, by rw [h1, h2], .inl (List.length_eq_zero_iff.1 h2)⟩
    · obtain ⟨hg1, hg2, -⟩ := row_blk h.row (g := g) (by rw [h1]; rfl)
      refine ⟨some ⟨g, 0, none⟩, cap, h1, .inr ⟨g, 0, rfl, by omega, hblk g hg1 hg2, it_of l Vs 0 (h.its.kept fun j hj hj2 => ⟨hkeep j hj.1 hj2, by omega⟩) fun i u hu => ?_⟩⟩
      have := h.row.cells (g := g) (by rw [h1]; rfl) i u hu
      have hadd : (⟨g, 0, none⟩ : Addr).add i = ⟨g, 0 + i, none⟩ := by unfold Addr.add; split <;> simp_all
      rw [hadd] at this
      rw [World.cell?_of_block (hkeep g hg1 hg2)]
      exact this
  obtain ⟨a, c, e1, h1⟩ := hK
  obtain ⟨a', c', e2, h2⟩ := hI
  exact ⟨a, c, a', c', by rw [e1, e2], h1, h2, hl1, hl2⟩
end
/-- what stands while a list is read -/
def InvL (r : Nat) (s : ByteArray) (d b rb : Nat) (w0 : World) (l : List JV) (t : List UInt8) (W : World) : Prop :=
  l.length + t.length ≤ s.size ∧ ∃ sl Vs, LS r s (d + 1) b rb w0 6 (.slice none 0 0) [] t sl sl l.length (Vs.flatMap c7) l Vs W
/-- .. a record -/
def InvR (r : Nat) (s : ByteArray) (d b rb : Nat) (w0 : World) (x : List ByteArray × List JV) (t : List UInt8) (W : World) : Prop :=
  x.1.length + t.length ≤ s.size ∧ x.2.length + t.length ≤ s.size ∧ ∃ slk sl Vs, LS r s (d + 1) b rb w0 7 slk x.1 t sl sl x.2.length (Vs.flatMap c7) x.2 Vs W
theorem invL_ok (r : Nat) (s : ByteArray) (d b rb : Nat) (w0 : World) : InvOK (InvL r s d b rb w0) r s d w0 :=
  ⟨fun _ _ _ ⟨_, _, _, h⟩ => h.rd, fun _ _ _ ⟨_, _, _, h⟩ => h.kr, fun _ _ _ _ _ ⟨h0, _, _, h⟩ ht hk hr => ⟨by omega, _, _, h.go hk hr⟩⟩
theorem invR_ok (r : Nat) (s : ByteArray) (d b rb : Nat) (w0 : World) : InvOK (InvR r s d b rb w0) r s d w0 :=
  ⟨fun _ _ _ ⟨_, _, _, _, _, h⟩ => h.rd, fun _ _ _ ⟨_, _, _, _, _, h⟩ => h.kr, fun _ _ _ _ _ ⟨h0, h1, _, _, _, h⟩ ht hk hr => ⟨by omega, by omega, _, _, _, h.go hk hr⟩⟩
theorem row_form {W : World} {B : Nat} {e : TypeId} {z n : Nat} {v : Value} {xs : List Value} (h : W.ownsRow B e z v n xs) : ∃ ao cap, v = .slice ao n cap := by
  rcases h.2 with ⟨h1, h2⟩ | ⟨g, cap, cur, h1, _⟩
  · exact ⟨_, _, by rw [h2]; exact h1⟩
  · exact ⟨_, _, h1⟩
theorem ls_init {r : Nat} {s : ByteArray} {t : List UInt8} {d rb : Nat} {W0 : World} (k : Int) (h : Rd r s t d W0) (hrb : W0.heap[rb]? = some (.cells #[.pointer (some ⟨r, 0, none⟩)] 54 (0, 0))) (hne : rb ≠ r) :
    LS r s d W0.heap.size rb W0 k (.slice none 0 0) [] t (.slice none 0 0) (.slice none 0 0) 0 [] [] [] (W0.alloc (.cells #[.int .u8 k, .bool false, .int .i64 0, .int .u64 0, .string ⟨#[]⟩, .slice none 0 0, .slice none 0 0] 27)) :=
  ⟨h.alloc _, (KR.refl r W0).alloc _, h.lt, Nat.le_refl _, hne, heap_alloc_new W0 _, (heapJ_old W0 _ rb (Array.getElem?_eq_some_iff.1 hrb).1).trans hrb, ⟨rfl, .inl ⟨rfl, rfl⟩⟩, by simp [Value.ownBlock], ⟨rfl, .inl ⟨rfl, rfl⟩⟩, trivial⟩
/-- the two blocks ahead of that of what is read -/
theorem two_blocks {r : Nat} {s : ByteArray} {t : List UInt8} {d : Nat} {w : World} (h : Rd r s t d w) (o : Obj) :
    Rd r s t d ((w.alloc (.cells #[.pointer (some ⟨r, 0, none⟩)] 54)).alloc o) ∧ KR r w ((w.alloc (.cells #[.pointer (some ⟨r, 0, none⟩)] 54)).alloc o) ∧ ((w.alloc (.cells #[.pointer (some ⟨r, 0, none⟩)] 54)).alloc o).heap.size = w.heap.size + 1 + 1 ∧
    ((w.alloc (.cells #[.pointer (some ⟨r, 0, none⟩)] 54)).alloc o).heap[w.heap.size]? = some (.cells #[.pointer (some ⟨r, 0, none⟩)] 54 (0, 0)) := by
  refine ⟨(h.alloc _).alloc _, ((KR.refl r w).alloc _).alloc _, by simp, ?_⟩
  rw [heapJ_old _ _ _ (by simp)]
  exact heap_alloc_new _ _
set_option maxRecDepth 100000 in
set_option maxHeartbeats 16000000 in
theorem rec1_twice (r : Nat) (s : ByteArray) (d b rb : Nat) (w0 : World) (t t1 x t2 : List UInt8) (slk : Value) (ks : List ByteArray) (sl : Value) (l : List JV) (Vs : List Value) (w : World) (h : LS r s d b rb w0 7 slk ks t sl sl l.length (Vs.flatMap c7) l Vs w) (hks : (ks.length + 1) * 16 ≤ 140737488355328) (h17 : 17 ≤ r) (hT : Lib.Utf8Tabs 0 1 w0)
    (e1 : skipB t = 34 :: t1) (e2 : Str decB8 enc t1 x t2) (e3 : ⟨x.toArray⟩ ∈ ks) :
    Calls Tryz.prog 75 #[.pointer (some ⟨rb, 0, none⟩), .pointer (some ⟨b, 0, none⟩)] w fun e w' => Gives 162 (s.size - (skipB t).length) e ∧ KR r w0 w' := by
  obtain ⟨ka, kc, hk⟩ : ∃ ao cap, slk = .slice ao ks.length cap := by
    rcases h.keys.2 with ⟨h1, h2⟩ | ⟨g, cap, cur, h1, _⟩
    · exact ⟨_, _, by rw [h2]; exact h1⟩
    · exact ⟨_, _, h1⟩
  subst hk
  have HL := Lib.hid h
  have HB := Lib.hid (blanks_any r s t d w h.rd)
  have crb : w.cell? ⟨rb, 0, none⟩ = some (.pointer (some ⟨r, 0, none⟩)) := by have := h.rbx; rw [cell_of_row _ _ 0 _ _ _ this]; rfl
  clear h
  unfold Gives wrongV
  rw [e1]
  go_enter Tryz.func75, Tryz.ntmps75
  go_wp2_with fail
  refine HB.out.mono ?_
  rintro e wb ⟨rfl, hr1, hk1⟩
  rw [e1] at hr1
  have h1 := HL.out.go hk1 hr1
  have HL1 := Lib.hid h1
  clear HB HL crb
  have crb : wb.cell? ⟨rb, 0, none⟩ = some (.pointer (some ⟨r, 0, none⟩)) := by have := h1.rbx; rw [cell_of_row _ _ 0 _ _ _ this]; rfl
  obtain ⟨m, -, hmm, -, cm⟩ := h1.rd.head
  have HQ := Lib.hid (quoted_any r s t1 x t2 d wb h1.rd h17 (utabs_kept hT (h1.kr.low' h17 (by have := h1.r0; omega))) e2)
  clear h1 hr1 hk1
  go_wp2_with fail
  refine HQ.out.mono ?_
  rintro e wq ⟨rfl, hr2, hk2⟩
  have h2 := HL1.out.go hk2 hr2
  have HL2 := Lib.hid h2
  clear HQ HL1 crb cm
  have HH := Lib.hid (h2.has (by omega) ⟨x.toArray⟩)
  have hno : Lib.containsS ks ⟨x.toArray⟩ = true := by rw [Lib.containsS_iff]; exact e3
  have ck : wq.cell? ⟨b, 5, none⟩ = some (.slice ka ks.length kc) := by have := h2.box; rw [cell_of_row _ _ 5 _ _ _ this]; rfl
  clear h2 hr2 hk2
  go_wp2_with fail
  refine HH.out.mono ?_
  rintro e wh ⟨rfl, hw⟩
  subst hw
  rw [hno]
  have hpos : s.size - (t1.length + 1) = m := by omega
  go_wp2_with fail
  exact ⟨rfl, by rw [hpos], HL2.out.kr⟩
theorem str_len {t out t' : List UInt8} (h : Str decB8 enc t out t') : t'.length ≤ t.length := by
  induction h with
  | last => simp; omega
  | esc _ he _ ih =>
    have := (esc_len he).2.1
    simp; omega
theorem skip_len (t : List UInt8) : (skipB t).length ≤ t.length := (List.dropWhile_suffix _).length_le

/-- one of a list -/
theorem one_list (P : List UInt8 → Out JV → Prop) (hP : ∀ t v t', P t (.ok v t') → t'.length < t.length) (r : Nat) (s : ByteArray) (d b rb : Nat) (hs40 : (s.size + 1) * 88 ≤ 140737488355328) (w0 : World)
    (HC : ∀ W t o, KR r w0 W → Rd r s t (d + 1) W → P t o → Calls Tryz.prog 25 #[.pointer (some ⟨r, 0, none⟩)] W (ValPost r s (d + 1) W o)) (st : (List JV)) (t : List UInt8) (o : Out (List JV)) (W : World) (hv : InvL r s d b rb w0 st t W) (ho : OneL P st t o) :
    Calls Tryz.prog 74 #[.pointer (some ⟨b, 0, none⟩), .pointer (some ⟨rb, 0, none⟩)] W (OnePost (InvL r s d b rb w0) r s w0 o) := by
  obtain ⟨h0, sl, Vs, hls⟩ := hv
  cases ho with
  | ok hp =>
    have := hP _ _ _ hp
    refine (list1_any r s (d + 1) b rb w0 t sl st Vs _ W hls (by omega) (fun W hk hr => HC W t _ hk hr hp)).mono ?_
    rintro e w' ⟨rfl, sl', Vs', h2⟩
    exact ⟨rfl, by simp; omega, _, _, h2⟩
  | err hp =>
    refine (list1_any r s (d + 1) b rb w0 t sl st Vs _ W hls (by omega) (fun W hk hr => HC W t _ hk hr hp)).mono ?_
    rintro e w' ⟨h1, h2⟩
    exact ⟨h1, h2⟩

set_option maxRecDepth 100000 in
set_option maxHeartbeats 16000000 in
theorem list_yes (P : List UInt8 → Out JV → Prop) (hP : ∀ t v t', P t (.ok v t') → t'.length < t.length) (r : Nat) (s : ByteArray) (d : Nat) (hd : d < 64) (hs40 : (s.size + 1) * 88 ≤ 140737488355328) (t : List UInt8) (w : World) (h : Rd r s (91 :: t) d w)
    (HC : ∀ W t o, KR r w W → Rd r s t (d + 1) W → P t o → Calls Tryz.prog 25 #[.pointer (some ⟨r, 0, none⟩)] W (ValPost r s (d + 1) W o)) (o : Out (List JV)) (ho : Sev0 93 (OneL P) [] (skipB t) o) :
    Calls Tryz.prog 48 #[.pointer (some ⟨r, 0, none⟩)] w (ValPost r s d w (o.map jList)) := by
  have hrl := h.lt
  have hlen := h.len
  have hbig := h.big
  obtain ⟨h0, k0, s0, n0⟩ := two_blocks h (.cells #[.int .u8 0, .bool false, .int .i64 0, .int .u64 0, .string ⟨#[]⟩, .slice none 0 0, .slice none 0 0] 27)
  have q0 : ((w.alloc (.cells #[.pointer (some ⟨r, 0, none⟩)] 54)).alloc (.cells #[.int .u8 0, .bool false, .int .i64 0, .int .u64 0, .string ⟨#[]⟩, .slice none 0 0, .slice none 0 0] 27)).heap[w.heap.size + 1]? = some (.cells #[.int .u8 0, .bool false, .int .i64 0, .int .u64 0, .string ⟨#[]⟩, .slice none 0 0, .slice none 0 0] 27 (0, 0)) := by
    have := heap_alloc_new (w.alloc (.cells #[.pointer (some ⟨r, 0, none⟩)] 54)) (.cells #[.int .u8 0, .bool false, .int .i64 0, .int .u64 0, .string ⟨#[]⟩, .slice none 0 0, .slice none 0 0] 27)
    simpa using this
  have hin := ls_init (t := 91 :: t) 6 h0 n0 (by omega)
  have HIN := Lib.hid hin
  have HK0 := Lib.hid k0
  have HQ0 := Lib.hid q0
  have HC := Lib.hid HC
  have HO := Lib.hid ho
  clear h h0 n0 k0 q0 ho hin
  go_enter Tryz.func48, Tryz.ntmps48
  go_upto_region 2 with fail
  generalize (w.alloc (.cells #[.pointer (some ⟨r, 0, none⟩)] 54)).alloc (.cells #[.int .u8 0, .bool false, .int .i64 0, .int .u64 0, .string ⟨#[]⟩, .slice none 0 0, .slice none 0 0] 27) = W0 at *
  have crb : (W0.alloc (.cells #[.int .u8 6, .bool false, .int .i64 0, .int .u64 0, .string ⟨#[]⟩, .slice none 0 0, .slice none 0 0] 27)).cell? ⟨w.heap.size, 0, none⟩ = some (.pointer (some ⟨r, 0, none⟩)) := by have := HIN.out.rbx; rw [cell_of_row _ _ 0 _ _ _ this]; rfl
  have HWI := Lib.hid (within_yes r s 91 t d _ HIN.out.rd hd)
  go_wp2_with fail
  refine HWI.out.mono ?_
  rintro e w1 ⟨rfl, hr1, hk1⟩
  have h1 := HIN.out.god hk1 hr1
  rw [s0] at h1
  have HL := Lib.hid h1
  have crb : w1.cell? ⟨w.heap.size, 0, none⟩ = some (.pointer (some ⟨r, 0, none⟩)) := by have := h1.rbx; rw [cell_of_row _ _ 0 _ _ _ this]; rfl
  clear HWI HIN hr1 hk1 h1
  have hmf : ∀ (fn : Fn) (first cap : Array Value) (w : World), (Instr.makeFunc fn first cap).run Tryz.prog w = .ok (.func fn first cap) w := fun _ _ _ _ => rfl
  have hsk : (skipB t).length ≤ t.length := (List.dropWhile_suffix _).length_le
  have hstart : InvL r s d (w.heap.size + 1 + 1) w.heap.size W0 [] (skipB t) w1 := ⟨by simp at hlen ⊢; omega, .slice none 0 0, [], HL.out⟩
  have HSV := Lib.hid (several_any (InvL r s d (w.heap.size + 1 + 1) w.heap.size W0) (OneL P) 74 #[.pointer (some ⟨w.heap.size + 1 + 1, 0, none⟩), .pointer (some ⟨w.heap.size, 0, none⟩)] ent_list1 93 (by decide) r s d hd W0 (invL_ok r s d _ _ W0)
    (one_list P hP r s d _ _ hs40 W0 (fun W t o hk hr hp => HC.out W t o (HK0.out.trans hk) hr hp)) [] (skipB t) w1 hstart o HO.out)
  clear hstart
  go_wp2_with fail
  refine HSV.out.mono ?_
  intro e w2 hp
  cases o with
  | err x t' =>
    obtain ⟨hg, hk2⟩ := hp
    unfold Gives at hg
    subst hg
    exact ⟨rfl, rfl, HK0.out.trans hk2⟩
  | ok x t' =>
    obtain ⟨rfl, W1, hv, hr2, hk2⟩ := hp
    obtain ⟨hl0, sl, Vs, hls⟩ := hv
    obtain ⟨ao, co, rfl⟩ := row_form hls.row
    have h2 := hls.god hk2 hr2
    have HL2 := Lib.hid h2
    have hq := (h2.kr.block (w.heap.size + 1) (by omega) (by omega)).trans HQ0.out
    obtain ⟨b0, b1, b2, b3, b4, b5, b6⟩ := cell_agg7 h2.box
    have q : ∀ j, w2.frozen? ⟨w.heap.size + 1, j, none⟩ = false := fun j => froz_agg hq j
    obtain ⟨q0, q1, q2, q3, q4, q5, q6⟩ := cell_agg7 hq
    have HQ := Lib.hid hq
    clear hls hk2 hr2 h2 hq HSV
    go_wp2_with fail
    show bodyPost _ _ _ _ _ (set7 w2 (w.heap.size + 1) (.int .u8 6) (.bool false) (.int .i64 0) (.int .u64 0) (.string ⟨#[]⟩) (.slice none 0 0) (.slice ao x.length co))
    have hF := seven_set HQ.out (.int .u8 6) (.bool false) (.int .i64 0) (.int .u64 0) (.string ⟨#[]⟩) (.slice none 0 0) (.slice ao x.length co)
    have hk := set7_kr (p := w.heap.size + 1) (HK0.out.trans HL2.out.kr) (by omega) (.int .u8 6) (.bool false) (.int .i64 0) (.int .u64 0) (.string ⟨#[]⟩) (.slice none 0 0) (.slice ao x.length co)
    have hb : ∀ j, j ≠ w.heap.size + 1 → _ := fun j hj => set7_block (w := w2) hj (.int .u8 6) (.bool false) (.int .i64 0) (.int .u64 0) (.string ⟨#[]⟩) (.slice none 0 0) (.slice ao x.length co)
    unfold set7 at hk hb ⊢
    generalize ((((((w2.setCell ⟨w.heap.size + 1, 0, none⟩ (.int .u8 6)).setCell ⟨w.heap.size + 1, 1, none⟩ (.bool false)).setCell ⟨w.heap.size + 1, 2, none⟩ (.int .i64 0)).setCell ⟨w.heap.size + 1, 3, none⟩ (.int .u64 0)).setCell ⟨w.heap.size + 1, 4, none⟩ (.string ⟨#[]⟩)).setCell ⟨w.heap.size + 1, 5, none⟩ (.slice none 0 0)).setCell ⟨w.heap.size + 1, 6, none⟩ (.slice ao x.length co) = F at *
    obtain ⟨g0, g1, g2, g3, g4, g5, g6⟩ := cell_agg7 hF
    refine bodyPost_ret (v := .agg #[.int .u8 6, .bool false, .int .i64 0, .int .u64 0, .string ⟨#[]⟩, (.slice none 0 0), (.slice ao x.length co)]) (by simp [results, Tryz.results48, go_sem, g0, g1, g2, g3, g4, g5, g6]) rfl ?_
    exact ⟨_, rfl, HL2.out.out (by omega) (fun j hj _ => hb j (by omega)) (by simp) (by omega), HL2.out.rd.kept (hb r (by omega)), hk⟩
/-- one of a record -/
theorem one_record (P : List UInt8 → Out JV → Prop) (hP : ∀ t v t', P t (.ok v t') → t'.length < t.length) (r : Nat) (s : ByteArray) (d b rb : Nat) (hs40 : (s.size + 1) * 88 ≤ 140737488355328) (h17 : 17 ≤ r) (w0 : World) (hT : Lib.Utf8Tabs 0 1 w0)
    (HC : ∀ W t o, KR r w0 W → Rd r s t (d + 1) W → P t o → Calls Tryz.prog 25 #[.pointer (some ⟨r, 0, none⟩)] W (ValPost r s (d + 1) W o)) (st : (List ByteArray × List JV)) (t : List UInt8) (o : Out (List ByteArray × List JV)) (W : World) (hv : InvR r s d b rb w0 st t W) (ho : OneR decB8 enc P st t o) :
    Calls Tryz.prog 75 #[.pointer (some ⟨rb, 0, none⟩), .pointer (some ⟨b, 0, none⟩)] W (OnePost (InvR r s d b rb w0) r s w0 o) := by
  obtain ⟨ks, vs⟩ := st
  obtain ⟨h0, h1, slk, sl, Vs, hls⟩ := hv
  replace h0 : ks.length + t.length ≤ s.size := h0
  replace h1 : vs.length + t.length ≤ s.size := h1
  replace hls : LS r s (d + 1) b rb w0 7 slk ks t sl sl vs.length (Vs.flatMap c7) vs Vs W := hls
  cases ho with
  | ok e1 e2 e3 e4 hp =>
    rename_i t1 k t2 t3 v t4
    have q1 := hP _ _ _ hp
    have q2 := str_len e2
    have q3 := skip_len t
    rw [e1, List.length_cons] at q3
    have q4 := skip_len t2
    rw [e4, List.length_cons] at q4
    refine (rec1_go P r s (d + 1) b rb w0 t _ _ _ _ slk _ sl _ Vs _ W hls (by omega) (by omega) h17 hT e1 e2 e3 e4 (fun W hk hr => HC W _ _ hk hr hp)).mono ?_
    rintro e w' ⟨rfl, slk', sl', Vs', h2⟩
    exact ⟨rfl, by simp; omega, by simp; omega, _, _, _, h2⟩
  | err e1 e2 e3 e4 hp =>
    refine (rec1_go P r s (d + 1) b rb w0 t _ _ _ _ slk _ sl _ Vs _ W hls (by omega) (by omega) h17 hT e1 e2 e3 e4 (fun W hk hr => HC W _ _ hk hr hp)).mono ?_
    rintro e w' ⟨h1, h2⟩
    exact ⟨h1, h2⟩
  | twice e1 e2 e3 =>
    refine (rec1_twice r s (d + 1) b rb w0 t _ _ _ slk _ sl _ Vs W hls (by omega) h17 hT e1 e2 e3).mono ?_
    rintro e w' ⟨h1, h2⟩
    exact ⟨h1, h2⟩

set_option maxRecDepth 100000 in
set_option maxHeartbeats 16000000 in
theorem record_yes (P : List UInt8 → Out JV → Prop) (hP : ∀ t v t', P t (.ok v t') → t'.length < t.length) (r : Nat) (s : ByteArray) (d : Nat) (hd : d < 64) (hs40 : (s.size + 1) * 88 ≤ 140737488355328) (h17 : 17 ≤ r) (t : List UInt8) (w : World) (h : Rd r s (123 :: t) d w) (hT : Lib.Utf8Tabs 0 1 w)
    (HC : ∀ W t o, KR r w W → Rd r s t (d + 1) W → P t o → Calls Tryz.prog 25 #[.pointer (some ⟨r, 0, none⟩)] W (ValPost r s (d + 1) W o)) (o : Out (List ByteArray × List JV)) (ho : Sev0 125 (OneR decB8 enc P) ([], []) (skipB t) o) :
    Calls Tryz.prog 49 #[.pointer (some ⟨r, 0, none⟩)] w (ValPost r s d w (o.map (fun x => jRec x.1 x.2))) := by
  have hrl := h.lt
  have hlen := h.len
  have hbig := h.big
  obtain ⟨h0, k0, s0, n0⟩ := two_blocks h (.cells #[.int .u8 0, .bool false, .int .i64 0, .int .u64 0, .string ⟨#[]⟩, .slice none 0 0, .slice none 0 0] 27)
  have q0 : ((w.alloc (.cells #[.pointer (some ⟨r, 0, none⟩)] 54)).alloc (.cells #[.int .u8 0, .bool false, .int .i64 0, .int .u64 0, .string ⟨#[]⟩, .slice none 0 0, .slice none 0 0] 27)).heap[w.heap.size + 1]? = some (.cells #[.int .u8 0, .bool false, .int .i64 0, .int .u64 0, .string ⟨#[]⟩, .slice none 0 0, .slice none 0 0] 27 (0, 0)) := by
    have := heap_alloc_new (w.alloc (.cells #[.pointer (some ⟨r, 0, none⟩)] 54)) (.cells #[.int .u8 0, .bool false, .int .i64 0, .int .u64 0, .string ⟨#[]⟩, .slice none 0 0, .slice none 0 0] 27)
    simpa using this
  have hin := ls_init (t := 123 :: t) 7 h0 n0 (by omega)
  have HIN := Lib.hid hin
  have HK0 := Lib.hid k0
  have HQ0 := Lib.hid q0
  have HC := Lib.hid HC
  have HO := Lib.hid ho
  clear h h0 n0 k0 q0 ho hin
  go_enter Tryz.func49, Tryz.ntmps49
  go_upto_region 2 with fail
  generalize (w.alloc (.cells #[.pointer (some ⟨r, 0, none⟩)] 54)).alloc (.cells #[.int .u8 0, .bool false, .int .i64 0, .int .u64 0, .string ⟨#[]⟩, .slice none 0 0, .slice none 0 0] 27) = W0 at *
  have crb : (W0.alloc (.cells #[.int .u8 7, .bool false, .int .i64 0, .int .u64 0, .string ⟨#[]⟩, .slice none 0 0, .slice none 0 0] 27)).cell? ⟨w.heap.size, 0, none⟩ = some (.pointer (some ⟨r, 0, none⟩)) := by have := HIN.out.rbx; rw [cell_of_row _ _ 0 _ _ _ this]; rfl
  have HWI := Lib.hid (within_yes r s 123 t d _ HIN.out.rd hd)
  go_wp2_with fail
  refine HWI.out.mono ?_
  rintro e w1 ⟨rfl, hr1, hk1⟩
  have h1 := HIN.out.god hk1 hr1
  rw [s0] at h1
  have HL := Lib.hid h1
  have crb : w1.cell? ⟨w.heap.size, 0, none⟩ = some (.pointer (some ⟨r, 0, none⟩)) := by have := h1.rbx; rw [cell_of_row _ _ 0 _ _ _ this]; rfl
  clear HWI HIN hr1 hk1 h1
  have hmf : ∀ (fn : Fn) (first cap : Array Value) (w : World), (Instr.makeFunc fn first cap).run Tryz.prog w = .ok (.func fn first cap) w := fun _ _ _ _ => rfl
  have hsk : (skipB t).length ≤ t.length := (List.dropWhile_suffix _).length_le
  have hstart : InvR r s d (w.heap.size + 1 + 1) w.heap.size W0 ([], []) (skipB t) w1 := ⟨by simp at hlen ⊢; omega, by simp at hlen ⊢; omega, .slice none 0 0, .slice none 0 0, [], HL.out⟩
  have HSV := Lib.hid (several_any (InvR r s d (w.heap.size + 1 + 1) w.heap.size W0) (OneR decB8 enc P) 75 #[.pointer (some ⟨w.heap.size, 0, none⟩), .pointer (some ⟨w.heap.size + 1 + 1, 0, none⟩)] ent_rec1 125 (by decide) r s d hd W0 (invR_ok r s d _ _ W0)
    (one_record P hP r s d _ _ hs40 h17 W0 (utabs_kept hT (HK0.out.low' h17 (by omega))) (fun W t o hk hr hp => HC.out W t o (HK0.out.trans hk) hr hp)) ([], []) (skipB t) w1 hstart o HO.out)
  clear hstart
  go_wp2_with fail
  refine HSV.out.mono ?_
  intro e w2 hp
  cases o with
  | err x t' =>
    obtain ⟨hg, hk2⟩ := hp
    unfold Gives at hg
    subst hg
    exact ⟨rfl, rfl, HK0.out.trans hk2⟩
  | ok x t' =>
    obtain ⟨rfl, W1, hv, hr2, hk2⟩ := hp
    obtain ⟨hl0, hl1, slk, sl, Vs, hls⟩ := hv
    obtain ⟨ka, kc, rfl⟩ := row_form hls.keys
    obtain ⟨ao, co, rfl⟩ := row_form hls.row
    have h2 := hls.god hk2 hr2
    have HL2 := Lib.hid h2
    have hq := (h2.kr.block (w.heap.size + 1) (by omega) (by omega)).trans HQ0.out
    obtain ⟨b0, b1, b2, b3, b4, b5, b6⟩ := cell_agg7 h2.box
    have q : ∀ j, w2.frozen? ⟨w.heap.size + 1, j, none⟩ = false := fun j => froz_agg hq j
    obtain ⟨q0, q1, q2, q3, q4, q5, q6⟩ := cell_agg7 hq
    have HQ := Lib.hid hq
    clear hls hk2 hr2 h2 hq HSV
    go_wp2_with fail
    show bodyPost _ _ _ _ _ (set7 w2 (w.heap.size + 1) (.int .u8 7) (.bool false) (.int .i64 0) (.int .u64 0) (.string ⟨#[]⟩) (.slice ka x.1.length kc) (.slice ao x.2.length co))
    have hF := seven_set HQ.out (.int .u8 7) (.bool false) (.int .i64 0) (.int .u64 0) (.string ⟨#[]⟩) (.slice ka x.1.length kc) (.slice ao x.2.length co)
    have hk := set7_kr (p := w.heap.size + 1) (HK0.out.trans HL2.out.kr) (by omega) (.int .u8 7) (.bool false) (.int .i64 0) (.int .u64 0) (.string ⟨#[]⟩) (.slice ka x.1.length kc) (.slice ao x.2.length co)
    have hb : ∀ j, j ≠ w.heap.size + 1 → _ := fun j hj => set7_block (w := w2) hj (.int .u8 7) (.bool false) (.int .i64 0) (.int .u64 0) (.string ⟨#[]⟩) (.slice ka x.1.length kc) (.slice ao x.2.length co)
    unfold set7 at hk hb ⊢
    generalize ((((((w2.setCell ⟨w.heap.size + 1, 0, none⟩ (.int .u8 7)).setCell ⟨w.heap.size + 1, 1, none⟩ (.bool false)).setCell ⟨w.heap.size + 1, 2, none⟩ (.int .i64 0)).setCell ⟨w.heap.size + 1, 3, none⟩ (.int .u64 0)).setCell ⟨w.heap.size + 1, 4, none⟩ (.string ⟨#[]⟩)).setCell ⟨w.heap.size + 1, 5, none⟩ (.slice ka x.1.length kc)).setCell ⟨w.heap.size + 1, 6, none⟩ (.slice ao x.2.length co) = F at *
    obtain ⟨g0, g1, g2, g3, g4, g5, g6⟩ := cell_agg7 hF
    refine bodyPost_ret (v := .agg #[.int .u8 7, .bool false, .int .i64 0, .int .u64 0, .string ⟨#[]⟩, (.slice ka x.1.length kc), (.slice ao x.2.length co)]) (by simp [results, Tryz.results49, go_sem, g0, g1, g2, g3, g4, g5, g6]) rfl ?_
    exact ⟨_, rfl, HL2.out.out (by omega) (fun j hj _ => hb j (by omega)) (by omega) (by omega), HL2.out.rd.kept (hb r (by omega)), hk⟩
end Go.Proofs.YtckaoeloofbklaaGreatDoor

/- num.placed: digits with a point. -/
namespace Go.Proofs.YtckaoeloofbklaaGreatDoor
open Go Go.RowKit Go.Sort Go.Lib

def expS (x : Int) : List UInt8 := 101 :: (if x < 0 then 45 else 43) :: decDigits x.natAbs
def placedB (d : List UInt8) (p : Int) : List UInt8 :=
  if (d.length : Int) ≤ p ∧ p ≤ 21 then d ++ List.replicate (p - d.length).toNat 48
  else if 0 < p ∧ p < d.length ∧ p ≤ 21 then d.take p.toNat ++ 46 :: d.drop p.toNat
  else if -6 < p ∧ p ≤ 0 then 48 :: 46 :: (List.replicate (-p).toNat 48 ++ d)
  else (if 1 < d.length then d.take 1 ++ 46 :: d.drop 1 else d) ++ expS (p - 1)

theorem repeat48 (k : Nat) : repeatL [48] k = List.replicate k 48 := by
  induction k with
  | zero => rfl
  | succ k ih => simp [repeatL, ih, List.replicate_succ]

theorem str_is {l : List UInt8} {s : ByteArray} (h : s.data.toList = l) : s = ⟨l.toArray⟩ := by
  subst h; rfl

theorem zeros_any (k : Int) (w : World) (h0 : 0 ≤ k) (h1 : k ≤ 10000) :
    Calls Tryz.prog 140 #[.string ⟨#[48]⟩, .int .i64 k] w fun e w' => e = .returned (.string ⟨(List.replicate k.toNat 48).toArray⟩) ∧ Below w.heap.size w w' := by
  obtain ⟨n, rfl⟩ := Int.eq_ofNat_of_zero_le h0
  have := Tryz.strings_Repeat ⟨#[48]⟩ n w (by omega) (by show 1 * n ≤ _; omega)
  rw [show (⟨#[48]⟩ : ByteArray).data.toList = [48] from rfl, repeat48] at this
  exact this

theorem zz (k : Nat) : (⟨(List.replicate k 48).toArray⟩ : ByteArray).size = k := by
  show (List.replicate k (48 : UInt8)).toArray.size = k
  rw [List.size_toArray, List.length_replicate]
set_option maxRecDepth 100000 in
set_option maxHeartbeats 1000000 in
theorem placed_1 (d : ByteArray) (p : Int) (w : World) (hd : d.size ≤ 20) (h1 : (d.size : Int) ≤ p) (h2 : p ≤ 21) :
    Calls Tryz.prog 104 #[.string d, .int .i64 p] w fun e w' => e = .returned (.string ⟨(placedB d.data.toList p).toArray⟩) ∧ Below w.heap.size w w' := by
  have hR : d ++ (⟨(List.replicate (p - d.size).toNat 48).toArray⟩ : ByteArray) = ⟨(placedB d.data.toList p).toArray⟩ := by
    refine str_is ?_
    rw [placedB, if_pos (by simpa using ⟨h1, h2⟩)]
    simp
  have HZ := Lib.hid (zeros_any (p - d.size) w (by omega) (by omega))
  have hz : (⟨(List.replicate (p - d.size).toNat 48).toArray⟩ : ByteArray).size ≤ 100 := by rw [zz]; omega
  generalize (⟨(placedB d.data.toList p).toArray⟩ : ByteArray) = R at *
  generalize (⟨(List.replicate (p - d.size).toNat 48).toArray⟩ : ByteArray) = Z at *
  go_enter Tryz.func104, Tryz.ntmps104
  go_wp2_with fail
  refine HZ.out.mono ?_
  rintro e w5 ⟨rfl, hb⟩
  have HB := Lib.hid hb
  clear hb
  go_wp2_with fail
  go_ret
  exact ⟨rfl, HB.out⟩

set_option maxRecDepth 100000 in
set_option maxHeartbeats 1000000 in
theorem placed_2 (d : ByteArray) (p : Int) (w : World) (hd : d.size ≤ 20) (h1 : 0 < p) (h2 : p < d.size) (h3 : p ≤ 21) :
    Calls Tryz.prog 104 #[.string d, .int .i64 p] w fun e w' => e = .returned (.string ⟨(placedB d.data.toList p).toArray⟩) ∧ Below w.heap.size w w' := by
  obtain ⟨q, rfl⟩ := Int.eq_ofNat_of_zero_le (show 0 ≤ p by omega)
  have hR : d.extract 0 q ++ (⟨#[46]⟩ : ByteArray) ++ d.extract q d.size = ⟨(placedB d.data.toList q).toArray⟩ := by
    refine str_is ?_
    rw [placedB, if_neg (show ¬ _ by simp; omega), if_pos (by simp; omega)]
    simp [List.extract_eq_take_drop, ← ByteArray.size_data]
    exact List.take_of_length_le (by simp)
  have HB := Lib.hid (Below.refl w.heap.size w)
  have hq : q ≤ d.size := by omega
  have hA : ∀ W : World, (Instr.slice 9 (.string d) none (some (.int .i64 q)) none).run Tryz.prog W = .ok (.string (d.extract 0 q)) W := fun W => run_slice_string_h W _ d Tryz.underlying9 .i64 q (by omega) (by omega)
  have hC : ∀ W : World, (Instr.slice 9 (.string d) (some (.int .i64 q)) none none).run Tryz.prog W = .ok (.string (d.extract q d.size)) W := fun W => run_slice_string_l W _ d Tryz.underlying9 .i64 q (by omega) (by omega)
  have za : (d.extract 0 q).size ≤ 100 := by rw [ByteArray.size_extract]; omega
  have zc : (d.extract q d.size).size ≤ 100 := by rw [ByteArray.size_extract]; omega
  generalize d.extract 0 q = A at *
  generalize d.extract q d.size = C at *
  generalize (⟨(placedB d.data.toList q).toArray⟩ : ByteArray) = R at *
  go_enter Tryz.func104, Tryz.ntmps104
  go_wp2_with fail
  go_quiet (fail)
  go_wp2
  go_ret
  exact ⟨rfl, bDrewN HB.out _⟩

set_option maxRecDepth 100000 in
set_option maxHeartbeats 1000000 in
theorem placed_3 (d : ByteArray) (p : Int) (w : World) (hd : d.size ≤ 20) (hd1 : 1 ≤ d.size) (h1 : -6 < p) (h2 : p ≤ 0) :
    Calls Tryz.prog 104 #[.string d, .int .i64 p] w fun e w' => e = .returned (.string ⟨(placedB d.data.toList p).toArray⟩) ∧ Below w.heap.size w w' := by
  have hR : (⟨#[48, 46]⟩ : ByteArray) ++ (⟨(List.replicate (-p).toNat 48).toArray⟩ : ByteArray) ++ d = ⟨(placedB d.data.toList p).toArray⟩ := by
    refine str_is ?_
    rw [placedB, if_neg (show ¬ _ by simp; omega), if_neg (show ¬ _ by omega), if_pos ⟨h1, h2⟩]
    simp
  have HZ := Lib.hid (zeros_any (-p) w (by omega) (by omega))
  have hz : (⟨(List.replicate (-p).toNat 48).toArray⟩ : ByteArray).size ≤ 100 := by rw [zz]; omega
  generalize (⟨(placedB d.data.toList p).toArray⟩ : ByteArray) = R at *
  generalize (⟨(List.replicate (-p).toNat 48).toArray⟩ : ByteArray) = Z at *
  go_enter Tryz.func104, Tryz.ntmps104
  go_wp2_with fail
  refine HZ.out.mono ?_
  rintro e w5 ⟨rfl, hb⟩
  have HB := Lib.hid hb
  clear hb
  go_wp2_with fail
  go_ret
  exact ⟨rfl, HB.out⟩

/-- strconv.Itoa at a small number, with what a string of few bytes wants -/
theorem itoa_any (n : Nat) (w : World) (hg : Glob w) (hn : n ≤ 5001) :
    Calls Tryz.prog 141 #[.int .i64 n] w fun e w' => e = .returned (.string ⟨(decDigits n).toArray⟩) ∧ Below w.heap.size w w' := by
  refine (Tryz.strconv_Itoa n (by omega) (by omega) w hg.u10).mono ?_
  rintro e w' ⟨rfl, k, os, rfl⟩
  refine ⟨by rw [itoa, if_neg (by omega)]; rfl, ?_⟩
  exact below_grow _ w (Nat.le_refl _) k os

-- four
set_option maxRecDepth 100000 in
set_option maxHeartbeats 1000000 in
theorem placed_4ps (d : ByteArray) (k : Nat) (w : World) (hg : Glob w) (_hd : d.size ≤ 20) (hd1 : d.size = 1) (hk : 21 ≤ k) (hk2 : k ≤ 5001) :
    Calls Tryz.prog 104 #[.string d, .int .i64 ((k : Int) + 1)] w fun e w' => e = .returned (.string ⟨(placedB d.data.toList ((k : Int) + 1)).toArray⟩) ∧ Below w.heap.size w w' := by
  have HI := Lib.hid (itoa_any k w hg hk2)
  have hz : (⟨(decDigits k).toArray⟩ : ByteArray).size ≤ 100 := by
    show (decDigits k).toArray.size ≤ 100
    rw [List.size_toArray, decDigits_length]
    have := nDigits_le k (by omega) (by omega); omega
  have hR : d ++ (⟨#[101]⟩ : ByteArray) ++ (⟨#[43]⟩ : ByteArray) ++ ⟨(decDigits k).toArray⟩ = ⟨(placedB d.data.toList ((k : Int) + 1)).toArray⟩ := by
    refine str_is ?_
    rw [placedB, if_neg (show ¬ _ by omega), if_neg (show ¬ _ by omega), if_neg (show ¬ _ by omega), if_neg (show ¬ 1 < d.data.toList.length by rw [Array.length_toList]; exact Nat.not_lt.2 (Nat.le_of_eq hd1)), expS, if_neg (show ¬ ((k : Int) + 1) - 1 < 0 by omega), show (((k : Int) + 1) - 1).natAbs = k by omega]
    simp
  have ha : ((k : Int) + 1) - 1 = k := by omega
  clear hg
  generalize (⟨(placedB d.data.toList ((k : Int) + 1)).toArray⟩ : ByteArray) = R at *
  generalize (⟨(decDigits k).toArray⟩ : ByteArray) = Z at *
  go_enter Tryz.func104, Tryz.ntmps104
  go_wp2_with fail

  refine HI.out.mono ?_
  rintro e w5 ⟨rfl, hb⟩
  have HB := Lib.hid hb
  clear hb
  go_wp2_with fail
  go_ret
  exact ⟨rfl, HB.out⟩

set_option maxRecDepth 100000 in
set_option maxHeartbeats 1000000 in
theorem placed_4pl (d : ByteArray) (k : Nat) (w : World) (hg : Glob w) (hd : d.size ≤ 20) (hd1 : 1 < d.size) (hk : 21 ≤ k) (hk2 : k ≤ 5001) :
    Calls Tryz.prog 104 #[.string d, .int .i64 ((k : Int) + 1)] w fun e w' => e = .returned (.string ⟨(placedB d.data.toList ((k : Int) + 1)).toArray⟩) ∧ Below w.heap.size w w' := by
  have HI := Lib.hid (fun (n : Nat) => itoa_any k (w.drewN n) (hg.drewN n) hk2)
  have hz : (⟨(decDigits k).toArray⟩ : ByteArray).size ≤ 100 := by
    show (decDigits k).toArray.size ≤ 100
    rw [List.size_toArray, decDigits_length]
    have := nDigits_le k (by omega) (by omega); omega
  have hA : ∀ W : World, (Instr.slice 9 (.string d) none (some (.int .i64 1)) none).run Tryz.prog W = .ok (.string (d.extract 0 1)) W := fun W => run_slice_string_h W _ d Tryz.underlying9 .i64 1 (by omega) (by omega)
  have hC : ∀ W : World, (Instr.slice 9 (.string d) (some (.int .i64 1)) none none).run Tryz.prog W = .ok (.string (d.extract 1 d.size)) W := fun W => run_slice_string_l W _ d Tryz.underlying9 .i64 1 (by omega) (by omega)
  have za : (d.extract 0 1).size ≤ 100 := by rw [ByteArray.size_extract]; omega
  have zc : (d.extract 1 d.size).size ≤ 100 := by rw [ByteArray.size_extract]; omega
  have hR : d.extract 0 1 ++ (⟨#[46]⟩ : ByteArray) ++ d.extract 1 d.size ++ (⟨#[101]⟩ : ByteArray) ++ (⟨#[43]⟩ : ByteArray) ++ ⟨(decDigits k).toArray⟩ = ⟨(placedB d.data.toList ((k : Int) + 1)).toArray⟩ := by
    refine str_is ?_
    rw [placedB, if_neg (show ¬ _ by omega), if_neg (show ¬ _ by omega), if_neg (show ¬ _ by omega), if_pos (show 1 < d.data.toList.length by rw [Array.length_toList]; exact hd1), expS, if_neg (show ¬ ((k : Int) + 1) - 1 < 0 by omega), show (((k : Int) + 1) - 1).natAbs = k by omega]
    simp [List.extract_eq_take_drop, ← ByteArray.size_data]
    exact List.take_of_length_le (by simp)
  have hns : ((k : Int) + 1 < (d.size : Int)) = False := by simp; omega
  have ha : ((k : Int) + 1) - 1 = k := by omega
  clear hg
  generalize (⟨(placedB d.data.toList ((k : Int) + 1)).toArray⟩ : ByteArray) = R at *
  generalize (⟨(decDigits k).toArray⟩ : ByteArray) = Z at *
  generalize d.extract 0 1 = A at *
  generalize d.extract 1 d.size = C at *
  go_enter Tryz.func104, Tryz.ntmps104
  go_wp2_with fail

  go_quiet (fail)
  go_wp2_with fail
  refine (HI.out _).mono ?_
  rintro e w5 ⟨rfl, hb⟩
  have HB := Lib.hid hb
  clear hb
  go_wp2_with fail
  go_ret
  exact ⟨rfl, (bDrewN (Below.refl _ _) _).trans HB.out⟩

set_option maxRecDepth 100000 in
set_option maxHeartbeats 1000000 in
theorem placed_4ns (d : ByteArray) (k : Nat) (w : World) (hg : Glob w) (_hd : d.size ≤ 20) (hd1 : d.size = 1) (hk : 7 ≤ k) (hk2 : k ≤ 5001) :
    Calls Tryz.prog 104 #[.string d, .int .i64 (1 - (k : Int))] w fun e w' => e = .returned (.string ⟨(placedB d.data.toList (1 - (k : Int))).toArray⟩) ∧ Below w.heap.size w w' := by
  have HI := Lib.hid (itoa_any k w hg hk2)
  have hz : (⟨(decDigits k).toArray⟩ : ByteArray).size ≤ 100 := by
    show (decDigits k).toArray.size ≤ 100
    rw [List.size_toArray, decDigits_length]
    have := nDigits_le k (by omega) (by omega); omega
  have hR : d ++ (⟨#[101]⟩ : ByteArray) ++ (⟨#[45]⟩ : ByteArray) ++ ⟨(decDigits k).toArray⟩ = ⟨(placedB d.data.toList (1 - (k : Int))).toArray⟩ := by
    refine str_is ?_
    rw [placedB, if_neg (show ¬ _ by omega), if_neg (show ¬ _ by omega), if_neg (show ¬ _ by omega), if_neg (show ¬ 1 < d.data.toList.length by rw [Array.length_toList]; exact Nat.not_lt.2 (Nat.le_of_eq hd1)), expS, if_pos (show (1 - (k : Int)) - 1 < 0 by omega), show ((1 - (k : Int)) - 1).natAbs = k by omega]
    simp
  have ha : (1 - (k : Int)) - 1 = -(k : Int) := by omega
  clear hg
  generalize (⟨(placedB d.data.toList (1 - (k : Int))).toArray⟩ : ByteArray) = R at *
  generalize (⟨(decDigits k).toArray⟩ : ByteArray) = Z at *
  go_enter Tryz.func104, Tryz.ntmps104
  go_wp2_with fail

  refine HI.out.mono ?_
  rintro e w5 ⟨rfl, hb⟩
  have HB := Lib.hid hb
  clear hb
  go_wp2_with fail
  go_ret
  exact ⟨rfl, HB.out⟩

set_option maxRecDepth 100000 in
set_option maxHeartbeats 1000000 in
theorem placed_4nl (d : ByteArray) (k : Nat) (w : World) (hg : Glob w) (hd : d.size ≤ 20) (hd1 : 1 < d.size) (hk : 7 ≤ k) (hk2 : k ≤ 5001) :
    Calls Tryz.prog 104 #[.string d, .int .i64 (1 - (k : Int))] w fun e w' => e = .returned (.string ⟨(placedB d.data.toList (1 - (k : Int))).toArray⟩) ∧ Below w.heap.size w w' := by
  have HI := Lib.hid (fun (n : Nat) => itoa_any k (w.drewN n) (hg.drewN n) hk2)
  have hz : (⟨(decDigits k).toArray⟩ : ByteArray).size ≤ 100 := by
    show (decDigits k).toArray.size ≤ 100
    rw [List.size_toArray, decDigits_length]
    have := nDigits_le k (by omega) (by omega); omega
  have hA : ∀ W : World, (Instr.slice 9 (.string d) none (some (.int .i64 1)) none).run Tryz.prog W = .ok (.string (d.extract 0 1)) W := fun W => run_slice_string_h W _ d Tryz.underlying9 .i64 1 (by omega) (by omega)
  have hC : ∀ W : World, (Instr.slice 9 (.string d) (some (.int .i64 1)) none none).run Tryz.prog W = .ok (.string (d.extract 1 d.size)) W := fun W => run_slice_string_l W _ d Tryz.underlying9 .i64 1 (by omega) (by omega)
  have za : (d.extract 0 1).size ≤ 100 := by rw [ByteArray.size_extract]; omega
  have zc : (d.extract 1 d.size).size ≤ 100 := by rw [ByteArray.size_extract]; omega
  have hR : d.extract 0 1 ++ (⟨#[46]⟩ : ByteArray) ++ d.extract 1 d.size ++ (⟨#[101]⟩ : ByteArray) ++ (⟨#[45]⟩ : ByteArray) ++ ⟨(decDigits k).toArray⟩ = ⟨(placedB d.data.toList (1 - (k : Int))).toArray⟩ := by
    refine str_is ?_
    rw [placedB, if_neg (show ¬ _ by omega), if_neg (show ¬ _ by omega), if_neg (show ¬ _ by omega), if_pos (show 1 < d.data.toList.length by rw [Array.length_toList]; exact hd1), expS, if_pos (show (1 - (k : Int)) - 1 < 0 by omega), show ((1 - (k : Int)) - 1).natAbs = k by omega]
    simp [List.extract_eq_take_drop, ← ByteArray.size_data]
    exact List.take_of_length_le (by simp)
  have ha : (1 - (k : Int)) - 1 = -(k : Int) := by omega
  clear hg
  generalize (⟨(placedB d.data.toList (1 - (k : Int))).toArray⟩ : ByteArray) = R at *
  generalize (⟨(decDigits k).toArray⟩ : ByteArray) = Z at *
  generalize d.extract 0 1 = A at *
  generalize d.extract 1 d.size = C at *
  go_enter Tryz.func104, Tryz.ntmps104
  go_wp2_with fail

  go_quiet (fail)
  go_wp2_with fail
  refine (HI.out _).mono ?_
  rintro e w5 ⟨rfl, hb⟩
  have HB := Lib.hid hb
  clear hb
  go_wp2_with fail
  go_ret
  exact ⟨rfl, (bDrewN (Below.refl _ _) _).trans HB.out⟩

theorem placed_any (d : ByteArray) (p : Int) (w : World) (hg : Glob w) (hd : d.size ≤ 20) (hd1 : 1 ≤ d.size) (h2 : -5000 ≤ p) (h3 : p ≤ 5000) :
    Calls Tryz.prog 104 #[.string d, .int .i64 p] w fun e w' => e = .returned (.string ⟨(placedB d.data.toList p).toArray⟩) ∧ Below w.heap.size w w' := by
  by_cases h21 : p ≤ 21
  · by_cases hn : (d.size : Int) ≤ p
    · exact placed_1 d p w hd hn h21
    · by_cases h0 : 0 < p
      · exact placed_2 d p w hd h0 (by omega) h21
      · by_cases h6 : -6 < p
        · exact placed_3 d p w hd hd1 h6 (by omega)
        · obtain ⟨k, hk⟩ : ∃ k : Nat, p = 1 - (k : Int) := ⟨(1 - p).toNat, by omega⟩
          subst hk
          by_cases h1 : d.size = 1
          · exact placed_4ns d k w hg hd h1 (by omega) (by omega)
          · exact placed_4nl d k w hg hd (by omega) (by omega) (by omega)
  · obtain ⟨k, hk⟩ : ∃ k : Nat, p = (k : Int) + 1 := ⟨(p - 1).toNat, by omega⟩
    subst hk
    by_cases h1 : d.size = 1
    · exact placed_4ps d k w hg hd h1 (by omega) (by omega)
    · exact placed_4pl d k w hg hd (by omega) (by omega) (by omega)
end Go.Proofs.YtckaoeloofbklaaGreatDoor

/- The text of FormatFloat, cut into its digits and its power (plain). -/
namespace Go.Proofs.YtckaoeloofbklaaGreatDoor
open Go Go.RowKit Go.Sort Go.Lib


theorem dig_of (k : Nat) (h : k < 10) : isDig (UInt8.ofNat (48 + k)) := by
  unfold isDig
  rw [UInt8.toNat_ofNat', Nat.mod_eq_of_lt (by omega)]
  omega

theorem dec_digs (u : Nat) : ∀ x ∈ decDigits u, isDig x := by
  induction u using Nat.strongRecOn with
  | _ u ih =>
    intro x hx
    rw [decDigits] at hx
    split at hx
    · rw [List.mem_singleton] at hx; subst hx; exact dig_of u (by omega)
    · rcases List.mem_append.1 hx with h | h
      · exact ih (u / 10) (by omega) x h
      · rw [List.mem_singleton] at h; subst h; exact dig_of _ (by omega)

theorem sig_digs (u : Nat) : ∀ x ∈ sig u, isDig x := by
  obtain ⟨k, -, h⟩ := sig_take u
  intro x hx
  rw [h] at hx
  exact dec_digs u x (List.mem_of_mem_take hx)

theorem indexByte_at (c : UInt8) (b : List UInt8) : ∀ a : List UInt8, (∀ x ∈ a, x ≠ c) → indexByte (a ++ c :: b) c = (a.length : Nat)
  | [], _ => by simp [indexByte]
  | x :: a, h => by
    have ih := indexByte_at c b a (fun y hy => h y (List.mem_cons_of_mem _ hy))
    have hx : x ≠ c := h x (List.mem_cons_self ..)
    rw [List.cons_append, indexByte, if_neg (by simpa using hx), ih, if_neg (by simp)]
    rw [List.length_cons]; push_cast; rfl

theorem indexByte_not (c : UInt8) : ∀ a : List UInt8, (∀ x ∈ a, x ≠ c) → indexByte a c = -1
  | [], _ => rfl
  | x :: a, h => by
    have ih := indexByte_not c a (fun y hy => h y (List.mem_cons_of_mem _ hy))
    have hx : x ≠ c := h x (List.mem_cons_self ..)
    rw [indexByte, if_neg (by simpa using hx), ih]
    rfl

theorem cut_at (c : UInt8) (a b : List UInt8) (h : ∀ x ∈ a, x ≠ c) : cut (a ++ c :: b) [c] = (a, b, true) := by
  unfold cut
  rw [index_one, indexByte_at c b a h, if_pos (by omega)]
  simp

theorem replace_at (c : UInt8) (a b : List UInt8) (h : ∀ x ∈ a, x ≠ c) : replace (a ++ c :: b) [c] [] 1 = a ++ b := by
  have hi : index (a ++ c :: b) [c] = (a.length : Nat) := by rw [index_one, indexByte_at c b a h]
  have hc : 1 ≤ count (a ++ c :: b) [c] := by
    rw [count_one, List.count_append, List.count_cons_self]; exact Nat.le_trans (Nat.le_add_left _ _) (Nat.le_add_left _ _)
  have hn : replaceNum (a ++ c :: b) [c] 1 = 1 := by
    unfold replaceNum
    rw [if_neg (by omega)]; rfl
  unfold replace
  rw [if_neg (by simp), hn, replaceK_hit _ _ _ _ _ hi, replaceK]
  simp

theorem replace_not (c : UInt8) (a : List UInt8) (h : ∀ x ∈ a, x ≠ c) : replace a [c] [] 1 = a := by
  have hi : index a [c] = -1 := by rw [index_one, indexByte_not c a h]
  have hn : replaceNum a [c] 1 = 0 := by
    unfold replaceNum
    rw [count_miss hi]; rfl
  unfold replace
  rw [if_neg (by simp), hn, replaceK]

/-- the digits' text, with a point behind the first -/
def mantB (d : List UInt8) : List UInt8 := d.take 1 ++ (if 1 < d.length then 46 :: d.drop 1 else [])

theorem dp_eq (d : Nat) (p : Int) (h : 1 ≤ d) : dpB d p = mantB (sig d) ++ 101 :: expB ((nDigits d : Nat) + p - 1) := by
  obtain ⟨x, l, h1⟩ := sig_head d h
  unfold dpB mantB
  rw [h1]
  simp

theorem mant_ne (l : List UInt8) (c : UInt8) (h : ∀ x ∈ l, isDig x) (h2 : c.toNat ≠ 46) (h3 : ¬ isDig c) : ∀ x ∈ mantB l, x ≠ c := by
  intro x hx hxc
  subst hxc
  unfold mantB at hx
  rcases List.mem_append.1 hx with h4 | h4
  · exact h3 (h x (List.mem_of_mem_take h4))
  · split at h4
    · rcases List.mem_cons.1 h4 with h5 | h5
      · exact h2 (by rw [h5]; rfl)
      · exact h3 (h x (List.mem_of_mem_drop h5))
    · simp at h4

theorem mant_back (l : List UInt8) (h : ∀ x ∈ l, isDig x) : replace (mantB l) [46] [] 1 = l := by
  have hne : ∀ x ∈ l, x ≠ 46 := fun x hx e => by have := h x hx; rw [e] at this; exact absurd this (by unfold isDig; decide)
  unfold mantB
  split
  · rw [replace_at 46 _ _ (fun x hx => hne x (List.mem_of_mem_take hx)), List.take_append_drop]
  · have h1 : l.take 1 = l := List.take_of_length_le (by omega)
    rw [List.append_nil, h1, replace_not 46 l hne]

theorem val_of (k : Nat) (h : k < 10) : digitVal (UInt8.ofNat (48 + k)) = some k := by
  unfold digitVal
  rw [UInt8.toNat_ofNat', Nat.mod_eq_of_lt (show 48 + k < 2 ^ 8 by omega), if_pos (by omega)]
  simp

theorem exp_nat (k : Nat) (h : k < 1000) (l : List UInt8) (hl : l = if k < 10 then [48, UInt8.ofNat (48 + k)] else if k < 100 then [UInt8.ofNat (48 + k / 10), UInt8.ofNat (48 + k % 10)] else [UInt8.ofNat (48 + k / 100), UInt8.ofNat (48 + k / 10 % 10), UInt8.ofNat (48 + k % 10)]) : decNat l = some k := by
  subst hl
  have h48 : digitVal 48 = some 0 := by decide
  split
  · have e1 := val_of k (by omega)
    generalize UInt8.ofNat (48 + k) = b1 at *
    simp [decNat, decFrom, h48, e1]
  · split
    · have e1 := val_of (k / 10) (by omega)
      have e2 := val_of (k % 10) (by omega)
      generalize UInt8.ofNat (48 + k / 10) = b1 at *
      generalize UInt8.ofNat (48 + k % 10) = b2 at *
      simp only [decNat, decFrom, e1, e2, List.isEmpty_cons, Bool.false_eq_true, if_false, Option.some.injEq]
      omega
    · have e0 := val_of (k / 100) (by omega)
      have e1 := val_of (k / 10 % 10) (by omega)
      have e2 := val_of (k % 10) (by omega)
      generalize UInt8.ofNat (48 + k / 100) = b0 at *
      generalize UInt8.ofNat (48 + k / 10 % 10) = b1 at *
      generalize UInt8.ofNat (48 + k % 10) = b2 at *
      simp only [decNat, decFrom, e0, e1, e2, List.isEmpty_cons, Bool.false_eq_true, if_false, Option.some.injEq]
      omega

theorem atoi_exp (x : Int) (h : x.natAbs < 1000) : atoi (expB x) = some x := by
  unfold expB
  by_cases hx : x < 0
  · rw [if_pos hx, atoi, if_pos (by decide), exp_nat x.natAbs h _ rfl]
    simp; omega
  · rw [if_neg hx, atoi, if_neg (by decide), if_pos (by decide), exp_nat x.natAbs h _ rfl]
    simp; omega

theorem exp_len (x : Int) : (expB x).length ≤ 4 := by
  unfold expB
  split <;> split <;> (try split) <;> simp

theorem sig_len (d : Nat) (h : 1 ≤ d) (h2 : d < 18446744073709551616) : 1 ≤ (sig d).length ∧ (sig d).length ≤ 20 := by
  obtain ⟨x, l, h1⟩ := sig_head d h
  obtain ⟨k, h3, h4⟩ := sig_take d
  rw [decDigits_length] at h3
  have h5 := nDigits_le d h h2
  refine ⟨by rw [h1]; simp, ?_⟩
  rw [h4, List.length_take]
  omega

theorem mant_len (l : List UInt8) : (mantB l).length ≤ l.length + 1 := by
  unfold mantB
  split <;> simp <;> omega

/-- the digits of a number, and the power behind the point ahead of them -/
def shN (a : Nat) : Nat × Int := shortN (MN a) (EN a)
def showA (a : Nat) : List UInt8 := placedB (sig (shN a).1) ((nDigits (shN a).1 : Nat) + (shN a).2)
def infB : List UInt8 := ([73, 110, 102, 105, 110, 105, 116, 121] : List UInt8)
def nanB : List UInt8 := ([78, 97, 78] : List UInt8)
def showB (b : Nat) : List UInt8 :=
  if 9218868437227405312 < b % 9223372036854775808 then nanB
  else (if b < 9223372036854775808 then [] else [45]) ++ (if b % 9223372036854775808 = 9218868437227405312 then infB else if b % 9223372036854775808 = 0 then [48] else showA (b % 9223372036854775808))

theorem me_ok (b : Nat) (hb1 : 0 < b) (hb2 : b < 9218868437227405312) :
    9223372036854775808 ≤ MN b ∧ MN b < 18446744073709551616 ∧ MN b % 2 ^ zN (EN b) = 0 ∧ -1137 ≤ EN b ∧ EN b ≤ 1000 := by
  by_cases hs : b < 4503599627370496
  · have hm : mtN b = b := by unfold mtN; rw [if_pos hs]
    have hL := bitLen_le b 52 hb1 (by omega) hs
    obtain ⟨hM1, hM2⟩ := norm_bounds b hb1 (by omega)
    obtain ⟨hL1, _, _⟩ := bitLen_bounds b hb1 (by omega)
    have hE : EN b = -1074 - ((64 - Lib.bitLen b : Nat) : Int) := by unfold EN sN; rw [if_pos hs, hm]; omega
    have hz : zN (EN b) = 64 - Lib.bitLen b := by unfold zN; rw [hE, if_neg (by omega)]; omega
    have hM : b * 2 ^ (64 - Lib.bitLen b) = MN b := by unfold MN sN; rw [hm]
    rw [hM] at hM1 hM2
    exact ⟨hM1, hM2, by rw [hz, ← hM]; exact Nat.mul_mod_left _ _, by rw [hE]; omega, by omega⟩
  · have hm : mtN b = b % 4503599627370496 + 4503599627370496 := by unfold mtN; rw [if_neg hs]
    have hr := Nat.mod_lt b (show 0 < 4503599627370496 by decide)
    have hL1 := bitLen_le (b % 4503599627370496 + 4503599627370496) 53 (by omega) (by omega) (by omega)
    have hL2 := bitLen_gt (b % 4503599627370496 + 4503599627370496) 52 (by omega) (by omega) (by omega)
    obtain ⟨hM1, hM2⟩ := norm_bounds (b % 4503599627370496 + 4503599627370496) (by omega) (by omega)
    have hL : Lib.bitLen (b % 4503599627370496 + 4503599627370496) = 53 := by omega
    have hM : (b % 4503599627370496 + 4503599627370496) * 2 ^ (64 - Lib.bitLen (b % 4503599627370496 + 4503599627370496)) = MN b := by unfold MN sN; rw [hm]
    rw [hM] at hM1 hM2
    have hE : EN b = ((b / 4503599627370496 : Nat) : Int) - 1086 := by unfold EN sN; rw [if_neg hs, hm, hL]; omega
    have hz : zN (EN b) = 11 := by unfold zN; rw [hE, if_pos (by omega)]
    exact ⟨hM1, hM2, by rw [hz, ← hM, hL]; exact Nat.mul_mod_left _ _, by rw [hE]; omega, by omega⟩

theorem sh_bounds (b : Nat) (hb1 : 0 < b) (hb2 : b < 9218868437227405312) :
    1 ≤ (shN b).1 ∧ (shN b).1 < 18446744073709551616 ∧ ((nDigits (shN b).1 : Nat) + (shN b).2 - 1).natAbs < 1000 := by
  obtain ⟨h1, h2, h3, h4, h5⟩ := me_ok b hb1 hb2
  obtain ⟨h6, h7, h8, h9⟩ := short_bounds (MN b) (EN b) h1 h2 h3 h4 h5
  unfold shN
  have h10 := nDigits_le (shortN (MN b) (EN b)).1 h6 (by omega)
  exact ⟨h6, by omega, by omega⟩

theorem fmt_eq (b : Nat) (hb1 : 0 < b) (hb2 : b < 9218868437227405312) : fmtB b = mantB (sig (shN b).1) ++ 101 :: expB ((nDigits (shN b).1 : Nat) + (shN b).2 - 1) :=
  dp_eq _ _ (sh_bounds b hb1 hb2).1

theorem fmt_cut (b : Nat) (hb1 : 0 < b) (hb2 : b < 9218868437227405312) : cut (fmtB b) [101] = (mantB (sig (shN b).1), expB ((nDigits (shN b).1 : Nat) + (shN b).2 - 1), true) := by
  rw [fmt_eq b hb1 hb2]
  exact cut_at 101 _ _ (mant_ne _ 101 (sig_digs _) (by decide) (by unfold isDig; decide))
theorem fmt_len (b : Nat) (hb1 : 0 < b) (hb2 : b < 9218868437227405312) : (fmtB b).length ≤ 26 := by
  rw [fmt_eq b hb1 hb2]
  obtain ⟨h1, h2, _⟩ := sh_bounds b hb1 hb2
  have h3 := (sig_len _ h1 h2).2
  have h4 := mant_len (sig (shN b).1)
  have h5 := exp_len ((nDigits (shN b).1 : Nat) + (shN b).2 - 1)
  rw [List.length_append, List.length_cons]
  omega
end Go.Proofs.YtckaoeloofbklaaGreatDoor

/- The shortest digits: which digits lie in the interval of a number (plain). -/
namespace Go.Proofs.YtckaoeloofbklaaGreatDoor
open Go Go.RowKit
set_option exponentiation.threshold 3000

/-- a number's parts, and those of its neighbours, in small units -/
theorem me_val (a : Nat) (h1 : 0 < a) (h2 : a < 9218868437227405312) :
    V a * 2 ^ 64 = MN a * 2 ^ (EN a + 1138).toNat ∧ V (a + 1) * 2 ^ 64 = (MN a + 2 ^ zN (EN a)) * 2 ^ (EN a + 1138).toNat ∧
    (MN a ≠ 9223372036854775808 → 2 ^ zN (EN a) ≤ MN a ∧ V (a - 1) * 2 ^ 64 = (MN a - 2 ^ zN (EN a)) * 2 ^ (EN a + 1138).toNat) ∧ MN a / 2 ^ zN (EN a) % 2 = a % 2 := by
  by_cases hs : a < 4503599627370496
  · have hm : mtN a = a := by unfold mtN; rw [if_pos hs]
    obtain ⟨hL1, _, _⟩ := bitLen_bounds a h1 (by omega)
    have hL := bitLen_le a 52 h1 (by omega) hs
    obtain ⟨s, hsd, hs64⟩ : ∃ s, 64 - Lib.bitLen a = s ∧ s ≤ 63 := ⟨_, rfl, by omega⟩
    have hs12 : 12 ≤ s := by omega
    have hE : EN a = -1074 - (s : Int) := by unfold EN sN; rw [if_pos hs, hm, hsd]; omega
    have hz : zN (EN a) = s := by unfold zN; rw [hE, if_neg (by omega)]; omega
    have hM : MN a = a * 2 ^ s := by unfold MN sN; rw [hm, hsd]
    have hF : (EN a + 1138).toNat = 64 - s := by rw [hE]; omega
    have hp : 2 ^ s * 2 ^ (64 - s) = 2 ^ 64 := by rw [← Nat.pow_add, show s + (64 - s) = 64 by omega]
    have v0 : V a = a := by have := V_at 0 a (by unfold BB; omega) (.inl rfl); simpa using this
    have v1 : V (a + 1) = a + 1 := by have := V_at 0 (a + 1) (by unfold BB; omega) (.inl rfl); simpa using this
    have v2 : V (a - 1) = a - 1 := by have := V_at 0 (a - 1) (by unfold BB; omega) (.inl rfl); simpa using this
    have key : ∀ k, k * 2 ^ s * 2 ^ (64 - s) = k * 2 ^ 64 := fun k => by rw [Nat.mul_assoc, hp]
    rw [hz, hM, hF]
    refine ⟨by rw [v0, key], by rw [v1, show a * 2 ^ s + 2 ^ s = (a + 1) * 2 ^ s from by rw [Nat.add_mul, Nat.one_mul], key], fun _ => ⟨Nat.le_mul_of_pos_left _ h1, ?_⟩, by rw [Nat.mul_div_cancel _ (Nat.two_pow_pos s)]⟩
    rw [v2, show a * 2 ^ s - 2 ^ s = (a - 1) * 2 ^ s from by rw [Nat.sub_mul, Nat.one_mul], key]
  · have hm : mtN a = a % 4503599627370496 + 4503599627370496 := by unfold mtN; rw [if_neg hs]
    have hr := Nat.mod_lt a (show 0 < 4503599627370496 by decide)
    have hdm := Nat.div_add_mod a 4503599627370496
    have hL1 := bitLen_le (a % 4503599627370496 + 4503599627370496) 53 (by omega) (by omega) (by omega)
    have hL2 := bitLen_gt (a % 4503599627370496 + 4503599627370496) 52 (by omega) (by omega) (by omega)
    have hL : Lib.bitLen (a % 4503599627370496 + 4503599627370496) = 53 := by omega
    have hM : MN a = (a % 4503599627370496 + 4503599627370496) * 2 ^ 11 := by unfold MN sN; rw [hm, hL]
    have hE : EN a = ((a / 4503599627370496 : Nat) : Int) - 1086 := by unfold EN sN; rw [if_neg hs, hm, hL]; omega
    have hz : zN (EN a) = 11 := by unfold zN; rw [hE, if_pos (by omega)]
    obtain ⟨E, hEd⟩ : ∃ E, a / 4503599627370496 = E + 1 := ⟨a / 4503599627370496 - 1, by omega⟩
    have hF : (EN a + 1138).toNat = E + 53 := by rw [hE, hEd]; omega
    generalize a % 4503599627370496 = f at *
    have ha : a = E * BB + (f + BB) := by
      have key : ∀ B : Nat, B * (E + 1) + f = a → a = E * B + (f + B) := fun B h => by rw [← h, Nat.mul_add, Nat.mul_one, Nat.mul_comm]; omega
      rw [hEd] at hdm
      exact key _ hdm
    have hpar : (f + 4503599627370496) % 2 = a % 2 := by
      rw [hEd] at hdm
      clear ha hF hz hE hM hL hL1 hL2 hm
      omega
    have hfb : f < BB := hr
    have b0 : f + BB ≤ 2 * BB := by rw [Nat.two_mul]; exact Nat.add_le_add_right (Nat.le_of_lt hfb) _
    have b1 : f + BB + 1 ≤ 2 * BB := by rw [Nat.two_mul]; exact Nat.add_lt_add_right hfb BB
    have c0 : BB ≤ f + BB := Nat.le_add_left _ _
    have v0 : V a = (f + BB) * 2 ^ E := by rw [ha]; exact V_at E (f + BB) b0 (.inr c0)
    have v1 : V (a + 1) = (f + BB + 1) * 2 ^ E := by rw [ha, Nat.add_assoc (E * BB)]; exact V_at E (f + BB + 1) b1 (.inr (Nat.le_succ_of_le c0))
    have key : ∀ k, k * 2 ^ 11 * 2 ^ (E + 53) = k * 2 ^ E * 2 ^ 64 := fun k => by
      rw [Nat.mul_assoc, Nat.mul_assoc, ← Nat.pow_add, ← Nat.pow_add, show 11 + (E + 53) = E + 64 from by rw [Nat.add_comm, Nat.add_assoc]]
    have hM' : MN a = (f + BB) * 2 ^ 11 := hM
    rw [hz, hF]
    refine ⟨by rw [hM', v0, key], by rw [hM', v1, ← key, Nat.succ_mul (f + BB)], fun hne => ?_, ?_⟩
    · have hf0 : 0 < f := by
        rcases Nat.eq_zero_or_pos f with h | h
        · exact absurd (by rw [hM, h]) hne
        · exact h
      have hfp : 1 ≤ f + BB := Nat.le_trans hf0 (Nat.le_add_right _ _)
      have v2 : V (a - 1) = (f + BB - 1) * 2 ^ E := by
        rw [ha, Nat.add_sub_assoc hfp]
        exact V_at E (f + BB - 1) (Nat.le_trans (Nat.sub_le _ _) b0) (.inr (Nat.le_sub_one_of_lt (Nat.lt_add_of_pos_left hf0)))
      rw [hM']
      refine ⟨Nat.le_mul_of_pos_left _ hfp, ?_⟩
      rw [v2, ← key, Nat.sub_mul (f + BB), Nat.one_mul]
    · rw [hM, Nat.mul_div_cancel _ (by decide)]
      exact hpar

/-- the scaled unit -/
def GN (p e : Int) : Nat := 4 * (DN p * (2 ^ (ssN p e).toNat * 340282366920938463463374607431768211456))
theorem GN_pos (p e : Int) : 0 < GN p e := Nat.mul_pos (by decide) (Nat.mul_pos (DN_pos p) (Nat.mul_pos (Nat.two_pow_pos _) (by decide)))
theorem AN_pos (p : Int) : 0 < AN p := Nat.mul_pos (Nat.pow_pos (by decide)) (Nat.two_pow_pos _)

theorem sc_eq (p e : Int) (hs : 5 ≤ ssN p e) (he : -1138 ≤ e) (x d : Nat) :
    dQ (-p) * (x * 2 ^ (e + 1138).toNat) * 2 ^ (127 - lpN p).toNat = x * AN p * 2 ^ (e + 1138).toNat ∧ d * dQ p * 2 ^ 1138 * 2 ^ (127 - lpN p).toNat = d * GN p e * 2 ^ (e + 1138).toNat := by
  constructor
  · unfold dQ AN
    rw [Int.neg_neg]
    ac_rfl
  · have hW : (340282366920938463463374607431768211456 : Nat) = 2 ^ 128 := by decide
    have e1 : 2 ^ 1138 * 2 ^ (127 - lpN p).toNat = 4 * (2 ^ (lpN p - 127).toNat * (2 ^ (ssN p e).toNat * 340282366920938463463374607431768211456)) * 2 ^ (e + 1138).toNat := by
      rw [hW, show (4 : Nat) = 2 ^ 2 from rfl, ← Nat.pow_add, ← Nat.pow_add, ← Nat.pow_add, ← Nat.pow_add, ← Nat.pow_add]
      congr 1
      unfold ssN at *
      omega
    unfold GN dQ DN
    rw [Nat.mul_assoc (d * 10 ^ (-p).toNat), e1]
    ac_rfl
theorem sc_le (p e : Int) (hs : 5 ≤ ssN p e) (he : -1138 ≤ e) (x d : Nat) : dQ (-p) * (x * 2 ^ (e + 1138).toNat) ≤ d * dQ p * 2 ^ 1138 ↔ x * AN p ≤ d * GN p e := by
  obtain ⟨e1, e2⟩ := sc_eq p e hs he x d
  rw [← Nat.mul_le_mul_right_iff (Nat.two_pow_pos (127 - lpN p).toNat), e1, e2, Nat.mul_le_mul_right_iff (Nat.two_pow_pos _)]
theorem sc_ge (p e : Int) (hs : 5 ≤ ssN p e) (he : -1138 ≤ e) (x d : Nat) : d * dQ p * 2 ^ 1138 ≤ dQ (-p) * (x * 2 ^ (e + 1138).toNat) ↔ d * GN p e ≤ x * AN p := by
  obtain ⟨e1, e2⟩ := sc_eq p e hs he x d
  rw [← Nat.mul_le_mul_right_iff (Nat.two_pow_pos (127 - lpN p).toNat), e1, e2, Nat.mul_le_mul_right_iff (Nat.two_pow_pos _)]

/-- the scaled numbers are exact -/
theorem us_exact (p e : Int) (h1 : -348 ≤ p) (h2 : p ≤ 347) (hs : 5 ≤ ssN p e) (z : Nat) (hz : z < 2 ^ 55) (hlo : 2 ^ 54 - 4 ≤ z) : usN p e (512 * z) = unr (512 * z * AN p) (GN p e) := by
  obtain ⟨hhi, hlo', hrow⟩ := row_is p h1 h2
  obtain ⟨j, hj, hj2⟩ : ∃ j, 2 ^ (ssN p e).toNat = 2 ^ 5 * j ∧ 0 < j := ⟨2 ^ ((ssN p e).toNat - 5), by rw [← Nat.pow_add, show 5 + ((ssN p e).toNat - 5) = (ssN p e).toNat by omega], Nat.two_pow_pos _⟩
  unfold usN GN
  refine uscN_eq (by omega) hlo' hrow (pmN_lo p) (pmN_hi p) (DN_pos p) (by rw [hj]; omega) ?_
  rw [hj]
  exact clear_print p h1 h2 j hj2 z hz hlo
end Go.Proofs.YtckaoeloofbklaaGreatDoor

/- The shortest digits are read as their number, and no fewer digits are (plain). -/
namespace Go.Proofs.YtckaoeloofbklaaGreatDoor
open Go Go.RowKit
set_option exponentiation.threshold 3000

theorem dX_scale (d k : Nat) (q : Int) : dX (d * 10 ^ k) q * dQ (q + k) = dX d (q + k) * dQ q := by
  unfold dX dQ
  have h : 10 ^ k * 10 ^ q.toNat * 10 ^ (-(q + k)).toNat = 10 ^ (q + k).toNat * 10 ^ (-q).toNat := by
    rw [← Nat.pow_add, ← Nat.pow_add, ← Nat.pow_add]
    congr 1
    omega
  generalize 10 ^ k = t1 at *
  generalize 10 ^ q.toNat = t2 at *
  generalize 10 ^ (-(q + k)).toNat = t3 at *
  generalize 10 ^ (q + k).toNat = t4 at *
  generalize 10 ^ (-q).toNat = t5 at *
  generalize 2 ^ 1074 = W
  have e1 : 2 * (d * t1 * t2 * W) * t3 = 2 * (d * W) * (t1 * t2 * t3) := by ac_rfl
  have e2 : 2 * (d * t4 * W) * t5 = 2 * (d * W) * (t4 * t5) := by ac_rfl
  rw [e1, e2, h]
theorem near_up (d k a : Nat) (q : Int) (h : Near (dX (d * 10 ^ k) q) (dQ q) a) : Near (dX d (q + k)) (dQ (q + k)) a := near_ratio h (dQ_pos _) (dX_scale d k q)
theorem near_down (d k a : Nat) (q : Int) (h : Near (dX d (q + k)) (dQ (q + k)) a) : Near (dX (d * 10 ^ k) q) (dQ q) a := near_ratio h (dQ_pos _) (dX_scale d k q).symm

theorem cmp_of (p e : Int) (hs : 5 ≤ ssN p e) (he : -1138 ≤ e) (S x d : Nat) (hS : S * 2 ^ 63 = x * 2 ^ (e + 1138).toNat) :
    (dQ (-p) * S ≤ dX d (-p) ↔ x * AN p ≤ d * GN p e) ∧ (dX d (-p) ≤ dQ (-p) * S ↔ d * GN p e ≤ x * AN p) := by
  have e1 : dX d (-p) * 2 ^ 63 = d * dQ p * 2 ^ 1138 := by
    show 2 * (d * dQ p * 2 ^ 1074) * 2 ^ 63 = _
    rw [show (2 : Nat) ^ 1138 = 2 * 2 ^ 1074 * 2 ^ 63 from by decide +kernel]
    ac_rfl
  have e2 : dQ (-p) * S * 2 ^ 63 = dQ (-p) * (x * 2 ^ (e + 1138).toNat) := by rw [Nat.mul_assoc, hS]
  have hp : 0 < 2 ^ 63 := by decide
  constructor
  · rw [← Nat.mul_le_mul_right_iff hp, e1, e2, sc_le p e hs he]
  · rw [← Nat.mul_le_mul_right_iff hp, e1, e2, sc_ge p e hs he]

/-- digits d at a power lie in the interval of a number -/
theorem in_iff (a : Nat) (h1 : 0 < a) (h2 : a < 9218868437227405312) (hm : MN a ≠ 9223372036854775808) (p : Int) (hs : 5 ≤ ssN p (EN a)) (d : Nat) :
    Near (dX d (-p)) (dQ (-p)) a ↔
      ((MN a - 2 ^ (zN (EN a) - 1)) * AN p ≤ d * GN p (EN a) ∧ (a % 2 = 1 → (MN a - 2 ^ (zN (EN a) - 1)) * AN p < d * GN p (EN a))) ∧
      (d * GN p (EN a) ≤ (MN a + 2 ^ (zN (EN a) - 1)) * AN p ∧ (a % 2 = 1 → d * GN p (EN a) < (MN a + 2 ^ (zN (EN a) - 1)) * AN p)) := by
  obtain ⟨m1, m2, m3, m4, m5⟩ := me_ok a h1 h2
  obtain ⟨v0, v1, v2, _⟩ := me_val a h1 h2
  obtain ⟨v3, v4⟩ := v2 hm
  obtain ⟨hz1, hz2⟩ := zN_ge (EN a) m4
  have e1 : 2 ^ zN (EN a) = 2 * 2 ^ (zN (EN a) - 1) := by rw [← Nat.pow_succ', show (zN (EN a) - 1).succ = zN (EN a) from by omega]
  rw [e1] at v1 v3 v4
  have he : -1138 ≤ EN a := by omega
  generalize EN a = e at *
  generalize MN a = m at *
  generalize 2 ^ (zN e - 1) = h at *
  have s1 : (V a + V (a + 1)) * 2 ^ 63 = (m + h) * 2 ^ (e + 1138).toNat := by
    have : (V a + V (a + 1)) * 2 ^ 63 * 2 = (m + h) * 2 ^ (e + 1138).toNat * 2 := by
      rw [Nat.mul_assoc, show 2 ^ 63 * 2 = 2 ^ 64 from by decide, Nat.add_mul, v0, v1, ← Nat.add_mul, Nat.mul_right_comm]
      congr 1; omega
    exact Nat.eq_of_mul_eq_mul_right (by decide) this
  have s0 : (V (a - 1) + V a) * 2 ^ 63 = (m - h) * 2 ^ (e + 1138).toNat := by
    have : (V (a - 1) + V a) * 2 ^ 63 * 2 = (m - h) * 2 ^ (e + 1138).toNat * 2 := by
      rw [Nat.mul_assoc, show 2 ^ 63 * 2 = 2 ^ 64 from by decide, Nat.add_mul, v0, v4, ← Nat.add_mul, Nat.mul_right_comm]
      congr 1; omega
    exact Nat.eq_of_mul_eq_mul_right (by decide) this
  obtain ⟨c1, c2⟩ := cmp_of p e hs he _ _ d s0
  obtain ⟨c3, c4⟩ := cmp_of p e hs he _ _ d s1
  constructor
  · intro hn
    have hlo : _ := hn.lo.resolve_left (by omega)
    have hhi : _ := hn.hi.resolve_left (by unfold INF; omega)
    exact ⟨⟨c1.1 hlo.1, fun ho => Nat.lt_of_not_le fun hh => Nat.not_le.2 (hlo.2 ho) (c2.2 hh)⟩, ⟨c4.1 hhi.1, fun ho => Nat.lt_of_not_le fun hh => Nat.not_le.2 (hhi.2 ho) (c3.2 hh)⟩⟩
  · rintro ⟨⟨l1, l2⟩, ⟨u1, u2⟩⟩
    exact ⟨dQ_pos _, by unfold INF; omega, .inr ⟨c1.2 l1, fun ho => Nat.lt_of_not_le fun hh => Nat.not_le.2 (l2 ho) (c2.1 hh)⟩, .inr ⟨c4.2 u1, fun ho => Nat.lt_of_not_le fun hh => Nat.not_le.2 (u2 ho) (c3.1 hh)⟩⟩

/-- the interval, ten to the chosen power wide, is at least one and less than ten -/
def widOK (k : Int) : Bool := decide (dQ (-l10N k) * 2 ^ 1138 ≤ dQ (-(-l10N k)) * 2 ^ (k + 1138).toNat) && decide (dQ (-(-l10N k)) * 2 ^ (k + 1138).toNat < 10 * dQ (-l10N k) * 2 ^ 1138)
def widAll : Nat → Int → Bool
  | 0, _ => true
  | n + 1, k => widOK k && widAll n (k + 1)
theorem widAll_get : ∀ (n : Nat) (k : Int), widAll n k = true → ∀ i : Nat, i < n → widOK (k + i) = true
  | 0, _, _, _, h => by omega
  | n + 1, k, h, 0, _ => by
    simp only [widAll, Bool.and_eq_true] at h
    simpa using h.1
  | n + 1, k, h, i + 1, hi => by
    simp only [widAll, Bool.and_eq_true] at h
    have := widAll_get n (k + 1) h.2 i (by omega)
    rwa [show k + 1 + (i : Int) = k + ((i + 1 : Nat) : Int) from by push_cast; omega] at this
theorem wid_all : widAll 2090 (-1074) = true := by decide +kernel
theorem wid (e : Int) (h1 : -1137 ≤ e) (h2 : e ≤ 1000) : GN (ppN false e) e ≤ 2 ^ zN e * AN (ppN false e) ∧ 2 ^ zN e * AN (ppN false e) < 10 * GN (ppN false e) e := by
  have hk1 : -1074 ≤ e + zN e := by unfold zN; split <;> omega
  have hk2 : e + zN e ≤ 1011 := by unfold zN; split <;> omega
  have hw := widAll_get _ _ wid_all (e + zN e + 1074).toNat (by omega)
  rw [show -1074 + ((e + zN e + 1074).toNat : Int) = e + zN e from by omega] at hw
  simp only [widOK, Bool.and_eq_true, decide_eq_true_eq] at hw
  obtain ⟨w1, w2⟩ := hw
  have hpp : ppN false e = -l10N (e + zN e) := rfl
  rw [← hpp] at w1 w2
  have ok := (exp_ok e h1 h2).1
  simp only [expOK, Bool.and_eq_true, decide_eq_true_eq] at ok
  have hF : 2 ^ (e + zN e + 1138).toNat = 2 ^ zN e * 2 ^ (e + 1138).toNat := by
    rw [← Nat.pow_add]; congr 1; omega
  rw [hF] at w1 w2
  constructor
  · have := (sc_ge (ppN false e) e ok.1.2 (by omega) (2 ^ zN e) 1).1 (by rw [Nat.one_mul]; exact w1)
    rwa [Nat.one_mul] at this
  · refine Nat.lt_of_not_le fun hh => Nat.not_le.2 w2 ?_
    exact (sc_ge (ppN false e) e ok.1.2 (by omega) (2 ^ zN e) 10).2 hh
end Go.Proofs.YtckaoeloofbklaaGreatDoor

/- Signbit, Abs, IsInf. -/
namespace Go.Proofs.YtckaoeloofbklaaGreatDoor
open Go Go.RowKit

theorem wrap_neg (x : Nat) (hx : x < 18446744073709551616) : decide (wrap64 (x : Int) < 0) = ngB x := by
  unfold ngB
  refine decide_eq_decide.2 ?_
  unfold wrap64
  omega
theorem mask_63 (x : Nat) (hx : x < 18446744073709551616) : bits .andNot .u64 (x : Int) 9223372036854775808 = ((ru x : Nat) : Int) := by
  have h := u64_andNot_nat x 9223372036854775808 hx (by decide)
  rw [show ((9223372036854775808 : Nat) : Int) = 9223372036854775808 from rfl] at h
  rw [h, show 18446744073709551615 - 9223372036854775808 = 2 ^ 63 - 1 from by decide, Nat.and_two_pow_sub_one_eq_mod]
  rfl
theorem ru_ru (x : Nat) : ru (ru x) = ru x := by unfold ru; omega
theorem ru_lt (x : Nat) : ru x < 9223372036854775808 := by unfold ru; omega
theorem ng_ru (x : Nat) : ngB (ru x) = false := by unfold ngB; exact decide_eq_false (by have := ru_lt x; omega)

set_option maxRecDepth 100000 in
set_option maxHeartbeats 1000000 in
theorem signbit_any (x : Nat) (w : World) (hx : x < 18446744073709551616) :
    Calls Tryz.prog 97 #[.float .f64 x] w fun e w' => e = .returned (.bool (ngB x)) ∧ w' = w := by
  have hb := run_mbits x
  have hw := wrap_neg x hx
  go_enter Tryz.func97, Tryz.ntmps97
  go_wp2_with fail
  go_ret
  exact ⟨ret_bool rfl, rfl⟩
set_option maxRecDepth 100000 in
set_option maxHeartbeats 1000000 in
theorem abs_any (x : Nat) (w : World) (hx : x < 18446744073709551616) :
    Calls Tryz.prog 100 #[.float .f64 x] w fun e w' => e = .returned (.float .f64 (ru x)) ∧ w' = w := by
  have hb := run_mbits x
  have hf := run_mfrom (ru x)
  have hm := mask_63 x hx
  go_enter Tryz.func100, Tryz.ntmps100
  go_wp2_with fail
  go_ret
  exact ⟨rfl, rfl⟩
set_option maxRecDepth 100000 in
set_option maxHeartbeats 1000000 in
theorem isinf_any (x : Nat) (w : World) (hx : x < 18446744073709551616) (h : ru x ≤ 9218868437227405312) :
    Calls Tryz.prog 98 #[.float .f64 x, .int .i64 0] w fun e w' => e = .returned (.bool (decide (ru x = 9218868437227405312))) ∧ w' = w := by
  have h1 := f_gt_max (ru x) (by have := ru_lt x; omega) (by rw [ru_ru]; exact h)
  rw [ru_ru, ng_ru, Bool.not_false, Bool.and_true] at h1
  have HA := Lib.hid (abs_any x w hx)
  generalize ru x = y at *
  go_enter Tryz.func98, Tryz.ntmps98
  go_wp2_with fail
  refine HA.out.mono ?_
  rintro e w5 ⟨rfl, rfl⟩
  go_wp2_with fail
  go_ret
  exact ⟨ret_bool rfl, rfl⟩
end Go.Proofs.YtckaoeloofbklaaGreatDoor
