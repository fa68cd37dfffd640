/- What Implied, Clear and PopTo do. -/
import Derived.Test.YtibfiblajicdpaaDoorJ
import Derived.Test.YtibfiblajicdpaaDoorE
namespace Go.Proofs.YtibfiblajicdpaaDoor
open Go Go.RowKit

/-- the stack's blocks lie behind the table -/
def FpOk (b : Nat) (v : Value) : Prop := ∀ k, fp b v k → 0 < k

theorem MPost.from {b : Nat} {v : Value} {w W : World} {e0 e : Ending} {l : List El} {w' : World} (hW : Below w.heap.size w W) (h : MPost b v W e0 l e w') : MPost b v w e0 l e w' := by
  obtain ⟨h1, v', h2, h3, h4⟩ := h
  exact ⟨h1, v', h2, (Keeps.of_below hW).trans h3, fun k hk => (h4 k hk).imp id (fun h => Nat.le_trans hW.size h)⟩

theorem FpOk.next {b : Nat} {v v' : Value} {w : World} (h : FpOk b v) (hg : Glob w) (hf : ∀ k, fp b v' k → fp b v k ∨ w.heap.size ≤ k) : FpOk b v' := fun k hk =>
  (hf k hk).elim (h k) (fun hle => Nat.lt_of_lt_of_le hg.lt hle)

theorem Glob.keeps {w w' : World} {S : Nat → Prop} (h : Glob w) (hk : Keeps S w w') (hs : ∀ k, S k → 0 < k) : Glob w' :=
  h.below (Nat.lt_succ_self _) (hk.below h.lt hs)

def impW : ByteArray := (⟨#[100, 100, 32, 100, 116, 32, 108, 105, 32, 111, 112, 116, 103, 114, 111, 117, 112, 32, 111, 112, 116, 105, 111, 110, 32, 112, 32, 114, 98, 32, 114, 112, 32, 114, 116, 32, 114, 116, 99]⟩ : ByteArray)
def thW : ByteArray := (⟨#[99, 97, 112, 116, 105, 111, 110, 32, 99, 111, 108, 103, 114, 111, 117, 112, 32, 116, 98, 111, 100, 121, 32, 116, 100, 32, 116, 102, 111, 111, 116, 32, 116, 104, 32, 116, 104, 101, 97, 100, 32, 116, 114]⟩ : ByteArray)
def thoW : ByteArray := (⟨#[100, 100, 32, 100, 116, 32, 108, 105, 32, 111, 112, 116, 103, 114, 111, 117, 112, 32, 111, 112, 116, 105, 111, 110, 32, 112, 32, 114, 98, 32, 114, 112, 32, 114, 116, 32, 114, 116, 99, 32, 99, 97, 112, 116, 105, 111, 110, 32, 99, 111, 108, 103, 114, 111, 117, 112, 32, 116, 98, 111, 100, 121, 32, 116, 100, 32, 116, 102, 111, 111, 116, 32, 116, 104, 32, 116, 104, 101, 97, 100, 32, 116, 114]⟩ : ByteArray)
theorem impOk : WordsOk impW := ⟨by decide +kernel, by decide +kernel, by decide +kernel⟩
theorem thoOk : WordsOk thoW := ⟨by decide +kernel, by decide +kernel, by decide +kernel⟩
theorem isB_tho (sp nm : ByteArray) : isB sp nm thoW = (isB sp nm impW || isB sp nm thW) := isB_join _ _ _ _ _ (by decide +kernel)

/-- what ends by itself -/
def impB (thorough : Bool) (but : ByteArray) (x : El) : Bool := impliedB x.sp x.nm (if thorough then thoW else impW) but

set_option maxHeartbeats 1000000 in
theorem implied_any (b : Nat) (v : Value) (l : List El) (th : Bool) (but : ByteArray) (w : World) (hg : Glob w) (hs : Stk w b v l) (hok : FpOk b v) :
    Calls Tryd.prog 11 #[.pointer (some ⟨b, 0, Option.none⟩), .bool th, .string but] w (MPost b v w (.returned (.int .i64 (cntTop (impB th but) l))) (l.take (l.length - cntTop (impB th but) l))) := by
  have clo : ∀ (ws : ByteArray) (W1 : World), WordsOk ws → (∀ x, impB th but x = impliedB x.sp x.nm ws but) → Below w.heap.size w W1 → W1.cell? ⟨w.heap.size + 1, 0, Option.none⟩ = some (.string ws) → W1.cell? ⟨w.heap.size, 0, Option.none⟩ = some (.string but) → w.heap.size + 2 ≤ W1.heap.size →
      CloC 26 #[.pointer (some ⟨w.heap.size + 1, 0, Option.none⟩), .pointer (some ⟨w.heap.size, 0, Option.none⟩)] (impB th but) (fp b v) W1 := by
    intro ws W1 hws hP hb h1 h0 hsz
    refine ⟨enters_of Tryd.func26 (by kernel_rfl) rfl, fun x W hk => ?_⟩
    have hlt := hs.lt
    have hb1 : W.heap[w.heap.size + 1]? = W1.heap[w.heap.size + 1]? := hk.block _ (by omega) (fun h => by have := hlt _ h; omega)
    have hb0 : W.heap[w.heap.size]? = W1.heap[w.heap.size]? := hk.block _ (by omega) (fun h => by have := hlt _ h; omega)
    rw [hP x]
    exact implied1 x.id x.sp x.nm _ _ ws but W ((hg.below hg.lt hb).keeps hk hok) hws ((World.cell?_of_block (w := W1) (a := ⟨w.heap.size + 1, 0, Option.none⟩) hb1).trans h1) ((World.cell?_of_block (w := W1) (a := ⟨w.heap.size, 0, Option.none⟩) hb0).trans h0) (by have := hk.size; omega) (by have := hk.size; omega)
  have HC := Lib.hid clo
  clear clo
  cases th
  · go_enter Tryd.func11, Tryd.ntmps11
    go_wp2_with fail
    have hb : Below w.heap.size w ((w.alloc (.cells #[.string but] 9)).alloc (.cells #[.string impW] 9)) := ((Below.refl _ _).alloc (Nat.le_refl _) _).alloc (by simp) _
    refine (drop_any _ _ (impB false but) b v l _ (hs.below hb) (HC.out impW _ impOk (fun x => rfl) hb (by simp [go_sem]) (by simp [go_sem]) (by simp))).mono ?_
    intro e w' h
    obtain ⟨rfl, h'⟩ := h.from hb
    go_wp2
    go_ret
    exact ⟨rfl, h'⟩
  · go_enter Tryd.func11, Tryd.ntmps11
    go_wp2_with fail
    have hb : Below w.heap.size w ((w.alloc (.cells #[.string but] 9)).alloc (.cells #[.string thoW] 9)) := ((Below.refl _ _).alloc (Nat.le_refl _) _).alloc (by simp) _
    refine (drop_any _ _ (impB true but) b v l _ (hs.below hb) (HC.out thoW _ thoOk (fun x => rfl) hb (by simp [go_sem]) (by simp [go_sem]) (by simp))).mono ?_
    intro e w' h
    obtain ⟨rfl, h'⟩ := h.from hb
    go_wp2
    go_ret
    exact ⟨rfl, h'⟩

/-- none of the names -/
def noneB (ns : List ByteArray) (x : El) : Bool := !oneB x.sp x.nm ns

set_option maxHeartbeats 1000000 in
theorem clear_any (b : Nat) (v vn : Value) (l : List El) (ns : List ByteArray) (w : World) (hs : Stk w b v l) (hv : StrsAt w vn ns) (hno : 0 < ns.length → ∀ nb off n c, vn = .slice (some ⟨nb, off, Option.none⟩) n c → ¬ fp b v nb) :
    Calls Tryd.prog 47 #[.pointer (some ⟨b, 0, Option.none⟩), vn] w (MPost b v w (.returned (.int .i64 (cntTop (noneB ns) l))) (l.take (l.length - cntTop (noneB ns) l))) := by
  have hb : Below w.heap.size w (w.alloc (.cells #[vn] 23)) := (Below.refl _ _).alloc (Nat.le_refl _) _
  have clo : CloC 63 #[.pointer (some ⟨w.heap.size, 0, Option.none⟩)] (noneB ns) (fp b v) (w.alloc (.cells #[vn] 23)) := by
    refine ⟨enters_of Tryd.func63 (by kernel_rfl) rfl, fun x W hk => ?_⟩
    have hlt := hs.lt
    have hb0 : W.heap[w.heap.size]? = (w.alloc (.cells #[vn] 23)).heap[w.heap.size]? := hk.block _ (by simp) (fun h => by have := hlt _ h; omega)
    have hvW : StrsAt W vn ns := by
      rcases hv with h | ⟨nb, off, c, rfl, h1, h2, h3, h4⟩
      · exact .inl h
      · refine .inr ⟨nb, off, c, rfl, Nat.lt_of_lt_of_le h1 (Nat.le_trans hb.size hk.size), h2, h3, fun j hj => ?_⟩
        have hbn : W.heap[nb]? = w.heap[nb]? := (hk.block nb (Nat.lt_of_lt_of_le h1 hb.size) (hno h3 nb off _ c rfl)).trans (hb.block nb h1)
        exact (World.cell?_of_block (w := w) (a := ⟨nb, off + j, Option.none⟩) hbn).trans (h4 j hj)
    exact clear1 x.id x.sp x.nm _ vn ns W ((World.cell?_of_block (w := w.alloc (.cells #[vn] 23)) (a := ⟨w.heap.size, 0, Option.none⟩) hb0).trans (by simp [go_sem])) (by have := hk.size; simp at this; omega) hvW
  have HC := Lib.hid clo
  clear clo
  rcases hv with ⟨rfl, a, c, rfl⟩ | ⟨nb, off, c, rfl, _, _, _, _⟩
  all_goals
    clear hno
    go_enter Tryd.func47, Tryd.ntmps47
    go_wp2_with fail
    refine (drop_any _ _ _ b v l _ (hs.below hb) HC.out).mono ?_
    intro e w' h
    obtain ⟨rfl, h'⟩ := h.from hb
    go_wp2
    go_ret
    exact ⟨rfl, h'⟩

def popToN (ns : List ByteArray) (l : List El) : Int := if cntTop (noneB ns) l = l.length then l.length else cntTop (noneB ns) l + 1
def popToL (ns : List ByteArray) (l : List El) : List El := l.take (l.length - (cntTop (noneB ns) l + 1))

theorem cntTop_le (P : El → Bool) (l : List El) : cntTop P l ≤ l.length := by
  unfold cntTop
  have := (List.takeWhile_sublist P (l := l.reverse)).length_le
  simpa using this

theorem MPost.trans {b : Nat} {v v1 : Value} {w W : World} {e0 e1 e : Ending} {l l1 : List El} {w' : World} (_hs : Stk W b v1 l1) (hk : Keeps (fp b v) w W) (hf : ∀ k, fp b v1 k → fp b v k ∨ w.heap.size ≤ k) (h : MPost b v1 W e0 l e w') (he : e1 = e0) : MPost b v w e1 l e w' := by
  obtain ⟨h1, v', h2, h3, h4⟩ := h
  refine ⟨by rw [he]; exact h1, v', h2, hk.trans' h3 hf, fun k hk' => ?_⟩
  rcases h4 k hk' with h | h
  · exact hf k h
  · exact .inr (Nat.le_trans hk.size h)

set_option maxHeartbeats 1000000 in
theorem popto_any (b : Nat) (v vn : Value) (l : List El) (ns : List ByteArray) (w : World) (hs : Stk w b v l) (hv : StrsAt w vn ns) (hno : 0 < ns.length → ∀ nb off n c, vn = .slice (some ⟨nb, off, Option.none⟩) n c → ¬ fp b v nb) :
    Calls Tryd.prog 19 #[.pointer (some ⟨b, 0, Option.none⟩), vn] w (MPost b v w (.returned (.int .i64 (popToN ns l))) (popToL ns l)) := by
  have hl := hs.len
  have hcl := clear_any b v vn l ns w hs hv hno
  have hle := cntTop_le (noneB ns) l
  have hN : popToN ns l = if cntTop (noneB ns) l = l.length then (l.length : Int) else cntTop (noneB ns) l + 1 := rfl
  have hL : popToL ns l = l.take (l.length - (cntTop (noneB ns) l + 1)) := rfl
  rw [hN, hL]
  generalize cntTop (noneB ns) l = c at *
  have HC := Lib.hid hcl
  clear hcl hN hL
  by_cases hc : c = l.length
  · subst hc
    rw [if_pos rfl, show l.length - (l.length + 1) = 0 from by omega]
    have e0 : l.take (l.length - l.length) = [] := by simp
    rw [e0] at HC
    clear e0
    rcases hv with ⟨rfl, a, c, rfl⟩ | ⟨nb, off, c, rfl, _, _, _, _⟩
    all_goals
      clear hno
      go_enter Tryd.func19, Tryd.ntmps19
      go_wp2_with fail
      refine HC.out.mono ?_
      rintro e w1 ⟨rfl, v1, hs1, hk1, hf1⟩
      go_wp2_with fail
      refine (pop_none b v1 w1 hs1).mono ?_
      intro e w2 h
      obtain ⟨he, h'⟩ := h.trans (e1 := e) hs1 hk1 hf1 h.1
      obtain ⟨rfl, _⟩ := h
      simp only [El.v, El.none]
      go_wp2
      go_ret
      obtain ⟨v', h2, h3, h4⟩ := h'
      refine ⟨rfl, v', h2.below ?_, h3.trans (Keeps.of_below ?_), h4⟩
      all_goals exact (Below.refl _ _).alloc (Nat.le_refl _) _
  · have hlt : c < l.length := by omega
    rw [if_neg hc]
    obtain ⟨x, hx, _⟩ := take_pred l c hlt
    rw [hx] at HC
    clear hx
    rcases hv with ⟨rfl, a, c', rfl⟩ | ⟨nb, off, c', rfl, _, _, _, _⟩
    all_goals
      clear hno
      go_enter Tryd.func19, Tryd.ntmps19
      go_wp2_with fail
      refine HC.out.mono ?_
      rintro e w1 ⟨rfl, v1, hs1, hk1, hf1⟩
      go_wp2_with fail
      refine (pop_some b v1 _ x w1 hs1).mono ?_
      intro e w2 h
      obtain ⟨he, h'⟩ := h.trans (e1 := e) hs1 hk1 hf1 h.1
      obtain ⟨rfl, _⟩ := h
      simp only [El.v]
      go_wp2
      go_ret
      obtain ⟨v', h2, h3, h4⟩ := h'
      refine ⟨rfl, v', h2.below ?_, h3.trans (Keeps.of_below ?_), h4⟩
      all_goals exact (Below.refl _ _).alloc (Nat.le_refl _) _
end Go.Proofs.YtibfiblajicdpaaDoor
