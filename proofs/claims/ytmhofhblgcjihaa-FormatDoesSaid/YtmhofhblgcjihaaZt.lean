/- What Index, Remove and Replace do. -/
import Derived.Test.YtmhofhblgcjihaaZs
namespace Go.Proofs.Ytmhofhblgcjihaa
open Go Go.RowKit Go.Shelf

/-- is it the element of that number? -/
def isB (id : Int) (x : Ab) : Bool := (x.el.id == id) && !(x.el.id == 0)
/-- where an element stands; -1: nowhere -/
def idxB (l : List Ab) (id : Int) : Int := match l.findIdx? (isB id) with
  | some k => k
  | Option.none => -1

theorem idxB_lt (l : List Ab) (id : Int) : (idxB l id = -1) ∨ ∃ k : Nat, idxB l id = k ∧ k < l.length := by
  unfold idxB
  cases h : l.findIdx? (isB id) with
  | none => exact .inl rfl
  | some k =>
    obtain ⟨h1, _⟩ := List.findIdx?_eq_some_iff_getElem.1 h
    exact .inr ⟨k, rfl, h1⟩

theorem idxByFrom_find {α : Type} (p : α → Bool) (x : α) : ∀ (l : List α) (i : Nat), Lib.idxByFrom (fun _ y => p y) x l i = match l.findIdx? p with | some k => ((i + k : Nat) : Int) | Option.none => -1
  | [], i => rfl
  | y :: r, i => by
    rw [Lib.idxByFrom, List.findIdx?_cons]
    cases h : p y
    · simp only [Bool.false_eq_true, if_false]
      rw [idxByFrom_find p x r (i + 1)]
      cases r.findIdx? p with
      | none => rfl
      | some k =>
        show ((i + 1 + k : Nat) : Int) = ((i + (k + 1) : Nat) : Int)
        congr 1; omega
    · simp

theorem idxBy_idxB (es : List En) (id : Int) (d : En) : Lib.idxBy (fun _ y => isB id (En.ab y)) es d = idxB (es.map En.ab) id := by
  unfold Lib.idxBy idxB
  rw [idxByFrom_find, List.findIdx?_map]
  show _ = match es.findIdx? (fun y => isB id (En.ab y)) with | some k => (k : Int) | Option.none => -1
  cases es.findIdx? (fun y => isB id (En.ab y)) with
  | none => rfl
  | some k => simp

instance : Inhabited En := ⟨En.none⟩

set_option maxHeartbeats 1000000 in
theorem index1_any (Bx : Nat) (id : Int) (x : En) (W : World) (hb : W.cell? ⟨Bx, 0, Option.none⟩ = some (.int .i64 id)) :
    Calls Try.prog 43 #[.agg #[.int .i64 x.el.id, .string x.el.sp, .string x.el.nm, .slice x.a x.ats.length x.c], .pointer (some ⟨Bx, 0, Option.none⟩)] W fun e w' => e = .returned (.bool (isB id (En.ab x))) ∧ Below W.heap.size W w' := by
  have hal : Below W.heap.size W (W.alloc (.cells #[.int .i64 x.el.id, .string x.el.sp, .string x.el.nm, .slice x.a x.ats.length x.c] 37)) := (Below.refl _ _).alloc (Nat.le_refl _) _
  have hlt := World.block_lt_of_cell? W _ hb
  have hb1 := (hal.cell (p := ⟨Bx, 0, Option.none⟩) hlt).trans hb
  have HAL := Lib.hid hal
  clear hal
  show Calls _ _ _ _ fun e w' => e = .returned (.bool ((x.el.id == id) && !(x.el.id == 0))) ∧ _
  cases h : (x.el.id == id)
  · have HH := Lib.hid h
    go_enter Try.func43, Try.ntmps43
    go_wp2_with fail
    go_ret
    exact ⟨rfl, HAL.out⟩
  · have HH := Lib.hid h
    go_enter Try.func43, Try.ntmps43
    go_wp2_with fail
    refine (marker_any x.el.id x.el.sp x.el.nm x.a x.ats.length x.c _).mono ?_
    rintro e w2 ⟨rfl, hb2⟩
    have HB2 := Lib.hid (HAL.out.trans (hb2.mono HAL.out.size))
    clear hb2
    go_wp2_with fail
    go_ret
    exact ⟨rfl, HB2.out⟩

set_option maxHeartbeats 1000000 in
theorem indexF_none (fv : Value) (w : World) : Calls Try.prog 42 #[.slice Option.none 0 0, fv] w fun e w' => e = .returned (.int .i64 (-1)) ∧ w' = w := by
  go_enter Try.func42, Try.ntmps42
  go_wp2
  go_loop [8] (fun i => i = .int .i64 0) (fun _ => 0)
  case atStart => rfl
  case round =>
    obtain rfl := hrel
    go_wp2
    go_ret
    exact ⟨rfl, rfl⟩

theorem aEn (w : World) : (isAgg (Try.laysSlH06_f42_ren.t 23)).run Try.prog w = .ok true w := by kernel_rfl
theorem zEn (w : World) : (Go.sizeOf (Try.laysSlH06_f42_ren.t 23)).run Try.prog w = .ok 4 w := by kernel_rfl

set_option maxHeartbeats 2000000 in
theorem index_any (b : Nat) (v : Value) (es : List En) (id : Int) (w : World) (hs : Raw w b v es) :
    Calls Try.prog 19 #[.pointer (some ⟨b, 0, Option.none⟩), .int .i64 id] w fun e w' => e = .returned (.int .i64 (idxB (es.map En.ab) id)) ∧ Below w.heap.size w w' := by
  have hc := hs.cell
  have hblt := hs.lt b (.inl rfl)
  have hlen := hs.len
  have hal : Below w.heap.size w (w.alloc (.cells #[.int .i64 id] 3)) := (Below.refl _ _).alloc (Nat.le_refl _) _
  have hc1 := (hal.cell (p := ⟨b, 0, Option.none⟩) hblt).trans hc
  have hbx : (w.alloc (.cells #[.int .i64 id] 3)).cell? ⟨w.heap.size, 0, Option.none⟩ = some (.int .i64 id) := by simp [go_sem]
  have hf := hs.form
  have hs1 := hs.below hal
  have HAL := Lib.hid hal
  rcases hf with ⟨rfl, rfl⟩ | ⟨g, cap, rfl, hg, hgb, h1, h2, hcs, _⟩
  · have hin := indexF_none (.func (.func 43) #[] #[.pointer (some ⟨w.heap.size, 0, Option.none⟩)]) (w.alloc (.cells #[.int .i64 id] 3))
    have HIN := Lib.hid hin
    clear hs hs1 hin hbx
    go_enter Try.func19, Try.ntmps19
    go_wp2_with fail
    refine HIN.out.mono ?_
    rintro e w2 ⟨rfl, rfl⟩
    go_wp2_with fail
    go_ret
    exact ⟨rfl, HAL.out⟩
  · have hin := Try.slices_IndexFunc 4 aEn zEn En.cells (fun _ => rfl) (fun y => isB id (En.ab y)) 43 #[.pointer (some ⟨w.heap.size, 0, Option.none⟩)] (enters_of Try.func43 (by kernel_rfl) rfl) g 0 es.length cap es (w.alloc (.cells #[.int .i64 id] 3))
      (fun W x hW => (index1_any w.heap.size id x W ((hW.cell (p := ⟨w.heap.size, 0, Option.none⟩) (by simp)).trans hbx)).mono fun e w' ⟨h1, h2⟩ => ⟨h1, hW.trans (h2.mono hW.size)⟩) (Nat.le_refl _) (by omega) (Nat.lt_of_lt_of_le hg hal.size) (fun j hj i u hu => by
        rw [Nat.zero_add]
        exact (hal.cell (p := ⟨g, j * 4 + i, Option.none⟩) hg).trans (hcs j es[j]! (by rw [getElem!_pos es j hj]; simp [hj]) i u hu))
    rw [List.take_length, idxBy_idxB] at hin
    have HIN := Lib.hid hin
    clear hs hs1 hin hbx hcs
    go_enter Try.func19, Try.ntmps19
    go_wp2_with fail
    refine HIN.out.mono ?_
    rintro e w2 ⟨rfl, hb2⟩
    have HB2 := Lib.hid (HAL.out.trans (hb2.mono HAL.out.size))
    clear hb2
    go_wp2_with fail
    go_ret
    exact ⟨rfl, HB2.out⟩

def remC (l : List Ab) (id : Int) : Int := if idxB l id < 0 then 70 else 0
def remL (l : List Ab) (id : Int) : List Ab := if idxB l id < 0 then l else l.eraseIdx (idxB l id).toNat
def repL (l : List Ab) (id : Int) (e : El) : List Ab := if idxB l id < 0 then l else l.modify (idxB l id).toNat fun x => ⟨e, x.ats⟩

theorem MPost.same {b : Nat} {v : Value} {w w' : World} {es : List En} {e : Ending} (hs : Raw w b v es) (hb : Below w.heap.size w w') : MPost b v es w e (es.map En.ab) e w' :=
  ⟨rfl, v, es, rfl, hs.below hb, Keeps.of_below hb, (fun _ hk => .inl hk), fun _ h => .inl h⟩

set_option maxRecDepth 100000 in
set_option maxHeartbeats 2000000 in
theorem remove_any (b : Nat) (v : Value) (es : List En) (id : Int) (w : World) (hs : Raw w b v es) :
    Calls Try.prog 20 #[.pointer (some ⟨b, 0, Option.none⟩), .int .i64 id] w (MPost b v es w (.returned (.int .i64 (remC (es.map En.ab) id))) (remL (es.map En.ab) id)) := by
  have hix := index_any b v es id w hs
  have HS := Lib.hid hs
  unfold remC remL
  rcases idxB_lt (es.map En.ab) id with h | ⟨i, h, hi⟩
  · rw [h] at hix
    rw [h]
    have HIX := Lib.hid hix
    clear hix hs h
    go_enter Try.func20, Try.ntmps20
    go_wp2_with fail
    refine HIX.out.mono ?_
    rintro e w2 ⟨rfl, hb2⟩
    have HB2 := Lib.hid hb2
    clear hb2
    go_wp2_with fail
    go_ret
    exact .same HS.out HB2.out
  · rw [h] at hix
    rw [h, if_neg (by omega), if_neg (by omega), Int.toNat_natCast]
    rw [List.length_map] at hi
    have HIX := Lib.hid hix
    have hc := hs.cell
    have hf := hs.frozen
    have hblt := hs.lt b (.inl rfl)
    have hne := hs.ne
    have hlen := hs.len
    have hw1 : IntKind.i64.wrap ((i : Int) + 1) = (i : Int) + 1 := by rw [IntKind.wrap_i64]; omega
    rcases hs.form with ⟨rfl, rfl⟩ | ⟨g, cap, rfl, hg, hgb, h1, h2, _, _⟩
    · simp at hi
    clear hix hs h
    go_enter Try.func20, Try.ntmps20
    go_wp2_with fail
    refine HIX.out.mono ?_
    rintro e w2 ⟨rfl, hb2⟩
    have hc2 := (hb2.cell (p := ⟨b, 0, Option.none⟩) hblt).trans hc
    have hf2 := (hb2.frozen (p := ⟨b, 0, Option.none⟩) hblt).trans hf
    have hblt2 := Nat.lt_of_lt_of_le hblt hb2.size
    have HB2 := Lib.hid hb2
    have hdel := delE_any (.slice (some ⟨g, 0, Option.none⟩) es.length cap) es i w2 (own_below HS.out.own hb2) hi
    have HD := Lib.hid hdel
    clear hb2 hdel
    go_wp2_with fail
    refine HD.out.mono ?_
    rintro e9 w9 ⟨g9, cap9, rfl, hown9, hgr9, hat9, hlt9⟩
    obtain ⟨hc9, hf9⟩ := grown_far hgr9 (Below.refl _ w2) hblt2 hne 0
    rw [hc2] at hc9
    rw [hf2] at hf9
    have HO9 := Lib.hid hown9
    have HG9 := Lib.hid hgr9
    have HA9 := Lib.hid hat9
    clear hown9 hgr9 hat9
    go_wp2_with fail
    go_ret
    exact put_done (es' := es.take i ++ es.drop (i + 1)) HS.out (by rw [List.eraseIdx_eq_take_drop_succ, List.map_append, List.map_take, List.map_drop]) (by simp; omega) HB2.out g9 cap9 HO9.out (by simp; omega) HG9.out HA9.out rfl (fun y hy => .inl ((List.mem_append.1 hy).elim List.mem_of_mem_take List.mem_of_mem_drop)) (Keeps.refl _ _)
end Go.Proofs.Ytmhofhblgcjihaa
