/- The methods' contracts over a stack of the call's own. -/
import Derived.Test.YtibfiblajicdpaaDoorM
import Derived.Test.YtibfiblajicdpaaDoorK
namespace Go.Proofs.YtibfiblajicdpaaDoor
open Go Go.RowKit

/-- one of the names -/
def oneE (ns : List ByteArray) (x : El) : Bool := oneB x.sp x.nm ns

set_option maxHeartbeats 1000000 in
theorem has_any (b : Nat) (v vn : Value) (l : List El) (scope : Int) (ns : List ByteArray) (w : World) (hg : Glob w) (hs : Stk w b v l) (hv : StrsAt w vn ns) :
    Calls Tryd.prog 9 #[.pointer (some ⟨b, 0, Option.none⟩), .int .u8 scope, vn] w fun e w' => e = .returned (.bool (foundB (oneE ns) (endE scope) l.reverse)) ∧ Below w.heap.size w w' := by
  have hb : Below w.heap.size w (w.alloc (.cells #[vn] 23)) := (Below.refl _ _).alloc (Nat.le_refl _) _
  have clo : WhC 23 #[.pointer (some ⟨w.heap.size, 0, Option.none⟩)] (oneE ns) (w.alloc (.cells #[vn] 23)) := by
    refine ⟨enters_of Tryd.func23 (by kernel_rfl) rfl, fun x W hk => ?_⟩
    exact has1 x.id x.sp x.nm _ vn ns W ((hk.cell (p := ⟨w.heap.size, 0, Option.none⟩) (by simp)).trans (by simp [go_sem])) (by have := hk.size; simp at this; omega) ((hv.below (Nat.le_refl _) hb).below (Nat.le_refl _) hk)
  have HC := Lib.hid clo
  clear clo
  have hg1 := hg.alloc (.cells #[vn] 23)
  rcases hv with ⟨rfl, a, c, rfl⟩ | ⟨nb, off, c, rfl, _, _, _, _⟩
  all_goals
    go_enter Tryd.func9, Tryd.ntmps9
    go_wp2_with fail
    refine (found_any _ _ _ b v l scope _ hg1 (hs.below hb) HC.out).mono ?_
    rintro e w' ⟨rfl, hb2⟩
    go_wp2
    go_ret
    exact ⟨rfl, hb.trans (hb2.mono hb.size)⟩

set_option maxHeartbeats 1000000 in
theorem hasid_any (b : Nat) (v : Value) (l : List El) (scope id : Int) (w : World) (hg : Glob w) (hs : Stk w b v l) :
    Calls Tryd.prog 43 #[.pointer (some ⟨b, 0, Option.none⟩), .int .u8 scope, .int .i64 id] w fun e w' => e = .returned (.bool (foundB (fun x => x.id == id) (endE scope) l.reverse)) ∧ Below w.heap.size w w' := by
  have hb : Below w.heap.size w (w.alloc (.cells #[.int .i64 id] 3)) := (Below.refl _ _).alloc (Nat.le_refl _) _
  have clo : WhC 61 #[.pointer (some ⟨w.heap.size, 0, Option.none⟩)] (fun x => x.id == id) (w.alloc (.cells #[.int .i64 id] 3)) := by
    refine ⟨enters_of Tryd.func61 (by kernel_rfl) rfl, fun x W hk => ?_⟩
    exact hasid1 x.id x.sp x.nm _ id W ((hk.cell (p := ⟨w.heap.size, 0, Option.none⟩) (by simp)).trans (by simp [go_sem])) (by have := hk.size; simp at this; omega)
  have HC := Lib.hid clo
  clear clo
  have hg1 := hg.alloc (.cells #[.int .i64 id] 3)
  go_enter Tryd.func43, Tryd.ntmps43
  go_wp2_with fail
  refine (found_any _ _ _ b v l scope _ hg1 (hs.below hb) HC.out).mono ?_
  rintro e w' ⟨rfl, hb2⟩
  go_wp2
  go_ret
  exact ⟨rfl, hb.trans (hb2.mono hb.size)⟩

set_option maxHeartbeats 1000000 in
theorem elem_any (i : Int) (nm : ByteArray) (w : World) :
    Calls Tryd.prog 10 #[.int .i64 i, .string nm] w fun e w' => e = .returned (.agg #[.int .i64 i, .string (⟨#[104, 116, 109, 108]⟩ : ByteArray), .string nm]) ∧ Below w.heap.size w w' := by
  go_enter Tryd.func10, Tryd.ntmps10
  go_wp2
  refine bodyPost_ret (v := .agg #[.int .i64 i, .string (⟨#[104, 116, 109, 108]⟩ : ByteArray), .string nm]) (by simp [results, Tryd.results10, go_sem]) rfl ⟨rfl, ?_⟩
  exact (Below.refl _ _).alloc (Nat.le_refl _) _

/-- a stack that the call which began in w has made: it holds l in W; nothing that was there in w has turned -/
structure St (w : World) (b : Nat) (l : List El) (W : World) : Prop where
  ex : ∃ v, Stk W b v l ∧ ∀ k, fp b v k → w.heap.size ≤ k
  below : Below w.heap.size w W
  glob : Glob w

theorem St.gl {w W : World} {b : Nat} {l : List El} (h : St w b l W) : Glob W := h.glob.below h.glob.lt h.below

theorem St.step {w W W' : World} {b : Nat} {l l' : List El} {v : Value} {e0 e : Ending} (h : St w b l W) (hf : ∀ k, fp b v k → w.heap.size ≤ k) (hm : MPost b v W e0 l' e W') : e = e0 ∧ St w b l' W' := by
  obtain ⟨rfl, v', h1, h2, h3⟩ := hm
  refine ⟨rfl, ⟨v', h1, fun k hk => (h3 k hk).elim (hf k) (fun hle => Nat.le_trans h.below.size hle)⟩, ?_, h.glob⟩
  exact h.below.trans (h2.below h.below.size hf)

theorem St.go {w W W' : World} {b : Nat} {l : List El} (h : St w b l W) (hb : Below W.heap.size W W') : St w b l W' := by
  obtain ⟨v, h1, h2⟩ := h.ex
  exact ⟨⟨v, h1.below hb, h2⟩, h.below.trans (hb.mono h.below.size), h.glob⟩

/-- a new stack -/
theorem St.new {w W : World} {l : List El} (hg : Glob w) (hb : Below w.heap.size w W) (T : TypeId) (hl : l = []) : St w W.heap.size l (W.alloc (.cells #[.slice Option.none 0 0] T)) := by
  subst hl
  refine ⟨⟨.slice Option.none 0 0, ⟨⟨T, heap_alloc_new W _⟩, World.ownsRow_nil _ _ _ _, by simp [Value.ownBlock], by simp⟩, ?_⟩, hb.alloc hb.size _, hg⟩
  rintro k (rfl | hk)
  · exact hb.size
  · simp [Value.ownBlock] at hk

theorem st_push {w W : World} {b : Nat} {l : List El} (h : St w b l W) (x : El) (hlen : l.length < 1000000) :
    Calls Tryd.prog 8 #[.pointer (some ⟨b, 0, Option.none⟩), .agg #[.int .i64 x.id, .string x.sp, .string x.nm]] W fun e W' => e = .returned (.tuple #[]) ∧ St w b (l ++ [x]) W' := by
  obtain ⟨v, h1, h2⟩ := h.ex
  exact (push_any b v l x W h1 hlen).mono fun e W' hm => h.step h2 hm

theorem st_len {w W : World} {b : Nat} {l : List El} (h : St w b l W) :
    Calls Tryd.prog 12 #[.pointer (some ⟨b, 0, Option.none⟩)] W fun e W' => e = .returned (.int .i64 l.length) ∧ W = W' := by
  obtain ⟨v, h1, h2⟩ := h.ex
  exact len_any b v l W h1

theorem st_at {w W : World} {b : Nat} {l : List El} (h : St w b l W) (i : Int) :
    Calls Tryd.prog 13 #[.pointer (some ⟨b, 0, Option.none⟩), .int .i64 i] W fun e W' => e = .returned (.tuple #[(atE l i).v, .int .i64 (atC l i)]) ∧ Below W.heap.size W W' := by
  obtain ⟨v, h1, h2⟩ := h.ex
  exact at_any b v l i W h1

theorem st_top {w W : World} {b : Nat} {l : List El} (h : St w b l W) :
    Calls Tryd.prog 20 #[.pointer (some ⟨b, 0, Option.none⟩)] W fun e W' => e = .returned (topE l).v ∧ Below W.heap.size W W' := by
  obtain ⟨v, h1, h2⟩ := h.ex
  exact top_any b v l W h1

/-- what Pop hands back, and its error -/
def popC (l : List El) : Int := if l = [] then 60 else 0

theorem popC_nil : popC [] = 60 := rfl
theorem popC_ne (l : List El) (x : El) : popC (l ++ [x]) = 0 := by simp [popC]

theorem st_pop {w W : World} {b : Nat} {l : List El} (h : St w b l W) :
    Calls Tryd.prog 14 #[.pointer (some ⟨b, 0, Option.none⟩)] W fun e W' => e = .returned (.tuple #[(topE l).v, .int .i64 (popC l)]) ∧ St w b l.dropLast W' := by
  obtain ⟨v, h1, h2⟩ := h.ex
  rcases List.eq_nil_or_concat l with rfl | ⟨l', x, rfl⟩
  · exact (pop_none b v W h1).mono fun e W' hm => h.step h2 hm
  · rw [List.concat_eq_append] at *
    rw [popC_ne, List.dropLast_concat, show topE (l' ++ [x]) = x from by simp [topE]]
    exact (pop_some b v l' x W h1).mono fun e W' hm => h.step h2 hm

theorem st_implied {w W : World} {b : Nat} {l : List El} (h : St w b l W) (th : Bool) (but : ByteArray) :
    Calls Tryd.prog 11 #[.pointer (some ⟨b, 0, Option.none⟩), .bool th, .string but] W fun e W' => e = .returned (.int .i64 (cntTop (impB th but) l)) ∧ St w b (l.take (l.length - cntTop (impB th but) l)) W' := by
  obtain ⟨v, h1, h2⟩ := h.ex
  exact (implied_any b v l th but W h.gl h1 (fun k hk => Nat.lt_of_lt_of_le h.glob.lt (h2 k hk))).mono fun e W' hm => h.step h2 hm

/-- the slice of strings is none of the stack's blocks -/
def Apart (w : World) (vn : Value) (b : Nat) (W : World) : Prop := ∀ v l, Stk W b v l → (∀ k, fp b v k → w.heap.size ≤ k) → ∀ nb off n c, vn = .slice (some ⟨nb, off, Option.none⟩) n c → ¬ fp b v nb

theorem apart_old {w W : World} {vn : Value} {b : Nat} (h : ∀ nb off n c, vn = .slice (some ⟨nb, off, Option.none⟩) n c → nb < w.heap.size) : Apart w vn b W := fun v l _ h2 nb off n c e hf => by
  have := h nb off n c e
  have := h2 nb hf
  omega

theorem st_popto {w W : World} {b : Nat} {l : List El} (h : St w b l W) (vn : Value) (ns : List ByteArray) (hv : StrsAt W vn ns) (hno : Apart w vn b W) :
    Calls Tryd.prog 19 #[.pointer (some ⟨b, 0, Option.none⟩), vn] W fun e W' => e = .returned (.int .i64 (popToN ns l)) ∧ St w b (popToL ns l) W' := by
  obtain ⟨v, h1, h2⟩ := h.ex
  exact (popto_any b v vn l ns W h1 hv (fun _ => hno v l h1 h2)).mono fun e W' hm => h.step h2 hm

theorem st_clear {w W : World} {b : Nat} {l : List El} (h : St w b l W) (vn : Value) (ns : List ByteArray) (hv : StrsAt W vn ns) (hno : Apart w vn b W) :
    Calls Tryd.prog 47 #[.pointer (some ⟨b, 0, Option.none⟩), vn] W fun e W' => e = .returned (.int .i64 (cntTop (noneB ns) l)) ∧ St w b (l.take (l.length - cntTop (noneB ns) l)) W' := by
  obtain ⟨v, h1, h2⟩ := h.ex
  exact (clear_any b v vn l ns W h1 hv (fun _ => hno v l h1 h2)).mono fun e W' hm => h.step h2 hm

theorem st_has {w W : World} {b : Nat} {l : List El} (h : St w b l W) (scope : Int) (vn : Value) (ns : List ByteArray) (hv : StrsAt W vn ns) :
    Calls Tryd.prog 9 #[.pointer (some ⟨b, 0, Option.none⟩), .int .u8 scope, vn] W fun e W' => e = .returned (.bool (foundB (oneE ns) (endE scope) l.reverse)) ∧ Below W.heap.size W W' := by
  obtain ⟨v, h1, h2⟩ := h.ex
  exact has_any b v vn l scope ns W h.gl h1 hv

/-- a slice of one string that has just been made -/
theorem strs_one (W : World) (n : ByteArray) (t : TypeId) : StrsAt (W.alloc (.cells #[.string n] t)) (.slice (some ⟨W.heap.size, 0, Option.none⟩) 1 1) [n] :=
  .inr ⟨_, 0, 1, rfl, by simp, by simp, by simp, fun j hj => by simp at hj; subst hj; simp [go_sem]⟩

theorem apart_new {w W : World} {b : Nat} {l : List El} (h : St w b l W) (o : Obj) (n c : Nat) : Apart w (.slice (some ⟨W.heap.size, 0, Option.none⟩) n c) b (W.alloc o) := by
  intro v l' hs h2 nb off n' c' e hf
  cases e
  obtain ⟨v', h1', h2'⟩ := h.ex
  have h3 := h1'.below ((Below.refl _ _).alloc (Nat.le_refl _) o)
  obtain ⟨T, hT⟩ := hs.box
  obtain ⟨T', hT'⟩ := h3.box
  rw [hT] at hT'
  have : v = v' := by
    have := Option.some.inj hT'
    simp only [Obj.cells.injEq] at this
    simpa using this.1
  subst this
  have := h1'.lt _ hf
  omega
end Go.Proofs.YtibfiblajicdpaaDoor
