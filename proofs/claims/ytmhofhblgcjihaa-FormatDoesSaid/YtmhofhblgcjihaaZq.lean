/- What Lost does. -/
import Derived.Test.YtmhofhblgcjihaaZo
namespace Go.Proofs.Ytmhofhblgcjihaa
open Go Go.RowKit Go.Shelf

/-- the slice value v holds the numbers ns -/
def IntsAt (w : World) (v : Value) (ns : List Int) : Prop :=
  (ns = [] ∧ ∃ a c, v = .slice a 0 c) ∨
  (∃ b off c, v = .slice (some ⟨b, off, Option.none⟩) ns.length c ∧ b < w.heap.size ∧ ns.length ≤ 9223372036854775807 ∧
    ∀ j x, ns[j]? = some x → w.cell? ⟨b, off + j, Option.none⟩ = some (.int .i64 x))

theorem IntsAt.below {w w' : World} {v : Value} {l : List Int} {B : Nat} (h : IntsAt w v l) (hB : w.heap.size ≤ B) (hb : Below B w w') : IntsAt w' v l := by
  rcases h with h | ⟨b, off, c, rfl, hlt, h1, h2⟩
  · exact .inl h
  · exact .inr ⟨b, off, c, rfl, Nat.lt_of_lt_of_le hlt hb.size, h1, fun j x hj => (hb.cell (p := ⟨b, off + j, Option.none⟩) (by show b < B; omega)).trans (h2 j x hj)⟩

theorem IntsAt.form {w : World} {v : Value} {l : List Int} (h : IntsAt w v l) : ∃ a c, v = .slice a l.length c := by
  rcases h with ⟨rfl, a, c, rfl⟩ | ⟨b, off, c, rfl, _⟩
  · exact ⟨_, _, rfl⟩
  · exact ⟨_, _, rfl⟩

theorem contains_any (v : Value) (ns : List Int) (x : Int) (w : World) (h : IntsAt w v ns) :
    Calls Try.prog 28 #[v, .int .i64 x] w fun e w' => e = .returned (.bool (ns.contains x)) ∧ w' = w := by
  rcases h with ⟨rfl, a, c, rfl⟩ | ⟨b, off, c, rfl, hlt, h1, h2⟩
  · exact Try.slices_Contains_int_empty a c x w
  · have := Try.slices_Contains_int b off ns.length c ns x w (Nat.le_refl _) h1 (fun j hj => by
      rw [h2 j ns[j] (by simp [hj])]
      simp [List.getD_eq_getElem?_getD, hj])
    rwa [List.take_length] at this

/-- neither a marker nor open -/
def lostP (op : List Int) (x : Ab) : Bool := !(x.el.id == 0) && !(op.contains x.el.id)
/-- the first place of what is to be opened again -/
def lostN (op : List Int) (l : List Ab) : Nat := l.length - cntTop (lostP op) l

set_option maxRecDepth 100000 in
set_option maxHeartbeats 2000000 in
theorem lost_any (b : Nat) (v : Value) (es : List En) (ov : Value) (op : List Int) (w : World) (hs : Raw w b v es) (ho : IntsAt w ov op) :
    Calls Try.prog 15 #[.pointer (some ⟨b, 0, Option.none⟩), ov] w fun e w' => e = .returned (.int .i64 (lostN op (es.map En.ab))) ∧ Below w.heap.size w w' := by
  have hc := hs.cell
  have hblt := hs.lt b (.inl rfl)
  have hlen := hs.len
  have hB : lostN op (es.map En.ab) = es.length - cntTop (fun x : En => !(x.el.id == 0) && !(op.contains x.el.id)) es := by
    unfold lostN
    rw [cntTop_map, List.length_map]
    rfl
  rw [hB]
  clear hB
  have HO := Lib.hid ho
  clear ho
  rcases hs.form with ⟨rfl, rfl⟩ | ⟨g, cap, rfl, hg, hgb, h1, h2, _, _⟩
  · clear hs
    go_enter Try.func15, Try.ntmps15
    go_wp2_with fail
    go_loop [5] (fun i => i = .int .i64 0) (fun _ => 0)
    case atStart => rfl
    case round =>
      obtain rfl := hrel
      go_wp2
      go_ret
      exact ⟨rfl, Below.refl _ _⟩
  · have HS := Lib.hid hs
    clear hs
    go_enter Try.func15, Try.ntmps15
    go_wp2_with fail
    go_loopw [5] (fun i wr => ∃ k : Nat, k ≤ es.length ∧ i = .int .i64 k ∧ (∀ j, j < es.length - k → ∀ x, es.reverse[j]? = some x → (!(x.el.id == 0) && !(op.contains x.el.id)) = true) ∧ Below w.heap.size w wr) (fun i _ => (intOf i).toNat)
    case atStart => exact ⟨es.length, by omega, rfl, fun j hj => by omega, Below.refl _ _⟩
    case round =>
      obtain ⟨k, hk, rfl, hP, hb⟩ := hrel
      have hc2 := (hb.cell (p := ⟨b, 0, Option.none⟩) hblt).trans hc
      have HP := Lib.hid hP
      clear hP
      cases k with
      | zero =>
        go_wp2
        go_ret
        have e2 := cntTop_eq (fun x : En => !(x.el.id == 0) && !(op.contains x.el.id)) es es.length (by omega) (by simpa using HP.out) (.inl rfl)
        exact ⟨ret_int (by rw [e2]; simp), hb⟩
      | succ k =>
        have hkl : k < es.length := by omega
        obtain ⟨c0, c1, c2, c3⟩ := HS.out.at4 k hkl hb
        have hrv := Lib.hid (rev_get es k hkl)
        generalize es[k] = x at *
        have hw1 : IntKind.i64.wrap (((k + 1 : Nat) : Int) - 1) = (k : Int) := by rw [IntKind.wrap_i64]; omega
        rw [show (((k + 1 : Nat) : Int)) = (k : Int) + 1 from by omega]
        go_wp2_with fail
        have hal : Below wr.heap.size wr (wr.alloc (.cells #[.int .i64 x.el.id, .string x.el.sp, .string x.el.nm, .slice x.a x.ats.length x.c] 37)) := (Below.refl _ _).alloc (Nat.le_refl _) _
        have hb1 := hb.trans (hal.mono hb.size)
        have z0 : (wr.alloc (.cells #[.int .i64 x.el.id, .string x.el.sp, .string x.el.nm, .slice x.a x.ats.length x.c] 37)).cell? ⟨wr.heap.size, 0, Option.none⟩ = some (.int .i64 x.el.id) := by simp [go_sem]
        have hsz : (wr.alloc (.cells #[.int .i64 x.el.id, .string x.el.sp, .string x.el.nm, .slice x.a x.ats.length x.c] 37)).heap.size = wr.heap.size + 1 := by simp
        refine (marker_any x.el.id x.el.sp x.el.nm x.a x.ats.length x.c _).mono ?_
        rintro e w2 ⟨rfl, hb2⟩
        have y0 := (hb2.cell (p := ⟨wr.heap.size, 0, Option.none⟩) (by show wr.heap.size < _; omega)).trans z0
        have hbb := hb1.trans (hb2.mono hb1.size)
        have HBB := Lib.hid hbb
        clear z0 hb1 hb2 hal hsz hbb c0 c1 c2 c3 hb
        cases hm : (x.el.id == 0)
        · have HM := Lib.hid hm
          have hcn := contains_any ov op x.el.id w2 (HO.out.below (Nat.le_refl _) HBB.out)
          have HCN := Lib.hid hcn
          clear hm hcn
          go_wp2_with fail
          refine HCN.out.mono ?_
          rintro e w3 ⟨rfl, rfl⟩
          cases hq : op.contains x.el.id
          · have HQ := Lib.hid hq
            clear hq
            go_wp2_with fail
            go_roundw
            case rel =>
              refine ⟨k, by omega, rfl, fun j hj y hy => ?_, HBB.out⟩
              by_cases h : j < es.length - (k + 1)
              · exact HP.out j h y hy
              · obtain rfl : j = es.length - (k + 1) := by omega
                rw [hrv.out] at hy
                cases hy
                rw [HM.out, HQ.out]; rfl
            case measure => simp [intOf] <;> omega
          · have HQ := Lib.hid hq
            clear hq
            go_wp2_with fail
            go_ret
            have e2 := cntTop_eq (fun x : En => !(x.el.id == 0) && !(op.contains x.el.id)) es (es.length - (k + 1)) (by omega) HP.out (.inr ⟨x, hrv.out, by rw [HM.out, HQ.out]; rfl⟩)
            exact ⟨ret_int (by rw [e2]; omega), HBB.out⟩
        · have HM := Lib.hid hm
          clear hm
          go_wp2_with fail
          go_ret
          have e2 := cntTop_eq (fun x : En => !(x.el.id == 0) && !(op.contains x.el.id)) es (es.length - (k + 1)) (by omega) HP.out (.inr ⟨x, hrv.out, by rw [HM.out]; rfl⟩)
          exact ⟨ret_int (by rw [e2]; omega), HBB.out⟩

theorem ints_at {w : World} {va : Option Addr} {n c : Nat} {l : List Int} (h : IntsAt w (.slice va n c) l) {k : Nat} (hk : k < l.length) :
    ∃ b off, va = some ⟨b, off, Option.none⟩ ∧ n = l.length ∧ b < w.heap.size ∧ w.cell? ⟨b, off + k, Option.none⟩ = some (.int .i64 l[k]) := by
  rcases h with ⟨rfl, _⟩ | ⟨b, off, c', he, hlt, _, hc⟩
  · simp at hk
  · cases he
    exact ⟨b, off, rfl, rfl, hlt, hc k l[k] (by simp [hk])⟩

theorem IntsAt.len {w : World} {v : Value} {l : List Int} (h : IntsAt w v l) : l.length ≤ 9223372036854775807 := by
  rcases h with ⟨rfl, _⟩ | ⟨b, off, c, rfl, _, h, _⟩
  · simp
  · exact h
end Go.Proofs.Ytmhofhblgcjihaa
