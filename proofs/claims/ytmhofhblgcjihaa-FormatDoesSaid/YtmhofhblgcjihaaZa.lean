/- Slices of attributes: what lies where; slices.Clone. -/
import Derived.WalkKit
import Derived.BigFrame
import Derived.Deep.QuietTactic
import Derived.BigQuiet
import Derived.Lib.Hide
import Derived.Deep.RegionLaw
import Derived.Deep.AppendLies
import Derived.Lib.LazyBuf
import Derived.OwnWalk
import Derived.Test.YtmhofhblgcjihaaProg
namespace Go.Proofs.Ytmhofhblgcjihaa
open Go Go.RowKit

theorem ret_bool {a b : Bool} (h : a = b) : Ending.returned (.bool a) = .returned (.bool b) := by rw [h]
theorem ret_int {k : IntKind} {a b : Int} (h : a = b) : Ending.returned (.int k a) = .returned (.int k b) := by rw [h]
theorem bDrewN {B : Nat} {a w : World} (h : Below B a w) (n : Nat) : Below B a (w.drewN n) := h.trans ⟨rfl, rfl, rfl, Nat.le_refl _, fun _ _ => rfl⟩
theorem heap_two (w : World) (A B : Obj) : ((w.alloc A).alloc B).drew.heap[w.heap.size + 1]? = some B := by
  have := heap_alloc_new (w.alloc A) B
  rwa [World.size_alloc] at this

/-- an attribute -/
structure At where
  sp : ByteArray
  nm : ByteArray
  va : ByteArray

/-- the slice value v holds the attributes l -/
def AtsAt (w : World) (v : Value) (l : List At) : Prop :=
  (l = [] ∧ ∃ a c, v = .slice a 0 c) ∨
  (∃ b off c, v = .slice (some ⟨b, off, none⟩) l.length c ∧ b < w.heap.size ∧ 0 < l.length ∧ l.length ≤ 9223372036854775807 ∧
    ∀ j x, l[j]? = some x → w.cell? ⟨b, off + j * 3, none⟩ = some (.string x.sp) ∧ w.cell? ⟨b, off + j * 3 + 1, none⟩ = some (.string x.nm) ∧ w.cell? ⟨b, off + j * 3 + 2, none⟩ = some (.string x.va))

theorem AtsAt.form {w : World} {v : Value} {l : List At} (h : AtsAt w v l) : ∃ a c, v = .slice a l.length c := by
  rcases h with ⟨rfl, a, c, rfl⟩ | ⟨b, off, c, rfl, _⟩
  · exact ⟨_, _, rfl⟩
  · exact ⟨_, _, rfl⟩

theorem AtsAt.len {w : World} {v : Value} {l : List At} (h : AtsAt w v l) : l.length ≤ 9223372036854775807 := by
  rcases h with ⟨rfl, a, c, rfl⟩ | ⟨b, off, c, rfl, _, _, h, _⟩
  · simp
  · exact h

theorem AtsAt.below {w w' : World} {v : Value} {l : List At} {B : Nat} (h : AtsAt w v l) (hB : w.heap.size ≤ B) (hb : Below B w w') : AtsAt w' v l := by
  rcases h with h | ⟨b, off, c, rfl, hlt, h1, h2, h3⟩
  · exact .inl h
  · exact .inr ⟨b, off, c, rfl, Nat.lt_of_lt_of_le hlt hb.size, h1, h2, fun j x hj => by
      obtain ⟨e0, e1, e2⟩ := h3 j x hj
      exact ⟨(hb.cell (p := ⟨b, off + j * 3, none⟩) (by show b < B; omega)).trans e0, (hb.cell (p := ⟨b, off + j * 3 + 1, none⟩) (by show b < B; omega)).trans e1, (hb.cell (p := ⟨b, off + j * 3 + 2, none⟩) (by show b < B; omega)).trans e2⟩⟩

theorem ats_at {w : World} {va : Option Addr} {c : Nat} {l : List At} (h : AtsAt w (.slice va l.length c) l) {k : Nat} (hk : k < l.length) :
    ∃ b off, va = some ⟨b, off, none⟩ ∧ b < w.heap.size ∧ w.cell? ⟨b, off + k * 3, none⟩ = some (.string l[k].sp) ∧ w.cell? ⟨b, off + k * 3 + 1, none⟩ = some (.string l[k].nm) ∧ w.cell? ⟨b, off + k * 3 + 2, none⟩ = some (.string l[k].va) := by
  rcases h with ⟨rfl, _⟩ | ⟨b, off, c', he, hlt, _, _, hc⟩
  · simp at hk
  · cases he
    obtain ⟨h0, h1, h2⟩ := hc k l[k] (by simp [hk])
    exact ⟨b, off, rfl, hlt, h0, h1, h2⟩

def At.cells (x : At) : List Value := [.string x.sp, .string x.nm, .string x.va]
def flatA (l : List At) : List Value := l.flatMap At.cells
theorem flatA_length (l : List At) : (flatA l).length = l.length * 3 := by
  induction l with
  | nil => rfl
  | cons x l ih => simp only [flatA, List.flatMap_cons, List.length_append, List.length_cons] at *; rw [ih]; simp [At.cells]; omega
theorem flatA_append (a b : List At) : flatA (a ++ b) = flatA a ++ flatA b := by simp [flatA]
theorem flatA_one (x : At) : flatA [x] = [.string x.sp, .string x.nm, .string x.va] := by simp [flatA, At.cells]
theorem flatA_get (l : List At) (j : Nat) (x : At) (h : l[j]? = some x) : (flatA l)[j * 3]? = some (.string x.sp) ∧ (flatA l)[j * 3 + 1]? = some (.string x.nm) ∧ (flatA l)[j * 3 + 2]? = some (.string x.va) := by
  induction l generalizing j with
  | nil => simp at h
  | cons y l ih =>
    cases j with
    | zero => simp at h; subst h; simp [flatA, At.cells]
    | succ j =>
      simp at h
      have := ih j h
      have e : flatA (y :: l) = y.cells ++ flatA l := rfl
      have hl : y.cells.length = 3 := rfl
      rw [e]
      refine ⟨?_, ?_, ?_⟩
      · rw [List.getElem?_append_right (by rw [hl]; omega), hl, show (j + 1) * 3 - 3 = j * 3 from by omega]; exact this.1
      · rw [List.getElem?_append_right (by rw [hl]; omega), hl, show (j + 1) * 3 + 1 - 3 = j * 3 + 1 from by omega]; exact this.2.1
      · rw [List.getElem?_append_right (by rw [hl]; omega), hl, show (j + 1) * 3 + 2 - 3 = j * 3 + 2 from by omega]; exact this.2.2
theorem flatA_cell (l : List At) (j : Nat) (u : Value) (h : (flatA l)[j]? = some u) : ∃ q r x, l[q]? = some x ∧ j = q * 3 + r ∧ ((r = 0 ∧ u = .string x.sp) ∨ (r = 1 ∧ u = .string x.nm) ∨ (r = 2 ∧ u = .string x.va)) := by
  have hlt := (List.getElem?_eq_some_iff.1 h).1
  rw [flatA_length] at hlt
  have hq : j / 3 < l.length := by omega
  obtain ⟨h0, h1, h2⟩ := flatA_get l (j / 3) l[j / 3] (by simp [hq])
  refine ⟨j / 3, j % 3, l[j / 3], by simp [hq], by omega, ?_⟩
  have hr : j % 3 = 0 ∨ j % 3 = 1 ∨ j % 3 = 2 := by omega
  rcases hr with hr | hr | hr
  · left
    rw [show j / 3 * 3 = j from by omega, h] at h0
    exact ⟨hr, Option.some.inj h0⟩
  · right; left
    rw [show j / 3 * 3 + 1 = j from by omega, h] at h1
    exact ⟨hr, Option.some.inj h1⟩
  · right; right
    rw [show j / 3 * 3 + 2 = j from by omega, h] at h2
    exact ⟨hr, Option.some.inj h2⟩
theorem flatA_one' (l : List At) : ∀ u ∈ flatA l, u.oneCell' = true := by
  intro u hu
  simp only [flatA, List.mem_flatMap] at hu
  obtain ⟨x, _, hx⟩ := hu
  simp [At.cells] at hx
  rcases hx with rfl | rfl | rfl <;> rfl

/-- the slice value v is the call's own (its block lies from base on), and holds l -/
def OwnP (w : World) (base : Nat) (v : Value) (l : List At) : Prop :=
  (v = .slice none 0 0 ∧ l = []) ∨
  ∃ g cap cur, v = .slice (some ⟨g, 0, none⟩) l.length cap ∧ base ≤ g ∧ w.heap[g]? = some (.cells cur 34 (0, 0)) ∧ l.length ≤ cap ∧ cap ≤ maxLen ∧
    ∀ j x, l[j]? = some x → cur[j * 3]? = some (.string x.sp) ∧ cur[j * 3 + 1]? = some (.string x.nm) ∧ cur[j * 3 + 2]? = some (.string x.va)

theorem OwnP.of_row {w : World} {base : Nat} {v : Value} {l : List At} (h : w.ownsRow base 34 3 v l.length (flatA l)) : OwnP w base v l := by
  rcases h.2 with ⟨rfl, hn⟩ | ⟨g, cap, cur, rfl, h1, h2, hcc, hmm, _, ht⟩
  · exact .inl ⟨rfl, List.eq_nil_of_length_eq_zero hn⟩
  · refine .inr ⟨g, cap, cur, rfl, h1, h2, hcc, hmm, fun j x hx => ?_⟩
    have hlt := (List.getElem?_eq_some_iff.1 hx).1
    obtain ⟨e0, e1, e2⟩ := flatA_get l j x hx
    rw [← ht] at e0 e1 e2
    rw [List.getElem?_take, if_pos (by omega), Array.getElem?_toList] at e0 e1 e2
    exact ⟨e0, e1, e2⟩

theorem OwnP.ats {w : World} {base : Nat} {v : Value} {l : List At} (h : OwnP w base v l) (hl : l.length ≤ 9223372036854775807) : AtsAt w v l := by
  rcases h with ⟨rfl, rfl⟩ | ⟨g, cap, cur, rfl, h1, h2, hcc, hmm, h3⟩
  · exact .inl ⟨rfl, _, _, rfl⟩
  · cases hn : l with
    | nil => exact .inl ⟨rfl, _, _, rfl⟩
    | cons a r =>
      rw [← hn]
      refine .inr ⟨g, 0, cap, rfl, (Array.getElem?_eq_some_iff.1 h2).1, by rw [hn]; simp, hl, fun j x hx => ?_⟩
      obtain ⟨e0, e1, e2⟩ := h3 j x hx
      refine ⟨?_, ?_, ?_⟩
      · rw [cell_of_row _ _ _ _ _ _ h2, Nat.zero_add]; exact e0
      · rw [cell_of_row _ _ _ _ _ _ h2, Nat.zero_add]; exact e1
      · rw [cell_of_row _ _ _ _ _ _ h2, Nat.zero_add]; exact e2

theorem OwnP.below {w w' : World} {base B : Nat} {v : Value} {l : List At} (h : OwnP w base v l) (hb : Below B w w') (hB : w.heap.size ≤ B) : OwnP w' base v l := by
  rcases h with h | ⟨g, cap, cur, rfl, h1, h2, hcc, hmm, h3⟩
  · exact .inl h
  · exact .inr ⟨g, cap, cur, rfl, h1, (hb.block g (Nat.lt_of_lt_of_le (Array.getElem?_eq_some_iff.1 h2).1 hB)).trans h2, hcc, hmm, h3⟩

theorem OwnP.mono {w : World} {base b' : Nat} {v : Value} {l : List At} (h : OwnP w base v l) (hb : b' ≤ base) : OwnP w b' v l := by
  rcases h with h | ⟨g, cap, cur, rfl, h1, h2, hcc, hmm, h3⟩
  · exact .inl h
  · exact .inr ⟨g, cap, cur, rfl, Nat.le_trans hb h1, h2, hcc, hmm, h3⟩

theorem OwnP.form {w : World} {base : Nat} {v : Value} {l : List At} (h : OwnP w base v l) : ∃ a c, v = .slice a l.length c := by
  rcases h with ⟨rfl, rfl⟩ | ⟨g, cap, cur, rfl, _⟩
  · exact ⟨_, _, rfl⟩
  · exact ⟨_, _, rfl⟩

theorem setCell_heap {w : World} {g j : Nat} {cur : Array Value} {t : TypeId} {fr : Nat × Nat} (h : w.heap[g]? = some (.cells cur t fr)) (u : Value) : (w.setCell ⟨g, j, none⟩ u).heap[g]? = some (.cells (cur.setIfInBounds j u) t fr) := by
  simp only [World.setCell, Array.getElem?_modify, if_true, h, Option.map_some]
  rfl

theorem infoAt : (Try.prog.info? 34).map (fun i => (i.zero, i.size, i.bytes)) = some (some (.agg #[.string ⟨#[]⟩, .string ⟨#[]⟩, .string ⟨#[]⟩]), 3, 48) := by kernel_rfl

set_option maxHeartbeats 1000000 in
theorem clone_any (v : Value) (l : List At) (w : World) (hv : AtsAt w v l) (hsm : l.length * 48 ≤ 140737488355328) :
    Calls Try.prog 49 #[v] w fun e w' => ∃ v', e = .returned v' ∧ OwnP w' w.heap.size v' l ∧ Below w.heap.size w w' := by
  have hnil := fun (W : World) (a : Option Addr) (n c : Nat) => run_eql_slice_nil (P := Try.prog) W 35 34 a n c Try.underlying35
  by_cases h0 : l = []
  · obtain ⟨va, vc, rfl⟩ := hv.form
    subst h0
    clear hv
    simp only [List.length_nil]
    cases va
    · go_enter Try.func49, Try.ntmps49
      go_wp2_with fail
      go_ret
      exact ⟨_, rfl, .inl ⟨rfl, rfl⟩, Below.refl _ _⟩
    · go_enter Try.func49, Try.ntmps49
      go_wp2_with fail
      go_ret
      exact ⟨_, rfl, .inr ⟨_, _, _, rfl, Nat.le_refl _, heap_alloc_new _ _, Nat.zero_le _, Nat.zero_le _, fun j x hx => by simp at hx⟩, (Below.refl _ _).alloc (Nat.le_refl _) _⟩
  · rcases hv with ⟨h, _⟩ | ⟨b, off, c, rfl, hblt, hpos, _, hcell⟩
    · exact absurd h h0
    · obtain ⟨i0, hi, hz0, hz1, hz2⟩ := info_parts infoAt
      have ht : Try.prog.underlying 35 = some (.slice 34) := Try.underlying35
      have hown : (w.alloc (.cells #[] 34)).ownsRow w.heap.size 34 3 (.slice (some ⟨w.heap.size, 0, Option.none⟩) 0 0) 0 [] :=
        ⟨rfl, .inr ⟨w.heap.size, 0, #[], rfl, Nat.le_refl _, heap_alloc_new _ _, Nat.le_refl _, by unfold maxLen; omega, rfl, rfl⟩⟩
      have hnews : ∀ j u, (flatA l)[j]? = some u → (w.alloc (.cells #[] 34)).cell? ((⟨b, off, Option.none⟩ : Addr).add j) = some u := by
        intro j u hu
        have hadd : (⟨b, off, Option.none⟩ : Addr).add j = ⟨b, off + j, Option.none⟩ := by unfold Addr.add; split <;> simp_all
        rw [hadd, World.cell?_of_block (heap_alloc_old _ _ hblt)]
        obtain ⟨q, r, x, hx, rfl, hr⟩ := flatA_cell l j u hu
        obtain ⟨e0, e1, e2⟩ := hcell q x hx
        rcases hr with ⟨rfl, rfl⟩ | ⟨rfl, rfl⟩ | ⟨rfl, rfl⟩
        · exact e0
        · exact e1
        · exact e2
      have hOne := flatA_one' l
      have HC := Lib.hid hcell
      have HN := Lib.hid hnews
      have HO := Lib.hid hOne
      clear hcell hnews hOne
      go_enter Try.func49, Try.ntmps49
      go_wp2_with (first | (at_builtin; refine wpList_append_lies _ rfl _ _ 35 rfl w.heap.size 34 i0 _ 3 48 ht hi hz0 hz1 hz2 rfl (by decide) _ 0 [] rfl hown ⟨b, off, Option.none⟩ l.length c (flatA l) rfl (flatA_length l) HN.out HO.out hpos (by unfold maxLen; omega) (by omega) (by simp) _ rfl ?_) | fail)
      intro g cap w' hown' hgr hat hlt
      go_wp2
      go_ret
      exact ⟨_, rfl, .of_row hown', ((Below.refl w.heap.size w).alloc (Nat.le_refl _) _).grown hgr (by simp) (fun k hk => by cases hk; exact Nat.le_refl _)⟩
end Go.Proofs.Ytmhofhblgcjihaa
