/- copy over elements of several cells: what lies where behind it. No program in sight. -/
import Derived.Laws.IdiomCopy
import Derived.Laws.CopyOwn
import Derived.Lib.Overlaps
import Derived.Lib.AppendZerosOnto
import Derived.Lib.JoinLaws
import Derived.Laws.Externs
import Derived.WalkKit
namespace Go.Proofs.Ytmhofhblgcjihaa
open Go Go.RowKit

/-- copy, by cells: all is read before anything is written -/
theorem run_copy_k {P : Program} (w : World) (dT sT ty elem : TypeId) (k b o dLen dCap : Nat) (a : Addr) (sLen sCap : Nat) (cs : List Value)
    (hu : P.underlying dT = some (.slice elem)) (hs : (P.info? elem).map (·.size) = some k) (hn : cs.length = Nat.min sLen dLen * k)
    (hsrc : ∀ j v, cs[j]? = some v → w.cell? (a.add j) = some v) (hc : ∀ j, j < cs.length → (w.cell? ⟨b, o + j, none⟩).isSome = true) (hf : ∀ j, j < cs.length → w.frozen? ⟨b, o + j, none⟩ = false) (h1 : ∀ v ∈ cs, v.oneCell' = true) :
    (Builtin.copy_ #[dT, sT] ty #[.slice (some ⟨b, o, none⟩) dLen dCap, .slice (some a) sLen sCap]).run P w = .ok (goInt (Nat.min sLen dLen)) (w.setCells b o cs) := by
  have hl := run_loadCells_list (P := P) w a cs hsrc
  have hst := run_storeCells_cells (P := P) b o cs 0 w (by simpa using hc) (by simpa using hf) h1
  cases hq : P.info? elem with
  | none => simp [hq] at hs
  | some i =>
    have hi : i.size = k := by simpa [hq] using hs
    rw [hn] at hl
    simp only [Nat.add_zero] at hst
    simp [Builtin.copy_, run_underlying hu, Builtin.lenOf, Builtin.firstCells, sizeOf, typeInfo, hq, hi, hl, hst]

/-- the operation 'copy(d, s)' for the walk, where its run is known -/
theorem wp_copy_runK {P : Program} (w : World) {o : Oper} {a : Act} {K : Act → World → Prop} {Q : Exit → Act → World → Prop} (d s : Operand) (t t' : TypeId)
    (ho : o.op = .call { callee := .builtin .copy, args := #[d, s], argTypes := #[t, t'] }) (v u : Value) (hd : a.eval d = v) (hs : a.eval s = u) {v' : Value} {w' : World}
    (hr : (Builtin.copy_ #[t, t'] o.type #[v, u]).run P w = .ok v' w') (h : K (a.put o.dst v') w') : o.wp P a w K Q := by
  unfold Oper.wp execOp
  simp only [ho, resolve, invoke, builtin, Sem.run_bind, Sem.run_pure, Result.andThen_ok, List.map_toArray, List.map_cons, List.map_nil, hd, hs, hr]
  exact h

theorem wpList_copy_runK {P : Program} (w : World) {ops : Array Oper} {rest : List Oper} {o : Oper} {a : Act} {Q : Exit → Act → World → Prop} (hgd : o.guard = none) (d s : Operand) (t t' : TypeId)
    (ho : o.op = .call { callee := .builtin .copy, args := #[d, s], argTypes := #[t, t'] }) (v u : Value) (hd : a.eval d = v) (hs : a.eval s = u) {v' : Value} {w' : World}
    (hr : (Builtin.copy_ #[t, t'] o.type #[v, u]).run P w = .ok v' w') (h : wpList P ops Q rest (a.put o.dst v') w') : wpList P ops Q (o :: rest) a w :=
  wpList_plain hgd fun _ hK => wp_copy_runK w d s t t' ho v u hd hs hr (hK _ _ h)

/-- .. and as one step of a region that draws -/
theorem step_copy_runK {P : Program} {ops : Array Oper} {o : Oper} {a : Act} {w : World} {K : Act → World → Prop} {Q : Exit → Act → World → Prop} {E : Prop}
    (hg : o.guard = none) (d x : Operand) (dT sT : TypeId) (hop : o.op = Op.call { callee := Callee.builtin Builtin.copy, args := #[d, x], argTypes := #[dT, sT] })
    (v u : Value) (hd : a.eval d = v) (hx : a.eval x = u) {v' : Value} {w' : World} (hr : (Builtin.copy_ #[dT, sT] o.type #[v, u]).run P w = .ok v' w') (hK : K (a.put o.dst v') w') :
    if Region.wanted o (yielded ops a.tmps) = true then Oper.wp P o a w K Q else E := by
  have hw : Region.wanted o (yielded ops a.tmps) = true := by simp [Region.wanted, hg]
  rw [if_pos hw]
  unfold Oper.wp
  simp [execOp, hop, resolve, invoke, builtin, hd, hx, hr, Result.andThen]
  exact hK

theorem drew_setCells (b : Nat) : ∀ (vs : List Value) (o : Nat) (w : World), (w.setCells b o vs).drew = w.drew.setCells b o vs
  | [], _, _ => rfl
  | v :: r, o, w => by rw [World.setCells, World.setCells, drew_setCells b r]; rfl

/-- cells of a row that is known whole, set one behind the other -/
theorem heap_setCells (g : Nat) (t : TypeId) (fz : Nat × Nat) : ∀ (vs : List Value) (o : Nat) (w : World) (cur : Array Value), w.heap[g]? = some (.cells cur t fz) → o + vs.length ≤ cur.size →
    (w.setCells g o vs).heap[g]? = some (.cells (cur.toList.take o ++ vs ++ cur.toList.drop (o + vs.length)).toArray t fz)
  | [], o, w, cur, hg, _ => by simpa [World.setCells] using hg
  | v :: r, o, w, cur, hg, hl => by
    simp only [List.length_cons] at hl
    have h1 : (w.setCell ⟨g, o, none⟩ v).heap[g]? = some (.cells (cur.setIfInBounds o v) t fz) := by
      rw [setCell_eq_setRow w g o cur t fz v hg]
      exact setRow_heap w g cur _ t fz hg
    rw [World.setCells, heap_setCells g t fz r (o + 1) _ _ h1 (by simp; omega)]
    congr 3
    have e := list_seg_step cur.toList o v r (by simp; omega)
    simpa [Array.toList_setIfInBounds] using e

theorem heap_setCells_other (g k : Nat) : ∀ (vs : List Value) (o : Nat) (w : World), k ≠ g → (w.setCells g o vs).heap[k]? = w.heap[k]?
  | [], _, _, _ => rfl
  | v :: r, o, w, h => by
    rw [World.setCells, heap_setCells_other g k r (o + 1) _ h]
    exact Below.heap_setCell w ⟨g, o, none⟩ v k (by simpa using h)

theorem size_setCells (g : Nat) : ∀ (vs : List Value) (o : Nat) (w : World), (w.setCells g o vs).heap.size = w.heap.size
  | [], _, _ => rfl
  | v :: r, o, w => by
    rw [World.setCells, size_setCells g r (o + 1)]
    simp [World.setCell]

theorem grown_setCells (g : Nat) (vs : List Value) (o : Nat) (w : World) : w.grownBy (w.setCells g o vs) (some g) := by
  have hos : ∀ (vs : List Value) (o : Nat) (w : World), (w.setCells g o vs).os = w.os ∧ (w.setCells g o vs).tape = w.tape ∧ (w.setCells g o vs).output = w.output := by
    intro vs
    induction vs with
    | nil => intro o w; exact ⟨rfl, rfl, rfl⟩
    | cons v r ih => intro o w; rw [World.setCells]; exact ih (o + 1) _
  obtain ⟨h1, h2, h3⟩ := hos vs o w
  exact ⟨h1, h2, h3, by rw [size_setCells]; exact Nat.le_refl _, fun k _ hk => heap_setCells_other g k vs o w (fun e => hk (by rw [e]))⟩

theorem run_clear_k {P : Program} (w : World) (t e ty : TypeId) (z : Value) (ht : P.underlying t = some (.slice e)) (hv : ∀ w, (zeroValue e).run P w = .ok z w) (b o n c : Nat) (hn : 0 < n) (zs : List Value) (hz : (Builtin.zeroCells z.cells n).toList = zs) (h1 : ∀ v ∈ zs, v.oneCell' = true)
    (hc : ∀ j, j < zs.length → (w.cell? ⟨b, o + j, none⟩).isSome = true) (hf : ∀ j, j < zs.length → w.frozen? ⟨b, o + j, none⟩ = false) :
    (Builtin.clear_ #[t] ty #[.slice (some ⟨b, o, none⟩) n c]).run P w = .ok (.tuple #[]) (w.setCells b o zs) := by
  have hst := run_storeCells_cells (P := P) b o zs 0 w (by simpa using hc) (by simpa using hf) h1
  simp only [Nat.add_zero] at hst
  obtain ⟨m, rfl⟩ : ∃ m, n = m + 1 := ⟨n - 1, by omega⟩
  simp [Builtin.clear_, run_underlying ht, hv, hz, hst]

/-! ### lists: what a row holds behind the stores -/
/-- cells laid over a list from a place on -/
def lay1 (L : List Value) (o : Nat) (cs : List Value) : List Value := L.take o ++ cs ++ L.drop (o + cs.length)

theorem lay1_length (L : List Value) (o : Nat) (cs : List Value) (h : o + cs.length ≤ L.length) : (lay1 L o cs).length = L.length := by simp [lay1]; omega

/-- a stretch is moved up by m, and m cells are laid ahead of it -/
theorem lay_shift (L vs : List Value) (p q : Nat) (hp : p ≤ q) (hq : q + vs.length ≤ L.length) :
    (lay1 (lay1 L (p + vs.length) ((L.take q).drop p)) p vs).take (q + vs.length) = (L.take q).take p ++ vs ++ (L.take q).drop p := by
  have hd : ((L.take q).drop p).length = q - p := by simp; omega
  have e1 : (lay1 L (p + vs.length) ((L.take q).drop p)).take p = L.take p := by
    simp only [lay1, List.append_assoc]
    rw [List.take_append_of_le_length (by simp; omega), List.take_take, Nat.min_eq_left (by omega)]
  have e2 : (lay1 L (p + vs.length) ((L.take q).drop p)).drop (p + vs.length) = (L.take q).drop p ++ L.drop (p + vs.length + (q - p)) := by
    simp only [lay1, hd, List.append_assoc]
    rw [List.drop_append_of_le_length (by simp; omega), List.drop_eq_nil_of_le (by simp; omega), List.nil_append]
  rw [lay1, e1, e2, List.take_take, Nat.min_eq_left hp, ← List.append_assoc]
  rw [List.take_append_of_le_length (by simp; omega)]
  exact List.take_of_length_le (by simp; omega)

/-- a new row: what stood ahead, m cells, what stood behind -/
theorem lay_new (A Z vs B : List Value) :
    (lay1 (lay1 (A ++ Z) A.length vs) (A.length + vs.length) B).take (A.length + vs.length + B.length) = A ++ vs ++ B := by
  have e1 : lay1 (A ++ Z) A.length vs = A ++ vs ++ Z.drop vs.length := by
    simp only [lay1]
    rw [List.take_left', List.drop_append, List.drop_eq_nil_of_le (by omega), List.nil_append, Nat.add_sub_cancel_left]
    rfl
  have e2 : (A ++ vs ++ Z.drop vs.length).take (A.length + vs.length) = A ++ vs := List.take_left' (by simp)
  rw [e1, lay1, e2]
  exact List.take_left' (by simp; omega)

/-- a stretch is cut out: what stood behind it is moved down -/
theorem lay_cut (L zs : List Value) (p q r : Nat) (hp : p ≤ q) (hq : q ≤ r) (hr : r ≤ L.length) (hz : p + (r - q) + zs.length ≤ L.length) :
    (lay1 (lay1 L p ((L.take r).drop q)) (p + (r - q)) zs).take (p + (r - q)) = (L.take r).take p ++ (L.take r).drop q := by
  have hd : ((L.take r).drop q).length = r - q := by simp; omega
  have hl : (lay1 L p ((L.take r).drop q)).length = L.length := lay1_length _ _ _ (by rw [hd]; omega)
  rw [lay1, List.take_append_of_le_length (by simp [hl]; omega), List.take_append_of_le_length (by simp [hl]; omega), List.take_take, Nat.min_self]
  rw [lay1, hd, List.take_append_of_le_length (by simp; omega), List.take_take, Nat.min_eq_left (by omega)]
  exact List.take_of_length_le (by simp; omega)
end Go.Proofs.Ytmhofhblgcjihaa
