/- foreign.great: the map of the words by their small letters. -/
import Derived.Test.YtdoiopdnencabaaDoorFc
import Derived.Maps.OwnSet
import Derived.Maps.Views
namespace Go.Proofs.YtdoiopdnencabaaDoor
open Go Go.RowKit Go.Maps

theorem lawS : Keyed Tryd.prog 9 := string_keyed Tryd.underlying9
theorem zeroW (w : World) : (zeroValue 44).run Tryd.prog w = .ok (.agg #[.string ⟨#[]⟩]) w := by kernel_rfl

/-- how a word reads -/
def wordD (s : ByteArray) : DataW Unit := .lit (.string s.data.toList)
def wordR (v : Value) : Option (DataW Unit × List MemPlace) := match v with
  | .agg a => (match a.toList with | [.string s] => some (wordD s, []) | _ => none)
  | _ => none
theorem wordR_mk (s : ByteArray) : wordR (.agg #[.string s]) = some (wordD s, []) := rfl
theorem wordR_inv {v : Value} {z : DataW Unit × List MemPlace} (h : wordR v = some z) : ∃ s, v = .agg #[.string s] ∧ z = (wordD s, []) := by
  unfold wordR at h
  split at h
  · rename_i a
    split at h
    · rename_i s hs
      cases h
      refine ⟨s, ?_, rfl⟩
      rw [show a = #[.string s] from by cases a; simp_all]
    · cases h
  · cases h
theorem wordD_inj {s t : ByteArray} (h : wordD s = wordD t) : s = t := by
  unfold wordD at h
  simp only [DataW.lit.injEq, Lit.string.injEq] at h
  exact ByteArray.ext (Array.toList_inj.1 h)

/-- the map, as it reads behind these words -/
def greatStep (m : DataW Unit) (x : ByteArray) : DataW Unit := m.put (.string (lowB x).data.toList) (wordD x)
def greatD (ws : List ByteArray) : DataW Unit := ws.foldl greatStep (.map [])
/-- the last word with these small letters -/
def findStep (k : List UInt8) (o : Option ByteArray) (x : ByteArray) : Option ByteArray := if (lowB x).data.toList = k then some x else o
def gFind (ws : List ByteArray) (k : List UInt8) : Option ByteArray := ws.foldl (findStep k) none

theorem keyLit (k : List UInt8) : WideAt.IsKeyLit (.string k) := by simp [WideAt.IsKeyLit]

theorem great_fold (k : List UInt8) : ∀ (ws : List ByteArray) (m : DataW Unit) (o : Option ByteArray), IsMap m → Maps.has m (.string k) = o.isSome → (∀ z, m.atKey (.string k) z = match o with | some x => wordD x | none => z) →
    Maps.has (ws.foldl greatStep m) (.string k) = (ws.foldl (findStep k) o).isSome ∧ (∀ z, (ws.foldl greatStep m).atKey (.string k) z = match ws.foldl (findStep k) o with | some x => wordD x | none => z)
  | [], m, o, _, h1, h2 => ⟨h1, h2⟩
  | x :: r, m, o, hm, h1, h2 => by
    simp only [List.foldl_cons]
    refine great_fold k r _ _ (hm.put _ _) ?_ ?_
    · unfold greatStep findStep
      by_cases h : (lowB x).data.toList = k
      · rw [if_pos h, h, has_put_same hm (keyLit k)]; rfl
      · rw [if_neg h, has_put_other (by simpa using Ne.symm h), h1]
    · intro z
      unfold greatStep findStep
      by_cases h : (lowB x).data.toList = k
      · rw [if_pos h, h, atKey_put_same hm (keyLit k)]
      · rw [if_neg h, atKey_put_other (by simpa using Ne.symm h), h2]

theorem great_has (ws : List ByteArray) (k : List UInt8) : Maps.has (greatD ws) (.string k) = (gFind ws k).isSome :=
  (great_fold k ws _ none isMap_empty rfl (fun _ => rfl)).1
theorem great_at (ws : List ByteArray) (k : List UInt8) (z : DataW Unit) : (greatD ws).atKey (.string k) z = match gFind ws k with | some x => wordD x | none => z :=
  (great_fold k ws _ none isMap_empty rfl (fun _ => rfl)).2 z
theorem greatD_snoc (ws : List ByteArray) (j : Nat) (h : j < ws.length) : greatD (ws.take (j + 1)) = (greatD (ws.take j)).put (.string (lowB ws[j]).data.toList) (wordD ws[j]) := by
  rw [List.take_succ_eq_append_getElem h, greatD, List.foldl_append]; rfl

/-- block b of w is the map of these words -/
def MapOf (w : World) (b : Nat) (ws : List ByteArray) : Prop := ∃ n, w.ownsMap Tryd.prog 9 wordR b n (greatD ws)

theorem MapOf.below {w w' : World} {b B : Nat} {ws : List ByteArray} (h : MapOf w b ws) (hB : b < B) (hb : Below B w w') : MapOf w' b ws := by
  obtain ⟨n, es, clock, h1, h2⟩ := h
  exact ⟨n, es, clock, (hb.block b hB).trans h1, h2⟩
theorem MapOf.lt {w : World} {b : Nat} {ws : List ByteArray} (h : MapOf w b ws) : b < w.heap.size := by
  obtain ⟨n, h⟩ := h; exact h.lt
theorem MapOf.none (w : World) : MapOf (w.alloc (.map #[] 0)) w.heap.size [] := ⟨0, World.ownsMap_made _ _ _ _⟩

/-- the look-up, for the walk -/
theorem wpList_look {P : Program} (hP : P = Tryd.prog) (w : World) {ops : Array Oper} {rest : List Oper} {o : Oper} {a : Act} {Q : Exit → Act → World → Prop} (hg : o.guard = Option.none) (m x : Operand) (hop : o.op = Op.lookup 40 m x true)
    (b : Nat) (ws : List ByteArray) (hm : a.eval m = .map (some b)) (hown : MapOf w b ws) (key : ByteArray) (hk : key.size ≤ maxLen) (hx : a.eval x = .string key)
    (hK : wpList P ops Q rest (a.put o.dst (.tuple #[.agg #[.string ((gFind ws key.data.toList).getD ⟨#[]⟩)], .bool (gFind ws key.data.toList).isSome])) w) : wpList P ops Q (o :: rest) a w := by
  subst hP
  obtain ⟨n, hown⟩ := hown
  refine wpList_lookup_own_ok w hg m x _ hop 9 44 lawS Tryd.underlying40 wordR (zeroW w) (wordD ⟨#[]⟩) [] (wordR_mk _) b n _ hm hown _ _ hx (WideMaps.keyOf_string_mk Tryd.underlying9 hk) ?_
  intro v ps hv
  obtain ⟨s, rfl, hs⟩ := wordR_inv hv
  simp only [Prod.mk.injEq] at hs
  rw [great_at] at hs
  rw [great_has]
  have : s = (gFind ws key.data.toList).getD ⟨#[]⟩ := by
    cases h : gFind ws key.data.toList with
    | none => rw [h] at hs; exact (wordD_inj hs.1).symm
    | some y => rw [h] at hs; exact (wordD_inj hs.1).symm
  rw [this]
  exact hK

theorem wpList_look_some {P : Program} (hP : P = Tryd.prog) (w : World) {ops : Array Oper} {rest : List Oper} {o : Oper} {a : Act} {Q : Exit → Act → World → Prop} (hg : o.guard = Option.none) (m x : Operand) (hop : o.op = Op.lookup 40 m x true)
    (b : Nat) (ws : List ByteArray) (hm : a.eval m = .map (some b)) (hown : MapOf w b ws) (key : ByteArray) (hk : key.size ≤ maxLen) (hx : a.eval x = .string key) (y : ByteArray) (hy : gFind ws key.data.toList = some y)
    (hK : wpList P ops Q rest (a.put o.dst (.tuple #[.agg #[.string y], .bool true])) w) : wpList P ops Q (o :: rest) a w :=
  wpList_look hP w hg m x hop b ws hm hown key hk hx (by rw [hy]; exact hK)
theorem wpList_look_none {P : Program} (hP : P = Tryd.prog) (w : World) {ops : Array Oper} {rest : List Oper} {o : Oper} {a : Act} {Q : Exit → Act → World → Prop} (hg : o.guard = Option.none) (m x : Operand) (hop : o.op = Op.lookup 40 m x true)
    (b : Nat) (ws : List ByteArray) (hm : a.eval m = .map (some b)) (hown : MapOf w b ws) (key : ByteArray) (hk : key.size ≤ maxLen) (hx : a.eval x = .string key) (hy : gFind ws key.data.toList = none)
    (hK : wpList P ops Q rest (a.put o.dst (.tuple #[.agg #[.string ⟨#[]⟩], .bool false])) w) : wpList P ops Q (o :: rest) a w :=
  wpList_look hP w hg m x hop b ws hm hown key hk hx (by rw [hy]; exact hK)

theorem split32_sizes : ∀ (l cur : List UInt8), ∀ f ∈ split32 cur l, f.length ≤ cur.length + l.length
  | [], cur => by simp [split32]
  | c :: r, cur => by
    intro f hf
    unfold split32 at hf
    split at hf
    · rcases List.mem_cons.1 hf with rfl | hf
      · simp; try omega
      · have := split32_sizes r [] f hf; simp at this ⊢; omega
    · have := split32_sizes r (cur ++ [c]) f hf; simp at this ⊢; omega
theorem fieldsV_sizes {ws : ByteArray} (hok : WordsOk ws) : ∀ x ∈ fieldsV ws, x.size ≤ maxLen := by
  intro x hx
  rw [fieldsV, hok.same] at hx
  obtain ⟨f, hf, rfl⟩ := List.mem_map.1 hx
  have h1 := split32_sizes ws.data.toList [] f (List.mem_filter.1 hf).1
  have h3 := hok.size
  have h4 : ws.data.toList.length = ws.size := by simp
  have h5 : (⟨f.toArray⟩ : ByteArray).size = f.length := by simp [ByteArray.size]
  rw [h5]
  unfold maxLen
  simp at h1
  omega

set_option maxHeartbeats 2000000 in
theorem great_any (ws : ByteArray) (w : World) (hg : Glob w) (hok : WordsOk ws) :
    Calls Tryd.prog 21 #[.string ws] w fun e w' => e = .returned (.map (some w.heap.size)) ∧ MapOf w' w.heap.size (fieldsV ws) ∧ Below w.heap.size w w' := by
  have hlen := fieldsV_small hok
  have hlen2 : (fieldsV ws).length < maxLen := by
    rw [fieldsV_len, hok.same]
    have h1 := List.length_filter_le (fun f : List UInt8 => !f.isEmpty) (split32 [] ws.data.toList)
    have h2 := split32_len ws.data.toList []
    have h3 := hok.size
    have h4 : ws.data.toList.length = ws.size := by simp
    unfold maxLen
    omega
  have hsz : ∀ x ∈ fieldsV ws, x.size ≤ maxLen := fieldsV_sizes hok
  have hmm := @run_makeMap Tryd.prog
  have hf := fields_any ws (w.alloc (.map #[] 0)) (hg.alloc _) hok
  have HF := Lib.hid hf
  have HS := Lib.hid hsz
  clear hf hsz
  generalize fieldsV ws = l at *
  go_enter Tryd.func21, Tryd.ntmps21
  go_wp2_with fail
  refine HF.out.mono ?_
  rintro e w1 ⟨rfl, rfl⟩
  go_wp2_with fail
  go_loopw [10] (fun i wr => ∃ k : Nat, k ≤ l.length ∧ i = .int .i64 k ∧ wr.ownsMap Tryd.prog 9 wordR w.heap.size k (greatD (l.take k)) ∧ Below w.heap.size w wr ∧ w.heap.size + 1 < wr.heap.size ∧ (∀ j, (hj : j < l.length) → wr.cell? ⟨w.heap.size + 1, j, none⟩ = some (.string l[j]))) (fun i _ => l.length - (intOf i).toNat)
  case atStart =>
    refine ⟨0, by omega, rfl, (World.ownsMap_made _ _ _ _).alloc _, ((Below.refl _ _).alloc (Nat.le_refl _) _).alloc (by simp) _, by simp, fun j hj => ?_⟩
    have h1 := heap_alloc_new (w.alloc (.map #[] 0)) (.cells (l.map Value.string).toArray 9)
    rw [World.size_alloc] at h1
    rw [cell_of_row _ _ j _ _ _ h1]
    simp [hj]
  case round =>
    obtain ⟨k, hk, rfl, hown, hb, hlt1, hc⟩ := hrel
    have HC := Lib.hid hc
    clear hc
    by_cases hlt : k < l.length
    · have c0 := HC.out k hlt
      have hs1 := HS.out l[k] (List.getElem_mem hlt)
      have hst := greatD_snoc l k hlt
      have HST := Lib.hid hst
      clear hst
      generalize l[k] = x at *
      go_wp2_with fail
      refine (lower_any x _ hs1).mono ?_
      rintro e w2 ⟨rfl, hb2⟩
      have hgm := (Below.refl w2.heap.size w2)
      have hown2 : w2.ownsMap Tryd.prog 9 wordR w.heap.size k (greatD (l.take k)) := hown.kept (row := Option.none) ⟨hb2.os, hb2.tape, hb2.output, hb2.size, fun j hj _ => hb2.block j hj⟩ (by simp)
      go_wp2_with (first | (at_mapUpdate; refine wpList_mapUpdate_own _ rfl _ _ _ 40 rfl 9 44 lawS Tryd.underlying40 wordR w.heap.size k _ rfl hown2 (by omega) _ _ (.string (lowB x).data.toList) rfl rfl (WideMaps.keyOf_string_mk Tryd.underlying9 (by rw [lowB_size]; exact hs1)) (wordD x) [] (wordR_mk x) ?_) | fail)
      intro w3 hown3 hgr3
      rw [← HST.out] at hown3
      go_wp2_with fail
      go_roundw
      case rel =>
        refine ⟨k + 1, by omega, by go_num, hown3, (hb.trans (hb2.mono hb.size)).grown hgr3 (Nat.le_trans hb.size hb2.size) (fun j hj => by cases hj; exact Nat.le_refl _), ?_, fun j hj => ?_⟩
        · have := hb2.size; have := hgr3.size; omega
        · have h1 := hb2.size
          rw [World.cell?_of_block (hgr3.block (w.heap.size + 1) (by omega) (by simp)), hb2.cell (p := ⟨w.heap.size + 1, j, none⟩) (by show w.heap.size + 1 < wr.heap.size; omega)]
          exact HC.out j hj
      case measure => simp [intOf] <;> omega
    · obtain rfl : k = l.length := by omega
      go_wp2_with fail
      go_ret
      rw [List.take_length] at hown
      exact ⟨rfl, ⟨_, hown⟩, hb⟩
end Go.Proofs.YtdoiopdnencabaaDoor
