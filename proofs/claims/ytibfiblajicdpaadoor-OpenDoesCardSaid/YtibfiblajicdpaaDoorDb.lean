/- What one call of both stacks does, kind by kind. -/
import Derived.Test.YtibfiblajicdpaaDoorDa
import Derived.Test.YtibfiblajicdpaaDoorO
import Derived.Deep.RegionHeld3
import Derived.Lib.JoinLaws
namespace Go.Proofs.YtibfiblajicdpaaDoor
open Go Go.RowKit

/-- a call -/
structure Ac where
  kind : Int
  e : El
  n : Int
  scope : Int
  on : Bool

def DoesPost (w0 : World) (S : Nat → Prop) (b1 b2 m : Nat) (e : Ending) (W' : World) : Prop :=
  ∃ l', e = .returned (.bool true) ∧ Two w0 S b1 b2 l' l' W' ∧ l'.length ≤ m

theorem Two.base1 {w0 W W1 : World} {S : Nat → Prop} {b1 b2 : Nat} {l1 l2 : List El} {o : Obj} (h : Two w0 S b1 b2 l1 l2 W) (hb : Below (W.alloc o).heap.size (W.alloc o) W1) :
    ∃ S1 : Nat → Prop, Two W1 S1 b1 b2 l1 l2 W1 ∧ (∀ k, S1 k → S k ∨ w0.heap.size ≤ k) ∧ (∀ k, S1 k → k < W.heap.size) ∧ (∀ W2 l1' l2', Two W1 S1 b1 b2 l1' l2' W2 → Two w0 S b1 b2 l1' l2' W2) ∧ Below W.heap.size W W1 := by
  have hb1 : Below W.heap.size W W1 := ((Below.refl _ _).alloc (Nat.le_refl _) o).trans (hb.mono (by simp))
  obtain ⟨S1, a, b, c, d⟩ := h.base hb1
  exact ⟨S1, a, b, c, d, hb1⟩

theorem Two.glob1 {w0 W W1 : World} {S : Nat → Prop} {b1 b2 : Nat} {l1 l2 : List El} {o : Obj} (h : Two w0 S b1 b2 l1 l2 W) (hg : Glob w0) (hS : ∀ k, S k → 0 < k) (hb : Below (W.alloc o).heap.size (W.alloc o) W1) : Glob W1 :=
  ((h.glob hg hS).alloc o).below ((h.glob hg hS).alloc o).lt hb

theorem Aside2.base {w0 W W1 : World} {S S1 : Nat → Prop} {b1 b2 : Nat} {l1 l2 : List El} {o : Obj} {vn : Value} {ns : List ByteArray} (h : Aside2 w0 S vn ns) (hT : Two w0 S b1 b2 l1 l2 W) (hb : Below (W.alloc o).heap.size (W.alloc o) W1) (hS1 : ∀ k, S1 k → S k ∨ w0.heap.size ≤ k) : Aside2 W1 S1 vn ns := by
  have hb1 : Below W.heap.size W W1 := ((Below.refl _ _).alloc (Nat.le_refl _) o).trans (hb.mono (by simp))
  refine ⟨(h.at_ hT).below (Nat.le_refl _) hb1, fun hn nb o n c e hs => ?_⟩
  rcases hS1 nb hs with h1 | h1
  · exact h.off hn nb o n c e h1
  · have := h.strs.blk hn nb o n c e; omega

theorem special_two {w0 W : World} {S : Nat → Prop} {b1 b2 : Nat} {l1 l2 : List El} (h : Two w0 S b1 b2 l1 l2 W) (hg : Glob w0) (hS : ∀ k, S k → 0 < k) (i : Int) (sp nm : ByteArray) :
    Calls Tryd.prog 21 #[.agg #[.int .i64 i, .string sp, .string nm]] W fun e W' => e = .returned (.bool (specialB sp nm)) ∧ Two w0 S b1 b2 l1 l2 W' :=
  (special_any i sp nm W (h.glob hg hS)).mono fun _ _ ⟨a, b⟩ => ⟨a, h.go b⟩

theorem special_two_ref {w0 W : World} {S : Nat → Prop} {b1 b2 : Nat} {l1 l2 : List El} (h : Two w0 S b1 b2 l1 l2 W) (i : Int) (sp nm : ByteArray) :
    Calls Tryd.prog 49 #[.agg #[.int .i64 i, .string sp, .string nm]] W fun e W' => e = .returned (.bool (specialB sp nm)) ∧ Two w0 S b1 b2 l1 l2 W' :=
  (special_ref i sp nm W).mono fun _ _ ⟨a, b⟩ => ⟨a, h.go b⟩

theorem insert_any (b : Nat) (v : Value) (l : List El) (i : Int) (x : El) (w : World) (hs : Stk w b v l) (hlen : l.length < 1000000) :
    Calls Tryd.prog 15 #[.pointer (some ⟨b, 0, Option.none⟩), .int .i64 i, .agg #[.int .i64 x.id, .string x.sp, .string x.nm]] w (MPost b v w (.returned (.int .i64 (insC l i))) (insL l i x)) := by
  by_cases hi : 0 ≤ i ∧ i ≤ l.length
  · obtain ⟨k, rfl⟩ : ∃ k : Nat, i = k := ⟨i.toNat, by omega⟩
    rw [insC, insL, if_pos hi, if_pos hi, Int.toNat_natCast]
    exact insert_in b v l k x w hs (by omega) hlen
  · rw [insC, insL, if_neg hi, if_neg hi]
    exact insert_out b v l i x w hs hi

theorem rinsert_any (b : Nat) (v : Value) (l : List El) (i : Int) (x : El) (w : World) (hs : Stk w b v l) (hlen : l.length < 1000000) :
    Calls Tryd.prog 38 #[.pointer (some ⟨b, 0, Option.none⟩), .int .i64 i, .agg #[.int .i64 x.id, .string x.sp, .string x.nm]] w (MPost b v w (.returned (.int .i64 (insC l i))) (insL l i x)) := by
  by_cases hi : 0 ≤ i ∧ i ≤ l.length
  · obtain ⟨k, rfl⟩ : ∃ k : Nat, i = k := ⟨i.toNat, by omega⟩
    rw [insC, insL, if_pos hi, if_pos hi, Int.toNat_natCast]
    exact rinsert_in b v l k x w hs (by omega) hlen
  · rw [insC, insL, if_neg hi, if_neg hi]
    exact rinsert_out b v l i x w hs hi

theorem remL_len (l : List El) (id : Int) : (remL l id).length ≤ l.length + 1 := by
  unfold remL; split <;> simp <;> omega
theorem repL_len (l : List El) (id : Int) (x : El) : (repL l id x).length ≤ l.length + 1 := by
  unfold repL; split <;> simp
theorem insL_len (l : List El) (i : Int) (x : El) : (insL l i x).length ≤ l.length + 1 := by
  unfold insL; split <;> simp <;> omega
theorem take_len (l : List El) (k : Nat) : (l.take k).length ≤ l.length + 1 := by simp; omega
theorem popToL_len (ns : List ByteArray) (l : List El) : (popToL ns l).length ≤ l.length + 1 := take_len _ _

theorem pop_any (b : Nat) (v : Value) (l : List El) (w : World) (hs : Stk w b v l) :
    Calls Tryd.prog 14 #[.pointer (some ⟨b, 0, Option.none⟩)] w (MPost b v w (.returned (.tuple #[(topE l).v, .int .i64 (popC l)])) l.dropLast) := by
  rcases List.eq_nil_or_concat l with rfl | ⟨l', x, rfl⟩
  · exact pop_none b v w hs
  · rw [List.concat_eq_append] at *
    rw [popC_ne, List.dropLast_concat, show topE (l' ++ [x]) = x from by simp [topE]]
    exact pop_some b v l' x w hs

theorem rpop_any (b : Nat) (v : Value) (l : List El) (w : World) (hs : Stk w b v l) :
    Calls Tryd.prog 33 #[.pointer (some ⟨b, 0, Option.none⟩)] w (MPost b v w (.returned (.tuple #[(topE l).v, .int .i64 (popC l)])) l.dropLast) := by
  rcases List.eq_nil_or_concat l with rfl | ⟨l', x, rfl⟩
  · exact rpop_none b v w hs
  · rw [List.concat_eq_append] at *
    rw [popC_ne, List.dropLast_concat, show topE (l' ++ [x]) = x from by simp [topE]]
    exact rpop_some b v l' x w hs

set_option maxRecDepth 100000 in
set_option maxHeartbeats 8000000 in
theorem does_push (w0 : World) (S : Nat → Prop) (b1 b2 : Nat) (l : List El) (W : World) (hT0 : Two w0 S b1 b2 l l W) (hg0 : Glob w0) (hS0 : ∀ k, S k → 0 < k) (x : Ac) (na : Option Addr) (nn nc : Nat) (ns : List ByteArray) (hv : Aside2 w0 S (.slice na nn nc) ns) (hn : ns.length * 16 ≤ 140737488355328) (_hlen : l.length < 900000) (hkind : x.kind = 1) :
    Calls Tryd.prog 17 #[.pointer (some ⟨b1, 0, Option.none⟩), .pointer (some ⟨b2, 0, Option.none⟩), .agg #[.int .i64 x.kind, .int .i64 x.e.id, .string x.e.sp, .string x.e.nm, .int .i64 x.n, .int .u8 x.scope, .slice na nn nc, .bool x.on]] W (DoesPost w0 S b1 b2 (l.length + 1)) := by
  obtain ⟨xk, ⟨xi, xs, xm⟩, xn, xc, xo⟩ := x
  simp only at *
  subst hkind
  obtain ⟨own, W1, hr, ⟨oa, on, oc, rfl⟩, hstr, hbel, hge⟩ := run_names (W.alloc (.cells #[.int .i64 1, .int .i64 xi, .string xs, .string xm, .int .i64 xn, .int .u8 xc, .slice na nn nc, .bool xo] 51)) 23 (.slice na nn nc) ns ((hv.at_ hT0).below (Nat.le_refl _) ((Below.refl _ _).alloc (Nat.le_refl _) _)) hn
  obtain ⟨S1, hT, hS1, hSlt, hback, hw01⟩ := hT0.base1 hbel
  have hq : W1.heap[W.heap.size]? = some (.cells #[.int .i64 1, .int .i64 xi, .string xs, .string xm, .int .i64 xn, .int .u8 xc, .slice na nn nc, .bool xo] 51 (0, 0)) := (hbel.block _ (by simp)).trans (heap_alloc_new _ _)
  have hql : W.heap.size < W1.heap.size := (Array.getElem?_eq_some_iff.1 hq).1
  have hqS : ¬ S1 W.heap.size := fun h => by have := hSlt _ h; omega
  have HA : Hid (∀ W2, Keeps S1 W1 W2 → W2.cell? ⟨W.heap.size, 0, Option.none⟩ = some (.int .i64 1) ∧ W2.cell? ⟨W.heap.size, 1, Option.none⟩ = some (.int .i64 xi) ∧ W2.cell? ⟨W.heap.size, 2, Option.none⟩ = some (.string xs) ∧ W2.cell? ⟨W.heap.size, 3, Option.none⟩ = some (.string xm) ∧ W2.cell? ⟨W.heap.size, 4, Option.none⟩ = some (.int .i64 xn) ∧ W2.cell? ⟨W.heap.size, 5, Option.none⟩ = some (.int .u8 xc) ∧ W2.cell? ⟨W.heap.size, 6, Option.none⟩ = some (.slice na nn nc) ∧ W2.cell? ⟨W.heap.size, 7, Option.none⟩ = some (.bool xo)) := fun W2 hk => by
    have h2 := (hk.block _ hql hqS).trans hq
    refine ⟨?_, ?_, ?_, ?_, ?_, ?_, ?_, ?_⟩
    all_goals (rw [cell_of_row _ _ _ _ _ _ h2]; rfl)
  have hg1 := hT0.glob1 hg0 hS0 hbel
  have hS1' : ∀ k, S1 k → 0 < k := fun k hk => (hS1 k hk).elim (hS0 k) (fun h => Nat.lt_of_lt_of_le hg0.lt h)
  have hvn : Aside2 W1 S1 (.slice na nn nc) ns := hv.base hT0 hbel hS1
  have hown : Aside2 W1 S1 (.slice oa on oc) ns := ⟨hstr, fun _ nb o n c e hs => by have := hge nb o n c e; have := hSlt nb hs; simp at *; omega⟩
  have HBK := Lib.hid hback
  have HR := Lib.hid hr
  have HVN := Lib.hid hvn
  have HON := Lib.hid hown
  have HG := Lib.hid hg1
  have HS1 := Lib.hid hS1'
  have hz : W.heap.size + 1 ≤ W1.heap.size := by omega
  clear hr hstr hbel hge hS1 hSlt hback hq hqS hvn hown hg1 hS1' hT0 hg0 hS0 hv hn hw01
  obtain ⟨a0, a1, a2, a3, a4, a5, a6, a7⟩ := HA.out W1 (Keeps.refl _ _)
  go_enter Tryd.func17, Tryd.ntmps17
  go_wp2_with (at_builtin; refine Lib.wpList_append_run _ rfl _ _ _ _ rfl _ _ rfl rfl _ _ HR.out ?_)
  go_wp2_with fail
  refine (hT.call1 (fun v h f => push_any b1 v l ⟨xi, xs, xm⟩ _ h (by omega))).mono ?_
  rintro e w2 ⟨rfl, hT2⟩
  clear a0 a1 a2 a3 a4 a5 a6 a7
  obtain ⟨a0, a1, a2, a3, a4, a5, a6, a7⟩ := HA.out w2 hT2.keeps
  go_wp2_with fail
  refine (hT2.call2 (fun v h f => rpush_any b2 v l ⟨xi, xs, xm⟩ _ h (by omega))).mono ?_
  rintro e w3 ⟨rfl, hT3⟩
  clear a0 a1 a2 a3 a4 a5 a6 a7
  obtain ⟨a0, a1, a2, a3, a4, a5, a6, a7⟩ := HA.out w3 hT3.keeps
  go_wp2_with fail
  have hTd := hT3.go ((Below.refl _ _).drew)
  go_region_held3 (fun w' => w'.cell? ⟨W.heap.size, 0, Option.none⟩ = some (.int .i64 1) ∧ w'.cell? ⟨W.heap.size, 1, Option.none⟩ = some (.int .i64 xi) ∧ w'.cell? ⟨W.heap.size, 2, Option.none⟩ = some (.string xs) ∧ w'.cell? ⟨W.heap.size, 3, Option.none⟩ = some (.string xm) ∧ w'.cell? ⟨W.heap.size, 4, Option.none⟩ = some (.int .i64 xn) ∧ w'.cell? ⟨W.heap.size, 5, Option.none⟩ = some (.int .u8 xc) ∧ w'.cell? ⟨W.heap.size, 6, Option.none⟩ = some (.slice na nn nc) ∧ w'.cell? ⟨W.heap.size, 7, Option.none⟩ = some (.bool xo))
    (first | go_keep | exact HA.out _ hT'.keeps)
    (first
      | (go_at_call 21; refine (special_two (by assumption) HG.out HS1.out xi xs xm).mono ?_; rintro e w' ⟨rfl, hT'⟩)
      | (go_at_call 49; refine (special_two_ref (by assumption) xi xs xm).mono ?_; rintro e w' ⟨rfl, hT'⟩))
  all_goals
    go_wp2
    go_ret
    exact ⟨_, rfl, HBK.out _ _ _ (by assumption), by simp⟩

set_option maxRecDepth 100000 in
set_option maxHeartbeats 8000000 in
theorem does_remove (w0 : World) (S : Nat → Prop) (b1 b2 : Nat) (l : List El) (W : World) (hT0 : Two w0 S b1 b2 l l W) (hg0 : Glob w0) (hS0 : ∀ k, S k → 0 < k) (x : Ac) (na : Option Addr) (nn nc : Nat) (ns : List ByteArray) (hv : Aside2 w0 S (.slice na nn nc) ns) (hn : ns.length * 16 ≤ 140737488355328) (_hlen : l.length < 900000) (hkind : x.kind = 4) :
    Calls Tryd.prog 17 #[.pointer (some ⟨b1, 0, Option.none⟩), .pointer (some ⟨b2, 0, Option.none⟩), .agg #[.int .i64 x.kind, .int .i64 x.e.id, .string x.e.sp, .string x.e.nm, .int .i64 x.n, .int .u8 x.scope, .slice na nn nc, .bool x.on]] W (DoesPost w0 S b1 b2 (l.length + 1)) := by
  obtain ⟨xk, ⟨xi, xs, xm⟩, xn, xc, xo⟩ := x
  simp only at *
  subst hkind
  obtain ⟨own, W1, hr, ⟨oa, on, oc, rfl⟩, hstr, hbel, hge⟩ := run_names (W.alloc (.cells #[.int .i64 4, .int .i64 xi, .string xs, .string xm, .int .i64 xn, .int .u8 xc, .slice na nn nc, .bool xo] 51)) 23 (.slice na nn nc) ns ((hv.at_ hT0).below (Nat.le_refl _) ((Below.refl _ _).alloc (Nat.le_refl _) _)) hn
  obtain ⟨S1, hT, hS1, hSlt, hback, hw01⟩ := hT0.base1 hbel
  have hq : W1.heap[W.heap.size]? = some (.cells #[.int .i64 4, .int .i64 xi, .string xs, .string xm, .int .i64 xn, .int .u8 xc, .slice na nn nc, .bool xo] 51 (0, 0)) := (hbel.block _ (by simp)).trans (heap_alloc_new _ _)
  have hql : W.heap.size < W1.heap.size := (Array.getElem?_eq_some_iff.1 hq).1
  have hqS : ¬ S1 W.heap.size := fun h => by have := hSlt _ h; omega
  have HA : Hid (∀ W2, Keeps S1 W1 W2 → W2.cell? ⟨W.heap.size, 0, Option.none⟩ = some (.int .i64 4) ∧ W2.cell? ⟨W.heap.size, 1, Option.none⟩ = some (.int .i64 xi) ∧ W2.cell? ⟨W.heap.size, 2, Option.none⟩ = some (.string xs) ∧ W2.cell? ⟨W.heap.size, 3, Option.none⟩ = some (.string xm) ∧ W2.cell? ⟨W.heap.size, 4, Option.none⟩ = some (.int .i64 xn) ∧ W2.cell? ⟨W.heap.size, 5, Option.none⟩ = some (.int .u8 xc) ∧ W2.cell? ⟨W.heap.size, 6, Option.none⟩ = some (.slice na nn nc) ∧ W2.cell? ⟨W.heap.size, 7, Option.none⟩ = some (.bool xo)) := fun W2 hk => by
    have h2 := (hk.block _ hql hqS).trans hq
    refine ⟨?_, ?_, ?_, ?_, ?_, ?_, ?_, ?_⟩
    all_goals (rw [cell_of_row _ _ _ _ _ _ h2]; rfl)
  have hg1 := hT0.glob1 hg0 hS0 hbel
  have hS1' : ∀ k, S1 k → 0 < k := fun k hk => (hS1 k hk).elim (hS0 k) (fun h => Nat.lt_of_lt_of_le hg0.lt h)
  have hvn : Aside2 W1 S1 (.slice na nn nc) ns := hv.base hT0 hbel hS1
  have hown : Aside2 W1 S1 (.slice oa on oc) ns := ⟨hstr, fun _ nb o n c e hs => by have := hge nb o n c e; have := hSlt nb hs; simp at *; omega⟩
  have HBK := Lib.hid hback
  have HR := Lib.hid hr
  have HVN := Lib.hid hvn
  have HON := Lib.hid hown
  have HG := Lib.hid hg1
  have HS1 := Lib.hid hS1'
  have hz : W.heap.size + 1 ≤ W1.heap.size := by omega
  clear hr hstr hbel hge hS1 hSlt hback hq hqS hvn hown hg1 hS1' hT0 hg0 hS0 hv hn hw01
  obtain ⟨a0, a1, a2, a3, a4, a5, a6, a7⟩ := HA.out W1 (Keeps.refl _ _)
  go_enter Tryd.func17, Tryd.ntmps17
  go_wp2_with (at_builtin; refine Lib.wpList_append_run _ rfl _ _ _ _ rfl _ _ rfl rfl _ _ HR.out ?_)
  go_wp2_with fail
  have hTd := hT.go ((Below.refl _ _).drew)
  go_region_held3 (fun w' => w'.cell? ⟨W.heap.size, 0, Option.none⟩ = some (.int .i64 4) ∧ w'.cell? ⟨W.heap.size, 1, Option.none⟩ = some (.int .i64 xi) ∧ w'.cell? ⟨W.heap.size, 2, Option.none⟩ = some (.string xs) ∧ w'.cell? ⟨W.heap.size, 3, Option.none⟩ = some (.string xm) ∧ w'.cell? ⟨W.heap.size, 4, Option.none⟩ = some (.int .i64 xn) ∧ w'.cell? ⟨W.heap.size, 5, Option.none⟩ = some (.int .u8 xc) ∧ w'.cell? ⟨W.heap.size, 6, Option.none⟩ = some (.slice na nn nc) ∧ w'.cell? ⟨W.heap.size, 7, Option.none⟩ = some (.bool xo))
    (first | go_keep | exact HA.out _ hT'.keeps)
    (first
      | (go_at_call 16; refine (Two.call1 (by assumption) (fun v h f => remove_any b1 v l xn _ h)).mono ?_; rintro e w' ⟨rfl, hT'⟩)
      | (go_at_call 37; refine (Two.call2 (by assumption) (fun v h f => rremove_any b2 v l xn _ h)).mono ?_; rintro e w' ⟨rfl, hT'⟩))
  all_goals
    go_wp2
    go_ret
    exact ⟨_, rfl, HBK.out _ _ _ (by assumption), by first | exact remL_len _ _ | exact remL_len _ _ _⟩

set_option maxRecDepth 100000 in
set_option maxHeartbeats 8000000 in
theorem does_replace (w0 : World) (S : Nat → Prop) (b1 b2 : Nat) (l : List El) (W : World) (hT0 : Two w0 S b1 b2 l l W) (hg0 : Glob w0) (hS0 : ∀ k, S k → 0 < k) (x : Ac) (na : Option Addr) (nn nc : Nat) (ns : List ByteArray) (hv : Aside2 w0 S (.slice na nn nc) ns) (hn : ns.length * 16 ≤ 140737488355328) (_hlen : l.length < 900000) (hkind : x.kind = 6) :
    Calls Tryd.prog 17 #[.pointer (some ⟨b1, 0, Option.none⟩), .pointer (some ⟨b2, 0, Option.none⟩), .agg #[.int .i64 x.kind, .int .i64 x.e.id, .string x.e.sp, .string x.e.nm, .int .i64 x.n, .int .u8 x.scope, .slice na nn nc, .bool x.on]] W (DoesPost w0 S b1 b2 (l.length + 1)) := by
  obtain ⟨xk, ⟨xi, xs, xm⟩, xn, xc, xo⟩ := x
  simp only at *
  subst hkind
  obtain ⟨own, W1, hr, ⟨oa, on, oc, rfl⟩, hstr, hbel, hge⟩ := run_names (W.alloc (.cells #[.int .i64 6, .int .i64 xi, .string xs, .string xm, .int .i64 xn, .int .u8 xc, .slice na nn nc, .bool xo] 51)) 23 (.slice na nn nc) ns ((hv.at_ hT0).below (Nat.le_refl _) ((Below.refl _ _).alloc (Nat.le_refl _) _)) hn
  obtain ⟨S1, hT, hS1, hSlt, hback, hw01⟩ := hT0.base1 hbel
  have hq : W1.heap[W.heap.size]? = some (.cells #[.int .i64 6, .int .i64 xi, .string xs, .string xm, .int .i64 xn, .int .u8 xc, .slice na nn nc, .bool xo] 51 (0, 0)) := (hbel.block _ (by simp)).trans (heap_alloc_new _ _)
  have hql : W.heap.size < W1.heap.size := (Array.getElem?_eq_some_iff.1 hq).1
  have hqS : ¬ S1 W.heap.size := fun h => by have := hSlt _ h; omega
  have HA : Hid (∀ W2, Keeps S1 W1 W2 → W2.cell? ⟨W.heap.size, 0, Option.none⟩ = some (.int .i64 6) ∧ W2.cell? ⟨W.heap.size, 1, Option.none⟩ = some (.int .i64 xi) ∧ W2.cell? ⟨W.heap.size, 2, Option.none⟩ = some (.string xs) ∧ W2.cell? ⟨W.heap.size, 3, Option.none⟩ = some (.string xm) ∧ W2.cell? ⟨W.heap.size, 4, Option.none⟩ = some (.int .i64 xn) ∧ W2.cell? ⟨W.heap.size, 5, Option.none⟩ = some (.int .u8 xc) ∧ W2.cell? ⟨W.heap.size, 6, Option.none⟩ = some (.slice na nn nc) ∧ W2.cell? ⟨W.heap.size, 7, Option.none⟩ = some (.bool xo)) := fun W2 hk => by
    have h2 := (hk.block _ hql hqS).trans hq
    refine ⟨?_, ?_, ?_, ?_, ?_, ?_, ?_, ?_⟩
    all_goals (rw [cell_of_row _ _ _ _ _ _ h2]; rfl)
  have hg1 := hT0.glob1 hg0 hS0 hbel
  have hS1' : ∀ k, S1 k → 0 < k := fun k hk => (hS1 k hk).elim (hS0 k) (fun h => Nat.lt_of_lt_of_le hg0.lt h)
  have hvn : Aside2 W1 S1 (.slice na nn nc) ns := hv.base hT0 hbel hS1
  have hown : Aside2 W1 S1 (.slice oa on oc) ns := ⟨hstr, fun _ nb o n c e hs => by have := hge nb o n c e; have := hSlt nb hs; simp at *; omega⟩
  have HBK := Lib.hid hback
  have HR := Lib.hid hr
  have HVN := Lib.hid hvn
  have HON := Lib.hid hown
  have HG := Lib.hid hg1
  have HS1 := Lib.hid hS1'
  have hz : W.heap.size + 1 ≤ W1.heap.size := by omega
  clear hr hstr hbel hge hS1 hSlt hback hq hqS hvn hown hg1 hS1' hT0 hg0 hS0 hv hn hw01
  obtain ⟨a0, a1, a2, a3, a4, a5, a6, a7⟩ := HA.out W1 (Keeps.refl _ _)
  go_enter Tryd.func17, Tryd.ntmps17
  go_wp2_with (at_builtin; refine Lib.wpList_append_run _ rfl _ _ _ _ rfl _ _ rfl rfl _ _ HR.out ?_)
  go_wp2_with fail
  have hTd := hT.go ((Below.refl _ _).drew)
  go_region_held3 (fun w' => w'.cell? ⟨W.heap.size, 0, Option.none⟩ = some (.int .i64 6) ∧ w'.cell? ⟨W.heap.size, 1, Option.none⟩ = some (.int .i64 xi) ∧ w'.cell? ⟨W.heap.size, 2, Option.none⟩ = some (.string xs) ∧ w'.cell? ⟨W.heap.size, 3, Option.none⟩ = some (.string xm) ∧ w'.cell? ⟨W.heap.size, 4, Option.none⟩ = some (.int .i64 xn) ∧ w'.cell? ⟨W.heap.size, 5, Option.none⟩ = some (.int .u8 xc) ∧ w'.cell? ⟨W.heap.size, 6, Option.none⟩ = some (.slice na nn nc) ∧ w'.cell? ⟨W.heap.size, 7, Option.none⟩ = some (.bool xo))
    (first | go_keep | exact HA.out _ hT'.keeps)
    (first
      | (go_at_call 39; refine (Two.call1 (by assumption) (fun v h f => replace_any b1 v l xn ⟨xi, xs, xm⟩ _ h)).mono ?_; rintro e w' ⟨rfl, hT'⟩)
      | (go_at_call 40; refine (Two.call2 (by assumption) (fun v h f => rreplace_any b2 v l xn ⟨xi, xs, xm⟩ _ h)).mono ?_; rintro e w' ⟨rfl, hT'⟩))
  all_goals
    go_wp2
    go_ret
    exact ⟨_, rfl, HBK.out _ _ _ (by assumption), by first | exact repL_len _ _ | exact repL_len _ _ _⟩

set_option maxRecDepth 100000 in
set_option maxHeartbeats 8000000 in
theorem does_insert (w0 : World) (S : Nat → Prop) (b1 b2 : Nat) (l : List El) (W : World) (hT0 : Two w0 S b1 b2 l l W) (hg0 : Glob w0) (hS0 : ∀ k, S k → 0 < k) (x : Ac) (na : Option Addr) (nn nc : Nat) (ns : List ByteArray) (hv : Aside2 w0 S (.slice na nn nc) ns) (hn : ns.length * 16 ≤ 140737488355328) (_hlen : l.length < 900000) (hkind : x.kind = 5) :
    Calls Tryd.prog 17 #[.pointer (some ⟨b1, 0, Option.none⟩), .pointer (some ⟨b2, 0, Option.none⟩), .agg #[.int .i64 x.kind, .int .i64 x.e.id, .string x.e.sp, .string x.e.nm, .int .i64 x.n, .int .u8 x.scope, .slice na nn nc, .bool x.on]] W (DoesPost w0 S b1 b2 (l.length + 1)) := by
  obtain ⟨xk, ⟨xi, xs, xm⟩, xn, xc, xo⟩ := x
  simp only at *
  subst hkind
  obtain ⟨own, W1, hr, ⟨oa, on, oc, rfl⟩, hstr, hbel, hge⟩ := run_names (W.alloc (.cells #[.int .i64 5, .int .i64 xi, .string xs, .string xm, .int .i64 xn, .int .u8 xc, .slice na nn nc, .bool xo] 51)) 23 (.slice na nn nc) ns ((hv.at_ hT0).below (Nat.le_refl _) ((Below.refl _ _).alloc (Nat.le_refl _) _)) hn
  obtain ⟨S1, hT, hS1, hSlt, hback, hw01⟩ := hT0.base1 hbel
  have hq : W1.heap[W.heap.size]? = some (.cells #[.int .i64 5, .int .i64 xi, .string xs, .string xm, .int .i64 xn, .int .u8 xc, .slice na nn nc, .bool xo] 51 (0, 0)) := (hbel.block _ (by simp)).trans (heap_alloc_new _ _)
  have hql : W.heap.size < W1.heap.size := (Array.getElem?_eq_some_iff.1 hq).1
  have hqS : ¬ S1 W.heap.size := fun h => by have := hSlt _ h; omega
  have HA : Hid (∀ W2, Keeps S1 W1 W2 → W2.cell? ⟨W.heap.size, 0, Option.none⟩ = some (.int .i64 5) ∧ W2.cell? ⟨W.heap.size, 1, Option.none⟩ = some (.int .i64 xi) ∧ W2.cell? ⟨W.heap.size, 2, Option.none⟩ = some (.string xs) ∧ W2.cell? ⟨W.heap.size, 3, Option.none⟩ = some (.string xm) ∧ W2.cell? ⟨W.heap.size, 4, Option.none⟩ = some (.int .i64 xn) ∧ W2.cell? ⟨W.heap.size, 5, Option.none⟩ = some (.int .u8 xc) ∧ W2.cell? ⟨W.heap.size, 6, Option.none⟩ = some (.slice na nn nc) ∧ W2.cell? ⟨W.heap.size, 7, Option.none⟩ = some (.bool xo)) := fun W2 hk => by
    have h2 := (hk.block _ hql hqS).trans hq
    refine ⟨?_, ?_, ?_, ?_, ?_, ?_, ?_, ?_⟩
    all_goals (rw [cell_of_row _ _ _ _ _ _ h2]; rfl)
  have hg1 := hT0.glob1 hg0 hS0 hbel
  have hS1' : ∀ k, S1 k → 0 < k := fun k hk => (hS1 k hk).elim (hS0 k) (fun h => Nat.lt_of_lt_of_le hg0.lt h)
  have hvn : Aside2 W1 S1 (.slice na nn nc) ns := hv.base hT0 hbel hS1
  have hown : Aside2 W1 S1 (.slice oa on oc) ns := ⟨hstr, fun _ nb o n c e hs => by have := hge nb o n c e; have := hSlt nb hs; simp at *; omega⟩
  have HBK := Lib.hid hback
  have HR := Lib.hid hr
  have HVN := Lib.hid hvn
  have HON := Lib.hid hown
  have HG := Lib.hid hg1
  have HS1 := Lib.hid hS1'
  have hz : W.heap.size + 1 ≤ W1.heap.size := by omega
  clear hr hstr hbel hge hS1 hSlt hback hq hqS hvn hown hg1 hS1' hT0 hg0 hS0 hv hn hw01
  obtain ⟨a0, a1, a2, a3, a4, a5, a6, a7⟩ := HA.out W1 (Keeps.refl _ _)
  go_enter Tryd.func17, Tryd.ntmps17
  go_wp2_with (at_builtin; refine Lib.wpList_append_run _ rfl _ _ _ _ rfl _ _ rfl rfl _ _ HR.out ?_)
  go_wp2_with fail
  have hTd := hT.go ((Below.refl _ _).drew)
  go_region_held3 (fun w' => w'.cell? ⟨W.heap.size, 0, Option.none⟩ = some (.int .i64 5) ∧ w'.cell? ⟨W.heap.size, 1, Option.none⟩ = some (.int .i64 xi) ∧ w'.cell? ⟨W.heap.size, 2, Option.none⟩ = some (.string xs) ∧ w'.cell? ⟨W.heap.size, 3, Option.none⟩ = some (.string xm) ∧ w'.cell? ⟨W.heap.size, 4, Option.none⟩ = some (.int .i64 xn) ∧ w'.cell? ⟨W.heap.size, 5, Option.none⟩ = some (.int .u8 xc) ∧ w'.cell? ⟨W.heap.size, 6, Option.none⟩ = some (.slice na nn nc) ∧ w'.cell? ⟨W.heap.size, 7, Option.none⟩ = some (.bool xo))
    (first | go_keep | exact HA.out _ hT'.keeps)
    (first
      | (go_at_call 15; refine (Two.call1 (by assumption) (fun v h f => insert_any b1 v l xn ⟨xi, xs, xm⟩ _ h (by omega))).mono ?_; rintro e w' ⟨rfl, hT'⟩)
      | (go_at_call 38; refine (Two.call2 (by assumption) (fun v h f => rinsert_any b2 v l xn ⟨xi, xs, xm⟩ _ h (by omega))).mono ?_; rintro e w' ⟨rfl, hT'⟩))
  all_goals
    go_wp2
    go_ret
    exact ⟨_, rfl, HBK.out _ _ _ (by assumption), by first | exact insL_len _ _ | exact insL_len _ _ _⟩

set_option maxRecDepth 100000 in
set_option maxHeartbeats 8000000 in
theorem does_hasid (w0 : World) (S : Nat → Prop) (b1 b2 : Nat) (l : List El) (W : World) (hT0 : Two w0 S b1 b2 l l W) (hg0 : Glob w0) (hS0 : ∀ k, S k → 0 < k) (x : Ac) (na : Option Addr) (nn nc : Nat) (ns : List ByteArray) (hv : Aside2 w0 S (.slice na nn nc) ns) (hn : ns.length * 16 ≤ 140737488355328) (_hlen : l.length < 900000) (hkind : x.kind = 8) :
    Calls Tryd.prog 17 #[.pointer (some ⟨b1, 0, Option.none⟩), .pointer (some ⟨b2, 0, Option.none⟩), .agg #[.int .i64 x.kind, .int .i64 x.e.id, .string x.e.sp, .string x.e.nm, .int .i64 x.n, .int .u8 x.scope, .slice na nn nc, .bool x.on]] W (DoesPost w0 S b1 b2 (l.length + 1)) := by
  obtain ⟨xk, ⟨xi, xs, xm⟩, xn, xc, xo⟩ := x
  simp only at *
  subst hkind
  obtain ⟨own, W1, hr, ⟨oa, on, oc, rfl⟩, hstr, hbel, hge⟩ := run_names (W.alloc (.cells #[.int .i64 8, .int .i64 xi, .string xs, .string xm, .int .i64 xn, .int .u8 xc, .slice na nn nc, .bool xo] 51)) 23 (.slice na nn nc) ns ((hv.at_ hT0).below (Nat.le_refl _) ((Below.refl _ _).alloc (Nat.le_refl _) _)) hn
  obtain ⟨S1, hT, hS1, hSlt, hback, hw01⟩ := hT0.base1 hbel
  have hq : W1.heap[W.heap.size]? = some (.cells #[.int .i64 8, .int .i64 xi, .string xs, .string xm, .int .i64 xn, .int .u8 xc, .slice na nn nc, .bool xo] 51 (0, 0)) := (hbel.block _ (by simp)).trans (heap_alloc_new _ _)
  have hql : W.heap.size < W1.heap.size := (Array.getElem?_eq_some_iff.1 hq).1
  have hqS : ¬ S1 W.heap.size := fun h => by have := hSlt _ h; omega
  have HA : Hid (∀ W2, Keeps S1 W1 W2 → W2.cell? ⟨W.heap.size, 0, Option.none⟩ = some (.int .i64 8) ∧ W2.cell? ⟨W.heap.size, 1, Option.none⟩ = some (.int .i64 xi) ∧ W2.cell? ⟨W.heap.size, 2, Option.none⟩ = some (.string xs) ∧ W2.cell? ⟨W.heap.size, 3, Option.none⟩ = some (.string xm) ∧ W2.cell? ⟨W.heap.size, 4, Option.none⟩ = some (.int .i64 xn) ∧ W2.cell? ⟨W.heap.size, 5, Option.none⟩ = some (.int .u8 xc) ∧ W2.cell? ⟨W.heap.size, 6, Option.none⟩ = some (.slice na nn nc) ∧ W2.cell? ⟨W.heap.size, 7, Option.none⟩ = some (.bool xo)) := fun W2 hk => by
    have h2 := (hk.block _ hql hqS).trans hq
    refine ⟨?_, ?_, ?_, ?_, ?_, ?_, ?_, ?_⟩
    all_goals (rw [cell_of_row _ _ _ _ _ _ h2]; rfl)
  have hg1 := hT0.glob1 hg0 hS0 hbel
  have hS1' : ∀ k, S1 k → 0 < k := fun k hk => (hS1 k hk).elim (hS0 k) (fun h => Nat.lt_of_lt_of_le hg0.lt h)
  have hvn : Aside2 W1 S1 (.slice na nn nc) ns := hv.base hT0 hbel hS1
  have hown : Aside2 W1 S1 (.slice oa on oc) ns := ⟨hstr, fun _ nb o n c e hs => by have := hge nb o n c e; have := hSlt nb hs; simp at *; omega⟩
  have HBK := Lib.hid hback
  have HR := Lib.hid hr
  have HVN := Lib.hid hvn
  have HON := Lib.hid hown
  have HG := Lib.hid hg1
  have HS1 := Lib.hid hS1'
  have hz : W.heap.size + 1 ≤ W1.heap.size := by omega
  clear hr hstr hbel hge hS1 hSlt hback hq hqS hvn hown hg1 hS1' hT0 hg0 hS0 hv hn hw01
  obtain ⟨a0, a1, a2, a3, a4, a5, a6, a7⟩ := HA.out W1 (Keeps.refl _ _)
  go_enter Tryd.func17, Tryd.ntmps17
  go_wp2_with (at_builtin; refine Lib.wpList_append_run _ rfl _ _ _ _ rfl _ _ rfl rfl _ _ HR.out ?_)
  go_wp2_with fail
  have hTd := hT.go ((Below.refl _ _).drew)
  go_region_held3 (fun w' => w'.cell? ⟨W.heap.size, 0, Option.none⟩ = some (.int .i64 8) ∧ w'.cell? ⟨W.heap.size, 1, Option.none⟩ = some (.int .i64 xi) ∧ w'.cell? ⟨W.heap.size, 2, Option.none⟩ = some (.string xs) ∧ w'.cell? ⟨W.heap.size, 3, Option.none⟩ = some (.string xm) ∧ w'.cell? ⟨W.heap.size, 4, Option.none⟩ = some (.int .i64 xn) ∧ w'.cell? ⟨W.heap.size, 5, Option.none⟩ = some (.int .u8 xc) ∧ w'.cell? ⟨W.heap.size, 6, Option.none⟩ = some (.slice na nn nc) ∧ w'.cell? ⟨W.heap.size, 7, Option.none⟩ = some (.bool xo))
    (first | go_keep | exact HA.out _ hT'.keeps)
    (first
      | (go_at_call 43; refine (Two.read1 (by assumption) (fun v h => hasid_any b1 v l xc xn _ (Two.glob (by assumption) HG.out HS1.out) h)).mono ?_; rintro e w' ⟨rfl, hT'⟩)
      | (go_at_call 44; refine (Two.read2 (by assumption) (fun v h => rhasid_any b2 v l xc xn _ h)).mono ?_; rintro e w' ⟨rfl, hT'⟩))
  all_goals
    go_wp2
    go_ret
    exact ⟨_, rfl, HBK.out _ _ _ (by assumption), by omega⟩

set_option maxRecDepth 100000 in
set_option maxHeartbeats 8000000 in
theorem does_popto (w0 : World) (S : Nat → Prop) (b1 b2 : Nat) (l : List El) (W : World) (hT0 : Two w0 S b1 b2 l l W) (hg0 : Glob w0) (hS0 : ∀ k, S k → 0 < k) (x : Ac) (na : Option Addr) (nn nc : Nat) (ns : List ByteArray) (hv : Aside2 w0 S (.slice na nn nc) ns) (hn : ns.length * 16 ≤ 140737488355328) (_hlen : l.length < 900000) (hkind : x.kind = 10) :
    Calls Tryd.prog 17 #[.pointer (some ⟨b1, 0, Option.none⟩), .pointer (some ⟨b2, 0, Option.none⟩), .agg #[.int .i64 x.kind, .int .i64 x.e.id, .string x.e.sp, .string x.e.nm, .int .i64 x.n, .int .u8 x.scope, .slice na nn nc, .bool x.on]] W (DoesPost w0 S b1 b2 (l.length + 1)) := by
  obtain ⟨xk, ⟨xi, xs, xm⟩, xn, xc, xo⟩ := x
  simp only at *
  subst hkind
  obtain ⟨own, W1, hr, ⟨oa, on, oc, rfl⟩, hstr, hbel, hge⟩ := run_names (W.alloc (.cells #[.int .i64 10, .int .i64 xi, .string xs, .string xm, .int .i64 xn, .int .u8 xc, .slice na nn nc, .bool xo] 51)) 23 (.slice na nn nc) ns ((hv.at_ hT0).below (Nat.le_refl _) ((Below.refl _ _).alloc (Nat.le_refl _) _)) hn
  obtain ⟨S1, hT, hS1, hSlt, hback, hw01⟩ := hT0.base1 hbel
  have hq : W1.heap[W.heap.size]? = some (.cells #[.int .i64 10, .int .i64 xi, .string xs, .string xm, .int .i64 xn, .int .u8 xc, .slice na nn nc, .bool xo] 51 (0, 0)) := (hbel.block _ (by simp)).trans (heap_alloc_new _ _)
  have hql : W.heap.size < W1.heap.size := (Array.getElem?_eq_some_iff.1 hq).1
  have hqS : ¬ S1 W.heap.size := fun h => by have := hSlt _ h; omega
  have HA : Hid (∀ W2, Keeps S1 W1 W2 → W2.cell? ⟨W.heap.size, 0, Option.none⟩ = some (.int .i64 10) ∧ W2.cell? ⟨W.heap.size, 1, Option.none⟩ = some (.int .i64 xi) ∧ W2.cell? ⟨W.heap.size, 2, Option.none⟩ = some (.string xs) ∧ W2.cell? ⟨W.heap.size, 3, Option.none⟩ = some (.string xm) ∧ W2.cell? ⟨W.heap.size, 4, Option.none⟩ = some (.int .i64 xn) ∧ W2.cell? ⟨W.heap.size, 5, Option.none⟩ = some (.int .u8 xc) ∧ W2.cell? ⟨W.heap.size, 6, Option.none⟩ = some (.slice na nn nc) ∧ W2.cell? ⟨W.heap.size, 7, Option.none⟩ = some (.bool xo)) := fun W2 hk => by
    have h2 := (hk.block _ hql hqS).trans hq
    refine ⟨?_, ?_, ?_, ?_, ?_, ?_, ?_, ?_⟩
    all_goals (rw [cell_of_row _ _ _ _ _ _ h2]; rfl)
  have hg1 := hT0.glob1 hg0 hS0 hbel
  have hS1' : ∀ k, S1 k → 0 < k := fun k hk => (hS1 k hk).elim (hS0 k) (fun h => Nat.lt_of_lt_of_le hg0.lt h)
  have hvn : Aside2 W1 S1 (.slice na nn nc) ns := hv.base hT0 hbel hS1
  have hown : Aside2 W1 S1 (.slice oa on oc) ns := ⟨hstr, fun _ nb o n c e hs => by have := hge nb o n c e; have := hSlt nb hs; simp at *; omega⟩
  have HBK := Lib.hid hback
  have HR := Lib.hid hr
  have HVN := Lib.hid hvn
  have HON := Lib.hid hown
  have HG := Lib.hid hg1
  have HS1 := Lib.hid hS1'
  have hz : W.heap.size + 1 ≤ W1.heap.size := by omega
  clear hr hstr hbel hge hS1 hSlt hback hq hqS hvn hown hg1 hS1' hT0 hg0 hS0 hv hn hw01
  obtain ⟨a0, a1, a2, a3, a4, a5, a6, a7⟩ := HA.out W1 (Keeps.refl _ _)
  go_enter Tryd.func17, Tryd.ntmps17
  go_wp2_with (at_builtin; refine Lib.wpList_append_run _ rfl _ _ _ _ rfl _ _ rfl rfl _ _ HR.out ?_)
  go_wp2_with fail
  have hTd := hT.go ((Below.refl _ _).drew)
  go_region_held3 (fun w' => w'.cell? ⟨W.heap.size, 0, Option.none⟩ = some (.int .i64 10) ∧ w'.cell? ⟨W.heap.size, 1, Option.none⟩ = some (.int .i64 xi) ∧ w'.cell? ⟨W.heap.size, 2, Option.none⟩ = some (.string xs) ∧ w'.cell? ⟨W.heap.size, 3, Option.none⟩ = some (.string xm) ∧ w'.cell? ⟨W.heap.size, 4, Option.none⟩ = some (.int .i64 xn) ∧ w'.cell? ⟨W.heap.size, 5, Option.none⟩ = some (.int .u8 xc) ∧ w'.cell? ⟨W.heap.size, 6, Option.none⟩ = some (.slice na nn nc) ∧ w'.cell? ⟨W.heap.size, 7, Option.none⟩ = some (.bool xo))
    (first | go_keep | exact HA.out _ hT'.keeps)
    (first
      | (go_at_call 19; refine (Two.call1 (by assumption) (fun v h f => popto_any b1 v _ l ns _ h (HON.out.at_ (by assumption)) (HON.out.far f))).mono ?_; rintro e w' ⟨rfl, hT'⟩)
      | (go_at_call 46; refine (Two.call2 (by assumption) (fun v h f => rpopto_any b2 v _ l ns _ h (HVN.out.at_ (by assumption)) (HVN.out.far f))).mono ?_; rintro e w' ⟨rfl, hT'⟩))
  all_goals
    go_wp2
    go_ret
    exact ⟨_, rfl, HBK.out _ _ _ (by assumption), by first | exact popToL_len _ _ | exact popToL_len _ _ _⟩

set_option maxRecDepth 100000 in
set_option maxHeartbeats 8000000 in
theorem does_clear (w0 : World) (S : Nat → Prop) (b1 b2 : Nat) (l : List El) (W : World) (hT0 : Two w0 S b1 b2 l l W) (hg0 : Glob w0) (hS0 : ∀ k, S k → 0 < k) (x : Ac) (na : Option Addr) (nn nc : Nat) (ns : List ByteArray) (hv : Aside2 w0 S (.slice na nn nc) ns) (hn : ns.length * 16 ≤ 140737488355328) (_hlen : l.length < 900000) (hkind : x.kind = 11) :
    Calls Tryd.prog 17 #[.pointer (some ⟨b1, 0, Option.none⟩), .pointer (some ⟨b2, 0, Option.none⟩), .agg #[.int .i64 x.kind, .int .i64 x.e.id, .string x.e.sp, .string x.e.nm, .int .i64 x.n, .int .u8 x.scope, .slice na nn nc, .bool x.on]] W (DoesPost w0 S b1 b2 (l.length + 1)) := by
  obtain ⟨xk, ⟨xi, xs, xm⟩, xn, xc, xo⟩ := x
  simp only at *
  subst hkind
  obtain ⟨own, W1, hr, ⟨oa, on, oc, rfl⟩, hstr, hbel, hge⟩ := run_names (W.alloc (.cells #[.int .i64 11, .int .i64 xi, .string xs, .string xm, .int .i64 xn, .int .u8 xc, .slice na nn nc, .bool xo] 51)) 23 (.slice na nn nc) ns ((hv.at_ hT0).below (Nat.le_refl _) ((Below.refl _ _).alloc (Nat.le_refl _) _)) hn
  obtain ⟨S1, hT, hS1, hSlt, hback, hw01⟩ := hT0.base1 hbel
  have hq : W1.heap[W.heap.size]? = some (.cells #[.int .i64 11, .int .i64 xi, .string xs, .string xm, .int .i64 xn, .int .u8 xc, .slice na nn nc, .bool xo] 51 (0, 0)) := (hbel.block _ (by simp)).trans (heap_alloc_new _ _)
  have hql : W.heap.size < W1.heap.size := (Array.getElem?_eq_some_iff.1 hq).1
  have hqS : ¬ S1 W.heap.size := fun h => by have := hSlt _ h; omega
  have HA : Hid (∀ W2, Keeps S1 W1 W2 → W2.cell? ⟨W.heap.size, 0, Option.none⟩ = some (.int .i64 11) ∧ W2.cell? ⟨W.heap.size, 1, Option.none⟩ = some (.int .i64 xi) ∧ W2.cell? ⟨W.heap.size, 2, Option.none⟩ = some (.string xs) ∧ W2.cell? ⟨W.heap.size, 3, Option.none⟩ = some (.string xm) ∧ W2.cell? ⟨W.heap.size, 4, Option.none⟩ = some (.int .i64 xn) ∧ W2.cell? ⟨W.heap.size, 5, Option.none⟩ = some (.int .u8 xc) ∧ W2.cell? ⟨W.heap.size, 6, Option.none⟩ = some (.slice na nn nc) ∧ W2.cell? ⟨W.heap.size, 7, Option.none⟩ = some (.bool xo)) := fun W2 hk => by
    have h2 := (hk.block _ hql hqS).trans hq
    refine ⟨?_, ?_, ?_, ?_, ?_, ?_, ?_, ?_⟩
    all_goals (rw [cell_of_row _ _ _ _ _ _ h2]; rfl)
  have hg1 := hT0.glob1 hg0 hS0 hbel
  have hS1' : ∀ k, S1 k → 0 < k := fun k hk => (hS1 k hk).elim (hS0 k) (fun h => Nat.lt_of_lt_of_le hg0.lt h)
  have hvn : Aside2 W1 S1 (.slice na nn nc) ns := hv.base hT0 hbel hS1
  have hown : Aside2 W1 S1 (.slice oa on oc) ns := ⟨hstr, fun _ nb o n c e hs => by have := hge nb o n c e; have := hSlt nb hs; simp at *; omega⟩
  have HBK := Lib.hid hback
  have HR := Lib.hid hr
  have HVN := Lib.hid hvn
  have HON := Lib.hid hown
  have HG := Lib.hid hg1
  have HS1 := Lib.hid hS1'
  have hz : W.heap.size + 1 ≤ W1.heap.size := by omega
  clear hr hstr hbel hge hS1 hSlt hback hq hqS hvn hown hg1 hS1' hT0 hg0 hS0 hv hn hw01
  obtain ⟨a0, a1, a2, a3, a4, a5, a6, a7⟩ := HA.out W1 (Keeps.refl _ _)
  go_enter Tryd.func17, Tryd.ntmps17
  go_wp2_with (at_builtin; refine Lib.wpList_append_run _ rfl _ _ _ _ rfl _ _ rfl rfl _ _ HR.out ?_)
  go_wp2_with fail
  have hTd := hT.go ((Below.refl _ _).drew)
  go_region_held3 (fun w' => w'.cell? ⟨W.heap.size, 0, Option.none⟩ = some (.int .i64 11) ∧ w'.cell? ⟨W.heap.size, 1, Option.none⟩ = some (.int .i64 xi) ∧ w'.cell? ⟨W.heap.size, 2, Option.none⟩ = some (.string xs) ∧ w'.cell? ⟨W.heap.size, 3, Option.none⟩ = some (.string xm) ∧ w'.cell? ⟨W.heap.size, 4, Option.none⟩ = some (.int .i64 xn) ∧ w'.cell? ⟨W.heap.size, 5, Option.none⟩ = some (.int .u8 xc) ∧ w'.cell? ⟨W.heap.size, 6, Option.none⟩ = some (.slice na nn nc) ∧ w'.cell? ⟨W.heap.size, 7, Option.none⟩ = some (.bool xo))
    (first | go_keep | exact HA.out _ hT'.keeps)
    (first
      | (go_at_call 47; refine (Two.call1 (by assumption) (fun v h f => clear_any b1 v _ l ns _ h (HON.out.at_ (by assumption)) (HON.out.far f))).mono ?_; rintro e w' ⟨rfl, hT'⟩)
      | (go_at_call 48; refine (Two.call2 (by assumption) (fun v h f => rclear_any b2 v _ l ns _ h (HVN.out.at_ (by assumption)) (HVN.out.far f))).mono ?_; rintro e w' ⟨rfl, hT'⟩))
  all_goals
    go_wp2
    go_ret
    exact ⟨_, rfl, HBK.out _ _ _ (by assumption), by first | exact take_len _ _ | exact take_len _ _ _⟩

set_option maxRecDepth 100000 in
set_option maxHeartbeats 8000000 in
theorem does_else (w0 : World) (S : Nat → Prop) (b1 b2 : Nat) (l : List El) (W : World) (hT0 : Two w0 S b1 b2 l l W) (hg0 : Glob w0) (hS0 : ∀ k, S k → 0 < k) (x : Ac) (na : Option Addr) (nn nc : Nat) (ns : List ByteArray) (hv : Aside2 w0 S (.slice na nn nc) ns) (hn : ns.length * 16 ≤ 140737488355328) (_hlen : l.length < 900000) (hkind : ¬ x.kind = 1 ∧ ¬ x.kind = 2 ∧ ¬ x.kind = 3 ∧ ¬ x.kind = 4 ∧ ¬ x.kind = 5 ∧ ¬ x.kind = 6 ∧ ¬ x.kind = 7 ∧ ¬ x.kind = 8 ∧ ¬ x.kind = 9 ∧ ¬ x.kind = 10 ∧ ¬ x.kind = 11) :
    Calls Tryd.prog 17 #[.pointer (some ⟨b1, 0, Option.none⟩), .pointer (some ⟨b2, 0, Option.none⟩), .agg #[.int .i64 x.kind, .int .i64 x.e.id, .string x.e.sp, .string x.e.nm, .int .i64 x.n, .int .u8 x.scope, .slice na nn nc, .bool x.on]] W (DoesPost w0 S b1 b2 (l.length + 1)) := by
  obtain ⟨xk, ⟨xi, xs, xm⟩, xn, xc, xo⟩ := x
  simp only at *
  obtain ⟨k1, k2, k3, k4, k5, k6, k7, k8, k9, k10, k11⟩ := hkind
  replace k1 : (xk == 1) = false := by simpa using k1
  replace k2 : (xk == 2) = false := by simpa using k2
  replace k3 : (xk == 3) = false := by simpa using k3
  replace k4 : (xk == 4) = false := by simpa using k4
  replace k5 : (xk == 5) = false := by simpa using k5
  replace k6 : (xk == 6) = false := by simpa using k6
  replace k7 : (xk == 7) = false := by simpa using k7
  replace k8 : (xk == 8) = false := by simpa using k8
  replace k9 : (xk == 9) = false := by simpa using k9
  replace k10 : (xk == 10) = false := by simpa using k10
  replace k11 : (xk == 11) = false := by simpa using k11
  obtain ⟨own, W1, hr, ⟨oa, on, oc, rfl⟩, hstr, hbel, hge⟩ := run_names (W.alloc (.cells #[.int .i64 xk, .int .i64 xi, .string xs, .string xm, .int .i64 xn, .int .u8 xc, .slice na nn nc, .bool xo] 51)) 23 (.slice na nn nc) ns ((hv.at_ hT0).below (Nat.le_refl _) ((Below.refl _ _).alloc (Nat.le_refl _) _)) hn
  obtain ⟨S1, hT, hS1, hSlt, hback, hw01⟩ := hT0.base1 hbel
  have hq : W1.heap[W.heap.size]? = some (.cells #[.int .i64 xk, .int .i64 xi, .string xs, .string xm, .int .i64 xn, .int .u8 xc, .slice na nn nc, .bool xo] 51 (0, 0)) := (hbel.block _ (by simp)).trans (heap_alloc_new _ _)
  have hql : W.heap.size < W1.heap.size := (Array.getElem?_eq_some_iff.1 hq).1
  have hqS : ¬ S1 W.heap.size := fun h => by have := hSlt _ h; omega
  have HA : Hid (∀ W2, Keeps S1 W1 W2 → W2.cell? ⟨W.heap.size, 0, Option.none⟩ = some (.int .i64 xk) ∧ W2.cell? ⟨W.heap.size, 1, Option.none⟩ = some (.int .i64 xi) ∧ W2.cell? ⟨W.heap.size, 2, Option.none⟩ = some (.string xs) ∧ W2.cell? ⟨W.heap.size, 3, Option.none⟩ = some (.string xm) ∧ W2.cell? ⟨W.heap.size, 4, Option.none⟩ = some (.int .i64 xn) ∧ W2.cell? ⟨W.heap.size, 5, Option.none⟩ = some (.int .u8 xc) ∧ W2.cell? ⟨W.heap.size, 6, Option.none⟩ = some (.slice na nn nc) ∧ W2.cell? ⟨W.heap.size, 7, Option.none⟩ = some (.bool xo)) := fun W2 hk => by
    have h2 := (hk.block _ hql hqS).trans hq
    refine ⟨?_, ?_, ?_, ?_, ?_, ?_, ?_, ?_⟩
    all_goals (rw [cell_of_row _ _ _ _ _ _ h2]; rfl)
  have hg1 := hT0.glob1 hg0 hS0 hbel
  have hS1' : ∀ k, S1 k → 0 < k := fun k hk => (hS1 k hk).elim (hS0 k) (fun h => Nat.lt_of_lt_of_le hg0.lt h)
  have hvn : Aside2 W1 S1 (.slice na nn nc) ns := hv.base hT0 hbel hS1
  have hown : Aside2 W1 S1 (.slice oa on oc) ns := ⟨hstr, fun _ nb o n c e hs => by have := hge nb o n c e; have := hSlt nb hs; simp at *; omega⟩
  have HBK := Lib.hid hback
  have HR := Lib.hid hr
  have HVN := Lib.hid hvn
  have HON := Lib.hid hown
  have HG := Lib.hid hg1
  have HS1 := Lib.hid hS1'
  have hz : W.heap.size + 1 ≤ W1.heap.size := by omega
  clear hr hstr hbel hge hS1 hSlt hback hq hqS hvn hown hg1 hS1' hT0 hg0 hS0 hv hn hw01
  obtain ⟨a0, a1, a2, a3, a4, a5, a6, a7⟩ := HA.out W1 (Keeps.refl _ _)
  go_enter Tryd.func17, Tryd.ntmps17
  go_wp2_with (at_builtin; refine Lib.wpList_append_run _ rfl _ _ _ _ rfl _ _ rfl rfl _ _ HR.out ?_)
  go_wp2_with fail
  have hTd := hT.go ((Below.refl _ _).drew)
  go_region_held3 (fun w' => w'.cell? ⟨W.heap.size, 0, Option.none⟩ = some (.int .i64 xk) ∧ w'.cell? ⟨W.heap.size, 1, Option.none⟩ = some (.int .i64 xi) ∧ w'.cell? ⟨W.heap.size, 2, Option.none⟩ = some (.string xs) ∧ w'.cell? ⟨W.heap.size, 3, Option.none⟩ = some (.string xm) ∧ w'.cell? ⟨W.heap.size, 4, Option.none⟩ = some (.int .i64 xn) ∧ w'.cell? ⟨W.heap.size, 5, Option.none⟩ = some (.int .u8 xc) ∧ w'.cell? ⟨W.heap.size, 6, Option.none⟩ = some (.slice na nn nc) ∧ w'.cell? ⟨W.heap.size, 7, Option.none⟩ = some (.bool xo))
    (first | go_keep | exact HA.out _ hT'.keeps)
    (first
      | (go_at_call 21; refine (special_two (by assumption) HG.out HS1.out xi xs xm).mono ?_; rintro e w' ⟨rfl, hT'⟩)
      | (go_at_call 49; refine (special_two_ref (by assumption) xi xs xm).mono ?_; rintro e w' ⟨rfl, hT'⟩))
  all_goals
    go_wp2
    go_ret
    exact ⟨_, rfl, HBK.out _ _ _ (by assumption), by omega⟩
end Go.Proofs.YtibfiblajicdpaaDoor
