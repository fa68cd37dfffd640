/- Insert, both ways. -/
import Derived.Test.YtmhofhblgcjihaaWh
import Derived.Test.YtmhofhblgcjihaaWi
namespace Go.Proofs.Ytmhofhblgcjihaa
open Go Go.RowKit Go.Shelf


theorem insert_any (b : Nat) (v : Value) (es : List En) (n : Int) (e : El) (va : Value) (attrs : List At) (w : World) (hs : Raw w b v es) (ha : AtsAt w va attrs) (hsm : attrs.length * 48 ≤ 140737488355328) (hlen : es.length < 900000) :
    Calls Try.prog 38 #[.pointer (some ⟨b, 0, Option.none⟩), .int .i64 n, .agg #[.int .i64 e.id, .string e.sp, .string e.nm], va] w (MPost b v es w (.returned (.int .i64 (insC (es.map En.ab) n))) (insL (es.map En.ab) n e attrs)) := by
  unfold insC insL
  rw [List.length_map]
  by_cases h : 0 ≤ n ∧ n ≤ es.length
  · rw [if_pos h, if_pos h]
    obtain ⟨i, rfl⟩ : ∃ i : Nat, n = i := ⟨n.toNat, by omega⟩
    exact insert_in b v es i e va attrs w hs ha hsm hlen (by omega)
  · rw [if_neg h, if_neg h]
    exact insert_out b v es n e va attrs w hs ha h

theorem rinsert_any (b : Nat) (v : Value) (es : List En) (n : Int) (e : El) (va : Value) (attrs : List At) (w : World) (hs : Raw w b v es) (ha : AtsAt w va attrs) (hsm : attrs.length * 48 ≤ 140737488355328) (hlen : es.length < 900000) :
    Calls Try.prog 39 #[.pointer (some ⟨b, 0, Option.none⟩), .int .i64 n, .agg #[.int .i64 e.id, .string e.sp, .string e.nm], va] w (MPost b v es w (.returned (.int .i64 (insC (es.map En.ab) n))) (insL (es.map En.ab) n e attrs)) := by
  unfold insC insL
  rw [List.length_map]
  by_cases h : 0 ≤ n ∧ n ≤ es.length
  · rw [if_pos h, if_pos h]
    obtain ⟨i, rfl⟩ : ∃ i : Nat, n = i := ⟨n.toNat, by omega⟩
    exact rinsert_in b v es i e va attrs w hs ha hsm hlen (by omega)
  · rw [if_neg h, if_neg h]
    exact rinsert_out b v es n e va attrs w hs ha h
end Go.Proofs.Ytmhofhblgcjihaa
