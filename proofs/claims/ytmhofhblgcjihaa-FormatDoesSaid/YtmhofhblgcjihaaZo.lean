/- What Mark, Clear, At and Lost do. -/
import Derived.Test.YtmhofhblgcjihaaZl
namespace Go.Proofs.Ytmhofhblgcjihaa
open Go Go.RowKit Go.Shelf

def En.none : En := ⟨El.none, Option.none, 0, []⟩

set_option maxRecDepth 100000 in
set_option maxHeartbeats 2000000 in
theorem mark_any (b : Nat) (v : Value) (es : List En) (w : World) (hs : Raw w b v es) (hlen : es.length < 900000) :
    Calls Try.prog 8 #[.pointer (some ⟨b, 0, Option.none⟩)] w (MPost b v es w (.returned (.tuple #[])) (es.map En.ab ++ [Ab.none])) := by
  obtain ⟨i0, hi, hz0, hz1, hz2⟩ := info_parts infoen
  have ht : Try.prog.underlying 25 = some (.slice 37) := Try.underlying25
  have hc := hs.cell
  have hf := hs.frozen
  have hblt := hs.lt b (.inl rfl)
  have hne := hs.ne
  have HS := Lib.hid hs
  have hdr : Below w.heap.size w w := Below.refl _ _
  have own8 := (own_below hs.own hdr).alloc (.cells #[.int .i64 0, .string ⟨#[]⟩, .string ⟨#[]⟩, .slice Option.none 0 0] 37)
  have hcs8 := en_news (vs := [.int .i64 0, .string ⟨#[]⟩, .string ⟨#[]⟩, .slice Option.none 0 0]) (heap_alloc_new w (.cells #[.int .i64 0, .string ⟨#[]⟩, .string ⟨#[]⟩, .slice Option.none 0 0] 37))
  have hb8 : Below w.heap.size w (w.alloc (.cells #[.int .i64 0, .string ⟨#[]⟩, .string ⟨#[]⟩, .slice Option.none 0 0] 37)) := hdr.alloc hdr.size _
  clear hs
  go_enter Try.func8, Try.ntmps8
  go_wp2_with (first | (at_builtin; refine wpList_append_lies _ rfl _ _ 25 rfl 0 37 i0 _ 4 64 ht hi hz0 hz1 hz2 rfl (by decide) v es.length (flatE es) rfl (by exact own8) ⟨w.heap.size, 0, Option.none⟩ 1 1 [.int .i64 0, .string ⟨#[]⟩, .string ⟨#[]⟩, .slice Option.none 0 0] rfl rfl (by exact hcs8) (by simp [Value.oneCell']) (by decide) (by unfold maxLen; omega) (by omega) (Nat.zero_le _) _ rfl ?_; intro g8 cap8 w8 hown8 hgr8 hat8 hlt8; obtain ⟨hc8, hf8⟩ := grown_far hgr8 hb8 hblt hne 0; rw [hc] at hc8; rw [hf] at hf8; simp only [Act.put, List.setIfInBounds_toArray, List.set_cons_succ, List.set_cons_zero]) | fail)
  all_goals
    go_end0
    refine put_done (es' := es ++ [En.none]) HS.out (by rw [List.map_append]; rfl) (by simp; omega) hb8 g8 cap8 (by rw [flatE_append, flatE_one]; exact hown8) (by simp) hgr8 (hat8.imp id (fun h => Nat.le_of_eq h.symm)) rfl ?_ (Keeps.refl _ _)
    intro y hy
    rcases List.mem_append.1 hy with h | h
    · exact .inl h
    · simp at h
      subst h
      exact .inr ⟨.inl ⟨rfl, _, _, rfl⟩, (fun q o e => by cases e), by show 0 * 48 ≤ _; omega⟩

/-- what Clear leaves -/
def clearB (l : List Ab) : List Ab := l.take (baseN l - 1)

theorem put_nil {w w' : World} {b : Nat} (hs : Raw w b (.slice Option.none 0 0) []) (hW : Below w.heap.size w w') {e e0 : Ending} (he : e = e0) : MPost b (.slice Option.none 0 0) [] w e0 [] e (w'.setCell ⟨b, 0, Option.none⟩ (.slice Option.none 0 0)) := by
  obtain ⟨T, hT⟩ := hs.box
  have hblt := hs.lt b (.inl rfl)
  have hb1 : w'.heap[b]? = some (.cells #[.slice Option.none 0 0] T (0, 0)) := (hW.block b hblt).trans hT
  refine ⟨he, .slice Option.none 0 0, [], rfl, ⟨⟨T, setCell_heap hb1 _⟩, ⟨rfl, .inl ⟨rfl, rfl⟩⟩, hs.ne, Nat.zero_le _, fun x h => by simp at h, fun x h => by simp at h, fun x h => by simp at h⟩, (Keeps.of_below hW).setCell (p := ⟨b, 0, Option.none⟩) (.inl (.inl rfl)) _, (fun k h => .inl h), fun x h => by simp at h⟩

theorem own_take {w : World} {g cap : Nat} {es : List En} (h : w.ownsRow 0 37 4 (.slice (some ⟨g, 0, Option.none⟩) es.length cap) es.length (flatE es)) (k : Nat) (hk : k ≤ es.length) : w.ownsRow 0 37 4 (.slice (some ⟨g, 0, Option.none⟩) k cap) k (flatE (es.take k)) := by
  rcases h.2 with ⟨e, _⟩ | ⟨g', cap', cur, e, hb, hg, hc, hm, hs, ht⟩
  · cases e
  · cases e
    refine ⟨by rw [flatE_length, List.length_take, Nat.min_eq_left hk], .inr ⟨g, cap, cur, rfl, hb, hg, by omega, hm, hs, ?_⟩⟩
    rw [← flatE_take, ← ht, List.take_take, Nat.min_eq_left (by omega)]

set_option maxRecDepth 100000 in
set_option maxHeartbeats 2000000 in
theorem clear_any (b : Nat) (v : Value) (es : List En) (w : World) (hs : Raw w b v es) :
    Calls Try.prog 16 #[.pointer (some ⟨b, 0, Option.none⟩)] w (MPost b v es w (.returned (.tuple #[])) (clearB (es.map En.ab))) := by
  have hc := hs.cell
  have hf := hs.frozen
  have hblt := hs.lt b (.inl rfl)
  have HS := Lib.hid hs
  have hdr : Below w.heap.size w w.drew := (Below.refl _ _).drew
  have hba := base_any b v es w.drew (hs.below hdr)
  have hbl := baseN_le (es.map En.ab)
  rw [List.length_map] at hbl
  have hlen := hs.len
  unfold clearB
  generalize baseN (es.map En.ab) = B at *
  obtain ⟨k, hk⟩ : ∃ k : Nat, k = B - 1 := ⟨_, rfl⟩
  have hw1 : IntKind.i64.wrap ((B : Int) - 1) = (B : Int) - 1 := by rw [IntKind.wrap_i64]; omega
  have hmx : max ((B : Int) - 1) 0 = (k : Int) := by omega
  rw [← hk]
  have hkl : k ≤ es.length := by omega
  have HBA := Lib.hid hba
  have hown := hs.own
  rcases hs.form with ⟨rfl, rfl⟩ | ⟨g, cap, rfl, hg, hgb, h1, h2, _, _⟩
  · obtain rfl : B = 0 := by simpa using hbl
    obtain rfl : k = 0 := by omega
    clear hs hba hk
    go_enter Try.func16, Try.ntmps16
    go_wp2_with fail
    go_region_with (go_at_call 22; refine HBA.out.mono ?_; rintro e9 w9 ⟨rfl, hb9⟩; have hb9' := hdr.trans hb9; have hc9 := (hb9'.cell (p := ⟨b, 0, Option.none⟩) hblt).trans hc; have hf9 := (hb9'.frozen (p := ⟨b, 0, Option.none⟩) hblt).trans hf)
    all_goals
      go_end0
      exact put_nil HS.out hb9' rfl
  · have hel : k ≤ cap := by omega
    clear hs hba hk
    go_enter Try.func16, Try.ntmps16
    go_wp2_with fail
    go_region_with (go_at_call 22; refine HBA.out.mono ?_; rintro e9 w9 ⟨rfl, hb9⟩; have hb9' := hdr.trans hb9; have hc9 := (hb9'.cell (p := ⟨b, 0, Option.none⟩) hblt).trans hc; have hf9 := (hb9'.frozen (p := ⟨b, 0, Option.none⟩) hblt).trans hf)
    all_goals
      go_end0
      exact put_done (es' := es.take k) HS.out (by rw [List.map_take]) (by simp; omega) hb9' g cap (own_take (own_below hown hb9') k hkl) (by simp; omega) ⟨rfl, rfl, rfl, Nat.le_refl _, fun _ _ _ => rfl⟩ (.inl rfl) rfl (fun x hx => .inl (List.mem_of_mem_take hx)) (Keeps.refl _ _)
end Go.Proofs.Ytmhofhblgcjihaa
