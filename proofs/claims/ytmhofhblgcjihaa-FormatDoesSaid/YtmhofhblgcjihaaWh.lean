/- What Insert does, the program's and the reference's. -/
import Derived.Test.YtmhofhblgcjihaaWc
namespace Go.Proofs.Ytmhofhblgcjihaa
open Go Go.RowKit Go.Shelf

def insC (l : List Ab) (i : Int) : Int := if 0 ≤ i ∧ i ≤ l.length then 0 else 70
def insL (l : List Ab) (i : Int) (e : El) (ats : List At) : List Ab := if 0 ≤ i ∧ i ≤ l.length then l.take i.toNat ++ ⟨e, ats⟩ :: l.drop i.toNat else l

set_option maxRecDepth 100000 in
set_option maxHeartbeats 2000000 in
theorem insert_out (b : Nat) (v : Value) (es : List En) (i : Int) (e : El) (va : Value) (attrs : List At) (w : World) (hs : Raw w b v es) (ha : AtsAt w va attrs) (h : ¬ (0 ≤ i ∧ i ≤ es.length)) :
    Calls Try.prog 38 #[.pointer (some ⟨b, 0, Option.none⟩), .int .i64 i, .agg #[.int .i64 e.id, .string e.sp, .string e.nm], va] w (MPost b v es w (.returned (.int .i64 70)) (es.map En.ab)) := by
  have hc := hs.cell
  have hblt := hs.lt b (.inl rfl)
  have HS := Lib.hid hs
  obtain ⟨xa, xc, rfl⟩ := ha.form
  obtain ⟨ua, uc, rfl⟩ : ∃ a c, v = .slice a es.length c := by
    rcases hs.form with ⟨h, h2⟩ | ⟨g, cap, h1, _⟩
    · exact ⟨_, _, by rw [h2]; exact h⟩
    · exact ⟨_, _, h1⟩
  have hal : Below w.heap.size w (w.alloc (.cells #[.int .i64 e.id, .string e.sp, .string e.nm] 29)) := (Below.refl _ _).alloc (Nat.le_refl _) _
  have HAL := Lib.hid hal
  clear hs ha hal
  by_cases hi : i < 0
  · clear h
    go_enter Try.func38, Try.ntmps38
    go_wp2_with fail
    go_ret
    exact .same HS.out HAL.out
  · have hi3 : (es.length : Int) < i := by omega
    clear h
    go_enter Try.func38, Try.ntmps38
    go_wp2_with fail
    go_ret
    exact .same HS.out HAL.out

set_option maxRecDepth 100000 in
set_option maxHeartbeats 2000000 in
theorem insert_in (b : Nat) (v : Value) (es : List En) (i : Nat) (e : El) (va : Value) (attrs : List At) (w : World) (hs : Raw w b v es) (ha : AtsAt w va attrs) (hsm : attrs.length * 48 ≤ 140737488355328) (hlen : es.length < 900000) (hi : i ≤ es.length) :
    Calls Try.prog 38 #[.pointer (some ⟨b, 0, Option.none⟩), .int .i64 i, .agg #[.int .i64 e.id, .string e.sp, .string e.nm], va] w (MPost b v es w (.returned (.int .i64 0)) ((es.map En.ab).take i ++ ⟨e, attrs⟩ :: (es.map En.ab).drop i)) := by
  have hc := hs.cell
  have hf := hs.frozen
  have hblt := hs.lt b (.inl rfl)
  have hne := hs.ne
  have hal : Below w.heap.size w (w.alloc (.cells #[.int .i64 e.id, .string e.sp, .string e.nm] 29)) := (Below.refl _ _).alloc (Nat.le_refl _) _
  have hX := hs.below hal
  have haX := ha.below (Nat.le_refl _) hal
  have b0 : (w.alloc (.cells #[.int .i64 e.id, .string e.sp, .string e.nm] 29)).cell? ⟨w.heap.size, 0, Option.none⟩ = some (.int .i64 e.id) := by simp [go_sem]
  have b1 : (w.alloc (.cells #[.int .i64 e.id, .string e.sp, .string e.nm] 29)).cell? ⟨w.heap.size, 1, Option.none⟩ = some (.string e.sp) := by simp [go_sem]
  have b2 : (w.alloc (.cells #[.int .i64 e.id, .string e.sp, .string e.nm] 29)).cell? ⟨w.heap.size, 2, Option.none⟩ = some (.string e.nm) := by simp [go_sem]
  obtain ⟨xa, xc, rfl⟩ := ha.form
  obtain ⟨ua, uc, rfl⟩ : ∃ a c, v = .slice a es.length c := by
    rcases hs.form with ⟨h, h2⟩ | ⟨g, cap, h1, _⟩
    · exact ⟨_, _, by rw [h2]; exact h⟩
    · exact ⟨_, _, h1⟩
  have HS := Lib.hid hs
  have HAL := Lib.hid hal
  have hcX := hX.cell
  have hbX := hX.lt b (.inl rfl)
  have hfX := hX.frozen
  have hil : ((i : Nat) : Int) ≤ (es.length : Int) := by omega
  clear hs ha hal hc hf
  go_enter Try.func38, Try.ntmps38
  go_wp2_with fail
  generalize w.alloc (.cells #[.int .i64 e.id, .string e.sp, .string e.nm] 29) = X at *
  have hdr : Below X.heap.size X X.drew := (Below.refl _ _).drew
  have hkp := kept_any e (.slice xa attrs.length xc) attrs X.drew haX hsm
  have HKP := Lib.hid hkp
  have HX := Lib.hid hX
  clear hkp hX haX
  go_region_law (first
    | (go_simp; go_at_call 25; refine HKP.out.mono ?_; rintro e7 w7 ⟨ka, kc, rfl, hka, hkq, hkb⟩
       have hb7 : Below X.heap.size X w7 := hdr.trans hkb
       have cX7 := (hb7.cell (p := ⟨b, 0, Option.none⟩) hbX).trans hcX
       have fX7 := (hb7.frozen (p := ⟨b, 0, Option.none⟩) hbX).trans hfX
       have own8 := (own_below HX.out.own hb7).alloc (.cells #[.int .i64 e.id, .string e.sp, .string e.nm, .slice ka attrs.length kc] 37)
       have hb8 : Below X.heap.size X (w7.alloc (.cells #[.int .i64 e.id, .string e.sp, .string e.nm, .slice ka attrs.length kc] 37)) := hb7.alloc hb7.size _
       have hbz7 : b < w7.heap.size := Nat.lt_of_lt_of_le hbX hb7.size)
    | (go_simp; go_at_call 56; refine (insE_any _ es i w7.heap.size ⟨e, ka, kc, attrs⟩ _ own8 hi (by omega) (heap_alloc_new w7 _) (fun h => by have h1 := HX.out.lt _ (.inr h); have h2 := hb7.size; omega)).mono ?_; rintro e9 w9 ⟨g9, cap9, rfl, hown9, hgr9, hat9, hlt9⟩
       obtain ⟨hc9, hf9⟩ := grown_far hgr9 hb8 hbX hne 0
       rw [hcX] at hc9
       rw [hfX] at hf9))
  all_goals
    go_wp2
    go_ret
    have hb88 := HAL.out.trans (hb8.mono HAL.out.size)
    refine put_done (es' := es.take i ++ ⟨e, ka, kc, attrs⟩ :: es.drop i) HS.out (by rw [List.map_append, List.map_cons, List.map_take, List.map_drop]; rfl) (by simp; omega) hb88 g9 cap9 hown9 (by simp; omega) hgr9 hat9 rfl ?_ (Keeps.refl _ _)
    intro y hy
    rcases List.mem_append.1 hy with h | h
    · exact .inl (List.mem_of_mem_take h)
    · rcases List.mem_cons.1 h with h | h
      · subst h
        refine .inr ⟨hka.below (Nat.le_refl _) ((Below.refl _ _).alloc (Nat.le_refl _) _), fun q o e => ?_, hsm⟩
        have h1 := hkq q o e
        have h2 := HAL.out.size
        simp at h1 ⊢
        omega
      · exact .inl (List.mem_of_mem_drop h)
end Go.Proofs.Ytmhofhblgcjihaa
