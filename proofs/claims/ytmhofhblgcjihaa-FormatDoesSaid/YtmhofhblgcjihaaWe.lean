/- The reference's cut and Remove: a list that is made anew. -/
import Derived.Test.YtmhofhblgcjihaaWc
namespace Go.Proofs.Ytmhofhblgcjihaa
open Go Go.RowKit Go.Shelf

theorem own_base {w : World} {base n size : Nat} {t : TypeId} {v : Value} {xs : List Value} (h : w.ownsRow base t size v n xs) : w.ownsRow 0 t size v n xs := by
  refine ⟨h.1, ?_⟩
  rcases h.2 with hn | ⟨g, cap, cur, hv, _, rest⟩
  · exact .inl hn
  · exact .inr ⟨g, cap, cur, hv, Nat.zero_le _, rest⟩

theorem own_ge {w : World} {base n size : Nat} {t : TypeId} {v : Value} {xs : List Value} (h : w.ownsRow base t size v n xs) : ∀ k, v.ownBlock = some k → base ≤ k ∧ k < w.heap.size := by
  intro k hk
  rcases h.2 with ⟨hv, _⟩ | ⟨g, cap, cur, hv, hb, hg, _⟩
  · rw [hv] at hk; cases hk
  · rw [hv] at hk
    have e : g = k := by simpa [Value.ownBlock] using hk
    rw [← e]
    exact ⟨hb, (Array.getElem?_eq_some_iff.1 hg).1⟩

/-- behind the store of a row that was made anew -/
theorem rput {w W : World} {b n : Nat} {v u : Value} {es es' : List En} {l' : List Ab} {e e0 : Ending} (hs : Raw w b v es) (hl' : es'.map En.ab = l') (hlen : es'.length ≤ 1000000) (hW : Below w.heap.size w W)
    (hown : W.ownsRow w.heap.size 37 4 u n (flatE es')) (hn : n = es'.length) (he : e = e0)
    (hx : ∀ x ∈ es', x ∈ es ∨ (AtsAt W (.slice x.a x.ats.length x.c) x.ats ∧ (∀ q o, x.a = some ⟨q, o, Option.none⟩ → w.heap.size ≤ q ∧ u.ownBlock ≠ some q) ∧ x.ats.length * 48 ≤ 140737488355328)) :
    MPost b v es w e0 l' e (W.setCell ⟨b, 0, Option.none⟩ u) := by
  subst hn
  obtain ⟨T, hT⟩ := hs.box
  have hblt := hs.lt b (.inl rfl)
  have hb1 : W.heap[b]? = some (.cells #[v] T (0, 0)) := (hW.block b hblt).trans hT
  have hge := own_ge hown
  have hkb : Keeps (fun k => k = b) W (W.setCell ⟨b, 0, Option.none⟩ u) := (Keeps.refl (fun k => k = b) W).setCell (p := ⟨b, 0, Option.none⟩) (.inl rfl) u
  have hy : ∀ x ∈ es', AtsAt W (.slice x.a x.ats.length x.c) x.ats ∧ (0 < x.ats.length → ∀ q o, x.a = some ⟨q, o, Option.none⟩ → q ≠ b ∧ u.ownBlock ≠ some q) ∧ x.ats.length * 48 ≤ 140737488355328 := by
    intro x hxm
    rcases hx x hxm with h | ⟨h1, h2, h3⟩
    · refine ⟨(hs.ats x h).below (Nat.le_refl _) hW, fun hn q o e => ⟨?_, ?_⟩, hs.sm x h⟩
      · rintro rfl; exact hs.off x h hn _ o e (.inl rfl)
      · intro hq
        have h1 := (hge q hq).1
        have h2 := (hs.ats x h).blk hn q o x.ats.length x.c (by rw [e])
        omega
    · refine ⟨h1, fun hn q o e => ⟨?_, (h2 q o e).2⟩, h3⟩
      have := (h2 q o e).1
      omega
  refine ⟨he, u, es', hl', ⟨⟨T, setCell_heap hb1 u⟩, ?_, ?_, hlen, ?_, ?_, fun x hxm => (hy x hxm).2.2⟩, (Keeps.of_below hW).setCell (p := ⟨b, 0, Option.none⟩) (.inl (.inl rfl)) _, ?_, ?_⟩
  · exact own_keeps (own_base hown) hkb (fun k hk hkb2 => by have := (hge k hk).1; omega)
  · intro h; have := (hge b h).1; omega
  · intro x hxm
    obtain ⟨h1, h2, _⟩ := hy x hxm
    exact h1.keeps hkb (fun hn q o n c e => by injection e with e1; exact (h2 hn q o e1).1)
  · rintro x hxm hn q o e (rfl | hf)
    · exact ((hy x hxm).2.1 hn _ o e).1 rfl
    · exact ((hy x hxm).2.1 hn _ o e).2 hf
  · rintro k (rfl | hk)
    · exact .inl (.inl rfl)
    · exact .inr (hge k hk).1
  · intro x hxm
    rcases hx x hxm with h | ⟨_, h2, _⟩
    · exact .inl h
    · exact .inr fun q o e => (h2 q o e).1

theorem cut_step {α : Type} (l : List α) (at_ k : Nat) (hk : k < l.length) : (l.take (k + 1)).eraseIdx at_ = (l.take k).eraseIdx at_ ++ (if k = at_ then [] else [l[k]]) := by
  rw [List.take_succ_eq_append_getElem hk]
  have hl : (l.take k).length = k := by simp; omega
  rcases Nat.lt_trichotomy at_ k with h | h | h
  · rw [List.eraseIdx_append_of_lt_length (by omega), if_neg (by omega)]
  · subst h
    rw [List.eraseIdx_append_of_length_le (Nat.le_of_eq hl), if_pos rfl, hl, Nat.sub_self, List.append_nil, List.eraseIdx_of_length_le (l := l.take at_) (Nat.le_of_eq hl)]
    simp
  · rw [List.eraseIdx_of_length_le (by simp; omega), List.eraseIdx_of_length_le (by omega), if_neg (by omega)]

theorem cut_len {α : Type} (l : List α) (at_ k : Nat) : ((l.take k).eraseIdx at_).length ≤ k := by
  have := List.length_eraseIdx_le (l.take k) at_
  have h2 := List.length_take_le k l
  omega

set_option maxRecDepth 100000 in
set_option maxHeartbeats 2000000 in
theorem cut_any (b : Nat) (v : Value) (es : List En) (at_ : Nat) (w : World) (hs : Raw w b v es) :
    Calls Try.prog 54 #[.pointer (some ⟨b, 0, Option.none⟩), .int .i64 at_] w (MPost b v es w (.returned (.tuple #[])) ((es.map En.ab).eraseIdx at_)) := by
  obtain ⟨i0, hi, hz0, hz1, hz2⟩ := info_parts infoen
  have ht : Try.prog.underlying 25 = some (.slice 37) := Try.underlying25
  have hc := hs.cell
  have hf := hs.frozen
  have hblt := hs.lt b (.inl rfl)
  have hlen := hs.len
  obtain ⟨va, vc, rfl⟩ : ∃ a c, v = .slice a es.length c := by
    rcases hs.form with ⟨h, h2⟩ | ⟨g, cap, h1, _⟩
    · exact ⟨_, _, by rw [h2]; exact h⟩
    · exact ⟨_, _, h1⟩
  have HS := Lib.hid hs
  clear hs
  go_enter Try.func54, Try.ntmps54
  go_wp2_with fail
  go_loopw [4, 5] (fun u i wr => ∃ k : Nat, k ≤ es.length ∧ i = .int .i64 k ∧ wr.ownsRow w.heap.size 37 4 u ((es.take k).eraseIdx at_).length (flatE ((es.take k).eraseIdx at_)) ∧ Below w.heap.size w wr) (fun _ i _ => es.length - (intOf i).toNat)
  case atStart => exact ⟨0, by omega, rfl, by simp [flatE, World.ownsRow_nil], Below.refl _ _⟩
  case round =>
    obtain ⟨k, hk, rfl, hown, hb⟩ := hrel
    have hcb := (hb.cell (p := ⟨b, 0, Option.none⟩) hblt).trans hc
    have hfb := (hb.frozen (p := ⟨b, 0, Option.none⟩) hblt).trans hf
    have HO := Lib.hid hown
    have HB := Lib.hid hb
    have hsz := hb.size
    clear hown
    by_cases hkl : k < es.length
    · obtain ⟨g, rfl⟩ : ∃ g, va = some ⟨g, 0, Option.none⟩ := by
        rcases HS.out.form with ⟨h, h2⟩ | ⟨g, cap, h1, _⟩
        · rw [h2] at hkl; simp at hkl
        · injection h1 with e1; exact ⟨g, e1⟩
      have hcl : es.length ≤ vc := by
        rcases HS.out.form with ⟨h, h2⟩ | ⟨g, cap, h1, _, _, h3, _⟩
        · cases h
        · injection h1 with e1 e2 e3; omega
      obtain ⟨c0, c1, c2, c3⟩ := HS.out.at4 k hkl hb
      have hst := cut_step es at_ k hkl
      have hcu := cut_len es at_ k
      generalize es[k] = x at *
      have HST := Lib.hid hst
      have hw1 : IntKind.i64.wrap ((k : Int) + 1) = (k : Int) + 1 := by rw [IntKind.wrap_i64]; omega
      clear hst hb
      by_cases he : k = at_
      · have hd : ((k : Int) != (at_ : Int)) = false := by rw [he]; simp
        have HE := Lib.hid he
        clear he
        go_wp2_with fail
        go_roundw
        case rel =>
          refine ⟨k + 1, by omega, by go_num, ?_, HB.out⟩
          rw [HST.out, if_pos HE.out, List.append_nil]
          exact HO.out
        case measure => simp [intOf] <;> omega
      · have hd : ((k : Int) != (at_ : Int)) = true := by rw [bne_iff_ne]; omega
        have HE := Lib.hid he
        have hrow := HO.out.alloc (.cells #[.int .i64 x.el.id, .string x.el.sp, .string x.el.nm, .slice x.a x.ats.length x.c] 37)
        have hcs8 := en_news (vs := [.int .i64 x.el.id, .string x.el.sp, .string x.el.nm, .slice x.a x.ats.length x.c]) (heap_alloc_new wr (.cells #[.int .i64 x.el.id, .string x.el.sp, .string x.el.nm, .slice x.a x.ats.length x.c] 37))
        have HR := Lib.hid hrow
        have HC := Lib.hid hcs8
        clear he hrow hcs8
        go_wp2_with (first | (at_builtin; refine wpList_append_lies _ rfl _ _ 25 rfl w.heap.size 37 i0 _ 4 64 ht hi hz0 hz1 hz2 rfl (by decide) _ _ _ rfl HR.out ⟨wr.heap.size, 0, Option.none⟩ 1 1 [.int .i64 x.el.id, .string x.el.sp, .string x.el.nm, .slice x.a x.ats.length x.c] rfl rfl (by exact HC.out) (by simp [Value.oneCell']) (by decide) (by unfold maxLen; omega) (by omega) (by simp; omega) _ rfl ?_; intro g6 cap6 w6 hown6 hgr6 _ _) | fail)
        go_roundw
        case rel =>
          refine ⟨k + 1, by omega, by go_num, ?_, ?_⟩
          · rw [HST.out, if_neg HE.out, flatE_append, flatE_one, List.length_append]
            exact hown6
          · exact (HB.out.alloc (by omega) _).grown hgr6 (by simp; omega) (fun q e => (HR.out.lt q e).1)
        case measure => simp [intOf] <;> omega
    · obtain rfl : k = es.length := by omega
      obtain ⟨ua, un, uc, rfl⟩ : ∃ a n c, u4 = Value.slice a n c := by
        rcases HO.out.2 with ⟨h, _⟩ | ⟨g', cap', cur, h, _⟩
        · exact ⟨_, _, _, h⟩
        · exact ⟨_, _, _, h⟩
      go_wp2_with fail
      go_end0
      have ho := HO.out
      rw [List.take_length] at ho
      exact rput HS.out (by rw [List.eraseIdx_eq_take_drop_succ, List.eraseIdx_eq_take_drop_succ, List.map_append, List.map_take, List.map_drop]) (by have := List.length_eraseIdx_le es at_; omega) HB.out ho rfl rfl (fun x hx => .inl (List.mem_of_mem_eraseIdx hx))

set_option maxHeartbeats 1000000 in
theorem rremove_any (b : Nat) (v : Value) (es : List En) (id : Int) (w : World) (hs : Raw w b v es) :
    Calls Try.prog 35 #[.pointer (some ⟨b, 0, Option.none⟩), .int .i64 id] w (MPost b v es w (.returned (.int .i64 (remC (es.map En.ab) id))) (remL (es.map En.ab) id)) := by
  have hix := rindex_any b v es id w hs
  have HS := Lib.hid hs
  unfold remC remL
  rcases idxB_lt (es.map En.ab) id with h | ⟨i, h, hi⟩
  · rw [h] at hix
    rw [h]
    have HIX := Lib.hid hix
    clear hix hs h
    go_enter Try.func35, Try.ntmps35
    go_wp2_with fail
    refine HIX.out.mono ?_
    rintro e w2 ⟨rfl, hb2⟩
    have HB2 := Lib.hid hb2
    clear hb2
    go_wp2_with fail
    go_ret
    exact .same HS.out HB2.out
  · rw [h] at hix
    rw [h, if_neg (by omega), if_neg (by omega), Int.toNat_natCast]
    have HIX := Lib.hid hix
    clear hix hs h
    go_enter Try.func35, Try.ntmps35
    go_wp2_with fail
    refine HIX.out.mono ?_
    rintro e w2 ⟨rfl, hb2⟩
    have HB2 := Lib.hid hb2
    have hcu := cut_any b v es i w2 (HS.out.below hb2)
    have HCU := Lib.hid hcu
    clear hb2 hcu
    go_wp2_with fail
    refine HCU.out.mono ?_
    intro e w3 hm
    have h2 := MPost.then (es := es) (v := v) (Keeps.of_below HB2.out) (fun k h => .inl h) (fun x h => .inl h) hm
    obtain ⟨rfl, h3⟩ := h2
    have H3 := Lib.hid h3
    clear hm h3
    go_wp2_with fail
    go_ret
    exact ⟨rfl, H3.out⟩
end Go.Proofs.Ytmhofhblgcjihaa
