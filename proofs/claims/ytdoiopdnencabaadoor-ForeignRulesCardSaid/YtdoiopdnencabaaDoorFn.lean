/- The reference's Attrs. -/
import Derived.Test.YtdoiopdnencabaaDoorFm
namespace Go.Proofs.YtdoiopdnencabaaDoor
open Go Go.RowKit

theorem blk_news {w : World} {B : Nat} {cs : List Value} {t : TypeId} {fr : Nat × Nat} (hb : w.heap[B]? = some (.cells cs.toArray t fr)) : ∀ j u, cs[j]? = some u → w.cell? ((⟨B, 0, none⟩ : Addr).add j) = some u :=
  World.news_of_block (cs := cs.toArray) hb

theorem own_ge {w : World} {base n size : Nat} {e : TypeId} {v : Value} {xs : List Value} (h : w.ownsRow base e size v n xs) {j : Nat} (hj : v.ownBlock = some j) : base ≤ j := by
  rcases h.2 with ⟨rfl, _⟩ | ⟨g, cap, cur, rfl, h1, _⟩
  · cases hj
  · cases hj; exact h1

set_option maxHeartbeats 4000000 in
theorem attrs_ref (sp : ByteArray) (v : Value) (l : List At) (w : World) (hv : AtsAt w v l) (hsm : l.length ≤ 1000000) (hn : ∀ x ∈ l, x.nm.size ≤ maxLen) :
    Calls Tryd.prog 10 #[.string sp, v] w fun e w' => ∃ v', e = .returned v' ∧ OwnP w' w.heap.size v' (l.map (attrA sp)) ∧ Below w.heap.size w w' := by
  have hone := fun x W hx => one_ref sp x W hx
  generalize attrA sp = f at *
  have HN := Lib.hid hn
  have HO := Lib.hid hone
  have HV := Lib.hid hv
  clear hn hone
  obtain ⟨va, vc, rfl⟩ := hv.form
  clear hv
  obtain ⟨i0, hi, hz0, hz1, hz2⟩ := info_parts infoAt
  have ht : Tryd.prog.underlying 22 = some (.slice 27) := Tryd.underlying22
  go_enter Tryd.func10, Tryd.ntmps10
  go_wp2_with fail
  go_loopw [5, 6] (fun o i wr => ∃ k : Nat, k ≤ l.length ∧ i = .int .i64 k ∧ wr.ownsRow w.heap.size 27 3 o k (flatA ((l.map f).take k)) ∧ Below w.heap.size w wr) (fun _ i _ => l.length - (intOf i).toNat)
  case atStart => exact ⟨0, by omega, rfl, by simpa [flatA] using World.ownsRow_nil w w.heap.size 27 3, Below.refl _ _⟩
  case round =>
    obtain ⟨k, hk, rfl, hown, hb⟩ := hrel
    by_cases hlt : k < l.length
    · obtain ⟨b', off, rfl, hblt, c0, c1, c2⟩ := ats_at (HV.out.below (Nat.le_refl _) hb) hlt
      have hx := HN.out l[k] (List.getElem_mem hlt)
      have hts : flatA ((l.map f).take (k + 1)) = flatA ((l.map f).take k) ++ [.string (f l[k]).sp, .string (f l[k]).nm, .string (f l[k]).va] := by
        rw [List.take_succ_eq_append_getElem (by simpa using hlt), flatA_append, List.getElem_map, flatA_one]
      have HT := Lib.hid hts
      have hcall := fun W => HO.out l[k] W hx
      have HC := Lib.hid hcall
      clear hts hcall
      generalize l[k] = x at *
      generalize f x = y at *
      rw [At.v] at HC
      go_wp2_with fail
      refine (HC.out _).mono ?_
      rintro e w2 ⟨rfl, hb2⟩
      have hbb := hb.trans (hb2.mono hb.size)
      have hown2 := (hown.kept (row := Option.none) ⟨hb2.os, hb2.tape, hb2.output, hb2.size, fun j hj _ => hb2.block j hj⟩ (by cases Value.ownBlock _ <;> simp)).alloc (.cells #[.string y.sp, .string y.nm, .string y.va] 27)
      rw [At.v]
      go_wp2_with (first | (at_builtin; refine wpList_append_lies _ rfl _ _ 22 rfl w.heap.size 27 i0 _ 3 48 ht hi hz0 hz1 hz2 rfl (by decide) _ k _ rfl hown2 ⟨w2.heap.size, 0, Option.none⟩ 1 1 [.string y.sp, .string y.nm, .string y.va] rfl rfl (blk_news (heap_alloc_new _ _)) (by simp [Value.oneCell']) (by decide) (by unfold maxLen; omega) (by omega) (Nat.le_trans hbb.size (by simp)) _ rfl ?_) | fail)
      intro g cap w3 hown3 hgr hat hg3
      rw [← HT.out] at hown3
      go_wp2
      go_roundw
      case rel => exact ⟨k + 1, by omega, by go_num, hown3, (hbb.alloc hbb.size _).grown hgr (Nat.le_trans hbb.size (by simp)) (fun j hj => own_ge hown hj)⟩
      case measure => simp [intOf] <;> omega
    · obtain rfl : k = l.length := by omega
      rw [show l.length = (l.map f).length from by simp, List.take_length] at hown
      go_wp2_with fail
      go_ret
      exact ⟨_, rfl, .of_row (by first | exact hown | (rw [List.length_map]; exact hown) | (simpa using hown)), hb⟩
end Go.Proofs.YtdoiopdnencabaaDoor
