/- Joined texts: Ia Ib Ic Pl Id Ie Ha Hb Ja. Each begins with its own remark. -/
import Derived.Test.YtckaoeloofbklaaGreatDoorWb
import Derived.OwnWalk
import Derived.Deep.RegionWith
import Derived.LoopN
import Derived.Deep.Cut
import Derived.Laws.EntriesVeiled
import Derived.RangeFuncNested
import Derived.RangeFuncBound
import Derived.RangeFuncCalls
import Derived.RangeFuncLeaves
import Derived.Shelf.Abstract
import Derived.Shelf.RegionOpen
import Derived.WalkKit
import Derived.OwnWalkIn
import Derived.TacticsInMore
import Derived.LoopNIn
import Derived.LoopIn
import Derived.Test.YtckaoeloofbklaaGreatDoorWShelf
import Derived.Lib.TrimUEq
import Derived.Lib.TrimU
import Derived.Lib.BufferKept
import Derived.Shelf.Strings.SlTrimAscii
import Derived.Deep.RegionHeld
import Derived.Deep.QuietTactic
import Derived.BigQuiet
set_option maxRecDepth 100000
set_option maxHeartbeats 4000000
namespace Go.Proofs.YtckaoeloofbklaaGreatDoor
open Go Go.RowKit
def stV (k lo hi : Nat) : Value := .agg #[.int .i64 (k : Int), .int .u8 (lo : Int), .int .u8 (hi : Int)]
def FstPost (c : Nat) (w : World) (e : Ending) (w' : World) : Prop := Below w.heap.size w w' ∧ match u1 c with
 | some (k, lo, hi) => e = .returned (.tuple #[stV k lo hi, .bool true])
 | none => ∃ x y z : Int, e = .returned (.tuple #[.agg #[.int .i64 x, .int .u8 y, .int .u8 z], .bool false])
theorem first_const : ∀ c : Fin 256, (c.val = 224 ∨ c.val = 237 ∨ c.val = 240 ∨ c.val = 241 ∨ c.val = 242 ∨ c.val = 243 ∨ c.val = 244) → ∀ w : World, Calls Tryz.prog 63 #[.int .u8 (c.val : Int)] w (FstPost c.val w) := by
 rintro ⟨c, hc⟩ h w
 simp only at h
 rcases h with rfl | rfl | rfl | rfl | rfl | rfl | rfl
 all_goals
  unfold FstPost
  first | rw [show u1 224 = some (2, 160, 191) from by decide] | rw [show u1 237 = some (2, 128, 159) from by decide] | rw [show u1 240 = some (3, 144, 191) from by decide] | rw [show u1 244 = some (3, 128, 143) from by decide] | rw [show u1 241 = some (3, 128, 191) from by decide] | rw [show u1 242 = some (3, 128, 191) from by decide] | rw [show u1 243 = some (3, 128, 191) from by decide]
  go_enter Tryz.func63, Tryz.ntmps63
  go_wp2_with fail
  refine bodyPost_ret (v := .tuple #[_, .bool true]) (by simp [results, Tryz.results63, go_sem]; rfl) rfl ?_
  exact ⟨by repeat' (first | exact Below.refl _ _ | refine Below.setCell ?_ (by simp) _ | refine Below.alloc ?_ (by simp) _), rfl⟩
theorem first_any (c : Nat) (hc : c < 256) (w : World) : Calls Tryz.prog 63 #[.int .u8 (c : Int)] w (FstPost c w) := by
 by_cases h0 : c = 224 ∨ c = 237 ∨ c = 240 ∨ c = 241 ∨ c = 242 ∨ c = 243 ∨ c = 244
 ·exact first_const ⟨c, hc⟩ h0 w
 by_cases h1 : c < 128
 ·have hu : u1 c = some (0, 128, 191) := by unfold u1; rw [if_pos h1]
  unfold FstPost
  rw [hu]
  clear hu h0
  go_enter Tryz.func63, Tryz.ntmps63
  go_wp2_with fail
  refine bodyPost_ret (v := .tuple #[_, .bool true]) (by simp [results, Tryz.results63, go_sem]; rfl) rfl ?_
  exact ⟨by repeat' (first | exact Below.refl _ _ | refine Below.setCell ?_ (by simp) _ | refine Below.alloc ?_ (by simp) _), rfl⟩
 by_cases h2 : 194 ≤ c ∧ c ≤ 223
 ·have hu : u1 c = some (1, 128, 191) := by unfold u1; rw [if_neg h1, if_pos h2]
  unfold FstPost
  rw [hu]
  obtain ⟨h2, h3⟩ := h2
  clear hu h0
  go_enter Tryz.func63, Tryz.ntmps63
  go_wp2_with fail
  refine bodyPost_ret (v := .tuple #[_, .bool true]) (by simp [results, Tryz.results63, go_sem]; rfl) rfl ?_
  exact ⟨by repeat' (first | exact Below.refl _ _ | refine Below.setCell ?_ (by simp) _ | refine Below.alloc ?_ (by simp) _), rfl⟩
 by_cases h3 : c < 194
 ·have hu : u1 c = none := by unfold u1; rw [if_neg h1, if_neg h2, if_pos (.inl (by omega))]
  unfold FstPost
  rw [hu]
  clear hu h0
  go_enter Tryz.func63, Tryz.ntmps63
  go_wp2_with fail
  refine bodyPost_ret (v := .tuple #[_, .bool false]) (by simp [results, Tryz.results63, go_sem]; rfl) rfl ?_
  exact ⟨by repeat' (first | exact Below.refl _ _ | refine Below.setCell ?_ (by simp) _ | refine Below.alloc ?_ (by simp) _), _, _, _, rfl⟩
 by_cases h4 : 244 < c
 ·have hu : u1 c = none := by unfold u1; rw [if_neg h1, if_neg h2, if_pos (.inr h4)]
  unfold FstPost
  rw [hu]
  clear hu h0
  go_enter Tryz.func63, Tryz.ntmps63
  go_wp2_with fail
  refine bodyPost_ret (v := .tuple #[_, .bool false]) (by simp [results, Tryz.results63, go_sem]; rfl) rfl ?_
  exact ⟨by repeat' (first | exact Below.refl _ _ | refine Below.setCell ?_ (by simp) _ | refine Below.alloc ?_ (by simp) _), _, _, _, rfl⟩
 ·have hu : u1 c = some (2, 128, 191) := by
   unfold u1
   rw [if_neg h1, if_neg h2, if_neg (by omega), if_neg (by omega), if_neg (by omega), if_neg (by omega), if_neg (by omega), if_pos (by omega)]
  unfold FstPost
  rw [hu]
  have d0 : c ≠ 224 := by omega
  have d1 : c ≠ 237 := by omega
  have d2 : c ≠ 240 := by omega
  have d3 : c ≠ 241 := by omega
  have d4 : c ≠ 242 := by omega
  have d5 : c ≠ 243 := by omega
  have d6 : c ≠ 244 := by omega
  have g2 : 223 < c := by omega
  clear hu h0 h2 h3
  go_enter Tryz.func63, Tryz.ntmps63
  go_wp2_with fail
  refine bodyPost_ret (v := .tuple #[_, .bool true]) (by simp [results, Tryz.results63, go_sem]; rfl) rfl ?_
  exact ⟨by repeat' (first | exact Below.refl _ _ | refine Below.setCell ?_ (by simp) _ | refine Below.alloc ?_ (by simp) _), rfl⟩
theorem more_yes (k lo hi d : Nat) (w : World) (hk : k < 10) (_hlo : lo < 256) (_hhi : hi < 256) (_hd : d < 256) (h : lo ≤ d ∧ d ≤ hi) :
  Calls Tryz.prog 64 #[stV (k + 1) lo hi, .int .u8 (d : Int)] w fun e w' => e = .returned (.tuple #[stV k 128 191, .bool true]) ∧ Below w.heap.size w w' := by
 obtain ⟨h1, h2⟩ := h
 unfold stV
 go_enter Tryz.func64, Tryz.ntmps64
 go_wp2_with fail
 refine bodyPost_ret (v := .tuple #[_, .bool true]) (by simp [results, Tryz.results64, go_sem]; rfl) rfl ?_
 refine ⟨?_, by repeat' (first | exact Below.refl _ _ | refine Below.setCell ?_ (by simp) _ | refine Below.alloc ?_ (by simp) _)⟩
 simp
theorem more_no (k lo hi d : Nat) (w : World) (_hlo : lo < 256) (_hhi : hi < 256) (_hd : d < 256) (h : ¬ (lo ≤ d ∧ d ≤ hi)) :
  Calls Tryz.prog 64 #[stV k lo hi, .int .u8 (d : Int)] w fun e w' => (∃ x y z : Int, e = .returned (.tuple #[.agg #[.int .i64 x, .int .u8 y, .int .u8 z], .bool false])) ∧ Below w.heap.size w w' := by
 unfold stV
 by_cases h1 : lo ≤ d
 ·have h2 : hi < d := by omega
  clear h
  go_enter Tryz.func64, Tryz.ntmps64
  go_wp2_with fail
  refine bodyPost_ret (v := .tuple #[_, .bool false]) (by simp [results, Tryz.results64, go_sem]; rfl) rfl ?_
  exact ⟨⟨_, _, _, rfl⟩, by repeat' (first | exact Below.refl _ _ | refine Below.setCell ?_ (by simp) _ | refine Below.alloc ?_ (by simp) _)⟩
 ·have h2 : d < lo := by omega
  clear h h1
  go_enter Tryz.func64, Tryz.ntmps64
  go_wp2_with fail
  refine bodyPost_ret (v := .tuple #[_, .bool false]) (by simp [results, Tryz.results64, go_sem]; rfl) rfl ?_
  exact ⟨⟨_, _, _, rfl⟩, by repeat' (first | exact Below.refl _ _ | refine Below.setCell ?_ (by simp) _ | refine Below.alloc ?_ (by simp) _)⟩
end Go.Proofs.YtckaoeloofbklaaGreatDoor
namespace Go.Proofs.YtckaoeloofbklaaGreatDoor
open Go Go.RowKit
theorem go_le : ∀ (l : List UInt8) (k lo hi n : Nat), n ≤ (goN l k lo hi n).1 ∧ (goN l k lo hi n).1 ≤ n + l.length
 | _, 0, _, _, n => by simp [goN]
 | [], _ + 1, _, _, n => by simp [goN]
 | d :: l, k + 1, lo, hi, n => by
  rw [goN]
  split
  ·have := go_le l k 128 191 (n + 1); simp; omega
  ·simp
theorem u1_lt (c k lo hi : Nat) (h : u1 c = some (k, lo, hi)) : k < 10 ∧ lo < 256 ∧ hi < 256 := by
 unfold u1 at h
 repeat' split at h
 all_goals (first | (cases h; done) | (simp only [Option.some.injEq, Prod.mk.injEq] at h; omega))
theorem setCellJ {w : World} {g j : Nat} {cur : Array Value} {t : TypeId} {fr : Nat × Nat} (h : w.heap[g]? = some (.cells cur t fr)) (u : Value) : (w.setCell ⟨g, j, none⟩ u).heap[g]? = some (.cells (cur.setIfInBounds j u) t fr) := by
 simp only [World.setCell, Array.getElem?_modify, if_true, h, Option.map_some]
 rfl
theorem heapJ_old (w : World) (o : Obj) (i : Nat) (h : i < w.heap.size) : (w.alloc o).heap[i]? = w.heap[i]? := Below.heap_alloc w o i h
theorem froz_agg {w : World} {b : Nat} {c : Array Value} {T : TypeId} (h : w.heap[b]? = some (.cells c T (0, 0))) (i : Nat) : w.frozen? ⟨b, i, none⟩ = false := by
 simp [World.frozen?, h]
theorem cell_agg3 {w : World} {b : Nat} {x y z : Value} {T : TypeId} {f : Nat × Nat} (h : w.heap[b]? = some (.cells #[x, y, z] T f)) :
  w.cell? ⟨b, 0, none⟩ = some x ∧ w.cell? ⟨b, 1, none⟩ = some y ∧ w.cell? ⟨b, 2, none⟩ = some z := by
 refine ⟨?_, ?_, ?_⟩ <;> simp [World.cell?, h]
theorem piece_any (b : ByteArray) (w : World) (h1 : 1 ≤ b.size) (hb : b.size ≤ maxLen) :
  Calls Tryz.prog 41 #[.string b] w fun e w' => e = .returned (.tuple #[.int .i64 ((pieceN b.data.toList).1 : Nat), .bool (pieceN b.data.toList).2]) ∧ Below w.heap.size w w' := by
 have hl : b.data.toList.length = b.size := by simp
 unfold maxLen at hb
 obtain ⟨c, t, hct⟩ : ∃ c t, b.data.toList = c :: t := by
  cases h : b.data.toList with
  | nil => rw [h] at hl; simp at hl; omega
  | cons c t => exact ⟨c, t, rfl⟩
 have h0 : (b[0]'(by omega)) = c := by
  have : b.data.toList[0]'(by omega) = c := by simp [hct]
  exact this
 have HF := Lib.hid (first_any c.toNat c.toNat_lt w)
 unfold FstPost at HF
 rw [hct, pieceN]
 rw [hct] at hl
 have hx : ∀ j (hj : j < b.size), b[j] = (c :: t)[j]'(by omega) := fun j hj => by
  have : b[j] = b.data.toList[j]'(by simp; exact hj) := rfl
  rw [this]; simp [hct]
 have HX := Lib.hid hx
 clear hx
 cases hu : u1 c.toNat with
 | none =>
  rw [hu] at HF
  simp only at HF
  go_enter Tryz.func41, Tryz.ntmps41
  go_wp2_with fail
  refine HF.out.mono ?_
  rintro e w1 ⟨hb1, x, y, z, rfl⟩
  have HB := Lib.hid hb1
  have hb1s := hb1.size
  clear hb1
  go_wp2_with fail
  refine bodyPost_ret (v := .tuple #[.int .i64 1, .bool false]) (by simp [results, Tryz.results41, go_sem]) rfl ?_
  exact ⟨rfl, HB.out.alloc hb1s _⟩
 | some q =>
  obtain ⟨k, lo, hi⟩ := q
  rw [hu] at HF
  simp only at HF ⊢
  obtain ⟨hk, hlo, hhi⟩ := u1_lt _ _ _ _ hu
  have hgo := go_le t k lo hi 1
  obtain ⟨N, hN⟩ : ∃ N, N = (goN t k lo hi 1).1 := ⟨_, rfl⟩
  obtain ⟨OK, hOK⟩ : ∃ N, N = (goN t k lo hi 1).2 := ⟨_, rfl⟩
  rw [← hN, ← hOK]
  rw [← hN] at hgo
  have HG := Lib.hid (show goN t k lo hi 1 = (N, OK) by rw [hN, hOK])
  clear hN hOK hu
  unfold stV at HF
  go_enter Tryz.func41, Tryz.ntmps41
  go_wp2_with fail
  refine HF.out.mono ?_
  rintro e w1 ⟨hb1, rfl⟩
  have HB := Lib.hid hb1
  have hb1s := hb1.size
  clear hb1
  go_wp2_with fail
  have hps : w1.heap.size < (w1.alloc (.cells #[.int .i64 k, .int .u8 lo, .int .u8 hi] 95)).heap.size := by simp
  have hp0 := heap_alloc_new w1 (.cells #[.int .i64 k, .int .u8 lo, .int .u8 hi] 95)
  have HB2 := Lib.hid (HB.out.alloc hb1s (.cells #[.int .i64 k, .int .u8 lo, .int .u8 hi] 95))
  generalize w1.alloc (.cells #[.int .i64 k, .int .u8 lo, .int .u8 hi] 95) = wA at *
  have HP0 := Lib.hid hp0
  clear hp0
  obtain ⟨p, hp⟩ : ∃ p, p = w1.heap.size := ⟨_, rfl⟩
  rw [← hp] at hps HP0 hb1s
  have HN := Lib.hid hgo
  have HPW := Lib.hid hb1s
  clear hgo
  rw [← hp]
  clear hp HB
  go_loopw [5, 6] (fun s5 n wr => ∃ (m k' lo' hi' : Nat), n = .int .i64 m ∧ s5 = .bool true ∧ 1 ≤ m ∧ m ≤ b.size ∧ k' < 10 ∧ lo' < 256 ∧ hi' < 256 ∧ goN (t.drop (m - 1)) k' lo' hi' m = (N, OK) ∧ wr.heap[p]? = some (.cells #[.int .i64 k', .int .u8 lo', .int .u8 hi'] 95 (0, 0)) ∧ Below w.heap.size w wr) (fun _ n _ => (b.size - intOf n).toNat)
  case atStart => exact ⟨1, k, lo, hi, rfl, rfl, by omega, h1, hk, hlo, hhi, HG.out, HP0.out, HB2.out⟩
  case round =>
   obtain ⟨m, k', lo', hi', rfl, rfl, hm1, hm2, hk', hlo', hhi', hgo', hcell, hbw⟩ := hrel
   obtain ⟨c0, c1, c2⟩ := cell_agg3 hcell
   cases k' with
   | zero =>
    rw [goN] at hgo'
    obtain ⟨rfl, rfl⟩ := Prod.mk.injEq .. ▸ hgo'
    go_wp2_with fail
    go_ret2
    exact ⟨rfl, hbw⟩
   | succ k' =>
    cases ht : t.drop (m - 1) with
    | nil =>
     rw [ht, goN] at hgo'
     obtain ⟨rfl, rfl⟩ := Prod.mk.injEq .. ▸ hgo'
     have hmb : b.size ≤ m := by
      have := congrArg List.length ht
      rw [List.length_drop] at this
      simp at this hl
      omega
     obtain rfl : m = b.size := by omega
     go_wp2_with fail
     go_ret2
     exact ⟨rfl, hbw⟩
    | cons d l =>
     rw [ht, goN] at hgo'
     have hlt : m < b.size := by
      have := congrArg List.length ht
      rw [List.length_drop] at this
      simp at this hl
      omega
     have hd : b[m] = d := by
      have h5 := HX.out m hlt
      rw [h5]
      have h6 : (t.drop (m - 1))[0]? = some d := by rw [ht]; rfl
      rw [List.getElem?_drop] at h6
      obtain ⟨j, rfl⟩ : ∃ j, m = j + 1 := ⟨m - 1, by omega⟩
      have h7 : t[j]? = some d := by simpa using h6
      rw [List.getElem?_eq_some_iff] at h7
      obtain ⟨_, h7⟩ := h7
      simpa using h7
     have hne : (m : Int) ≠ (b.size : Int) := by omega
     by_cases hin : lo' ≤ d.toNat ∧ d.toNat ≤ hi'
     ·rw [if_pos hin] at hgo'
      have HM := Lib.hid (more_yes k' lo' hi' d.toNat)
      unfold stV at HM
      have hplt : p < wr.heap.size := (Array.getElem?_eq_some_iff.1 hcell).1
      have HLT := Lib.hid hplt
      clear hplt
      go_upto_region 9 with fail
      go_region_with (first | (refine (HM.out _ (by omega) hlo' hhi' d.toNat_lt hin).mono ?_; rintro e w5 ⟨rfl, hb5⟩; have hc5 := (hb5.block p (by have := HLT.out; simpa using this)).trans hcell; obtain ⟨e0, e1, e2⟩ := cell_agg3 hc5; have f0 := froz_agg hc5 0; have f1 := froz_agg hc5 1; have f2 := froz_agg hc5 2) | fail)
      all_goals
       go_wp2_with fail
       go_roundw
       case rel =>
        refine ⟨m + 1, k', 128, 191, by go_num, rfl, by omega, by omega, by omega, by omega, by omega, ?_, ?_, ?_⟩
        ·have h9 : t.drop (m + 1 - 1) = l := by
          have := congrArg (List.drop 1) ht
          rw [List.drop_drop] at this
          rw [show m + 1 - 1 = m - 1 + 1 by omega]
          simpa using this
         rw [h9]; exact hgo'
        ·have h8 := setCellJ (j := 2) (setCellJ (j := 1) (setCellJ (j := 0) hc5 (.int .i64 (k' : Int))) (.int .u8 128)) (.int .u8 191)
         simpa using h8
        ·have hw5 : Below w.heap.size w w5 := (bDrewN hbw 1).trans (hb5.mono hbw.size)
         exact ((hw5.setCell (p := ⟨p, 0, none⟩) HPW.out _).setCell (p := ⟨p, 1, none⟩) HPW.out _).setCell (p := ⟨p, 2, none⟩) HPW.out _
       case measure => simp [intOf] <;> omega
     ·rw [if_neg hin] at hgo'
      obtain ⟨rfl, rfl⟩ := Prod.mk.injEq .. ▸ hgo'
      have HM := Lib.hid (more_no (k' + 1) lo' hi' d.toNat)
      unfold stV at HM
      have hplt : p < wr.heap.size := (Array.getElem?_eq_some_iff.1 hcell).1
      have HLT := Lib.hid hplt
      clear hplt
      go_upto_region 9 with fail
      go_region_with (first | (refine (HM.out _ hlo' hhi' d.toNat_lt hin).mono ?_; rintro e w5 ⟨⟨x, y, z, rfl⟩, hb5⟩; have hc5 := (hb5.block p (by have := HLT.out; simpa using this)).trans hcell; obtain ⟨e0, e1, e2⟩ := cell_agg3 hc5; have f0 := froz_agg hc5 0; have f1 := froz_agg hc5 1; have f2 := froz_agg hc5 2) | fail)
      all_goals
       go_wp2_with fail
       go_ret2
       have hw5 : Below w.heap.size w w5 := (bDrewN hbw 1).trans (hb5.mono hbw.size)
       exact ⟨rfl, ((hw5.setCell (p := ⟨p, 0, none⟩) HPW.out _).setCell (p := ⟨p, 1, none⟩) HPW.out _).setCell (p := ⟨p, 2, none⟩) HPW.out _⟩
end Go.Proofs.YtckaoeloofbklaaGreatDoor
namespace Go.Proofs.YtckaoeloofbklaaGreatDoor
open Go Go.RowKit Go.Shelf
attribute [local go_sem] Oper.semAt_some
def ptsOF : Nat → Nat → List UInt8 → List (Nat × Nat)
 | 0, _, _ => []
 | _ + 1, _, [] => []
 | g + 1, o, c :: t => (o, if (pieceN (c :: t)).2 then (Go.Lib.decodeL (c :: t)).1 else 65533) :: ptsOF g (o + (pieceN (c :: t)).1) ((c :: t).drop (pieceN (c :: t)).1)
def ptsO (o : Nat) (l : List UInt8) : List (Nat × Nat) := ptsOF l.length o l
theorem ptsO_fuel : ∀ (g h o : Nat) (l : List UInt8), l.length ≤ g → l.length ≤ h → ptsOF g o l = ptsOF h o l
 | 0, 0, _, _, _, _ => rfl
 | 0, h + 1, o, l, h1, _ => by
  have : l = [] := List.eq_nil_of_length_eq_zero (by omega)
  subst this; rfl
 | g + 1, 0, o, l, _, h2 => by
  have : l = [] := List.eq_nil_of_length_eq_zero (by omega)
  subst this; rfl
 | g + 1, h + 1, _, [], _, _ => rfl
 | g + 1, h + 1, o, c :: t, h1, h2 => by
  have := piece_len c t
  rw [ptsOF, ptsOF, ptsO_fuel g h _ _ (by rw [List.length_drop]; simp at h1 ⊢; omega) (by rw [List.length_drop]; simp at h2 ⊢; omega)]
theorem ptsO_nil (o : Nat) : ptsO o [] = [] := rfl
theorem ptsO_cons (o : Nat) (c : UInt8) (t : List UInt8) : ptsO o (c :: t) = (o, if (pieceN (c :: t)).2 then (Go.Lib.decodeL (c :: t)).1 else 65533) :: ptsO (o + (pieceN (c :: t)).1) ((c :: t).drop (pieceN (c :: t)).1) := by
 have := piece_len c t
 unfold ptsO
 rw [List.length_cons, ptsOF]
 congr 1
 exact ptsO_fuel _ _ _ _ (by rw [List.length_drop]; simp; omega) (Nat.le_refl _)
theorem ptsO_snd : ∀ (n o : Nat) (l : List UInt8), l.length ≤ n → (ptsO o l).map (·.2) = pts l
 | _, _, [], _ => rfl
 | 0, _, c :: t, h => by simp at h
 | n + 1, o, c :: t, h => by
  have := piece_len c t
  rw [ptsO_cons, pts_cons, List.map_cons, ptsO_snd n _ _ (by rw [List.length_drop]; simp at h ⊢; omega)]
theorem ptsO_pts (o : Nat) (l : List UInt8) : (ptsO o l).map (·.2) = pts l := ptsO_snd _ o l (Nat.le_refl _)
theorem ptsO_len (o : Nat) (l : List UInt8) : (ptsO o l).length = (pts l).length := by rw [← ptsO_pts o l, List.length_map]
def encP (x : Nat × Nat) : Array Value := #[.int .i64 (x.1 : Int), .int .i32 ((min x.2 1114111 : Nat) : Int)]
def KpP (Bs : Nat) (W W' : World) : Prop := Below 17 W W' ∧ W'.heap[Bs]? = W.heap[Bs]?
theorem KpP.t {Bs : Nat} {A B C : World} (h : KpP Bs A B) (k : KpP Bs B C) : KpP Bs A C := ⟨h.1.trans k.1, k.2.trans h.2⟩
theorem KpP.b {Bs : Nat} {w : World} (h17 : 17 ≤ w.heap.size) (hB : Bs < w.heap.size) (W : World) (l : Nat) (o o' : Obj) (hl : w.heap.size ≤ l) (h : W.heap[l]? = some o) (h1 : o.isCells = false) (h2 : o.isWalk = false) : KpP Bs W (W.putObj l o') := by
 refine ⟨belowK_b h17 W l o o' hl h h1 h2, ?_⟩
 exact World.putObj_heap_other (by omega)
theorem KpP.refl (Bs : Nat) (W : World) : KpP Bs W W := ⟨Below.refl _ _, rfl⟩
theorem KpP.of {Bs : Nat} {W W' : World} (h : Below W.heap.size W W') (h17 : 17 ≤ W.heap.size) (hB : Bs < W.heap.size) : KpP Bs W W' := ⟨h.mono h17, h.block _ hB⟩
theorem utabs_kept {w w' : World} (h : Lib.Utf8Tabs 0 1 w) (hb : Below 17 w w') : Lib.Utf8Tabs 0 1 w' :=
 ⟨fun c hc => (hb.cell (p := ⟨0, c, Option.none⟩) (by show 0 < 17; decide)).trans (h.1 c hc), fun i hi => ⟨(hb.cell (p := ⟨1, 2 * i, Option.none⟩) (by show 1 < 17; decide)).trans (h.2 i hi).1, (hb.cell (p := ⟨1, 2 * i + 1, Option.none⟩) (by show 1 < 17; decide)).trans (h.2 i hi).2⟩⟩
theorem below_grown {W W' : World} (h : Below W.heap.size W W') : W.grownBy W' Option.none := ⟨h.os, h.tape, h.output, h.size, fun j hj _ => h.block j hj⟩
theorem dec_go (d : ByteArray) (h : d.size ≠ 0) : Lib.decodeGo d = Go.Lib.decodeL d.data.toList := by
 unfold Lib.decodeGo
 rw [if_neg h, ← Lib.decodeL_drop, List.drop_zero]
theorem ext_drop (b : ByteArray) (k : Nat) : (b.extract k b.size).data.toList = b.data.toList.drop k := by
 simp [List.extract_eq_take_drop, ← ByteArray.size_data]
 exact List.take_of_length_le (by simp)
theorem ext_size (b : ByteArray) (k : Nat) : (b.extract k b.size).size = b.size - k := by
 rw [ByteArray.size_extract]; omega
theorem points1_in (n : Nat) (hn : 1 ≤ n) (l Bs : Nat) (b : ByteArray) (hbig : b.size ≤ 140737488355328) (J Jx : List (Nat × Nat) → World → Prop)
  (hY : ∀ pre x W, J pre W → pre.length < (ptsO 0 b.data.toList).length → YieldAt Fence.wide (n - 1) Tryz.prog l (encP x) W fun e W' =>
   (e = .returned (.bool true) ∧ J (pre ++ [x]) W' ∧ KpP Bs W W') ∨ (e = .returned (.bool false) ∧ Jx (pre ++ [x]) W'))
  (W : World) (hA : AbidesFrom W.heap.size J) (h17 : 17 ≤ W.heap.size) (hT : Lib.Utf8Tabs 0 1 W) (hBl : Bs < W.heap.size) (hBs : W.cell? ⟨Bs, 0, Option.none⟩ = some (.string b)) (h0 : J [] W) :
  CallsIn Fence.wide n Tryz.prog 40 #[.func (.yield l) #[] #[], .pointer (some ⟨Bs, 0, Option.none⟩)] W fun e W' => (∃ v, e = .returned v) ∧
   ((∃ ys, ys = ptsO 0 b.data.toList ∧ J ys W') ∨ (∃ pre, (∃ r, pre ++ r = ptsO 0 b.data.toList) ∧ Jx pre W')) := by
 refine callsIn_of_wp Tryz.func40 rfl trivial ?_ rfl
 simp only [Tryz.ntmps40, List.size_toArray, List.length_cons, List.length_nil, Nat.reduceAdd, Nat.reduceSub, Array.replicate_succ, Array.replicate_zero, List.push_toArray, List.append_toArray, List.nil_append, List.cons_append]
 have hlen : b.data.toList.length = b.size := by simp
 gi_wp2
 gi_loopw [3, 4, 5, 6] (fun i _ _ _ wr => ∃ (k : Nat) (pre : List (Nat × Nat)), k ≤ b.size ∧ i = .int .i64 (k : Int) ∧ J pre wr ∧ KpP Bs W wr ∧ W.heap.size ≤ wr.heap.size ∧ pre ++ ptsO k (b.data.toList.drop k) = ptsO 0 b.data.toList)
  (fun i _ _ _ _ => (b.size - intOf i).toNat)
 case atStart => exact ⟨0, [], Nat.zero_le _, rfl, h0, KpP.refl _ _, Nat.le_refl _, by simp⟩
 case round =>
  obtain ⟨k, pre, hk, rfl, hJ, hK, hsz, hpre⟩ := hrel
  have hB2 := (World.cell?_of_block hK.2).trans hBs
  by_cases hlt : k < b.size
  ·have hsl : ∀ W, (Instr.slice 9 (.string b) (some (.int .i64 k)) Option.none Option.none).run Tryz.prog W = .ok (.string (b.extract k b.size)) W := fun W => run_slice_string_l W _ b Tryz.underlying9 .i64 k (by omega) (by omega)
   have hes := ext_size b k
   obtain ⟨c, t, hct⟩ : ∃ c t, b.data.toList.drop k = c :: t := by
    cases h : b.data.toList.drop k with
    | nil => have := congrArg List.length h; rw [List.length_drop, hlen] at this; simp at this; omega
    | cons c t => exact ⟨c, t, rfl⟩
   have htl : t.length + 1 + k = b.size := by
    have := congrArg List.length hct
    rw [List.length_drop, hlen] at this; simp at this; omega
   have hP : ∀ W, CallsIn Fence.wide (n - 1) Tryz.prog 41 #[.string (b.extract k b.size)] W fun e w' => e = .returned (.tuple #[.int .i64 ((pieceN (c :: t)).1 : Nat), .bool (pieceN (c :: t)).2]) ∧ Below W.heap.size W w' := fun W => by
    have := piece_any (b.extract k b.size) W (by omega) (by unfold maxLen; omega)
    rw [ext_drop, hct] at this
    exact (callsIn_wide (n := n - 1)).2 this
   have hD : ∀ W, Lib.Utf8Tabs 0 1 W → CallsIn Fence.wide (n - 1) Tryz.prog 42 #[.string (b.extract k b.size)] W fun e w' => e = .returned (.tuple #[.int .i32 ((Lib.decodeL (c :: t)).1 : Nat), .int .i64 ((Lib.decodeL (c :: t)).2 : Nat)]) ∧ Below W.heap.size W w' := fun W hW => by
    have := Tryz.utf8_DecodeRuneInString (b.extract k b.size) W hW
    rw [dec_go _ (by omega), ext_drop, hct] at this
    exact (callsIn_wide (n := n - 1)).2 this
   have hcons := ptsO_cons k c t
   have hpl := piece_len c t
   have hdd : (c :: t).drop (pieceN (c :: t)).1 = b.data.toList.drop (k + (pieceN (c :: t)).1) := by rw [← hct, List.drop_drop]
   rw [hdd] at hcons
   rw [hct, hcons] at hpre
   have hmore : pre.length < (ptsO 0 b.data.toList).length := by rw [← hpre]; simp
   have HD := Lib.hid hD
   have HP := Lib.hid hP
   have HPRE := Lib.hid hpre
   have HPL := Lib.hid hpl
   have HY := Lib.hid hY
   have HK := Lib.hid hK
   have HSZ := Lib.hid hsz
   have HTL := Lib.hid htl
   have HRR := Lib.hid (Nat.min_eq_left (Lib.decodeL_rune (c :: t)))
   clear hpre hpl hcons hdd hD hP hY hK hct
   generalize (pieceN (c :: t)).1 = m at *
   generalize (pieceN (c :: t)).2 = ok at *
   generalize (Lib.decodeL (c :: t)).1 = rr at *
   generalize (Lib.decodeL (c :: t)).2 = rn at *
   generalize b.extract k b.size = d at *
   have hsz' : (k : Int) + m ≤ 9223372036854775807 := by have := HPL.out.2; have := HTL.out; omega
   gi_wp2_with fail
   refine ⟨trivial, (HP.out wr).mono ?_⟩
   rintro e w1 ⟨rfl, hb1⟩
   have hJ1 : J pre w1 := hA _ _ _ Option.none hJ (below_grown hb1) (fun r e => by cases e)
   have hK1 : KpP Bs wr w1 := KpP.of hb1 (by have := HSZ.out; omega) (by have := HSZ.out; omega)
   have hc1 := (World.cell?_of_block hK1.2).trans hB2
   cases ok with
   | false =>
    obtain ⟨fn, tmps, assign, body, hy, hR⟩ := HY.out pre (k, 65533) w1 hJ1 hmore
    dsimp only [encP] at hy
    rw [show ((min 65533 1114111 : Nat) : Int) = 65533 from rfl] at hy
    gi_wp2_with fail
    refine hR.mono ?_
    rintro e w3 (⟨rfl, hJ3, hk3⟩ | ⟨rfl, hJx3⟩)
    ·gi_wp2_with fail
     go_roundw
     case rel =>
      have hs3 := hk3.1.size
      have hs1 := hb1.size
      refine ⟨k + m, pre ++ [(k, 65533)], by have := HPL.out.2; have := HTL.out; omega, by go_num, hJ3, (HK.out.t hK1).t hk3, by have := HSZ.out; omega, by rw [List.append_assoc]; exact HPRE.out⟩
     case measure => simp [intOf]; have := HPL.out.1; omega
    ·gi_wp2_with fail
     refine bodyPost_ret (results_none rfl _ _ _) rfl ?_
     exact ⟨⟨_, rfl⟩, .inr ⟨_, ⟨_, by rw [List.append_assoc]; exact HPRE.out⟩, hJx3⟩⟩
   | true =>
    have hT1 := utabs_kept (utabs_kept (utabs_kept hT HK.out.1) hK1.1) (Below.refl 17 w1)
    gi_wp2_with fail
    refine ⟨trivial, (HD.out _ hT1).mono ?_⟩
    rintro e w2 ⟨rfl, hb2⟩
    have hJ2 : J pre w2 := hA _ _ _ Option.none hJ1 (below_grown hb2) (fun r e => by cases e)
    have hK2 : KpP Bs w1 w2 := KpP.of hb2 (by have := HSZ.out; have := hb1.size; omega) (by have := HSZ.out; have := hb1.size; omega)
    have hc2 := (World.cell?_of_block hK2.2).trans hc1
    obtain ⟨fn, tmps, assign, body, hy, hR⟩ := HY.out pre (k, rr) w2 hJ2 hmore
    dsimp only [encP] at hy
    rw [HRR.out] at hy
    gi_wp2_with fail
    refine hR.mono ?_
    rintro e w3 (⟨rfl, hJ3, hk3⟩ | ⟨rfl, hJx3⟩)
    ·gi_wp2_with fail
     go_roundw
     case rel =>
      have hs3 := hk3.1.size
      have hs1 := hb1.size
      have hs2 := hb2.size
      refine ⟨k + m, pre ++ [(k, rr)], by have := HPL.out.2; have := HTL.out; omega, by go_num, hJ3, ((HK.out.t hK1).t hK2).t hk3, by have := HSZ.out; omega, by rw [List.append_assoc]; exact HPRE.out⟩
     case measure => simp [intOf]; have := HPL.out.1; omega
    ·gi_wp2_with fail
     refine bodyPost_ret (results_none rfl _ _ _) rfl ?_
     exact ⟨⟨_, rfl⟩, .inr ⟨_, ⟨_, by rw [List.append_assoc]; exact HPRE.out⟩, hJx3⟩⟩
  ·obtain rfl : k = b.size := by omega
   rw [← hlen, List.drop_length, ptsO_nil, List.append_nil] at hpre
   clear hY
   gi_wp2_with fail
   go_end0
   exact ⟨⟨_, rfl⟩, .inl ⟨_, rfl, by rw [← hpre]; exact hJ⟩⟩
end Go.Proofs.YtckaoeloofbklaaGreatDoor
namespace Go.Proofs.YtckaoeloofbklaaGreatDoor
open Go Go.RowKit Go.Lib
theorem bcheck_used (b : Nat) (w : World) (h0 : w.cell? ⟨b, 0, none⟩ = some (.pointer (some ⟨b, 0, none⟩))) :
  Calls Tryz.prog 60 #[.pointer (some ⟨b, 0, none⟩)] w fun e w' => e = .returned (.tuple #[]) ∧ w' = w := by
 obtain ⟨j, hj, _⟩ := Option.map_eq_some_iff.1 Tryz.Builder_Extra_169.toX72.sizeBuilder
 go_enter Tryz.func60, Tryz.ntmps60
 go_wp2
 rw [Lib.run_neq_ptr_same w _ (by kernel_rfl) hj]
 go_wp2
 go_end0
 exact ⟨rfl, rfl⟩
theorem bcheck_fresh (b : Nat) (w : World) (h0 : w.cell? ⟨b, 0, none⟩ = some (.pointer none)) (hsh : w.shape? b = some (49, 2)) (hfz : w.frozen? ⟨b, 0, none⟩ = false) :
  Calls Tryz.prog 60 #[.pointer (some ⟨b, 0, none⟩)] w fun e w' => e = .returned (.tuple #[]) ∧ w' = w.setCell ⟨b, 0, none⟩ (.pointer (some ⟨b, 0, none⟩)) := by
 obtain ⟨j, hj, hjs⟩ := Option.map_eq_some_iff.1 Tryz.Builder_Extra_169.toX72.sizeBuilder
 go_enter Tryz.func60, Tryz.ntmps60
 go_wp2
 rw [Lib.run_to_unsafe w ⟨b, 0, none⟩ (by kernel_rfl) (by kernel_rfl) hj (by rw [hjs]; decide) hsh (Nat.zero_lt_succ 1)]
 simp only [Result.andThen]
 rw [Oper.upon_value]
 go_wp2
 rw [run_callFunc_extern Tryz.func87 (by kernel_rfl) (by kernel_rfl) (by kernel_rfl) (e := Extern.AbiNoEscape.same) (by kernel_rfl)]
 rw [Lib.run_noEscape]
 simp only [Result.andThen]
 rw [Oper.upon_value]
 go_wp2
 rw [Lib.run_from_unsafe w ⟨b, 0, none⟩ (by kernel_rfl) (by kernel_rfl) hj hsh Tryz.Builder_Extra_169.toX72.liesBuilder]
 simp only [Result.andThen]
 rw [Oper.upon_value]
 go_wp2
 go_end0
 exact ⟨rfl, rfl⟩
theorem bcheck (B b : Nat) (bs : List Value) (w : World) (h : Lib.IsBuilderF 49 5 B b bs w) :
  Calls Tryz.prog 60 #[.pointer (some ⟨b, 0, none⟩)] w fun e w' => e = .returned (.tuple #[]) ∧ (Lib.BuilderAtF 49 5 B b (.pointer (some ⟨b, 0, none⟩)) bs w' ∧ Below B w w' ∧ Lib.OthersKept 5 (some b) w w') := by
 rcases h with h | h
 ·refine (bcheck_fresh b w h.cell0 h.shape h.frozen0).mono ?_
  rintro e w' ⟨rfl, rfl⟩
  exact ⟨rfl, h.used _, (Below.refl B w).setCell (p := ⟨b, 0, none⟩) h.1 _, (Lib.OthersKept.refl _ _ w).setCell ⟨b, 0, none⟩ rfl _⟩
 ·refine (bcheck_used b w h.cell0).mono ?_
  rintro e w' ⟨rfl, rfl⟩
  exact ⟨rfl, h, Below.refl B _, Lib.OthersKept.refl _ _ _⟩
theorem bwrite (B b : Nat) (bs : List Value) (s : ByteArray) (w : World) (h : Lib.IsBuilderF 49 5 B b bs w) (hlen : bs.length + s.size ≤ 140737488355328) (hBw : B ≤ w.heap.size) :
  Calls Tryz.prog 37 #[.pointer (some ⟨b, 0, none⟩), .string s] w fun e w' => e = .returned (.tuple #[.int .i64 s.size, .nilIface]) ∧ (Lib.BuilderAtF 49 5 B b (.pointer (some ⟨b, 0, none⟩)) (bs ++ Lib.strCells s) w' ∧ Below B w w' ∧ Lib.OthersKept 5 (some b) w w') := by
 obtain ⟨i0, hi, hz0, hz1, hz2⟩ := info_parts Tryz.Builder_Extra_169.infoByte
 have hsl : Tryz.prog.underlying 28 = some (TypeDesc.slice 5) := by kernel_rfl
 have hst : Tryz.prog.underlying 9 = some TypeDesc.string := by kernel_rfl
 go_enter Tryz.func37, Tryz.ntmps37
 go_wp2_with fail
 refine (bcheck B b bs _ h).mono ?_
 rintro e w1 ⟨rfl, h1, hb1, hk1⟩
 obtain ⟨hB, v, hbk, hown, hne⟩ := h1
 have c0 : w1.cell? ⟨b, 0, none⟩ = some (.pointer (some ⟨b, 0, none⟩)) := by rw [Lib.cell_of_heap hbk]; rfl
 have c1 : w1.cell? ⟨b, 1, none⟩ = some v := by rw [Lib.cell_of_heap hbk]; rfl
 go_wp2_with (at_builtin; refine Lib.wpList_append_own_stringF _ rfl _ _ 28 9 rfl B 5 i0 hsl hst hi hz0 hz1 hz2 _ _ _ rfl hown s rfl ?c3 ?c4 ?c5 ?_)
 case c3 => unfold maxLen; omega
 case c4 => omega
 case c5 => have := hb1.size; omega
 intro v' w2 hown' hgrow _
 have hlt : b < w1.heap.size := by
  rcases Nat.lt_or_ge b w1.heap.size with h' | h'
  ·exact h'
  ·simp [Array.getElem?_eq_none h'] at hbk
 have hb2 : w2.heap[b]? = some (.cells #[.pointer (some ⟨b, 0, none⟩), v] 49 (0, 0)) := by
  rw [hgrow.block b hlt (fun e => hne e.symm)]
  exact hbk
 have d0 : w2.cell? ⟨b, 0, none⟩ = some (.pointer (some ⟨b, 0, none⟩)) := by rw [Lib.cell_of_heap hb2]; rfl
 have d1 : w2.cell? ⟨b, 1, none⟩ = some v := by rw [Lib.cell_of_heap hb2]; rfl
 have f1 : w2.frozen? ⟨b, 1, none⟩ = false := Lib.frozen_of_heap hb2 1
 obtain ⟨ao, n', cap, rfl⟩ : ∃ ao n' cap, v' = .slice ao n' cap := by
  rcases hown'.2 with ⟨hv, _⟩ | ⟨g, cap, cur, fz, hv, _⟩
  ·exact ⟨_, _, _, hv⟩
  ·exact ⟨_, _, _, hv⟩
 go_wp2
 go_ret2
 refine ⟨rfl, ?_, ?_, (hk1.grown hgrow (Lib.ownsRowF_kind hown)).setCell ⟨b, 1, none⟩ rfl _⟩
 ·exact Lib.BuilderAtF.put (T := 49) (e := 5) hB hb2 (bs' := bs ++ Lib.strCells s) (by simpa [Lib.strCells_length] using hown') Tryz.Builder_Extra_169.neB5
 ·exact (hb1.grown hgrow (by have := hb1.size; omega) (fun k hk => (hown.lt k hk).1)).setCell (p := ⟨b, 1, none⟩) hB _
end Go.Proofs.YtckaoeloofbklaaGreatDoor
namespace Go.Proofs.YtckaoeloofbklaaGreatDoor
open Go Go.RowKit Go.Lib
def BL (B b : Nat) (l : List UInt8) (w : World) : Prop := Lib.IsBuilderF 49 5 B b (Lib.byteCells l) w
structure BW (B b : Nat) (l : List UInt8) (w w' : World) : Prop where
 bl : BL B b l w'
 below : Below B w w'
 oth : Lib.OthersKept 5 (some b) w w'
theorem bc_app (l m : List UInt8) : Lib.byteCells (l ++ m) = Lib.byteCells l ++ Lib.byteCells m := by simp [Lib.byteCells]
theorem bc_str (s : ByteArray) : Lib.strCells s = Lib.byteCells s.data.toList := rfl
theorem bc_rune (r : Nat) : Lib.runeCells (r : Int) = Lib.byteCells (enc r) := (Lib.byteCells_encodeRune _).symm
theorem bc_len (l : List UInt8) : (Lib.byteCells l).length = l.length := Lib.byteCells_length l
theorem bw_string (B b : Nat) (l : List UInt8) (s : ByteArray) (w : World) (h : BL B b l w) (hlen : l.length + s.size ≤ 140737488355328) (hBw : B ≤ w.heap.size) :
  Calls Tryz.prog 37 #[.pointer (some ⟨b, 0, none⟩), .string s] w fun e w' => e = .returned (.tuple #[.int .i64 s.size, .nilIface]) ∧ BW B b (l ++ s.data.toList) w w' := by
 refine (bwrite B b (Lib.byteCells l) s w h (by rw [bc_len]; exact hlen) hBw).mono ?_
 rintro e w' ⟨rfl, h1, h2, h3⟩
 refine ⟨rfl, ?_, h2, h3⟩
 unfold BL
 rw [bc_app, ← bc_str]
 exact .inr h1
theorem bw_byte (B b : Nat) (l : List UInt8) (c : UInt8) (w : World) (h : BL B b l w) (hlen : l.length + 4 ≤ 140737488355328) (hBw : B ≤ w.heap.size) :
  Calls Tryz.prog 34 #[.pointer (some ⟨b, 0, none⟩), .int .u8 (c.toNat : Int)] w fun e w' => e = .returned .nilIface ∧ BW B b (l ++ [c]) w w' := by
 obtain ⟨i0, hi, hz0, hz1, hz2⟩ := info_parts Tryz.Builder_Extra_169.infoByte
 have hsl : Tryz.prog.underlying 28 = some (TypeDesc.slice 5) := by kernel_rfl
 go_enter Tryz.func34, Tryz.ntmps34
 go_wp2_with fail
 refine (bcheck B b _ _ h).mono ?_
 rintro e w1 ⟨rfl, h1, hb1, hk1⟩
 obtain ⟨hB, v, hbk, hown, hne⟩ := h1
 have c0 : w1.cell? ⟨b, 0, none⟩ = some (.pointer (some ⟨b, 0, none⟩)) := by rw [Lib.cell_of_heap hbk]; rfl
 have c1 : w1.cell? ⟨b, 1, none⟩ = some v := by rw [Lib.cell_of_heap hbk]; rfl
 rw [bc_len] at hown
 go_wp2_with (at_builtin; refine wpList_append_ownF _ rfl _ _ 28 rfl B 5 i0 (.int .u8 0) 1 1 hsl hi hz0 hz1 hz2 rfl (by decide) _ _ _ rfl (hown.alloc _) ⟨w1.heap.size, 0, none⟩ 1 1 [.int .u8 (c.toNat : Int)] rfl rfl ?c1 ?c2 ?c3 ?c4 ?c5 ?_)
 case c1 =>
  intro j u hj
  match j, hj with
  | 0, hj => simp at hj; subst hj; simp [Addr.add]
  | (j + 1), hj => simp at hj
 case c2 => intro u hu; simp at hu; rcases hu with rfl; rfl
 case c3 => unfold maxLen; omega
 case c4 => omega
 case c5 => have := hb1.size; simp; omega
 intro v' w2 hown' hgrow _
 have hlt : b < w1.heap.size := (Array.getElem?_eq_some_iff.1 hbk).1
 have hb2 : w2.heap[b]? = some (.cells #[.pointer (some ⟨b, 0, none⟩), v] 49 (0, 0)) := by
  rw [hgrow.block b (by simp; omega) (fun e => hne e.symm), Below.heap_alloc _ _ _ hlt]
  exact hbk
 have d0 : w2.cell? ⟨b, 0, none⟩ = some (.pointer (some ⟨b, 0, none⟩)) := by rw [Lib.cell_of_heap hb2]; rfl
 have d1 : w2.cell? ⟨b, 1, none⟩ = some v := by rw [Lib.cell_of_heap hb2]; rfl
 have f1 : w2.frozen? ⟨b, 1, none⟩ = false := Lib.frozen_of_heap hb2 1
 obtain ⟨ao, n', cap, rfl⟩ : ∃ ao n' cap, v' = .slice ao n' cap := by
  rcases hown'.2 with ⟨hv, _⟩ | ⟨g, cap, cur, fz, hv, _⟩
  ·exact ⟨_, _, _, hv⟩
  ·exact ⟨_, _, _, hv⟩
 go_wp2
 go_ret
 have hgs := hgrow.size
 rw [World.size_alloc] at hgs
 refine ⟨rfl, .inr ?_, ?_, ?_⟩
 ·refine Lib.BuilderAtF.put (T := 49) (e := 5) hB hb2 (bs' := Lib.byteCells (l ++ [c])) ?_ Tryz.Builder_Extra_169.neB5
  rw [bc_len, List.length_append, bc_app]
  exact hown'
 ·exact (((hb1.alloc (by have := hb1.size; omega) _).grown hgrow (by have := hb1.size; simp; omega) (fun k hk => (hown.lt k hk).1))).setCell (p := ⟨b, 1, none⟩) hB _
 ·exact ((hk1.alloc _).grown hgrow (Lib.ownsRowF_kind (hown.alloc _))).setCell ⟨b, 1, none⟩ rfl _
theorem bw_rune (B b : Nat) (l : List UInt8) (r : Nat) (w : World) (h : BL B b l w) (hr : r ≤ 2147483647) (hlen : l.length + 8 ≤ 140737488355328) (hBw : B ≤ w.heap.size) :
  Calls Tryz.prog 36 #[.pointer (some ⟨b, 0, none⟩), .int .i32 (r : Int)] w fun e w' => (∃ n, e = .returned (.tuple #[n, .nilIface])) ∧ BW B b (l ++ enc r) w w' := by
 go_enter Tryz.func36, Tryz.ntmps36
 go_wp2_with fail
 refine (bcheck B b _ _ h).mono ?_
 rintro e w1 ⟨rfl, h1, hb1, hk1⟩
 obtain ⟨hB, v, hbk, hown, hne⟩ := h1
 have c0 : w1.cell? ⟨b, 0, none⟩ = some (.pointer (some ⟨b, 0, none⟩)) := by rw [Lib.cell_of_heap hbk]; rfl
 have c1 : w1.cell? ⟨b, 1, none⟩ = some v := by rw [Lib.cell_of_heap hbk]; rfl
 rw [bc_len] at hown
 obtain ⟨ao0, cap0, hv0⟩ : ∃ ao cap, v = .slice ao l.length cap := by
  rcases hown.2 with ⟨hv, hz⟩ | ⟨g, cap, cur, fz, hv, _⟩
  ·exact ⟨_, _, by rw [hz]; exact hv⟩
  ·exact ⟨_, _, hv⟩
 have HA := Lib.hid (Tryz.utf8_AppendRune_row B v l.length (Lib.byteCells l) (r : Int) (by omega) (by omega) w1 hown (by omega) (by have := hb1.size; omega))
 subst hv0
 go_wp2_with fail
 refine HA.out.mono ?_
 rintro e w2 ⟨v', rfl, hown', o, hgrow⟩
 have hlt : b < w1.heap.size := (Array.getElem?_eq_some_iff.1 hbk).1
 have hb2 : w2.heap[b]? = some (.cells #[.pointer (some ⟨b, 0, none⟩), .slice ao0 l.length cap0] 49 (0, 0)) := by
  rw [hgrow.block b (by simp; omega) (fun e => hne e.symm), Below.heap_alloc _ _ _ hlt]
  exact hbk
 have d0 : w2.cell? ⟨b, 0, none⟩ = some (.pointer (some ⟨b, 0, none⟩)) := by rw [Lib.cell_of_heap hb2]; rfl
 have d1 : w2.cell? ⟨b, 1, none⟩ = some (.slice ao0 l.length cap0) := by rw [Lib.cell_of_heap hb2]; rfl
 have f1 : w2.frozen? ⟨b, 1, none⟩ = false := Lib.frozen_of_heap hb2 1
 rw [bc_rune] at hown'
 have hel := enc_len r
 rw [bc_len] at hown'
 obtain ⟨ao, cap, rfl⟩ : ∃ ao cap, v' = .slice ao (l.length + (enc r).length) cap := by
  rcases hown'.2 with ⟨hv, hz⟩ | ⟨g, cap, cur, fz, hv, _⟩
  ·exact ⟨_, _, by rw [hz]; exact hv⟩
  ·exact ⟨_, _, hv⟩
 go_wp2_with fail
 go_ret2
 have hgs := hgrow.size
 rw [World.size_alloc] at hgs
 refine ⟨⟨_, rfl⟩, .inr ?_, ?_, ?_⟩
 ·refine Lib.BuilderAtF.put (T := 49) (e := 5) hB hb2 (bs' := Lib.byteCells (l ++ enc r)) ?_ Tryz.Builder_Extra_169.neB5
  rw [bc_len, List.length_append, bc_app]
  exact hown'
 ·exact (((hb1.alloc (by have := hb1.size; omega) _).grown hgrow (by have := hb1.size; simp; omega) (fun k hk => (hown.lt k hk).1))).setCell (p := ⟨b, 1, none⟩) hB _
 ·exact ((hk1.alloc _).grown hgrow (Lib.ownsRowF_kind (hown.alloc _))).setCell ⟨b, 1, none⟩ rfl _
theorem bl_new (B : Nat) (w : World) (h : B ≤ w.heap.size) : BL B w.heap.size [] (w.alloc (.cells #[.pointer none, .slice none 0 0] 49)) :=
 .inl ⟨h, _, heap_alloc_new w _, World.ownsRowF_nil _ _ _ _, by simp [Value.ownBlock]⟩
end Go.Proofs.YtckaoeloofbklaaGreatDoor
namespace Go.Proofs.YtckaoeloofbklaaGreatDoor
open Go Go.RowKit Go.Lib
attribute [local go_sem] Oper.semAt_some
theorem ptsF_len : ∀ (n : Nat) (l : List UInt8), l.length ≤ n → (pts l).length ≤ l.length
 | _, [], _ => Nat.le_refl _
 | 0, c :: t, h => by simp at h
 | n + 1, c :: t, h => by
  have h1 := piece_len c t
  have h2 := ptsF_len n ((c :: t).drop (pieceN (c :: t)).1) (by rw [List.length_drop]; simp at h ⊢; omega)
  rw [pts_cons, List.length_cons]
  rw [List.length_drop] at h2
  simp at h2 ⊢
  omega
theorem pts_len (l : List UInt8) : (pts l).length ≤ l.length := ptsF_len _ l (Nat.le_refl _)
theorem encs_len : ∀ rs : List Nat, (rs.flatMap enc).length ≤ 4 * rs.length
 | [] => by simp
 | r :: rs => by
  have := encs_len rs
  have := enc_len r
  rw [List.flatMap_cons, List.length_append, List.length_cons]; omega
theorem ownsF_kept {W W' : World} {row : Option Nat} {base : Nat} {e : TypeId} {size : Nat} {v : Value} {k : Nat} {xs : List Value} (h : W.ownsRowF base e size v k xs) (hg : W.grownBy W' row)
  (hrow : ∀ r, row = some r → ∃ o : Obj, W.heap[r]? = some o ∧ o.isCells = false) : W'.ownsRowF base e size v k xs := by
 refine ⟨h.1, ?_⟩
 rcases h.2 with h | ⟨g, cap, cur, fz, h1, h2, h3, h4⟩
 ·exact .inl h
 ·refine .inr ⟨g, cap, cur, fz, h1, h2, ?_, h4⟩
  rw [hg.block g (Array.getElem?_eq_some_iff.1 h3).1 (fun e => by obtain ⟨o, ho, hc⟩ := hrow g e.symm; rw [h3] at ho; cases ho; cases hc)]
  exact h3
theorem BL.kept {B b : Nat} {l : List UInt8} {W W' : World} {row : Option Nat} (h : BL B b l W) (hg : W.grownBy W' row)
  (hrow : ∀ r, row = some r → ∃ o : Obj, W.heap[r]? = some o ∧ o.isCells = false) : BL B b l W' := by
 rcases h with ⟨h1, v, h2, h3, h4⟩ | ⟨h1, v, h2, h3, h4⟩
 ·refine .inl ⟨h1, v, ?_, ownsF_kept h3 hg hrow, h4⟩
  rw [hg.block b (Array.getElem?_eq_some_iff.1 h2).1 (fun e => by obtain ⟨o, ho, hc⟩ := hrow b e.symm; rw [h2] at ho; cases ho; cases hc)]
  exact h2
 ·refine .inr ⟨h1, v, ?_, ownsF_kept h3 hg hrow, h4⟩
  rw [hg.block b (Array.getElem?_eq_some_iff.1 h2).1 (fun e => by obtain ⟨o, ho, hc⟩ := hrow b e.symm; rw [h2] at ho; cases ho; cases hc)]
  exact h2
theorem BL.cells {B b : Nat} {l : List UInt8} {W : World} (h : BL B b l W) : ∃ p v, W.heap[b]? = some (.cells #[p, v] 49 (0, 0)) := by
 rcases h with ⟨h1, v, h2, h3, h4⟩ | ⟨h1, v, h2, h3, h4⟩
 ·exact ⟨_, _, h2⟩
 ·exact ⟨_, _, h2⟩
theorem BL.below {B b : Nat} {l : List UInt8} {W W' : World} (h : BL B b l W) (hb : Below W.heap.size W W') : BL B b l W' := h.kept (below_grown hb) (fun r e => by cases e)
theorem BW.keeps {B b : Nat} {l : List UInt8} {W W' : World} {l0 : List UInt8} (h0 : BL B b l0 W) (h : BW B b l W W') : KeepsOthers W W' := by
 refine ⟨h.below.size, fun k o hk hc => ?_⟩
 refine h.oth k o hk ?_ ?_
 ·intro e
  injection e with e
  subst e
  obtain ⟨p, v, h1⟩ := h0.cells
  rw [h1] at hk; cases hk; cases hc
 ·rintro c fz rfl; cases hc
theorem points_in (n : Nat) (b : ByteArray) (w : World) :
  CallsIn Fence.wide n Tryz.prog 19 #[.string b] w fun e w' => e = .returned (.func (.func 40) #[] #[.pointer (some ⟨w.heap.size, 0, Option.none⟩)]) ∧ w' = w.alloc (.cells #[.string b] 9) := by
 refine callsIn_of_wp Tryz.func19 rfl trivial ?_ rfl
 simp only [Tryz.ntmps19, List.size_toArray, List.length_cons, List.length_nil, Nat.reduceAdd, Nat.reduceSub, Array.replicate_succ, Array.replicate_zero, List.push_toArray, List.append_toArray, List.nil_append, List.cons_append]
 have hmf : ∀ (fn : Fn) (first cap : Array Value) (w : World), (Instr.makeFunc fn first cap).run Tryz.prog w = .ok (.func fn first cap) w := fun _ _ _ _ => rfl
 gi_wp2
 go_ret
 exact ⟨rfl, rfl⟩
theorem points_stops (n : Nat) (hn : 1 ≤ n) (Bs : Nat) (b : ByteArray) (w : World) (h17 : 17 ≤ w.heap.size) (hT : Lib.Utf8Tabs 0 1 w) (hBl : Bs < w.heap.size) (hbig : b.size ≤ 140737488355328) (hc : w.cell? ⟨Bs, 0, Option.none⟩ = some (.string b)) :
  SeqStopsK Fence.wide n Tryz.prog 40 #[.pointer (some ⟨Bs, 0, Option.none⟩)] encP (KpP Bs) (fun ys => ys = ptsO 0 b.data.toList) (fun pre => ∃ r, pre ++ r = ptsO 0 b.data.toList) (ptsO 0 b.data.toList).length w := fun l J Jx W hW hA _ hY h0 =>
 points1_in n hn l Bs b hbig J Jx hY W hA (Nat.le_trans h17 hW.size) (utabs_kept hT (hW.mono h17)) (Nat.lt_of_lt_of_le hBl hW.size) ((hW.cell (p := ⟨Bs, 0, Option.none⟩) hBl).trans hc) h0
def outP (pre : List (Nat × Nat)) : List UInt8 := (pre.map fun x => min x.2 1114111).flatMap enc
theorem outP_snoc (pre : List (Nat × Nat)) (x : Nat × Nat) : outP (pre ++ [x]) = outP pre ++ enc (min x.2 1114111) := by simp [outP]
theorem min_id : ∀ l : List (Nat × Nat), (∀ r ∈ l.map (·.2), Scal r) → (l.map fun x => min x.2 1114111) = l.map (·.2)
 | [], _ => rfl
 | x :: l, h => by
  have hx := h x.2 (by simp)
  unfold Scal at hx
  rw [List.map_cons, List.map_cons, min_id l fun r hr => h r (by simp at hr ⊢; exact .inr hr), Nat.min_eq_left (by omega)]
theorem min_pts (l : List UInt8) : ((ptsO 0 l).map fun x => min x.2 1114111) = pts l := by
 rw [min_id _ (by rw [ptsO_pts]; exact pts_scals l), ptsO_pts]
theorem outP_all (l : List UInt8) : outP (ptsO 0 l) = decB8 l := by unfold outP decB8; rw [min_pts]
theorem outP_len (pre : List (Nat × Nat)) : (outP pre).length ≤ 4 * pre.length := by
 have := encs_len (pre.map fun x => min x.2 1114111)
 rw [List.length_map] at this
 exact this
theorem decode_any (b : ByteArray) (w : World) (h17 : 17 ≤ w.heap.size) (hT : Lib.Utf8Tabs 0 1 w) (hsm : b.size ≤ 35184372080000) :
  Calls Tryz.prog 111 #[.string b] w fun e w' => e = .returned (.string ⟨(decB8 b.data.toList).toArray⟩) ∧ Below w.heap.size w w' := by
 refine (callsIn_wide (n := 4)).1 ?_
 refine callsIn_of_wp_marks Tryz.func111 rfl trivial ?_ rfl
 simp only [Tryz.ntmps111, List.size_toArray, List.length_cons, List.length_nil, Nat.reduceAdd, Nat.reduceSub, Array.replicate_succ, Array.replicate_zero, List.push_toArray, List.append_toArray, List.nil_append, List.cons_append]
 have hlen : b.data.toList.length = b.size := by simp
 have hpl := pts_len b.data.toList
 rw [← ptsO_len 0, hlen] at hpl
 gi_wp2_with fail
 refine ⟨trivial, (points_in 3 b _).mono ?_⟩
 rintro e w1 ⟨rfl, rfl⟩
 have hb0 : Below w.heap.size w ((w.alloc (.cells #[.pointer Option.none, .slice Option.none 0 0] 49)).alloc (.cells #[.string b] 9)) := ((Below.refl _ _).alloc (Nat.le_refl _) _).alloc (by simp) _
 have hbox := heap_alloc_new (w.alloc (.cells #[.pointer Option.none, .slice Option.none 0 0] 49)) (.cells #[.string b] 9)
 rw [World.size_alloc] at hbox
 have hbl : BL w.heap.size w.heap.size [] ((w.alloc (.cells #[.pointer Option.none, .slice Option.none 0 0] 49)).alloc (.cells #[.string b] 9)) := (bl_new w.heap.size w (Nat.le_refl _)).below ((Below.refl _ _).alloc (Nat.le_refl _) _)
 have hws : ((w.alloc (.cells #[.pointer Option.none, .slice Option.none 0 0] 49)).alloc (.cells #[.string b] 9)).heap.size = w.heap.size + 2 := by simp
 have hwa : (w.alloc (.cells #[.pointer Option.none, .slice Option.none 0 0] 49)).heap.size = w.heap.size + 1 := by simp
 rw [hwa]
 generalize ((w.alloc (.cells #[.pointer Option.none, .slice Option.none 0 0] 49)).alloc (.cells #[.string b] 9)) = wL at *
 have hcL : wL.cell? ⟨w.heap.size + 1, 0, Option.none⟩ = some (.string b) := by rw [cell_of_row wL _ 0 _ _ _ hbox]; rfl
 have HBOX := Lib.hid hbox
 have HBL := Lib.hid hbl
 have HB0 := Lib.hid hb0
 have hTL := utabs_kept hT (hb0.mono h17)
 clear hbox hbl hb0
 gi_wp2_with fail
 refine wpIn_rangeFunc_ownF (α := Nat × Nat) rfl (by omega) (gf := 40) (lb := #[.pointer (some ⟨w.heap.size + 1, 0, Option.none⟩)]) rfl trivial (enters_of Tryz.func40 (by kernel_rfl) rfl)
  (points_stops _ (by omega) (w.heap.size + 1) b wL (by omega) hTL (by omega) (by omega) hcL) KpP.t (KpP.b (by omega) (by omega)) (Below.refl _ _) (fun _ => rfl)
  (fun pre W => BL w.heap.size w.heap.size (outP pre) W ∧ Below w.heap.size w W ∧ wL.heap.size ≤ W.heap.size ∧ W.heap[w.heap.size + 1]? = some (.cells #[.string b] 9 (0, 0)))
  (fun _ _ _ => False)
  (fun s A B row hs hg hr => ⟨hs.1.kept hg (fun r e => (hr r e).2), hs.2.1.grown hg hs.2.1.size (fun k e => by have := (hr k e).1; omega), Nat.le_trans hs.2.2.1 hg.size, by
   rw [hg.block _ (Array.getElem?_eq_some_iff.1 hs.2.2.2).1 (fun e => by obtain ⟨_, o, ho, hcl⟩ := hr _ e.symm; rw [hs.2.2.2] at ho; cases ho; cases hcl)]; exact hs.2.2.2⟩)
  (fun c s A B row hs hg hr => hs)
  ⟨HBL.out, HB0.out, Nat.le_refl _, HBOX.out⟩
  (fun x => { tmps := #[.string b, undef, .string ⟨#[]⟩, .pointer (some ⟨w.heap.size, 0, Option.none⟩), undef, .int .i32 ((min x.2 1114111 : Nat) : Int), .string b, .func (.func 40) #[] #[.pointer (some ⟨w.heap.size + 1, 0, Option.none⟩)], .int .i64 (x.1 : Int), .int .i32 ((min x.2 1114111 : Nat) : Int), undef, undef, undef], defers := [] })
  ?assign ?body ?done ?stop
 case assign =>
  rintro l' x W K hK
  dsimp only [encP]
  gi_wp2
  exact hK
 case body =>
  rintro l' pre x W ⟨hbl, hB, hsz, hbox⟩ hlt
  have HBX := Lib.hid hbox
  clear hbox
  have hl4 := outP_len pre
  have hrl : min x.2 1114111 ≤ 2147483647 := by omega
  have HW := Lib.hid (bw_rune w.heap.size w.heap.size (outP pre) (min x.2 1114111) W hbl hrl (by omega) hB.size)
  have HBL := Lib.hid hbl
  have HBB := Lib.hid hB
  clear hbl hB
  gi_wp2_with fail
  refine ⟨trivial, (CallsIn.inRound l' ((callsIn_wide (n := 1)).2 HW.out)).mono ?_⟩
  rintro e w2 ⟨⟨n, rfl⟩, hw⟩
  have hk := hw.keeps HBL.out
  have hbx := hw.oth
  have hbs : w2.heap[w.heap.size + 1]? = W.heap[w.heap.size + 1]? := by
   rw [HBX.out]
   exact hw.oth _ _ HBX.out (by simp) (fun c fz h => by cases h)
  have HWW := Lib.hid hw
  clear hw hbx
  gi_wp2_with fail
  have h3 := HBB.out.size
  exact ⟨hk, ⟨HWW.out.below.mono h17, hbs⟩, by rw [outP_snoc]; exact HWW.out.bl, HBB.out.trans HWW.out.below, Nat.le_trans hsz HWW.out.below.size, by rw [hbs]; exact HBX.out⟩
 case done =>
  rintro D ys W hD rfl ⟨hbl, hB, hsz, -⟩ hK
  rw [outP_all] at hbl
  have HS := Lib.hid ((callsIn_wide (n := 3)).2 (Tryz.Builder_String_any_k w.heap.size w.heap.size _ W hbl hB.size))
  have HK := Lib.hid hK
  have HBB := Lib.hid hB
  clear hK hB hbl
  gi_wp2_with fail
  refine ⟨trivial, HS.out.mono ?_⟩
  rintro e w2 ⟨rfl, hbl2, hb2, hk2⟩
  have HB2 := Lib.hid hb2
  have HK2 := Lib.hid hk2
  clear hb2 hbl2 hk2
  gi_wp2_with fail
  have hD2 : w2.heap[D]? = some (.deferred (some [])) := HK2.out D _ HK.out (by simp; omega) (fun c fz h => by cases h)
  refine ⟨by simp, .inl ⟨_, _, rfl, run_takeDeferred hD2, ?_⟩⟩
  refine ⟨.string ⟨(decB8 b.data.toList).toArray⟩, ?_, rfl, (HBB.out.trans HB2.out).trans (belowK_b (w := w) (Nat.le_refl _) _ D _ _ (by omega) hD2 rfl rfl)⟩
  simp [results, Tryz.f111, go_sem]
 case stop =>
  rintro D c pre W hD _ h
  exact h.elim
end Go.Proofs.YtckaoeloofbklaaGreatDoor
namespace Go.Proofs.YtckaoeloofbklaaGreatDoor
inductive JV where
 | mk (k : Int) (b : Bool) (n u : Int) (s : ByteArray) (ks : List ByteArray) (vs : List JV)
namespace JV
def kind : JV → Int | mk k _ _ _ _ _ _ => k
def bool : JV → Bool | mk _ b _ _ _ _ _ => b
def int : JV → Int | mk _ _ n _ _ _ _ => n
def bits : JV → Int | mk _ _ _ u _ _ _ => u
def text : JV → ByteArray | mk _ _ _ _ s _ _ => s
def keys : JV → List ByteArray | mk _ _ _ _ _ ks _ => ks
def items : JV → List JV | mk _ _ _ _ _ _ vs => vs
mutual
def same : JV → JV → Bool
 | mk k b n u s ks vs, mk k' b' n' u' s' ks' vs' => decide (k = k' ∧ b = b' ∧ n = n' ∧ u = u' ∧ s = s' ∧ ks = ks') && sameL vs vs'
def sameL : List JV → List JV → Bool
 | [], [] => true
 | v :: l, w :: m => same v w && sameL l m
 | [], _ :: _ => false
 | _ :: _, [] => false
end
mutual
def weigh : JV → Nat
 | mk _ _ _ _ s ks vs => 1 + s.size + ks.length + (ks.map ByteArray.size).sum + weighL vs
def weighL : List JV → Nat
 | [] => 0
 | v :: l => weigh v + weighL l
end
mutual
theorem same_self : ∀ v : JV, same v v = true
 | mk k b n u s ks vs => by rw [same, sameL_self vs]; simp
theorem sameL_self : ∀ l : List JV, sameL l l = true
 | [] => by rw [sameL]
 | v :: l => by rw [sameL, same_self v, sameL_self l]; rfl
end
def plain : JV → Bool
 | mk k b n u s ks vs =>
  if k = 1 then decide (b = false ∧ n = 0 ∧ u = 0 ∧ s = ⟨#[]⟩ ∧ ks = []) && vs.isEmpty
  else if k = 2 then decide (n = 0 ∧ u = 0 ∧ s = ⟨#[]⟩ ∧ ks = []) && vs.isEmpty
  else if k = 3 then decide (b = false ∧ u = 0 ∧ s = ⟨#[]⟩ ∧ ks = []) && vs.isEmpty
  else if k = 4 then decide (b = false ∧ n = 0 ∧ s = ⟨#[]⟩ ∧ ks = []) && vs.isEmpty
  else if k = 5 then decide (b = false ∧ n = 0 ∧ u = 0 ∧ ks = []) && vs.isEmpty
  else if k = 6 then decide (b = false ∧ n = 0 ∧ u = 0 ∧ s = ⟨#[]⟩ ∧ ks = [])
  else if k = 7 then decide (b = false ∧ n = 0 ∧ u = 0 ∧ s = ⟨#[]⟩) && decide (vs.length = ks.length) && decide ks.Nodup
  else false
def deeper (d : Nat) : Option Nat → Option Nat → Option Nat
 | some m, some n => some (max m (n + d))
 | _, _ => none
mutual
def look : JV → Option Nat
 | mk k b n u s ks vs => if plain (mk k b n u s ks vs) then (lookL vs).map fun m => if 6 ≤ k then m + 1 else m else none
def lookL : List JV → Option Nat
 | [] => some 0
 | v :: l => match look v, lookL l with
  | some m, some n => some (max m n)
  | _, _ => none
end
mutual
def formed : JV → Bool
 | mk k b n u s ks vs => plain (mk k b n u s ks vs) && formedL vs
def formedL : List JV → Bool
 | [] => true
 | v :: l => formed v && formedL l
end
mutual
def deep : JV → Nat
 | mk k _ _ _ _ _ vs => if k = 6 ∨ k = 7 then deepL vs + 1 else 0
def deepL : List JV → Nat
 | [] => 0
 | v :: l => max (deep v) (deepL l)
end
theorem plain_kind {v : JV} (h : plain v = true) : 1 ≤ v.kind ∧ v.kind ≤ 7 ∧ (v.kind < 6 → v.items = []) := by
 obtain ⟨k, b, n, u, s, ks, vs⟩ := v
 simp only [kind, items]
 simp only [plain] at h
 by_cases h1 : k = 1
 ·subst h1; simp at h; exact ⟨by omega, by omega, fun _ => h.2⟩
 rw [if_neg h1] at h
 by_cases h2 : k = 2
 ·subst h2; simp at h; exact ⟨by omega, by omega, fun _ => h.2⟩
 rw [if_neg h2] at h
 by_cases h3 : k = 3
 ·subst h3; simp at h; exact ⟨by omega, by omega, fun _ => h.2⟩
 rw [if_neg h3] at h
 by_cases h4 : k = 4
 ·subst h4; simp at h; exact ⟨by omega, by omega, fun _ => h.2⟩
 rw [if_neg h4] at h
 by_cases h5 : k = 5
 ·subst h5; simp at h; exact ⟨by omega, by omega, fun _ => h.2⟩
 rw [if_neg h5] at h
 by_cases h6 : k = 6
 ·subst h6; exact ⟨by omega, by omega, fun h => absurd h (by omega)⟩
 rw [if_neg h6] at h
 by_cases h7 : k = 7
 ·subst h7; exact ⟨by omega, by omega, fun h => absurd h (by omega)⟩
 rw [if_neg h7] at h
 cases h
mutual
theorem look_is : ∀ v : JV, look v = if formed v then some (deep v) else none
 | mk k b n u s ks vs => by
  rw [look, formed, deep, lookL_is vs]
  by_cases h : plain (mk k b n u s ks vs) = true
  ·obtain ⟨h1, h2, h3⟩ := plain_kind h
   simp only [kind, items] at h1 h2 h3
   simp only [h, if_true, Bool.true_and]
   cases formedL vs with
   | false => simp
   | true =>
    simp only [if_true, Option.map_some]
    by_cases h6 : 6 ≤ k
    ·rw [if_pos h6, if_pos (by omega)]
    ·rw [if_neg h6, if_neg (by omega), h3 (by omega), deepL]
  ·simp [h]
theorem lookL_is : ∀ l : List JV, lookL l = if formedL l then some (deepL l) else none
 | [] => by rw [lookL, formedL, deepL]; simp
 | v :: l => by
  rw [lookL, formedL, deepL, look_is v, lookL_is l]
  cases formed v <;> cases formedL l <;> simp
end
def check (v : JV) : Int := match look v with
 | none => 160
 | some d => if 64 < d then 161 else 0
end JV
end Go.Proofs.YtckaoeloofbklaaGreatDoor
namespace Go.Proofs.YtckaoeloofbklaaGreatDoor
inductive Out (α : Type) where
 | ok (v : α) (t : List UInt8)
 | err (e : Int) (t : List UInt8)
def isBl (c : UInt8) : Bool := c == 32 || c == 9 || c == 10 || c == 13
def skipB (t : List UInt8) : List UInt8 := t.dropWhile isBl
def Out.skip {α : Type} : Out α → Out α
 | .ok v t => .ok v (skipB t)
 | .err e t => .err e t
def isDgB (c : UInt8) : Bool := decide (48 ≤ c.toNat ∧ c.toNat ≤ 57)
def isAl (c : UInt8) : Bool := decide (65 ≤ c.toNat ∧ c.toNat ≤ 90) || decide (97 ≤ c.toNat ∧ c.toNat ≤ 122)
def numC (c : UInt8) : Bool := isAl c || isDgB c || c == 46 || c == 43 || c == 45
def strC (c : UInt8) : Bool := decide (32 ≤ c.toNat) && c != 34 && c != 92
def begC (c : UInt8) : Bool := c == 91 || c == 123 || c == 34 || c == 45 || isDgB c || isAl c
def Ends (p : UInt8 → Bool) : List UInt8 → Prop
 | [] => True
 | c :: _ => p c = false
def hexV (c : UInt8) : Option Nat :=
 if 48 ≤ c.toNat ∧ c.toNat ≤ 57 then some (c.toNat - 48) else if 97 ≤ c.toNat ∧ c.toNat ≤ 102 then some (c.toNat - 87)
 else if 65 ≤ c.toNat ∧ c.toNat ≤ 70 then some (c.toNat - 55) else none
def hex4 (a b c d : UInt8) : Option Nat :=
 match hexV a, hexV b, hexV c, hexV d with
 | some a, some b, some c, some d => some (((a * 16 + b) * 16 + c) * 16 + d)
 | _, _, _, _ => none
section
variable (dec : List UInt8 → List UInt8) (enc : Nat → List UInt8)
inductive Esc : List UInt8 → List UInt8 → List UInt8 → Prop
 | one {a b c d : UInt8} {n : Nat} {t : List UInt8} (h : hex4 a b c d = some n) (hn : n < 55296 ∨ 56320 ≤ n) : Esc (117 :: a :: b :: c :: d :: t) (enc n) t
 | lone {a b c d : UInt8} {n : Nat} {t : List UInt8} (h : hex4 a b c d = some n) (h1 : 55296 ≤ n) (h2 : n < 56320) (ht : t.take 2 ≠ [92, 117]) : Esc (117 :: a :: b :: c :: d :: t) (enc n) t
 | pair {a b c d a' b' c' d' : UInt8} {n m : Nat} {t : List UInt8} (h : hex4 a b c d = some n) (h1 : 55296 ≤ n) (h2 : n < 56320)
   (h' : hex4 a' b' c' d' = some m) (h3 : 56320 ≤ m) (h4 : m < 57344) : Esc (117 :: a :: b :: c :: d :: 92 :: 117 :: a' :: b' :: c' :: d' :: t) (enc (65536 + (n - 55296) * 1024 + (m - 56320))) t
inductive Str : List UInt8 → List UInt8 → List UInt8 → Prop
 | last {r t : List UInt8} (h : r.all strC = true) : Str (r ++ 34 :: t) (dec r) t
 | esc {r x o t out t' : List UInt8} (h : r.all strC = true) (h1 : Esc enc x o t) (h2 : Str t out t') : Str (r ++ 92 :: x) (dec r ++ o ++ out) t'
def jNull : JV := .mk 1 false 0 0 ⟨#[]⟩ [] []
def jBool (b : Bool) : JV := .mk 2 b 0 0 ⟨#[]⟩ [] []
def jInt (n : Int) : JV := .mk 3 false n 0 ⟨#[]⟩ [] []
def jFlt (u : Int) : JV := .mk 4 false 0 u ⟨#[]⟩ [] []
def jStr (s : ByteArray) : JV := .mk 5 false 0 0 s [] []
def jList (vs : List JV) : JV := .mk 6 false 0 0 ⟨#[]⟩ [] vs
def jRec (ks : List ByteArray) (vs : List JV) : JV := .mk 7 false 0 0 ⟨#[]⟩ ks vs
variable (N : List UInt8 → JV → Prop)
inductive Atom : List UInt8 → Out JV → Prop
 | null {t} (h : Ends isAl t) : Atom (110 :: 117 :: 108 :: 108 :: t) (.ok jNull t)
 | tru {t} (h : Ends isAl t) : Atom (116 :: 114 :: 117 :: 101 :: t) (.ok (jBool true) t)
 | fals {t} (h : Ends isAl t) : Atom (102 :: 97 :: 108 :: 115 :: 101 :: t) (.ok (jBool false) t)
 | str {t s t'} (h : Str dec enc t s t') : Atom (34 :: t) (.ok (jStr ⟨s.toArray⟩) t')
 | num {c : UInt8} {s t v} (hc : c = 45 ∨ isDgB c = true) (h : s.all numC = true) (hv : N (c :: s) v) (ht : Ends numC t) : Atom (c :: s ++ t) (.ok v t)
 | bad {t} (h : Ends begC t) : Atom t (.err 160 t)
inductive Sev {σ : Type} (e : UInt8) (One : σ → List UInt8 → Out σ → Prop) : σ → List UInt8 → Out σ → Prop
 | stop {s t} : Sev e One s (e :: t) (.ok s t)
 | more {s s' t t' o} (h : One s t (.ok s' t')) (h' : Sev e One s' t' o) : Sev e One s (44 :: t) o
 | bad {s t x t'} (h : One s t (.err x t')) : Sev e One s (44 :: t) (.err x t')
inductive Sev0 {σ : Type} (e : UInt8) (One : σ → List UInt8 → Out σ → Prop) : σ → List UInt8 → Out σ → Prop
 | stop {s t} : Sev0 e One s (e :: t) (.ok s t)
 | more {s s' t t' o} (he : Ends (· == e) t) (h : One s t (.ok s' t')) (h' : Sev e One s' t' o) : Sev0 e One s t o
 | bad {s t x t'} (he : Ends (· == e) t) (h : One s t (.err x t')) : Sev0 e One s t (.err x t')
inductive OneL (P : List UInt8 → Out JV → Prop) : List JV → List UInt8 → Out (List JV) → Prop
 | ok {l t v t'} (h : P t (.ok v t')) : OneL P l t (.ok (l ++ [v]) t')
 | err {l t x t'} (h : P t (.err x t')) : OneL P l t (.err x t')
inductive OneR (P : List UInt8 → Out JV → Prop) : List ByteArray × List JV → List UInt8 → Out (List ByteArray × List JV) → Prop
 | ok {ks vs t t1 k t2 t3 v t4} (h1 : skipB t = 34 :: t1) (h2 : Str dec enc t1 k t2) (hk : ⟨k.toArray⟩ ∉ ks) (h3 : skipB t2 = 58 :: t3) (h4 : P t3 (.ok v t4)) :
   OneR P (ks, vs) t (.ok (ks ++ [⟨k.toArray⟩], vs ++ [v]) t4)
 | err {ks vs t t1 k t2 t3 x t4} (h1 : skipB t = 34 :: t1) (h2 : Str dec enc t1 k t2) (hk : ⟨k.toArray⟩ ∉ ks) (h3 : skipB t2 = 58 :: t3) (h4 : P t3 (.err x t4)) :
   OneR P (ks, vs) t (.err x t4)
 | twice {ks vs t t1 k t2} (h1 : skipB t = 34 :: t1) (h2 : Str dec enc t1 k t2) (hk : ⟨k.toArray⟩ ∈ ks) : OneR P (ks, vs) t (.err 162 (skipB t))
def Out.map {α β : Type} (f : α → β) : Out α → Out β
 | .ok v t => .ok (f v) t
 | .err e t => .err e t
inductive Core (P : List UInt8 → Out JV → Prop) : List UInt8 → Out JV → Prop
 | atom {t o} (h : Atom dec enc N t o) : Core P t o
 | list {t o} (h : Sev0 93 (OneL P) [] (skipB t) o) : Core P (91 :: t) (o.map jList)
 | rcd {t o} (h : Sev0 125 (OneR dec enc P) ([], []) (skipB t) o) : Core P (123 :: t) (o.map fun x => jRec x.1 x.2)
def Val : Nat → List UInt8 → Out JV → Prop
 | 0, t, o => ∃ o', Atom dec enc N (skipB t) o' ∧ o = o'.skip
 | n + 1, t, o => ∃ o', Core dec enc N (Val n) (skipB t) o' ∧ o = o'.skip
end
end Go.Proofs.YtckaoeloofbklaaGreatDoor
namespace Go.Proofs.YtckaoeloofbklaaGreatDoor
open Go Go.RowKit Go.Lib
structure KR (r : Nat) (w w' : World) : Prop where
 os : w'.os = w.os
 tape : w'.tape = w.tape
 output : w'.output = w.output
 size : w.heap.size ≤ w'.heap.size
 block : ∀ k, k < w.heap.size → k ≠ r → w'.heap[k]? = w.heap[k]?
theorem KR.refl (r : Nat) (w : World) : KR r w w := ⟨rfl, rfl, rfl, Nat.le_refl _, fun _ _ _ => rfl⟩
theorem KR.trans {r : Nat} {a b c : World} (h : KR r a b) (k : KR r b c) : KR r a c :=
 ⟨k.os.trans h.os, k.tape.trans h.tape, k.output.trans h.output, Nat.le_trans h.size k.size, fun i hi hr => (k.block i (Nat.lt_of_lt_of_le hi h.size) hr).trans (h.block i hi hr)⟩
theorem KR.of {r : Nat} {w w' : World} (h : Below w.heap.size w w') : KR r w w' := ⟨h.os, h.tape, h.output, h.size, fun k hk _ => h.block k hk⟩
theorem KR.below {r : Nat} {w w' : World} (h : KR r w w') (hr : r ≤ w.heap.size) : Below r w w' := ⟨h.os, h.tape, h.output, h.size, fun k hk => h.block k (by omega) (by omega)⟩
theorem KR.drewN {r : Nat} {a w : World} (h : KR r a w) (n : Nat) : KR r a (w.drewN n) := ⟨h.os, h.tape, h.output, h.size, h.block⟩
theorem KR.set {r : Nat} {a w : World} (h : KR r a w) (j : Nat) (u : Value) : KR r a (w.setCell ⟨r, j, none⟩ u) :=
 ⟨h.os, h.tape, h.output, by simpa [World.setCell] using h.size, fun k hk hr => (Below.heap_setCell w ⟨r, j, none⟩ u k hr).trans (h.block k hk hr)⟩
structure Rd (r : Nat) (s : ByteArray) (t : List UInt8) (d : Nat) (w : World) : Prop where
 at_ : w.heap[r]? = some (.cells #[.string s, .int .i64 ((s.size - t.length : Nat) : Int), .int .i64 (d : Int)] 56 (0, 0))
 suf : t <:+ s.data.toList
 big : s.size ≤ 35184372080000
theorem Rd.lt {r : Nat} {s : ByteArray} {t : List UInt8} {d : Nat} {w : World} (h : Rd r s t d w) : r < w.heap.size := (Array.getElem?_eq_some_iff.1 h.at_).1
theorem Rd.len {r : Nat} {s : ByteArray} {t : List UInt8} {d : Nat} {w : World} (h : Rd r s t d w) : t.length ≤ s.size := by
 have := h.suf.length_le
 simpa using this
theorem Rd.kept {r : Nat} {s : ByteArray} {t : List UInt8} {d : Nat} {w w' : World} (h : Rd r s t d w) (hb : w'.heap[r]? = w.heap[r]?) : Rd r s t d w' := ⟨hb.trans h.at_, h.suf, h.big⟩
theorem Rd.below {r : Nat} {s : ByteArray} {t : List UInt8} {d : Nat} {w w' : World} (h : Rd r s t d w) (hb : Below w.heap.size w w') : Rd r s t d w' := h.kept (hb.block r h.lt)
theorem Rd.drewN {r : Nat} {s : ByteArray} {t : List UInt8} {d : Nat} {w : World} (h : Rd r s t d w) (n : Nat) : Rd r s t d (w.drewN n) := h.kept rfl
theorem Rd.set {r : Nat} {s : ByteArray} {t t' : List UInt8} {d : Nat} {w : World} (h : Rd r s t d w) (ht : t' <:+ t) : Rd r s t' d (w.setCell ⟨r, 1, none⟩ (.int .i64 ((s.size - t'.length : Nat) : Int))) := by
 refine ⟨?_, ht.trans h.suf, h.big⟩
 have := setCellJ (j := 1) h.at_ (.int .i64 ((s.size - t'.length : Nat) : Int))
 simpa using this
theorem suf_get {s : ByteArray} {c : UInt8} {t : List UInt8} (h : (c :: t) <:+ s.data.toList) : ∃ h0 : s.size - (t.length + 1) < s.size, s[s.size - (t.length + 1)] = c := by
 obtain ⟨p, hp⟩ := h
 have hl := congrArg List.length hp
 rw [List.length_append, List.length_cons] at hl
 have hl2 : s.data.toList.length = s.size := by simp
 rw [hl2] at hl
 refine ⟨by omega, ?_⟩
 have e : s[s.size - (t.length + 1)]'(by omega) = s.data.toList[s.size - (t.length + 1)]'(by omega) := rfl
 rw [e]
 have : s.data.toList[s.size - (t.length + 1)]? = some c := by
  rw [← hp, List.getElem?_append_right (by omega), show s.size - (t.length + 1) - p.length = 0 by omega]
  rfl
 rw [List.getElem?_eq_getElem (by omega)] at this
 exact Option.some.inj this
theorem Rd.head {r : Nat} {s : ByteArray} {c : UInt8} {t : List UInt8} {d : Nat} {w : World} (h : Rd r s (c :: t) d w) :
  ∃ (m : Nat) (h0 : m < s.size), m + (t.length + 1) = s.size ∧ s[m] = c ∧ w.cell? ⟨r, 1, none⟩ = some (.int .i64 (m : Int)) := by
 obtain ⟨hlt, hget⟩ := suf_get h.suf
 have hl := h.len
 rw [List.length_cons] at hl
 exact ⟨_, hlt, by omega, hget, (cell_agg3 h.at_).2.1⟩
theorem Rd.pos {r : Nat} {s : ByteArray} {t : List UInt8} {d : Nat} {w : World} (h : Rd r s t d w) :
  ∃ (m : Nat), m + t.length = s.size ∧ w.cell? ⟨r, 1, none⟩ = some (.int .i64 (m : Int)) := by
 have hl := h.len
 exact ⟨_, by omega, (cell_agg3 h.at_).2.1⟩
theorem Rd.set' {r : Nat} {s : ByteArray} {t t' : List UInt8} {d : Nat} {w : World} (h : Rd r s t d w) (ht : t' <:+ t) (m : Nat) (hm : m + t'.length = s.size) : Rd r s t' d (w.setCell ⟨r, 1, none⟩ (.int .i64 (m : Int))) := by
 have := h.set ht
 rwa [show s.size - t'.length = m by omega] at this
def wrongV (e : Int) (at_ : Nat) : Value := .iface 53 (.agg #[.int .i64 e, .int .i64 (at_ : Int)])
def Gives (x : Int) (n : Nat) (e : Ending) : Prop := e = .panicked [{ v := wrongV x n, recovered := false }]
theorem fail_any (p : Value) (n : Nat) (w : World) : Calls Tryz.prog 26 #[p, .int .i64 (n : Int)] w fun e w' => Gives 160 n e ∧ w' = w := by
 unfold Gives wrongV
 go_enter Tryz.func26, Tryz.ntmps26
 go_wp2_with fail
 exact ⟨rfl, rfl, rfl⟩
theorem is_yes (r : Nat) (s : ByteArray) (c : UInt8) (t : List UInt8) (d : Nat) (w : World) (h : Rd r s (c :: t) d w) :
  Calls Tryz.prog 110 #[.pointer (some ⟨r, 0, none⟩), .int .u8 (c.toNat : Int)] w fun e w' => e = .returned (.bool true) ∧ Rd r s t d w' ∧ KR r w w' := by
 have hbig := h.big
 obtain ⟨m, hlt, hm, hget, c1⟩ := h.head
 have hR := Lib.hid (fun n => (h.drewN n).set' (t' := t) (List.suffix_cons c t) (m + 1) (by omega))
 have hK := Lib.hid (KR.refl r w)
 obtain ⟨c0, -, -⟩ := cell_agg3 h.at_
 have f1 := froz_agg h.at_ 1
 clear hm h
 have hli : (m : Int) < (s.size : Int) := by omega
 go_enter Tryz.func110, Tryz.ntmps110
 go_upto_region 1 with fail
 go_quiet (fail)
 go_wp2_with fail
 go_ret
 exact ⟨rfl, hR.out _, (hK.out.drewN _).set _ _⟩
theorem is_no (r : Nat) (s : ByteArray) (c : UInt8) (t : List UInt8) (d : Nat) (w : World) (h : Rd r s t d w) (hn : Ends (· == c) t) :
  Calls Tryz.prog 110 #[.pointer (some ⟨r, 0, none⟩), .int .u8 (c.toNat : Int)] w fun e w' => e = .returned (.bool false) ∧ Rd r s t d w' ∧ KR r w w' := by
 have hbig := h.big
 have hR := Lib.hid (fun n => h.drewN n)
 have hK := Lib.hid (KR.refl r w)
 obtain ⟨c0, -, -⟩ := cell_agg3 h.at_
 cases t with
 | nil =>
  obtain ⟨m, hm, c1⟩ := h.pos
  rw [List.length_nil, Nat.add_zero] at hm
  subst hm
  clear h
  go_enter Tryz.func110, Tryz.ntmps110
  go_upto_region 1 with fail
  go_quiet (fail)
  go_wp2_with fail
  go_ret
  exact ⟨rfl, hR.out _, hK.out.drewN _⟩
 | cons x t =>
  obtain ⟨m, hlt, hm, hget, c1⟩ := h.head
  have hx : ((x.toNat : Int) == (c.toNat : Int)) = false := by
   rw [beq_eq_false_iff_ne]
   intro e
   have : x = c := UInt8.toNat_inj.1 (by omega)
   simp [Ends, this] at hn
  have hli : (m : Int) < (s.size : Int) := by omega
  clear hm h
  go_enter Tryz.func110, Tryz.ntmps110
  go_upto_region 1 with fail
  go_quiet (fail)
  go_wp2_with fail
  go_ret
  exact ⟨rfl, hR.out _, hK.out.drewN _⟩
theorem must_yes (r : Nat) (s : ByteArray) (c : UInt8) (t : List UInt8) (d : Nat) (w : World) (h : Rd r s (c :: t) d w) :
  Calls Tryz.prog 78 #[.pointer (some ⟨r, 0, none⟩), .int .u8 (c.toNat : Int)] w fun e w' => e = .returned (.tuple #[]) ∧ Rd r s t d w' ∧ KR r w w' := by
 have HI := Lib.hid (is_yes r s c t d w h)
 clear h
 go_enter Tryz.func78, Tryz.ntmps78
 go_wp2_with fail
 refine HI.out.mono ?_
 rintro e w1 ⟨rfl, h1⟩
 have H1 := Lib.hid h1
 clear h1
 go_wp2_with fail
 go_end0
 exact ⟨rfl, H1.out⟩
theorem peek_cons (r : Nat) (s : ByteArray) (c : UInt8) (t : List UInt8) (d : Nat) (w : World) (h : Rd r s (c :: t) d w) :
  Calls Tryz.prog 52 #[.pointer (some ⟨r, 0, none⟩)] w fun e w' => e = .returned (.int .u8 (c.toNat : Int)) ∧ Rd r s (c :: t) d w' ∧ KR r w w' := by
 have hbig := h.big
 obtain ⟨m, hlt, hm, hget, c1⟩ := h.head
 have hR := Lib.hid (fun n => h.drewN n)
 have hK := Lib.hid (KR.refl r w)
 obtain ⟨c0, -, -⟩ := cell_agg3 h.at_
 clear hm h
 have hli : (m : Int) < (s.size : Int) := by omega
 go_enter Tryz.func52, Tryz.ntmps52
 go_upto_region 1 with fail
 go_quiet (fail)
 go_wp2_with fail
 go_quiet (fail)
 go_wp2_with fail
 go_ret
 exact ⟨rfl, (hR.out _).drewN _, (hK.out.drewN _).drewN _⟩
theorem peek_nil (r : Nat) (s : ByteArray) (d : Nat) (w : World) (h : Rd r s [] d w) :
  Calls Tryz.prog 52 #[.pointer (some ⟨r, 0, none⟩)] w fun e w' => e = .returned (.int .u8 0) ∧ Rd r s [] d w' ∧ KR r w w' := by
 have hbig := h.big
 obtain ⟨m, hm, c1⟩ := h.pos
 rw [List.length_nil, Nat.add_zero] at hm
 subst hm
 have hR := Lib.hid (fun n => h.drewN n)
 have hK := Lib.hid (KR.refl r w)
 obtain ⟨c0, -, -⟩ := cell_agg3 h.at_
 clear h
 go_enter Tryz.func52, Tryz.ntmps52
 go_upto_region 1 with fail
 go_quiet (fail)
 go_wp2_with fail
 go_ret
 exact ⟨rfl, hR.out _, hK.out.drewN _⟩
end Go.Proofs.YtckaoeloofbklaaGreatDoor
