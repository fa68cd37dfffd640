/- The law FormatThree, walked: it returns true. -/
import Derived.Test.YtmhofhblgcjihaaYb
import Derived.Deep.CutRange
import Derived.Deep.RegionHeld3
namespace Go.Proofs.Ytmhofhblgcjihaa
open Go Go.RowKit Go.Shelf

theorem conv_at (W : World) (g : Nat) (n : Int) (h : W.cell? ⟨g, 0, Option.none⟩ = some (.int .u8 n)) : (convert 31 9 (.slice (some ⟨g, 0, Option.none⟩) 1 1)).run Try.prog W = .ok (.string (strOfNums [n])) W :=
  run_convert_bytes_arg _ _ _ Try.underlying31 Try.underlying5 _ _ _ _ [n] rfl (fun i hi => by
    obtain rfl : i = 0 := by simp at hi; omega
    exact h) _ Try.underlying9

set_option maxHeartbeats 400000 in
theorem elem_eq (id : Int) (nm : ByteArray) (w : World) :
    Calls Try.prog 9 #[.int .i64 id, .string nm] w fun e w' => e = .returned (.agg #[.int .i64 id, .string (⟨#[104, 116, 109, 108]⟩ : ByteArray), .string nm]) ∧ w' = w.alloc (.cells #[.int .i64 id, .string (⟨#[104, 116, 109, 108]⟩ : ByteArray), .string nm] 29) := by
  go_enter Try.func9, Try.ntmps9
  go_wp2
  refine bodyPost_ret (v := .agg #[.int .i64 id, .string (⟨#[104, 116, 109, 108]⟩ : ByteArray), .string nm]) (by simp [results, Try.results9, go_sem]) rfl ⟨rfl, ?_⟩
  rfl

/-- a push behind what made memory -/
theorem st_push2 {w W0 W : World} {b : Nat} {l : List Ab} (h : St w b l W0) (hb : Below W0.heap.size W0 W) (e : El) (x : At) (g : Nat) (hg : W0.heap.size ≤ g) (c0 : W.cell? ⟨g, 0, Option.none⟩ = some (.string x.sp)) (c1 : W.cell? ⟨g, 1, Option.none⟩ = some (.string x.nm)) (c2 : W.cell? ⟨g, 2, Option.none⟩ = some (.string x.va)) (hlen : l.length < 900000) (l' : List Ab) (hl : pushB l e [x] = l') :
    Calls Try.prog 10 #[.pointer (some ⟨b, 0, Option.none⟩), .agg #[.int .i64 e.id, .string e.sp, .string e.nm], .slice (some ⟨g, 0, Option.none⟩) 1 1] W fun e' W' => e' = .returned (.tuple #[]) ∧ St w b l' W' := by
  refine st_push h hb e _ [x] (.inr ⟨g, 0, 1, rfl, World.block_lt_of_cell? W _ c0, by simp, by simp, fun j y hj => ?_⟩) (fun _ q o n c e => ?_) (by simp) hlen l' hl
  · cases j with
    | zero => simp at hj; subst hj; exact ⟨by simpa using c0, by simpa using c1, by simpa using c2⟩
    | succ j => simp at hj
  · cases e; exact hg

theorem conv_two (X : World) (n : Int) (o1 o2 : Obj) : (convert 31 9 (.slice (some ⟨X.heap.size, 0, Option.none⟩) 1 1)).run Try.prog (((X.alloc (.cells #[.int .u8 n] 5)).alloc o1).alloc o2).drew = .ok (.string (strOfNums [n])) (((X.alloc (.cells #[.int .u8 n] 5)).alloc o1).alloc o2).drew := by
  refine conv_at _ _ n ?_
  have h1 := World.cell?_alloc_lt ((X.alloc (.cells #[.int .u8 n] 5)).alloc o1) o2 ⟨X.heap.size, 0, Option.none⟩ (by simp; omega)
  have h2 := World.cell?_alloc_lt (X.alloc (.cells #[.int .u8 n] 5)) o1 ⟨X.heap.size, 0, Option.none⟩ (by simp)
  exact h1.trans (h2.trans (by simp [go_sem]))

theorem conv_mid (X : World) (n : Int) (o0 o1 : Obj) : (convert 31 9 (.slice (some ⟨X.heap.size + 1, 0, Option.none⟩) 1 1)).run Try.prog (((X.alloc o0).alloc (.cells #[.int .u8 n] 5)).alloc o1).drew = .ok (.string (strOfNums [n])) (((X.alloc o0).alloc (.cells #[.int .u8 n] 5)).alloc o1).drew := by
  refine conv_at _ _ n ?_
  have h2 := World.cell?_alloc_lt ((X.alloc o0).alloc (.cells #[.int .u8 n] 5)) o1 ⟨X.heap.size + 1, 0, Option.none⟩ (by simp)
  exact h2.trans (by simp [go_sem])

theorem st_lenI {w W : World} {b : Nat} {l : List Ab} (h : St w b l W) (c : Int) (hc : (l.length : Int) = c) :
    Calls Try.prog 13 #[.pointer (some ⟨b, 0, Option.none⟩)] W fun e W' => e = .returned (.int .i64 c) ∧ W = W' := by
  rw [← hc]; exact st_len h l.length rfl

theorem remF_len (q : Ab → Bool) (B : List Ab) : (remF q B).length ≤ B.length := by
  unfold remF
  split
  · exact List.eraseP_sublist.length_le
  · exact Nat.le_refl _

theorem count_step (P : Ab → Bool) (B : List Ab) (j : Nat) (hj : j < B.length) : (B.drop (B.length - (j + 1))).countP P = (B.drop (B.length - j)).countP P + (if P (B[B.length - (j + 1)]'(by omega)) = true then 1 else 0) := by
  have hlt : B.length - (j + 1) < B.length := by omega
  rw [List.drop_eq_getElem_cons hlt, List.countP_cons, show B.length - (j + 1) + 1 = B.length - j from by omega]

theorem keep_alloc {X : World} {p : Addr} {v : Value} {o : Obj} (h : X.drew.cell? p = some v) : (X.alloc o).drew.cell? p = some v :=
  (World.cell?_alloc_lt X.drew o p (World.block_lt_of_cell? X.drew _ h)).trans h

set_option maxRecDepth 100000 in
set_option maxHeartbeats 8000000 in
theorem three_walk (kv : Value) (ks : List Int) (w : World) (hk : IntsAt w kv ks) (hwf : ∀ x ∈ ks, x ≤ 9223372036854775807) :
    Calls Try.prog 4 #[kv] w fun e w' => e = .returned (.bool true) ∧ Below w.heap.size w w' := by
  have hlen := hk.len
  obtain ⟨va, vc, rfl⟩ := hk.form
  have HK := Lib.hid hk
  have HWF := Lib.hid hwf
  clear hk hwf
  go_enter Try.func4, Try.ntmps4
  go_wp2_with fail
  refine (works_any _).mono ?_
  rintro e w1 ⟨rfl, hb1⟩
  have s0 : St w w1.heap.size ([] ++ []) (w1.alloc (.cells #[.slice Option.none 0 0] 27)) := St.new hb1 _ rfl
  clear hb1
  go_wp2_with fail
  go_loopw [5] (fun i wr => ∃ k : Nat, k ≤ ks.length ∧ k ≤ 2000 ∧ i = .int .i64 k ∧ ∃ A B : List Ab, St w w1.heap.size (A ++ B) wr ∧ TInv A B ∧ (A ++ B).length ≤ k) (fun i _ => ks.length - (intOf i).toNat)
  case atStart => exact ⟨0, by omega, by omega, rfl, [], [], s0, TInv.zero, by simp⟩
  case round =>
    obtain ⟨k, hk1, hk2, rfl, A, B, s1, hT, hln⟩ := hrel
    clear s0
    have HT := Lib.hid hT
    clear hT
    by_cases hgo : k < ks.length ∧ k < 2000
    · obtain ⟨hlt, hlt2⟩ := hgo
      obtain ⟨b, off, rfl, _, hbl, hc⟩ := ints_at HK.out hlt
      have hcr := (s1.below.cell (p := ⟨b, off + k, Option.none⟩) hbl).trans hc
      have hc2 : ∀ W, Below w.heap.size w W → W.cell? ⟨b, off + k, Option.none⟩ = some (.int .i64 ks[k]) := fun W hW => (hW.cell (p := ⟨b, off + k, Option.none⟩) hbl).trans hc
      have HC := Lib.hid hc2
      clear hc2 hc
      have hkb := HWF.out ks[k] (List.getElem_mem hlt)
      generalize ks[k] = kk at *
      by_cases hneg : kk < 0
      · go_wp2_with fail
        refine (st_mark s1 (by omega) _ rfl).mono ?_
        rintro e w2 ⟨rfl, s2⟩
        clear s1
        go_wp2_with fail
        go_roundw
        case rel => exact ⟨k + 1, by omega, by omega, by go_num, _, [], by rw [List.append_nil]; exact s2, HT.out.mark, by simp at hln ⊢; omega⟩
        case measure => simp [intOf] <;> omega
      · have hw1 : IntKind.i64.wrap ((k : Int) + 1) = (k : Int) + 1 := by rw [IntKind.wrap_i64]; omega
        have hsz := s1.below.size
        obtain ⟨hp1, hp2⟩ := HT.out.push ⟨(k : Int) + 1, (⟨#[104, 116, 109, 108]⟩ : ByteArray), strOfNums [97 + kk % 3]⟩ ⟨⟨#[]⟩, ⟨#[120]⟩, strOfNums [97 + kk / 3 % 2]⟩ (by simp; omega) rfl
        have HP1 := Lib.hid hp1
        have HP2 := Lib.hid hp2
        have S1 := Lib.hid s1
        clear hp1 hp2 s1
        have hm1 : kk.tmod 3 = kk % 3 := Int.tmod_eq_emod_of_nonneg (by omega)
        have hm2 : kk.tdiv 3 = kk / 3 := Int.tdiv_eq_ediv_of_nonneg (by omega)
        have hm3 : (kk / 3).tmod 2 = kk / 3 % 2 := Int.tmod_eq_emod_of_nonneg (by omega)
        have hs1 : IntKind.i64.wrap (97 + kk % 3) = 97 + kk % 3 := IntWalk.i64_in _ (by omega)
        have hs2 : IntKind.i64.wrap (97 + kk / 3 % 2) = 97 + kk / 3 % 2 := IntWalk.i64_in _ (by omega)
        have hs3 : IntKind.u8.wrap (97 + kk % 3) = 97 + kk % 3 := by simp [IntKind.wrap, IntKind.signed, IntKind.bits]; omega
        have hs4 : IntKind.u8.wrap (97 + kk / 3 % 2) = 97 + kk / 3 % 2 := by simp [IntKind.wrap, IntKind.signed, IntKind.bits]; omega
        have hs5 : IntKind.i64.wrap (kk / 3) = kk / 3 := IntWalk.i64_in _ (by omega)
        have hcv1 := fun (W : World) (g : Nat) => conv_at W g (97 + kk % 3)
        have hcv2 := fun (W : World) (g : Nat) => conv_at W g (97 + kk / 3 % 2)
        have hcv3 := conv_two
        have hcv4 := conv_mid
        go_upto_region 10 with fail
        go_cut [] from 17 to 110 (fun wx => St w w1.heap.size (A ++ (remF (alikeS ⟨(k : Int) + 1, (⟨#[104, 116, 109, 108]⟩ : ByteArray), strOfNums [97 + kk % 3]⟩ [⟨⟨#[]⟩, ⟨#[120]⟩, strOfNums [97 + kk / 3 % 2]⟩]) B ++ [⟨⟨(k : Int) + 1, (⟨#[104, 116, 109, 108]⟩ : ByteArray), strOfNums [97 + kk % 3]⟩, [⟨⟨#[]⟩, ⟨#[120]⟩, strOfNums [97 + kk / 3 % 2]⟩]⟩])) wx)
        case first =>
          go_region_held (fun w' => w'.cell? ⟨b, off + k, Option.none⟩ = some (.int .i64 kk)) (first | assumption | exact keep_alloc (by assumption) | exact hcr | exact HC.out _ hs'.below)
            (first
              | (go_at_call 9; (refine (elem_eq _ _ _).mono ?_); rintro e w' ⟨rfl, rfl⟩)
              | (go_at_call 10; refine (st_push2 S1.out (by repeat (first | exact Below.refl _ _ | refine Below.drew ?_ | refine Below.alloc ?_ (by simp <;> omega) _)) ⟨(k : Int) + 1, (⟨#[104, 116, 109, 108]⟩ : ByteArray), strOfNums [97 + kk % 3]⟩ ⟨⟨#[]⟩, ⟨#[120]⟩, strOfNums [97 + kk / 3 % 2]⟩ _ (by omega) (by simp [go_sem]) (by simp [go_sem]) (by simp [go_sem]) (by omega) _ HP1.out).mono ?_; rintro e w' ⟨rfl, hs'⟩))
          all_goals
            go_wp2
            go_meet
            exact hs'
        case rest =>
          clear hm1 hm2 hm3 hs1 hs2 hs3 hs4 hs5 hcv1 hcv2 hcv3 hcv4 hcr
          obtain ⟨Bn, hBn⟩ : ∃ Bn, Bn = remF (alikeS ⟨(k : Int) + 1, (⟨#[104, 116, 109, 108]⟩ : ByteArray), strOfNums [97 + kk % 3]⟩ [⟨⟨#[]⟩, ⟨#[120]⟩, strOfNums [97 + kk / 3 % 2]⟩]) B ++ [⟨⟨(k : Int) + 1, (⟨#[104, 116, 109, 108]⟩ : ByteArray), strOfNums [97 + kk % 3]⟩, [⟨⟨#[]⟩, ⟨#[120]⟩, strOfNums [97 + kk / 3 % 2]⟩]⟩] := ⟨_, rfl⟩
          rw [← hBn] at hcut HP2
          have hrl := remF_len (alikeS ⟨(k : Int) + 1, (⟨#[104, 116, 109, 108]⟩ : ByteArray), strOfNums [97 + kk % 3]⟩ [⟨⟨#[]⟩, ⟨#[120]⟩, strOfNums [97 + kk / 3 % 2]⟩]) B
          have hbl2 : Bn.length = (remF (alikeS ⟨(k : Int) + 1, (⟨#[104, 116, 109, 108]⟩ : ByteArray), strOfNums [97 + kk % 3]⟩ [⟨⟨#[]⟩, ⟨#[120]⟩, strOfNums [97 + kk / 3 % 2]⟩]) B).length + 1 := by rw [hBn]; simp
          have hxl0 : (A ++ Bn)[A.length + (Bn.length - 1)]? = some ⟨⟨(k : Int) + 1, (⟨#[104, 116, 109, 108]⟩ : ByteArray), strOfNums [97 + kk % 3]⟩, [⟨⟨#[]⟩, ⟨#[120]⟩, strOfNums [97 + kk / 3 % 2]⟩]⟩ := by
            rw [List.getElem?_append_right (by omega), Nat.add_sub_cancel_left, hbl2, Nat.add_sub_cancel, hBn]
            simp
          obtain ⟨m, hm⟩ : ∃ m, m + 1 = A.length + Bn.length := ⟨A.length + Bn.length - 1, by omega⟩
          have hxl : (A ++ Bn)[m]? = some ⟨⟨(k : Int) + 1, (⟨#[104, 116, 109, 108]⟩ : ByteArray), strOfNums [97 + kk % 3]⟩, [⟨⟨#[]⟩, ⟨#[120]⟩, strOfNums [97 + kk / 3 % 2]⟩]⟩ := by
            rw [show m = A.length + (Bn.length - 1) from by omega]; exact hxl0
          have hll : ((A ++ Bn).length : Int) = (m : Int) + 1 := by rw [List.length_append]; omega
          have hmk : m + 1 ≤ k + 1 := by rw [List.length_append] at hln; omega
          have hT3 := HP2.out.le3 (strOfNums [97 + kk % 3]) [⟨⟨#[]⟩, ⟨#[120]⟩, strOfNums [97 + kk / 3 % 2]⟩]
          have HLL := Lib.hid hll
          have HXL := Lib.hid hxl
          have HT3 := Lib.hid hT3
          have HM := Lib.hid hm
          clear hBn hbl2 hrl hxl0 hll hxl hT3 HP1 S1 hm
          generalize strOfNums [97 + kk % 3] = nm at *
          generalize strOfNums [97 + kk / 3 % 2] = av at *
          have hw2 : IntKind.i64.wrap ((m : Int) + 1 - 1) = (m : Int) := by rw [IntKind.wrap_i64]; omega
          go_wp2_with fail
          refine (st_lenI hcut _ HLL.out).mono ?_
          rintro e w' ⟨rfl, rfl⟩
          go_wp2_with fail
          refine (st_at hcut m _ HXL.out).mono ?_
          rintro e w3 ⟨xa, xc, rfl, hxa, _, hb3⟩
          dsimp only [List.length_cons, List.length_nil, Nat.zero_add]
          have hx3 : Below w3.heap.size w3 (w3.alloc (.cells #[.int .i64 ((k : Int) + 1), .string (⟨#[104, 116, 109, 108]⟩ : ByteArray), .string nm, .slice xa 1 xc] 37)) := (Below.refl _ _).alloc (Nat.le_refl _) _
          have s3 := (hcut.go hb3).go hx3
          have S3 := Lib.hid s3
          have HX := Lib.hid (hxa.below (Nat.le_refl _) hx3)
          have z0 : (w3.alloc (.cells #[.int .i64 ((k : Int) + 1), .string (⟨#[104, 116, 109, 108]⟩ : ByteArray), .string nm, .slice xa 1 xc] 37)).heap[w3.heap.size]? = some (.cells #[.int .i64 ((k : Int) + 1), .string (⟨#[104, 116, 109, 108]⟩ : ByteArray), .string nm, .slice xa 1 xc] 37 (0, 0)) := heap_alloc_new _ _
          have HZ := Lib.hid z0
          have hz3 : w3.heap.size < (w3.alloc (.cells #[.int .i64 ((k : Int) + 1), .string (⟨#[104, 116, 109, 108]⟩ : ByteArray), .string nm, .slice xa 1 xc] 37)).heap.size := by simp
          clear hxa hb3 hx3 s3 z0 hcut
          go_wp2_with fail
          have S3' := S3.out
          refine (st_lenI S3.out _ HLL.out).mono ?_
          rintro e w' ⟨rfl, rfl⟩
          generalize hW4 : w3.alloc (.cells #[.int .i64 ((k : Int) + 1), .string (⟨#[104, 116, 109, 108]⟩ : ByteArray), .string nm, .slice xa 1 xc] 37) = w4 at *
          clear hW4 S3'
          go_wp2_with fail
          have hlb : (A ++ Bn).length ≤ k + 1 := by have := HM.out; rw [List.length_append]; omega
          go_loopw [8, 9] (fun n i wr2 => ∃ j : Nat, j ≤ Bn.length ∧ i = .int .i64 ((m : Int) - j) ∧ n = .int .i64 (((Bn.drop (Bn.length - j)).countP (likeP nm [⟨⟨#[]⟩, ⟨#[120]⟩, av⟩]) : Nat) : Int) ∧ Below w4.heap.size w4 wr2) (fun _ i _ => (intOf i + 1).toNat)
          case atStart => exact ⟨0, by omega, by simp, by simp, Below.refl _ _⟩
          case round =>
            obtain ⟨j, hj, rfl, rfl, hB⟩ := hrel
            have HBW := Lib.hid hB
            have s5 := S3.out.go hB
            have S5 := Lib.hid s5
            have hbk : ∀ W, Below w4.heap.size w4 W → W.cell? ⟨w3.heap.size, 0, Option.none⟩ = some (.int .i64 ((k : Int) + 1)) ∧ W.cell? ⟨w3.heap.size, 2, Option.none⟩ = some (.string nm) ∧ W.cell? ⟨w3.heap.size, 3, Option.none⟩ = some (.slice xa 1 xc) ∧ AtsAt W (.slice xa 1 xc) [⟨⟨#[]⟩, ⟨#[120]⟩, av⟩] := fun W hW => by
              have hb := (hW.block w3.heap.size hz3).trans HZ.out
              exact ⟨by rw [cell_of_row W _ 0 _ _ _ hb]; rfl, by rw [cell_of_row W _ 2 _ _ _ hb]; rfl, by rw [cell_of_row W _ 3 _ _ _ hb]; rfl, HX.out.below (Nat.le_refl _) hW⟩
            have HBK := Lib.hid hbk
            clear hB s5 hbk
            by_cases hjl : j < Bn.length
            · obtain ⟨q, hq⟩ : ∃ q : Nat, q + j = m := ⟨m - j, by have := HM.out; omega⟩
              have hqi : ((m : Int) - (j : Int)) = (q : Int) := by omega
              have hcs := count_step (likeP nm [⟨⟨#[]⟩, ⟨#[120]⟩, av⟩]) Bn j hjl
              have hlt9 : Bn.length - (j + 1) < Bn.length := by omega
              have hyq : (A ++ Bn)[q]? = some Bn[Bn.length - (j + 1)] := by
                have := HM.out
                rw [List.getElem?_append_right (by omega), show q - A.length = Bn.length - (j + 1) from by omega, List.getElem?_eq_getElem hlt9]
              have hyn := HP2.out.nom _ (List.getElem_mem hlt9)
              generalize Bn[Bn.length - (j + 1)] = y at *
              have hid : (y.el.id == 0) = false := by simpa [noMark] using hyn
              have HCS := Lib.hid hcs
              have hat := st_at S5.out q y hyq
              have HAT := Lib.hid hat
              have HQ := Lib.hid hq
              have hcn : (Bn.drop (Bn.length - j)).countP (likeP nm [⟨⟨#[]⟩, ⟨#[120]⟩, av⟩]) ≤ 1000000 := by
                have h1 := List.countP_le_length (l := Bn.drop (Bn.length - j)) (p := likeP nm [⟨⟨#[]⟩, ⟨#[120]⟩, av⟩])
                have h2 := S5.out.len
                simp at h1 h2
                omega
              have HJ := Lib.hid hj
              rw [hqi]
              generalize (Bn.drop (Bn.length - j)).countP (likeP nm [⟨⟨#[]⟩, ⟨#[120]⟩, av⟩]) = cn at *
              clear hcs hyq hyn hat hqi hlt9 hq hj
              go_wp2_with fail
              refine HAT.out.mono ?_
              rintro e w6 ⟨ya, yc, rfl, hya, _, hb6⟩
              dsimp only
              have hb7 : Below wr.heap.size wr (w6.alloc (.cells #[.int .i64 y.el.id, .string y.el.sp, .string y.el.nm, .slice ya y.ats.length yc] 37)) := hb6.alloc hb6.size _
              have hb8 := HBW.out.trans (hb7.mono HBW.out.size)
              obtain ⟨x0, x2, x3, hxx⟩ := HBK.out _ hb8
              have HYA := Lib.hid (hya.below (Nat.le_refl _) ((Below.refl w6.heap.size w6).alloc (Nat.le_refl _) (.cells #[.int .i64 y.el.id, .string y.el.sp, .string y.el.nm, .slice ya y.ats.length yc] 37)))
              have HXX := Lib.hid hxx
              have HB8 := Lib.hid hb8
              have hw3 : IntKind.i64.wrap ((q : Int) - 1) = (q : Int) - 1 := by have := HQ.out; rw [IntKind.wrap_i64]; omega
              have hw4 : IntKind.i64.wrap ((cn : Int) + 1) = (cn : Int) + 1 := by rw [IntKind.wrap_i64]; omega
              clear hya hb6 hb7 hb8 hxx
              cases hn : (y.el.nm.toList == nm.toList)
              · have HN := Lib.hid hn
                go_wp2_with fail
                go_roundw
                case rel => exact ⟨j + 1, by omega, by have := HQ.out; congr 1; omega, by rw [HCS.out]; simp [likeP, HN.out], HB8.out⟩
                case measure => simp [intOf] <;> omega
              · have HN := Lib.hid hn
                go_wp2_with fail
                refine (same_any _ _ _ _ _ HYA.out HXX.out).mono ?_
                rintro e w9 ⟨rfl, hb9⟩
                have HB9 := Lib.hid (HB8.out.trans (hb9.mono HB8.out.size))
                clear hb9
                cases hs : sameB y.ats [⟨⟨#[]⟩, ⟨#[120]⟩, av⟩]
                · have HS := Lib.hid hs
                  go_wp2_with fail
                  go_roundw
                  case rel => exact ⟨j + 1, by omega, by have := HQ.out; congr 1; omega, by rw [HCS.out]; simp [likeP, HN.out, HS.out], HB9.out⟩
                  case measure => simp [intOf] <;> omega
                · have HS := Lib.hid hs
                  go_wp2_with fail
                  go_roundw
                  case rel => exact ⟨j + 1, by omega, by have := HQ.out; congr 1; omega, by rw [HCS.out]; simp [likeP, HN.out, HS.out], HB9.out⟩
                  case measure => simp [intOf] <;> omega
            · obtain rfl : j = Bn.length := by omega
              rw [Nat.sub_self, List.drop_zero]
              have hT3' := HT3.out
              generalize hcn : Bn.countP (likeP nm [⟨⟨#[]⟩, ⟨#[120]⟩, av⟩]) = cn at *
              clear hcn
              rcases HT.out.hmk with hA | ⟨A', mk, hA, hmk2⟩
              · have hneg1 : ((m : Int) - (Bn.length : Int)) = -1 := by have := HM.out; rw [hA] at this; simp at this; omega
                rw [hneg1]
                obtain ⟨x0, _, _, _⟩ := HBK.out _ HBW.out
                clear hneg1 hA
                go_wp2_with fail
                go_roundw
                case rel => exact ⟨k + 1, by omega, by omega, by go_num, A, Bn, S5.out, HP2.out, hlb⟩
                case measure => simp [intOf] <;> omega
              · have hqi : ((m : Int) - (Bn.length : Int)) = ((A'.length : Nat) : Int) := by have := HM.out; rw [hA] at this; simp at this; omega
                have hyq : (A ++ Bn)[A'.length]? = some mk := by rw [hA]; simp
                have hid : (mk.el.id == 0) = true := by simpa [noMark] using hmk2
                have HAT := Lib.hid (st_at S5.out A'.length mk hyq)
                rw [hqi]
                clear hqi hyq hA hmk2
                generalize A'.length = q at *
                go_wp2_with fail
                refine HAT.out.mono ?_
                rintro e w6 ⟨ya, yc, rfl, hya, _, hb6⟩
                dsimp only
                have hb7 : Below wr.heap.size wr (w6.alloc (.cells #[.int .i64 mk.el.id, .string mk.el.sp, .string mk.el.nm, .slice ya mk.ats.length yc] 37)) := hb6.alloc hb6.size _
                have hb8 := HBW.out.trans (hb7.mono HBW.out.size)
                obtain ⟨x0, _, _, _⟩ := HBK.out _ hb8
                have S9 := Lib.hid (S3.out.go hb8)
                clear hya hb6 hb7 hb8
                go_wp2_with fail
                go_roundw
                case rel => exact ⟨k + 1, by omega, by omega, by go_num, A, Bn, S9.out, HP2.out, hlb⟩
                case measure => simp [intOf] <;> omega
    · by_cases hlt : k < ks.length
      · have hlt2 : ¬ k < 2000 := by omega
        clear hgo
        go_wp2_with fail
        go_ret
        exact ⟨rfl, s1.below⟩
      · clear hgo
        go_wp2_with fail
        go_ret
        exact ⟨rfl, s1.below⟩
end Go.Proofs.Ytmhofhblgcjihaa
