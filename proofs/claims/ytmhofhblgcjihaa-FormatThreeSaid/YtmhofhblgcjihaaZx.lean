/- The law FormatFinds, walked: it returns true. -/
import Derived.Test.YtmhofhblgcjihaaZw
import Derived.Laws.BytesArg
namespace Go.Proofs.Ytmhofhblgcjihaa
open Go Go.RowKit Go.Shelf

theorem ints_at {w : World} {va : Option Addr} {n c : Nat} {l : List Int} (h : IntsAt w (.slice va n c) l) {k : Nat} (hk : k < l.length) :
    ∃ b off, va = some ⟨b, off, Option.none⟩ ∧ n = l.length ∧ b < w.heap.size ∧ w.cell? ⟨b, off + k, Option.none⟩ = some (.int .i64 l[k]) := by
  rcases h with ⟨rfl, _⟩ | ⟨b, off, c', he, hlt, _, hc⟩
  · simp at hk
  · cases he
    exact ⟨b, off, rfl, rfl, hlt, hc k l[k] (by simp [hk])⟩

theorem IntsAt.len {w : World} {v : Value} {l : List Int} (h : IntsAt w v l) : l.length ≤ 9223372036854775807 := by
  rcases h with ⟨rfl, _⟩ | ⟨b, off, c, rfl, _, h, _⟩
  · simp
  · exact h

theorem one_str (W : World) (n : Int) : (convert 31 9 (.slice (some ⟨W.heap.size, 0, Option.none⟩) 1 1)).run Try.prog (W.alloc (.cells #[.int .u8 n] 5)) = .ok (.string (strOfNums [n])) (W.alloc (.cells #[.int .u8 n] 5)) :=
  run_convert_bytes_arg _ _ _ Try.underlying31 Try.underlying5 _ _ _ _ [n] rfl (fun i hi => by
    obtain rfl : i = 0 := by simp at hi; omega
    simp [go_sem]) _ Try.underlying9

theorem two_str (W : World) (B : Nat) (hB : W.heap.size = B) (n m : Int) : (convert 31 9 (.slice (some ⟨B, 0, Option.none⟩) 2 2)).run Try.prog (W.alloc (.cells #[.int .u8 n, .int .u8 m] 5)) = .ok (.string (strOfNums [n, m])) (W.alloc (.cells #[.int .u8 n, .int .u8 m] 5)) := by
  subst hB
  exact run_convert_bytes_arg _ _ _ Try.underlying31 Try.underlying5 _ _ _ _ [n, m] rfl (fun i hi => by
    have : i = 0 ∨ i = 1 := by simp at hi; omega
    rcases this with rfl | rfl <;> simp [go_sem]) _ Try.underlying9

theorem ats_one (w : World) (x : At) : AtsAt (w.alloc (.cells #[.string x.sp, .string x.nm, .string x.va] 34)) (.slice (some ⟨w.heap.size, 0, Option.none⟩) 1 1) [x] := by
  refine .inr ⟨w.heap.size, 0, 1, rfl, by simp, by simp, by simp, fun j y hj => ?_⟩
  cases j with
  | zero => simp at hj; subst hj; simp [go_sem]
  | succ j => simp at hj

/-- a push of an element with one attribute that was laid for it -/
theorem st_push1 {w W0 W : World} {b : Nat} {l : List Ab} (h : St w b l W0) (hb : Below W0.heap.size W0 W) (e : El) (x : At) (B : Nat) (hB : B = W.heap.size) (hlen : l.length < 900000) (l' : List Ab) (hl : pushB l e [x] = l') :
    Calls Try.prog 10 #[.pointer (some ⟨b, 0, Option.none⟩), .agg #[.int .i64 e.id, .string e.sp, .string e.nm], .slice (some ⟨B, 0, Option.none⟩) 1 1] (W.alloc (.cells #[.string x.sp, .string x.nm, .string x.va] 34)) fun e' W' => e' = .returned (.tuple #[]) ∧ St w b l' W' := by
  subst hB
  refine st_push h (hb.alloc hb.size _) e _ [x] (ats_one W x) (fun _ q o n c e => ?_) (by simp) hlen l' hl
  cases e
  exact hb.size

def atF (k : Nat) : At := ⟨⟨#[]⟩, ⟨#[120]⟩, strOfNums [(k : Int) % 256, (k : Int) / 256]⟩

theorem atF_inj {j k : Nat} (hj : j < k) (hk : k < 500) : sameL [atF j] [atF k] = false := by
  cases h : sameL [atF j] [atF k]
  · rfl
  · have h1 := (sameL_iff _ _).1 h
    simp only [atF, List.cons.injEq, At.mk.injEq, and_true, true_and] at h1
    have h2 := congrArg (fun s : ByteArray => s.data.toList) h1
    simp only [strOfNums_data, List.map_cons, List.map_nil, List.cons.injEq, and_true] at h2
    have h3 := congrArg UInt8.toNat h2.1
    have h4 := congrArg UInt8.toNat h2.2
    simp only [UInt8.toNat_ofNat'] at h3 h4
    omega

theorem name_eq {a b : Int} (ha : 0 ≤ a ∧ a ≤ 100) (hb : 0 ≤ b ∧ b ≤ 100) : ((strOfNums [97 + a]).toList == (strOfNums [97 + b]).toList) = decide (a = b) := by
  rw [Bool.eq_iff_iff, beq_iff_eq, decide_eq_true_eq]
  constructor
  · intro h
    have h2 := congrArg (fun s : ByteArray => s.data.toList) (toList_inj h)
    simp only [strOfNums_data, List.map_cons, List.map_nil, List.cons.injEq, and_true] at h2
    have h3 := congrArg UInt8.toNat h2
    simp only [UInt8.toNat_ofNat'] at h3
    omega
  · rintro rfl; rfl

structure FInv (nm : ByteArray) (k : Nat) (A B : List Ab) (la : Int) : Prop where
  hmk : Mk A
  nom : NoM B
  len : A.length + B.length = k
  one : ∀ x ∈ B, ∃ j, j < k ∧ x.ats = [atF j]
  find : (la = 0 ∧ B.reverse.find? (fun x => x.el.nm.toList == nm.toList) = Option.none) ∨ (0 < la ∧ ∃ x, B.reverse.find? (fun x => x.el.nm.toList == nm.toList) = some x ∧ x.el.id = la ∧ x.ats.length = 1)

theorem FInv.zero (nm : ByteArray) : FInv nm 0 [] [] 0 := ⟨.inl rfl, fun x h => by simp at h, rfl, fun x h => by simp at h, .inl ⟨rfl, rfl⟩⟩
theorem FInv.mark {nm : ByteArray} {k : Nat} {A B : List Ab} {la : Int} (h : FInv nm k A B la) : FInv nm (k + 1) (A ++ B ++ [Ab.none]) [] 0 :=
  ⟨Mk.mark A B, fun x h => by simp at h, by have := h.len; simp; omega, fun x h => by simp at h, .inl ⟨rfl, rfl⟩⟩

theorem FInv.push {nm n1 : ByteArray} {k : Nat} {A B : List Ab} {la : Int} (h : FInv nm k A B la) (hk : k < 500) :
    pushB (A ++ B) ⟨(k : Int) + 1, (⟨#[104, 116, 109, 108]⟩ : ByteArray), n1⟩ [atF k] = A ++ (B ++ [⟨⟨(k : Int) + 1, (⟨#[104, 116, 109, 108]⟩ : ByteArray), n1⟩, [atF k]⟩]) ∧
    FInv nm (k + 1) A (B ++ [⟨⟨(k : Int) + 1, (⟨#[104, 116, 109, 108]⟩ : ByteArray), n1⟩, [atF k]⟩]) (if (n1.toList == nm.toList) = true then (k : Int) + 1 else la) := by
  constructor
  · rw [pushB_split h.hmk h.nom]
    have h0 : B.countP (alikeB ⟨(k : Int) + 1, (⟨#[104, 116, 109, 108]⟩ : ByteArray), n1⟩ (sortA [atF k])) = 0 := by
      rw [List.countP_eq_zero]
      intro x hx
      obtain ⟨j, hj, hxa⟩ := h.one x hx
      rw [alike_small (by simp) (by rw [hxa]; simp)]
      unfold alikeS
      rw [hxa, atF_inj hj hk]
      simp
    rw [remF, if_neg (by omega)]
  · refine ⟨h.hmk, h.nom.snoc (by show ¬ ((k : Int) + 1 = 0); omega), by have := h.len; simp; omega, ?_, ?_⟩
    · intro x hx
      rcases List.mem_append.1 hx with h1 | h1
      · obtain ⟨j, hj, e⟩ := h.one x h1
        exact ⟨j, by omega, e⟩
      · simp at h1
        exact ⟨k, by omega, by rw [h1]⟩
    · rw [List.reverse_append]
      simp only [List.reverse_cons, List.reverse_nil, List.nil_append, List.singleton_append, List.find?_cons]
      cases hn : (n1.toList == nm.toList)
      · simpa using h.find
      · refine .inr ⟨?_, _, rfl, by simp, rfl⟩
        simp only [if_true]; omega

set_option maxRecDepth 100000 in
set_option maxHeartbeats 8000000 in
theorem finds_walk (kv : Value) (ks : List Int) (wh : Int) (w : World) (hk : IntsAt w kv ks) (h0 : 0 ≤ wh) (h1 : wh ≤ 255) :
    Calls Try.prog 3 #[kv, .int .u8 wh] w fun e w' => e = .returned (.bool true) ∧ Below w.heap.size w w' := by
  have hlen := hk.len
  obtain ⟨va, vc, rfl⟩ := hk.form
  have HK := Lib.hid hk
  have hone := one_str
  clear hk
  go_enter Try.func3, Try.ntmps3
  go_wp2_with fail
  refine (works_any _).mono ?_
  rintro e w1 ⟨rfl, hb1⟩
  have s0 : St w w1.heap.size ([] ++ []) (w1.alloc (.cells #[.slice Option.none 0 0] 27)) := St.new hb1 _ rfl
  clear hb1
  go_wp2_with fail
  go_loopw [7, 8] (fun last i wr => ∃ k : Nat, k ≤ ks.length ∧ k ≤ 500 ∧ i = .int .i64 k ∧ ∃ A B : List Ab, St w w1.heap.size (A ++ B) wr ∧ ∃ la : Int, last = .int .i64 la ∧ FInv (strOfNums [97 + wh % 4]) k A B la) (fun _ i _ => ks.length - (intOf i).toNat)
  case atStart => exact ⟨0, by omega, by omega, rfl, [], [], s0, 0, rfl, FInv.zero _⟩
  case round =>
    obtain ⟨k, hk1, hk2, rfl, A, B, s1, la, rfl, hF⟩ := hrel
    clear s0
    have HF := Lib.hid hF
    clear hF
    by_cases hgo : k < ks.length ∧ k < 500
    · obtain ⟨hlt, hlt2⟩ := hgo
      obtain ⟨b, off, rfl, _, hbl, hc⟩ := ints_at HK.out hlt
      have hcr := (s1.below.cell (p := ⟨b, off + k, Option.none⟩) hbl).trans hc
      have hc2 : ∀ W, Below w.heap.size w W → W.cell? ⟨b, off + k, Option.none⟩ = some (.int .i64 ks[k]) := fun W hW => (hW.cell (p := ⟨b, off + k, Option.none⟩) hbl).trans hc
      have HC := Lib.hid hc2
      clear hc2 hc
      generalize ks[k] = kk at *
      have hln : (A ++ B).length < 900000 := by rw [List.length_append, HF.out.len]; omega
      by_cases hneg : kk < 0
      · go_wp2_with fail
        refine (st_mark s1 hln _ rfl).mono ?_
        rintro e w2 ⟨rfl, s2⟩
        clear s1
        go_wp2_with fail
        go_roundw
        case rel => exact ⟨k + 1, by omega, by omega, by go_num, _, [], by rw [List.append_nil]; exact s2, 0, rfl, HF.out.mark⟩
        case measure => simp [intOf] <;> omega
      · have hw1 : IntKind.i64.wrap ((k : Int) + 1) = (k : Int) + 1 := by rw [IntKind.wrap_i64]; omega
        have hal : Below wr.heap.size wr (wr.alloc (.cells #[.int .u8 (97 + kk % 4)] 5)) := (Below.refl _ _).alloc (Nat.le_refl _) _
        have HAL := Lib.hid hal
        have hsz : (wr.alloc (.cells #[.int .u8 (97 + kk % 4)] 5)).heap.size = wr.heap.size + 1 := by simp
        obtain ⟨hp1, hp2⟩ := HF.out.push (n1 := strOfNums [97 + kk % 4]) hlt2
        have HP1 := Lib.hid hp1
        have HP2 := Lib.hid hp2
        clear hal hp1 hp2
        go_wp2_with fail
        refine (elem_any (k + 1) _ _).mono ?_
        rintro e w2 ⟨rfl, hb2⟩
        have hB2 := HAL.out.trans (hb2.mono HAL.out.size)
        have htwo := two_str (w2.alloc (.cells #[.int .i64 ((k : Int) + 1), .string (⟨#[104, 116, 109, 108]⟩ : ByteArray), .string (strOfNums [97 + kk % 4])] 29)) (w2.heap.size + 1) (by simp) ((k : Int) % 256) ((k : Int) / 256)
        have hB3 : Below wr.heap.size wr ((w2.alloc (.cells #[.int .i64 ((k : Int) + 1), .string (⟨#[104, 116, 109, 108]⟩ : ByteArray), .string (strOfNums [97 + kk % 4])] 29)).alloc (.cells #[.int .u8 ((k : Int) % 256), .int .u8 ((k : Int) / 256)] 5)) := (hB2.alloc hB2.size _).alloc (by have := hB2.size; simp; omega) _
        have hpu := st_push1 s1 hB3 ⟨(k : Int) + 1, (⟨#[104, 116, 109, 108]⟩ : ByteArray), strOfNums [97 + kk % 4]⟩ (atF k) (w2.heap.size + 2) (by simp) hln _ HP1.out
        have HPU := Lib.hid hpu
        have HB2 := Lib.hid hB2
        clear hb2 hB2 hB3 hpu
        go_wp2_with fail
        refine HPU.out.mono ?_
        rintro e w3 ⟨rfl, s3⟩
        have hcr3 := HC.out w3 s3.below
        have hnm := name_eq (a := kk % 4) (b := wh % 4) (by omega) (by omega)
        rw [hnm] at HP2
        clear s1 hcr htwo HPU HB2 HAL hsz hnm
        by_cases hq : kk % 4 = wh % 4
        · have HQ := Lib.hid (decide_eq_true hq)
          have hq2 : (kk % 4 == wh % 4) = true := by simpa using hq
          clear hq
          go_wp2_with fail
          go_roundw
          case rel => exact ⟨k + 1, by omega, by omega, by go_num, A, _, s3, (k : Int) + 1, rfl, by have h := HP2.out; rw [HQ.out, if_pos rfl] at h; exact h⟩
          case measure => simp [intOf] <;> omega
        · have HQ := Lib.hid (decide_eq_false hq)
          have hq2 : (kk % 4 == wh % 4) = false := by simpa using hq
          clear hq
          go_wp2_with fail
          go_roundw
          case rel => exact ⟨k + 1, by omega, by omega, by go_num, A, _, s3, la, rfl, by have h := HP2.out; rw [HQ.out, if_neg (by decide)] at h; exact h⟩
          case measure => simp [intOf] <;> omega
    · have hfin := findB_split HF.out.hmk HF.out.nom (strOfNums [97 + wh % 4])
      have hal : Below wr.heap.size wr (wr.alloc (.cells #[.int .u8 (97 + wh % 4)] 5)) := (Below.refl _ _).alloc (Nat.le_refl _) _
      have s2 := s1.go hal
      have HS2 := Lib.hid s2
      rcases HF.out.find with ⟨rfl, hn⟩ | ⟨hla, x, hx, hid, hat⟩
      · rw [hn] at hfin
        have HFN := Lib.hid (st_find_none s2 _ hfin)
        clear hn hfin s1 s2 hal
        by_cases hlt : k < ks.length
        · have hlt2 : ¬ k < 500 := by omega
          clear hgo
          go_wp2_with fail
          refine HFN.out.mono ?_
          rintro e w3 ⟨fa, fc, rfl, _, _, hb⟩
          dsimp only [Ab.none, El.none, List.length_nil]
          have HB := Lib.hid ((HS2.out.go hb).below)
          clear hb
          go_wp2_with fail
          go_ret
          exact ⟨rfl, HB.out.alloc HB.out.size _⟩
        · clear hgo
          go_wp2_with fail
          refine HFN.out.mono ?_
          rintro e w3 ⟨fa, fc, rfl, _, _, hb⟩
          dsimp only [Ab.none, El.none, List.length_nil]
          have HB := Lib.hid ((HS2.out.go hb).below)
          clear hb
          go_wp2_with fail
          go_ret
          exact ⟨rfl, HB.out.alloc HB.out.size _⟩
      · rw [hx] at hfin
        have HFN := Lib.hid (st_find_some s2 _ x hfin)
        subst hid
        obtain ⟨⟨xi, xs, xn⟩, xa⟩ := x
        dsimp only at *
        have HXA := Lib.hid hat
        clear hx hfin s1 s2 hal hat
        by_cases hlt : k < ks.length
        · have hlt2 : ¬ k < 500 := by omega
          clear hgo
          go_wp2_with fail
          refine HFN.out.mono ?_
          rintro e w3 ⟨fa, fc, rfl, _, _, hb⟩
          dsimp only
          rw [HXA.out]
          have HB := Lib.hid ((HS2.out.go hb).below)
          clear hb
          go_wp2_with fail
          go_ret
          exact ⟨rfl, HB.out.alloc HB.out.size _⟩
        · clear hgo
          go_wp2_with fail
          refine HFN.out.mono ?_
          rintro e w3 ⟨fa, fc, rfl, _, _, hb⟩
          dsimp only
          rw [HXA.out]
          have HB := Lib.hid ((HS2.out.go hb).below)
          clear hb
          go_wp2_with fail
          go_ret
          exact ⟨rfl, HB.out.alloc HB.out.size _⟩
end Go.Proofs.Ytmhofhblgcjihaa
