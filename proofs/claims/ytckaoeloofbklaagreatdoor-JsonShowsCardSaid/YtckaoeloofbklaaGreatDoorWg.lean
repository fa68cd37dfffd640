/- Joined texts: Vf Vg Vj Vl Vk Vm Vn Vo. Each begins with its own remark. -/
import Derived.Test.YtckaoeloofbklaaGreatDoorWf
import Derived.Deep.AppendLies
import Derived.Lib.AppendZeros
import Derived.OwnWalk
import Derived.Test.YtckaoeloofbklaaGreatDoorWb
import Derived.Laws.Externs
import Derived.Deep.RegionHeld
import Derived.Outline
import Derived.Laws.BytesArg
import Derived.Test.YtckaoeloofbklaaGreatDoorWShelf
import Derived.Lib.AppendIntMem
set_option maxRecDepth 100000
set_option maxHeartbeats 16000000
namespace Go.Proofs.YtckaoeloofbklaaGreatDoor
open Go Go.RowKit Go.Sort Go.Lib
theorem info_u8 : (Tryz.prog.info? 5).map (fun i => (i.zero, i.size, i.bytes)) = some (some (.int .u8 0), 1, 1) := by kernel_rfl
structure Row (base : Nat) (S : Nat → Prop) (W0 W : World) (v : Value) (l : List UInt8) : Prop where
 own : W.ownsRow base 5 1 v l.length (l.map encB)
 ne : ∀ k, S k → v.ownBlock ≠ some k
 keep : ∀ k, S k → W.heap[k]? = W0.heap[k]?
 lt : ∀ k, S k → k < W0.heap.size
 below : Below base W0 W
 ble : base ≤ W0.heap.size
theorem Row.form {base : Nat} {S : Nat → Prop} {W0 W : World} {v : Value} {l : List UInt8} (h : Row base S W0 W v l) : ∃ a c, v = .slice a l.length c := by
 rcases h.own.2 with ⟨h1, h2⟩ | ⟨g, cap, cur, h1, _⟩
 ·exact ⟨_, _, by rw [h2]; exact h1⟩
 ·exact ⟨_, _, h1⟩
theorem Row.go {base : Nat} {S : Nat → Prop} {W0 W W' : World} {v : Value} {l : List UInt8} (h : Row base S W0 W v l) (hb : Below W.heap.size W W') : Row base S W0 W' v l := by
 refine ⟨?_, h.ne, fun k hk => ?_, h.lt, h.below.trans (hb.mono (Nat.le_trans h.ble h.below.size)), h.ble⟩
 ·refine ⟨h.own.1, ?_⟩
  rcases h.own.2 with h1 | ⟨g, cap, cur, h1, h2, h3, h4⟩
  ·exact .inl h1
  ·exact .inr ⟨g, cap, cur, h1, h2, (hb.block g (Array.getElem?_eq_some_iff.1 h3).1).trans h3, h4⟩
 ·exact (hb.block k (Nat.lt_of_lt_of_le (h.lt k hk) h.below.size)).trans (h.keep k hk)
theorem encB_one (l : List UInt8) : ∀ u ∈ l.map encB, u.oneCell' = true := by
 intro u hu
 obtain ⟨x, _, rfl⟩ := List.mem_map.1 hu
 rfl
theorem Row.more {base : Nat} {S : Nat → Prop} {W0 W : World} {v : Value} {l : List UInt8} (h : Row base S W0 W v l) (ty : TypeId) (b off c : Nat) (xs : List UInt8)
  (hx : ∀ j x, xs[j]? = some x → W.cell? ⟨b, off + j, Option.none⟩ = some (encB x)) (hpos : 0 < xs.length) (hsz : l.length + xs.length ≤ 1000000) :
  ∃ g cap W', (Builtin.append_ #[28, 28] ty #[v, .slice (some ⟨b, off, Option.none⟩) xs.length c]).run Tryz.prog W = .ok (.slice (some ⟨g, 0, Option.none⟩) (l ++ xs).length cap) W' ∧
   Row base S W0 W' (.slice (some ⟨g, 0, Option.none⟩) (l ++ xs).length cap) (l ++ xs) := by
 obtain ⟨i, hi, hz0, hz1, hz2⟩ := info_parts info_u8
 have hnews : ∀ j u, (xs.map encB)[j]? = some u → W.cell? ((⟨b, off, Option.none⟩ : Addr).add j) = some u := by
  intro j u hu
  rw [List.getElem?_map, Option.map_eq_some_iff] at hu
  obtain ⟨x, hx1, rfl⟩ := hu
  rw [add_plain]
  exact hx j x hx1
 have hble : base ≤ W.heap.size := Nat.le_trans h.ble h.below.size
 obtain ⟨g, cap, W', hr, hown, hgr, hat, hgl⟩ := run_append_lies (P := Tryz.prog) W 28 ty base 5 i _ 1 1 Tryz.underlying28 hi hz0 hz1 hz2 rfl (by decide) v l.length (l.map encB) h.own ⟨b, off, Option.none⟩ xs.length c (xs.map encB) (by simp) hnews (encB_one xs) hpos (by unfold maxLen; omega) (by omega) hble _ rfl
 rw [← List.length_append] at hr hown
 rw [← List.map_append] at hown
 refine ⟨g, cap, W', hr, hown, fun k hk => ?_, fun k hk => ?_, h.lt, ?_, h.ble⟩
 ·have hkl := h.lt k hk
  have hbs := h.below.size
  rcases hat with h1 | h1
  ·show some g ≠ some k
   rw [← h1]; exact h.ne k hk
  ·simp only [Value.ownBlock, ne_eq, Option.some.injEq]
   omega
 ·exact (hgr.block k (Nat.lt_of_lt_of_le (h.lt k hk) h.below.size) (fun e => h.ne k hk e.symm)).trans (h.keep k hk)
 ·exact h.below.trans ⟨hgr.os, hgr.tape, hgr.output, hgr.size, fun k hk => hgr.block k (Nat.lt_of_lt_of_le hk hble) (fun e => by
   have := (h.own.lt k e.symm).1
   omega)⟩
theorem Row.push {base : Nat} {S : Nat → Prop} {W0 W : World} {v : Value} {l : List UInt8} (h : Row base S W0 W v l) (ty : TypeId) (xs : List UInt8) (k : Nat) (cs : Array Value) (hk : k = xs.length) (hcs : cs = (xs.map encB).toArray) (hpos : 0 < k) (hsz : l.length + k ≤ 1000000) :
  ∃ g cap W', (Builtin.append_ #[28, 28] ty #[v, .slice (some ⟨W.heap.size, 0, Option.none⟩) k k]).run Tryz.prog (W.alloc (.cells cs 5)) = .ok (.slice (some ⟨g, 0, Option.none⟩) (l ++ xs).length cap) W' ∧
   Row base S W0 W' (.slice (some ⟨g, 0, Option.none⟩) (l ++ xs).length cap) (l ++ xs) := by
 subst hk
 exact (h.go ((Below.refl _ _).alloc (Nat.le_refl _) _)).more ty W.heap.size 0 xs.length xs (fun j x hx => by
  rw [Nat.zero_add, World.cell?_alloc_new, hcs]
  simp [hx]) hpos hsz
theorem Row.push' {base : Nat} {S : Nat → Prop} {W0 W : World} {v : Value} {l : List UInt8} (h : Row base S W0 W v l) (ty : TypeId) (xs : List UInt8) (k : Nat) (cs : Array Value) (m : Nat) (hk : k = xs.length) (hcs : cs = (xs.map encB).toArray) (hpos : 0 < k) (hsz : l.length + k ≤ 1000000) (hm : (l ++ xs).length = m) :
  ∃ g cap W', (Builtin.append_ #[28, 28] ty #[v, .slice (some ⟨W.heap.size, 0, Option.none⟩) k k]).run Tryz.prog (W.alloc (.cells cs 5)) = .ok (.slice (some ⟨g, 0, Option.none⟩) m cap) W' ∧
   Row base S W0 W' (.slice (some ⟨g, 0, Option.none⟩) m cap) (l ++ xs) := by
 subst hm
 exact h.push ty xs k cs hk hcs hpos hsz
theorem Row.more' {base : Nat} {S : Nat → Prop} {W0 W : World} {v : Value} {l : List UInt8} (h : Row base S W0 W v l) (ty : TypeId) (b off n c : Nat) (xs : List UInt8) (m : Nat) (hn : xs.length = n)
  (hx : ∀ j x, xs[j]? = some x → W.cell? ⟨b, off + j, Option.none⟩ = some (encB x)) (hpos : 0 < n) (hsz : l.length + n ≤ 1000000) (hm : (l ++ xs).length = m) :
  ∃ g cap W', (Builtin.append_ #[28, 28] ty #[v, .slice (some ⟨b, off, Option.none⟩) n c]).run Tryz.prog W = .ok (.slice (some ⟨g, 0, Option.none⟩) m cap) W' ∧
   Row base S W0 W' (.slice (some ⟨g, 0, Option.none⟩) m cap) (l ++ xs) := by
 subst hm hn
 exact h.more ty b off c xs hx hpos hsz
def expB (x : Int) : List UInt8 :=
 (if x < 0 then 45 else 43) :: (if x.natAbs < 10 then [48, UInt8.ofNat (48 + x.natAbs)] else if x.natAbs < 100 then [UInt8.ofNat (48 + x.natAbs / 10), UInt8.ofNat (48 + x.natAbs % 10)] else [UInt8.ofNat (48 + x.natAbs / 100), UInt8.ofNat (48 + x.natAbs / 10 % 10), UInt8.ofNat (48 + x.natAbs % 10)])
theorem ofNat_toNat (n : Nat) (h : n < 256) : ((UInt8.ofNat n).toNat : Int) = (n : Int) := by
 rw [UInt8.toNat_ofNat', Nat.mod_eq_of_lt h]
end Go.Proofs.YtckaoeloofbklaaGreatDoor
namespace Go.Proofs.YtckaoeloofbklaaGreatDoor
open Go Go.RowKit Go.Sort Go.Lib
def EPost (base : Nat) (S : Nat → Prop) (W0 : World) (l : List UInt8) (e : Ending) (w' : World) : Prop := ∃ v', e = .returned v' ∧ Row base S W0 w' v' l
def expD (n : Nat) : List UInt8 := if n < 10 then [48, UInt8.ofNat (48 + n)] else if n < 100 then [UInt8.ofNat (48 + n / 10), UInt8.ofNat (48 + n % 10)] else [UInt8.ofNat (48 + n / 100), UInt8.ofNat (48 + n / 10 % 10), UInt8.ofNat (48 + n % 10)]
theorem expB_is (x : Int) (a : Nat) (h : x.natAbs = a) : expB x = (if x < 0 then 45 else 43) :: expD a := by
 subst h
 rfl
theorem enc_dig (n : Nat) (q : Int) (h : n < 256) (hq : q = (n : Int)) : encB (UInt8.ofNat n) = .int .u8 q := by
 subst hq
 show Value.int .u8 ((UInt8.ofNat n).toNat : Int) = _
 rw [ofNat_toNat n h]
theorem fmtE_one (base b : Nat) (S : Nat → Prop) (x0 : UInt8) (xs : List UInt8) (x : Int) (v : Value) (cap : Nat) (W0 w : World) (hrow : Row base S W0 w v []) (hS : S b) (hx1 : -400 < x) (hx2 : x < 400) (hxs : xs.length ≤ 20) (_hcap : 32 ≤ cap) (_hcap2 : cap ≤ 1000)
   (hcell : ∀ j u, (x0 :: xs)[j]? = some u → W0.cell? ⟨b, j, Option.none⟩ = some (encB u)) (hn : xs.length = 0) :
   Calls Tryz.prog 210 #[v, .bool false, .slice (some ⟨b, 0, Option.none⟩) 32 cap, .int .i64 (x + 1), .int .i64 ((xs.length : Nat) + 1), .int .i64 (xs.length : Nat), .int .u8 101, .bool true] w (EPost base S W0 (x0 :: ((if 0 < xs.length then 46 :: xs else []) ++ 101 :: expB x))) := by
 have c0 : w.cell? ⟨b, 0, Option.none⟩ = some (.int .u8 (x0.toNat : Int)) := (World.cell?_of_block (w := W0) (a := ⟨b, 0, Option.none⟩) (hrow.keep b hS)).trans (hcell 0 x0 rfl)
 obtain ⟨va, vc, rfl⟩ := hrow.form
 obtain ⟨a, hna⟩ : ∃ a, x.natAbs = a := ⟨_, rfl⟩
 have hex := expB_is x a hna
 obtain ⟨q0, hw0⟩ : ∃ q : Int, (a : Int) + 48 = q := ⟨_, rfl⟩
 obtain ⟨q1, hw1⟩ : ∃ q : Int, (a : Int) / 10 + 48 = q := ⟨_, rfl⟩
 obtain ⟨q2, hw2⟩ : ∃ q : Int, (a : Int) % 10 + 48 = q := ⟨_, rfl⟩
 obtain ⟨q3, hw3⟩ : ∃ q : Int, (a : Int) / 100 + 48 = q := ⟨_, rfl⟩
 obtain ⟨q4, hw4⟩ : ∃ q : Int, (a : Int) / 10 % 10 + 48 = q := ⟨_, rfl⟩
 rcases (by omega : (x = (a : Int)) ∨ (x = -(a : Int) ∧ 0 < a)) with hx | hx <;> rcases (by omega : a < 10 ∨ (10 ≤ a ∧ a < 100) ∨ 100 ≤ a) with hd | hd | hd
 all_goals first
   | (have hy : x = (a : Int) := hx
      have hs : expB x = 43 :: expD a := by rw [hex, if_neg (by omega)]
      have CG : Hid (#[Value.int .u8 43] = (([43] : List UInt8).map encB).toArray) := Lib.hid rfl
      have hlt : decide ((a : Int) < 0) = false := by rw [decide_eq_false_iff_not]; omega
      generalize (43 : UInt8) = SG at hs CG)
   | (obtain ⟨hy, hp⟩ : x = -(a : Int) ∧ 0 < a := hx
      have hs : expB x = 45 :: expD a := by rw [hex, if_pos (by omega)]
      have CG : Hid (#[Value.int .u8 45] = (([45] : List UInt8).map encB).toArray) := Lib.hid rfl
      have hlt : decide (-(a : Int) < 0) = true := by rw [decide_eq_true_eq]; omega
      generalize (45 : UInt8) = SG at hs CG)
 all_goals first
   | (have hd1 : a < 10 := hd
      have hl : 2 = (expD a).length := by unfold expD; rw [if_pos hd1]; rfl
      have CS : Hid (#[Value.int .u8 48, .int .u8 q0] = ((expD a).map encB).toArray) := Lib.hid (by
        unfold expD
        rw [if_pos hd1, List.map_cons, List.map_cons, enc_dig (48 + a) q0 (by omega) (by omega)]; rfl))
   | (obtain ⟨hd1, hd2⟩ : 10 ≤ a ∧ a < 100 := hd
      have hl : 2 = (expD a).length := by unfold expD; rw [if_neg (by omega), if_pos hd2]; rfl
      have CS : Hid (#[Value.int .u8 q1, .int .u8 q2] = ((expD a).map encB).toArray) := Lib.hid (by
        unfold expD
        rw [if_neg (by omega), if_pos hd2, List.map_cons, List.map_cons, enc_dig (48 + a / 10) q1 (by omega) (by omega), enc_dig (48 + a % 10) q2 (by omega) (by omega)]; rfl))
   | (have hd1 : 100 ≤ a := hd
      have hd2 : a < 400 := by omega
      have hl : 3 = (expD a).length := by unfold expD; rw [if_neg (by omega), if_neg (by omega)]; rfl
      have CS : Hid (#[Value.int .u8 q3, .int .u8 q4, .int .u8 q2] = ((expD a).map encB).toArray) := Lib.hid (by
        unfold expD
        rw [if_neg (by omega), if_neg (by omega), List.map_cons, List.map_cons, List.map_cons, enc_dig (48 + a / 100) q3 (by omega) (by omega), enc_dig (48 + a / 10 % 10) q4 (by omega) (by omega), enc_dig (48 + a % 10) q2 (by omega) (by omega)]; rfl))
 all_goals
   have HEX := Lib.hid hs
   generalize expD a = EL at *
   obtain ⟨m1, hm1⟩ : ∃ m, (([] : List UInt8) ++ [x0]).length = m := ⟨_, rfl⟩
   obtain ⟨g1, c1, W1, hr1, row1⟩ := hrow.push' 28 [x0] 1 #[.int .u8 (x0.toNat : Int)] m1 rfl rfl (by decide) (by simp only [List.length_nil]; omega) hm1
   have HR1 := Lib.hid hr1
   have tok1 : True := trivial
   clear hr1 hm1
   obtain ⟨m5, hm5⟩ : ∃ m, (([] ++ [x0] : List UInt8) ++ [101]).length = m := ⟨_, rfl⟩
   obtain ⟨g5, c5, W5, hr5, row5⟩ := row1.push' 28 [101] 1 #[.int .u8 101] m5 rfl rfl (by decide) (by simp only [List.length_append, List.length_cons, List.length_nil]; omega) hm5
   have HR5 := Lib.hid hr5
   have tok5 : True := trivial
   clear hr5 hm5
   obtain ⟨m6, hm6⟩ : ∃ m, (([] ++ [x0] ++ [101] : List UInt8) ++ [SG]).length = m := ⟨_, rfl⟩
   obtain ⟨g6, c6, W6, hr6, row6⟩ := row5.push' 28 [SG] 1 _ m6 rfl CG.out (by decide) (by simp only [List.length_append, List.length_cons, List.length_nil]; omega) hm6
   have HR6 := Lib.hid hr6
   have tok6 : True := trivial
   clear hr6 hm6
   obtain ⟨m7, hm7⟩ : ∃ m, (([] ++ [x0] ++ [101] ++ [SG] : List UInt8) ++ EL).length = m := ⟨_, rfl⟩
   obtain ⟨g7, c7, W7, hr7, row7⟩ := row6.push' 28 EL _ _ m7 hl CS.out (by decide) (by simp only [List.length_append, List.length_cons, List.length_nil]; omega) hm7
   have HR7 := Lib.hid hr7
   have tok7 : True := trivial
   clear hr7 hm7
   have HROW : Hid (Row base S W0 W7 (.slice (some ⟨g7, 0, Option.none⟩) m7 c7) (x0 :: ((if 0 < xs.length then 46 :: xs else []) ++ 101 :: expB x))) := Lib.hid (by
     have := row7
     rw [HEX.out]
     obtain rfl : xs = [] := List.eq_nil_of_length_eq_zero hn
     simpa using this)
   clear row1 row5 row6 row7 hex hs hl hcell hrow CS CG HEX
   generalize (x0 :: ((if 0 < xs.length then 46 :: xs else []) ++ 101 :: expB x)) = RES at *
   rw [hn]
   clear hn hxs
   subst hy
   clear hna hx1 hx2
   try clear hx
   go_enter Tryz.func210, Tryz.ntmps210
   go_wp2_with (first | (at_builtin; have tk := tok1; refine Lib.wpList_append_run _ rfl _ _ _ _ rfl _ _ rfl rfl _ _ HR1.out ?_; clear tok1 tk) | (at_builtin; have tk := tok5; refine Lib.wpList_append_run _ rfl _ _ _ _ rfl _ _ rfl rfl _ _ HR5.out ?_; clear tok5 tk) | (at_builtin; have tk := tok6; refine Lib.wpList_append_run _ rfl _ _ _ _ rfl _ _ rfl rfl _ _ HR6.out ?_; clear tok6 tk) | (at_builtin; have tk := tok7; refine Lib.wpList_append_run _ rfl _ _ _ _ rfl _ _ rfl rfl _ _ HR7.out ?_; clear tok7 tk) | fail)
   go_ret
   exact ⟨_, rfl, HROW.out⟩
theorem fmtE_many (base b : Nat) (S : Nat → Prop) (x0 : UInt8) (xs : List UInt8) (x : Int) (v : Value) (cap : Nat) (W0 w : World) (hrow : Row base S W0 w v []) (hS : S b) (hx1 : -400 < x) (hx2 : x < 400) (hxs : xs.length ≤ 20) (_hcap : 32 ≤ cap) (_hcap2 : cap ≤ 1000)
   (hcell : ∀ j u, (x0 :: xs)[j]? = some u → W0.cell? ⟨b, j, Option.none⟩ = some (encB u)) (hn : ¬ xs.length = 0) :
   Calls Tryz.prog 210 #[v, .bool false, .slice (some ⟨b, 0, Option.none⟩) 32 cap, .int .i64 (x + 1), .int .i64 ((xs.length : Nat) + 1), .int .i64 (xs.length : Nat), .int .u8 101, .bool true] w (EPost base S W0 (x0 :: ((if 0 < xs.length then 46 :: xs else []) ++ 101 :: expB x))) := by
 have c0 : w.cell? ⟨b, 0, Option.none⟩ = some (.int .u8 (x0.toNat : Int)) := (World.cell?_of_block (w := W0) (a := ⟨b, 0, Option.none⟩) (hrow.keep b hS)).trans (hcell 0 x0 rfl)
 obtain ⟨va, vc, rfl⟩ := hrow.form
 obtain ⟨a, hna⟩ : ∃ a, x.natAbs = a := ⟨_, rfl⟩
 have hex := expB_is x a hna
 obtain ⟨q0, hw0⟩ : ∃ q : Int, (a : Int) + 48 = q := ⟨_, rfl⟩
 obtain ⟨q1, hw1⟩ : ∃ q : Int, (a : Int) / 10 + 48 = q := ⟨_, rfl⟩
 obtain ⟨q2, hw2⟩ : ∃ q : Int, (a : Int) % 10 + 48 = q := ⟨_, rfl⟩
 obtain ⟨q3, hw3⟩ : ∃ q : Int, (a : Int) / 100 + 48 = q := ⟨_, rfl⟩
 obtain ⟨q4, hw4⟩ : ∃ q : Int, (a : Int) / 10 % 10 + 48 = q := ⟨_, rfl⟩
 rcases (by omega : (x = (a : Int)) ∨ (x = -(a : Int) ∧ 0 < a)) with hx | hx <;> rcases (by omega : a < 10 ∨ (10 ≤ a ∧ a < 100) ∨ 100 ≤ a) with hd | hd | hd
 all_goals first
   | (have hy : x = (a : Int) := hx
      have hs : expB x = 43 :: expD a := by rw [hex, if_neg (by omega)]
      have CG : Hid (#[Value.int .u8 43] = (([43] : List UInt8).map encB).toArray) := Lib.hid rfl
      have hlt : decide ((a : Int) < 0) = false := by rw [decide_eq_false_iff_not]; omega
      generalize (43 : UInt8) = SG at hs CG)
   | (obtain ⟨hy, hp⟩ : x = -(a : Int) ∧ 0 < a := hx
      have hs : expB x = 45 :: expD a := by rw [hex, if_pos (by omega)]
      have CG : Hid (#[Value.int .u8 45] = (([45] : List UInt8).map encB).toArray) := Lib.hid rfl
      have hlt : decide (-(a : Int) < 0) = true := by rw [decide_eq_true_eq]; omega
      generalize (45 : UInt8) = SG at hs CG)
 all_goals first
   | (have hd1 : a < 10 := hd
      have hl : 2 = (expD a).length := by unfold expD; rw [if_pos hd1]; rfl
      have CS : Hid (#[Value.int .u8 48, .int .u8 q0] = ((expD a).map encB).toArray) := Lib.hid (by
        unfold expD
        rw [if_pos hd1, List.map_cons, List.map_cons, enc_dig (48 + a) q0 (by omega) (by omega)]; rfl))
   | (obtain ⟨hd1, hd2⟩ : 10 ≤ a ∧ a < 100 := hd
      have hl : 2 = (expD a).length := by unfold expD; rw [if_neg (by omega), if_pos hd2]; rfl
      have CS : Hid (#[Value.int .u8 q1, .int .u8 q2] = ((expD a).map encB).toArray) := Lib.hid (by
        unfold expD
        rw [if_neg (by omega), if_pos hd2, List.map_cons, List.map_cons, enc_dig (48 + a / 10) q1 (by omega) (by omega), enc_dig (48 + a % 10) q2 (by omega) (by omega)]; rfl))
   | (have hd1 : 100 ≤ a := hd
      have hd2 : a < 400 := by omega
      have hl : 3 = (expD a).length := by unfold expD; rw [if_neg (by omega), if_neg (by omega)]; rfl
      have CS : Hid (#[Value.int .u8 q3, .int .u8 q4, .int .u8 q2] = ((expD a).map encB).toArray) := Lib.hid (by
        unfold expD
        rw [if_neg (by omega), if_neg (by omega), List.map_cons, List.map_cons, List.map_cons, enc_dig (48 + a / 100) q3 (by omega) (by omega), enc_dig (48 + a / 10 % 10) q4 (by omega) (by omega), enc_dig (48 + a % 10) q2 (by omega) (by omega)]; rfl))
 all_goals
   have HEX := Lib.hid hs
   generalize expD a = EL at *
   obtain ⟨m1, hm1⟩ : ∃ m, (([] : List UInt8) ++ [x0]).length = m := ⟨_, rfl⟩
   obtain ⟨g1, c1, W1, hr1, row1⟩ := hrow.push' 28 [x0] 1 #[.int .u8 (x0.toNat : Int)] m1 rfl rfl (by decide) (by simp only [List.length_nil]; omega) hm1
   have HR1 := Lib.hid hr1
   have tok1 : True := trivial
   clear hr1 hm1
   obtain ⟨m2, hm2⟩ : ∃ m, (([] ++ [x0] : List UInt8) ++ [46]).length = m := ⟨_, rfl⟩
   obtain ⟨g2, c2, W2, hr2, row2⟩ := row1.push' 28 [46] 1 #[.int .u8 46] m2 rfl rfl (by decide) (by simp only [List.length_append, List.length_cons, List.length_nil]; omega) hm2
   have HR2 := Lib.hid hr2
   have tok2 : True := trivial
   clear hr2 hm2
   obtain ⟨m3, hm3⟩ : ∃ m, (([] ++ [x0] ++ [46] : List UInt8) ++ xs).length = m := ⟨_, rfl⟩
   obtain ⟨n, hxn⟩ : ∃ n, xs.length = n := ⟨_, rfl⟩
   obtain ⟨g3, c3, W3, hr3, row3⟩ := row2.more' 28 b 1 n (cap - 1) xs m3 hxn (fun j u hu => by
     rw [Nat.add_comm 1 j]
     exact (World.cell?_of_block (w := W0) (a := ⟨b, j + 1, Option.none⟩) (row2.keep b hS)).trans (hcell (j + 1) u (by simpa using hu))) (by omega) (by simp only [List.length_append, List.length_cons, List.length_nil]; omega) hm3
   have HR3 := Lib.hid hr3
   have tok3 : True := trivial
   clear hr3 hm3
   obtain ⟨m5, hm5⟩ : ∃ m, (([] ++ [x0] ++ [46] ++ xs : List UInt8) ++ [101]).length = m := ⟨_, rfl⟩
   obtain ⟨g5, c5, W5, hr5, row5⟩ := row3.push' 28 [101] 1 #[.int .u8 101] m5 rfl rfl (by decide) (by simp only [List.length_append, List.length_cons, List.length_nil]; omega) hm5
   have HR5 := Lib.hid hr5
   have tok5 : True := trivial
   clear hr5 hm5
   obtain ⟨m6, hm6⟩ : ∃ m, (([] ++ [x0] ++ [46] ++ xs ++ [101] : List UInt8) ++ [SG]).length = m := ⟨_, rfl⟩
   obtain ⟨g6, c6, W6, hr6, row6⟩ := row5.push' 28 [SG] 1 _ m6 rfl CG.out (by decide) (by simp only [List.length_append, List.length_cons, List.length_nil]; omega) hm6
   have HR6 := Lib.hid hr6
   have tok6 : True := trivial
   clear hr6 hm6
   obtain ⟨m7, hm7⟩ : ∃ m, (([] ++ [x0] ++ [46] ++ xs ++ [101] ++ [SG] : List UInt8) ++ EL).length = m := ⟨_, rfl⟩
   obtain ⟨g7, c7, W7, hr7, row7⟩ := row6.push' 28 EL _ _ m7 hl CS.out (by decide) (by simp only [List.length_append, List.length_cons, List.length_nil]; omega) hm7
   have HR7 := Lib.hid hr7
   have tok7 : True := trivial
   clear hr7 hm7
   have HROW : Hid (Row base S W0 W7 (.slice (some ⟨g7, 0, Option.none⟩) m7 c7) (x0 :: ((if 0 < xs.length then 46 :: xs else []) ++ 101 :: expB x))) := Lib.hid (by
     have := row7
     rw [HEX.out]
     rw [if_pos (by omega)]
     simpa using this)
   clear row1 row2 row3 row5 row6 row7 hex hs hl hcell hrow CS CG HEX
   generalize (x0 :: ((if 0 < xs.length then 46 :: xs else []) ++ 101 :: expB x)) = RES at *
   have hn2 : 1 ≤ n := by omega
   have hn3 : n ≤ 20 := by omega
   rw [hxn]
   clear hn hxs hxn
   have hmin : min ((n : Int) + 1) ((n : Int) + 1) = (n : Int) + 1 := by simp
   subst hy
   clear hna hx1 hx2
   try clear hx
   go_enter Tryz.func210, Tryz.ntmps210
   go_wp2_with (first | (at_builtin; have tk := tok1; refine Lib.wpList_append_run _ rfl _ _ _ _ rfl _ _ rfl rfl _ _ HR1.out ?_; clear tok1 tk) | (at_builtin; have tk := tok2; refine Lib.wpList_append_run _ rfl _ _ _ _ rfl _ _ rfl rfl _ _ HR2.out ?_; clear tok2 tk) | (at_builtin; have tk := tok3; refine Lib.wpList_append_run _ rfl _ _ _ _ rfl _ _ rfl rfl _ _ HR3.out ?_; clear tok3 tk) | fail)
   go_loop [0, 114] (fun d t => d = .slice (some ⟨g3, 0, Option.none⟩) m3 c3 ∧ t = .int .i64 0) (fun _ _ => 0)
   case atStart => exact ⟨rfl, rfl⟩
   case round =>
     obtain ⟨rfl, rfl⟩ := hrel
     go_wp2_with (first | (at_builtin; have tk := tok5; refine Lib.wpList_append_run _ rfl _ _ _ _ rfl _ _ rfl rfl _ _ HR5.out ?_; clear tok5 tk) | (at_builtin; have tk := tok6; refine Lib.wpList_append_run _ rfl _ _ _ _ rfl _ _ rfl rfl _ _ HR6.out ?_; clear tok6 tk) | (at_builtin; have tk := tok7; refine Lib.wpList_append_run _ rfl _ _ _ _ rfl _ _ rfl rfl _ _ HR7.out ?_; clear tok7 tk) | fail)
     go_ret
     exact ⟨_, rfl, HROW.out⟩
theorem fmtE_any (base b : Nat) (S : Nat → Prop) (x0 : UInt8) (xs : List UInt8) (x : Int) (v : Value) (cap : Nat) (W0 w : World) (hrow : Row base S W0 w v []) (hS : S b) (hx1 : -400 < x) (hx2 : x < 400) (hxs : xs.length ≤ 20) (_hcap : 32 ≤ cap) (_hcap2 : cap ≤ 1000)
  (hcell : ∀ j u, (x0 :: xs)[j]? = some u → W0.cell? ⟨b, j, Option.none⟩ = some (encB u)) :
  Calls Tryz.prog 210 #[v, .bool false, .slice (some ⟨b, 0, Option.none⟩) 32 cap, .int .i64 (x + 1), .int .i64 ((xs.length : Nat) + 1), .int .i64 (xs.length : Nat), .int .u8 101, .bool true] w (EPost base S W0 (x0 :: ((if 0 < xs.length then 46 :: xs else []) ++ 101 :: expB x))) := by
 by_cases hn : xs.length = 0
 ·exact fmtE_one base b S x0 xs x v cap W0 w hrow hS hx1 hx2 hxs _hcap _hcap2 hcell hn
 ·exact fmtE_many base b S x0 xs x v cap W0 w hrow hS hx1 hx2 hxs _hcap _hcap2 hcell hn
end Go.Proofs.YtckaoeloofbklaaGreatDoor
namespace Go.Proofs.YtckaoeloofbklaaGreatDoor
open Go Go.RowKit Go.Sort Go.Lib
theorem pick3_bounds (dmin dmax u : Nat) (p : Int) (h1 : 1 ≤ dmin) (h3 : 1 ≤ u) (b1 : dmin ≤ 1000000000000000000) (b2 : dmax ≤ 1000000000000000000) (b3 : u ≤ 1000000000000000000) :
  1 ≤ (pick3 dmin dmax u p).1 ∧ (pick3 dmin dmax u p).1 ≤ 1000000000000000000 ∧ -p ≤ (pick3 dmin dmax u p).2 ∧ (pick3 dmin dmax u p).2 ≤ -p + 1 := by
 unfold pick3
 split
 ·exact ⟨by show 1 ≤ dmax / 10; omega, by show dmax / 10 ≤ _; omega, by show -p ≤ -(p - 1); omega, by show -(p - 1) ≤ -p + 1; omega⟩
 ·split
  ·exact ⟨h3, b3, by show -p ≤ -p; omega, by show -p ≤ -p + 1; omega⟩
  ·exact ⟨h1, b1, by show -p ≤ -p; omega, by show -p ≤ -p + 1; omega⟩
theorem short_bounds (m : Nat) (e : Int) (hm1 : 9223372036854775808 ≤ m) (hm2 : m < 18446744073709551616) (h0 : m % 2 ^ zN e = 0) (he1 : -1137 ≤ e) (he2 : e ≤ 1000) :
  1 ≤ (shortN m e).1 ∧ (shortN m e).1 ≤ 1000000000000000000 ∧ -346 ≤ (shortN m e).2 ∧ (shortN m e).2 ≤ 348 := by
 obtain ⟨hz1, hz2⟩ := zN_ge e he1
 obtain ⟨ht1, ht2, ht3⟩ := top_room m (zN e) hz1 hz2 hm2 h0
 obtain ⟨ok0, ok1⟩ := exp_ok e he1 he2
 have ok : expOK (skewB m e) e = true := by
  cases h : skewB m e
  ·exact ok0
  ·unfold skewB at h
   simp only [Bool.and_eq_true, decide_eq_true_eq] at h
   exact ok1 h.2
 simp only [expOK, Bool.and_eq_true, decide_eq_true_eq] at ok
 unfold shortN
 simp only
 generalize hp : ppN (skewB m e) e = p at *
 have hod : (if skewB m e = true then 0 else m / 2 ^ zN e % 2) ≤ 1 := by split <;> omega
 generalize (if skewB m e = true then 0 else m / 2 ^ zN e % 2) = od at *
 have hmn : (if skewB m e = true then m - 512 else m - 2 ^ (zN e - 1)) < 18446744073709551616 := by split <;> omega
 obtain ⟨b2, b2'⟩ := us_bounds p e (m + 2 ^ (zN e - 1)) (by omega) (by omega) ok.1.2 ok.2 (by omega)
 obtain ⟨b3, b3'⟩ := us_bounds p e m (by omega) (by omega) ok.1.2 ok.2 (by omega)
 have hb4 := b2' (by omega)
 have hb5 := b3' (by omega)
 obtain ⟨b1, _⟩ := us_bounds p e _ (by omega) (by omega) ok.1.2 ok.2 hmn
 have hb6 : 1 ≤ usN p e (if skewB m e = true then m - 512 else m - 2 ^ (zN e - 1)) := by
  have hge : 4611686018427387904 ≤ (if skewB m e = true then m - 512 else m - 2 ^ (zN e - 1)) := by split <;> omega
  exact us_pos p e _ (by omega) (by omega) ok.1.2 ok.2 hmn hge
 have := pick3_bounds ((usN p e (if skewB m e = true then m - 512 else m - 2 ^ (zN e - 1)) + od + 3) / 4) ((usN p e (m + 2 ^ (zN e - 1)) - od) / 4) ((usN p e m + 1 + usN p e m / 4 % 2) / 4) p (by omega) (by omega) (by omega) (by omega) (by omega)
 exact ⟨this.1, this.2.1, by omega, by omega⟩
theorem dec_head (u : Nat) (h : 1 ≤ u) : ∃ x l, decDigits u = x :: l ∧ x ≠ 48 := by
 induction u using Nat.strongRecOn with
 | _ u ih =>
  by_cases h1 : u < 10
  ·refine ⟨UInt8.ofNat (48 + u), [], decDigits_one h1, fun h2 => ?_⟩
   have := congrArg UInt8.toNat h2
   rw [UInt8.toNat_ofNat', Nat.mod_eq_of_lt (by omega)] at this
   have h3 : (48 : UInt8).toNat = 48 := rfl
   omega
  ·obtain ⟨x, l, h2, h3⟩ := ih (u / 10) (by omega) (by omega)
   refine ⟨x, l ++ [UInt8.ofNat (48 + u % 10)], ?_, h3⟩
   rw [decDigits, dif_neg h1, h2]; rfl
theorem trimZ_cons (x : UInt8) (l : List UInt8) (h : x ≠ 48) : ∃ l', trimZ (x :: l) = x :: l' := by
 unfold trimZ
 rw [List.reverse_cons, List.dropWhile_append]
 split
 ·rw [List.dropWhile_cons, if_neg (by simpa using h)]
  exact ⟨[], rfl⟩
 ·exact ⟨((l.reverse).dropWhile (· == 48)).reverse, by simp⟩
theorem sig_head (u : Nat) (h : 1 ≤ u) : ∃ x l, sig u = x :: l := by
 obtain ⟨x, l, h1, h2⟩ := dec_head u h
 obtain ⟨l', h3⟩ := trimZ_cons x l h2
 exact ⟨x, l', by unfold sig; rw [h1, h3]⟩
theorem sig_take (u : Nat) : ∃ k, k ≤ (decDigits u).length ∧ sig u = (decDigits u).take k := by
 have h : sig u <+: decDigits u := by
  unfold sig trimZ
  have := List.dropWhile_suffix (fun b : UInt8 => b == 48) (l := (decDigits u).reverse)
  rw [← List.reverse_prefix] at this
  rwa [List.reverse_reverse] at this
 exact ⟨(sig u).length, h.length_le, (List.prefix_iff_eq_take.1 h)⟩
theorem nDigits_le (u : Nat) (h : 1 ≤ u) (h2 : u < 18446744073709551616) : nDigits u ≤ 20 := by
 obtain ⟨h3, h4⟩ := numDigits_eq u h h2
 rw [← h3]
 split <;> omega
end Go.Proofs.YtckaoeloofbklaaGreatDoor
namespace Go.Proofs.YtckaoeloofbklaaGreatDoor
open Go Go.RowKit
theorem run_sbits (b : Nat) (w : World) : (callFunc 207 #[.float .f64 b]).run Tryz.prog w = .ok (.value (.int .u64 b)) w := by
 rw [run_callFunc_extern Tryz.func207 (e := Extern.MathFloatBits.float64bits) (by kernel_rfl) (by kernel_rfl) (by kernel_rfl) (by rfl)]
 rfl
theorem run_sfrom (b : Nat) (w : World) : (callFunc 257 #[.int .u64 b]).run Tryz.prog w = .ok (.value (.float .f64 b)) w := by
 rw [run_callFunc_extern Tryz.func257 (e := Extern.MathFloatBits.float64frombits) (by kernel_rfl) (by kernel_rfl) (by kernel_rfl) (by rfl)]
 rfl
theorem run_mbits (b : Nat) (w : World) : (callFunc 124 #[.float .f64 b]).run Tryz.prog w = .ok (.value (.int .u64 b)) w := by
 rw [run_callFunc_extern Tryz.func124 (e := Extern.MathFloatBits.float64bits) (by kernel_rfl) (by kernel_rfl) (by kernel_rfl) (by rfl)]
 rfl
theorem run_mfrom (b : Nat) (w : World) : (callFunc 96 #[.int .u64 b]).run Tryz.prog w = .ok (.value (.float .f64 b)) w := by
 rw [run_callFunc_extern Tryz.func96 (e := Extern.MathFloatBits.float64frombits) (by kernel_rfl) (by kernel_rfl) (by kernel_rfl) (by rfl)]
 rfl
end Go.Proofs.YtckaoeloofbklaaGreatDoor
namespace Go.Proofs.YtckaoeloofbklaaGreatDoor
open Go Go.RowKit Go.Sort Go.Lib
def z32 : Array Value := #[.int .u8 0, .int .u8 0, .int .u8 0, .int .u8 0, .int .u8 0, .int .u8 0, .int .u8 0, .int .u8 0, .int .u8 0, .int .u8 0, .int .u8 0, .int .u8 0, .int .u8 0, .int .u8 0, .int .u8 0, .int .u8 0, .int .u8 0, .int .u8 0, .int .u8 0, .int .u8 0, .int .u8 0, .int .u8 0, .int .u8 0, .int .u8 0, .int .u8 0, .int .u8 0, .int .u8 0, .int .u8 0, .int .u8 0, .int .u8 0, .int .u8 0, .int .u8 0]
theorem z32_at (i : Nat) (h : i < 32) : z32[i]? = some (.int .u8 0) := by
 have e : z32 = Array.replicate 32 (.int .u8 0) := rfl
 rw [e, Array.getElem?_replicate, if_pos h]
def dpB (d : Nat) (p : Int) : List UInt8 :=
 match sig d with
 | [] => []
 | x0 :: xs => x0 :: ((if 0 < xs.length then 46 :: xs else []) ++ 101 :: expB ((nDigits d : Nat) + p - 1))
theorem bits_and_2047 (b xf : Nat) (_hb : b < 9223372036854775808) (h : b / 4503599627370496 = xf) (h2 : xf ≤ 2047) : bits BinOp.and IntKind.i64 ((b : Int) / 4503599627370496) 2047 = (xf : Int) := by
 have h3 : (b : Int) / 4503599627370496 = (xf : Int) := by omega
 rw [h3]
 have := bits_mask .i64 63 (by decide) (fun n h0 h1 => by rw [IntKind.wrap_i64]; omega) 11 (by decide) (xf : Int) (by omega) (by omega)
 have h4 : ((2 : Int) ^ 11 - 1) = 2047 := by decide
 rw [h4] at this
 rw [this]
 have h5 : ((2 : Int) ^ 11) = 2048 := by decide
 rw [h5]; omega
theorem bits_and_frac (b : Nat) (hb : b < 9223372036854775808) : bits BinOp.and IntKind.u64 (b : Int) 4503599627370495 = ((b % 4503599627370496 : Nat) : Int) := by
 have := bits_and_u64_nat b 4503599627370495 (by omega) (by omega)
 rw [show (4503599627370495 : Nat) = 2 ^ 52 - 1 from rfl, Nat.and_two_pow_sub_one_eq_mod] at this
 exact this
theorem bits_or_top (m : Nat) (hm : m < 4503599627370496) : bits BinOp.or IntKind.u64 (m : Int) 4503599627370496 = ((m + 4503599627370496 : Nat) : Int) := by
 have := bits_or_u64_nat m 4503599627370496 (by omega) (by omega)
 have h2 : m ||| 4503599627370496 = m + 4503599627370496 := by
  have := Nat.two_pow_add_eq_or_of_lt (i := 52) hm 1
  rw [Nat.or_comm, Nat.add_comm]
  simpa using this.symm
 rw [h2] at this
 exact this
theorem below_putRow (w : World) (B blk off : Nat) (d : Array UInt8) : B ≤ blk → Below B w (putRow encB w blk off d) := fun hB =>
 ⟨rfl, rfl, rfl, by simp, fun k hk => by
  unfold putRow mapBlock
  simp only [Array.getElem?_modify]
  rw [if_neg (by omega)]⟩
theorem ftoa_nor (base : Nat) (b xf mt mant s M : Nat) (E : Int) (v : Value) (w : World) (hg : Glob w) (hrow : Row base (fun _ => False) w w v []) (hbl : b < 9223372036854775808)
  (hxf : b / 4503599627370496 = xf) (hmt : b % 4503599627370496 = mt) (hx1 : 1 ≤ xf) (hx2 : xf ≤ 2046) (hma : mt + 4503599627370496 = mant) (hsl : Lib.bitLen mant ≤ 64) (hs : 64 - Lib.bitLen mant = s) (hM : mant * 2 ^ s = M)
  (hM1 : 9223372036854775808 ≤ M) (hM2 : M < 18446744073709551616) (hE : (xf : Int) + -1023 - (s : Int) - 52 = E) (hE1 : -1137 ≤ E) (hE2 : E ≤ 1000) (h0 : M % 2 ^ zN E = 0) :
  Calls Tryz.prog 176 #[v, .float .f64 b, .int .u8 101, .int .i64 (-1)] w (EPost base (fun _ => False) w (dpB (shortN M E).1 (shortN M E).2)) := by
 skip
 have hneg : ((b : Int) / 9223372036854775808 != 0) = false := by simp; omega
 have hand := bits_and_2047 b xf hbl hxf (by omega)
 have hand2 := bits_and_frac b hbl
 rw [hmt] at hand2
 have hor := bits_or_top mt (by omega)
 rw [hma] at hor
 have he1 : ((xf : Int) == 2047) = false := by simp; omega
 have he2 : ((xf : Int) == 0) = false := by simp; omega
 have he3 : ((mant : Int) == 0) = false := by simp; omega
 have he4 : (mant == 0) = false := by simp; omega
 have he5 : ¬ mant = 0 := by omega
 have hb0 : Lib.bitLen (mant : Int).toNat = Lib.bitLen mant := by simp
 have hs' : (64 : Int) - (Lib.bitLen mant : Int) = (s : Int) := by omega
 have hsh : IntKind.u64.wrap ((mant : Int) * 2 ^ s) = (M : Int) := by
  rw [show ((mant : Int) * 2 ^ s) = ((mant * 2 ^ s : Nat) : Int) from by push_cast; rfl, hM, IntKind.wrap_u64]; omega
 have HLEN := Lib.hid (fun (W : World) => Tryz.bits_Len64 (mant : Int) W (by omega) (by omega))
 have hfb := run_sbits b
 obtain ⟨hd1, hd2, hp1, hp2⟩ := short_bounds M E hM1 hM2 h0 hE1 hE2
 have HSH := Lib.hid (fun (W : World) (h : Glob W) => short_any M E W h hM1 hM2 h0 hE1 hE2)
 generalize shortN M E = dp at *
 obtain ⟨d, p⟩ := dp
 simp only at hd1 hd2 hp1 hp2 HSH ⊢
 obtain ⟨x0, xs, hsig⟩ := sig_head d hd1
 have hnd := nDigits_le d hd1 (by omega)
 have hnd1 := nDigits_pos d
 obtain ⟨kk, hkk, htk⟩ := sig_take d
 have hld := decDigits_length d
 have hxl : xs.length ≤ 19 := by
  have := congrArg List.length htk
  rw [hsig, List.length_cons, List.length_take] at this
  omega
 have HDP : Hid (dpB d p = x0 :: ((if 0 < xs.length then 46 :: xs else []) ++ 101 :: expB ((nDigits d : Nat) + p - 1))) := Lib.hid (by unfold dpB; rw [hsig])
 have HSIG := Lib.hid hsig
 obtain ⟨X, hX'⟩ : ∃ X : Int, X = ((nDigits d : Nat) : Int) + p - 1 := ⟨_, rfl⟩
 have hX : ((nDigits d : Nat) : Int) + p = X + 1 := by omega
 rw [← hX'] at HDP
 have hX1 : -399 < X ∧ X < 399 := by omega
 clear hX'
 have HTK := Lib.hid htk
 have HLD := Lib.hid hld
 have HROW := Lib.hid hrow
 have HG := Lib.hid hg
 generalize dpB d p = RES at *
 clear hxf hmt hma hM hs hrow hg hsig htk hld hkk h0
 go_enter Tryz.func176, Tryz.ntmps176
 go_wp2_with fail
 go_quiet (fail)
 go_wp2_with fail
 skip
 refine (HLEN.out _).mono ?_
 rintro e w1 ⟨rfl, rfl⟩
 rw [hb0]
 go_wp2_with fail
 have hbw : Below w.heap.size w ((w.drewN nq).alloc (.cells #[.int .u8 0, .int .u8 0, .int .u8 0, .int .u8 0, .int .u8 0, .int .u8 0, .int .u8 0, .int .u8 0, .int .u8 0, .int .u8 0, .int .u8 0, .int .u8 0, .int .u8 0, .int .u8 0, .int .u8 0, .int .u8 0, .int .u8 0, .int .u8 0, .int .u8 0, .int .u8 0, .int .u8 0, .int .u8 0, .int .u8 0, .int .u8 0, .int .u8 0, .int .u8 0, .int .u8 0, .int .u8 0, .int .u8 0, .int .u8 0, .int .u8 0, .int .u8 0] 215)) := (bDrewN (Below.refl _ _) nq).alloc (Nat.le_refl _) _
 have hbuf : ((w.drewN nq).alloc (.cells #[.int .u8 0, .int .u8 0, .int .u8 0, .int .u8 0, .int .u8 0, .int .u8 0, .int .u8 0, .int .u8 0, .int .u8 0, .int .u8 0, .int .u8 0, .int .u8 0, .int .u8 0, .int .u8 0, .int .u8 0, .int .u8 0, .int .u8 0, .int .u8 0, .int .u8 0, .int .u8 0, .int .u8 0, .int .u8 0, .int .u8 0, .int .u8 0, .int .u8 0, .int .u8 0, .int .u8 0, .int .u8 0, .int .u8 0, .int .u8 0, .int .u8 0, .int .u8 0] 215)).heap[w.heap.size]? = some (.cells z32 215 (0, 0)) := heap_alloc_new (w.drewN nq) _
 have hsz : ((w.drewN nq).alloc (.cells #[.int .u8 0, .int .u8 0, .int .u8 0, .int .u8 0, .int .u8 0, .int .u8 0, .int .u8 0, .int .u8 0, .int .u8 0, .int .u8 0, .int .u8 0, .int .u8 0, .int .u8 0, .int .u8 0, .int .u8 0, .int .u8 0, .int .u8 0, .int .u8 0, .int .u8 0, .int .u8 0, .int .u8 0, .int .u8 0, .int .u8 0, .int .u8 0, .int .u8 0, .int .u8 0, .int .u8 0, .int .u8 0, .int .u8 0, .int .u8 0, .int .u8 0, .int .u8 0] 215)).heap.size = w.heap.size + 1 := by simp
 generalize (w.drewN nq).alloc (.cells #[.int .u8 0, .int .u8 0, .int .u8 0, .int .u8 0, .int .u8 0, .int .u8 0, .int .u8 0, .int .u8 0, .int .u8 0, .int .u8 0, .int .u8 0, .int .u8 0, .int .u8 0, .int .u8 0, .int .u8 0, .int .u8 0, .int .u8 0, .int .u8 0, .int .u8 0, .int .u8 0, .int .u8 0, .int .u8 0, .int .u8 0, .int .u8 0, .int .u8 0, .int .u8 0, .int .u8 0, .int .u8 0, .int .u8 0, .int .u8 0, .int .u8 0, .int .u8 0] 215) = W1 at *
 refine (HSH.out W1 (HG.out.below HG.out.lt hbw)).mono ?_
 rintro e w2 ⟨rfl, hb2⟩
 have hbw2 := hbw.trans (hb2.mono (by omega))
 have hbuf2 := (hb2.block w.heap.size (by omega)).trans hbuf
 have hsz2 := hb2.size
 have HB2 := Lib.hid hbuf2
 have HBW2 := Lib.hid hbw2
 clear hbw hbuf hb2 hbuf2 hbw2
 go_wp2_with fail
 have hH : Holds encB w2.drew w.heap.size 0 (Array.replicate (nDigits d) (0 : UInt8)) := fun j hj => by
  rw [Array.size_replicate] at hj
  rw [Nat.zero_add]
  have hq : w2.drew.heap[w.heap.size]? = some (.cells z32 215 (0, 0)) := HB2.out
  refine ⟨?_, by simp [World.frozen?, hq]⟩
  rw [cell_of_row w2.drew w.heap.size j _ _ _ hq, z32_at j (by omega), getElem!_pos _ j (by simpa using hj)]
  simp [encB]
 have hst := setDigits_any w.heap.size d 32 p w2.drew (by show _ < w2.heap.size; omega) hd1 (by omega) (by omega) (by omega) hnd (by omega) (by omega) hH
 rw [hX, HSIG.out, List.length_cons, show ((xs.length + 1 : Nat) : Int) = (xs.length : Int) + 1 from by push_cast; rfl] at hst
 have HST := Lib.hid hst
 clear hst
 clear hH
 have HND := Lib.hid (Tryz.internal_strconv_numDigits d hd1 (by omega) w2.drew (HG.out.below HG.out.lt HBW2.out.drew).u10)
 go_region_held (fun _ => True)
  (first | trivial)
  (first
   | (go_at_call 93; refine HND.out.mono ?_; rintro e w' ⟨rfl, rfl⟩)
   | (go_at_call 212; refine HST.out.mono ?_; rintro e w4 ⟨rfl, n4, v4, dk, hw4', hfm'⟩; have HW4 := Lib.hid hw4'; have HFM := Lib.hid hfm'; clear hw4' hfm'))
 have hmx : max (xs.length : Int) 0 = (xs.length : Int) := by omega
 have hmx2 : max ((xs.length : Int) + 1 - 1) 0 = (xs.length : Int) := by omega
 go_wp2_with fail
 have hw4 := HW4.out
 have hfm := HFM.out
 have hbw4 : Below w.heap.size w w4 := by
  rw [hw4]
  refine bDrewN ?_ n4
  exact HBW2.out.drew.trans (below_putRow _ _ _ _ _ (Nat.le_refl _))
 have hcell4 : ∀ j u, (x0 :: xs)[j]? = some u → w4.cell? ⟨w.heap.size, j, Option.none⟩ = some (encB u) := fun j u hu => by
  have hj : j < (x0 :: xs).length := (List.getElem?_eq_some_iff.1 hu).1
  rw [← HSIG.out, HTK.out] at hu
  rw [List.getElem?_take] at hu
  split at hu
  ·have hj2 : j < (decDigits d).length := (List.getElem?_eq_some_iff.1 hu).1
   have hj3 : j < nDigits d := by have := HLD.out; omega
   have e1 := row_is_numeral hfm j hj2
   rw [List.getElem?_eq_getElem hj2, e1] at hu
   obtain rfl := Option.some.inj hu
   have hH0 : Holds encB w2.drew w.heap.size 0 (Array.replicate (nDigits d) (0 : UInt8)) := fun j hj => by
    rw [Array.size_replicate] at hj
    rw [Nat.zero_add]
    have hq : w2.drew.heap[w.heap.size]? = some (.cells z32 215 (0, 0)) := HB2.out
    refine ⟨?_, by simp [World.frozen?, hq]⟩
    rw [cell_of_row w2.drew w.heap.size j _ _ _ hq, z32_at j (by omega), getElem!_pos _ j (by simpa using hj)]
    simp [encB]
   have := cell?_putRow encB w2.drew w.heap.size 0 _ dk hH0 (by rw [hfm.size, Array.size_replicate]) j (by rw [hfm.size]; exact hj3)
   rw [Nat.zero_add] at this
   rw [hw4]
   exact this
  ·cases hu
 have hrow4 : Row base (fun k => k = w.heap.size) w4 w4 v [] := by
  have hr := HROW.out
  have hg := hr.go hbw4
  refine ⟨hg.own, fun k hk e => ?_, fun _ _ => rfl, fun k hk => ?_, Below.refl _ _, Nat.le_trans hr.ble hbw4.size⟩
  ·subst hk
   have := (hr.own.lt _ e).2
   omega
  ·subst hk
   have := hbw4.size
   have hz : w4.heap.size = w2.heap.size := by rw [hw4]; simp
   omega
 have HFE := Lib.hid (fmtE_any base w.heap.size (fun k => k = w.heap.size) x0 xs X v 32 w4 w4 hrow4 rfl (by omega) (by omega) (by omega) (by omega) (by omega) hcell4)
 have HBW4 := Lib.hid hbw4
 clear hw4 hfm hcell4 hrow4 hbw4
 refine HFE.out.mono ?_
 rintro e w5 ⟨v5, rfl, hr5⟩
 have HR5 := Lib.hid hr5
 clear hr5
 go_wp2_with fail
 go_ret
 have hr := HROW.out
 rw [HDP.out]
 exact ⟨v5, rfl, HR5.out.own, fun _ h => h.elim, fun _ h => h.elim, fun _ h => h.elim, (HBW4.out.mono hr.ble).trans HR5.out.below, hr.ble⟩
theorem ftoa_sub (base : Nat) (b mant s M : Nat) (E : Int) (v : Value) (w : World) (hg : Glob w) (hrow : Row base (fun _ => False) w w v []) (hbl : b < 9223372036854775808)
  (hma : b = mant) (hb1 : 1 ≤ mant) (hb2 : mant < 4503599627370496) (hsl : Lib.bitLen mant ≤ 64) (hs : 64 - Lib.bitLen mant = s) (hM : mant * 2 ^ s = M)
  (hM1 : 9223372036854775808 ≤ M) (hM2 : M < 18446744073709551616) (hE : -1022 - (s : Int) - 52 = E) (hE1 : -1137 ≤ E) (hE2 : E ≤ 1000) (h0 : M % 2 ^ zN E = 0) :
  Calls Tryz.prog 176 #[v, .float .f64 b, .int .u8 101, .int .i64 (-1)] w (EPost base (fun _ => False) w (dpB (shortN M E).1 (shortN M E).2)) := by
 subst hma
 have hneg : ((b : Int) / 9223372036854775808 != 0) = false := by simp; omega
 have hand : bits BinOp.and IntKind.i64 ((b : Int) / 4503599627370496) 2047 = 0 := bits_and_2047 b 0 hbl (by omega) (by omega)
 have hand2 := bits_and_frac b hbl
 rw [Nat.mod_eq_of_lt (by omega)] at hand2
 skip
 skip
 skip
 skip
 have he3 : ((b : Int) == 0) = false := by simp; omega
 have he4 : (b == 0) = false := by simp; omega
 have he5 : ¬ b = 0 := by omega
 have hb0 : Lib.bitLen (b : Int).toNat = Lib.bitLen b := by simp
 have hs' : (64 : Int) - (Lib.bitLen b : Int) = (s : Int) := by omega
 have hsh : IntKind.u64.wrap ((b : Int) * 2 ^ s) = (M : Int) := by
  rw [show ((b : Int) * 2 ^ s) = ((b * 2 ^ s : Nat) : Int) from by push_cast; rfl, hM, IntKind.wrap_u64]; omega
 have HLEN := Lib.hid (fun (W : World) => Tryz.bits_Len64 (b : Int) W (by omega) (by omega))
 have hfb := run_sbits b
 obtain ⟨hd1, hd2, hp1, hp2⟩ := short_bounds M E hM1 hM2 h0 hE1 hE2
 have HSH := Lib.hid (fun (W : World) (h : Glob W) => short_any M E W h hM1 hM2 h0 hE1 hE2)
 generalize shortN M E = dp at *
 obtain ⟨d, p⟩ := dp
 simp only at hd1 hd2 hp1 hp2 HSH ⊢
 obtain ⟨x0, xs, hsig⟩ := sig_head d hd1
 have hnd := nDigits_le d hd1 (by omega)
 have hnd1 := nDigits_pos d
 obtain ⟨kk, hkk, htk⟩ := sig_take d
 have hld := decDigits_length d
 have hxl : xs.length ≤ 19 := by
  have := congrArg List.length htk
  rw [hsig, List.length_cons, List.length_take] at this
  omega
 have HDP : Hid (dpB d p = x0 :: ((if 0 < xs.length then 46 :: xs else []) ++ 101 :: expB ((nDigits d : Nat) + p - 1))) := Lib.hid (by unfold dpB; rw [hsig])
 have HSIG := Lib.hid hsig
 obtain ⟨X, hX'⟩ : ∃ X : Int, X = ((nDigits d : Nat) : Int) + p - 1 := ⟨_, rfl⟩
 have hX : ((nDigits d : Nat) : Int) + p = X + 1 := by omega
 rw [← hX'] at HDP
 have hX1 : -399 < X ∧ X < 399 := by omega
 clear hX'
 have HTK := Lib.hid htk
 have HLD := Lib.hid hld
 have HROW := Lib.hid hrow
 have HG := Lib.hid hg
 generalize dpB d p = RES at *
 clear hM hs hrow hg hsig htk hld hkk h0
 go_enter Tryz.func176, Tryz.ntmps176
 go_wp2_with fail
 go_quiet (fail)
 go_wp2_with fail
 skip
 refine (HLEN.out _).mono ?_
 rintro e w1 ⟨rfl, rfl⟩
 rw [hb0]
 go_wp2_with fail
 have hbw : Below w.heap.size w ((w.drewN nq).alloc (.cells #[.int .u8 0, .int .u8 0, .int .u8 0, .int .u8 0, .int .u8 0, .int .u8 0, .int .u8 0, .int .u8 0, .int .u8 0, .int .u8 0, .int .u8 0, .int .u8 0, .int .u8 0, .int .u8 0, .int .u8 0, .int .u8 0, .int .u8 0, .int .u8 0, .int .u8 0, .int .u8 0, .int .u8 0, .int .u8 0, .int .u8 0, .int .u8 0, .int .u8 0, .int .u8 0, .int .u8 0, .int .u8 0, .int .u8 0, .int .u8 0, .int .u8 0, .int .u8 0] 215)) := (bDrewN (Below.refl _ _) nq).alloc (Nat.le_refl _) _
 have hbuf : ((w.drewN nq).alloc (.cells #[.int .u8 0, .int .u8 0, .int .u8 0, .int .u8 0, .int .u8 0, .int .u8 0, .int .u8 0, .int .u8 0, .int .u8 0, .int .u8 0, .int .u8 0, .int .u8 0, .int .u8 0, .int .u8 0, .int .u8 0, .int .u8 0, .int .u8 0, .int .u8 0, .int .u8 0, .int .u8 0, .int .u8 0, .int .u8 0, .int .u8 0, .int .u8 0, .int .u8 0, .int .u8 0, .int .u8 0, .int .u8 0, .int .u8 0, .int .u8 0, .int .u8 0, .int .u8 0] 215)).heap[w.heap.size]? = some (.cells z32 215 (0, 0)) := heap_alloc_new (w.drewN nq) _
 have hsz : ((w.drewN nq).alloc (.cells #[.int .u8 0, .int .u8 0, .int .u8 0, .int .u8 0, .int .u8 0, .int .u8 0, .int .u8 0, .int .u8 0, .int .u8 0, .int .u8 0, .int .u8 0, .int .u8 0, .int .u8 0, .int .u8 0, .int .u8 0, .int .u8 0, .int .u8 0, .int .u8 0, .int .u8 0, .int .u8 0, .int .u8 0, .int .u8 0, .int .u8 0, .int .u8 0, .int .u8 0, .int .u8 0, .int .u8 0, .int .u8 0, .int .u8 0, .int .u8 0, .int .u8 0, .int .u8 0] 215)).heap.size = w.heap.size + 1 := by simp
 generalize (w.drewN nq).alloc (.cells #[.int .u8 0, .int .u8 0, .int .u8 0, .int .u8 0, .int .u8 0, .int .u8 0, .int .u8 0, .int .u8 0, .int .u8 0, .int .u8 0, .int .u8 0, .int .u8 0, .int .u8 0, .int .u8 0, .int .u8 0, .int .u8 0, .int .u8 0, .int .u8 0, .int .u8 0, .int .u8 0, .int .u8 0, .int .u8 0, .int .u8 0, .int .u8 0, .int .u8 0, .int .u8 0, .int .u8 0, .int .u8 0, .int .u8 0, .int .u8 0, .int .u8 0, .int .u8 0] 215) = W1 at *
 refine (HSH.out W1 (HG.out.below HG.out.lt hbw)).mono ?_
 rintro e w2 ⟨rfl, hb2⟩
 have hbw2 := hbw.trans (hb2.mono (by omega))
 have hbuf2 := (hb2.block w.heap.size (by omega)).trans hbuf
 have hsz2 := hb2.size
 have HB2 := Lib.hid hbuf2
 have HBW2 := Lib.hid hbw2
 clear hbw hbuf hb2 hbuf2 hbw2
 go_wp2_with fail
 have hH : Holds encB w2.drew w.heap.size 0 (Array.replicate (nDigits d) (0 : UInt8)) := fun j hj => by
  rw [Array.size_replicate] at hj
  rw [Nat.zero_add]
  have hq : w2.drew.heap[w.heap.size]? = some (.cells z32 215 (0, 0)) := HB2.out
  refine ⟨?_, by simp [World.frozen?, hq]⟩
  rw [cell_of_row w2.drew w.heap.size j _ _ _ hq, z32_at j (by omega), getElem!_pos _ j (by simpa using hj)]
  simp [encB]
 have hst := setDigits_any w.heap.size d 32 p w2.drew (by show _ < w2.heap.size; omega) hd1 (by omega) (by omega) (by omega) hnd (by omega) (by omega) hH
 rw [hX, HSIG.out, List.length_cons, show ((xs.length + 1 : Nat) : Int) = (xs.length : Int) + 1 from by push_cast; rfl] at hst
 have HST := Lib.hid hst
 clear hst
 clear hH
 have HND := Lib.hid (Tryz.internal_strconv_numDigits d hd1 (by omega) w2.drew (HG.out.below HG.out.lt HBW2.out.drew).u10)
 go_region_held (fun _ => True)
  (first | trivial)
  (first
   | (go_at_call 93; refine HND.out.mono ?_; rintro e w' ⟨rfl, rfl⟩)
   | (go_at_call 212; refine HST.out.mono ?_; rintro e w4 ⟨rfl, n4, v4, dk, hw4', hfm'⟩; have HW4 := Lib.hid hw4'; have HFM := Lib.hid hfm'; clear hw4' hfm'))
 have hmx : max (xs.length : Int) 0 = (xs.length : Int) := by omega
 have hmx2 : max ((xs.length : Int) + 1 - 1) 0 = (xs.length : Int) := by omega
 go_wp2_with fail
 have hw4 := HW4.out
 have hfm := HFM.out
 have hbw4 : Below w.heap.size w w4 := by
  rw [hw4]
  refine bDrewN ?_ n4
  exact HBW2.out.drew.trans (below_putRow _ _ _ _ _ (Nat.le_refl _))
 have hcell4 : ∀ j u, (x0 :: xs)[j]? = some u → w4.cell? ⟨w.heap.size, j, Option.none⟩ = some (encB u) := fun j u hu => by
  have hj : j < (x0 :: xs).length := (List.getElem?_eq_some_iff.1 hu).1
  rw [← HSIG.out, HTK.out] at hu
  rw [List.getElem?_take] at hu
  split at hu
  ·have hj2 : j < (decDigits d).length := (List.getElem?_eq_some_iff.1 hu).1
   have hj3 : j < nDigits d := by have := HLD.out; omega
   have e1 := row_is_numeral hfm j hj2
   rw [List.getElem?_eq_getElem hj2, e1] at hu
   obtain rfl := Option.some.inj hu
   have hH0 : Holds encB w2.drew w.heap.size 0 (Array.replicate (nDigits d) (0 : UInt8)) := fun j hj => by
    rw [Array.size_replicate] at hj
    rw [Nat.zero_add]
    have hq : w2.drew.heap[w.heap.size]? = some (.cells z32 215 (0, 0)) := HB2.out
    refine ⟨?_, by simp [World.frozen?, hq]⟩
    rw [cell_of_row w2.drew w.heap.size j _ _ _ hq, z32_at j (by omega), getElem!_pos _ j (by simpa using hj)]
    simp [encB]
   have := cell?_putRow encB w2.drew w.heap.size 0 _ dk hH0 (by rw [hfm.size, Array.size_replicate]) j (by rw [hfm.size]; exact hj3)
   rw [Nat.zero_add] at this
   rw [hw4]
   exact this
  ·cases hu
 have hrow4 : Row base (fun k => k = w.heap.size) w4 w4 v [] := by
  have hr := HROW.out
  have hg := hr.go hbw4
  refine ⟨hg.own, fun k hk e => ?_, fun _ _ => rfl, fun k hk => ?_, Below.refl _ _, Nat.le_trans hr.ble hbw4.size⟩
  ·subst hk
   have := (hr.own.lt _ e).2
   omega
  ·subst hk
   have := hbw4.size
   have hz : w4.heap.size = w2.heap.size := by rw [hw4]; simp
   omega
 have HFE := Lib.hid (fmtE_any base w.heap.size (fun k => k = w.heap.size) x0 xs X v 32 w4 w4 hrow4 rfl (by omega) (by omega) (by omega) (by omega) (by omega) hcell4)
 have HBW4 := Lib.hid hbw4
 clear hw4 hfm hcell4 hrow4 hbw4
 refine HFE.out.mono ?_
 rintro e w5 ⟨v5, rfl, hr5⟩
 have HR5 := Lib.hid hr5
 clear hr5
 go_wp2_with fail
 go_ret
 have hr := HROW.out
 rw [HDP.out]
 exact ⟨v5, rfl, HR5.out.own, fun _ h => h.elim, fun _ h => h.elim, fun _ h => h.elim, (HBW4.out.mono hr.ble).trans HR5.out.below, hr.ble⟩
end Go.Proofs.YtckaoeloofbklaaGreatDoor
namespace Go.Proofs.YtckaoeloofbklaaGreatDoor
open Go Go.RowKit Go.Sort Go.Lib
def mtN (b : Nat) : Nat := if b < 4503599627370496 then b else b % 4503599627370496 + 4503599627370496
def sN (b : Nat) : Nat := 64 - Lib.bitLen (mtN b)
def MN (b : Nat) : Nat := mtN b * 2 ^ sN b
def EN (b : Nat) : Int := (if b < 4503599627370496 then -1022 else ((b / 4503599627370496 : Nat) : Int) + -1023) - (sN b : Int) - 52
def fmtB (b : Nat) : List UInt8 := dpB (shortN (MN b) (EN b)).1 (shortN (MN b) (EN b)).2
theorem bitLen_bounds (x : Nat) (h1 : 1 ≤ x) (h2 : x < 18446744073709551616) : 1 ≤ Lib.bitLen x ∧ 2 ^ (Lib.bitLen x - 1) ≤ x ∧ x < 2 ^ Lib.bitLen x := Lib.bitLenAux_bounds 64 x h2 (by omega)
theorem bitLen_le (x k : Nat) (h1 : 1 ≤ x) (h2 : x < 18446744073709551616) (h : x < 2 ^ k) : Lib.bitLen x ≤ k := by
 obtain ⟨b1, b2, _⟩ := bitLen_bounds x h1 h2
 have h3 := Nat.lt_of_le_of_lt b2 h
 have := (Nat.pow_lt_pow_iff_right (by decide)).1 h3
 omega
theorem bitLen_gt (x k : Nat) (h1 : 1 ≤ x) (h2 : x < 18446744073709551616) (h : 2 ^ k ≤ x) : k < Lib.bitLen x := by
 obtain ⟨_, _, b3⟩ := bitLen_bounds x h1 h2
 have h3 := Nat.lt_of_le_of_lt h b3
 exact (Nat.pow_lt_pow_iff_right (by decide)).1 h3
theorem norm_bounds (x : Nat) (h1 : 1 ≤ x) (h2 : x < 18446744073709551616) : 9223372036854775808 ≤ x * 2 ^ (64 - Lib.bitLen x) ∧ x * 2 ^ (64 - Lib.bitLen x) < 18446744073709551616 := by
 obtain ⟨b1, b2, b3⟩ := bitLen_bounds x h1 h2
 have b4 := bitLen_le x 64 h1 h2 h2
 have e1 : 2 ^ (Lib.bitLen x - 1) * 2 ^ (64 - Lib.bitLen x) = 2 ^ 63 := by rw [← Nat.pow_add]; congr 1; omega
 have e2 : 2 ^ Lib.bitLen x * 2 ^ (64 - Lib.bitLen x) = 2 ^ 64 := by rw [← Nat.pow_add]; congr 1; omega
 constructor
 ·have := Nat.mul_le_mul_right (2 ^ (64 - Lib.bitLen x)) b2
  rw [e1] at this
  exact this
 ·have := (Nat.mul_lt_mul_right (Nat.two_pow_pos (64 - Lib.bitLen x))).2 b3
  rw [e2] at this
  exact this
theorem ftoa_any (base b : Nat) (v : Value) (w : World) (hg : Glob w) (hrow : Row base (fun _ => False) w w v []) (hb1 : 0 < b) (hb2 : b < 9218868437227405312) :
  Calls Tryz.prog 176 #[v, .float .f64 b, .int .u8 101, .int .i64 (-1)] w (EPost base (fun _ => False) w (fmtB b)) := by
 unfold fmtB
 by_cases hs : b < 4503599627370496
 ·have hm : mtN b = b := by unfold mtN; rw [if_pos hs]
  have hL := bitLen_le b 52 hb1 (by omega) hs
  obtain ⟨hM1, hM2⟩ := norm_bounds b hb1 (by omega)
  obtain ⟨hL1, _, _⟩ := bitLen_bounds b hb1 (by omega)
  have hE : EN b = -1074 - ((64 - Lib.bitLen b : Nat) : Int) := by unfold EN sN; rw [if_pos hs, hm]; omega
  have hz : zN (EN b) = 64 - Lib.bitLen b := by unfold zN; rw [hE, if_neg (by omega)]; omega
  have hM : b * 2 ^ (64 - Lib.bitLen b) = MN b := by unfold MN sN; rw [hm]
  rw [hM] at hM1 hM2
  exact ftoa_sub base b b (64 - Lib.bitLen b) (MN b) (EN b) v w hg hrow (by omega) rfl hb1 hs (by omega) rfl hM hM1 hM2 (by rw [hE]; omega) (by omega) (by omega) (by rw [hz, ← hM]; exact Nat.mul_mod_left _ _)
 ·have hm : mtN b = b % 4503599627370496 + 4503599627370496 := by unfold mtN; rw [if_neg hs]
  have hr := Nat.mod_lt b (show 0 < 4503599627370496 by decide)
  have hL1 := bitLen_le (b % 4503599627370496 + 4503599627370496) 53 (by omega) (by omega) (by omega)
  have hL2 := bitLen_gt (b % 4503599627370496 + 4503599627370496) 52 (by omega) (by omega) (by omega)
  obtain ⟨hM1, hM2⟩ := norm_bounds (b % 4503599627370496 + 4503599627370496) (by omega) (by omega)
  have hL : Lib.bitLen (b % 4503599627370496 + 4503599627370496) = 53 := by omega
  have hM : (b % 4503599627370496 + 4503599627370496) * 2 ^ (64 - Lib.bitLen (b % 4503599627370496 + 4503599627370496)) = MN b := by unfold MN sN; rw [hm]
  rw [hM] at hM1 hM2
  have hE : EN b = ((b / 4503599627370496 : Nat) : Int) - 1086 := by unfold EN sN; rw [if_neg hs, hm, hL]; omega
  have hz : zN (EN b) = 11 := by unfold zN; rw [hE, if_pos (by omega)]
  exact ftoa_nor base b _ _ _ 11 (MN b) (EN b) v w hg hrow (by omega) rfl rfl (by omega) (by omega) rfl (by omega) (by rw [hL]) (by rw [← hM, hL]) hM1 hM2 (by rw [hE]; omega) (by omega) (by omega) (by rw [hz, ← hM, hL]; exact Nat.mul_mod_left _ _)
end Go.Proofs.YtckaoeloofbklaaGreatDoor
namespace Go.Proofs.YtckaoeloofbklaaGreatDoor
open Go Go.RowKit Go.Sort Go.Lib
def z24 : Array Value := #[.int .u8 0, .int .u8 0, .int .u8 0, .int .u8 0, .int .u8 0, .int .u8 0, .int .u8 0, .int .u8 0, .int .u8 0, .int .u8 0, .int .u8 0, .int .u8 0, .int .u8 0, .int .u8 0, .int .u8 0, .int .u8 0, .int .u8 0, .int .u8 0, .int .u8 0, .int .u8 0, .int .u8 0, .int .u8 0, .int .u8 0, .int .u8 0]
theorem strOf_map (l : List UInt8) : strOfNums (l.map fun x => (x.toNat : Int)) = ⟨l.toArray⟩ := by
 unfold strOfNums
 congr 2
 rw [List.map_map]
 conv => rhs; rw [← List.map_id l]
 refine List.map_congr_left fun x _ => ?_
 simp
theorem Row.text {base : Nat} {S : Nat → Prop} {W0 W : World} {v : Value} {l : List UInt8} (h : Row base S W0 W v l) : (convert 28 9 v).run Tryz.prog W = .ok (.string ⟨l.toArray⟩) W := by
 rcases h.own.2 with ⟨h1, h2⟩ | ⟨g, cap, cur, h1, h2, h3, h4, h5, h6, h7⟩
 ·obtain rfl := List.eq_nil_of_length_eq_zero h2
  rw [h1]
  exact run_convert_bytes_nil W _ _ Tryz.underlying28 Tryz.underlying5 0 0 _ Tryz.underlying9
 ·rw [h1, ← strOf_map]
  refine run_convert_bytes_arg W _ _ Tryz.underlying28 Tryz.underlying5 g 0 l.length cap (l.map fun x => (x.toNat : Int)) (by simp) (fun i hi => ?_) _ Tryz.underlying9
  rw [Nat.zero_add, cell_of_row W g i _ _ _ h3]
  have h8 := congrArg (fun q : List Value => q[i]?) h7
  simp only [Nat.mul_one, List.getElem?_take, hi, if_true, Array.getElem?_toList] at h8
  rw [h8]
  simp [encB, hi]
theorem iformat_any (b : Nat) (w : World) (hg : Glob w) (hb1 : 0 < b) (hb2 : b < 9218868437227405312) :
  Calls Tryz.prog 134 #[.float .f64 b, .int .u8 101, .int .i64 (-1), .int .i64 64] w fun e w' => e = .returned (.string ⟨(fmtB b).toArray⟩) ∧ Below w.heap.size w w' := by
 have hal : Below w.heap.size w (w.alloc (.cells z24 5)) := (Below.refl _ _).alloc (Nat.le_refl _) _
 have hrow : Row w.heap.size (fun _ => False) (w.alloc (.cells z24 5)) (w.alloc (.cells z24 5)) (.slice (some ⟨w.heap.size, 0, Option.none⟩) 0 24) [] :=
  ⟨World.ownsRow_made w z24 24 (Nat.le_refl _) (by unfold maxLen; omega) (by rfl), fun _ h => h.elim, fun _ h => h.elim, fun _ h => h.elim, Below.refl _ _, by simp⟩
 have HF := Lib.hid (ftoa_any w.heap.size b _ _ (hg.below hg.lt hal) hrow hb1 hb2)
 have HAL := Lib.hid hal
 have HX := Lib.hid (fun (W W' : World) (v : Value) (l : List UInt8) (h : Row w.heap.size (fun _ => False) W W' v l) => h.text)
 clear hg hrow hal
 have hmax : max (3 : Int) 24 = 24 := by decide
 have hmk : ∀ W : World, (Instr.makeSlice 28 (.int .i64 0) (.int .i64 24)).run Tryz.prog W = .ok (.slice (some ⟨W.heap.size, 0, Option.none⟩) 0 24) (W.alloc (.cells z24 5)) := fun _ => by kernel_rfl
 generalize fmtB b = R at *
 go_enter Tryz.func134, Tryz.ntmps134
 go_wp2_with fail
 refine HF.out.mono ?_
 rintro e w5 ⟨v5, rfl, hr5⟩
 have hcv := HX.out _ _ _ _ hr5
 have HB := Lib.hid hr5.below
 clear hr5
 go_wp2_with fail
 go_ret
 exact ⟨rfl, HAL.out.trans HB.out⟩
theorem format_any (b : Nat) (w : World) (hg : Glob w) (hb1 : 0 < b) (hb2 : b < 9218868437227405312) :
  Calls Tryz.prog 99 #[.float .f64 b, .int .u8 101, .int .i64 (-1), .int .i64 64] w fun e w' => e = .returned (.string ⟨(fmtB b).toArray⟩) ∧ Below w.heap.size w w' := by
 have HF := Lib.hid (iformat_any b w hg hb1 hb2)
 clear hg
 go_enter Tryz.func99, Tryz.ntmps99
 go_wp2_with fail
 refine HF.out.mono ?_
 rintro e w5 ⟨rfl, hb⟩
 have HB := Lib.hid hb
 clear hb
 go_wp2_with fail
 go_ret
 exact ⟨rfl, HB.out⟩
end Go.Proofs.YtckaoeloofbklaaGreatDoor
namespace Go.Proofs.YtckaoeloofbklaaGreatDoor
open Go Go.RowKit Go.Sort Go.Lib
def expS (x : Int) : List UInt8 := 101 :: (if x < 0 then 45 else 43) :: decDigits x.natAbs
def placedB (d : List UInt8) (p : Int) : List UInt8 :=
 if (d.length : Int) ≤ p ∧ p ≤ 21 then d ++ List.replicate (p - d.length).toNat 48
 else if 0 < p ∧ p < d.length ∧ p ≤ 21 then d.take p.toNat ++ 46 :: d.drop p.toNat
 else if -6 < p ∧ p ≤ 0 then 48 :: 46 :: (List.replicate (-p).toNat 48 ++ d)
 else (if 1 < d.length then d.take 1 ++ 46 :: d.drop 1 else d) ++ expS (p - 1)
theorem repeat48 (k : Nat) : repeatL [48] k = List.replicate k 48 := by
 induction k with
 | zero => rfl
 | succ k ih => simp [repeatL, ih, List.replicate_succ]
theorem str_is {l : List UInt8} {s : ByteArray} (h : s.data.toList = l) : s = ⟨l.toArray⟩ := by
 subst h; rfl
theorem zeros_any (k : Int) (w : World) (h0 : 0 ≤ k) (h1 : k ≤ 10000) :
  Calls Tryz.prog 140 #[.string ⟨#[48]⟩, .int .i64 k] w fun e w' => e = .returned (.string ⟨(List.replicate k.toNat 48).toArray⟩) ∧ Below w.heap.size w w' := by
 obtain ⟨n, rfl⟩ := Int.eq_ofNat_of_zero_le h0
 have := Tryz.strings_Repeat ⟨#[48]⟩ n w (by omega) (by show 1 * n ≤ _; omega)
 rw [show (⟨#[48]⟩ : ByteArray).data.toList = [48] from rfl, repeat48] at this
 exact this
theorem zz (k : Nat) : (⟨(List.replicate k 48).toArray⟩ : ByteArray).size = k := by
 show (List.replicate k (48 : UInt8)).toArray.size = k
 rw [List.size_toArray, List.length_replicate]
theorem placed_1 (d : ByteArray) (p : Int) (w : World) (hd : d.size ≤ 20) (h1 : (d.size : Int) ≤ p) (h2 : p ≤ 21) :
  Calls Tryz.prog 104 #[.string d, .int .i64 p] w fun e w' => e = .returned (.string ⟨(placedB d.data.toList p).toArray⟩) ∧ Below w.heap.size w w' := by
 have hR : d ++ (⟨(List.replicate (p - d.size).toNat 48).toArray⟩ : ByteArray) = ⟨(placedB d.data.toList p).toArray⟩ := by
  refine str_is ?_
  rw [placedB, if_pos (by simpa using ⟨h1, h2⟩)]
  simp
 have HZ := Lib.hid (zeros_any (p - d.size) w (by omega) (by omega))
 have hz : (⟨(List.replicate (p - d.size).toNat 48).toArray⟩ : ByteArray).size ≤ 100 := by rw [zz]; omega
 generalize (⟨(placedB d.data.toList p).toArray⟩ : ByteArray) = R at *
 generalize (⟨(List.replicate (p - d.size).toNat 48).toArray⟩ : ByteArray) = Z at *
 go_enter Tryz.func104, Tryz.ntmps104
 go_wp2_with fail
 refine HZ.out.mono ?_
 rintro e w5 ⟨rfl, hb⟩
 have HB := Lib.hid hb
 clear hb
 go_wp2_with fail
 go_ret
 exact ⟨rfl, HB.out⟩
theorem placed_2 (d : ByteArray) (p : Int) (w : World) (hd : d.size ≤ 20) (h1 : 0 < p) (h2 : p < d.size) (h3 : p ≤ 21) :
  Calls Tryz.prog 104 #[.string d, .int .i64 p] w fun e w' => e = .returned (.string ⟨(placedB d.data.toList p).toArray⟩) ∧ Below w.heap.size w w' := by
 obtain ⟨q, rfl⟩ := Int.eq_ofNat_of_zero_le (show 0 ≤ p by omega)
 have hR : d.extract 0 q ++ (⟨#[46]⟩ : ByteArray) ++ d.extract q d.size = ⟨(placedB d.data.toList q).toArray⟩ := by
  refine str_is ?_
  rw [placedB, if_neg (show ¬ _ by simp; omega), if_pos (by simp; omega)]
  simp [List.extract_eq_take_drop, ← ByteArray.size_data]
  exact List.take_of_length_le (by simp)
 have HB := Lib.hid (Below.refl w.heap.size w)
 have hq : q ≤ d.size := by omega
 have hA : ∀ W : World, (Instr.slice 9 (.string d) none (some (.int .i64 q)) none).run Tryz.prog W = .ok (.string (d.extract 0 q)) W := fun W => run_slice_string_h W _ d Tryz.underlying9 .i64 q (by omega) (by omega)
 have hC : ∀ W : World, (Instr.slice 9 (.string d) (some (.int .i64 q)) none none).run Tryz.prog W = .ok (.string (d.extract q d.size)) W := fun W => run_slice_string_l W _ d Tryz.underlying9 .i64 q (by omega) (by omega)
 have za : (d.extract 0 q).size ≤ 100 := by rw [ByteArray.size_extract]; omega
 have zc : (d.extract q d.size).size ≤ 100 := by rw [ByteArray.size_extract]; omega
 generalize d.extract 0 q = A at *
 generalize d.extract q d.size = C at *
 generalize (⟨(placedB d.data.toList q).toArray⟩ : ByteArray) = R at *
 go_enter Tryz.func104, Tryz.ntmps104
 go_wp2_with fail
 go_quiet (fail)
 go_wp2
 go_ret
 exact ⟨rfl, bDrewN HB.out _⟩
theorem placed_3 (d : ByteArray) (p : Int) (w : World) (hd : d.size ≤ 20) (hd1 : 1 ≤ d.size) (h1 : -6 < p) (h2 : p ≤ 0) :
  Calls Tryz.prog 104 #[.string d, .int .i64 p] w fun e w' => e = .returned (.string ⟨(placedB d.data.toList p).toArray⟩) ∧ Below w.heap.size w w' := by
 have hR : (⟨#[48, 46]⟩ : ByteArray) ++ (⟨(List.replicate (-p).toNat 48).toArray⟩ : ByteArray) ++ d = ⟨(placedB d.data.toList p).toArray⟩ := by
  refine str_is ?_
  rw [placedB, if_neg (show ¬ _ by simp; omega), if_neg (show ¬ _ by omega), if_pos ⟨h1, h2⟩]
  simp
 have HZ := Lib.hid (zeros_any (-p) w (by omega) (by omega))
 have hz : (⟨(List.replicate (-p).toNat 48).toArray⟩ : ByteArray).size ≤ 100 := by rw [zz]; omega
 generalize (⟨(placedB d.data.toList p).toArray⟩ : ByteArray) = R at *
 generalize (⟨(List.replicate (-p).toNat 48).toArray⟩ : ByteArray) = Z at *
 go_enter Tryz.func104, Tryz.ntmps104
 go_wp2_with fail
 refine HZ.out.mono ?_
 rintro e w5 ⟨rfl, hb⟩
 have HB := Lib.hid hb
 clear hb
 go_wp2_with fail
 go_ret
 exact ⟨rfl, HB.out⟩
theorem itoa_any (n : Nat) (w : World) (hg : Glob w) (hn : n ≤ 5001) :
  Calls Tryz.prog 141 #[.int .i64 n] w fun e w' => e = .returned (.string ⟨(decDigits n).toArray⟩) ∧ Below w.heap.size w w' := by
 refine (Tryz.strconv_Itoa n (by omega) (by omega) w hg.u10).mono ?_
 rintro e w' ⟨rfl, k, os, rfl⟩
 refine ⟨by rw [itoa, if_neg (by omega)]; rfl, ?_⟩
 exact below_grow _ w (Nat.le_refl _) k os
theorem placed_4ps (d : ByteArray) (k : Nat) (w : World) (hg : Glob w) (_hd : d.size ≤ 20) (hd1 : d.size = 1) (hk : 21 ≤ k) (hk2 : k ≤ 5001) :
  Calls Tryz.prog 104 #[.string d, .int .i64 ((k : Int) + 1)] w fun e w' => e = .returned (.string ⟨(placedB d.data.toList ((k : Int) + 1)).toArray⟩) ∧ Below w.heap.size w w' := by
 have HI := Lib.hid (itoa_any k w hg hk2)
 have hz : (⟨(decDigits k).toArray⟩ : ByteArray).size ≤ 100 := by
  show (decDigits k).toArray.size ≤ 100
  rw [List.size_toArray, decDigits_length]
  have := nDigits_le k (by omega) (by omega); omega
 have hR : d ++ (⟨#[101]⟩ : ByteArray) ++ (⟨#[43]⟩ : ByteArray) ++ ⟨(decDigits k).toArray⟩ = ⟨(placedB d.data.toList ((k : Int) + 1)).toArray⟩ := by
  refine str_is ?_
  rw [placedB, if_neg (show ¬ _ by omega), if_neg (show ¬ _ by omega), if_neg (show ¬ _ by omega), if_neg (show ¬ 1 < d.data.toList.length by rw [Array.length_toList]; exact Nat.not_lt.2 (Nat.le_of_eq hd1)), expS, if_neg (show ¬ ((k : Int) + 1) - 1 < 0 by omega), show (((k : Int) + 1) - 1).natAbs = k by omega]
  simp
 have ha : ((k : Int) + 1) - 1 = k := by omega
 clear hg
 generalize (⟨(placedB d.data.toList ((k : Int) + 1)).toArray⟩ : ByteArray) = R at *
 generalize (⟨(decDigits k).toArray⟩ : ByteArray) = Z at *
 go_enter Tryz.func104, Tryz.ntmps104
 go_wp2_with fail
 refine HI.out.mono ?_
 rintro e w5 ⟨rfl, hb⟩
 have HB := Lib.hid hb
 clear hb
 go_wp2_with fail
 go_ret
 exact ⟨rfl, HB.out⟩
theorem placed_4pl (d : ByteArray) (k : Nat) (w : World) (hg : Glob w) (hd : d.size ≤ 20) (hd1 : 1 < d.size) (hk : 21 ≤ k) (hk2 : k ≤ 5001) :
  Calls Tryz.prog 104 #[.string d, .int .i64 ((k : Int) + 1)] w fun e w' => e = .returned (.string ⟨(placedB d.data.toList ((k : Int) + 1)).toArray⟩) ∧ Below w.heap.size w w' := by
 have HI := Lib.hid (fun (n : Nat) => itoa_any k (w.drewN n) (hg.drewN n) hk2)
 have hz : (⟨(decDigits k).toArray⟩ : ByteArray).size ≤ 100 := by
  show (decDigits k).toArray.size ≤ 100
  rw [List.size_toArray, decDigits_length]
  have := nDigits_le k (by omega) (by omega); omega
 have hA : ∀ W : World, (Instr.slice 9 (.string d) none (some (.int .i64 1)) none).run Tryz.prog W = .ok (.string (d.extract 0 1)) W := fun W => run_slice_string_h W _ d Tryz.underlying9 .i64 1 (by omega) (by omega)
 have hC : ∀ W : World, (Instr.slice 9 (.string d) (some (.int .i64 1)) none none).run Tryz.prog W = .ok (.string (d.extract 1 d.size)) W := fun W => run_slice_string_l W _ d Tryz.underlying9 .i64 1 (by omega) (by omega)
 have za : (d.extract 0 1).size ≤ 100 := by rw [ByteArray.size_extract]; omega
 have zc : (d.extract 1 d.size).size ≤ 100 := by rw [ByteArray.size_extract]; omega
 have hR : d.extract 0 1 ++ (⟨#[46]⟩ : ByteArray) ++ d.extract 1 d.size ++ (⟨#[101]⟩ : ByteArray) ++ (⟨#[43]⟩ : ByteArray) ++ ⟨(decDigits k).toArray⟩ = ⟨(placedB d.data.toList ((k : Int) + 1)).toArray⟩ := by
  refine str_is ?_
  rw [placedB, if_neg (show ¬ _ by omega), if_neg (show ¬ _ by omega), if_neg (show ¬ _ by omega), if_pos (show 1 < d.data.toList.length by rw [Array.length_toList]; exact hd1), expS, if_neg (show ¬ ((k : Int) + 1) - 1 < 0 by omega), show (((k : Int) + 1) - 1).natAbs = k by omega]
  simp [List.extract_eq_take_drop, ← ByteArray.size_data]
  exact List.take_of_length_le (by simp)
 have hns : ((k : Int) + 1 < (d.size : Int)) = False := by simp; omega
 have ha : ((k : Int) + 1) - 1 = k := by omega
 clear hg
 generalize (⟨(placedB d.data.toList ((k : Int) + 1)).toArray⟩ : ByteArray) = R at *
 generalize (⟨(decDigits k).toArray⟩ : ByteArray) = Z at *
 generalize d.extract 0 1 = A at *
 generalize d.extract 1 d.size = C at *
 go_enter Tryz.func104, Tryz.ntmps104
 go_wp2_with fail
 go_quiet (fail)
 go_wp2_with fail
 refine (HI.out _).mono ?_
 rintro e w5 ⟨rfl, hb⟩
 have HB := Lib.hid hb
 clear hb
 go_wp2_with fail
 go_ret
 exact ⟨rfl, (bDrewN (Below.refl _ _) _).trans HB.out⟩
theorem placed_4ns (d : ByteArray) (k : Nat) (w : World) (hg : Glob w) (_hd : d.size ≤ 20) (hd1 : d.size = 1) (hk : 7 ≤ k) (hk2 : k ≤ 5001) :
  Calls Tryz.prog 104 #[.string d, .int .i64 (1 - (k : Int))] w fun e w' => e = .returned (.string ⟨(placedB d.data.toList (1 - (k : Int))).toArray⟩) ∧ Below w.heap.size w w' := by
 have HI := Lib.hid (itoa_any k w hg hk2)
 have hz : (⟨(decDigits k).toArray⟩ : ByteArray).size ≤ 100 := by
  show (decDigits k).toArray.size ≤ 100
  rw [List.size_toArray, decDigits_length]
  have := nDigits_le k (by omega) (by omega); omega
 have hR : d ++ (⟨#[101]⟩ : ByteArray) ++ (⟨#[45]⟩ : ByteArray) ++ ⟨(decDigits k).toArray⟩ = ⟨(placedB d.data.toList (1 - (k : Int))).toArray⟩ := by
  refine str_is ?_
  rw [placedB, if_neg (show ¬ _ by omega), if_neg (show ¬ _ by omega), if_neg (show ¬ _ by omega), if_neg (show ¬ 1 < d.data.toList.length by rw [Array.length_toList]; exact Nat.not_lt.2 (Nat.le_of_eq hd1)), expS, if_pos (show (1 - (k : Int)) - 1 < 0 by omega), show ((1 - (k : Int)) - 1).natAbs = k by omega]
  simp
 have ha : (1 - (k : Int)) - 1 = -(k : Int) := by omega
 clear hg
 generalize (⟨(placedB d.data.toList (1 - (k : Int))).toArray⟩ : ByteArray) = R at *
 generalize (⟨(decDigits k).toArray⟩ : ByteArray) = Z at *
 go_enter Tryz.func104, Tryz.ntmps104
 go_wp2_with fail
 refine HI.out.mono ?_
 rintro e w5 ⟨rfl, hb⟩
 have HB := Lib.hid hb
 clear hb
 go_wp2_with fail
 go_ret
 exact ⟨rfl, HB.out⟩
theorem placed_4nl (d : ByteArray) (k : Nat) (w : World) (hg : Glob w) (hd : d.size ≤ 20) (hd1 : 1 < d.size) (hk : 7 ≤ k) (hk2 : k ≤ 5001) :
  Calls Tryz.prog 104 #[.string d, .int .i64 (1 - (k : Int))] w fun e w' => e = .returned (.string ⟨(placedB d.data.toList (1 - (k : Int))).toArray⟩) ∧ Below w.heap.size w w' := by
 have HI := Lib.hid (fun (n : Nat) => itoa_any k (w.drewN n) (hg.drewN n) hk2)
 have hz : (⟨(decDigits k).toArray⟩ : ByteArray).size ≤ 100 := by
  show (decDigits k).toArray.size ≤ 100
  rw [List.size_toArray, decDigits_length]
  have := nDigits_le k (by omega) (by omega); omega
 have hA : ∀ W : World, (Instr.slice 9 (.string d) none (some (.int .i64 1)) none).run Tryz.prog W = .ok (.string (d.extract 0 1)) W := fun W => run_slice_string_h W _ d Tryz.underlying9 .i64 1 (by omega) (by omega)
 have hC : ∀ W : World, (Instr.slice 9 (.string d) (some (.int .i64 1)) none none).run Tryz.prog W = .ok (.string (d.extract 1 d.size)) W := fun W => run_slice_string_l W _ d Tryz.underlying9 .i64 1 (by omega) (by omega)
 have za : (d.extract 0 1).size ≤ 100 := by rw [ByteArray.size_extract]; omega
 have zc : (d.extract 1 d.size).size ≤ 100 := by rw [ByteArray.size_extract]; omega
 have hR : d.extract 0 1 ++ (⟨#[46]⟩ : ByteArray) ++ d.extract 1 d.size ++ (⟨#[101]⟩ : ByteArray) ++ (⟨#[45]⟩ : ByteArray) ++ ⟨(decDigits k).toArray⟩ = ⟨(placedB d.data.toList (1 - (k : Int))).toArray⟩ := by
  refine str_is ?_
  rw [placedB, if_neg (show ¬ _ by omega), if_neg (show ¬ _ by omega), if_neg (show ¬ _ by omega), if_pos (show 1 < d.data.toList.length by rw [Array.length_toList]; exact hd1), expS, if_pos (show (1 - (k : Int)) - 1 < 0 by omega), show ((1 - (k : Int)) - 1).natAbs = k by omega]
  simp [List.extract_eq_take_drop, ← ByteArray.size_data]
  exact List.take_of_length_le (by simp)
 have ha : (1 - (k : Int)) - 1 = -(k : Int) := by omega
 clear hg
 generalize (⟨(placedB d.data.toList (1 - (k : Int))).toArray⟩ : ByteArray) = R at *
 generalize (⟨(decDigits k).toArray⟩ : ByteArray) = Z at *
 generalize d.extract 0 1 = A at *
 generalize d.extract 1 d.size = C at *
 go_enter Tryz.func104, Tryz.ntmps104
 go_wp2_with fail
 go_quiet (fail)
 go_wp2_with fail
 refine (HI.out _).mono ?_
 rintro e w5 ⟨rfl, hb⟩
 have HB := Lib.hid hb
 clear hb
 go_wp2_with fail
 go_ret
 exact ⟨rfl, (bDrewN (Below.refl _ _) _).trans HB.out⟩
theorem placed_any (d : ByteArray) (p : Int) (w : World) (hg : Glob w) (hd : d.size ≤ 20) (hd1 : 1 ≤ d.size) (h2 : -5000 ≤ p) (h3 : p ≤ 5000) :
  Calls Tryz.prog 104 #[.string d, .int .i64 p] w fun e w' => e = .returned (.string ⟨(placedB d.data.toList p).toArray⟩) ∧ Below w.heap.size w w' := by
 by_cases h21 : p ≤ 21
 ·by_cases hn : (d.size : Int) ≤ p
  ·exact placed_1 d p w hd hn h21
  ·by_cases h0 : 0 < p
   ·exact placed_2 d p w hd h0 (by omega) h21
   ·by_cases h6 : -6 < p
    ·exact placed_3 d p w hd hd1 h6 (by omega)
    ·obtain ⟨k, hk⟩ : ∃ k : Nat, p = 1 - (k : Int) := ⟨(1 - p).toNat, by omega⟩
     subst hk
     by_cases h1 : d.size = 1
     ·exact placed_4ns d k w hg hd h1 (by omega) (by omega)
     ·exact placed_4nl d k w hg hd (by omega) (by omega) (by omega)
 ·obtain ⟨k, hk⟩ : ∃ k : Nat, p = (k : Int) + 1 := ⟨(p - 1).toNat, by omega⟩
  subst hk
  by_cases h1 : d.size = 1
  ·exact placed_4ps d k w hg hd h1 (by omega) (by omega)
  ·exact placed_4pl d k w hg hd (by omega) (by omega) (by omega)
end Go.Proofs.YtckaoeloofbklaaGreatDoor
