/- Joined texts: Vg Vj Vl. Each begins with its own remark. -/
import Derived.Test.YtckaoeloofbklaaGreatDoorYe
import Derived.Test.YtckaoeloofbklaaGreatDoorYb
import Derived.Laws.Externs
namespace Go.Proofs.YtckaoeloofbklaaGreatDoor
open Go Go.RowKit Go.Sort Go.Lib
def EPost (base : Nat) (S : Nat → Prop) (W0 : World) (l : List UInt8) (e : Ending) (w' : World) : Prop := ∃ v', e = .returned v' ∧ Row base S W0 w' v' l
set_option maxRecDepth 100000 in
set_option maxHeartbeats 8000000 in
theorem fmtE_op0 (base b : Nat) (S : Nat → Prop) (x0 : UInt8) (xs : List UInt8) (x : Int) (a : Nat) (v : Value) (cap : Nat) (W0 w : World) (hrow : Row base S W0 w v []) (hS : S b) (hxs : xs.length ≤ 20) (_hcap : 32 ≤ cap) (_hcap2 : cap ≤ 1000)
    (hcell : ∀ j u, (x0 :: xs)[j]? = some u → W0.cell? ⟨b, j, Option.none⟩ = some (encB u)) (hn : xs.length = 0) (hx : x = (a : Int)) (ha1 : a < 10) (ha2 : a < 10) :
    Calls Tryz.prog 210 #[v, .bool false, .slice (some ⟨b, 0, Option.none⟩) 32 cap, .int .i64 (x + 1), .int .i64 ((xs.length : Nat) + 1), .int .i64 (xs.length : Nat), .int .u8 101, .bool true] w (EPost base S W0 (x0 :: ((if 0 < xs.length then 46 :: xs else []) ++ 101 :: expB x))) := by
  have c0 : w.cell? ⟨b, 0, Option.none⟩ = some (.int .u8 (x0.toNat : Int)) := (World.cell?_of_block (w := W0) (a := ⟨b, 0, Option.none⟩) (hrow.keep b hS)).trans (hcell 0 x0 rfl)
  obtain ⟨va, vc, rfl⟩ := hrow.form
  have hex : expB x = 43 :: [48, UInt8.ofNat (48 + a)] := by
    have hna : x.natAbs = a := by omega
    unfold expB
    rw [hna, if_neg (show ¬ x < 0 by omega), if_pos (show a < 10 by omega)]
  obtain ⟨q1, hq1⟩ : ∃ q : Int, q = ((UInt8.ofNat (48 + a)).toNat : Int) := ⟨_, rfl⟩
  have hw1 : (a : Int) + 48 = q1 := by rw [hq1, ofNat_toNat _ (by omega)]; omega
  have CS : Hid (#[.int .u8 48, .int .u8 q1] = (([48, UInt8.ofNat (48 + a)] : List UInt8).map encB).toArray) := Lib.hid (by simp [encB, hq1])
  have HEX := Lib.hid hex
  obtain ⟨m1, hm1⟩ : ∃ m, (([] : List UInt8) ++ [x0]).length = m := ⟨_, rfl⟩
  obtain ⟨g1, c1, W1, hr1, row1⟩ := hrow.push' 28 [x0] 1 #[.int .u8 (x0.toNat : Int)] m1 rfl (by first | rfl | exact CS.out) (by decide) (by simp only [List.length_nil]; omega) hm1
  have HR1 := Lib.hid hr1
  have tok1 : True := trivial
  clear hr1 hm1
  obtain ⟨m5, hm5⟩ : ∃ m, (([] ++ [x0] : List UInt8) ++ [101]).length = m := ⟨_, rfl⟩
  obtain ⟨g5, c5, W5, hr5, row5⟩ := row1.push' 28 [101] 1 #[.int .u8 101] m5 rfl (by first | rfl | exact CS.out) (by decide) (by simp only [List.length_append, List.length_cons, List.length_nil]; omega) hm5
  have HR5 := Lib.hid hr5
  have tok5 : True := trivial
  clear hr5 hm5
  obtain ⟨m6, hm6⟩ : ∃ m, (([] ++ [x0] ++ [101] : List UInt8) ++ [43]).length = m := ⟨_, rfl⟩
  obtain ⟨g6, c6, W6, hr6, row6⟩ := row5.push' 28 [43] 1 #[.int .u8 43] m6 rfl (by first | rfl | exact CS.out) (by decide) (by simp only [List.length_append, List.length_cons, List.length_nil]; omega) hm6
  have HR6 := Lib.hid hr6
  have tok6 : True := trivial
  clear hr6 hm6
  obtain ⟨m7, hm7⟩ : ∃ m, (([] ++ [x0] ++ [101] ++ [43] : List UInt8) ++ [48, UInt8.ofNat (48 + a)]).length = m := ⟨_, rfl⟩
  obtain ⟨g7, c7, W7, hr7, row7⟩ := row6.push' 28 [48, UInt8.ofNat (48 + a)] 2 #[.int .u8 48, .int .u8 q1] m7 rfl (by first | rfl | exact CS.out) (by decide) (by simp only [List.length_append, List.length_cons, List.length_nil]; omega) hm7
  have HR7 := Lib.hid hr7
  have tok7 : True := trivial
  clear hr7 hm7
  have HROW : Hid (Row base S W0 W7 (.slice (some ⟨g7, 0, Option.none⟩) m7 c7) (x0 :: ((if 0 < xs.length then 46 :: xs else []) ++ 101 :: expB x))) := Lib.hid (by
    have := row7
    rw [HEX.out]
    obtain rfl : xs = [] := List.eq_nil_of_length_eq_zero hn
    simpa using this)
  clear row1 row5 row6 row7 hex hcell hrow hq1 CS HEX
  generalize (x0 :: ((if 0 < xs.length then 46 :: xs else []) ++ 101 :: expB x)) = RES at *
  rw [hn]
  clear hn hxs
  subst hx
  have hlt : decide ((a : Int) < 0) = false := by rw [decide_eq_false_iff_not]; omega
  go_enter Tryz.func210, Tryz.ntmps210
  go_wp2_with (first | (at_builtin; have tk := tok1; refine Lib.wpList_append_run _ rfl _ _ _ _ rfl _ _ rfl rfl _ _ HR1.out ?_; clear tok1 tk) | (at_builtin; have tk := tok5; refine Lib.wpList_append_run _ rfl _ _ _ _ rfl _ _ rfl rfl _ _ HR5.out ?_; clear tok5 tk) | (at_builtin; have tk := tok6; refine Lib.wpList_append_run _ rfl _ _ _ _ rfl _ _ rfl rfl _ _ HR6.out ?_; clear tok6 tk) | (at_builtin; have tk := tok7; refine Lib.wpList_append_run _ rfl _ _ _ _ rfl _ _ rfl rfl _ _ HR7.out ?_; clear tok7 tk) | fail)
  go_ret
  exact ⟨_, rfl, HROW.out⟩
set_option maxRecDepth 100000 in
set_option maxHeartbeats 8000000 in
theorem fmtE_op1 (base b : Nat) (S : Nat → Prop) (x0 : UInt8) (xs : List UInt8) (x : Int) (a : Nat) (v : Value) (cap : Nat) (W0 w : World) (hrow : Row base S W0 w v []) (hS : S b) (hxs : xs.length ≤ 20) (_hcap : 32 ≤ cap) (_hcap2 : cap ≤ 1000)
    (hcell : ∀ j u, (x0 :: xs)[j]? = some u → W0.cell? ⟨b, j, Option.none⟩ = some (encB u)) (hn : xs.length = 0) (hx : x = (a : Int)) (ha1 : 10 ≤ a) (ha2 : a < 100) :
    Calls Tryz.prog 210 #[v, .bool false, .slice (some ⟨b, 0, Option.none⟩) 32 cap, .int .i64 (x + 1), .int .i64 ((xs.length : Nat) + 1), .int .i64 (xs.length : Nat), .int .u8 101, .bool true] w (EPost base S W0 (x0 :: ((if 0 < xs.length then 46 :: xs else []) ++ 101 :: expB x))) := by
  have c0 : w.cell? ⟨b, 0, Option.none⟩ = some (.int .u8 (x0.toNat : Int)) := (World.cell?_of_block (w := W0) (a := ⟨b, 0, Option.none⟩) (hrow.keep b hS)).trans (hcell 0 x0 rfl)
  obtain ⟨va, vc, rfl⟩ := hrow.form
  have hex : expB x = 43 :: [UInt8.ofNat (48 + a / 10), UInt8.ofNat (48 + a % 10)] := by
    have hna : x.natAbs = a := by omega
    unfold expB
    rw [hna, if_neg (show ¬ x < 0 by omega), if_neg (show ¬ a < 10 by omega), if_pos (show a < 100 by omega)]
  obtain ⟨q1, hq1⟩ : ∃ q : Int, q = ((UInt8.ofNat (48 + a / 10)).toNat : Int) := ⟨_, rfl⟩
  have hw1 : (a : Int) / 10 + 48 = q1 := by rw [hq1, ofNat_toNat _ (by omega)]; omega
  obtain ⟨q2, hq2⟩ : ∃ q : Int, q = ((UInt8.ofNat (48 + a % 10)).toNat : Int) := ⟨_, rfl⟩
  have hw2 : (a : Int) % 10 + 48 = q2 := by rw [hq2, ofNat_toNat _ (by omega)]; omega
  have CS : Hid (#[.int .u8 q1, .int .u8 q2] = (([UInt8.ofNat (48 + a / 10), UInt8.ofNat (48 + a % 10)] : List UInt8).map encB).toArray) := Lib.hid (by simp [encB, hq1, hq2])
  have HEX := Lib.hid hex
  obtain ⟨m1, hm1⟩ : ∃ m, (([] : List UInt8) ++ [x0]).length = m := ⟨_, rfl⟩
  obtain ⟨g1, c1, W1, hr1, row1⟩ := hrow.push' 28 [x0] 1 #[.int .u8 (x0.toNat : Int)] m1 rfl (by first | rfl | exact CS.out) (by decide) (by simp only [List.length_nil]; omega) hm1
  have HR1 := Lib.hid hr1
  have tok1 : True := trivial
  clear hr1 hm1
  obtain ⟨m5, hm5⟩ : ∃ m, (([] ++ [x0] : List UInt8) ++ [101]).length = m := ⟨_, rfl⟩
  obtain ⟨g5, c5, W5, hr5, row5⟩ := row1.push' 28 [101] 1 #[.int .u8 101] m5 rfl (by first | rfl | exact CS.out) (by decide) (by simp only [List.length_append, List.length_cons, List.length_nil]; omega) hm5
  have HR5 := Lib.hid hr5
  have tok5 : True := trivial
  clear hr5 hm5
  obtain ⟨m6, hm6⟩ : ∃ m, (([] ++ [x0] ++ [101] : List UInt8) ++ [43]).length = m := ⟨_, rfl⟩
  obtain ⟨g6, c6, W6, hr6, row6⟩ := row5.push' 28 [43] 1 #[.int .u8 43] m6 rfl (by first | rfl | exact CS.out) (by decide) (by simp only [List.length_append, List.length_cons, List.length_nil]; omega) hm6
  have HR6 := Lib.hid hr6
  have tok6 : True := trivial
  clear hr6 hm6
  obtain ⟨m7, hm7⟩ : ∃ m, (([] ++ [x0] ++ [101] ++ [43] : List UInt8) ++ [UInt8.ofNat (48 + a / 10), UInt8.ofNat (48 + a % 10)]).length = m := ⟨_, rfl⟩
  obtain ⟨g7, c7, W7, hr7, row7⟩ := row6.push' 28 [UInt8.ofNat (48 + a / 10), UInt8.ofNat (48 + a % 10)] 2 #[.int .u8 q1, .int .u8 q2] m7 rfl (by first | rfl | exact CS.out) (by decide) (by simp only [List.length_append, List.length_cons, List.length_nil]; omega) hm7
  have HR7 := Lib.hid hr7
  have tok7 : True := trivial
  clear hr7 hm7
  have HROW : Hid (Row base S W0 W7 (.slice (some ⟨g7, 0, Option.none⟩) m7 c7) (x0 :: ((if 0 < xs.length then 46 :: xs else []) ++ 101 :: expB x))) := Lib.hid (by
    have := row7
    rw [HEX.out]
    obtain rfl : xs = [] := List.eq_nil_of_length_eq_zero hn
    simpa using this)
  clear row1 row5 row6 row7 hex hcell hrow hq1 hq2 CS HEX
  generalize (x0 :: ((if 0 < xs.length then 46 :: xs else []) ++ 101 :: expB x)) = RES at *
  rw [hn]
  clear hn hxs
  subst hx
  have hlt : decide ((a : Int) < 0) = false := by rw [decide_eq_false_iff_not]; omega
  go_enter Tryz.func210, Tryz.ntmps210
  go_wp2_with (first | (at_builtin; have tk := tok1; refine Lib.wpList_append_run _ rfl _ _ _ _ rfl _ _ rfl rfl _ _ HR1.out ?_; clear tok1 tk) | (at_builtin; have tk := tok5; refine Lib.wpList_append_run _ rfl _ _ _ _ rfl _ _ rfl rfl _ _ HR5.out ?_; clear tok5 tk) | (at_builtin; have tk := tok6; refine Lib.wpList_append_run _ rfl _ _ _ _ rfl _ _ rfl rfl _ _ HR6.out ?_; clear tok6 tk) | (at_builtin; have tk := tok7; refine Lib.wpList_append_run _ rfl _ _ _ _ rfl _ _ rfl rfl _ _ HR7.out ?_; clear tok7 tk) | fail)
  go_ret
  exact ⟨_, rfl, HROW.out⟩
set_option maxRecDepth 100000 in
set_option maxHeartbeats 8000000 in
theorem fmtE_op2 (base b : Nat) (S : Nat → Prop) (x0 : UInt8) (xs : List UInt8) (x : Int) (a : Nat) (v : Value) (cap : Nat) (W0 w : World) (hrow : Row base S W0 w v []) (hS : S b) (hxs : xs.length ≤ 20) (_hcap : 32 ≤ cap) (_hcap2 : cap ≤ 1000)
    (hcell : ∀ j u, (x0 :: xs)[j]? = some u → W0.cell? ⟨b, j, Option.none⟩ = some (encB u)) (hn : xs.length = 0) (hx : x = (a : Int)) (ha1 : 100 ≤ a) (ha2 : a < 400) :
    Calls Tryz.prog 210 #[v, .bool false, .slice (some ⟨b, 0, Option.none⟩) 32 cap, .int .i64 (x + 1), .int .i64 ((xs.length : Nat) + 1), .int .i64 (xs.length : Nat), .int .u8 101, .bool true] w (EPost base S W0 (x0 :: ((if 0 < xs.length then 46 :: xs else []) ++ 101 :: expB x))) := by
  have c0 : w.cell? ⟨b, 0, Option.none⟩ = some (.int .u8 (x0.toNat : Int)) := (World.cell?_of_block (w := W0) (a := ⟨b, 0, Option.none⟩) (hrow.keep b hS)).trans (hcell 0 x0 rfl)
  obtain ⟨va, vc, rfl⟩ := hrow.form
  have hex : expB x = 43 :: [UInt8.ofNat (48 + a / 100), UInt8.ofNat (48 + a / 10 % 10), UInt8.ofNat (48 + a % 10)] := by
    have hna : x.natAbs = a := by omega
    unfold expB
    rw [hna, if_neg (show ¬ x < 0 by omega), if_neg (show ¬ a < 10 by omega), if_neg (show ¬ a < 100 by omega)]
  obtain ⟨q1, hq1⟩ : ∃ q : Int, q = ((UInt8.ofNat (48 + a / 100)).toNat : Int) := ⟨_, rfl⟩
  have hw1 : (a : Int) / 100 + 48 = q1 := by rw [hq1, ofNat_toNat _ (by omega)]; omega
  obtain ⟨q2, hq2⟩ : ∃ q : Int, q = ((UInt8.ofNat (48 + a / 10 % 10)).toNat : Int) := ⟨_, rfl⟩
  have hw2 : (a : Int) / 10 % 10 + 48 = q2 := by rw [hq2, ofNat_toNat _ (by omega)]; omega
  obtain ⟨q3, hq3⟩ : ∃ q : Int, q = ((UInt8.ofNat (48 + a % 10)).toNat : Int) := ⟨_, rfl⟩
  have hw3 : (a : Int) % 10 + 48 = q3 := by rw [hq3, ofNat_toNat _ (by omega)]; omega
  have CS : Hid (#[.int .u8 q1, .int .u8 q2, .int .u8 q3] = (([UInt8.ofNat (48 + a / 100), UInt8.ofNat (48 + a / 10 % 10), UInt8.ofNat (48 + a % 10)] : List UInt8).map encB).toArray) := Lib.hid (by simp [encB, hq1, hq2, hq3])
  have HEX := Lib.hid hex
  obtain ⟨m1, hm1⟩ : ∃ m, (([] : List UInt8) ++ [x0]).length = m := ⟨_, rfl⟩
  obtain ⟨g1, c1, W1, hr1, row1⟩ := hrow.push' 28 [x0] 1 #[.int .u8 (x0.toNat : Int)] m1 rfl (by first | rfl | exact CS.out) (by decide) (by simp only [List.length_nil]; omega) hm1
  have HR1 := Lib.hid hr1
  have tok1 : True := trivial
  clear hr1 hm1
  obtain ⟨m5, hm5⟩ : ∃ m, (([] ++ [x0] : List UInt8) ++ [101]).length = m := ⟨_, rfl⟩
  obtain ⟨g5, c5, W5, hr5, row5⟩ := row1.push' 28 [101] 1 #[.int .u8 101] m5 rfl (by first | rfl | exact CS.out) (by decide) (by simp only [List.length_append, List.length_cons, List.length_nil]; omega) hm5
  have HR5 := Lib.hid hr5
  have tok5 : True := trivial
  clear hr5 hm5
  obtain ⟨m6, hm6⟩ : ∃ m, (([] ++ [x0] ++ [101] : List UInt8) ++ [43]).length = m := ⟨_, rfl⟩
  obtain ⟨g6, c6, W6, hr6, row6⟩ := row5.push' 28 [43] 1 #[.int .u8 43] m6 rfl (by first | rfl | exact CS.out) (by decide) (by simp only [List.length_append, List.length_cons, List.length_nil]; omega) hm6
  have HR6 := Lib.hid hr6
  have tok6 : True := trivial
  clear hr6 hm6
  obtain ⟨m7, hm7⟩ : ∃ m, (([] ++ [x0] ++ [101] ++ [43] : List UInt8) ++ [UInt8.ofNat (48 + a / 100), UInt8.ofNat (48 + a / 10 % 10), UInt8.ofNat (48 + a % 10)]).length = m := ⟨_, rfl⟩
  obtain ⟨g7, c7, W7, hr7, row7⟩ := row6.push' 28 [UInt8.ofNat (48 + a / 100), UInt8.ofNat (48 + a / 10 % 10), UInt8.ofNat (48 + a % 10)] 3 #[.int .u8 q1, .int .u8 q2, .int .u8 q3] m7 rfl (by first | rfl | exact CS.out) (by decide) (by simp only [List.length_append, List.length_cons, List.length_nil]; omega) hm7
  have HR7 := Lib.hid hr7
  have tok7 : True := trivial
  clear hr7 hm7
  have HROW : Hid (Row base S W0 W7 (.slice (some ⟨g7, 0, Option.none⟩) m7 c7) (x0 :: ((if 0 < xs.length then 46 :: xs else []) ++ 101 :: expB x))) := Lib.hid (by
    have := row7
    rw [HEX.out]
    obtain rfl : xs = [] := List.eq_nil_of_length_eq_zero hn
    simpa using this)
  clear row1 row5 row6 row7 hex hcell hrow hq1 hq2 hq3 CS HEX
  generalize (x0 :: ((if 0 < xs.length then 46 :: xs else []) ++ 101 :: expB x)) = RES at *
  rw [hn]
  clear hn hxs
  subst hx
  have hlt : decide ((a : Int) < 0) = false := by rw [decide_eq_false_iff_not]; omega
  go_enter Tryz.func210, Tryz.ntmps210
  go_wp2_with (first | (at_builtin; have tk := tok1; refine Lib.wpList_append_run _ rfl _ _ _ _ rfl _ _ rfl rfl _ _ HR1.out ?_; clear tok1 tk) | (at_builtin; have tk := tok5; refine Lib.wpList_append_run _ rfl _ _ _ _ rfl _ _ rfl rfl _ _ HR5.out ?_; clear tok5 tk) | (at_builtin; have tk := tok6; refine Lib.wpList_append_run _ rfl _ _ _ _ rfl _ _ rfl rfl _ _ HR6.out ?_; clear tok6 tk) | (at_builtin; have tk := tok7; refine Lib.wpList_append_run _ rfl _ _ _ _ rfl _ _ rfl rfl _ _ HR7.out ?_; clear tok7 tk) | fail)
  go_ret
  exact ⟨_, rfl, HROW.out⟩
set_option maxRecDepth 100000 in
set_option maxHeartbeats 8000000 in
theorem fmtE_on0 (base b : Nat) (S : Nat → Prop) (x0 : UInt8) (xs : List UInt8) (x : Int) (a : Nat) (v : Value) (cap : Nat) (W0 w : World) (hrow : Row base S W0 w v []) (hS : S b) (hxs : xs.length ≤ 20) (_hcap : 32 ≤ cap) (_hcap2 : cap ≤ 1000)
    (hcell : ∀ j u, (x0 :: xs)[j]? = some u → W0.cell? ⟨b, j, Option.none⟩ = some (encB u)) (hn : xs.length = 0) (hx : x = -(a : Int)) (ha0 : 0 < a) (ha1 : a < 10) (ha2 : a < 10) :
    Calls Tryz.prog 210 #[v, .bool false, .slice (some ⟨b, 0, Option.none⟩) 32 cap, .int .i64 (x + 1), .int .i64 ((xs.length : Nat) + 1), .int .i64 (xs.length : Nat), .int .u8 101, .bool true] w (EPost base S W0 (x0 :: ((if 0 < xs.length then 46 :: xs else []) ++ 101 :: expB x))) := by
  have c0 : w.cell? ⟨b, 0, Option.none⟩ = some (.int .u8 (x0.toNat : Int)) := (World.cell?_of_block (w := W0) (a := ⟨b, 0, Option.none⟩) (hrow.keep b hS)).trans (hcell 0 x0 rfl)
  obtain ⟨va, vc, rfl⟩ := hrow.form
  have hex : expB x = 45 :: [48, UInt8.ofNat (48 + a)] := by
    have hna : x.natAbs = a := by omega
    unfold expB
    rw [hna, if_pos (show x < 0 by omega), if_pos (show a < 10 by omega)]
  obtain ⟨q1, hq1⟩ : ∃ q : Int, q = ((UInt8.ofNat (48 + a)).toNat : Int) := ⟨_, rfl⟩
  have hw1 : (a : Int) + 48 = q1 := by rw [hq1, ofNat_toNat _ (by omega)]; omega
  have CS : Hid (#[.int .u8 48, .int .u8 q1] = (([48, UInt8.ofNat (48 + a)] : List UInt8).map encB).toArray) := Lib.hid (by simp [encB, hq1])
  have HEX := Lib.hid hex
  obtain ⟨m1, hm1⟩ : ∃ m, (([] : List UInt8) ++ [x0]).length = m := ⟨_, rfl⟩
  obtain ⟨g1, c1, W1, hr1, row1⟩ := hrow.push' 28 [x0] 1 #[.int .u8 (x0.toNat : Int)] m1 rfl (by first | rfl | exact CS.out) (by decide) (by simp only [List.length_nil]; omega) hm1
  have HR1 := Lib.hid hr1
  have tok1 : True := trivial
  clear hr1 hm1
  obtain ⟨m5, hm5⟩ : ∃ m, (([] ++ [x0] : List UInt8) ++ [101]).length = m := ⟨_, rfl⟩
  obtain ⟨g5, c5, W5, hr5, row5⟩ := row1.push' 28 [101] 1 #[.int .u8 101] m5 rfl (by first | rfl | exact CS.out) (by decide) (by simp only [List.length_append, List.length_cons, List.length_nil]; omega) hm5
  have HR5 := Lib.hid hr5
  have tok5 : True := trivial
  clear hr5 hm5
  obtain ⟨m6, hm6⟩ : ∃ m, (([] ++ [x0] ++ [101] : List UInt8) ++ [45]).length = m := ⟨_, rfl⟩
  obtain ⟨g6, c6, W6, hr6, row6⟩ := row5.push' 28 [45] 1 #[.int .u8 45] m6 rfl (by first | rfl | exact CS.out) (by decide) (by simp only [List.length_append, List.length_cons, List.length_nil]; omega) hm6
  have HR6 := Lib.hid hr6
  have tok6 : True := trivial
  clear hr6 hm6
  obtain ⟨m7, hm7⟩ : ∃ m, (([] ++ [x0] ++ [101] ++ [45] : List UInt8) ++ [48, UInt8.ofNat (48 + a)]).length = m := ⟨_, rfl⟩
  obtain ⟨g7, c7, W7, hr7, row7⟩ := row6.push' 28 [48, UInt8.ofNat (48 + a)] 2 #[.int .u8 48, .int .u8 q1] m7 rfl (by first | rfl | exact CS.out) (by decide) (by simp only [List.length_append, List.length_cons, List.length_nil]; omega) hm7
  have HR7 := Lib.hid hr7
  have tok7 : True := trivial
  clear hr7 hm7
  have HROW : Hid (Row base S W0 W7 (.slice (some ⟨g7, 0, Option.none⟩) m7 c7) (x0 :: ((if 0 < xs.length then 46 :: xs else []) ++ 101 :: expB x))) := Lib.hid (by
    have := row7
    rw [HEX.out]
    obtain rfl : xs = [] := List.eq_nil_of_length_eq_zero hn
    simpa using this)
  clear row1 row5 row6 row7 hex hcell hrow hq1 CS HEX
  generalize (x0 :: ((if 0 < xs.length then 46 :: xs else []) ++ 101 :: expB x)) = RES at *
  rw [hn]
  clear hn hxs
  subst hx
  have hlt : decide (-(a : Int) < 0) = true := by rw [decide_eq_true_eq]; omega
  go_enter Tryz.func210, Tryz.ntmps210
  go_wp2_with (first | (at_builtin; have tk := tok1; refine Lib.wpList_append_run _ rfl _ _ _ _ rfl _ _ rfl rfl _ _ HR1.out ?_; clear tok1 tk) | (at_builtin; have tk := tok5; refine Lib.wpList_append_run _ rfl _ _ _ _ rfl _ _ rfl rfl _ _ HR5.out ?_; clear tok5 tk) | (at_builtin; have tk := tok6; refine Lib.wpList_append_run _ rfl _ _ _ _ rfl _ _ rfl rfl _ _ HR6.out ?_; clear tok6 tk) | (at_builtin; have tk := tok7; refine Lib.wpList_append_run _ rfl _ _ _ _ rfl _ _ rfl rfl _ _ HR7.out ?_; clear tok7 tk) | fail)
  go_ret
  exact ⟨_, rfl, HROW.out⟩
set_option maxRecDepth 100000 in
set_option maxHeartbeats 8000000 in
theorem fmtE_on1 (base b : Nat) (S : Nat → Prop) (x0 : UInt8) (xs : List UInt8) (x : Int) (a : Nat) (v : Value) (cap : Nat) (W0 w : World) (hrow : Row base S W0 w v []) (hS : S b) (hxs : xs.length ≤ 20) (_hcap : 32 ≤ cap) (_hcap2 : cap ≤ 1000)
    (hcell : ∀ j u, (x0 :: xs)[j]? = some u → W0.cell? ⟨b, j, Option.none⟩ = some (encB u)) (hn : xs.length = 0) (hx : x = -(a : Int)) (ha0 : 0 < a) (ha1 : 10 ≤ a) (ha2 : a < 100) :
    Calls Tryz.prog 210 #[v, .bool false, .slice (some ⟨b, 0, Option.none⟩) 32 cap, .int .i64 (x + 1), .int .i64 ((xs.length : Nat) + 1), .int .i64 (xs.length : Nat), .int .u8 101, .bool true] w (EPost base S W0 (x0 :: ((if 0 < xs.length then 46 :: xs else []) ++ 101 :: expB x))) := by
  have c0 : w.cell? ⟨b, 0, Option.none⟩ = some (.int .u8 (x0.toNat : Int)) := (World.cell?_of_block (w := W0) (a := ⟨b, 0, Option.none⟩) (hrow.keep b hS)).trans (hcell 0 x0 rfl)
  obtain ⟨va, vc, rfl⟩ := hrow.form
  have hex : expB x = 45 :: [UInt8.ofNat (48 + a / 10), UInt8.ofNat (48 + a % 10)] := by
    have hna : x.natAbs = a := by omega
    unfold expB
    rw [hna, if_pos (show x < 0 by omega), if_neg (show ¬ a < 10 by omega), if_pos (show a < 100 by omega)]
  obtain ⟨q1, hq1⟩ : ∃ q : Int, q = ((UInt8.ofNat (48 + a / 10)).toNat : Int) := ⟨_, rfl⟩
  have hw1 : (a : Int) / 10 + 48 = q1 := by rw [hq1, ofNat_toNat _ (by omega)]; omega
  obtain ⟨q2, hq2⟩ : ∃ q : Int, q = ((UInt8.ofNat (48 + a % 10)).toNat : Int) := ⟨_, rfl⟩
  have hw2 : (a : Int) % 10 + 48 = q2 := by rw [hq2, ofNat_toNat _ (by omega)]; omega
  have CS : Hid (#[.int .u8 q1, .int .u8 q2] = (([UInt8.ofNat (48 + a / 10), UInt8.ofNat (48 + a % 10)] : List UInt8).map encB).toArray) := Lib.hid (by simp [encB, hq1, hq2])
  have HEX := Lib.hid hex
  obtain ⟨m1, hm1⟩ : ∃ m, (([] : List UInt8) ++ [x0]).length = m := ⟨_, rfl⟩
  obtain ⟨g1, c1, W1, hr1, row1⟩ := hrow.push' 28 [x0] 1 #[.int .u8 (x0.toNat : Int)] m1 rfl (by first | rfl | exact CS.out) (by decide) (by simp only [List.length_nil]; omega) hm1
  have HR1 := Lib.hid hr1
  have tok1 : True := trivial
  clear hr1 hm1
  obtain ⟨m5, hm5⟩ : ∃ m, (([] ++ [x0] : List UInt8) ++ [101]).length = m := ⟨_, rfl⟩
  obtain ⟨g5, c5, W5, hr5, row5⟩ := row1.push' 28 [101] 1 #[.int .u8 101] m5 rfl (by first | rfl | exact CS.out) (by decide) (by simp only [List.length_append, List.length_cons, List.length_nil]; omega) hm5
  have HR5 := Lib.hid hr5
  have tok5 : True := trivial
  clear hr5 hm5
  obtain ⟨m6, hm6⟩ : ∃ m, (([] ++ [x0] ++ [101] : List UInt8) ++ [45]).length = m := ⟨_, rfl⟩
  obtain ⟨g6, c6, W6, hr6, row6⟩ := row5.push' 28 [45] 1 #[.int .u8 45] m6 rfl (by first | rfl | exact CS.out) (by decide) (by simp only [List.length_append, List.length_cons, List.length_nil]; omega) hm6
  have HR6 := Lib.hid hr6
  have tok6 : True := trivial
  clear hr6 hm6
  obtain ⟨m7, hm7⟩ : ∃ m, (([] ++ [x0] ++ [101] ++ [45] : List UInt8) ++ [UInt8.ofNat (48 + a / 10), UInt8.ofNat (48 + a % 10)]).length = m := ⟨_, rfl⟩
  obtain ⟨g7, c7, W7, hr7, row7⟩ := row6.push' 28 [UInt8.ofNat (48 + a / 10), UInt8.ofNat (48 + a % 10)] 2 #[.int .u8 q1, .int .u8 q2] m7 rfl (by first | rfl | exact CS.out) (by decide) (by simp only [List.length_append, List.length_cons, List.length_nil]; omega) hm7
  have HR7 := Lib.hid hr7
  have tok7 : True := trivial
  clear hr7 hm7
  have HROW : Hid (Row base S W0 W7 (.slice (some ⟨g7, 0, Option.none⟩) m7 c7) (x0 :: ((if 0 < xs.length then 46 :: xs else []) ++ 101 :: expB x))) := Lib.hid (by
    have := row7
    rw [HEX.out]
    obtain rfl : xs = [] := List.eq_nil_of_length_eq_zero hn
    simpa using this)
  clear row1 row5 row6 row7 hex hcell hrow hq1 hq2 CS HEX
  generalize (x0 :: ((if 0 < xs.length then 46 :: xs else []) ++ 101 :: expB x)) = RES at *
  rw [hn]
  clear hn hxs
  subst hx
  have hlt : decide (-(a : Int) < 0) = true := by rw [decide_eq_true_eq]; omega
  go_enter Tryz.func210, Tryz.ntmps210
  go_wp2_with (first | (at_builtin; have tk := tok1; refine Lib.wpList_append_run _ rfl _ _ _ _ rfl _ _ rfl rfl _ _ HR1.out ?_; clear tok1 tk) | (at_builtin; have tk := tok5; refine Lib.wpList_append_run _ rfl _ _ _ _ rfl _ _ rfl rfl _ _ HR5.out ?_; clear tok5 tk) | (at_builtin; have tk := tok6; refine Lib.wpList_append_run _ rfl _ _ _ _ rfl _ _ rfl rfl _ _ HR6.out ?_; clear tok6 tk) | (at_builtin; have tk := tok7; refine Lib.wpList_append_run _ rfl _ _ _ _ rfl _ _ rfl rfl _ _ HR7.out ?_; clear tok7 tk) | fail)
  go_ret
  exact ⟨_, rfl, HROW.out⟩
set_option maxRecDepth 100000 in
set_option maxHeartbeats 8000000 in
theorem fmtE_on2 (base b : Nat) (S : Nat → Prop) (x0 : UInt8) (xs : List UInt8) (x : Int) (a : Nat) (v : Value) (cap : Nat) (W0 w : World) (hrow : Row base S W0 w v []) (hS : S b) (hxs : xs.length ≤ 20) (_hcap : 32 ≤ cap) (_hcap2 : cap ≤ 1000)
    (hcell : ∀ j u, (x0 :: xs)[j]? = some u → W0.cell? ⟨b, j, Option.none⟩ = some (encB u)) (hn : xs.length = 0) (hx : x = -(a : Int)) (ha0 : 0 < a) (ha1 : 100 ≤ a) (ha2 : a < 400) :
    Calls Tryz.prog 210 #[v, .bool false, .slice (some ⟨b, 0, Option.none⟩) 32 cap, .int .i64 (x + 1), .int .i64 ((xs.length : Nat) + 1), .int .i64 (xs.length : Nat), .int .u8 101, .bool true] w (EPost base S W0 (x0 :: ((if 0 < xs.length then 46 :: xs else []) ++ 101 :: expB x))) := by
  have c0 : w.cell? ⟨b, 0, Option.none⟩ = some (.int .u8 (x0.toNat : Int)) := (World.cell?_of_block (w := W0) (a := ⟨b, 0, Option.none⟩) (hrow.keep b hS)).trans (hcell 0 x0 rfl)
  obtain ⟨va, vc, rfl⟩ := hrow.form
  have hex : expB x = 45 :: [UInt8.ofNat (48 + a / 100), UInt8.ofNat (48 + a / 10 % 10), UInt8.ofNat (48 + a % 10)] := by
    have hna : x.natAbs = a := by omega
    unfold expB
    rw [hna, if_pos (show x < 0 by omega), if_neg (show ¬ a < 10 by omega), if_neg (show ¬ a < 100 by omega)]
  obtain ⟨q1, hq1⟩ : ∃ q : Int, q = ((UInt8.ofNat (48 + a / 100)).toNat : Int) := ⟨_, rfl⟩
  have hw1 : (a : Int) / 100 + 48 = q1 := by rw [hq1, ofNat_toNat _ (by omega)]; omega
  obtain ⟨q2, hq2⟩ : ∃ q : Int, q = ((UInt8.ofNat (48 + a / 10 % 10)).toNat : Int) := ⟨_, rfl⟩
  have hw2 : (a : Int) / 10 % 10 + 48 = q2 := by rw [hq2, ofNat_toNat _ (by omega)]; omega
  obtain ⟨q3, hq3⟩ : ∃ q : Int, q = ((UInt8.ofNat (48 + a % 10)).toNat : Int) := ⟨_, rfl⟩
  have hw3 : (a : Int) % 10 + 48 = q3 := by rw [hq3, ofNat_toNat _ (by omega)]; omega
  have CS : Hid (#[.int .u8 q1, .int .u8 q2, .int .u8 q3] = (([UInt8.ofNat (48 + a / 100), UInt8.ofNat (48 + a / 10 % 10), UInt8.ofNat (48 + a % 10)] : List UInt8).map encB).toArray) := Lib.hid (by simp [encB, hq1, hq2, hq3])
  have HEX := Lib.hid hex
  obtain ⟨m1, hm1⟩ : ∃ m, (([] : List UInt8) ++ [x0]).length = m := ⟨_, rfl⟩
  obtain ⟨g1, c1, W1, hr1, row1⟩ := hrow.push' 28 [x0] 1 #[.int .u8 (x0.toNat : Int)] m1 rfl (by first | rfl | exact CS.out) (by decide) (by simp only [List.length_nil]; omega) hm1
  have HR1 := Lib.hid hr1
  have tok1 : True := trivial
  clear hr1 hm1
  obtain ⟨m5, hm5⟩ : ∃ m, (([] ++ [x0] : List UInt8) ++ [101]).length = m := ⟨_, rfl⟩
  obtain ⟨g5, c5, W5, hr5, row5⟩ := row1.push' 28 [101] 1 #[.int .u8 101] m5 rfl (by first | rfl | exact CS.out) (by decide) (by simp only [List.length_append, List.length_cons, List.length_nil]; omega) hm5
  have HR5 := Lib.hid hr5
  have tok5 : True := trivial
  clear hr5 hm5
  obtain ⟨m6, hm6⟩ : ∃ m, (([] ++ [x0] ++ [101] : List UInt8) ++ [45]).length = m := ⟨_, rfl⟩
  obtain ⟨g6, c6, W6, hr6, row6⟩ := row5.push' 28 [45] 1 #[.int .u8 45] m6 rfl (by first | rfl | exact CS.out) (by decide) (by simp only [List.length_append, List.length_cons, List.length_nil]; omega) hm6
  have HR6 := Lib.hid hr6
  have tok6 : True := trivial
  clear hr6 hm6
  obtain ⟨m7, hm7⟩ : ∃ m, (([] ++ [x0] ++ [101] ++ [45] : List UInt8) ++ [UInt8.ofNat (48 + a / 100), UInt8.ofNat (48 + a / 10 % 10), UInt8.ofNat (48 + a % 10)]).length = m := ⟨_, rfl⟩
  obtain ⟨g7, c7, W7, hr7, row7⟩ := row6.push' 28 [UInt8.ofNat (48 + a / 100), UInt8.ofNat (48 + a / 10 % 10), UInt8.ofNat (48 + a % 10)] 3 #[.int .u8 q1, .int .u8 q2, .int .u8 q3] m7 rfl (by first | rfl | exact CS.out) (by decide) (by simp only [List.length_append, List.length_cons, List.length_nil]; omega) hm7
  have HR7 := Lib.hid hr7
  have tok7 : True := trivial
  clear hr7 hm7
  have HROW : Hid (Row base S W0 W7 (.slice (some ⟨g7, 0, Option.none⟩) m7 c7) (x0 :: ((if 0 < xs.length then 46 :: xs else []) ++ 101 :: expB x))) := Lib.hid (by
    have := row7
    rw [HEX.out]
    obtain rfl : xs = [] := List.eq_nil_of_length_eq_zero hn
    simpa using this)
  clear row1 row5 row6 row7 hex hcell hrow hq1 hq2 hq3 CS HEX
  generalize (x0 :: ((if 0 < xs.length then 46 :: xs else []) ++ 101 :: expB x)) = RES at *
  rw [hn]
  clear hn hxs
  subst hx
  have hlt : decide (-(a : Int) < 0) = true := by rw [decide_eq_true_eq]; omega
  go_enter Tryz.func210, Tryz.ntmps210
  go_wp2_with (first | (at_builtin; have tk := tok1; refine Lib.wpList_append_run _ rfl _ _ _ _ rfl _ _ rfl rfl _ _ HR1.out ?_; clear tok1 tk) | (at_builtin; have tk := tok5; refine Lib.wpList_append_run _ rfl _ _ _ _ rfl _ _ rfl rfl _ _ HR5.out ?_; clear tok5 tk) | (at_builtin; have tk := tok6; refine Lib.wpList_append_run _ rfl _ _ _ _ rfl _ _ rfl rfl _ _ HR6.out ?_; clear tok6 tk) | (at_builtin; have tk := tok7; refine Lib.wpList_append_run _ rfl _ _ _ _ rfl _ _ rfl rfl _ _ HR7.out ?_; clear tok7 tk) | fail)
  go_ret
  exact ⟨_, rfl, HROW.out⟩
set_option maxRecDepth 100000 in
set_option maxHeartbeats 8000000 in
theorem fmtE_mp0 (base b : Nat) (S : Nat → Prop) (x0 : UInt8) (xs : List UInt8) (x : Int) (a : Nat) (v : Value) (cap : Nat) (W0 w : World) (hrow : Row base S W0 w v []) (hS : S b) (hxs : xs.length ≤ 20) (hcap : 32 ≤ cap) (hcap2 : cap ≤ 1000)
    (hcell : ∀ j u, (x0 :: xs)[j]? = some u → W0.cell? ⟨b, j, Option.none⟩ = some (encB u)) (hn : ¬ xs.length = 0) (hx : x = (a : Int)) (ha1 : a < 10) (ha2 : a < 10) :
    Calls Tryz.prog 210 #[v, .bool false, .slice (some ⟨b, 0, Option.none⟩) 32 cap, .int .i64 (x + 1), .int .i64 ((xs.length : Nat) + 1), .int .i64 (xs.length : Nat), .int .u8 101, .bool true] w (EPost base S W0 (x0 :: ((if 0 < xs.length then 46 :: xs else []) ++ 101 :: expB x))) := by
  have c0 : w.cell? ⟨b, 0, Option.none⟩ = some (.int .u8 (x0.toNat : Int)) := (World.cell?_of_block (w := W0) (a := ⟨b, 0, Option.none⟩) (hrow.keep b hS)).trans (hcell 0 x0 rfl)
  obtain ⟨va, vc, rfl⟩ := hrow.form
  have hex : expB x = 43 :: [48, UInt8.ofNat (48 + a)] := by
    have hna : x.natAbs = a := by omega
    unfold expB
    rw [hna, if_neg (show ¬ x < 0 by omega), if_pos (show a < 10 by omega)]
  obtain ⟨q1, hq1⟩ : ∃ q : Int, q = ((UInt8.ofNat (48 + a)).toNat : Int) := ⟨_, rfl⟩
  have hw1 : (a : Int) + 48 = q1 := by rw [hq1, ofNat_toNat _ (by omega)]; omega
  have CS : Hid (#[.int .u8 48, .int .u8 q1] = (([48, UInt8.ofNat (48 + a)] : List UInt8).map encB).toArray) := Lib.hid (by simp [encB, hq1])
  have HEX := Lib.hid hex
  obtain ⟨m1, hm1⟩ : ∃ m, (([] : List UInt8) ++ [x0]).length = m := ⟨_, rfl⟩
  obtain ⟨g1, c1, W1, hr1, row1⟩ := hrow.push' 28 [x0] 1 #[.int .u8 (x0.toNat : Int)] m1 rfl (by first | rfl | exact CS.out) (by decide) (by simp only [List.length_nil]; omega) hm1
  have HR1 := Lib.hid hr1
  have tok1 : True := trivial
  clear hr1 hm1
  obtain ⟨m2, hm2⟩ : ∃ m, (([] ++ [x0] : List UInt8) ++ [46]).length = m := ⟨_, rfl⟩
  obtain ⟨g2, c2, W2, hr2, row2⟩ := row1.push' 28 [46] 1 #[.int .u8 46] m2 rfl (by first | rfl | exact CS.out) (by decide) (by simp only [List.length_append, List.length_cons, List.length_nil]; omega) hm2
  have HR2 := Lib.hid hr2
  have tok2 : True := trivial
  clear hr2 hm2
  obtain ⟨m3, hm3⟩ : ∃ m, (([] ++ [x0] ++ [46] : List UInt8) ++ xs).length = m := ⟨_, rfl⟩
  obtain ⟨n, hxn⟩ : ∃ n, xs.length = n := ⟨_, rfl⟩
  obtain ⟨g3, c3, W3, hr3, row3⟩ := row2.more' 28 b 1 n (cap - 1) xs m3 hxn (fun j u hu => by
    rw [Nat.add_comm 1 j]
    exact (World.cell?_of_block (w := W0) (a := ⟨b, j + 1, Option.none⟩) (row2.keep b hS)).trans (hcell (j + 1) u (by simpa using hu))) (by omega) (by simp only [List.length_append, List.length_cons, List.length_nil]; omega) hm3
  have HR3 := Lib.hid hr3
  have tok3 : True := trivial
  clear hr3 hm3
  obtain ⟨m5, hm5⟩ : ∃ m, (([] ++ [x0] ++ [46] ++ xs : List UInt8) ++ [101]).length = m := ⟨_, rfl⟩
  obtain ⟨g5, c5, W5, hr5, row5⟩ := row3.push' 28 [101] 1 #[.int .u8 101] m5 rfl (by first | rfl | exact CS.out) (by decide) (by simp only [List.length_append, List.length_cons, List.length_nil]; omega) hm5
  have HR5 := Lib.hid hr5
  have tok5 : True := trivial
  clear hr5 hm5
  obtain ⟨m6, hm6⟩ : ∃ m, (([] ++ [x0] ++ [46] ++ xs ++ [101] : List UInt8) ++ [43]).length = m := ⟨_, rfl⟩
  obtain ⟨g6, c6, W6, hr6, row6⟩ := row5.push' 28 [43] 1 #[.int .u8 43] m6 rfl (by first | rfl | exact CS.out) (by decide) (by simp only [List.length_append, List.length_cons, List.length_nil]; omega) hm6
  have HR6 := Lib.hid hr6
  have tok6 : True := trivial
  clear hr6 hm6
  obtain ⟨m7, hm7⟩ : ∃ m, (([] ++ [x0] ++ [46] ++ xs ++ [101] ++ [43] : List UInt8) ++ [48, UInt8.ofNat (48 + a)]).length = m := ⟨_, rfl⟩
  obtain ⟨g7, c7, W7, hr7, row7⟩ := row6.push' 28 [48, UInt8.ofNat (48 + a)] 2 #[.int .u8 48, .int .u8 q1] m7 rfl (by first | rfl | exact CS.out) (by decide) (by simp only [List.length_append, List.length_cons, List.length_nil]; omega) hm7
  have HR7 := Lib.hid hr7
  have tok7 : True := trivial
  clear hr7 hm7
  have HROW : Hid (Row base S W0 W7 (.slice (some ⟨g7, 0, Option.none⟩) m7 c7) (x0 :: ((if 0 < xs.length then 46 :: xs else []) ++ 101 :: expB x))) := Lib.hid (by
    have := row7
    rw [HEX.out]
    rw [if_pos (by omega)]
    simpa using this)
  clear row1 row2 row3 row5 row6 row7 hex hcell hrow hq1 CS HEX
  generalize (x0 :: ((if 0 < xs.length then 46 :: xs else []) ++ 101 :: expB x)) = RES at *
  have hn2 : 1 ≤ n := by omega
  have hn3 : n ≤ 20 := by omega
  rw [hxn]
  clear hn hxs hxn
  have hmin : min ((n : Int) + 1) ((n : Int) + 1) = (n : Int) + 1 := by simp
  subst hx
  have hlt : decide ((a : Int) < 0) = false := by rw [decide_eq_false_iff_not]; omega
  go_enter Tryz.func210, Tryz.ntmps210
  go_wp2_with (first | (at_builtin; have tk := tok1; refine Lib.wpList_append_run _ rfl _ _ _ _ rfl _ _ rfl rfl _ _ HR1.out ?_; clear tok1 tk) | (at_builtin; have tk := tok2; refine Lib.wpList_append_run _ rfl _ _ _ _ rfl _ _ rfl rfl _ _ HR2.out ?_; clear tok2 tk) | (at_builtin; have tk := tok3; refine Lib.wpList_append_run _ rfl _ _ _ _ rfl _ _ rfl rfl _ _ HR3.out ?_; clear tok3 tk) | fail)
  go_loop [0, 114] (fun d t => d = .slice (some ⟨g3, 0, Option.none⟩) m3 c3 ∧ t = .int .i64 0) (fun _ _ => 0)
  case atStart => exact ⟨rfl, rfl⟩
  case round =>
    obtain ⟨rfl, rfl⟩ := hrel
    go_wp2_with (first | (at_builtin; have tk := tok5; refine Lib.wpList_append_run _ rfl _ _ _ _ rfl _ _ rfl rfl _ _ HR5.out ?_; clear tok5 tk) | (at_builtin; have tk := tok6; refine Lib.wpList_append_run _ rfl _ _ _ _ rfl _ _ rfl rfl _ _ HR6.out ?_; clear tok6 tk) | (at_builtin; have tk := tok7; refine Lib.wpList_append_run _ rfl _ _ _ _ rfl _ _ rfl rfl _ _ HR7.out ?_; clear tok7 tk) | fail)
    go_ret
    exact ⟨_, rfl, HROW.out⟩
set_option maxRecDepth 100000 in
set_option maxHeartbeats 8000000 in
theorem fmtE_mp1 (base b : Nat) (S : Nat → Prop) (x0 : UInt8) (xs : List UInt8) (x : Int) (a : Nat) (v : Value) (cap : Nat) (W0 w : World) (hrow : Row base S W0 w v []) (hS : S b) (hxs : xs.length ≤ 20) (hcap : 32 ≤ cap) (hcap2 : cap ≤ 1000)
    (hcell : ∀ j u, (x0 :: xs)[j]? = some u → W0.cell? ⟨b, j, Option.none⟩ = some (encB u)) (hn : ¬ xs.length = 0) (hx : x = (a : Int)) (ha1 : 10 ≤ a) (ha2 : a < 100) :
    Calls Tryz.prog 210 #[v, .bool false, .slice (some ⟨b, 0, Option.none⟩) 32 cap, .int .i64 (x + 1), .int .i64 ((xs.length : Nat) + 1), .int .i64 (xs.length : Nat), .int .u8 101, .bool true] w (EPost base S W0 (x0 :: ((if 0 < xs.length then 46 :: xs else []) ++ 101 :: expB x))) := by
  have c0 : w.cell? ⟨b, 0, Option.none⟩ = some (.int .u8 (x0.toNat : Int)) := (World.cell?_of_block (w := W0) (a := ⟨b, 0, Option.none⟩) (hrow.keep b hS)).trans (hcell 0 x0 rfl)
  obtain ⟨va, vc, rfl⟩ := hrow.form
  have hex : expB x = 43 :: [UInt8.ofNat (48 + a / 10), UInt8.ofNat (48 + a % 10)] := by
    have hna : x.natAbs = a := by omega
    unfold expB
    rw [hna, if_neg (show ¬ x < 0 by omega), if_neg (show ¬ a < 10 by omega), if_pos (show a < 100 by omega)]
  obtain ⟨q1, hq1⟩ : ∃ q : Int, q = ((UInt8.ofNat (48 + a / 10)).toNat : Int) := ⟨_, rfl⟩
  have hw1 : (a : Int) / 10 + 48 = q1 := by rw [hq1, ofNat_toNat _ (by omega)]; omega
  obtain ⟨q2, hq2⟩ : ∃ q : Int, q = ((UInt8.ofNat (48 + a % 10)).toNat : Int) := ⟨_, rfl⟩
  have hw2 : (a : Int) % 10 + 48 = q2 := by rw [hq2, ofNat_toNat _ (by omega)]; omega
  have CS : Hid (#[.int .u8 q1, .int .u8 q2] = (([UInt8.ofNat (48 + a / 10), UInt8.ofNat (48 + a % 10)] : List UInt8).map encB).toArray) := Lib.hid (by simp [encB, hq1, hq2])
  have HEX := Lib.hid hex
  obtain ⟨m1, hm1⟩ : ∃ m, (([] : List UInt8) ++ [x0]).length = m := ⟨_, rfl⟩
  obtain ⟨g1, c1, W1, hr1, row1⟩ := hrow.push' 28 [x0] 1 #[.int .u8 (x0.toNat : Int)] m1 rfl (by first | rfl | exact CS.out) (by decide) (by simp only [List.length_nil]; omega) hm1
  have HR1 := Lib.hid hr1
  have tok1 : True := trivial
  clear hr1 hm1
  obtain ⟨m2, hm2⟩ : ∃ m, (([] ++ [x0] : List UInt8) ++ [46]).length = m := ⟨_, rfl⟩
  obtain ⟨g2, c2, W2, hr2, row2⟩ := row1.push' 28 [46] 1 #[.int .u8 46] m2 rfl (by first | rfl | exact CS.out) (by decide) (by simp only [List.length_append, List.length_cons, List.length_nil]; omega) hm2
  have HR2 := Lib.hid hr2
  have tok2 : True := trivial
  clear hr2 hm2
  obtain ⟨m3, hm3⟩ : ∃ m, (([] ++ [x0] ++ [46] : List UInt8) ++ xs).length = m := ⟨_, rfl⟩
  obtain ⟨n, hxn⟩ : ∃ n, xs.length = n := ⟨_, rfl⟩
  obtain ⟨g3, c3, W3, hr3, row3⟩ := row2.more' 28 b 1 n (cap - 1) xs m3 hxn (fun j u hu => by
    rw [Nat.add_comm 1 j]
    exact (World.cell?_of_block (w := W0) (a := ⟨b, j + 1, Option.none⟩) (row2.keep b hS)).trans (hcell (j + 1) u (by simpa using hu))) (by omega) (by simp only [List.length_append, List.length_cons, List.length_nil]; omega) hm3
  have HR3 := Lib.hid hr3
  have tok3 : True := trivial
  clear hr3 hm3
  obtain ⟨m5, hm5⟩ : ∃ m, (([] ++ [x0] ++ [46] ++ xs : List UInt8) ++ [101]).length = m := ⟨_, rfl⟩
  obtain ⟨g5, c5, W5, hr5, row5⟩ := row3.push' 28 [101] 1 #[.int .u8 101] m5 rfl (by first | rfl | exact CS.out) (by decide) (by simp only [List.length_append, List.length_cons, List.length_nil]; omega) hm5
  have HR5 := Lib.hid hr5
  have tok5 : True := trivial
  clear hr5 hm5
  obtain ⟨m6, hm6⟩ : ∃ m, (([] ++ [x0] ++ [46] ++ xs ++ [101] : List UInt8) ++ [43]).length = m := ⟨_, rfl⟩
  obtain ⟨g6, c6, W6, hr6, row6⟩ := row5.push' 28 [43] 1 #[.int .u8 43] m6 rfl (by first | rfl | exact CS.out) (by decide) (by simp only [List.length_append, List.length_cons, List.length_nil]; omega) hm6
  have HR6 := Lib.hid hr6
  have tok6 : True := trivial
  clear hr6 hm6
  obtain ⟨m7, hm7⟩ : ∃ m, (([] ++ [x0] ++ [46] ++ xs ++ [101] ++ [43] : List UInt8) ++ [UInt8.ofNat (48 + a / 10), UInt8.ofNat (48 + a % 10)]).length = m := ⟨_, rfl⟩
  obtain ⟨g7, c7, W7, hr7, row7⟩ := row6.push' 28 [UInt8.ofNat (48 + a / 10), UInt8.ofNat (48 + a % 10)] 2 #[.int .u8 q1, .int .u8 q2] m7 rfl (by first | rfl | exact CS.out) (by decide) (by simp only [List.length_append, List.length_cons, List.length_nil]; omega) hm7
  have HR7 := Lib.hid hr7
  have tok7 : True := trivial
  clear hr7 hm7
  have HROW : Hid (Row base S W0 W7 (.slice (some ⟨g7, 0, Option.none⟩) m7 c7) (x0 :: ((if 0 < xs.length then 46 :: xs else []) ++ 101 :: expB x))) := Lib.hid (by
    have := row7
    rw [HEX.out]
    rw [if_pos (by omega)]
    simpa using this)
  clear row1 row2 row3 row5 row6 row7 hex hcell hrow hq1 hq2 CS HEX
  generalize (x0 :: ((if 0 < xs.length then 46 :: xs else []) ++ 101 :: expB x)) = RES at *
  have hn2 : 1 ≤ n := by omega
  have hn3 : n ≤ 20 := by omega
  rw [hxn]
  clear hn hxs hxn
  have hmin : min ((n : Int) + 1) ((n : Int) + 1) = (n : Int) + 1 := by simp
  subst hx
  have hlt : decide ((a : Int) < 0) = false := by rw [decide_eq_false_iff_not]; omega
  go_enter Tryz.func210, Tryz.ntmps210
  go_wp2_with (first | (at_builtin; have tk := tok1; refine Lib.wpList_append_run _ rfl _ _ _ _ rfl _ _ rfl rfl _ _ HR1.out ?_; clear tok1 tk) | (at_builtin; have tk := tok2; refine Lib.wpList_append_run _ rfl _ _ _ _ rfl _ _ rfl rfl _ _ HR2.out ?_; clear tok2 tk) | (at_builtin; have tk := tok3; refine Lib.wpList_append_run _ rfl _ _ _ _ rfl _ _ rfl rfl _ _ HR3.out ?_; clear tok3 tk) | fail)
  go_loop [0, 114] (fun d t => d = .slice (some ⟨g3, 0, Option.none⟩) m3 c3 ∧ t = .int .i64 0) (fun _ _ => 0)
  case atStart => exact ⟨rfl, rfl⟩
  case round =>
    obtain ⟨rfl, rfl⟩ := hrel
    go_wp2_with (first | (at_builtin; have tk := tok5; refine Lib.wpList_append_run _ rfl _ _ _ _ rfl _ _ rfl rfl _ _ HR5.out ?_; clear tok5 tk) | (at_builtin; have tk := tok6; refine Lib.wpList_append_run _ rfl _ _ _ _ rfl _ _ rfl rfl _ _ HR6.out ?_; clear tok6 tk) | (at_builtin; have tk := tok7; refine Lib.wpList_append_run _ rfl _ _ _ _ rfl _ _ rfl rfl _ _ HR7.out ?_; clear tok7 tk) | fail)
    go_ret
    exact ⟨_, rfl, HROW.out⟩
set_option maxRecDepth 100000 in
set_option maxHeartbeats 8000000 in
theorem fmtE_mp2 (base b : Nat) (S : Nat → Prop) (x0 : UInt8) (xs : List UInt8) (x : Int) (a : Nat) (v : Value) (cap : Nat) (W0 w : World) (hrow : Row base S W0 w v []) (hS : S b) (hxs : xs.length ≤ 20) (hcap : 32 ≤ cap) (hcap2 : cap ≤ 1000)
    (hcell : ∀ j u, (x0 :: xs)[j]? = some u → W0.cell? ⟨b, j, Option.none⟩ = some (encB u)) (hn : ¬ xs.length = 0) (hx : x = (a : Int)) (ha1 : 100 ≤ a) (ha2 : a < 400) :
    Calls Tryz.prog 210 #[v, .bool false, .slice (some ⟨b, 0, Option.none⟩) 32 cap, .int .i64 (x + 1), .int .i64 ((xs.length : Nat) + 1), .int .i64 (xs.length : Nat), .int .u8 101, .bool true] w (EPost base S W0 (x0 :: ((if 0 < xs.length then 46 :: xs else []) ++ 101 :: expB x))) := by
  have c0 : w.cell? ⟨b, 0, Option.none⟩ = some (.int .u8 (x0.toNat : Int)) := (World.cell?_of_block (w := W0) (a := ⟨b, 0, Option.none⟩) (hrow.keep b hS)).trans (hcell 0 x0 rfl)
  obtain ⟨va, vc, rfl⟩ := hrow.form
  have hex : expB x = 43 :: [UInt8.ofNat (48 + a / 100), UInt8.ofNat (48 + a / 10 % 10), UInt8.ofNat (48 + a % 10)] := by
    have hna : x.natAbs = a := by omega
    unfold expB
    rw [hna, if_neg (show ¬ x < 0 by omega), if_neg (show ¬ a < 10 by omega), if_neg (show ¬ a < 100 by omega)]
  obtain ⟨q1, hq1⟩ : ∃ q : Int, q = ((UInt8.ofNat (48 + a / 100)).toNat : Int) := ⟨_, rfl⟩
  have hw1 : (a : Int) / 100 + 48 = q1 := by rw [hq1, ofNat_toNat _ (by omega)]; omega
  obtain ⟨q2, hq2⟩ : ∃ q : Int, q = ((UInt8.ofNat (48 + a / 10 % 10)).toNat : Int) := ⟨_, rfl⟩
  have hw2 : (a : Int) / 10 % 10 + 48 = q2 := by rw [hq2, ofNat_toNat _ (by omega)]; omega
  obtain ⟨q3, hq3⟩ : ∃ q : Int, q = ((UInt8.ofNat (48 + a % 10)).toNat : Int) := ⟨_, rfl⟩
  have hw3 : (a : Int) % 10 + 48 = q3 := by rw [hq3, ofNat_toNat _ (by omega)]; omega
  have CS : Hid (#[.int .u8 q1, .int .u8 q2, .int .u8 q3] = (([UInt8.ofNat (48 + a / 100), UInt8.ofNat (48 + a / 10 % 10), UInt8.ofNat (48 + a % 10)] : List UInt8).map encB).toArray) := Lib.hid (by simp [encB, hq1, hq2, hq3])
  have HEX := Lib.hid hex
  obtain ⟨m1, hm1⟩ : ∃ m, (([] : List UInt8) ++ [x0]).length = m := ⟨_, rfl⟩
  obtain ⟨g1, c1, W1, hr1, row1⟩ := hrow.push' 28 [x0] 1 #[.int .u8 (x0.toNat : Int)] m1 rfl (by first | rfl | exact CS.out) (by decide) (by simp only [List.length_nil]; omega) hm1
  have HR1 := Lib.hid hr1
  have tok1 : True := trivial
  clear hr1 hm1
  obtain ⟨m2, hm2⟩ : ∃ m, (([] ++ [x0] : List UInt8) ++ [46]).length = m := ⟨_, rfl⟩
  obtain ⟨g2, c2, W2, hr2, row2⟩ := row1.push' 28 [46] 1 #[.int .u8 46] m2 rfl (by first | rfl | exact CS.out) (by decide) (by simp only [List.length_append, List.length_cons, List.length_nil]; omega) hm2
  have HR2 := Lib.hid hr2
  have tok2 : True := trivial
  clear hr2 hm2
  obtain ⟨m3, hm3⟩ : ∃ m, (([] ++ [x0] ++ [46] : List UInt8) ++ xs).length = m := ⟨_, rfl⟩
  obtain ⟨n, hxn⟩ : ∃ n, xs.length = n := ⟨_, rfl⟩
  obtain ⟨g3, c3, W3, hr3, row3⟩ := row2.more' 28 b 1 n (cap - 1) xs m3 hxn (fun j u hu => by
    rw [Nat.add_comm 1 j]
    exact (World.cell?_of_block (w := W0) (a := ⟨b, j + 1, Option.none⟩) (row2.keep b hS)).trans (hcell (j + 1) u (by simpa using hu))) (by omega) (by simp only [List.length_append, List.length_cons, List.length_nil]; omega) hm3
  have HR3 := Lib.hid hr3
  have tok3 : True := trivial
  clear hr3 hm3
  obtain ⟨m5, hm5⟩ : ∃ m, (([] ++ [x0] ++ [46] ++ xs : List UInt8) ++ [101]).length = m := ⟨_, rfl⟩
  obtain ⟨g5, c5, W5, hr5, row5⟩ := row3.push' 28 [101] 1 #[.int .u8 101] m5 rfl (by first | rfl | exact CS.out) (by decide) (by simp only [List.length_append, List.length_cons, List.length_nil]; omega) hm5
  have HR5 := Lib.hid hr5
  have tok5 : True := trivial
  clear hr5 hm5
  obtain ⟨m6, hm6⟩ : ∃ m, (([] ++ [x0] ++ [46] ++ xs ++ [101] : List UInt8) ++ [43]).length = m := ⟨_, rfl⟩
  obtain ⟨g6, c6, W6, hr6, row6⟩ := row5.push' 28 [43] 1 #[.int .u8 43] m6 rfl (by first | rfl | exact CS.out) (by decide) (by simp only [List.length_append, List.length_cons, List.length_nil]; omega) hm6
  have HR6 := Lib.hid hr6
  have tok6 : True := trivial
  clear hr6 hm6
  obtain ⟨m7, hm7⟩ : ∃ m, (([] ++ [x0] ++ [46] ++ xs ++ [101] ++ [43] : List UInt8) ++ [UInt8.ofNat (48 + a / 100), UInt8.ofNat (48 + a / 10 % 10), UInt8.ofNat (48 + a % 10)]).length = m := ⟨_, rfl⟩
  obtain ⟨g7, c7, W7, hr7, row7⟩ := row6.push' 28 [UInt8.ofNat (48 + a / 100), UInt8.ofNat (48 + a / 10 % 10), UInt8.ofNat (48 + a % 10)] 3 #[.int .u8 q1, .int .u8 q2, .int .u8 q3] m7 rfl (by first | rfl | exact CS.out) (by decide) (by simp only [List.length_append, List.length_cons, List.length_nil]; omega) hm7
  have HR7 := Lib.hid hr7
  have tok7 : True := trivial
  clear hr7 hm7
  have HROW : Hid (Row base S W0 W7 (.slice (some ⟨g7, 0, Option.none⟩) m7 c7) (x0 :: ((if 0 < xs.length then 46 :: xs else []) ++ 101 :: expB x))) := Lib.hid (by
    have := row7
    rw [HEX.out]
    rw [if_pos (by omega)]
    simpa using this)
  clear row1 row2 row3 row5 row6 row7 hex hcell hrow hq1 hq2 hq3 CS HEX
  generalize (x0 :: ((if 0 < xs.length then 46 :: xs else []) ++ 101 :: expB x)) = RES at *
  have hn2 : 1 ≤ n := by omega
  have hn3 : n ≤ 20 := by omega
  rw [hxn]
  clear hn hxs hxn
  have hmin : min ((n : Int) + 1) ((n : Int) + 1) = (n : Int) + 1 := by simp
  subst hx
  have hlt : decide ((a : Int) < 0) = false := by rw [decide_eq_false_iff_not]; omega
  go_enter Tryz.func210, Tryz.ntmps210
  go_wp2_with (first | (at_builtin; have tk := tok1; refine Lib.wpList_append_run _ rfl _ _ _ _ rfl _ _ rfl rfl _ _ HR1.out ?_; clear tok1 tk) | (at_builtin; have tk := tok2; refine Lib.wpList_append_run _ rfl _ _ _ _ rfl _ _ rfl rfl _ _ HR2.out ?_; clear tok2 tk) | (at_builtin; have tk := tok3; refine Lib.wpList_append_run _ rfl _ _ _ _ rfl _ _ rfl rfl _ _ HR3.out ?_; clear tok3 tk) | fail)
  go_loop [0, 114] (fun d t => d = .slice (some ⟨g3, 0, Option.none⟩) m3 c3 ∧ t = .int .i64 0) (fun _ _ => 0)
  case atStart => exact ⟨rfl, rfl⟩
  case round =>
    obtain ⟨rfl, rfl⟩ := hrel
    go_wp2_with (first | (at_builtin; have tk := tok5; refine Lib.wpList_append_run _ rfl _ _ _ _ rfl _ _ rfl rfl _ _ HR5.out ?_; clear tok5 tk) | (at_builtin; have tk := tok6; refine Lib.wpList_append_run _ rfl _ _ _ _ rfl _ _ rfl rfl _ _ HR6.out ?_; clear tok6 tk) | (at_builtin; have tk := tok7; refine Lib.wpList_append_run _ rfl _ _ _ _ rfl _ _ rfl rfl _ _ HR7.out ?_; clear tok7 tk) | fail)
    go_ret
    exact ⟨_, rfl, HROW.out⟩
set_option maxRecDepth 100000 in
set_option maxHeartbeats 8000000 in
theorem fmtE_mn0 (base b : Nat) (S : Nat → Prop) (x0 : UInt8) (xs : List UInt8) (x : Int) (a : Nat) (v : Value) (cap : Nat) (W0 w : World) (hrow : Row base S W0 w v []) (hS : S b) (hxs : xs.length ≤ 20) (hcap : 32 ≤ cap) (hcap2 : cap ≤ 1000)
    (hcell : ∀ j u, (x0 :: xs)[j]? = some u → W0.cell? ⟨b, j, Option.none⟩ = some (encB u)) (hn : ¬ xs.length = 0) (hx : x = -(a : Int)) (ha0 : 0 < a) (ha1 : a < 10) (ha2 : a < 10) :
    Calls Tryz.prog 210 #[v, .bool false, .slice (some ⟨b, 0, Option.none⟩) 32 cap, .int .i64 (x + 1), .int .i64 ((xs.length : Nat) + 1), .int .i64 (xs.length : Nat), .int .u8 101, .bool true] w (EPost base S W0 (x0 :: ((if 0 < xs.length then 46 :: xs else []) ++ 101 :: expB x))) := by
  have c0 : w.cell? ⟨b, 0, Option.none⟩ = some (.int .u8 (x0.toNat : Int)) := (World.cell?_of_block (w := W0) (a := ⟨b, 0, Option.none⟩) (hrow.keep b hS)).trans (hcell 0 x0 rfl)
  obtain ⟨va, vc, rfl⟩ := hrow.form
  have hex : expB x = 45 :: [48, UInt8.ofNat (48 + a)] := by
    have hna : x.natAbs = a := by omega
    unfold expB
    rw [hna, if_pos (show x < 0 by omega), if_pos (show a < 10 by omega)]
  obtain ⟨q1, hq1⟩ : ∃ q : Int, q = ((UInt8.ofNat (48 + a)).toNat : Int) := ⟨_, rfl⟩
  have hw1 : (a : Int) + 48 = q1 := by rw [hq1, ofNat_toNat _ (by omega)]; omega
  have CS : Hid (#[.int .u8 48, .int .u8 q1] = (([48, UInt8.ofNat (48 + a)] : List UInt8).map encB).toArray) := Lib.hid (by simp [encB, hq1])
  have HEX := Lib.hid hex
  obtain ⟨m1, hm1⟩ : ∃ m, (([] : List UInt8) ++ [x0]).length = m := ⟨_, rfl⟩
  obtain ⟨g1, c1, W1, hr1, row1⟩ := hrow.push' 28 [x0] 1 #[.int .u8 (x0.toNat : Int)] m1 rfl (by first | rfl | exact CS.out) (by decide) (by simp only [List.length_nil]; omega) hm1
  have HR1 := Lib.hid hr1
  have tok1 : True := trivial
  clear hr1 hm1
  obtain ⟨m2, hm2⟩ : ∃ m, (([] ++ [x0] : List UInt8) ++ [46]).length = m := ⟨_, rfl⟩
  obtain ⟨g2, c2, W2, hr2, row2⟩ := row1.push' 28 [46] 1 #[.int .u8 46] m2 rfl (by first | rfl | exact CS.out) (by decide) (by simp only [List.length_append, List.length_cons, List.length_nil]; omega) hm2
  have HR2 := Lib.hid hr2
  have tok2 : True := trivial
  clear hr2 hm2
  obtain ⟨m3, hm3⟩ : ∃ m, (([] ++ [x0] ++ [46] : List UInt8) ++ xs).length = m := ⟨_, rfl⟩
  obtain ⟨n, hxn⟩ : ∃ n, xs.length = n := ⟨_, rfl⟩
  obtain ⟨g3, c3, W3, hr3, row3⟩ := row2.more' 28 b 1 n (cap - 1) xs m3 hxn (fun j u hu => by
    rw [Nat.add_comm 1 j]
    exact (World.cell?_of_block (w := W0) (a := ⟨b, j + 1, Option.none⟩) (row2.keep b hS)).trans (hcell (j + 1) u (by simpa using hu))) (by omega) (by simp only [List.length_append, List.length_cons, List.length_nil]; omega) hm3
  have HR3 := Lib.hid hr3
  have tok3 : True := trivial
  clear hr3 hm3
  obtain ⟨m5, hm5⟩ : ∃ m, (([] ++ [x0] ++ [46] ++ xs : List UInt8) ++ [101]).length = m := ⟨_, rfl⟩
  obtain ⟨g5, c5, W5, hr5, row5⟩ := row3.push' 28 [101] 1 #[.int .u8 101] m5 rfl (by first | rfl | exact CS.out) (by decide) (by simp only [List.length_append, List.length_cons, List.length_nil]; omega) hm5
  have HR5 := Lib.hid hr5
  have tok5 : True := trivial
  clear hr5 hm5
  obtain ⟨m6, hm6⟩ : ∃ m, (([] ++ [x0] ++ [46] ++ xs ++ [101] : List UInt8) ++ [45]).length = m := ⟨_, rfl⟩
  obtain ⟨g6, c6, W6, hr6, row6⟩ := row5.push' 28 [45] 1 #[.int .u8 45] m6 rfl (by first | rfl | exact CS.out) (by decide) (by simp only [List.length_append, List.length_cons, List.length_nil]; omega) hm6
  have HR6 := Lib.hid hr6
  have tok6 : True := trivial
  clear hr6 hm6
  obtain ⟨m7, hm7⟩ : ∃ m, (([] ++ [x0] ++ [46] ++ xs ++ [101] ++ [45] : List UInt8) ++ [48, UInt8.ofNat (48 + a)]).length = m := ⟨_, rfl⟩
  obtain ⟨g7, c7, W7, hr7, row7⟩ := row6.push' 28 [48, UInt8.ofNat (48 + a)] 2 #[.int .u8 48, .int .u8 q1] m7 rfl (by first | rfl | exact CS.out) (by decide) (by simp only [List.length_append, List.length_cons, List.length_nil]; omega) hm7
  have HR7 := Lib.hid hr7
  have tok7 : True := trivial
  clear hr7 hm7
  have HROW : Hid (Row base S W0 W7 (.slice (some ⟨g7, 0, Option.none⟩) m7 c7) (x0 :: ((if 0 < xs.length then 46 :: xs else []) ++ 101 :: expB x))) := Lib.hid (by
    have := row7
    rw [HEX.out]
    rw [if_pos (by omega)]
    simpa using this)
  clear row1 row2 row3 row5 row6 row7 hex hcell hrow hq1 CS HEX
  generalize (x0 :: ((if 0 < xs.length then 46 :: xs else []) ++ 101 :: expB x)) = RES at *
  have hn2 : 1 ≤ n := by omega
  have hn3 : n ≤ 20 := by omega
  rw [hxn]
  clear hn hxs hxn
  have hmin : min ((n : Int) + 1) ((n : Int) + 1) = (n : Int) + 1 := by simp
  subst hx
  have hlt : decide (-(a : Int) < 0) = true := by rw [decide_eq_true_eq]; omega
  go_enter Tryz.func210, Tryz.ntmps210
  go_wp2_with (first | (at_builtin; have tk := tok1; refine Lib.wpList_append_run _ rfl _ _ _ _ rfl _ _ rfl rfl _ _ HR1.out ?_; clear tok1 tk) | (at_builtin; have tk := tok2; refine Lib.wpList_append_run _ rfl _ _ _ _ rfl _ _ rfl rfl _ _ HR2.out ?_; clear tok2 tk) | (at_builtin; have tk := tok3; refine Lib.wpList_append_run _ rfl _ _ _ _ rfl _ _ rfl rfl _ _ HR3.out ?_; clear tok3 tk) | fail)
  go_loop [0, 114] (fun d t => d = .slice (some ⟨g3, 0, Option.none⟩) m3 c3 ∧ t = .int .i64 0) (fun _ _ => 0)
  case atStart => exact ⟨rfl, rfl⟩
  case round =>
    obtain ⟨rfl, rfl⟩ := hrel
    go_wp2_with (first | (at_builtin; have tk := tok5; refine Lib.wpList_append_run _ rfl _ _ _ _ rfl _ _ rfl rfl _ _ HR5.out ?_; clear tok5 tk) | (at_builtin; have tk := tok6; refine Lib.wpList_append_run _ rfl _ _ _ _ rfl _ _ rfl rfl _ _ HR6.out ?_; clear tok6 tk) | (at_builtin; have tk := tok7; refine Lib.wpList_append_run _ rfl _ _ _ _ rfl _ _ rfl rfl _ _ HR7.out ?_; clear tok7 tk) | fail)
    go_ret
    exact ⟨_, rfl, HROW.out⟩
set_option maxRecDepth 100000 in
set_option maxHeartbeats 8000000 in
theorem fmtE_mn1 (base b : Nat) (S : Nat → Prop) (x0 : UInt8) (xs : List UInt8) (x : Int) (a : Nat) (v : Value) (cap : Nat) (W0 w : World) (hrow : Row base S W0 w v []) (hS : S b) (hxs : xs.length ≤ 20) (hcap : 32 ≤ cap) (hcap2 : cap ≤ 1000)
    (hcell : ∀ j u, (x0 :: xs)[j]? = some u → W0.cell? ⟨b, j, Option.none⟩ = some (encB u)) (hn : ¬ xs.length = 0) (hx : x = -(a : Int)) (ha0 : 0 < a) (ha1 : 10 ≤ a) (ha2 : a < 100) :
    Calls Tryz.prog 210 #[v, .bool false, .slice (some ⟨b, 0, Option.none⟩) 32 cap, .int .i64 (x + 1), .int .i64 ((xs.length : Nat) + 1), .int .i64 (xs.length : Nat), .int .u8 101, .bool true] w (EPost base S W0 (x0 :: ((if 0 < xs.length then 46 :: xs else []) ++ 101 :: expB x))) := by
  have c0 : w.cell? ⟨b, 0, Option.none⟩ = some (.int .u8 (x0.toNat : Int)) := (World.cell?_of_block (w := W0) (a := ⟨b, 0, Option.none⟩) (hrow.keep b hS)).trans (hcell 0 x0 rfl)
  obtain ⟨va, vc, rfl⟩ := hrow.form
  have hex : expB x = 45 :: [UInt8.ofNat (48 + a / 10), UInt8.ofNat (48 + a % 10)] := by
    have hna : x.natAbs = a := by omega
    unfold expB
    rw [hna, if_pos (show x < 0 by omega), if_neg (show ¬ a < 10 by omega), if_pos (show a < 100 by omega)]
  obtain ⟨q1, hq1⟩ : ∃ q : Int, q = ((UInt8.ofNat (48 + a / 10)).toNat : Int) := ⟨_, rfl⟩
  have hw1 : (a : Int) / 10 + 48 = q1 := by rw [hq1, ofNat_toNat _ (by omega)]; omega
  obtain ⟨q2, hq2⟩ : ∃ q : Int, q = ((UInt8.ofNat (48 + a % 10)).toNat : Int) := ⟨_, rfl⟩
  have hw2 : (a : Int) % 10 + 48 = q2 := by rw [hq2, ofNat_toNat _ (by omega)]; omega
  have CS : Hid (#[.int .u8 q1, .int .u8 q2] = (([UInt8.ofNat (48 + a / 10), UInt8.ofNat (48 + a % 10)] : List UInt8).map encB).toArray) := Lib.hid (by simp [encB, hq1, hq2])
  have HEX := Lib.hid hex
  obtain ⟨m1, hm1⟩ : ∃ m, (([] : List UInt8) ++ [x0]).length = m := ⟨_, rfl⟩
  obtain ⟨g1, c1, W1, hr1, row1⟩ := hrow.push' 28 [x0] 1 #[.int .u8 (x0.toNat : Int)] m1 rfl (by first | rfl | exact CS.out) (by decide) (by simp only [List.length_nil]; omega) hm1
  have HR1 := Lib.hid hr1
  have tok1 : True := trivial
  clear hr1 hm1
  obtain ⟨m2, hm2⟩ : ∃ m, (([] ++ [x0] : List UInt8) ++ [46]).length = m := ⟨_, rfl⟩
  obtain ⟨g2, c2, W2, hr2, row2⟩ := row1.push' 28 [46] 1 #[.int .u8 46] m2 rfl (by first | rfl | exact CS.out) (by decide) (by simp only [List.length_append, List.length_cons, List.length_nil]; omega) hm2
  have HR2 := Lib.hid hr2
  have tok2 : True := trivial
  clear hr2 hm2
  obtain ⟨m3, hm3⟩ : ∃ m, (([] ++ [x0] ++ [46] : List UInt8) ++ xs).length = m := ⟨_, rfl⟩
  obtain ⟨n, hxn⟩ : ∃ n, xs.length = n := ⟨_, rfl⟩
  obtain ⟨g3, c3, W3, hr3, row3⟩ := row2.more' 28 b 1 n (cap - 1) xs m3 hxn (fun j u hu => by
    rw [Nat.add_comm 1 j]
    exact (World.cell?_of_block (w := W0) (a := ⟨b, j + 1, Option.none⟩) (row2.keep b hS)).trans (hcell (j + 1) u (by simpa using hu))) (by omega) (by simp only [List.length_append, List.length_cons, List.length_nil]; omega) hm3
  have HR3 := Lib.hid hr3
  have tok3 : True := trivial
  clear hr3 hm3
  obtain ⟨m5, hm5⟩ : ∃ m, (([] ++ [x0] ++ [46] ++ xs : List UInt8) ++ [101]).length = m := ⟨_, rfl⟩
  obtain ⟨g5, c5, W5, hr5, row5⟩ := row3.push' 28 [101] 1 #[.int .u8 101] m5 rfl (by first | rfl | exact CS.out) (by decide) (by simp only [List.length_append, List.length_cons, List.length_nil]; omega) hm5
  have HR5 := Lib.hid hr5
  have tok5 : True := trivial
  clear hr5 hm5
  obtain ⟨m6, hm6⟩ : ∃ m, (([] ++ [x0] ++ [46] ++ xs ++ [101] : List UInt8) ++ [45]).length = m := ⟨_, rfl⟩
  obtain ⟨g6, c6, W6, hr6, row6⟩ := row5.push' 28 [45] 1 #[.int .u8 45] m6 rfl (by first | rfl | exact CS.out) (by decide) (by simp only [List.length_append, List.length_cons, List.length_nil]; omega) hm6
  have HR6 := Lib.hid hr6
  have tok6 : True := trivial
  clear hr6 hm6
  obtain ⟨m7, hm7⟩ : ∃ m, (([] ++ [x0] ++ [46] ++ xs ++ [101] ++ [45] : List UInt8) ++ [UInt8.ofNat (48 + a / 10), UInt8.ofNat (48 + a % 10)]).length = m := ⟨_, rfl⟩
  obtain ⟨g7, c7, W7, hr7, row7⟩ := row6.push' 28 [UInt8.ofNat (48 + a / 10), UInt8.ofNat (48 + a % 10)] 2 #[.int .u8 q1, .int .u8 q2] m7 rfl (by first | rfl | exact CS.out) (by decide) (by simp only [List.length_append, List.length_cons, List.length_nil]; omega) hm7
  have HR7 := Lib.hid hr7
  have tok7 : True := trivial
  clear hr7 hm7
  have HROW : Hid (Row base S W0 W7 (.slice (some ⟨g7, 0, Option.none⟩) m7 c7) (x0 :: ((if 0 < xs.length then 46 :: xs else []) ++ 101 :: expB x))) := Lib.hid (by
    have := row7
    rw [HEX.out]
    rw [if_pos (by omega)]
    simpa using this)
  clear row1 row2 row3 row5 row6 row7 hex hcell hrow hq1 hq2 CS HEX
  generalize (x0 :: ((if 0 < xs.length then 46 :: xs else []) ++ 101 :: expB x)) = RES at *
  have hn2 : 1 ≤ n := by omega
  have hn3 : n ≤ 20 := by omega
  rw [hxn]
  clear hn hxs hxn
  have hmin : min ((n : Int) + 1) ((n : Int) + 1) = (n : Int) + 1 := by simp
  subst hx
  have hlt : decide (-(a : Int) < 0) = true := by rw [decide_eq_true_eq]; omega
  go_enter Tryz.func210, Tryz.ntmps210
  go_wp2_with (first | (at_builtin; have tk := tok1; refine Lib.wpList_append_run _ rfl _ _ _ _ rfl _ _ rfl rfl _ _ HR1.out ?_; clear tok1 tk) | (at_builtin; have tk := tok2; refine Lib.wpList_append_run _ rfl _ _ _ _ rfl _ _ rfl rfl _ _ HR2.out ?_; clear tok2 tk) | (at_builtin; have tk := tok3; refine Lib.wpList_append_run _ rfl _ _ _ _ rfl _ _ rfl rfl _ _ HR3.out ?_; clear tok3 tk) | fail)
  go_loop [0, 114] (fun d t => d = .slice (some ⟨g3, 0, Option.none⟩) m3 c3 ∧ t = .int .i64 0) (fun _ _ => 0)
  case atStart => exact ⟨rfl, rfl⟩
  case round =>
    obtain ⟨rfl, rfl⟩ := hrel
    go_wp2_with (first | (at_builtin; have tk := tok5; refine Lib.wpList_append_run _ rfl _ _ _ _ rfl _ _ rfl rfl _ _ HR5.out ?_; clear tok5 tk) | (at_builtin; have tk := tok6; refine Lib.wpList_append_run _ rfl _ _ _ _ rfl _ _ rfl rfl _ _ HR6.out ?_; clear tok6 tk) | (at_builtin; have tk := tok7; refine Lib.wpList_append_run _ rfl _ _ _ _ rfl _ _ rfl rfl _ _ HR7.out ?_; clear tok7 tk) | fail)
    go_ret
    exact ⟨_, rfl, HROW.out⟩
set_option maxRecDepth 100000 in
set_option maxHeartbeats 8000000 in
theorem fmtE_mn2 (base b : Nat) (S : Nat → Prop) (x0 : UInt8) (xs : List UInt8) (x : Int) (a : Nat) (v : Value) (cap : Nat) (W0 w : World) (hrow : Row base S W0 w v []) (hS : S b) (hxs : xs.length ≤ 20) (hcap : 32 ≤ cap) (hcap2 : cap ≤ 1000)
    (hcell : ∀ j u, (x0 :: xs)[j]? = some u → W0.cell? ⟨b, j, Option.none⟩ = some (encB u)) (hn : ¬ xs.length = 0) (hx : x = -(a : Int)) (ha0 : 0 < a) (ha1 : 100 ≤ a) (ha2 : a < 400) :
    Calls Tryz.prog 210 #[v, .bool false, .slice (some ⟨b, 0, Option.none⟩) 32 cap, .int .i64 (x + 1), .int .i64 ((xs.length : Nat) + 1), .int .i64 (xs.length : Nat), .int .u8 101, .bool true] w (EPost base S W0 (x0 :: ((if 0 < xs.length then 46 :: xs else []) ++ 101 :: expB x))) := by
  have c0 : w.cell? ⟨b, 0, Option.none⟩ = some (.int .u8 (x0.toNat : Int)) := (World.cell?_of_block (w := W0) (a := ⟨b, 0, Option.none⟩) (hrow.keep b hS)).trans (hcell 0 x0 rfl)
  obtain ⟨va, vc, rfl⟩ := hrow.form
  have hex : expB x = 45 :: [UInt8.ofNat (48 + a / 100), UInt8.ofNat (48 + a / 10 % 10), UInt8.ofNat (48 + a % 10)] := by
    have hna : x.natAbs = a := by omega
    unfold expB
    rw [hna, if_pos (show x < 0 by omega), if_neg (show ¬ a < 10 by omega), if_neg (show ¬ a < 100 by omega)]
  obtain ⟨q1, hq1⟩ : ∃ q : Int, q = ((UInt8.ofNat (48 + a / 100)).toNat : Int) := ⟨_, rfl⟩
  have hw1 : (a : Int) / 100 + 48 = q1 := by rw [hq1, ofNat_toNat _ (by omega)]; omega
  obtain ⟨q2, hq2⟩ : ∃ q : Int, q = ((UInt8.ofNat (48 + a / 10 % 10)).toNat : Int) := ⟨_, rfl⟩
  have hw2 : (a : Int) / 10 % 10 + 48 = q2 := by rw [hq2, ofNat_toNat _ (by omega)]; omega
  obtain ⟨q3, hq3⟩ : ∃ q : Int, q = ((UInt8.ofNat (48 + a % 10)).toNat : Int) := ⟨_, rfl⟩
  have hw3 : (a : Int) % 10 + 48 = q3 := by rw [hq3, ofNat_toNat _ (by omega)]; omega
  have CS : Hid (#[.int .u8 q1, .int .u8 q2, .int .u8 q3] = (([UInt8.ofNat (48 + a / 100), UInt8.ofNat (48 + a / 10 % 10), UInt8.ofNat (48 + a % 10)] : List UInt8).map encB).toArray) := Lib.hid (by simp [encB, hq1, hq2, hq3])
  have HEX := Lib.hid hex
  obtain ⟨m1, hm1⟩ : ∃ m, (([] : List UInt8) ++ [x0]).length = m := ⟨_, rfl⟩
  obtain ⟨g1, c1, W1, hr1, row1⟩ := hrow.push' 28 [x0] 1 #[.int .u8 (x0.toNat : Int)] m1 rfl (by first | rfl | exact CS.out) (by decide) (by simp only [List.length_nil]; omega) hm1
  have HR1 := Lib.hid hr1
  have tok1 : True := trivial
  clear hr1 hm1
  obtain ⟨m2, hm2⟩ : ∃ m, (([] ++ [x0] : List UInt8) ++ [46]).length = m := ⟨_, rfl⟩
  obtain ⟨g2, c2, W2, hr2, row2⟩ := row1.push' 28 [46] 1 #[.int .u8 46] m2 rfl (by first | rfl | exact CS.out) (by decide) (by simp only [List.length_append, List.length_cons, List.length_nil]; omega) hm2
  have HR2 := Lib.hid hr2
  have tok2 : True := trivial
  clear hr2 hm2
  obtain ⟨m3, hm3⟩ : ∃ m, (([] ++ [x0] ++ [46] : List UInt8) ++ xs).length = m := ⟨_, rfl⟩
  obtain ⟨n, hxn⟩ : ∃ n, xs.length = n := ⟨_, rfl⟩
  obtain ⟨g3, c3, W3, hr3, row3⟩ := row2.more' 28 b 1 n (cap - 1) xs m3 hxn (fun j u hu => by
    rw [Nat.add_comm 1 j]
    exact (World.cell?_of_block (w := W0) (a := ⟨b, j + 1, Option.none⟩) (row2.keep b hS)).trans (hcell (j + 1) u (by simpa using hu))) (by omega) (by simp only [List.length_append, List.length_cons, List.length_nil]; omega) hm3
  have HR3 := Lib.hid hr3
  have tok3 : True := trivial
  clear hr3 hm3
  obtain ⟨m5, hm5⟩ : ∃ m, (([] ++ [x0] ++ [46] ++ xs : List UInt8) ++ [101]).length = m := ⟨_, rfl⟩
  obtain ⟨g5, c5, W5, hr5, row5⟩ := row3.push' 28 [101] 1 #[.int .u8 101] m5 rfl (by first | rfl | exact CS.out) (by decide) (by simp only [List.length_append, List.length_cons, List.length_nil]; omega) hm5
  have HR5 := Lib.hid hr5
  have tok5 : True := trivial
  clear hr5 hm5
  obtain ⟨m6, hm6⟩ : ∃ m, (([] ++ [x0] ++ [46] ++ xs ++ [101] : List UInt8) ++ [45]).length = m := ⟨_, rfl⟩
  obtain ⟨g6, c6, W6, hr6, row6⟩ := row5.push' 28 [45] 1 #[.int .u8 45] m6 rfl (by first | rfl | exact CS.out) (by decide) (by simp only [List.length_append, List.length_cons, List.length_nil]; omega) hm6
  have HR6 := Lib.hid hr6
  have tok6 : True := trivial
  clear hr6 hm6
  obtain ⟨m7, hm7⟩ : ∃ m, (([] ++ [x0] ++ [46] ++ xs ++ [101] ++ [45] : List UInt8) ++ [UInt8.ofNat (48 + a / 100), UInt8.ofNat (48 + a / 10 % 10), UInt8.ofNat (48 + a % 10)]).length = m := ⟨_, rfl⟩
  obtain ⟨g7, c7, W7, hr7, row7⟩ := row6.push' 28 [UInt8.ofNat (48 + a / 100), UInt8.ofNat (48 + a / 10 % 10), UInt8.ofNat (48 + a % 10)] 3 #[.int .u8 q1, .int .u8 q2, .int .u8 q3] m7 rfl (by first | rfl | exact CS.out) (by decide) (by simp only [List.length_append, List.length_cons, List.length_nil]; omega) hm7
  have HR7 := Lib.hid hr7
  have tok7 : True := trivial
  clear hr7 hm7
  have HROW : Hid (Row base S W0 W7 (.slice (some ⟨g7, 0, Option.none⟩) m7 c7) (x0 :: ((if 0 < xs.length then 46 :: xs else []) ++ 101 :: expB x))) := Lib.hid (by
    have := row7
    rw [HEX.out]
    rw [if_pos (by omega)]
    simpa using this)
  clear row1 row2 row3 row5 row6 row7 hex hcell hrow hq1 hq2 hq3 CS HEX
  generalize (x0 :: ((if 0 < xs.length then 46 :: xs else []) ++ 101 :: expB x)) = RES at *
  have hn2 : 1 ≤ n := by omega
  have hn3 : n ≤ 20 := by omega
  rw [hxn]
  clear hn hxs hxn
  have hmin : min ((n : Int) + 1) ((n : Int) + 1) = (n : Int) + 1 := by simp
  subst hx
  have hlt : decide (-(a : Int) < 0) = true := by rw [decide_eq_true_eq]; omega
  go_enter Tryz.func210, Tryz.ntmps210
  go_wp2_with (first | (at_builtin; have tk := tok1; refine Lib.wpList_append_run _ rfl _ _ _ _ rfl _ _ rfl rfl _ _ HR1.out ?_; clear tok1 tk) | (at_builtin; have tk := tok2; refine Lib.wpList_append_run _ rfl _ _ _ _ rfl _ _ rfl rfl _ _ HR2.out ?_; clear tok2 tk) | (at_builtin; have tk := tok3; refine Lib.wpList_append_run _ rfl _ _ _ _ rfl _ _ rfl rfl _ _ HR3.out ?_; clear tok3 tk) | fail)
  go_loop [0, 114] (fun d t => d = .slice (some ⟨g3, 0, Option.none⟩) m3 c3 ∧ t = .int .i64 0) (fun _ _ => 0)
  case atStart => exact ⟨rfl, rfl⟩
  case round =>
    obtain ⟨rfl, rfl⟩ := hrel
    go_wp2_with (first | (at_builtin; have tk := tok5; refine Lib.wpList_append_run _ rfl _ _ _ _ rfl _ _ rfl rfl _ _ HR5.out ?_; clear tok5 tk) | (at_builtin; have tk := tok6; refine Lib.wpList_append_run _ rfl _ _ _ _ rfl _ _ rfl rfl _ _ HR6.out ?_; clear tok6 tk) | (at_builtin; have tk := tok7; refine Lib.wpList_append_run _ rfl _ _ _ _ rfl _ _ rfl rfl _ _ HR7.out ?_; clear tok7 tk) | fail)
    go_ret
    exact ⟨_, rfl, HROW.out⟩
theorem fmtE_any (base b : Nat) (S : Nat → Prop) (x0 : UInt8) (xs : List UInt8) (x : Int) (v : Value) (cap : Nat) (W0 w : World) (hrow : Row base S W0 w v []) (hS : S b) (hx1 : -400 < x) (hx2 : x < 400) (hxs : xs.length ≤ 20) (hcap : 32 ≤ cap) (hcap2 : cap ≤ 1000)
    (hcell : ∀ j u, (x0 :: xs)[j]? = some u → W0.cell? ⟨b, j, Option.none⟩ = some (encB u)) :
    Calls Tryz.prog 210 #[v, .bool false, .slice (some ⟨b, 0, Option.none⟩) 32 cap, .int .i64 (x + 1), .int .i64 ((xs.length : Nat) + 1), .int .i64 (xs.length : Nat), .int .u8 101, .bool true] w (EPost base S W0 (x0 :: ((if 0 < xs.length then 46 :: xs else []) ++ 101 :: expB x))) := by
  by_cases hn : xs.length = 0
  · by_cases hneg : x < 0
    · by_cases h0 : x.natAbs < 10
      · exact fmtE_on0 base b S x0 xs x x.natAbs v cap W0 w hrow hS hxs hcap hcap2 hcell hn (by omega) (by omega) (by omega) (by omega)
      by_cases h1 : x.natAbs < 100
      · exact fmtE_on1 base b S x0 xs x x.natAbs v cap W0 w hrow hS hxs hcap hcap2 hcell hn (by omega) (by omega) (by omega) (by omega)
      exact fmtE_on2 base b S x0 xs x x.natAbs v cap W0 w hrow hS hxs hcap hcap2 hcell hn (by omega) (by omega) (by omega) (by omega)
    · by_cases h0 : x.natAbs < 10
      · exact fmtE_op0 base b S x0 xs x x.natAbs v cap W0 w hrow hS hxs hcap hcap2 hcell hn (by omega) (by omega) (by omega)
      by_cases h1 : x.natAbs < 100
      · exact fmtE_op1 base b S x0 xs x x.natAbs v cap W0 w hrow hS hxs hcap hcap2 hcell hn (by omega) (by omega) (by omega)
      exact fmtE_op2 base b S x0 xs x x.natAbs v cap W0 w hrow hS hxs hcap hcap2 hcell hn (by omega) (by omega) (by omega)
  · by_cases hneg : x < 0
    · by_cases h0 : x.natAbs < 10
      · exact fmtE_mn0 base b S x0 xs x x.natAbs v cap W0 w hrow hS hxs hcap hcap2 hcell hn (by omega) (by omega) (by omega) (by omega)
      by_cases h1 : x.natAbs < 100
      · exact fmtE_mn1 base b S x0 xs x x.natAbs v cap W0 w hrow hS hxs hcap hcap2 hcell hn (by omega) (by omega) (by omega) (by omega)
      exact fmtE_mn2 base b S x0 xs x x.natAbs v cap W0 w hrow hS hxs hcap hcap2 hcell hn (by omega) (by omega) (by omega) (by omega)
    · by_cases h0 : x.natAbs < 10
      · exact fmtE_mp0 base b S x0 xs x x.natAbs v cap W0 w hrow hS hxs hcap hcap2 hcell hn (by omega) (by omega) (by omega)
      by_cases h1 : x.natAbs < 100
      · exact fmtE_mp1 base b S x0 xs x x.natAbs v cap W0 w hrow hS hxs hcap hcap2 hcell hn (by omega) (by omega) (by omega)
      exact fmtE_mp2 base b S x0 xs x x.natAbs v cap W0 w hrow hS hxs hcap hcap2 hcell hn (by omega) (by omega) (by omega)
end Go.Proofs.YtckaoeloofbklaaGreatDoor
namespace Go.Proofs.YtckaoeloofbklaaGreatDoor
open Go Go.RowKit Go.Sort Go.Lib
theorem pick3_bounds (dmin dmax u : Nat) (p : Int) (h1 : 1 ≤ dmin) (h3 : 1 ≤ u) (b1 : dmin ≤ 1000000000000000000) (b2 : dmax ≤ 1000000000000000000) (b3 : u ≤ 1000000000000000000) :
    1 ≤ (pick3 dmin dmax u p).1 ∧ (pick3 dmin dmax u p).1 ≤ 1000000000000000000 ∧ -p ≤ (pick3 dmin dmax u p).2 ∧ (pick3 dmin dmax u p).2 ≤ -p + 1 := by
  unfold pick3
  split
  · exact ⟨by show 1 ≤ dmax / 10; omega, by show dmax / 10 ≤ _; omega, by show -p ≤ -(p - 1); omega, by show -(p - 1) ≤ -p + 1; omega⟩
  · split
    · exact ⟨h3, b3, by show -p ≤ -p; omega, by show -p ≤ -p + 1; omega⟩
    · exact ⟨h1, b1, by show -p ≤ -p; omega, by show -p ≤ -p + 1; omega⟩
theorem short_bounds (m : Nat) (e : Int) (hm1 : 9223372036854775808 ≤ m) (hm2 : m < 18446744073709551616) (h0 : m % 2 ^ zN e = 0) (he1 : -1137 ≤ e) (he2 : e ≤ 1000) :
    1 ≤ (shortN m e).1 ∧ (shortN m e).1 ≤ 1000000000000000000 ∧ -346 ≤ (shortN m e).2 ∧ (shortN m e).2 ≤ 348 := by
  obtain ⟨hz1, hz2⟩ := zN_ge e he1
  obtain ⟨ht1, ht2, ht3⟩ := top_room m (zN e) hz1 hz2 hm2 h0
  obtain ⟨ok0, ok1⟩ := exp_ok e he1 he2
  have ok : expOK (skewB m e) e = true := by
    cases h : skewB m e
    · exact ok0
    · unfold skewB at h
      simp only [Bool.and_eq_true, decide_eq_true_eq] at h
      exact ok1 h.2
  simp only [expOK, Bool.and_eq_true, decide_eq_true_eq] at ok
  unfold shortN
  simp only
  generalize hp : ppN (skewB m e) e = p at *
  have hod : (if skewB m e = true then 0 else m / 2 ^ zN e % 2) ≤ 1 := by split <;> omega
  generalize (if skewB m e = true then 0 else m / 2 ^ zN e % 2) = od at *
  have hmn : (if skewB m e = true then m - 512 else m - 2 ^ (zN e - 1)) < 18446744073709551616 := by split <;> omega
  obtain ⟨b2, b2'⟩ := us_bounds p e (m + 2 ^ (zN e - 1)) (by omega) (by omega) ok.1.2 ok.2 (by omega)
  obtain ⟨b3, b3'⟩ := us_bounds p e m (by omega) (by omega) ok.1.2 ok.2 (by omega)
  have hb4 := b2' (by omega)
  have hb5 := b3' (by omega)
  obtain ⟨b1, _⟩ := us_bounds p e _ (by omega) (by omega) ok.1.2 ok.2 hmn
  have hb6 : 1 ≤ usN p e (if skewB m e = true then m - 512 else m - 2 ^ (zN e - 1)) := by
    have hge : 4611686018427387904 ≤ (if skewB m e = true then m - 512 else m - 2 ^ (zN e - 1)) := by split <;> omega
    exact us_pos p e _ (by omega) (by omega) ok.1.2 ok.2 hmn hge
  have := pick3_bounds ((usN p e (if skewB m e = true then m - 512 else m - 2 ^ (zN e - 1)) + od + 3) / 4) ((usN p e (m + 2 ^ (zN e - 1)) - od) / 4) ((usN p e m + 1 + usN p e m / 4 % 2) / 4) p (by omega) (by omega) (by omega) (by omega) (by omega)
  exact ⟨this.1, this.2.1, by omega, by omega⟩
theorem dec_head (u : Nat) (h : 1 ≤ u) : ∃ x l, decDigits u = x :: l ∧ x ≠ 48 := by
  induction u using Nat.strongRecOn with
  | _ u ih =>
    by_cases h1 : u < 10
    · refine ⟨UInt8.ofNat (48 + u), [], decDigits_one h1, fun h2 => ?_⟩
      have := congrArg UInt8.toNat h2
      rw [UInt8.toNat_ofNat', Nat.mod_eq_of_lt (by omega)] at this
      have h3 : (48 : UInt8).toNat = 48 := rfl
      omega
    · obtain ⟨x, l, h2, h3⟩ := ih (u / 10) (by omega) (by omega)
      refine ⟨x, l ++ [UInt8.ofNat (48 + u % 10)], ?_, h3⟩
      rw [decDigits, dif_neg h1, h2]; rfl
theorem trimZ_cons (x : UInt8) (l : List UInt8) (h : x ≠ 48) : ∃ l', trimZ (x :: l) = x :: l' := by
  unfold trimZ
  rw [List.reverse_cons, List.dropWhile_append]
  split
  · rw [List.dropWhile_cons, if_neg (by simpa using h)]
    exact ⟨[], rfl⟩
  · exact ⟨((l.reverse).dropWhile (· == 48)).reverse, by simp⟩
theorem sig_head (u : Nat) (h : 1 ≤ u) : ∃ x l, sig u = x :: l := by
  obtain ⟨x, l, h1, h2⟩ := dec_head u h
  obtain ⟨l', h3⟩ := trimZ_cons x l h2
  exact ⟨x, l', by unfold sig; rw [h1, h3]⟩
theorem sig_take (u : Nat) : ∃ k, k ≤ (decDigits u).length ∧ sig u = (decDigits u).take k := by
  have h : sig u <+: decDigits u := by
    unfold sig trimZ
    have := List.dropWhile_suffix (fun b : UInt8 => b == 48) (l := (decDigits u).reverse)
    rw [← List.reverse_prefix] at this
    rwa [List.reverse_reverse] at this
  exact ⟨(sig u).length, h.length_le, (List.prefix_iff_eq_take.1 h)⟩
theorem nDigits_le (u : Nat) (h : 1 ≤ u) (h2 : u < 18446744073709551616) : nDigits u ≤ 20 := by
  obtain ⟨h3, h4⟩ := numDigits_eq u h h2
  rw [← h3]
  split <;> omega
end Go.Proofs.YtckaoeloofbklaaGreatDoor
namespace Go.Proofs.YtckaoeloofbklaaGreatDoor
open Go Go.RowKit
theorem run_sbits (b : Nat) (w : World) : (callFunc 207 #[.float .f64 b]).run Tryz.prog w = .ok (.value (.int .u64 b)) w := by
  rw [run_callFunc_extern Tryz.func207 (e := Extern.MathFloatBits.float64bits) (by kernel_rfl) (by kernel_rfl) (by kernel_rfl) (by rfl)]
  rfl
theorem run_sfrom (b : Nat) (w : World) : (callFunc 257 #[.int .u64 b]).run Tryz.prog w = .ok (.value (.float .f64 b)) w := by
  rw [run_callFunc_extern Tryz.func257 (e := Extern.MathFloatBits.float64frombits) (by kernel_rfl) (by kernel_rfl) (by kernel_rfl) (by rfl)]
  rfl
theorem run_mbits (b : Nat) (w : World) : (callFunc 124 #[.float .f64 b]).run Tryz.prog w = .ok (.value (.int .u64 b)) w := by
  rw [run_callFunc_extern Tryz.func124 (e := Extern.MathFloatBits.float64bits) (by kernel_rfl) (by kernel_rfl) (by kernel_rfl) (by rfl)]
  rfl
theorem run_mfrom (b : Nat) (w : World) : (callFunc 96 #[.int .u64 b]).run Tryz.prog w = .ok (.value (.float .f64 b)) w := by
  rw [run_callFunc_extern Tryz.func96 (e := Extern.MathFloatBits.float64frombits) (by kernel_rfl) (by kernel_rfl) (by kernel_rfl) (by rfl)]
  rfl
end Go.Proofs.YtckaoeloofbklaaGreatDoor
