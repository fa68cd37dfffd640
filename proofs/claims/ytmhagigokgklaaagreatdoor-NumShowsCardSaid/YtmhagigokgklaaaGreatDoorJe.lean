/- Joined texts: Vg Vh. Each begins with its own remark. -/
import Derived.Test.YtmhagigokgklaaaGreatDoorJc
import Derived.Test.YtmhagigokgklaaaGreatDoorJd

/- Digits with a point and a power, walked: fmtEFG at 'e' (printed by gen_efg15.py). -/
namespace Go.Proofs.YtmhagigokgklaaaGreatDoor
open Go Go.RowKit Go.Sort Go.Lib

theorem u8_48 (a : Nat) (h : a < 200) : IntKind.u8.wrap ((a : Int) + 48) = ((UInt8.ofNat (48 + a)).toNat : Int) := by
  rw [ofNat_toNat _ (by omega), IntKind.wrap_u8]; omega

/-- what the walk is to show -/
def EPost (base : Nat) (S : Nat → Prop) (W0 : World) (l : List UInt8) (e : Ending) (w' : World) : Prop := ∃ v', e = .returned v' ∧ Row base S W0 w' v' l

set_option maxRecDepth 100000 in
set_option maxHeartbeats 8000000 in
theorem fmtE_op0 (base b : Nat) (S : Nat → Prop) (x0 : UInt8) (xs : List UInt8) (x : Int) (a : Nat) (v : Value) (cap : Nat) (W0 w : World) (hrow : Row base S W0 w v []) (hS : S b) (hxs : xs.length ≤ 20) (_hcap : 32 ≤ cap) (_hcap2 : cap ≤ 1000)
    (hcell : ∀ j u, (x0 :: xs)[j]? = some u → W0.cell? ⟨b, j, Option.none⟩ = some (encB u)) (hn : xs.length = 0) (hx : x = (a : Int)) (ha1 : a < 10) (ha2 : a < 10) :
    Calls Tryz.prog 124 #[v, .bool false, .slice (some ⟨b, 0, Option.none⟩) 32 cap, .int .i64 (x + 1), .int .i64 ((xs.length : Nat) + 1), .int .i64 (xs.length : Nat), .int .u8 101, .bool true] w (EPost base S W0 (x0 :: ((if 0 < xs.length then 46 :: xs else []) ++ 101 :: expB x))) := by
  have c0 : w.cell? ⟨b, 0, Option.none⟩ = some (.int .u8 (x0.toNat : Int)) := (World.cell?_of_block (w := W0) (a := ⟨b, 0, Option.none⟩) (hrow.keep b hS)).trans (hcell 0 x0 rfl)
  obtain ⟨va, vc, rfl⟩ := hrow.form
  have hex : expB x = 43 :: [48, UInt8.ofNat (48 + a)] := by
    have hna : x.natAbs = a := by omega
    unfold expB
    rw [hna, if_neg (show ¬ x < 0 by omega), if_pos (show a < 10 by omega)]
  obtain ⟨q1, hq1⟩ : ∃ q : Int, q = ((UInt8.ofNat (48 + a)).toNat : Int) := ⟨_, rfl⟩
  have hw1 : (a : Int) + 48 = q1 := by rw [hq1, ofNat_toNat _ (by omega)]; omega
  have CS : Hid (#[.int .u8 48, .int .u8 q1] = (([48, UInt8.ofNat (48 + a)] : List UInt8).map encB).toArray) := Lib.hid (by simp [encB, hq1])
  have HEX := Lib.hid hex
  obtain ⟨m1, hm1⟩ : ∃ m, (([] : List UInt8) ++ [x0]).length = m := ⟨_, rfl⟩
  obtain ⟨g1, c1, W1, hr1, row1⟩ := hrow.push' 34 [x0] 1 #[.int .u8 (x0.toNat : Int)] m1 rfl (by first | rfl | exact CS.out) (by decide) (by simp only [List.length_nil]; omega) hm1
  have HR1 := Lib.hid hr1
  have tok1 : True := trivial
  clear hr1 hm1
  obtain ⟨m5, hm5⟩ : ∃ m, (([] ++ [x0] : List UInt8) ++ [101]).length = m := ⟨_, rfl⟩
  obtain ⟨g5, c5, W5, hr5, row5⟩ := row1.push' 34 [101] 1 #[.int .u8 101] m5 rfl (by first | rfl | exact CS.out) (by decide) (by simp only [List.length_append, List.length_cons, List.length_nil]; omega) hm5
  have HR5 := Lib.hid hr5
  have tok5 : True := trivial
  clear hr5 hm5
  obtain ⟨m6, hm6⟩ : ∃ m, (([] ++ [x0] ++ [101] : List UInt8) ++ [43]).length = m := ⟨_, rfl⟩
  obtain ⟨g6, c6, W6, hr6, row6⟩ := row5.push' 34 [43] 1 #[.int .u8 43] m6 rfl (by first | rfl | exact CS.out) (by decide) (by simp only [List.length_append, List.length_cons, List.length_nil]; omega) hm6
  have HR6 := Lib.hid hr6
  have tok6 : True := trivial
  clear hr6 hm6
  obtain ⟨m7, hm7⟩ : ∃ m, (([] ++ [x0] ++ [101] ++ [43] : List UInt8) ++ [48, UInt8.ofNat (48 + a)]).length = m := ⟨_, rfl⟩
  obtain ⟨g7, c7, W7, hr7, row7⟩ := row6.push' 34 [48, UInt8.ofNat (48 + a)] 2 #[.int .u8 48, .int .u8 q1] m7 rfl (by first | rfl | exact CS.out) (by decide) (by simp only [List.length_append, List.length_cons, List.length_nil]; omega) hm7
  have HR7 := Lib.hid hr7
  have tok7 : True := trivial
  clear hr7 hm7
  have HROW : Hid (Row base S W0 W7 (.slice (some ⟨g7, 0, Option.none⟩) m7 c7) (x0 :: ((if 0 < xs.length then 46 :: xs else []) ++ 101 :: expB x))) := Lib.hid (by
    have := row7
    rw [HEX.out]
    obtain rfl : xs = [] := List.eq_nil_of_length_eq_zero hn
    simpa using this)
  clear row1 row5 row6 row7 hex hcell hrow hq1 CS HEX
  generalize (x0 :: ((if 0 < xs.length then 46 :: xs else []) ++ 101 :: expB x)) = RES at *
  rw [hn]
  clear hn hxs
  subst hx
  have hlt : decide ((a : Int) < 0) = false := by rw [decide_eq_false_iff_not]; omega
  go_enter Tryz.func124, Tryz.ntmps124
  go_wp2_with (first | (at_builtin; have tk := tok1; refine Lib.wpList_append_run _ rfl _ _ _ _ rfl _ _ rfl rfl _ _ HR1.out ?_; clear tok1 tk) | (at_builtin; have tk := tok5; refine Lib.wpList_append_run _ rfl _ _ _ _ rfl _ _ rfl rfl _ _ HR5.out ?_; clear tok5 tk) | (at_builtin; have tk := tok6; refine Lib.wpList_append_run _ rfl _ _ _ _ rfl _ _ rfl rfl _ _ HR6.out ?_; clear tok6 tk) | (at_builtin; have tk := tok7; refine Lib.wpList_append_run _ rfl _ _ _ _ rfl _ _ rfl rfl _ _ HR7.out ?_; clear tok7 tk) | fail)
  go_ret
  exact ⟨_, rfl, HROW.out⟩

set_option maxRecDepth 100000 in
set_option maxHeartbeats 8000000 in
theorem fmtE_op1 (base b : Nat) (S : Nat → Prop) (x0 : UInt8) (xs : List UInt8) (x : Int) (a : Nat) (v : Value) (cap : Nat) (W0 w : World) (hrow : Row base S W0 w v []) (hS : S b) (hxs : xs.length ≤ 20) (_hcap : 32 ≤ cap) (_hcap2 : cap ≤ 1000)
    (hcell : ∀ j u, (x0 :: xs)[j]? = some u → W0.cell? ⟨b, j, Option.none⟩ = some (encB u)) (hn : xs.length = 0) (hx : x = (a : Int)) (ha1 : 10 ≤ a) (ha2 : a < 100) :
    Calls Tryz.prog 124 #[v, .bool false, .slice (some ⟨b, 0, Option.none⟩) 32 cap, .int .i64 (x + 1), .int .i64 ((xs.length : Nat) + 1), .int .i64 (xs.length : Nat), .int .u8 101, .bool true] w (EPost base S W0 (x0 :: ((if 0 < xs.length then 46 :: xs else []) ++ 101 :: expB x))) := by
  have c0 : w.cell? ⟨b, 0, Option.none⟩ = some (.int .u8 (x0.toNat : Int)) := (World.cell?_of_block (w := W0) (a := ⟨b, 0, Option.none⟩) (hrow.keep b hS)).trans (hcell 0 x0 rfl)
  obtain ⟨va, vc, rfl⟩ := hrow.form
  have hex : expB x = 43 :: [UInt8.ofNat (48 + a / 10), UInt8.ofNat (48 + a % 10)] := by
    have hna : x.natAbs = a := by omega
    unfold expB
    rw [hna, if_neg (show ¬ x < 0 by omega), if_neg (show ¬ a < 10 by omega), if_pos (show a < 100 by omega)]
  obtain ⟨q1, hq1⟩ : ∃ q : Int, q = ((UInt8.ofNat (48 + a / 10)).toNat : Int) := ⟨_, rfl⟩
  have hw1 : (a : Int) / 10 + 48 = q1 := by rw [hq1, ofNat_toNat _ (by omega)]; omega
  obtain ⟨q2, hq2⟩ : ∃ q : Int, q = ((UInt8.ofNat (48 + a % 10)).toNat : Int) := ⟨_, rfl⟩
  have hw2 : (a : Int) % 10 + 48 = q2 := by rw [hq2, ofNat_toNat _ (by omega)]; omega
  have CS : Hid (#[.int .u8 q1, .int .u8 q2] = (([UInt8.ofNat (48 + a / 10), UInt8.ofNat (48 + a % 10)] : List UInt8).map encB).toArray) := Lib.hid (by simp [encB, hq1, hq2])
  have HEX := Lib.hid hex
  obtain ⟨m1, hm1⟩ : ∃ m, (([] : List UInt8) ++ [x0]).length = m := ⟨_, rfl⟩
  obtain ⟨g1, c1, W1, hr1, row1⟩ := hrow.push' 34 [x0] 1 #[.int .u8 (x0.toNat : Int)] m1 rfl (by first | rfl | exact CS.out) (by decide) (by simp only [List.length_nil]; omega) hm1
  have HR1 := Lib.hid hr1
  have tok1 : True := trivial
  clear hr1 hm1
  obtain ⟨m5, hm5⟩ : ∃ m, (([] ++ [x0] : List UInt8) ++ [101]).length = m := ⟨_, rfl⟩
  obtain ⟨g5, c5, W5, hr5, row5⟩ := row1.push' 34 [101] 1 #[.int .u8 101] m5 rfl (by first | rfl | exact CS.out) (by decide) (by simp only [List.length_append, List.length_cons, List.length_nil]; omega) hm5
  have HR5 := Lib.hid hr5
  have tok5 : True := trivial
  clear hr5 hm5
  obtain ⟨m6, hm6⟩ : ∃ m, (([] ++ [x0] ++ [101] : List UInt8) ++ [43]).length = m := ⟨_, rfl⟩
  obtain ⟨g6, c6, W6, hr6, row6⟩ := row5.push' 34 [43] 1 #[.int .u8 43] m6 rfl (by first | rfl | exact CS.out) (by decide) (by simp only [List.length_append, List.length_cons, List.length_nil]; omega) hm6
  have HR6 := Lib.hid hr6
  have tok6 : True := trivial
  clear hr6 hm6
  obtain ⟨m7, hm7⟩ : ∃ m, (([] ++ [x0] ++ [101] ++ [43] : List UInt8) ++ [UInt8.ofNat (48 + a / 10), UInt8.ofNat (48 + a % 10)]).length = m := ⟨_, rfl⟩
  obtain ⟨g7, c7, W7, hr7, row7⟩ := row6.push' 34 [UInt8.ofNat (48 + a / 10), UInt8.ofNat (48 + a % 10)] 2 #[.int .u8 q1, .int .u8 q2] m7 rfl (by first | rfl | exact CS.out) (by decide) (by simp only [List.length_append, List.length_cons, List.length_nil]; omega) hm7
  have HR7 := Lib.hid hr7
  have tok7 : True := trivial
  clear hr7 hm7
  have HROW : Hid (Row base S W0 W7 (.slice (some ⟨g7, 0, Option.none⟩) m7 c7) (x0 :: ((if 0 < xs.length then 46 :: xs else []) ++ 101 :: expB x))) := Lib.hid (by
    have := row7
    rw [HEX.out]
    obtain rfl : xs = [] := List.eq_nil_of_length_eq_zero hn
    simpa using this)
  clear row1 row5 row6 row7 hex hcell hrow hq1 hq2 CS HEX
  generalize (x0 :: ((if 0 < xs.length then 46 :: xs else []) ++ 101 :: expB x)) = RES at *
  rw [hn]
  clear hn hxs
  subst hx
  have hlt : decide ((a : Int) < 0) = false := by rw [decide_eq_false_iff_not]; omega
  go_enter Tryz.func124, Tryz.ntmps124
  go_wp2_with (first | (at_builtin; have tk := tok1; refine Lib.wpList_append_run _ rfl _ _ _ _ rfl _ _ rfl rfl _ _ HR1.out ?_; clear tok1 tk) | (at_builtin; have tk := tok5; refine Lib.wpList_append_run _ rfl _ _ _ _ rfl _ _ rfl rfl _ _ HR5.out ?_; clear tok5 tk) | (at_builtin; have tk := tok6; refine Lib.wpList_append_run _ rfl _ _ _ _ rfl _ _ rfl rfl _ _ HR6.out ?_; clear tok6 tk) | (at_builtin; have tk := tok7; refine Lib.wpList_append_run _ rfl _ _ _ _ rfl _ _ rfl rfl _ _ HR7.out ?_; clear tok7 tk) | fail)
  go_ret
  exact ⟨_, rfl, HROW.out⟩

set_option maxRecDepth 100000 in
set_option maxHeartbeats 8000000 in
theorem fmtE_op2 (base b : Nat) (S : Nat → Prop) (x0 : UInt8) (xs : List UInt8) (x : Int) (a : Nat) (v : Value) (cap : Nat) (W0 w : World) (hrow : Row base S W0 w v []) (hS : S b) (hxs : xs.length ≤ 20) (_hcap : 32 ≤ cap) (_hcap2 : cap ≤ 1000)
    (hcell : ∀ j u, (x0 :: xs)[j]? = some u → W0.cell? ⟨b, j, Option.none⟩ = some (encB u)) (hn : xs.length = 0) (hx : x = (a : Int)) (ha1 : 100 ≤ a) (ha2 : a < 400) :
    Calls Tryz.prog 124 #[v, .bool false, .slice (some ⟨b, 0, Option.none⟩) 32 cap, .int .i64 (x + 1), .int .i64 ((xs.length : Nat) + 1), .int .i64 (xs.length : Nat), .int .u8 101, .bool true] w (EPost base S W0 (x0 :: ((if 0 < xs.length then 46 :: xs else []) ++ 101 :: expB x))) := by
  have c0 : w.cell? ⟨b, 0, Option.none⟩ = some (.int .u8 (x0.toNat : Int)) := (World.cell?_of_block (w := W0) (a := ⟨b, 0, Option.none⟩) (hrow.keep b hS)).trans (hcell 0 x0 rfl)
  obtain ⟨va, vc, rfl⟩ := hrow.form
  have hex : expB x = 43 :: [UInt8.ofNat (48 + a / 100), UInt8.ofNat (48 + a / 10 % 10), UInt8.ofNat (48 + a % 10)] := by
    have hna : x.natAbs = a := by omega
    unfold expB
    rw [hna, if_neg (show ¬ x < 0 by omega), if_neg (show ¬ a < 10 by omega), if_neg (show ¬ a < 100 by omega)]
  obtain ⟨q1, hq1⟩ : ∃ q : Int, q = ((UInt8.ofNat (48 + a / 100)).toNat : Int) := ⟨_, rfl⟩
  have hw1 : (a : Int) / 100 + 48 = q1 := by rw [hq1, ofNat_toNat _ (by omega)]; omega
  obtain ⟨q2, hq2⟩ : ∃ q : Int, q = ((UInt8.ofNat (48 + a / 10 % 10)).toNat : Int) := ⟨_, rfl⟩
  have hw2 : (a : Int) / 10 % 10 + 48 = q2 := by rw [hq2, ofNat_toNat _ (by omega)]; omega
  obtain ⟨q3, hq3⟩ : ∃ q : Int, q = ((UInt8.ofNat (48 + a % 10)).toNat : Int) := ⟨_, rfl⟩
  have hw3 : (a : Int) % 10 + 48 = q3 := by rw [hq3, ofNat_toNat _ (by omega)]; omega
  have CS : Hid (#[.int .u8 q1, .int .u8 q2, .int .u8 q3] = (([UInt8.ofNat (48 + a / 100), UInt8.ofNat (48 + a / 10 % 10), UInt8.ofNat (48 + a % 10)] : List UInt8).map encB).toArray) := Lib.hid (by simp [encB, hq1, hq2, hq3])
  have HEX := Lib.hid hex
  obtain ⟨m1, hm1⟩ : ∃ m, (([] : List UInt8) ++ [x0]).length = m := ⟨_, rfl⟩
  obtain ⟨g1, c1, W1, hr1, row1⟩ := hrow.push' 34 [x0] 1 #[.int .u8 (x0.toNat : Int)] m1 rfl (by first | rfl | exact CS.out) (by decide) (by simp only [List.length_nil]; omega) hm1
  have HR1 := Lib.hid hr1
  have tok1 : True := trivial
  clear hr1 hm1
  obtain ⟨m5, hm5⟩ : ∃ m, (([] ++ [x0] : List UInt8) ++ [101]).length = m := ⟨_, rfl⟩
  obtain ⟨g5, c5, W5, hr5, row5⟩ := row1.push' 34 [101] 1 #[.int .u8 101] m5 rfl (by first | rfl | exact CS.out) (by decide) (by simp only [List.length_append, List.length_cons, List.length_nil]; omega) hm5
  have HR5 := Lib.hid hr5
  have tok5 : True := trivial
  clear hr5 hm5
  obtain ⟨m6, hm6⟩ : ∃ m, (([] ++ [x0] ++ [101] : List UInt8) ++ [43]).length = m := ⟨_, rfl⟩
  obtain ⟨g6, c6, W6, hr6, row6⟩ := row5.push' 34 [43] 1 #[.int .u8 43] m6 rfl (by first | rfl | exact CS.out) (by decide) (by simp only [List.length_append, List.length_cons, List.length_nil]; omega) hm6
  have HR6 := Lib.hid hr6
  have tok6 : True := trivial
  clear hr6 hm6
  obtain ⟨m7, hm7⟩ : ∃ m, (([] ++ [x0] ++ [101] ++ [43] : List UInt8) ++ [UInt8.ofNat (48 + a / 100), UInt8.ofNat (48 + a / 10 % 10), UInt8.ofNat (48 + a % 10)]).length = m := ⟨_, rfl⟩
  obtain ⟨g7, c7, W7, hr7, row7⟩ := row6.push' 34 [UInt8.ofNat (48 + a / 100), UInt8.ofNat (48 + a / 10 % 10), UInt8.ofNat (48 + a % 10)] 3 #[.int .u8 q1, .int .u8 q2, .int .u8 q3] m7 rfl (by first | rfl | exact CS.out) (by decide) (by simp only [List.length_append, List.length_cons, List.length_nil]; omega) hm7
  have HR7 := Lib.hid hr7
  have tok7 : True := trivial
  clear hr7 hm7
  have HROW : Hid (Row base S W0 W7 (.slice (some ⟨g7, 0, Option.none⟩) m7 c7) (x0 :: ((if 0 < xs.length then 46 :: xs else []) ++ 101 :: expB x))) := Lib.hid (by
    have := row7
    rw [HEX.out]
    obtain rfl : xs = [] := List.eq_nil_of_length_eq_zero hn
    simpa using this)
  clear row1 row5 row6 row7 hex hcell hrow hq1 hq2 hq3 CS HEX
  generalize (x0 :: ((if 0 < xs.length then 46 :: xs else []) ++ 101 :: expB x)) = RES at *
  rw [hn]
  clear hn hxs
  subst hx
  have hlt : decide ((a : Int) < 0) = false := by rw [decide_eq_false_iff_not]; omega
  go_enter Tryz.func124, Tryz.ntmps124
  go_wp2_with (first | (at_builtin; have tk := tok1; refine Lib.wpList_append_run _ rfl _ _ _ _ rfl _ _ rfl rfl _ _ HR1.out ?_; clear tok1 tk) | (at_builtin; have tk := tok5; refine Lib.wpList_append_run _ rfl _ _ _ _ rfl _ _ rfl rfl _ _ HR5.out ?_; clear tok5 tk) | (at_builtin; have tk := tok6; refine Lib.wpList_append_run _ rfl _ _ _ _ rfl _ _ rfl rfl _ _ HR6.out ?_; clear tok6 tk) | (at_builtin; have tk := tok7; refine Lib.wpList_append_run _ rfl _ _ _ _ rfl _ _ rfl rfl _ _ HR7.out ?_; clear tok7 tk) | fail)
  go_ret
  exact ⟨_, rfl, HROW.out⟩

set_option maxRecDepth 100000 in
set_option maxHeartbeats 8000000 in
theorem fmtE_on0 (base b : Nat) (S : Nat → Prop) (x0 : UInt8) (xs : List UInt8) (x : Int) (a : Nat) (v : Value) (cap : Nat) (W0 w : World) (hrow : Row base S W0 w v []) (hS : S b) (hxs : xs.length ≤ 20) (_hcap : 32 ≤ cap) (_hcap2 : cap ≤ 1000)
    (hcell : ∀ j u, (x0 :: xs)[j]? = some u → W0.cell? ⟨b, j, Option.none⟩ = some (encB u)) (hn : xs.length = 0) (hx : x = -(a : Int)) (ha0 : 0 < a) (ha1 : a < 10) (ha2 : a < 10) :
    Calls Tryz.prog 124 #[v, .bool false, .slice (some ⟨b, 0, Option.none⟩) 32 cap, .int .i64 (x + 1), .int .i64 ((xs.length : Nat) + 1), .int .i64 (xs.length : Nat), .int .u8 101, .bool true] w (EPost base S W0 (x0 :: ((if 0 < xs.length then 46 :: xs else []) ++ 101 :: expB x))) := by
  have c0 : w.cell? ⟨b, 0, Option.none⟩ = some (.int .u8 (x0.toNat : Int)) := (World.cell?_of_block (w := W0) (a := ⟨b, 0, Option.none⟩) (hrow.keep b hS)).trans (hcell 0 x0 rfl)
  obtain ⟨va, vc, rfl⟩ := hrow.form
  have hex : expB x = 45 :: [48, UInt8.ofNat (48 + a)] := by
    have hna : x.natAbs = a := by omega
    unfold expB
    rw [hna, if_pos (show x < 0 by omega), if_pos (show a < 10 by omega)]
  obtain ⟨q1, hq1⟩ : ∃ q : Int, q = ((UInt8.ofNat (48 + a)).toNat : Int) := ⟨_, rfl⟩
  have hw1 : (a : Int) + 48 = q1 := by rw [hq1, ofNat_toNat _ (by omega)]; omega
  have CS : Hid (#[.int .u8 48, .int .u8 q1] = (([48, UInt8.ofNat (48 + a)] : List UInt8).map encB).toArray) := Lib.hid (by simp [encB, hq1])
  have HEX := Lib.hid hex
  obtain ⟨m1, hm1⟩ : ∃ m, (([] : List UInt8) ++ [x0]).length = m := ⟨_, rfl⟩
  obtain ⟨g1, c1, W1, hr1, row1⟩ := hrow.push' 34 [x0] 1 #[.int .u8 (x0.toNat : Int)] m1 rfl (by first | rfl | exact CS.out) (by decide) (by simp only [List.length_nil]; omega) hm1
  have HR1 := Lib.hid hr1
  have tok1 : True := trivial
  clear hr1 hm1
  obtain ⟨m5, hm5⟩ : ∃ m, (([] ++ [x0] : List UInt8) ++ [101]).length = m := ⟨_, rfl⟩
  obtain ⟨g5, c5, W5, hr5, row5⟩ := row1.push' 34 [101] 1 #[.int .u8 101] m5 rfl (by first | rfl | exact CS.out) (by decide) (by simp only [List.length_append, List.length_cons, List.length_nil]; omega) hm5
  have HR5 := Lib.hid hr5
  have tok5 : True := trivial
  clear hr5 hm5
  obtain ⟨m6, hm6⟩ : ∃ m, (([] ++ [x0] ++ [101] : List UInt8) ++ [45]).length = m := ⟨_, rfl⟩
  obtain ⟨g6, c6, W6, hr6, row6⟩ := row5.push' 34 [45] 1 #[.int .u8 45] m6 rfl (by first | rfl | exact CS.out) (by decide) (by simp only [List.length_append, List.length_cons, List.length_nil]; omega) hm6
  have HR6 := Lib.hid hr6
  have tok6 : True := trivial
  clear hr6 hm6
  obtain ⟨m7, hm7⟩ : ∃ m, (([] ++ [x0] ++ [101] ++ [45] : List UInt8) ++ [48, UInt8.ofNat (48 + a)]).length = m := ⟨_, rfl⟩
  obtain ⟨g7, c7, W7, hr7, row7⟩ := row6.push' 34 [48, UInt8.ofNat (48 + a)] 2 #[.int .u8 48, .int .u8 q1] m7 rfl (by first | rfl | exact CS.out) (by decide) (by simp only [List.length_append, List.length_cons, List.length_nil]; omega) hm7
  have HR7 := Lib.hid hr7
  have tok7 : True := trivial
  clear hr7 hm7
  have HROW : Hid (Row base S W0 W7 (.slice (some ⟨g7, 0, Option.none⟩) m7 c7) (x0 :: ((if 0 < xs.length then 46 :: xs else []) ++ 101 :: expB x))) := Lib.hid (by
    have := row7
    rw [HEX.out]
    obtain rfl : xs = [] := List.eq_nil_of_length_eq_zero hn
    simpa using this)
  clear row1 row5 row6 row7 hex hcell hrow hq1 CS HEX
  generalize (x0 :: ((if 0 < xs.length then 46 :: xs else []) ++ 101 :: expB x)) = RES at *
  rw [hn]
  clear hn hxs
  subst hx
  have hlt : decide (-(a : Int) < 0) = true := by rw [decide_eq_true_eq]; omega
  go_enter Tryz.func124, Tryz.ntmps124
  go_wp2_with (first | (at_builtin; have tk := tok1; refine Lib.wpList_append_run _ rfl _ _ _ _ rfl _ _ rfl rfl _ _ HR1.out ?_; clear tok1 tk) | (at_builtin; have tk := tok5; refine Lib.wpList_append_run _ rfl _ _ _ _ rfl _ _ rfl rfl _ _ HR5.out ?_; clear tok5 tk) | (at_builtin; have tk := tok6; refine Lib.wpList_append_run _ rfl _ _ _ _ rfl _ _ rfl rfl _ _ HR6.out ?_; clear tok6 tk) | (at_builtin; have tk := tok7; refine Lib.wpList_append_run _ rfl _ _ _ _ rfl _ _ rfl rfl _ _ HR7.out ?_; clear tok7 tk) | fail)
  go_ret
  exact ⟨_, rfl, HROW.out⟩

set_option maxRecDepth 100000 in
set_option maxHeartbeats 8000000 in
theorem fmtE_on1 (base b : Nat) (S : Nat → Prop) (x0 : UInt8) (xs : List UInt8) (x : Int) (a : Nat) (v : Value) (cap : Nat) (W0 w : World) (hrow : Row base S W0 w v []) (hS : S b) (hxs : xs.length ≤ 20) (_hcap : 32 ≤ cap) (_hcap2 : cap ≤ 1000)
    (hcell : ∀ j u, (x0 :: xs)[j]? = some u → W0.cell? ⟨b, j, Option.none⟩ = some (encB u)) (hn : xs.length = 0) (hx : x = -(a : Int)) (ha0 : 0 < a) (ha1 : 10 ≤ a) (ha2 : a < 100) :
    Calls Tryz.prog 124 #[v, .bool false, .slice (some ⟨b, 0, Option.none⟩) 32 cap, .int .i64 (x + 1), .int .i64 ((xs.length : Nat) + 1), .int .i64 (xs.length : Nat), .int .u8 101, .bool true] w (EPost base S W0 (x0 :: ((if 0 < xs.length then 46 :: xs else []) ++ 101 :: expB x))) := by
  have c0 : w.cell? ⟨b, 0, Option.none⟩ = some (.int .u8 (x0.toNat : Int)) := (World.cell?_of_block (w := W0) (a := ⟨b, 0, Option.none⟩) (hrow.keep b hS)).trans (hcell 0 x0 rfl)
  obtain ⟨va, vc, rfl⟩ := hrow.form
  have hex : expB x = 45 :: [UInt8.ofNat (48 + a / 10), UInt8.ofNat (48 + a % 10)] := by
    have hna : x.natAbs = a := by omega
    unfold expB
    rw [hna, if_pos (show x < 0 by omega), if_neg (show ¬ a < 10 by omega), if_pos (show a < 100 by omega)]
  obtain ⟨q1, hq1⟩ : ∃ q : Int, q = ((UInt8.ofNat (48 + a / 10)).toNat : Int) := ⟨_, rfl⟩
  have hw1 : (a : Int) / 10 + 48 = q1 := by rw [hq1, ofNat_toNat _ (by omega)]; omega
  obtain ⟨q2, hq2⟩ : ∃ q : Int, q = ((UInt8.ofNat (48 + a % 10)).toNat : Int) := ⟨_, rfl⟩
  have hw2 : (a : Int) % 10 + 48 = q2 := by rw [hq2, ofNat_toNat _ (by omega)]; omega
  have CS : Hid (#[.int .u8 q1, .int .u8 q2] = (([UInt8.ofNat (48 + a / 10), UInt8.ofNat (48 + a % 10)] : List UInt8).map encB).toArray) := Lib.hid (by simp [encB, hq1, hq2])
  have HEX := Lib.hid hex
  obtain ⟨m1, hm1⟩ : ∃ m, (([] : List UInt8) ++ [x0]).length = m := ⟨_, rfl⟩
  obtain ⟨g1, c1, W1, hr1, row1⟩ := hrow.push' 34 [x0] 1 #[.int .u8 (x0.toNat : Int)] m1 rfl (by first | rfl | exact CS.out) (by decide) (by simp only [List.length_nil]; omega) hm1
  have HR1 := Lib.hid hr1
  have tok1 : True := trivial
  clear hr1 hm1
  obtain ⟨m5, hm5⟩ : ∃ m, (([] ++ [x0] : List UInt8) ++ [101]).length = m := ⟨_, rfl⟩
  obtain ⟨g5, c5, W5, hr5, row5⟩ := row1.push' 34 [101] 1 #[.int .u8 101] m5 rfl (by first | rfl | exact CS.out) (by decide) (by simp only [List.length_append, List.length_cons, List.length_nil]; omega) hm5
  have HR5 := Lib.hid hr5
  have tok5 : True := trivial
  clear hr5 hm5
  obtain ⟨m6, hm6⟩ : ∃ m, (([] ++ [x0] ++ [101] : List UInt8) ++ [45]).length = m := ⟨_, rfl⟩
  obtain ⟨g6, c6, W6, hr6, row6⟩ := row5.push' 34 [45] 1 #[.int .u8 45] m6 rfl (by first | rfl | exact CS.out) (by decide) (by simp only [List.length_append, List.length_cons, List.length_nil]; omega) hm6
  have HR6 := Lib.hid hr6
  have tok6 : True := trivial
  clear hr6 hm6
  obtain ⟨m7, hm7⟩ : ∃ m, (([] ++ [x0] ++ [101] ++ [45] : List UInt8) ++ [UInt8.ofNat (48 + a / 10), UInt8.ofNat (48 + a % 10)]).length = m := ⟨_, rfl⟩
  obtain ⟨g7, c7, W7, hr7, row7⟩ := row6.push' 34 [UInt8.ofNat (48 + a / 10), UInt8.ofNat (48 + a % 10)] 2 #[.int .u8 q1, .int .u8 q2] m7 rfl (by first | rfl | exact CS.out) (by decide) (by simp only [List.length_append, List.length_cons, List.length_nil]; omega) hm7
  have HR7 := Lib.hid hr7
  have tok7 : True := trivial
  clear hr7 hm7
  have HROW : Hid (Row base S W0 W7 (.slice (some ⟨g7, 0, Option.none⟩) m7 c7) (x0 :: ((if 0 < xs.length then 46 :: xs else []) ++ 101 :: expB x))) := Lib.hid (by
    have := row7
    rw [HEX.out]
    obtain rfl : xs = [] := List.eq_nil_of_length_eq_zero hn
    simpa using this)
  clear row1 row5 row6 row7 hex hcell hrow hq1 hq2 CS HEX
  generalize (x0 :: ((if 0 < xs.length then 46 :: xs else []) ++ 101 :: expB x)) = RES at *
  rw [hn]
  clear hn hxs
  subst hx
  have hlt : decide (-(a : Int) < 0) = true := by rw [decide_eq_true_eq]; omega
  go_enter Tryz.func124, Tryz.ntmps124
  go_wp2_with (first | (at_builtin; have tk := tok1; refine Lib.wpList_append_run _ rfl _ _ _ _ rfl _ _ rfl rfl _ _ HR1.out ?_; clear tok1 tk) | (at_builtin; have tk := tok5; refine Lib.wpList_append_run _ rfl _ _ _ _ rfl _ _ rfl rfl _ _ HR5.out ?_; clear tok5 tk) | (at_builtin; have tk := tok6; refine Lib.wpList_append_run _ rfl _ _ _ _ rfl _ _ rfl rfl _ _ HR6.out ?_; clear tok6 tk) | (at_builtin; have tk := tok7; refine Lib.wpList_append_run _ rfl _ _ _ _ rfl _ _ rfl rfl _ _ HR7.out ?_; clear tok7 tk) | fail)
  go_ret
  exact ⟨_, rfl, HROW.out⟩

set_option maxRecDepth 100000 in
set_option maxHeartbeats 8000000 in
theorem fmtE_on2 (base b : Nat) (S : Nat → Prop) (x0 : UInt8) (xs : List UInt8) (x : Int) (a : Nat) (v : Value) (cap : Nat) (W0 w : World) (hrow : Row base S W0 w v []) (hS : S b) (hxs : xs.length ≤ 20) (_hcap : 32 ≤ cap) (_hcap2 : cap ≤ 1000)
    (hcell : ∀ j u, (x0 :: xs)[j]? = some u → W0.cell? ⟨b, j, Option.none⟩ = some (encB u)) (hn : xs.length = 0) (hx : x = -(a : Int)) (ha0 : 0 < a) (ha1 : 100 ≤ a) (ha2 : a < 400) :
    Calls Tryz.prog 124 #[v, .bool false, .slice (some ⟨b, 0, Option.none⟩) 32 cap, .int .i64 (x + 1), .int .i64 ((xs.length : Nat) + 1), .int .i64 (xs.length : Nat), .int .u8 101, .bool true] w (EPost base S W0 (x0 :: ((if 0 < xs.length then 46 :: xs else []) ++ 101 :: expB x))) := by
  have c0 : w.cell? ⟨b, 0, Option.none⟩ = some (.int .u8 (x0.toNat : Int)) := (World.cell?_of_block (w := W0) (a := ⟨b, 0, Option.none⟩) (hrow.keep b hS)).trans (hcell 0 x0 rfl)
  obtain ⟨va, vc, rfl⟩ := hrow.form
  have hex : expB x = 45 :: [UInt8.ofNat (48 + a / 100), UInt8.ofNat (48 + a / 10 % 10), UInt8.ofNat (48 + a % 10)] := by
    have hna : x.natAbs = a := by omega
    unfold expB
    rw [hna, if_pos (show x < 0 by omega), if_neg (show ¬ a < 10 by omega), if_neg (show ¬ a < 100 by omega)]
  obtain ⟨q1, hq1⟩ : ∃ q : Int, q = ((UInt8.ofNat (48 + a / 100)).toNat : Int) := ⟨_, rfl⟩
  have hw1 : (a : Int) / 100 + 48 = q1 := by rw [hq1, ofNat_toNat _ (by omega)]; omega
  obtain ⟨q2, hq2⟩ : ∃ q : Int, q = ((UInt8.ofNat (48 + a / 10 % 10)).toNat : Int) := ⟨_, rfl⟩
  have hw2 : (a : Int) / 10 % 10 + 48 = q2 := by rw [hq2, ofNat_toNat _ (by omega)]; omega
  obtain ⟨q3, hq3⟩ : ∃ q : Int, q = ((UInt8.ofNat (48 + a % 10)).toNat : Int) := ⟨_, rfl⟩
  have hw3 : (a : Int) % 10 + 48 = q3 := by rw [hq3, ofNat_toNat _ (by omega)]; omega
  have CS : Hid (#[.int .u8 q1, .int .u8 q2, .int .u8 q3] = (([UInt8.ofNat (48 + a / 100), UInt8.ofNat (48 + a / 10 % 10), UInt8.ofNat (48 + a % 10)] : List UInt8).map encB).toArray) := Lib.hid (by simp [encB, hq1, hq2, hq3])
  have HEX := Lib.hid hex
  obtain ⟨m1, hm1⟩ : ∃ m, (([] : List UInt8) ++ [x0]).length = m := ⟨_, rfl⟩
  obtain ⟨g1, c1, W1, hr1, row1⟩ := hrow.push' 34 [x0] 1 #[.int .u8 (x0.toNat : Int)] m1 rfl (by first | rfl | exact CS.out) (by decide) (by simp only [List.length_nil]; omega) hm1
  have HR1 := Lib.hid hr1
  have tok1 : True := trivial
  clear hr1 hm1
  obtain ⟨m5, hm5⟩ : ∃ m, (([] ++ [x0] : List UInt8) ++ [101]).length = m := ⟨_, rfl⟩
  obtain ⟨g5, c5, W5, hr5, row5⟩ := row1.push' 34 [101] 1 #[.int .u8 101] m5 rfl (by first | rfl | exact CS.out) (by decide) (by simp only [List.length_append, List.length_cons, List.length_nil]; omega) hm5
  have HR5 := Lib.hid hr5
  have tok5 : True := trivial
  clear hr5 hm5
  obtain ⟨m6, hm6⟩ : ∃ m, (([] ++ [x0] ++ [101] : List UInt8) ++ [45]).length = m := ⟨_, rfl⟩
  obtain ⟨g6, c6, W6, hr6, row6⟩ := row5.push' 34 [45] 1 #[.int .u8 45] m6 rfl (by first | rfl | exact CS.out) (by decide) (by simp only [List.length_append, List.length_cons, List.length_nil]; omega) hm6
  have HR6 := Lib.hid hr6
  have tok6 : True := trivial
  clear hr6 hm6
  obtain ⟨m7, hm7⟩ : ∃ m, (([] ++ [x0] ++ [101] ++ [45] : List UInt8) ++ [UInt8.ofNat (48 + a / 100), UInt8.ofNat (48 + a / 10 % 10), UInt8.ofNat (48 + a % 10)]).length = m := ⟨_, rfl⟩
  obtain ⟨g7, c7, W7, hr7, row7⟩ := row6.push' 34 [UInt8.ofNat (48 + a / 100), UInt8.ofNat (48 + a / 10 % 10), UInt8.ofNat (48 + a % 10)] 3 #[.int .u8 q1, .int .u8 q2, .int .u8 q3] m7 rfl (by first | rfl | exact CS.out) (by decide) (by simp only [List.length_append, List.length_cons, List.length_nil]; omega) hm7
  have HR7 := Lib.hid hr7
  have tok7 : True := trivial
  clear hr7 hm7
  have HROW : Hid (Row base S W0 W7 (.slice (some ⟨g7, 0, Option.none⟩) m7 c7) (x0 :: ((if 0 < xs.length then 46 :: xs else []) ++ 101 :: expB x))) := Lib.hid (by
    have := row7
    rw [HEX.out]
    obtain rfl : xs = [] := List.eq_nil_of_length_eq_zero hn
    simpa using this)
  clear row1 row5 row6 row7 hex hcell hrow hq1 hq2 hq3 CS HEX
  generalize (x0 :: ((if 0 < xs.length then 46 :: xs else []) ++ 101 :: expB x)) = RES at *
  rw [hn]
  clear hn hxs
  subst hx
  have hlt : decide (-(a : Int) < 0) = true := by rw [decide_eq_true_eq]; omega
  go_enter Tryz.func124, Tryz.ntmps124
  go_wp2_with (first | (at_builtin; have tk := tok1; refine Lib.wpList_append_run _ rfl _ _ _ _ rfl _ _ rfl rfl _ _ HR1.out ?_; clear tok1 tk) | (at_builtin; have tk := tok5; refine Lib.wpList_append_run _ rfl _ _ _ _ rfl _ _ rfl rfl _ _ HR5.out ?_; clear tok5 tk) | (at_builtin; have tk := tok6; refine Lib.wpList_append_run _ rfl _ _ _ _ rfl _ _ rfl rfl _ _ HR6.out ?_; clear tok6 tk) | (at_builtin; have tk := tok7; refine Lib.wpList_append_run _ rfl _ _ _ _ rfl _ _ rfl rfl _ _ HR7.out ?_; clear tok7 tk) | fail)
  go_ret
  exact ⟨_, rfl, HROW.out⟩

set_option maxRecDepth 100000 in
set_option maxHeartbeats 8000000 in
theorem fmtE_mp0 (base b : Nat) (S : Nat → Prop) (x0 : UInt8) (xs : List UInt8) (x : Int) (a : Nat) (v : Value) (cap : Nat) (W0 w : World) (hrow : Row base S W0 w v []) (hS : S b) (hxs : xs.length ≤ 20) (hcap : 32 ≤ cap) (hcap2 : cap ≤ 1000)
    (hcell : ∀ j u, (x0 :: xs)[j]? = some u → W0.cell? ⟨b, j, Option.none⟩ = some (encB u)) (hn : ¬ xs.length = 0) (hx : x = (a : Int)) (ha1 : a < 10) (ha2 : a < 10) :
    Calls Tryz.prog 124 #[v, .bool false, .slice (some ⟨b, 0, Option.none⟩) 32 cap, .int .i64 (x + 1), .int .i64 ((xs.length : Nat) + 1), .int .i64 (xs.length : Nat), .int .u8 101, .bool true] w (EPost base S W0 (x0 :: ((if 0 < xs.length then 46 :: xs else []) ++ 101 :: expB x))) := by
  have c0 : w.cell? ⟨b, 0, Option.none⟩ = some (.int .u8 (x0.toNat : Int)) := (World.cell?_of_block (w := W0) (a := ⟨b, 0, Option.none⟩) (hrow.keep b hS)).trans (hcell 0 x0 rfl)
  obtain ⟨va, vc, rfl⟩ := hrow.form
  have hex : expB x = 43 :: [48, UInt8.ofNat (48 + a)] := by
    have hna : x.natAbs = a := by omega
    unfold expB
    rw [hna, if_neg (show ¬ x < 0 by omega), if_pos (show a < 10 by omega)]
  obtain ⟨q1, hq1⟩ : ∃ q : Int, q = ((UInt8.ofNat (48 + a)).toNat : Int) := ⟨_, rfl⟩
  have hw1 : (a : Int) + 48 = q1 := by rw [hq1, ofNat_toNat _ (by omega)]; omega
  have CS : Hid (#[.int .u8 48, .int .u8 q1] = (([48, UInt8.ofNat (48 + a)] : List UInt8).map encB).toArray) := Lib.hid (by simp [encB, hq1])
  have HEX := Lib.hid hex
  obtain ⟨m1, hm1⟩ : ∃ m, (([] : List UInt8) ++ [x0]).length = m := ⟨_, rfl⟩
  obtain ⟨g1, c1, W1, hr1, row1⟩ := hrow.push' 34 [x0] 1 #[.int .u8 (x0.toNat : Int)] m1 rfl (by first | rfl | exact CS.out) (by decide) (by simp only [List.length_nil]; omega) hm1
  have HR1 := Lib.hid hr1
  have tok1 : True := trivial
  clear hr1 hm1
  obtain ⟨m2, hm2⟩ : ∃ m, (([] ++ [x0] : List UInt8) ++ [46]).length = m := ⟨_, rfl⟩
  obtain ⟨g2, c2, W2, hr2, row2⟩ := row1.push' 34 [46] 1 #[.int .u8 46] m2 rfl (by first | rfl | exact CS.out) (by decide) (by simp only [List.length_append, List.length_cons, List.length_nil]; omega) hm2
  have HR2 := Lib.hid hr2
  have tok2 : True := trivial
  clear hr2 hm2
  obtain ⟨m3, hm3⟩ : ∃ m, (([] ++ [x0] ++ [46] : List UInt8) ++ xs).length = m := ⟨_, rfl⟩
  obtain ⟨n, hxn⟩ : ∃ n, xs.length = n := ⟨_, rfl⟩
  obtain ⟨g3, c3, W3, hr3, row3⟩ := row2.more' 34 b 1 n (cap - 1) xs m3 hxn (fun j u hu => by
    rw [Nat.add_comm 1 j]
    exact (World.cell?_of_block (w := W0) (a := ⟨b, j + 1, Option.none⟩) (row2.keep b hS)).trans (hcell (j + 1) u (by simpa using hu))) (by omega) (by simp only [List.length_append, List.length_cons, List.length_nil]; omega) hm3
  have HR3 := Lib.hid hr3
  have tok3 : True := trivial
  clear hr3 hm3
  obtain ⟨m5, hm5⟩ : ∃ m, (([] ++ [x0] ++ [46] ++ xs : List UInt8) ++ [101]).length = m := ⟨_, rfl⟩
  obtain ⟨g5, c5, W5, hr5, row5⟩ := row3.push' 34 [101] 1 #[.int .u8 101] m5 rfl (by first | rfl | exact CS.out) (by decide) (by simp only [List.length_append, List.length_cons, List.length_nil]; omega) hm5
  have HR5 := Lib.hid hr5
  have tok5 : True := trivial
  clear hr5 hm5
  obtain ⟨m6, hm6⟩ : ∃ m, (([] ++ [x0] ++ [46] ++ xs ++ [101] : List UInt8) ++ [43]).length = m := ⟨_, rfl⟩
  obtain ⟨g6, c6, W6, hr6, row6⟩ := row5.push' 34 [43] 1 #[.int .u8 43] m6 rfl (by first | rfl | exact CS.out) (by decide) (by simp only [List.length_append, List.length_cons, List.length_nil]; omega) hm6
  have HR6 := Lib.hid hr6
  have tok6 : True := trivial
  clear hr6 hm6
  obtain ⟨m7, hm7⟩ : ∃ m, (([] ++ [x0] ++ [46] ++ xs ++ [101] ++ [43] : List UInt8) ++ [48, UInt8.ofNat (48 + a)]).length = m := ⟨_, rfl⟩
  obtain ⟨g7, c7, W7, hr7, row7⟩ := row6.push' 34 [48, UInt8.ofNat (48 + a)] 2 #[.int .u8 48, .int .u8 q1] m7 rfl (by first | rfl | exact CS.out) (by decide) (by simp only [List.length_append, List.length_cons, List.length_nil]; omega) hm7
  have HR7 := Lib.hid hr7
  have tok7 : True := trivial
  clear hr7 hm7
  have HROW : Hid (Row base S W0 W7 (.slice (some ⟨g7, 0, Option.none⟩) m7 c7) (x0 :: ((if 0 < xs.length then 46 :: xs else []) ++ 101 :: expB x))) := Lib.hid (by
    have := row7
    rw [HEX.out]
    rw [if_pos (by omega)]
    simpa using this)
  clear row1 row2 row3 row5 row6 row7 hex hcell hrow hq1 CS HEX
  generalize (x0 :: ((if 0 < xs.length then 46 :: xs else []) ++ 101 :: expB x)) = RES at *
  have hn2 : 1 ≤ n := by omega
  have hn3 : n ≤ 20 := by omega
  rw [hxn]
  clear hn hxs hxn
  have hmin : min ((n : Int) + 1) ((n : Int) + 1) = (n : Int) + 1 := by simp
  subst hx
  have hlt : decide ((a : Int) < 0) = false := by rw [decide_eq_false_iff_not]; omega
  go_enter Tryz.func124, Tryz.ntmps124
  go_wp2_with (first | (at_builtin; have tk := tok1; refine Lib.wpList_append_run _ rfl _ _ _ _ rfl _ _ rfl rfl _ _ HR1.out ?_; clear tok1 tk) | (at_builtin; have tk := tok2; refine Lib.wpList_append_run _ rfl _ _ _ _ rfl _ _ rfl rfl _ _ HR2.out ?_; clear tok2 tk) | (at_builtin; have tk := tok3; refine Lib.wpList_append_run _ rfl _ _ _ _ rfl _ _ rfl rfl _ _ HR3.out ?_; clear tok3 tk) | fail)
  go_loop [0, 114] (fun d t => d = .slice (some ⟨g3, 0, Option.none⟩) m3 c3 ∧ t = .int .i64 0) (fun _ _ => 0)
  case atStart => exact ⟨rfl, rfl⟩
  case round =>
    obtain ⟨rfl, rfl⟩ := hrel
    go_wp2_with (first | (at_builtin; have tk := tok5; refine Lib.wpList_append_run _ rfl _ _ _ _ rfl _ _ rfl rfl _ _ HR5.out ?_; clear tok5 tk) | (at_builtin; have tk := tok6; refine Lib.wpList_append_run _ rfl _ _ _ _ rfl _ _ rfl rfl _ _ HR6.out ?_; clear tok6 tk) | (at_builtin; have tk := tok7; refine Lib.wpList_append_run _ rfl _ _ _ _ rfl _ _ rfl rfl _ _ HR7.out ?_; clear tok7 tk) | fail)
    go_ret
    exact ⟨_, rfl, HROW.out⟩

set_option maxRecDepth 100000 in
set_option maxHeartbeats 8000000 in
theorem fmtE_mp1 (base b : Nat) (S : Nat → Prop) (x0 : UInt8) (xs : List UInt8) (x : Int) (a : Nat) (v : Value) (cap : Nat) (W0 w : World) (hrow : Row base S W0 w v []) (hS : S b) (hxs : xs.length ≤ 20) (hcap : 32 ≤ cap) (hcap2 : cap ≤ 1000)
    (hcell : ∀ j u, (x0 :: xs)[j]? = some u → W0.cell? ⟨b, j, Option.none⟩ = some (encB u)) (hn : ¬ xs.length = 0) (hx : x = (a : Int)) (ha1 : 10 ≤ a) (ha2 : a < 100) :
    Calls Tryz.prog 124 #[v, .bool false, .slice (some ⟨b, 0, Option.none⟩) 32 cap, .int .i64 (x + 1), .int .i64 ((xs.length : Nat) + 1), .int .i64 (xs.length : Nat), .int .u8 101, .bool true] w (EPost base S W0 (x0 :: ((if 0 < xs.length then 46 :: xs else []) ++ 101 :: expB x))) := by
  have c0 : w.cell? ⟨b, 0, Option.none⟩ = some (.int .u8 (x0.toNat : Int)) := (World.cell?_of_block (w := W0) (a := ⟨b, 0, Option.none⟩) (hrow.keep b hS)).trans (hcell 0 x0 rfl)
  obtain ⟨va, vc, rfl⟩ := hrow.form
  have hex : expB x = 43 :: [UInt8.ofNat (48 + a / 10), UInt8.ofNat (48 + a % 10)] := by
    have hna : x.natAbs = a := by omega
    unfold expB
    rw [hna, if_neg (show ¬ x < 0 by omega), if_neg (show ¬ a < 10 by omega), if_pos (show a < 100 by omega)]
  obtain ⟨q1, hq1⟩ : ∃ q : Int, q = ((UInt8.ofNat (48 + a / 10)).toNat : Int) := ⟨_, rfl⟩
  have hw1 : (a : Int) / 10 + 48 = q1 := by rw [hq1, ofNat_toNat _ (by omega)]; omega
  obtain ⟨q2, hq2⟩ : ∃ q : Int, q = ((UInt8.ofNat (48 + a % 10)).toNat : Int) := ⟨_, rfl⟩
  have hw2 : (a : Int) % 10 + 48 = q2 := by rw [hq2, ofNat_toNat _ (by omega)]; omega
  have CS : Hid (#[.int .u8 q1, .int .u8 q2] = (([UInt8.ofNat (48 + a / 10), UInt8.ofNat (48 + a % 10)] : List UInt8).map encB).toArray) := Lib.hid (by simp [encB, hq1, hq2])
  have HEX := Lib.hid hex
  obtain ⟨m1, hm1⟩ : ∃ m, (([] : List UInt8) ++ [x0]).length = m := ⟨_, rfl⟩
  obtain ⟨g1, c1, W1, hr1, row1⟩ := hrow.push' 34 [x0] 1 #[.int .u8 (x0.toNat : Int)] m1 rfl (by first | rfl | exact CS.out) (by decide) (by simp only [List.length_nil]; omega) hm1
  have HR1 := Lib.hid hr1
  have tok1 : True := trivial
  clear hr1 hm1
  obtain ⟨m2, hm2⟩ : ∃ m, (([] ++ [x0] : List UInt8) ++ [46]).length = m := ⟨_, rfl⟩
  obtain ⟨g2, c2, W2, hr2, row2⟩ := row1.push' 34 [46] 1 #[.int .u8 46] m2 rfl (by first | rfl | exact CS.out) (by decide) (by simp only [List.length_append, List.length_cons, List.length_nil]; omega) hm2
  have HR2 := Lib.hid hr2
  have tok2 : True := trivial
  clear hr2 hm2
  obtain ⟨m3, hm3⟩ : ∃ m, (([] ++ [x0] ++ [46] : List UInt8) ++ xs).length = m := ⟨_, rfl⟩
  obtain ⟨n, hxn⟩ : ∃ n, xs.length = n := ⟨_, rfl⟩
  obtain ⟨g3, c3, W3, hr3, row3⟩ := row2.more' 34 b 1 n (cap - 1) xs m3 hxn (fun j u hu => by
    rw [Nat.add_comm 1 j]
    exact (World.cell?_of_block (w := W0) (a := ⟨b, j + 1, Option.none⟩) (row2.keep b hS)).trans (hcell (j + 1) u (by simpa using hu))) (by omega) (by simp only [List.length_append, List.length_cons, List.length_nil]; omega) hm3
  have HR3 := Lib.hid hr3
  have tok3 : True := trivial
  clear hr3 hm3
  obtain ⟨m5, hm5⟩ : ∃ m, (([] ++ [x0] ++ [46] ++ xs : List UInt8) ++ [101]).length = m := ⟨_, rfl⟩
  obtain ⟨g5, c5, W5, hr5, row5⟩ := row3.push' 34 [101] 1 #[.int .u8 101] m5 rfl (by first | rfl | exact CS.out) (by decide) (by simp only [List.length_append, List.length_cons, List.length_nil]; omega) hm5
  have HR5 := Lib.hid hr5
  have tok5 : True := trivial
  clear hr5 hm5
  obtain ⟨m6, hm6⟩ : ∃ m, (([] ++ [x0] ++ [46] ++ xs ++ [101] : List UInt8) ++ [43]).length = m := ⟨_, rfl⟩
  obtain ⟨g6, c6, W6, hr6, row6⟩ := row5.push' 34 [43] 1 #[.int .u8 43] m6 rfl (by first | rfl | exact CS.out) (by decide) (by simp only [List.length_append, List.length_cons, List.length_nil]; omega) hm6
  have HR6 := Lib.hid hr6
  have tok6 : True := trivial
  clear hr6 hm6
  obtain ⟨m7, hm7⟩ : ∃ m, (([] ++ [x0] ++ [46] ++ xs ++ [101] ++ [43] : List UInt8) ++ [UInt8.ofNat (48 + a / 10), UInt8.ofNat (48 + a % 10)]).length = m := ⟨_, rfl⟩
  obtain ⟨g7, c7, W7, hr7, row7⟩ := row6.push' 34 [UInt8.ofNat (48 + a / 10), UInt8.ofNat (48 + a % 10)] 2 #[.int .u8 q1, .int .u8 q2] m7 rfl (by first | rfl | exact CS.out) (by decide) (by simp only [List.length_append, List.length_cons, List.length_nil]; omega) hm7
  have HR7 := Lib.hid hr7
  have tok7 : True := trivial
  clear hr7 hm7
  have HROW : Hid (Row base S W0 W7 (.slice (some ⟨g7, 0, Option.none⟩) m7 c7) (x0 :: ((if 0 < xs.length then 46 :: xs else []) ++ 101 :: expB x))) := Lib.hid (by
    have := row7
    rw [HEX.out]
    rw [if_pos (by omega)]
    simpa using this)
  clear row1 row2 row3 row5 row6 row7 hex hcell hrow hq1 hq2 CS HEX
  generalize (x0 :: ((if 0 < xs.length then 46 :: xs else []) ++ 101 :: expB x)) = RES at *
  have hn2 : 1 ≤ n := by omega
  have hn3 : n ≤ 20 := by omega
  rw [hxn]
  clear hn hxs hxn
  have hmin : min ((n : Int) + 1) ((n : Int) + 1) = (n : Int) + 1 := by simp
  subst hx
  have hlt : decide ((a : Int) < 0) = false := by rw [decide_eq_false_iff_not]; omega
  go_enter Tryz.func124, Tryz.ntmps124
  go_wp2_with (first | (at_builtin; have tk := tok1; refine Lib.wpList_append_run _ rfl _ _ _ _ rfl _ _ rfl rfl _ _ HR1.out ?_; clear tok1 tk) | (at_builtin; have tk := tok2; refine Lib.wpList_append_run _ rfl _ _ _ _ rfl _ _ rfl rfl _ _ HR2.out ?_; clear tok2 tk) | (at_builtin; have tk := tok3; refine Lib.wpList_append_run _ rfl _ _ _ _ rfl _ _ rfl rfl _ _ HR3.out ?_; clear tok3 tk) | fail)
  go_loop [0, 114] (fun d t => d = .slice (some ⟨g3, 0, Option.none⟩) m3 c3 ∧ t = .int .i64 0) (fun _ _ => 0)
  case atStart => exact ⟨rfl, rfl⟩
  case round =>
    obtain ⟨rfl, rfl⟩ := hrel
    go_wp2_with (first | (at_builtin; have tk := tok5; refine Lib.wpList_append_run _ rfl _ _ _ _ rfl _ _ rfl rfl _ _ HR5.out ?_; clear tok5 tk) | (at_builtin; have tk := tok6; refine Lib.wpList_append_run _ rfl _ _ _ _ rfl _ _ rfl rfl _ _ HR6.out ?_; clear tok6 tk) | (at_builtin; have tk := tok7; refine Lib.wpList_append_run _ rfl _ _ _ _ rfl _ _ rfl rfl _ _ HR7.out ?_; clear tok7 tk) | fail)
    go_ret
    exact ⟨_, rfl, HROW.out⟩

set_option maxRecDepth 100000 in
set_option maxHeartbeats 8000000 in
theorem fmtE_mp2 (base b : Nat) (S : Nat → Prop) (x0 : UInt8) (xs : List UInt8) (x : Int) (a : Nat) (v : Value) (cap : Nat) (W0 w : World) (hrow : Row base S W0 w v []) (hS : S b) (hxs : xs.length ≤ 20) (hcap : 32 ≤ cap) (hcap2 : cap ≤ 1000)
    (hcell : ∀ j u, (x0 :: xs)[j]? = some u → W0.cell? ⟨b, j, Option.none⟩ = some (encB u)) (hn : ¬ xs.length = 0) (hx : x = (a : Int)) (ha1 : 100 ≤ a) (ha2 : a < 400) :
    Calls Tryz.prog 124 #[v, .bool false, .slice (some ⟨b, 0, Option.none⟩) 32 cap, .int .i64 (x + 1), .int .i64 ((xs.length : Nat) + 1), .int .i64 (xs.length : Nat), .int .u8 101, .bool true] w (EPost base S W0 (x0 :: ((if 0 < xs.length then 46 :: xs else []) ++ 101 :: expB x))) := by
  have c0 : w.cell? ⟨b, 0, Option.none⟩ = some (.int .u8 (x0.toNat : Int)) := (World.cell?_of_block (w := W0) (a := ⟨b, 0, Option.none⟩) (hrow.keep b hS)).trans (hcell 0 x0 rfl)
  obtain ⟨va, vc, rfl⟩ := hrow.form
  have hex : expB x = 43 :: [UInt8.ofNat (48 + a / 100), UInt8.ofNat (48 + a / 10 % 10), UInt8.ofNat (48 + a % 10)] := by
    have hna : x.natAbs = a := by omega
    unfold expB
    rw [hna, if_neg (show ¬ x < 0 by omega), if_neg (show ¬ a < 10 by omega), if_neg (show ¬ a < 100 by omega)]
  obtain ⟨q1, hq1⟩ : ∃ q : Int, q = ((UInt8.ofNat (48 + a / 100)).toNat : Int) := ⟨_, rfl⟩
  have hw1 : (a : Int) / 100 + 48 = q1 := by rw [hq1, ofNat_toNat _ (by omega)]; omega
  obtain ⟨q2, hq2⟩ : ∃ q : Int, q = ((UInt8.ofNat (48 + a / 10 % 10)).toNat : Int) := ⟨_, rfl⟩
  have hw2 : (a : Int) / 10 % 10 + 48 = q2 := by rw [hq2, ofNat_toNat _ (by omega)]; omega
  obtain ⟨q3, hq3⟩ : ∃ q : Int, q = ((UInt8.ofNat (48 + a % 10)).toNat : Int) := ⟨_, rfl⟩
  have hw3 : (a : Int) % 10 + 48 = q3 := by rw [hq3, ofNat_toNat _ (by omega)]; omega
  have CS : Hid (#[.int .u8 q1, .int .u8 q2, .int .u8 q3] = (([UInt8.ofNat (48 + a / 100), UInt8.ofNat (48 + a / 10 % 10), UInt8.ofNat (48 + a % 10)] : List UInt8).map encB).toArray) := Lib.hid (by simp [encB, hq1, hq2, hq3])
  have HEX := Lib.hid hex
  obtain ⟨m1, hm1⟩ : ∃ m, (([] : List UInt8) ++ [x0]).length = m := ⟨_, rfl⟩
  obtain ⟨g1, c1, W1, hr1, row1⟩ := hrow.push' 34 [x0] 1 #[.int .u8 (x0.toNat : Int)] m1 rfl (by first | rfl | exact CS.out) (by decide) (by simp only [List.length_nil]; omega) hm1
  have HR1 := Lib.hid hr1
  have tok1 : True := trivial
  clear hr1 hm1
  obtain ⟨m2, hm2⟩ : ∃ m, (([] ++ [x0] : List UInt8) ++ [46]).length = m := ⟨_, rfl⟩
  obtain ⟨g2, c2, W2, hr2, row2⟩ := row1.push' 34 [46] 1 #[.int .u8 46] m2 rfl (by first | rfl | exact CS.out) (by decide) (by simp only [List.length_append, List.length_cons, List.length_nil]; omega) hm2
  have HR2 := Lib.hid hr2
  have tok2 : True := trivial
  clear hr2 hm2
  obtain ⟨m3, hm3⟩ : ∃ m, (([] ++ [x0] ++ [46] : List UInt8) ++ xs).length = m := ⟨_, rfl⟩
  obtain ⟨n, hxn⟩ : ∃ n, xs.length = n := ⟨_, rfl⟩
  obtain ⟨g3, c3, W3, hr3, row3⟩ := row2.more' 34 b 1 n (cap - 1) xs m3 hxn (fun j u hu => by
    rw [Nat.add_comm 1 j]
    exact (World.cell?_of_block (w := W0) (a := ⟨b, j + 1, Option.none⟩) (row2.keep b hS)).trans (hcell (j + 1) u (by simpa using hu))) (by omega) (by simp only [List.length_append, List.length_cons, List.length_nil]; omega) hm3
  have HR3 := Lib.hid hr3
  have tok3 : True := trivial
  clear hr3 hm3
  obtain ⟨m5, hm5⟩ : ∃ m, (([] ++ [x0] ++ [46] ++ xs : List UInt8) ++ [101]).length = m := ⟨_, rfl⟩
  obtain ⟨g5, c5, W5, hr5, row5⟩ := row3.push' 34 [101] 1 #[.int .u8 101] m5 rfl (by first | rfl | exact CS.out) (by decide) (by simp only [List.length_append, List.length_cons, List.length_nil]; omega) hm5
  have HR5 := Lib.hid hr5
  have tok5 : True := trivial
  clear hr5 hm5
  obtain ⟨m6, hm6⟩ : ∃ m, (([] ++ [x0] ++ [46] ++ xs ++ [101] : List UInt8) ++ [43]).length = m := ⟨_, rfl⟩
  obtain ⟨g6, c6, W6, hr6, row6⟩ := row5.push' 34 [43] 1 #[.int .u8 43] m6 rfl (by first | rfl | exact CS.out) (by decide) (by simp only [List.length_append, List.length_cons, List.length_nil]; omega) hm6
  have HR6 := Lib.hid hr6
  have tok6 : True := trivial
  clear hr6 hm6
  obtain ⟨m7, hm7⟩ : ∃ m, (([] ++ [x0] ++ [46] ++ xs ++ [101] ++ [43] : List UInt8) ++ [UInt8.ofNat (48 + a / 100), UInt8.ofNat (48 + a / 10 % 10), UInt8.ofNat (48 + a % 10)]).length = m := ⟨_, rfl⟩
  obtain ⟨g7, c7, W7, hr7, row7⟩ := row6.push' 34 [UInt8.ofNat (48 + a / 100), UInt8.ofNat (48 + a / 10 % 10), UInt8.ofNat (48 + a % 10)] 3 #[.int .u8 q1, .int .u8 q2, .int .u8 q3] m7 rfl (by first | rfl | exact CS.out) (by decide) (by simp only [List.length_append, List.length_cons, List.length_nil]; omega) hm7
  have HR7 := Lib.hid hr7
  have tok7 : True := trivial
  clear hr7 hm7
  have HROW : Hid (Row base S W0 W7 (.slice (some ⟨g7, 0, Option.none⟩) m7 c7) (x0 :: ((if 0 < xs.length then 46 :: xs else []) ++ 101 :: expB x))) := Lib.hid (by
    have := row7
    rw [HEX.out]
    rw [if_pos (by omega)]
    simpa using this)
  clear row1 row2 row3 row5 row6 row7 hex hcell hrow hq1 hq2 hq3 CS HEX
  generalize (x0 :: ((if 0 < xs.length then 46 :: xs else []) ++ 101 :: expB x)) = RES at *
  have hn2 : 1 ≤ n := by omega
  have hn3 : n ≤ 20 := by omega
  rw [hxn]
  clear hn hxs hxn
  have hmin : min ((n : Int) + 1) ((n : Int) + 1) = (n : Int) + 1 := by simp
  subst hx
  have hlt : decide ((a : Int) < 0) = false := by rw [decide_eq_false_iff_not]; omega
  go_enter Tryz.func124, Tryz.ntmps124
  go_wp2_with (first | (at_builtin; have tk := tok1; refine Lib.wpList_append_run _ rfl _ _ _ _ rfl _ _ rfl rfl _ _ HR1.out ?_; clear tok1 tk) | (at_builtin; have tk := tok2; refine Lib.wpList_append_run _ rfl _ _ _ _ rfl _ _ rfl rfl _ _ HR2.out ?_; clear tok2 tk) | (at_builtin; have tk := tok3; refine Lib.wpList_append_run _ rfl _ _ _ _ rfl _ _ rfl rfl _ _ HR3.out ?_; clear tok3 tk) | fail)
  go_loop [0, 114] (fun d t => d = .slice (some ⟨g3, 0, Option.none⟩) m3 c3 ∧ t = .int .i64 0) (fun _ _ => 0)
  case atStart => exact ⟨rfl, rfl⟩
  case round =>
    obtain ⟨rfl, rfl⟩ := hrel
    go_wp2_with (first | (at_builtin; have tk := tok5; refine Lib.wpList_append_run _ rfl _ _ _ _ rfl _ _ rfl rfl _ _ HR5.out ?_; clear tok5 tk) | (at_builtin; have tk := tok6; refine Lib.wpList_append_run _ rfl _ _ _ _ rfl _ _ rfl rfl _ _ HR6.out ?_; clear tok6 tk) | (at_builtin; have tk := tok7; refine Lib.wpList_append_run _ rfl _ _ _ _ rfl _ _ rfl rfl _ _ HR7.out ?_; clear tok7 tk) | fail)
    go_ret
    exact ⟨_, rfl, HROW.out⟩

set_option maxRecDepth 100000 in
set_option maxHeartbeats 8000000 in
theorem fmtE_mn0 (base b : Nat) (S : Nat → Prop) (x0 : UInt8) (xs : List UInt8) (x : Int) (a : Nat) (v : Value) (cap : Nat) (W0 w : World) (hrow : Row base S W0 w v []) (hS : S b) (hxs : xs.length ≤ 20) (hcap : 32 ≤ cap) (hcap2 : cap ≤ 1000)
    (hcell : ∀ j u, (x0 :: xs)[j]? = some u → W0.cell? ⟨b, j, Option.none⟩ = some (encB u)) (hn : ¬ xs.length = 0) (hx : x = -(a : Int)) (ha0 : 0 < a) (ha1 : a < 10) (ha2 : a < 10) :
    Calls Tryz.prog 124 #[v, .bool false, .slice (some ⟨b, 0, Option.none⟩) 32 cap, .int .i64 (x + 1), .int .i64 ((xs.length : Nat) + 1), .int .i64 (xs.length : Nat), .int .u8 101, .bool true] w (EPost base S W0 (x0 :: ((if 0 < xs.length then 46 :: xs else []) ++ 101 :: expB x))) := by
  have c0 : w.cell? ⟨b, 0, Option.none⟩ = some (.int .u8 (x0.toNat : Int)) := (World.cell?_of_block (w := W0) (a := ⟨b, 0, Option.none⟩) (hrow.keep b hS)).trans (hcell 0 x0 rfl)
  obtain ⟨va, vc, rfl⟩ := hrow.form
  have hex : expB x = 45 :: [48, UInt8.ofNat (48 + a)] := by
    have hna : x.natAbs = a := by omega
    unfold expB
    rw [hna, if_pos (show x < 0 by omega), if_pos (show a < 10 by omega)]
  obtain ⟨q1, hq1⟩ : ∃ q : Int, q = ((UInt8.ofNat (48 + a)).toNat : Int) := ⟨_, rfl⟩
  have hw1 : (a : Int) + 48 = q1 := by rw [hq1, ofNat_toNat _ (by omega)]; omega
  have CS : Hid (#[.int .u8 48, .int .u8 q1] = (([48, UInt8.ofNat (48 + a)] : List UInt8).map encB).toArray) := Lib.hid (by simp [encB, hq1])
  have HEX := Lib.hid hex
  obtain ⟨m1, hm1⟩ : ∃ m, (([] : List UInt8) ++ [x0]).length = m := ⟨_, rfl⟩
  obtain ⟨g1, c1, W1, hr1, row1⟩ := hrow.push' 34 [x0] 1 #[.int .u8 (x0.toNat : Int)] m1 rfl (by first | rfl | exact CS.out) (by decide) (by simp only [List.length_nil]; omega) hm1
  have HR1 := Lib.hid hr1
  have tok1 : True := trivial
  clear hr1 hm1
  obtain ⟨m2, hm2⟩ : ∃ m, (([] ++ [x0] : List UInt8) ++ [46]).length = m := ⟨_, rfl⟩
  obtain ⟨g2, c2, W2, hr2, row2⟩ := row1.push' 34 [46] 1 #[.int .u8 46] m2 rfl (by first | rfl | exact CS.out) (by decide) (by simp only [List.length_append, List.length_cons, List.length_nil]; omega) hm2
  have HR2 := Lib.hid hr2
  have tok2 : True := trivial
  clear hr2 hm2
  obtain ⟨m3, hm3⟩ : ∃ m, (([] ++ [x0] ++ [46] : List UInt8) ++ xs).length = m := ⟨_, rfl⟩
  obtain ⟨n, hxn⟩ : ∃ n, xs.length = n := ⟨_, rfl⟩
  obtain ⟨g3, c3, W3, hr3, row3⟩ := row2.more' 34 b 1 n (cap - 1) xs m3 hxn (fun j u hu => by
    rw [Nat.add_comm 1 j]
    exact (World.cell?_of_block (w := W0) (a := ⟨b, j + 1, Option.none⟩) (row2.keep b hS)).trans (hcell (j + 1) u (by simpa using hu))) (by omega) (by simp only [List.length_append, List.length_cons, List.length_nil]; omega) hm3
  have HR3 := Lib.hid hr3
  have tok3 : True := trivial
  clear hr3 hm3
  obtain ⟨m5, hm5⟩ : ∃ m, (([] ++ [x0] ++ [46] ++ xs : List UInt8) ++ [101]).length = m := ⟨_, rfl⟩
  obtain ⟨g5, c5, W5, hr5, row5⟩ := row3.push' 34 [101] 1 #[.int .u8 101] m5 rfl (by first | rfl | exact CS.out) (by decide) (by simp only [List.length_append, List.length_cons, List.length_nil]; omega) hm5
  have HR5 := Lib.hid hr5
  have tok5 : True := trivial
  clear hr5 hm5
  obtain ⟨m6, hm6⟩ : ∃ m, (([] ++ [x0] ++ [46] ++ xs ++ [101] : List UInt8) ++ [45]).length = m := ⟨_, rfl⟩
  obtain ⟨g6, c6, W6, hr6, row6⟩ := row5.push' 34 [45] 1 #[.int .u8 45] m6 rfl (by first | rfl | exact CS.out) (by decide) (by simp only [List.length_append, List.length_cons, List.length_nil]; omega) hm6
  have HR6 := Lib.hid hr6
  have tok6 : True := trivial
  clear hr6 hm6
  obtain ⟨m7, hm7⟩ : ∃ m, (([] ++ [x0] ++ [46] ++ xs ++ [101] ++ [45] : List UInt8) ++ [48, UInt8.ofNat (48 + a)]).length = m := ⟨_, rfl⟩
  obtain ⟨g7, c7, W7, hr7, row7⟩ := row6.push' 34 [48, UInt8.ofNat (48 + a)] 2 #[.int .u8 48, .int .u8 q1] m7 rfl (by first | rfl | exact CS.out) (by decide) (by simp only [List.length_append, List.length_cons, List.length_nil]; omega) hm7
  have HR7 := Lib.hid hr7
  have tok7 : True := trivial
  clear hr7 hm7
  have HROW : Hid (Row base S W0 W7 (.slice (some ⟨g7, 0, Option.none⟩) m7 c7) (x0 :: ((if 0 < xs.length then 46 :: xs else []) ++ 101 :: expB x))) := Lib.hid (by
    have := row7
    rw [HEX.out]
    rw [if_pos (by omega)]
    simpa using this)
  clear row1 row2 row3 row5 row6 row7 hex hcell hrow hq1 CS HEX
  generalize (x0 :: ((if 0 < xs.length then 46 :: xs else []) ++ 101 :: expB x)) = RES at *
  have hn2 : 1 ≤ n := by omega
  have hn3 : n ≤ 20 := by omega
  rw [hxn]
  clear hn hxs hxn
  have hmin : min ((n : Int) + 1) ((n : Int) + 1) = (n : Int) + 1 := by simp
  subst hx
  have hlt : decide (-(a : Int) < 0) = true := by rw [decide_eq_true_eq]; omega
  go_enter Tryz.func124, Tryz.ntmps124
  go_wp2_with (first | (at_builtin; have tk := tok1; refine Lib.wpList_append_run _ rfl _ _ _ _ rfl _ _ rfl rfl _ _ HR1.out ?_; clear tok1 tk) | (at_builtin; have tk := tok2; refine Lib.wpList_append_run _ rfl _ _ _ _ rfl _ _ rfl rfl _ _ HR2.out ?_; clear tok2 tk) | (at_builtin; have tk := tok3; refine Lib.wpList_append_run _ rfl _ _ _ _ rfl _ _ rfl rfl _ _ HR3.out ?_; clear tok3 tk) | fail)
  go_loop [0, 114] (fun d t => d = .slice (some ⟨g3, 0, Option.none⟩) m3 c3 ∧ t = .int .i64 0) (fun _ _ => 0)
  case atStart => exact ⟨rfl, rfl⟩
  case round =>
    obtain ⟨rfl, rfl⟩ := hrel
    go_wp2_with (first | (at_builtin; have tk := tok5; refine Lib.wpList_append_run _ rfl _ _ _ _ rfl _ _ rfl rfl _ _ HR5.out ?_; clear tok5 tk) | (at_builtin; have tk := tok6; refine Lib.wpList_append_run _ rfl _ _ _ _ rfl _ _ rfl rfl _ _ HR6.out ?_; clear tok6 tk) | (at_builtin; have tk := tok7; refine Lib.wpList_append_run _ rfl _ _ _ _ rfl _ _ rfl rfl _ _ HR7.out ?_; clear tok7 tk) | fail)
    go_ret
    exact ⟨_, rfl, HROW.out⟩

set_option maxRecDepth 100000 in
set_option maxHeartbeats 8000000 in
theorem fmtE_mn1 (base b : Nat) (S : Nat → Prop) (x0 : UInt8) (xs : List UInt8) (x : Int) (a : Nat) (v : Value) (cap : Nat) (W0 w : World) (hrow : Row base S W0 w v []) (hS : S b) (hxs : xs.length ≤ 20) (hcap : 32 ≤ cap) (hcap2 : cap ≤ 1000)
    (hcell : ∀ j u, (x0 :: xs)[j]? = some u → W0.cell? ⟨b, j, Option.none⟩ = some (encB u)) (hn : ¬ xs.length = 0) (hx : x = -(a : Int)) (ha0 : 0 < a) (ha1 : 10 ≤ a) (ha2 : a < 100) :
    Calls Tryz.prog 124 #[v, .bool false, .slice (some ⟨b, 0, Option.none⟩) 32 cap, .int .i64 (x + 1), .int .i64 ((xs.length : Nat) + 1), .int .i64 (xs.length : Nat), .int .u8 101, .bool true] w (EPost base S W0 (x0 :: ((if 0 < xs.length then 46 :: xs else []) ++ 101 :: expB x))) := by
  have c0 : w.cell? ⟨b, 0, Option.none⟩ = some (.int .u8 (x0.toNat : Int)) := (World.cell?_of_block (w := W0) (a := ⟨b, 0, Option.none⟩) (hrow.keep b hS)).trans (hcell 0 x0 rfl)
  obtain ⟨va, vc, rfl⟩ := hrow.form
  have hex : expB x = 45 :: [UInt8.ofNat (48 + a / 10), UInt8.ofNat (48 + a % 10)] := by
    have hna : x.natAbs = a := by omega
    unfold expB
    rw [hna, if_pos (show x < 0 by omega), if_neg (show ¬ a < 10 by omega), if_pos (show a < 100 by omega)]
  obtain ⟨q1, hq1⟩ : ∃ q : Int, q = ((UInt8.ofNat (48 + a / 10)).toNat : Int) := ⟨_, rfl⟩
  have hw1 : (a : Int) / 10 + 48 = q1 := by rw [hq1, ofNat_toNat _ (by omega)]; omega
  obtain ⟨q2, hq2⟩ : ∃ q : Int, q = ((UInt8.ofNat (48 + a % 10)).toNat : Int) := ⟨_, rfl⟩
  have hw2 : (a : Int) % 10 + 48 = q2 := by rw [hq2, ofNat_toNat _ (by omega)]; omega
  have CS : Hid (#[.int .u8 q1, .int .u8 q2] = (([UInt8.ofNat (48 + a / 10), UInt8.ofNat (48 + a % 10)] : List UInt8).map encB).toArray) := Lib.hid (by simp [encB, hq1, hq2])
  have HEX := Lib.hid hex
  obtain ⟨m1, hm1⟩ : ∃ m, (([] : List UInt8) ++ [x0]).length = m := ⟨_, rfl⟩
  obtain ⟨g1, c1, W1, hr1, row1⟩ := hrow.push' 34 [x0] 1 #[.int .u8 (x0.toNat : Int)] m1 rfl (by first | rfl | exact CS.out) (by decide) (by simp only [List.length_nil]; omega) hm1
  have HR1 := Lib.hid hr1
  have tok1 : True := trivial
  clear hr1 hm1
  obtain ⟨m2, hm2⟩ : ∃ m, (([] ++ [x0] : List UInt8) ++ [46]).length = m := ⟨_, rfl⟩
  obtain ⟨g2, c2, W2, hr2, row2⟩ := row1.push' 34 [46] 1 #[.int .u8 46] m2 rfl (by first | rfl | exact CS.out) (by decide) (by simp only [List.length_append, List.length_cons, List.length_nil]; omega) hm2
  have HR2 := Lib.hid hr2
  have tok2 : True := trivial
  clear hr2 hm2
  obtain ⟨m3, hm3⟩ : ∃ m, (([] ++ [x0] ++ [46] : List UInt8) ++ xs).length = m := ⟨_, rfl⟩
  obtain ⟨n, hxn⟩ : ∃ n, xs.length = n := ⟨_, rfl⟩
  obtain ⟨g3, c3, W3, hr3, row3⟩ := row2.more' 34 b 1 n (cap - 1) xs m3 hxn (fun j u hu => by
    rw [Nat.add_comm 1 j]
    exact (World.cell?_of_block (w := W0) (a := ⟨b, j + 1, Option.none⟩) (row2.keep b hS)).trans (hcell (j + 1) u (by simpa using hu))) (by omega) (by simp only [List.length_append, List.length_cons, List.length_nil]; omega) hm3
  have HR3 := Lib.hid hr3
  have tok3 : True := trivial
  clear hr3 hm3
  obtain ⟨m5, hm5⟩ : ∃ m, (([] ++ [x0] ++ [46] ++ xs : List UInt8) ++ [101]).length = m := ⟨_, rfl⟩
  obtain ⟨g5, c5, W5, hr5, row5⟩ := row3.push' 34 [101] 1 #[.int .u8 101] m5 rfl (by first | rfl | exact CS.out) (by decide) (by simp only [List.length_append, List.length_cons, List.length_nil]; omega) hm5
  have HR5 := Lib.hid hr5
  have tok5 : True := trivial
  clear hr5 hm5
  obtain ⟨m6, hm6⟩ : ∃ m, (([] ++ [x0] ++ [46] ++ xs ++ [101] : List UInt8) ++ [45]).length = m := ⟨_, rfl⟩
  obtain ⟨g6, c6, W6, hr6, row6⟩ := row5.push' 34 [45] 1 #[.int .u8 45] m6 rfl (by first | rfl | exact CS.out) (by decide) (by simp only [List.length_append, List.length_cons, List.length_nil]; omega) hm6
  have HR6 := Lib.hid hr6
  have tok6 : True := trivial
  clear hr6 hm6
  obtain ⟨m7, hm7⟩ : ∃ m, (([] ++ [x0] ++ [46] ++ xs ++ [101] ++ [45] : List UInt8) ++ [UInt8.ofNat (48 + a / 10), UInt8.ofNat (48 + a % 10)]).length = m := ⟨_, rfl⟩
  obtain ⟨g7, c7, W7, hr7, row7⟩ := row6.push' 34 [UInt8.ofNat (48 + a / 10), UInt8.ofNat (48 + a % 10)] 2 #[.int .u8 q1, .int .u8 q2] m7 rfl (by first | rfl | exact CS.out) (by decide) (by simp only [List.length_append, List.length_cons, List.length_nil]; omega) hm7
  have HR7 := Lib.hid hr7
  have tok7 : True := trivial
  clear hr7 hm7
  have HROW : Hid (Row base S W0 W7 (.slice (some ⟨g7, 0, Option.none⟩) m7 c7) (x0 :: ((if 0 < xs.length then 46 :: xs else []) ++ 101 :: expB x))) := Lib.hid (by
    have := row7
    rw [HEX.out]
    rw [if_pos (by omega)]
    simpa using this)
  clear row1 row2 row3 row5 row6 row7 hex hcell hrow hq1 hq2 CS HEX
  generalize (x0 :: ((if 0 < xs.length then 46 :: xs else []) ++ 101 :: expB x)) = RES at *
  have hn2 : 1 ≤ n := by omega
  have hn3 : n ≤ 20 := by omega
  rw [hxn]
  clear hn hxs hxn
  have hmin : min ((n : Int) + 1) ((n : Int) + 1) = (n : Int) + 1 := by simp
  subst hx
  have hlt : decide (-(a : Int) < 0) = true := by rw [decide_eq_true_eq]; omega
  go_enter Tryz.func124, Tryz.ntmps124
  go_wp2_with (first | (at_builtin; have tk := tok1; refine Lib.wpList_append_run _ rfl _ _ _ _ rfl _ _ rfl rfl _ _ HR1.out ?_; clear tok1 tk) | (at_builtin; have tk := tok2; refine Lib.wpList_append_run _ rfl _ _ _ _ rfl _ _ rfl rfl _ _ HR2.out ?_; clear tok2 tk) | (at_builtin; have tk := tok3; refine Lib.wpList_append_run _ rfl _ _ _ _ rfl _ _ rfl rfl _ _ HR3.out ?_; clear tok3 tk) | fail)
  go_loop [0, 114] (fun d t => d = .slice (some ⟨g3, 0, Option.none⟩) m3 c3 ∧ t = .int .i64 0) (fun _ _ => 0)
  case atStart => exact ⟨rfl, rfl⟩
  case round =>
    obtain ⟨rfl, rfl⟩ := hrel
    go_wp2_with (first | (at_builtin; have tk := tok5; refine Lib.wpList_append_run _ rfl _ _ _ _ rfl _ _ rfl rfl _ _ HR5.out ?_; clear tok5 tk) | (at_builtin; have tk := tok6; refine Lib.wpList_append_run _ rfl _ _ _ _ rfl _ _ rfl rfl _ _ HR6.out ?_; clear tok6 tk) | (at_builtin; have tk := tok7; refine Lib.wpList_append_run _ rfl _ _ _ _ rfl _ _ rfl rfl _ _ HR7.out ?_; clear tok7 tk) | fail)
    go_ret
    exact ⟨_, rfl, HROW.out⟩

set_option maxRecDepth 100000 in
set_option maxHeartbeats 8000000 in
theorem fmtE_mn2 (base b : Nat) (S : Nat → Prop) (x0 : UInt8) (xs : List UInt8) (x : Int) (a : Nat) (v : Value) (cap : Nat) (W0 w : World) (hrow : Row base S W0 w v []) (hS : S b) (hxs : xs.length ≤ 20) (hcap : 32 ≤ cap) (hcap2 : cap ≤ 1000)
    (hcell : ∀ j u, (x0 :: xs)[j]? = some u → W0.cell? ⟨b, j, Option.none⟩ = some (encB u)) (hn : ¬ xs.length = 0) (hx : x = -(a : Int)) (ha0 : 0 < a) (ha1 : 100 ≤ a) (ha2 : a < 400) :
    Calls Tryz.prog 124 #[v, .bool false, .slice (some ⟨b, 0, Option.none⟩) 32 cap, .int .i64 (x + 1), .int .i64 ((xs.length : Nat) + 1), .int .i64 (xs.length : Nat), .int .u8 101, .bool true] w (EPost base S W0 (x0 :: ((if 0 < xs.length then 46 :: xs else []) ++ 101 :: expB x))) := by
  have c0 : w.cell? ⟨b, 0, Option.none⟩ = some (.int .u8 (x0.toNat : Int)) := (World.cell?_of_block (w := W0) (a := ⟨b, 0, Option.none⟩) (hrow.keep b hS)).trans (hcell 0 x0 rfl)
  obtain ⟨va, vc, rfl⟩ := hrow.form
  have hex : expB x = 45 :: [UInt8.ofNat (48 + a / 100), UInt8.ofNat (48 + a / 10 % 10), UInt8.ofNat (48 + a % 10)] := by
    have hna : x.natAbs = a := by omega
    unfold expB
    rw [hna, if_pos (show x < 0 by omega), if_neg (show ¬ a < 10 by omega), if_neg (show ¬ a < 100 by omega)]
  obtain ⟨q1, hq1⟩ : ∃ q : Int, q = ((UInt8.ofNat (48 + a / 100)).toNat : Int) := ⟨_, rfl⟩
  have hw1 : (a : Int) / 100 + 48 = q1 := by rw [hq1, ofNat_toNat _ (by omega)]; omega
  obtain ⟨q2, hq2⟩ : ∃ q : Int, q = ((UInt8.ofNat (48 + a / 10 % 10)).toNat : Int) := ⟨_, rfl⟩
  have hw2 : (a : Int) / 10 % 10 + 48 = q2 := by rw [hq2, ofNat_toNat _ (by omega)]; omega
  obtain ⟨q3, hq3⟩ : ∃ q : Int, q = ((UInt8.ofNat (48 + a % 10)).toNat : Int) := ⟨_, rfl⟩
  have hw3 : (a : Int) % 10 + 48 = q3 := by rw [hq3, ofNat_toNat _ (by omega)]; omega
  have CS : Hid (#[.int .u8 q1, .int .u8 q2, .int .u8 q3] = (([UInt8.ofNat (48 + a / 100), UInt8.ofNat (48 + a / 10 % 10), UInt8.ofNat (48 + a % 10)] : List UInt8).map encB).toArray) := Lib.hid (by simp [encB, hq1, hq2, hq3])
  have HEX := Lib.hid hex
  obtain ⟨m1, hm1⟩ : ∃ m, (([] : List UInt8) ++ [x0]).length = m := ⟨_, rfl⟩
  obtain ⟨g1, c1, W1, hr1, row1⟩ := hrow.push' 34 [x0] 1 #[.int .u8 (x0.toNat : Int)] m1 rfl (by first | rfl | exact CS.out) (by decide) (by simp only [List.length_nil]; omega) hm1
  have HR1 := Lib.hid hr1
  have tok1 : True := trivial
  clear hr1 hm1
  obtain ⟨m2, hm2⟩ : ∃ m, (([] ++ [x0] : List UInt8) ++ [46]).length = m := ⟨_, rfl⟩
  obtain ⟨g2, c2, W2, hr2, row2⟩ := row1.push' 34 [46] 1 #[.int .u8 46] m2 rfl (by first | rfl | exact CS.out) (by decide) (by simp only [List.length_append, List.length_cons, List.length_nil]; omega) hm2
  have HR2 := Lib.hid hr2
  have tok2 : True := trivial
  clear hr2 hm2
  obtain ⟨m3, hm3⟩ : ∃ m, (([] ++ [x0] ++ [46] : List UInt8) ++ xs).length = m := ⟨_, rfl⟩
  obtain ⟨n, hxn⟩ : ∃ n, xs.length = n := ⟨_, rfl⟩
  obtain ⟨g3, c3, W3, hr3, row3⟩ := row2.more' 34 b 1 n (cap - 1) xs m3 hxn (fun j u hu => by
    rw [Nat.add_comm 1 j]
    exact (World.cell?_of_block (w := W0) (a := ⟨b, j + 1, Option.none⟩) (row2.keep b hS)).trans (hcell (j + 1) u (by simpa using hu))) (by omega) (by simp only [List.length_append, List.length_cons, List.length_nil]; omega) hm3
  have HR3 := Lib.hid hr3
  have tok3 : True := trivial
  clear hr3 hm3
  obtain ⟨m5, hm5⟩ : ∃ m, (([] ++ [x0] ++ [46] ++ xs : List UInt8) ++ [101]).length = m := ⟨_, rfl⟩
  obtain ⟨g5, c5, W5, hr5, row5⟩ := row3.push' 34 [101] 1 #[.int .u8 101] m5 rfl (by first | rfl | exact CS.out) (by decide) (by simp only [List.length_append, List.length_cons, List.length_nil]; omega) hm5
  have HR5 := Lib.hid hr5
  have tok5 : True := trivial
  clear hr5 hm5
  obtain ⟨m6, hm6⟩ : ∃ m, (([] ++ [x0] ++ [46] ++ xs ++ [101] : List UInt8) ++ [45]).length = m := ⟨_, rfl⟩
  obtain ⟨g6, c6, W6, hr6, row6⟩ := row5.push' 34 [45] 1 #[.int .u8 45] m6 rfl (by first | rfl | exact CS.out) (by decide) (by simp only [List.length_append, List.length_cons, List.length_nil]; omega) hm6
  have HR6 := Lib.hid hr6
  have tok6 : True := trivial
  clear hr6 hm6
  obtain ⟨m7, hm7⟩ : ∃ m, (([] ++ [x0] ++ [46] ++ xs ++ [101] ++ [45] : List UInt8) ++ [UInt8.ofNat (48 + a / 100), UInt8.ofNat (48 + a / 10 % 10), UInt8.ofNat (48 + a % 10)]).length = m := ⟨_, rfl⟩
  obtain ⟨g7, c7, W7, hr7, row7⟩ := row6.push' 34 [UInt8.ofNat (48 + a / 100), UInt8.ofNat (48 + a / 10 % 10), UInt8.ofNat (48 + a % 10)] 3 #[.int .u8 q1, .int .u8 q2, .int .u8 q3] m7 rfl (by first | rfl | exact CS.out) (by decide) (by simp only [List.length_append, List.length_cons, List.length_nil]; omega) hm7
  have HR7 := Lib.hid hr7
  have tok7 : True := trivial
  clear hr7 hm7
  have HROW : Hid (Row base S W0 W7 (.slice (some ⟨g7, 0, Option.none⟩) m7 c7) (x0 :: ((if 0 < xs.length then 46 :: xs else []) ++ 101 :: expB x))) := Lib.hid (by
    have := row7
    rw [HEX.out]
    rw [if_pos (by omega)]
    simpa using this)
  clear row1 row2 row3 row5 row6 row7 hex hcell hrow hq1 hq2 hq3 CS HEX
  generalize (x0 :: ((if 0 < xs.length then 46 :: xs else []) ++ 101 :: expB x)) = RES at *
  have hn2 : 1 ≤ n := by omega
  have hn3 : n ≤ 20 := by omega
  rw [hxn]
  clear hn hxs hxn
  have hmin : min ((n : Int) + 1) ((n : Int) + 1) = (n : Int) + 1 := by simp
  subst hx
  have hlt : decide (-(a : Int) < 0) = true := by rw [decide_eq_true_eq]; omega
  go_enter Tryz.func124, Tryz.ntmps124
  go_wp2_with (first | (at_builtin; have tk := tok1; refine Lib.wpList_append_run _ rfl _ _ _ _ rfl _ _ rfl rfl _ _ HR1.out ?_; clear tok1 tk) | (at_builtin; have tk := tok2; refine Lib.wpList_append_run _ rfl _ _ _ _ rfl _ _ rfl rfl _ _ HR2.out ?_; clear tok2 tk) | (at_builtin; have tk := tok3; refine Lib.wpList_append_run _ rfl _ _ _ _ rfl _ _ rfl rfl _ _ HR3.out ?_; clear tok3 tk) | fail)
  go_loop [0, 114] (fun d t => d = .slice (some ⟨g3, 0, Option.none⟩) m3 c3 ∧ t = .int .i64 0) (fun _ _ => 0)
  case atStart => exact ⟨rfl, rfl⟩
  case round =>
    obtain ⟨rfl, rfl⟩ := hrel
    go_wp2_with (first | (at_builtin; have tk := tok5; refine Lib.wpList_append_run _ rfl _ _ _ _ rfl _ _ rfl rfl _ _ HR5.out ?_; clear tok5 tk) | (at_builtin; have tk := tok6; refine Lib.wpList_append_run _ rfl _ _ _ _ rfl _ _ rfl rfl _ _ HR6.out ?_; clear tok6 tk) | (at_builtin; have tk := tok7; refine Lib.wpList_append_run _ rfl _ _ _ _ rfl _ _ rfl rfl _ _ HR7.out ?_; clear tok7 tk) | fail)
    go_ret
    exact ⟨_, rfl, HROW.out⟩

theorem fmtE_any (base b : Nat) (S : Nat → Prop) (x0 : UInt8) (xs : List UInt8) (x : Int) (v : Value) (cap : Nat) (W0 w : World) (hrow : Row base S W0 w v []) (hS : S b) (hx1 : -400 < x) (hx2 : x < 400) (hxs : xs.length ≤ 20) (hcap : 32 ≤ cap) (hcap2 : cap ≤ 1000)
    (hcell : ∀ j u, (x0 :: xs)[j]? = some u → W0.cell? ⟨b, j, Option.none⟩ = some (encB u)) :
    Calls Tryz.prog 124 #[v, .bool false, .slice (some ⟨b, 0, Option.none⟩) 32 cap, .int .i64 (x + 1), .int .i64 ((xs.length : Nat) + 1), .int .i64 (xs.length : Nat), .int .u8 101, .bool true] w (EPost base S W0 (x0 :: ((if 0 < xs.length then 46 :: xs else []) ++ 101 :: expB x))) := by
  by_cases hn : xs.length = 0
  · by_cases hneg : x < 0
    · by_cases h0 : x.natAbs < 10
      · exact fmtE_on0 base b S x0 xs x x.natAbs v cap W0 w hrow hS hxs hcap hcap2 hcell hn (by omega) (by omega) (by omega) (by omega)
      by_cases h1 : x.natAbs < 100
      · exact fmtE_on1 base b S x0 xs x x.natAbs v cap W0 w hrow hS hxs hcap hcap2 hcell hn (by omega) (by omega) (by omega) (by omega)
      exact fmtE_on2 base b S x0 xs x x.natAbs v cap W0 w hrow hS hxs hcap hcap2 hcell hn (by omega) (by omega) (by omega) (by omega)
    · by_cases h0 : x.natAbs < 10
      · exact fmtE_op0 base b S x0 xs x x.natAbs v cap W0 w hrow hS hxs hcap hcap2 hcell hn (by omega) (by omega) (by omega)
      by_cases h1 : x.natAbs < 100
      · exact fmtE_op1 base b S x0 xs x x.natAbs v cap W0 w hrow hS hxs hcap hcap2 hcell hn (by omega) (by omega) (by omega)
      exact fmtE_op2 base b S x0 xs x x.natAbs v cap W0 w hrow hS hxs hcap hcap2 hcell hn (by omega) (by omega) (by omega)
  · by_cases hneg : x < 0
    · by_cases h0 : x.natAbs < 10
      · exact fmtE_mn0 base b S x0 xs x x.natAbs v cap W0 w hrow hS hxs hcap hcap2 hcell hn (by omega) (by omega) (by omega) (by omega)
      by_cases h1 : x.natAbs < 100
      · exact fmtE_mn1 base b S x0 xs x x.natAbs v cap W0 w hrow hS hxs hcap hcap2 hcell hn (by omega) (by omega) (by omega) (by omega)
      exact fmtE_mn2 base b S x0 xs x x.natAbs v cap W0 w hrow hS hxs hcap hcap2 hcell hn (by omega) (by omega) (by omega) (by omega)
    · by_cases h0 : x.natAbs < 10
      · exact fmtE_mp0 base b S x0 xs x x.natAbs v cap W0 w hrow hS hxs hcap hcap2 hcell hn (by omega) (by omega) (by omega)
      by_cases h1 : x.natAbs < 100
      · exact fmtE_mp1 base b S x0 xs x x.natAbs v cap W0 w hrow hS hxs hcap hcap2 hcell hn (by omega) (by omega) (by omega)
      exact fmtE_mp2 base b S x0 xs x x.natAbs v cap W0 w hrow hS hxs hcap hcap2 hcell hn (by omega) (by omega) (by omega)
end Go.Proofs.YtmhagigokgklaaaGreatDoor

/- The shortest digits: what the code computes, and that the walk's conditions are met. -/
namespace Go.Proofs.YtmhagigokgklaaaGreatDoor
open Go Go.RowKit

/-- the place of the last bit of a number whose highest bit is the 64th -/
def zN (e : Int) : Nat := if -1085 ≤ e then 11 else (-1074 - e).toNat
def skewB (m : Nat) (e : Int) : Bool := decide (m = 9223372036854775808) && decide (-1085 < e)
def ppN (sk : Bool) (e : Int) : Int := if sk then -skwN (e + 11) else -l10N (e + zN e)
def ssN (p e : Int) : Int := -(e + lpN p + 3)
def usN (p e : Int) (x : Nat) : Nat := uscN x (hiN (p + 348).toNat) (loN (p + 348).toNat) (2 ^ (ssN p e).toNat)

/-- the shortest digits of m * 2 ^ e, and their power of ten -/
def shortN (m : Nat) (e : Int) : Nat × Int :=
  let sk := skewB m e
  let p := ppN sk e
  let od := if sk then 0 else m / 2 ^ zN e % 2
  pick3 ((usN p e (if sk then m - 512 else m - 2 ^ (zN e - 1)) + od + 3) / 4) ((usN p e (m + 2 ^ (zN e - 1)) - od) / 4) ((usN p e m + 1 + usN p e m / 4 % 2) / 4) p

/-- all powers are in the table, and the shifts are small enough -/
def expOK (sk : Bool) (e : Int) : Bool := decide (-347 ≤ ppN sk e) && decide (ppN sk e ≤ 346) && decide (5 ≤ ssN (ppN sk e) e) && decide (ssN (ppN sk e) e ≤ 60)
def expAll : Nat → Int → Bool
  | 0, _ => true
  | n + 1, e => expOK false e && (expOK true e || decide (e ≤ -1085)) && expAll n (e + 1)
theorem expAll_get : ∀ (n : Nat) (e : Int), expAll n e = true → ∀ k : Nat, k < n → expOK false (e + k) = true ∧ (-1085 < e + k → expOK true (e + k) = true)
  | 0, _, _, _, h => by omega
  | n + 1, e, h, 0, _ => by
    simp only [expAll, Bool.and_eq_true, Bool.or_eq_true, decide_eq_true_eq] at h
    refine ⟨by simpa using h.1.1, fun h2 => ?_⟩
    rcases h.1.2 with h3 | h3
    · simpa using h3
    · simp at h2; omega
  | n + 1, e, h, k + 1, hk => by
    simp only [expAll, Bool.and_eq_true] at h
    have := expAll_get n (e + 1) h.2 k (by omega)
    rwa [show e + 1 + (k : Int) = e + ((k + 1 : Nat) : Int) from by push_cast; omega] at this
theorem exp_all : expAll 2200 (-1137) = true := by decide +kernel
theorem exp_ok (e : Int) (h1 : -1137 ≤ e) (h2 : e ≤ 1000) : expOK false e = true ∧ (-1085 < e → expOK true e = true) := by
  have := expAll_get 2200 (-1137) exp_all (e + 1137).toNat (by omega)
  rwa [show -1137 + ((e + 1137).toNat : Int) = e from by omega] at this

theorem uscR_ge (H mid m2 S : Nat) : (H - 1) / S ≤ uscR H mid m2 S := by
  unfold uscR
  simp only
  have h1 : (H - 1) / S ≤ H / S := Nat.div_le_div_right (Nat.sub_le _ _)
  split
  · split
    · split <;> omega
    · split <;> omega
  · omega

/-- how great the scaled numbers are -/
theorem us_bounds (p e : Int) (x : Nat) (h1 : -348 ≤ p) (h2 : p ≤ 347) (hs1 : 5 ≤ ssN p e) (hs2 : ssN p e ≤ 60) (hx : x < 18446744073709551616) :
    usN p e x < 1152921504606846976 ∧ (9223372036854774784 ≤ x → 3 ≤ usN p e x) := by
  obtain ⟨hhi, hlo, hrow⟩ := row_is p h1 h2
  obtain ⟨hb1, hb2⟩ := tab_bounds p h1 h2
  have hpm := pmN_lo p
  unfold usN
  rw [uscN_R]
  generalize hiN (p + 348).toNat = hi at *
  generalize loN (p + 348).toNat = lo at *
  have hpm2 : 2 ^ 127 ≤ pmN p := Nat.le_of_mul_le_mul_right (Nat.le_trans hb1 hpm) (DN_pos p)
  have hhi2 : 9223372036854775808 ≤ hi := by omega
  generalize hS : 2 ^ (ssN p e).toNat = S
  have hS1 : 32 ≤ S := by rw [← hS]; exact Nat.pow_le_pow_right (n := 2) (by decide) (show 5 ≤ (ssN p e).toNat by omega)
  have hS2 : S ≤ 1152921504606846976 := by rw [← hS]; exact Nat.pow_le_pow_right (n := 2) (by decide) (show (ssN p e).toNat ≤ 60 by omega)
  have hH : x * hi / 18446744073709551616 < 18446744073709551616 := by
    rw [Nat.div_lt_iff_lt_mul (by omega)]
    exact Nat.mul_lt_mul'' hx hhi
  constructor
  · have h3 := uscR_le (x * hi / 18446744073709551616) (x * hi % 18446744073709551616) (x * lo / 18446744073709551616) S
    have h4 : x * hi / 18446744073709551616 / S ≤ x * hi / 18446744073709551616 / 32 := Nat.div_le_div_left hS1 (by decide)
    omega
  · intro hx2
    have h3 := uscR_ge (x * hi / 18446744073709551616) (x * hi % 18446744073709551616) (x * lo / 18446744073709551616) S
    have h5 : 9223372036854774784 * 9223372036854775808 ≤ x * hi := Nat.mul_le_mul hx2 hhi2
    have h6 : 4611686018427387392 ≤ x * hi / 18446744073709551616 := by rw [Nat.le_div_iff_mul_le (by omega)]; omega
    have h7 : 3 ≤ (x * hi / 18446744073709551616 - 1) / S := by
      rw [Nat.le_div_iff_mul_le (by omega)]
      omega
    omega

theorem us_pos (p e : Int) (x : Nat) (h1 : -348 ≤ p) (h2 : p ≤ 347) (hs1 : 5 ≤ ssN p e) (hs2 : ssN p e ≤ 60) (_hx : x < 18446744073709551616) (hx2 : 4611686018427387904 ≤ x) : 1 ≤ usN p e x := by
  obtain ⟨hhi, hlo, hrow⟩ := row_is p h1 h2
  obtain ⟨hb1, hb2⟩ := tab_bounds p h1 h2
  have hpm := pmN_lo p
  unfold usN
  rw [uscN_R]
  generalize hiN (p + 348).toNat = hi at *
  generalize loN (p + 348).toNat = lo at *
  have hpm2 : 2 ^ 127 ≤ pmN p := Nat.le_of_mul_le_mul_right (Nat.le_trans hb1 hpm) (DN_pos p)
  have hhi2 : 9223372036854775808 ≤ hi := by omega
  generalize hS : 2 ^ (ssN p e).toNat = S
  have hS1 : 32 ≤ S := by rw [← hS]; exact Nat.pow_le_pow_right (n := 2) (by decide) (show 5 ≤ (ssN p e).toNat by omega)
  have hS2 : S ≤ 1152921504606846976 := by rw [← hS]; exact Nat.pow_le_pow_right (n := 2) (by decide) (show (ssN p e).toNat ≤ 60 by omega)
  have h3 := uscR_ge (x * hi / 18446744073709551616) (x * hi % 18446744073709551616) (x * lo / 18446744073709551616) S
  have h5 : 4611686018427387904 * 9223372036854775808 ≤ x * hi := Nat.mul_le_mul hx2 hhi2
  have h6 : 2305843009213693952 ≤ x * hi / 18446744073709551616 := by rw [Nat.le_div_iff_mul_le (by omega)]; omega
  have h7 : 1 ≤ (x * hi / 18446744073709551616 - 1) / S := by
    rw [Nat.le_div_iff_mul_le (by omega)]
    omega
  omega
end Go.Proofs.YtmhagigokgklaaaGreatDoor
