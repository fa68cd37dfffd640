/- Joined texts: Li Mh Mi. Each begins with its own remark. -/
import Derived.Test.YtmhagigokgklaaaGreatDoorJp
import Derived.Test.YtmhagigokgklaaaGreatDoorJk
import Derived.StillTailTactics
import Derived.Test.YtmhagigokgklaaaGreatDoorJm
import Derived.Deep.CutBlock
import Derived.Test.YtmhagigokgklaaaGreatDoorJe

/- The reference's Parse (walked). -/
namespace Go.Proofs.YtmhagigokgklaaaGreatDoor
open Go Go.RowKit Go.Sort Go.Lib
set_option exponentiation.threshold 3000

theorem base_pos (x : UInt8) : isBase x = decide (0 < bsI x) := by
  have key : ∀ k : Fin 256, isBase (UInt8.ofNat k.val) = decide (0 < bsI (UInt8.ofNat k.val)) := by decide +kernel
  have := key ⟨x.toNat, x.toNat_lt⟩
  rwa [UInt8.ofNat_toNat] at this

/-- what the reference gives of a text without its sign -/
def RpRes (l : List UInt8) (neg : Bool) (w : World) (e : Ending) (w' : World) : Prop :=
  if l = [73, 110, 102, 105, 110, 105, 116, 121] then e = .returned (.tuple #[.int .u64 (9218868437227405312 + sgW neg : Nat), .int .i64 0]) ∧ Below w.heap.size w w'
  else if l = [78, 97, 78] then e = .returned (.tuple #[.int .u64 9221120237041090560, .int .i64 0]) ∧ Below w.heap.size w w'
  else if hexB l = true then ∃ x rest, l = 48 :: x :: rest ∧ ((HexOK (bsI x) rest ∧ PaPost (2 * (bval (bsI x) (noBars rest) * 2 ^ 1074)) 1 neg w e w') ∨ (¬ HexOK (bsI x) rest ∧ e = .returned (.tuple #[.int .u64 0, .int .i64 150]) ∧ Below w.heap.size w w'))
  else (decB l = false → e = .returned (.tuple #[.int .u64 0, .int .i64 150]) ∧ Below w.heap.size w w') ∧
    (decB l = true → ∃ W F P n, n ≤ 400 ∧ fracF l = some (W, F, P, []) ∧ DecIs l (W ++ F) (powV P - F.length) ∧ PaPost (dX (dvl 10 (W ++ F)) (clipV (2000 + n) P - F.length)) (dQ (clipV (2000 + n) P - F.length)) neg w e w')

theorem rp_frac (L : ByteArray) (neg : Bool) (w : World) (hn : L.size ≤ 400) (hx : hexB L.data.toList = false) (h1 : L.data.toList ≠ [73, 110, 102, 105, 110, 105, 116, 121]) (h2 : L.data.toList ≠ [78, 97, 78]) (r : Nat) (b : Bool) (W' : World) (hok : FrOK L.size (fracF L.data.toList) r b) (hb : Below w.heap.size w W') :
    (b = true → RpRes L.data.toList neg w (.returned (.tuple #[.int .u64 (r + sgW neg : Nat), .int .i64 0])) W') ∧ (b = false → RpRes L.data.toList neg w (.returned (.tuple #[.int .u64 0, .int .i64 150])) W') := by
  obtain ⟨f1, f2⟩ := frac_law L.data.toList
  simp only [RpRes, if_neg h1, if_neg h2, hx, Bool.false_eq_true, if_false]
  cases hd : decB L.data.toList
  · have hb' : b = false := by
      rcases f2 hd with g | ⟨W, F, P, R, g, g2⟩
      · rw [g] at hok; exact hok.2
      · rw [g] at hok
        have := hok.1
        cases R with
        | nil => exact absurd rfl g2
        | cons c t => simpa using this
    subst hb'
    refine ⟨fun h => (by cases h), fun _ => ⟨fun _ => (by first | exact ⟨rfl, hb⟩ | exact ⟨trivial, hb⟩), fun h => (by cases h)⟩⟩
  · obtain ⟨W, F, P, g, g2⟩ := f1 hd
    rw [g] at hok
    have hb' : b = true := by simpa using hok.1
    subst hb'
    refine ⟨fun _ => ⟨fun h => (by cases h), fun _ => ⟨W, F, P, L.size, hn, g, g2, ?_⟩⟩, fun h => by cases h⟩
    exact ⟨r, hok.2, rfl, hb⟩

theorem bsI_is (x : UInt8) : bsI x = 16 ∨ bsI x = 8 ∨ bsI x = 2 ∨ bsI x = 0 := by
  unfold bsI
  by_cases h1 : x = 120 ∨ x = 88
  · left; rw [if_pos h1]
  · right
    rw [if_neg h1]
    by_cases h2 : x = 111 ∨ x = 79
    · left; rw [if_pos h2]
    · right
      rw [if_neg h2]
      by_cases h3 : x = 98 ∨ x = 66
      · left; rw [if_pos h3]
      · right; rw [if_neg h3]
theorem bval_lt (B : Nat) (hB : 2 ≤ B) (hB2 : B ≤ 16) : ∀ X : List UInt8, (∀ x ∈ X, okB B x) → bval B X < 256 ^ X.length := by
  refine snoc_ind (by intro _; simp [bval]) fun X c ih h => ?_
  have h1 := ih fun x hx => h x (List.mem_append_left _ hx)
  have h2 := h c (by simp)
  unfold okB at h2
  rw [bval_snoc, List.length_append, List.length_singleton, Nat.pow_succ]
  generalize hexI c.toNat = v at *
  have h3 : bval B X * B ≤ bval B X * 16 := Nat.mul_le_mul_left _ hB2
  omega
theorem bval_step (B : Nat) (X : List UInt8) (j : Nat) (hj : j < X.length) : bval B (X.take (j + 1)) = bval B (X.take j) * B + (hexI X[j].toNat).toNat := by
  rw [List.take_succ_eq_append_getElem hj, bval_snoc]
theorem str_eqb (L : ByteArray) (c : List UInt8) : (L.toList == c) = decide (L.data.toList = c) := by
  rw [ByteArray.toList_eq]
  by_cases h : L.data.toList = c
  · rw [decide_eq_true h, h, beq_self_eq_true]
  · rw [decide_eq_false h, beq_eq_false_iff_ne]; exact h
theorem cut_one (s : ByteArray) (l : List UInt8) (h : s.data.toList = 45 :: l) : s.extract 1 s.size = ⟨l.toArray⟩ := by
  refine str_is ?_
  rw [ByteArray.data_extract, Array.toList_extract, h]
  have : s.size = l.length + 1 := by
    have := congrArg List.length h
    simpa using this
  rw [this, List.extract_eq_take_drop]
  simp

set_option maxRecDepth 100000 in
set_option maxHeartbeats 8000000 in
theorem rparse_any (s : ByteArray) (neg : Bool) (l : List UInt8) (w : World) (hs : s.data.toList = sgB neg ++ l) (hl : neg = false → l.head? ≠ some 45) (hlen : s.size ≤ 400) :
    Calls Tryz.prog 12 #[.string s] w (RpRes l neg w) := by
  obtain ⟨L, hL⟩ : ∃ L : ByteArray, L = ⟨l.toArray⟩ := ⟨_, rfl⟩
  have hLl : L.data.toList = l := by rw [hL]
  have hLs : L.size = l.length := by rw [hL]; show l.toArray.size = _; rw [List.size_toArray]
  have hsl : s.size = (sgB neg).length + l.length := by
    have := congrArg List.length hs
    rw [List.length_append] at this
    simpa using this
  have hL4 : L.size ≤ 400 := by omega
  have HFR : Hid (∀ W : World, Calls Tryz.prog 33 #[.string L] W (FrPost L W)) := Lib.hid fun W => fraction_any L W hL4
  have hi400 : ¬ (400 : Int) < (s.size : Int) := by omega
  have HS := Lib.hid hs
  have HL := Lib.hid hl
  have HLE := Lib.hid hL
  have HLL := Lib.hid hLl
  have HG : Hid (∀ (k : Nat) (h : k < l.length) (h' : k < L.size), L[k] = l[k]) := Lib.hid (by
    subst hL
    intro k h h'
    rfl)
  have HLS := Lib.hid hLs
  have HSL := Lib.hid hsl
  clear hs hl hL hLl hLs hsl
  go_enter Tryz.func12, Tryz.ntmps12
  go_upto_region 4 with (fail)
  go_cut [22] from 12 to 21 (fun s22 wx => s22 = .bool neg ∧ wx = w)
  case first =>
    cases neg
    · rcases hll : l with _ | ⟨c, t⟩
      · have hn : s.size = 0 := by have := HSL.out; rw [hll] at this; exact this
        have hni : (s.size : Int) = 0 := by omega
        clear hlen hn hll
        go_wp2_with fail
        go_meet
        exact ⟨rfl, rfl⟩
      · have hsd : s.data.toList = c :: t := by rw [HS.out, hll]; rfl
        obtain ⟨hk, hg, _⟩ := rest_cons (s := s) (k := 0) (c := c) (R := t) ⟨by rw [hsd]; rfl, by
          have := congrArg List.length hsd
          simpa using this.symm⟩
        have hc : c ≠ 45 := fun h => HL.out rfl (by rw [hll, h]; rfl)
        have hi : (0 : Int) < (s.size : Int) := by omega
        have hb : ((c.toNat : Int) == 45) = false := by rw [show ((c.toNat : Int) == 45) = decide (c = 45) from beqN c 45 (by decide)]; exact decide_eq_false hc
        have hgc : (s[0].toNat : Int) = (c.toNat : Int) := by rw [hg]
        clear hg hc hsd hll
        go_wp2_with fail
        go_meet
        exact ⟨rfl, rfl⟩
    · have hsd : s.data.toList = 45 :: l := by rw [HS.out]; rfl
      obtain ⟨hk, hg, _⟩ := rest_cons (s := s) (k := 0) (c := 45) (R := l) ⟨by rw [hsd]; rfl, by
        have := congrArg List.length hsd
        simpa using this.symm⟩
      have hi : (0 : Int) < (s.size : Int) := by omega
      have hgc : (s[0].toNat : Int) = 45 := by rw [hg]; rfl
      clear hg hsd
      go_wp2_with fail
      go_meet
      exact ⟨rfl, rfl⟩
  case rest =>
    obtain ⟨rfl, hwc⟩ := hcut
    obtain rfl : w = wc := hwc.symm
    go_upto_if 22 with (fail)
    go_cut [0, 4] from 23 to 24 (fun s0 s4 wx => s0 = .string L ∧ s4 = .int .u64 (sgW neg : Nat) ∧ wx = w)
    case first =>
      cases neg
      · have HE : Hid (s = L) := Lib.hid (by
          rw [HLE.out]
          exact str_is (by rw [HS.out]; rfl))
        go_wp2_with fail
        go_meet
        exact ⟨by rw [HE.out], rfl, rfl⟩
      · have hsd : s.data.toList = 45 :: l := by rw [HS.out]; rfl
        have h1s : 1 ≤ s.size := by have := HSL.out; rw [show (sgB true).length = 1 from rfl] at this; omega
        have hA : ∀ W : World, (Instr.slice 9 (.string s) (some (.int .i64 1)) none none).run Tryz.prog W = .ok (.string L) W := fun W => by
          rw [HLE.out, ← cut_one s l hsd]
          exact run_slice_string_l W _ s Tryz.underlying9 .i64 1 (by omega) (by omega)
        clear hsd
        go_wp2_with fail
        go_meet
        exact ⟨rfl, rfl, rfl⟩
    case rest =>
      obtain ⟨rfl, rfl, hwc⟩ := hcut
      obtain rfl : w = wc := hwc.symm
      have hq1 := str_eqb L [73, 110, 102, 105, 110, 105, 116, 121]
      have hq2 := str_eqb L [78, 97, 78]
      rw [HLL.out] at hq1 hq2
      have hsg : sgW neg ≤ 9223372036854775808 := by cases neg <;> decide
      by_cases c1 : l = [73, 110, 102, 105, 110, 105, 116, 121]
      · rw [decide_eq_true c1] at hq1
        have HE : Hid (RpRes l neg w (.returned (.tuple #[.int .u64 (9218868437227405312 + sgW neg : Nat), .int .i64 0])) w) := Lib.hid (by
          unfold RpRes
          rw [if_pos c1]
          exact ⟨rfl, Below.refl _ _⟩)
        rw [show ((9218868437227405312 + sgW neg : Nat) : Int) = 9218868437227405312 + (sgW neg : Int) from by omega] at HE
        clear hq2 c1
        generalize sgW neg = g at *
        go_wp2_with fail
        go_ret2
        exact HE.out
      · rw [decide_eq_false c1] at hq1
        by_cases c2 : l = [78, 97, 78]
        · rw [decide_eq_true c2] at hq2
          have HE : Hid (RpRes l neg w (.returned (.tuple #[.int .u64 9221120237041090560, .int .i64 0])) w) := Lib.hid (by
            unfold RpRes
            rw [if_neg c1, if_pos c2]
            exact ⟨rfl, Below.refl _ _⟩)
          clear c1 c2 hsg
          go_wp2_with fail
          go_ret2
          exact HE.out
        · rw [decide_eq_false c2] at hq2
          obtain ⟨bx, hbx⟩ : ∃ b, hexB l = b := ⟨_, rfl⟩
          have HBX := Lib.hid hbx
          have HBA : Hid (∀ (c : UInt8) (W : World), Calls Tryz.prog 28 #[.int .u8 (c.toNat : Int)] W fun e w' => e = .returned (.int .i64 (bsI c : Nat)) ∧ w' = W) := Lib.hid fun c W => based_any c W
          have HC1 := Lib.hid c1
          have HC2 := Lib.hid c2
          clear hbx c1 c2
          go_upto_region 11 with (fail)
          go_cut [33] from 34 to 47 (fun s33 wx => s33 = .bool bx ∧ wx = w)
          case first =>
            by_cases h3 : 2 < l.length
            · obtain ⟨a, x, y, u, hll⟩ : ∃ a x y u, l = a :: x :: y :: u := by
                match l, h3 with
                | a :: x :: y :: u, _ => exact ⟨a, x, y, u, rfl⟩
              have h0' : 0 < L.size := by have := HLS.out; omega
              have h1' : 1 < L.size := by have := HLS.out; omega
              have hg0 : (L[0].toNat : Int) = (a.toNat : Int) := by
                have := HG.out 0 (by omega) h0'
                rw [this]; simp [hll]
              have hg1 : (L[1].toNat : Int) = (x.toNat : Int) := by
                have := HG.out 1 (by omega) h1'
                rw [this]; simp [hll]
              have hb : ((a.toNat : Int) == 48) = decide (a = 48) := beqN a 48 (by decide)
              have hi : (2 : Int) < (L.size : Int) := by have := HLS.out; omega
              have HBE : Hid (bx = (decide (a = 48) && decide (0 < bsI x))) := Lib.hid (by
                rw [← HBX.out, hll, ← base_pos]
                show (a == 48 && isBase x) = _
                congr 1)
              have HBC := Lib.hid (fun W => HBA.out x W)
              obtain ⟨n, hn⟩ : ∃ n, bsI x = n := ⟨_, rfl⟩
              rw [hn] at HBC HBE
              have hn1 : n ≤ 16 := by rw [← hn]; unfold bsI; repeat (split <;> try omega)
              generalize decide (a = 48) = ba at *
              clear hll h3 hn
              cases ba
              · go_wp2_with fail
                go_meet
                exact ⟨by rw [HBE.out]; rfl, rfl⟩
              · go_wp2_with fail
                refine (HBC.out _).mono ?_
                rintro e w5 ⟨rfl, rfl⟩
                go_wp2_with fail
                go_meet
                exact ⟨by rw [HBE.out]; first | rfl | (simp; done) | (simp; omega), rfl⟩
            · have hb2 : bx = false := by
                rw [← HBX.out]
                match l, h3 with
                | [], _ => rfl
                | [_], _ => rfl
                | [_, _], _ => rfl
                | _ :: _ :: _ :: u, h => exact absurd (by simp) h
              have hi : decide ((2 : Int) < (L.size : Int)) = false := decide_eq_false (by have := HLS.out; omega)
              have hsz : L.size ≤ 2 := by have := HLS.out; omega
              subst hb2
              obtain ⟨z, hz⟩ : ∃ z, L.size = z := ⟨_, rfl⟩
              have hz3 : z = 0 ∨ z = 1 ∨ z = 2 := by omega
              clear hi hsz h3
              rcases hz3 with rfl | rfl | rfl
              all_goals
                go_wp2_with fail
                go_meet
                exact ⟨rfl, rfl⟩
          case rest =>
            obtain ⟨rfl, hwc⟩ := hcut
            obtain rfl : w = wc := hwc.symm
            cases bx
            · have HF : Hid (∀ (r : Nat) (b : Bool) (W' : World), FrOK L.size (fracF L.data.toList) r b → Below w.heap.size w W' → (b = true → RpRes L.data.toList neg w (.returned (.tuple #[.int .u64 (r + sgW neg : Nat), .int .i64 0])) W') ∧ (b = false → RpRes L.data.toList neg w (.returned (.tuple #[.int .u64 0, .int .i64 150])) W')) := Lib.hid (fun r b W' h1 h2 =>
                rp_frac L neg w hL4 (by rw [HLL.out]; exact HBX.out) (by rw [HLL.out]; exact HC1.out) (by rw [HLL.out]; exact HC2.out) r b W' h1 h2)
              rw [HLL.out] at HF
              go_wp2_with fail
              refine (HFR.out _).mono ?_
              rintro e w5 ⟨⟨r, b, rfl, hok⟩, hb5⟩
              rw [HLL.out] at hok
              obtain ⟨k1, k2⟩ := HF.out r b w5 hok hb5
              have K1 := Lib.hid k1
              have K2 := Lib.hid k2
              have hr64 : r ≤ 9218868437227405312 := by
                unfold FrOK at hok
                split at hok
                · omega
                · exact hok.2.inf
              have hcast : ((r + sgW neg : Nat) : Int) = (r : Int) + (sgW neg : Int) := by omega
              rw [hcast] at K1
              clear k1 k2 hok hb5 hcast HF
              generalize sgW neg = g at *
              cases b
              · go_wp2_with fail
                go_ret2
                exact K2.out (by simp)
              · go_wp2_with fail
                go_ret2
                exact K1.out (by simp)
            · obtain ⟨x, y, u, hll⟩ : ∃ x y u, l = 48 :: x :: y :: u := by
                have := HBX.out
                match l, this with
                | a :: x :: y :: u, h =>
                  have h1 : (a == 48 && isBase x) = true := h
                  rw [Bool.and_eq_true] at h1
                  exact ⟨x, y, u, by rw [show a = 48 by simpa using h1.1]⟩
              obtain ⟨rest, hre⟩ : ∃ r, r = y :: u := ⟨_, rfl⟩
              rw [← hre] at hll
              have hne : rest ≠ [] := by rw [hre]; simp
              have hB0 : 0 < bsI x := by
                have := HBX.out
                rw [hll, hre] at this
                have h1 : ((48 : UInt8) == 48 && isBase x) = true := this
                rw [Bool.and_eq_true, base_pos] at h1
                exact of_decide_eq_true h1.2
              have h1' : 1 < L.size := by have := HLS.out; rw [hll] at this; simp at this; omega
              have h2' : 2 < L.size := by have := HLS.out; rw [hll, hre] at this; simp at this; omega
              have hg1 : (L[1].toNat : Int) = (x.toNat : Int) := by
                have := HG.out 1 (by rw [hll]; simp) h1'
                rw [this]; simp [hll]
              have HBC := Lib.hid (fun W => HBA.out x W)
              have hdr : L.data.toList.drop 2 = rest := by rw [HLL.out, hll]; rfl
              have hrl : rest.length + 2 = L.size := by have := HLS.out; rw [hll] at this; simp at this; omega
              obtain ⟨law1, law2⟩ := base_law (bsI x) rest hne
              have hYES : HexOK (bsI x) rest → ∀ (r : Nat) (W' : World), Near (2 * (bval (bsI x) (noBars rest) * 2 ^ 1074)) 1 r → Below w.heap.size w W' → RpRes l neg w (.returned (.tuple #[.int .u64 (r + sgW neg : Nat), .int .i64 0])) W' := fun h r W' hr hb => by
                simp only [RpRes, if_neg HC1.out, if_neg HC2.out, HBX.out, if_true]
                exact ⟨x, rest, hll, .inl ⟨h, r, hr, rfl, hb⟩⟩
              have hNO : ¬ HexOK (bsI x) rest → ∀ (W' : World), Below w.heap.size w W' → RpRes l neg w (.returned (.tuple #[.int .u64 0, .int .i64 150])) W' := fun h W' hb => by
                simp only [RpRes, if_neg HC1.out, if_neg HC2.out, HBX.out, if_true]
                first | exact ⟨x, rest, hll, .inr ⟨h, rfl, hb⟩⟩ | exact ⟨x, rest, hll, .inr ⟨h, trivial, hb⟩⟩
              obtain ⟨B, hBx⟩ : ∃ B, bsI x = B := ⟨_, rfl⟩
              have hB16 : B ≤ 16 := by rw [← hBx]; unfold bsI; repeat (split <;> try omega)
              have hB2 : 2 ≤ B := by
                have := bsI_is x
                omega
              rw [hBx] at HBC law1 law2 hYES hNO
              have HD : Hid (∀ W, Calls Tryz.prog 29 #[.string L, .int .i64 2, .int .i64 B] W (DgPost B L 2 W)) := Lib.hid fun W => digits_any L 2 B W (by omega) (by omega) ⟨hB2, hB16⟩
              unfold DgPost at HD
              rw [hdr] at HD
              obtain ⟨m, hm, hm'⟩ := runD_suffix B rest true
              have hrr : ((L.size : Int) - ((runD B true rest).2.1.length : Nat)) = ((2 + m : Nat) : Int) := by rw [hm, List.length_drop]; omega
              rw [hrr] at HD
              obtain ⟨ok, hok⟩ : ∃ b, (!(runD B true rest).1.isEmpty && !(runD B true rest).2.2) = b := ⟨_, rfl⟩
              rw [hok] at HD law1
              have hat : decide (((2 + m : Nat) : Int) < (L.size : Int)) = decide ((runD B true rest).2.1 ≠ []) := by
                refine decide_eq_decide.2 ?_
                rw [hm]
                constructor
                · intro h g
                  have := congrArg List.length g
                  rw [List.length_drop, List.length_nil] at this
                  omega
                · intro h
                  rcases Nat.lt_or_ge m rest.length with g | g
                  · omega
                  · exact absurd (List.drop_of_length_le g) h
              have HY := Lib.hid hYES
              have HN := Lib.hid hNO
              have HL1 := Lib.hid law1
              have HL2 := Lib.hid law2
              obtain ⟨at2, hat2⟩ : ∃ a : Nat, 2 + m = a := ⟨_, rfl⟩
              rw [hat2] at hat HD
              have hat4 : at2 ≤ 402 := by omega
              have hat5 : at2 ≤ L.size := by omega
              have h2i : (2 : Int) ≤ (L.size : Int) := by omega
              obtain ⟨bt, hbt⟩ : ∃ b, decide ((runD B true rest).2.1 ≠ []) = b := ⟨_, rfl⟩
              rw [hbt] at hat
              have HBT := Lib.hid hbt
              have HRL := Lib.hid hrl
              clear hYES hNO law1 law2 hm hm' hrr hok hdr hne hre hll hBx hB0 hat2 hbt hrl
              by_cases hgood : ok = true ∧ bt = false
              · obtain ⟨rfl, rfl⟩ := hgood
                have hhex := HL1.out.2 ⟨rfl, by simpa using of_decide_eq_false HBT.out⟩
                have hdX := HL2.out hhex
                have hat' : ¬ (at2 : Int) < (L.size : Int) := of_decide_eq_false hat
                obtain rfl : at2 = L.size := by omega
                clear hat'
                obtain ⟨X, hX⟩ : ∃ X, noBars rest = X := ⟨_, rfl⟩
                have hXok : ∀ x ∈ X, okB B x := by rw [← hX]; exact hhex.2
                have hXlen : X.length ≤ 400 := by
                  have h1 := noBars_len rest
                  have h2 := HRL.out
                  rw [hX] at h1
                  omega
                rw [hX] at hdX
                rw [hdX] at HD
                have hXs : (⟨X.toArray⟩ : ByteArray).size = X.length := by
                  show X.toArray.size = X.length
                  rw [List.size_toArray]
                obtain ⟨XS, hXS⟩ : ∃ z : ByteArray, (⟨X.toArray⟩ : ByteArray) = z := ⟨_, rfl⟩
                have HXE : Hid (∀ (j : Nat) (h1 : j < XS.size) (h2 : j < X.length), XS[j] = X[j]) := Lib.hid (by
                  subst hXS
                  intro j h1 h2
                  rfl)
                rw [hXS] at hXs HD
                obtain ⟨xl, hxl⟩ : ∃ n, X.length = n := ⟨_, rfl⟩
                rw [hxl] at hXs hXlen
                have HXL := Lib.hid hxl
                have HXO := Lib.hid hXok
                have HEND : Hid (∀ (r : Nat) (W' : World), Near (2 * (bval B X * 2 ^ 1074)) 1 r → Below w.heap.size w W' → RpRes l neg w (.returned (.tuple #[.int .u64 (r + sgW neg : Nat), .int .i64 0])) W') := Lib.hid (by
                  intro r W' h1 h2
                  refine HY.out hhex r W' ?_ h2
                  rw [hX]; exact h1)
                have HHEX : Hid (∀ (n : Nat) (W : World), n < 256 → Calls Tryz.prog 31 #[.int .i32 n] W fun e w' => e = .returned (.int .i64 (rhI n)) ∧ w' = W) := Lib.hid fun n W h => rhex_any n W h
                have HTM : Hid (∀ (v : Value) (n k more : Nat) (W : World), IsNum W v n → n < 256 ^ k → k ≤ 500 → more ≤ 16 → Calls Tryz.prog 30 #[v, .int .i64 B, .int .i64 more] W fun e w' => (∃ v', e = .returned v' ∧ IsNum w' v' (n * B + more)) ∧ Below W.heap.size W w') := Lib.hid fun v n k more W h1 h2 h3 h4 => times_any v n B more k W h1 (by omega) h2 (by omega) (by omega)
                have HVB : Hid (∀ j, bval B (X.take j) < 256 ^ (X.take j).length) := Lib.hid fun j => bval_lt B hB2 hB16 _ (fun x hx => hXok x (List.mem_of_mem_take hx))
                clear hat hhex hdX hX hXok hXS hxl HL1 HL2 HY HN HBT HFR
                go_wp2_with fail
                refine (HBC.out _).mono ?_
                rintro e w5 ⟨rfl, rfl⟩
                go_wp2_with fail
                refine (HD.out _).mono ?_
                rintro e w5 ⟨rfl, rfl⟩
                go_wp2_with fail
                go_loopg [8, 9] xl (fun g s8 s9 wr => ∃ j : Nat, j + g = xl ∧ s9 = .int .i64 j ∧ IsNum wr s8 (bval B (X.take j)) ∧ Below w5.heap.size w5 wr)
                case atStart => exact ⟨0, by omega, rfl, ⟨[], .inl ⟨rfl, rfl⟩, rfl, by simp [NormB]⟩, Below.refl _ _⟩
                case round =>
                  obtain ⟨j, hjg, rfl, hnum, hb⟩ := hrel
                  obtain ⟨wo, hwo⟩ : ∃ W, W = wr := ⟨_, rfl⟩
                  subst hwo
                  obtain ⟨v8, hv8⟩ : ∃ v, v = u8 := ⟨_, rfl⟩
                  subst hv8
                  have HNM := Lib.hid hnum
                  have HB := Lib.hid hb
                  clear hnum hb
                  by_cases hj : j < xl
                  · have hjX : j < X.length := by rw [HXL.out]; exact hj
                    have hjS : j < XS.size := by omega
                    have hgc : (XS[j].toNat : Int) = (X[j].toNat : Int) := by rw [HXE.out j hjS hjX]
                    have hok := HXO.out X[j] (List.getElem_mem hjX)
                    have hst := bval_step B X j hjX
                    have hc256 := X[j].toNat_lt
                    have hrh := rh_hex X[j].toNat hc256
                    unfold okB at hok
                    have HHX := Lib.hid (fun W => HHEX.out X[j].toNat W hc256)
                    rw [hrh] at HHX
                    obtain ⟨v, hv⟩ : ∃ v : Nat, hexI X[j].toNat = (v : Int) := ⟨(hexI X[j].toNat).toNat, by omega⟩
                    rw [hv] at HHX hst hok
                    rw [Int.toNat_natCast] at hst
                    have hv16 : v ≤ 16 := by omega
                    have HTJ : Hid (∀ W : World, Below wo.heap.size wo W → Calls Tryz.prog 30 #[v8, .int .i64 B, .int .i64 v] W fun e w' => (∃ v', e = .returned v' ∧ IsNum w' v' (bval B (X.take (j + 1)))) ∧ Below W.heap.size W w') := Lib.hid fun W hW => by
                      have := HTM.out v8 (bval B (X.take j)) (X.take j).length v W (HNM.out.go hW) (HVB.out j) (by rw [List.length_take]; omega) hv16
                      rwa [← hst] at this
                    obtain ⟨cn, hcn⟩ : ∃ n, X[j].toNat = n := ⟨_, rfl⟩
                    rw [hcn] at hgc HHX hc256
                    clear hst hok hrh hv hjX hcn
                    have hji : (j : Int) < (xl : Int) := by omega
                    go_upto_region 19 with (fail)
                    have h1Li : (1 : Int) < (L.size : Int) := by omega
                    have hwr : IntKind.i32.wrap (cn : Int) = (cn : Int) := by rw [IntKind.wrap_i32]; omega
                    go_still_tail 9, (by kernel_rfl)
                    still_call (HBC.out _)
                    repeat still_step
                    still_call (HHX.out _)
                    refine wpStill_nil ?_
                    change wpList _ _ _ _ _ wo.drew
                    go_wp2_with fail
                    refine (HTJ.out _ (Below.refl _ _).drew).mono ?_
                    rintro e w7 ⟨⟨v7, rfl, hn⟩, hb⟩
                    have H5 := Lib.hid hn
                    have B5 := Lib.hid hb
                    clear hn hb
                    go_wp2_with fail
                    go_roundg (gk - 1)
                    case measure => omega
                    case rel => exact ⟨j + 1, by omega, by go_num, H5.out, HB.out.drew.trans (B5.out.mono HB.out.drew.size)⟩
                  · obtain rfl : j = xl := by omega
                    have htk : X.take j = X := List.take_of_length_le (by rw [HXL.out]; exact Nat.le_refl _)
                    rw [htk] at HNM
                    have hvb := HVB.out j
                    rw [htk, HXL.out] at hvb
                    have hji : ¬ (j : Int) < (j : Int) := by omega
                    have HRD : Hid (∀ (vq : Value) (W : World), Below wo.heap.size wo W → IsNum W vq 1 → Calls Tryz.prog 32 #[v8, vq] W (RdPost (bval B X) 1 W)) := Lib.hid fun vq W hW hq => rround_any v8 vq _ 1 (j + 1) W (HNM.out.go hW) hq (by decide) (by omega) (Nat.lt_of_lt_of_le hvb (Nat.pow_le_pow_right (by decide) (by omega))) (Nat.one_lt_pow (by omega) (by decide))
                    clear hvb htk hj HVB
                    go_wp2_with fail
                    refine (HRD.out _ _ ((Below.refl _ _).alloc (Nat.le_refl _) _) (one_num wo)).mono ?_
                    rintro e w6 ⟨⟨r, rfl, hr⟩, hb6⟩
                    have hri := hr.inf
                    unfold INF at hri
                    have HE := Lib.hid (HEND.out r w6 hr (HB.out.trans ((((Below.refl wo.heap.size wo).alloc (Nat.le_refl _) _).trans (hb6.mono (by simp))).mono HB.out.size)))
                    have hcast : ((r + sgW neg : Nat) : Int) = (r : Int) + (sgW neg : Int) := by omega
                    rw [hcast] at HE
                    clear hr hb6 hcast HEND
                    generalize sgW neg = g at *
                    go_wp2_with fail
                    go_ret2
                    exact HE.out
              · have HE := Lib.hid (HN.out (fun h => hgood (by
                  obtain ⟨g1, g2⟩ := HL1.out.1 h
                  refine ⟨g1, ?_⟩
                  rw [← HBT.out, g2]; rfl)) w (Below.refl _ _))
                have hcs : ok = false ∨ (ok = true ∧ bt = true) := by
                  cases ok
                  · exact .inl rfl
                  · cases bt
                    · exact absurd ⟨rfl, rfl⟩ hgood
                    · exact .inr ⟨rfl, rfl⟩
                clear hgood HL1 HL2 HY HN HBT
                rcases hcs with rfl | ⟨rfl, rfl⟩
                · go_wp2_with fail
                  refine (HBC.out _).mono ?_
                  rintro e w5 ⟨rfl, rfl⟩
                  go_wp2_with fail
                  refine (HD.out _).mono ?_
                  rintro e w5 ⟨rfl, rfl⟩
                  go_wp2_with fail
                  go_ret2
                  exact HE.out
                · have hat' : (at2 : Int) < (L.size : Int) := of_decide_eq_true hat
                  clear hat
                  go_wp2_with fail
                  refine (HBC.out _).mono ?_
                  rintro e w5 ⟨rfl, rfl⟩
                  go_wp2_with fail
                  refine (HD.out _).mono ?_
                  rintro e w5 ⟨rfl, rfl⟩
                  go_wp2_with fail
                  go_ret2
                  exact HE.out
end Go.Proofs.YtmhagigokgklaaaGreatDoor

/- rightShift (printed by gen_shr15.py). -/
namespace Go.Proofs.YtmhagigokgklaaaGreatDoor
open Go Go.RowKit Go.Sort Go.Lib

theorem and_low (N k P : Nat) (hP : P = 2 ^ k) (hN : N < 18446744073709551616) (hk : k ≤ 60) : bits .and .u64 (N : Int) ((P : Int) - 1) = ((N % P : Nat) : Int) := by
  have h1 : 0 < 2 ^ k := Nat.two_pow_pos k
  have h := u64_and_nat N (2 ^ k - 1) (by omega) (by
    have : 2 ^ k ≤ 2 ^ 60 := Nat.pow_le_pow_right (by decide) hk
    omega)
  rw [hP, show ((2 ^ k : Nat) : Int) - 1 = ((2 ^ k - 1 : Nat) : Int) by omega, h, Nat.and_two_pow_sub_one_eq_mod]

theorem pv_pos {l : List UInt8} (hg : Dg l) (t : Nat) (h : 1 ≤ t) : 1 ≤ pv l t := by
  obtain ⟨c, u, e, hc⟩ := hg.hd
  unfold pv
  refine Nat.mul_pos ?_ (Nat.pow_pos (by decide))
  obtain ⟨s, rfl⟩ : ∃ s, t = s + 1 := ⟨t - 1, by omega⟩
  rw [e, List.take_succ_cons, dvl_head]
  have h1 := dig_ne (hg.dig c (by rw [e]; simp)) hc
  have h2 : 0 < 10 ^ (u.take s).length := Nat.pow_pos (by decide)
  have := Nat.mul_le_mul h1 (Nat.le_refl (10 ^ (u.take s).length))
  omega
theorem pv_small {l : List UInt8} (hg : Dg l) (k t : Nat) (h : pv l t < 2 ^ k) (ht : l.length ≤ t) : t < l.length + k := by
  rw [pv_full ht] at h
  have h4 := hg.lo
  have h5 : 0 < 10 ^ (l.length - 1) := Nat.pow_pos (by decide)
  have h6 := Nat.mul_le_mul (show 1 ≤ dvl 10 l by omega) (Nat.le_refl (10 ^ (t - l.length)))
  have := ten_lt_two (show 10 ^ (t - l.length) < 2 ^ k by omega)
  omega

set_option maxRecDepth 100000 in
set_option maxHeartbeats 8000000 in
theorem rshift_any (b k : Nat) (l : List UInt8) (dp : Int) (tr : Bool) (w : World) (h : DecL w b l dp tr) (hg : Dg l) (hk1 : 1 ≤ k) (hk2 : k ≤ 60) (_hd1 : -1000 ≤ dp) (_hd2 : dp ≤ 1000) :
    Calls Tryz.prog 168 #[.pointer (some ⟨b, 0, Option.none⟩), .int .u64 k] w (ShPost b (dvl 10 l * 5 ^ k) (dp - l.length - k) tr w) := by
  have hlen := h.le
  have hpos := hg.pos
  have HG := Lib.hid hg
  have HCELL := Lib.hid h.cell
  obtain ⟨c1, c2, _, c4⟩ := h.tail
  obtain ⟨dk, hda, hdl⟩ := h
  have HDA := Lib.hid hda
  have HDL := Lib.hid hdl
  have hbw := hda.lt
  have fz := hda.frz
  obtain ⟨P, hP⟩ : ∃ P : Nat, P = 2 ^ k := ⟨_, rfl⟩
  have hP60 : P ≤ 1152921504606846976 := by rw [hP]; exact Nat.pow_le_pow_right (by decide) hk2
  have hP2 : 2 ≤ P := by rw [hP]; exact Nat.le_trans (by decide) (Nat.pow_le_pow_right (by decide) hk1 : 2 ^ 1 ≤ 2 ^ k)
  have hPi : (2 : Int) ^ k = (P : Int) := by rw [hP]; push_cast; rfl
  have HP := Lib.hid hP
  have HPI := Lib.hid hPi
  clear hda hdl hP hg
  go_enter Tryz.func168, Tryz.ntmps168
  go_upto_block 0 with fail
  go_cut [4, 6] from 12 to 200 (fun s4 s6 wx => ∃ r0 nq : Nat, s4 = .int .i64 r0 ∧ s6 = .int .u64 (pv l r0) ∧ R0 l k r0 ∧ wx = w.drewN nq)
  case first =>
    go_wp2_with fail
    go_loopg [4, 6, 7] l.length (fun g s4 s6 s7 wr => ∃ t nq : Nat, t + g = l.length ∧ s4 = .int .i64 t ∧ s6 = .int .u64 (pv l t) ∧ (t = 0 ∨ pv l (t - 1) < 2 ^ k) ∧ wr = w.drewN nq)
    case atStart => exact ⟨0, 0, by omega, rfl, by rw [pv_zero]; rfl, .inl rfl, rfl⟩
    case round =>
      obtain ⟨t, nq, htg, rfl, rfl, hr, rfl⟩ := hrel
      have HR := Lib.hid hr
      have HTG := Lib.hid htg
      clear hr
      obtain ⟨N, hN⟩ : ∃ N, pv l t = N := ⟨_, rfl⟩
      have HN := Lib.hid hN
      rw [hN]
      by_cases hlt : N < P
      · have hq : (N : Int) / (P : Int) = 0 := Int.ediv_eq_zero_of_lt (by omega) (by omega)
        have HLT : Hid (pv l t < 2 ^ k) := Lib.hid (by rw [hN, ← HP.out]; exact hlt)
        by_cases h2 : t < l.length
        · have hx := HCELL.out t h2
          have hnx : pv l (t + 1) = N * 10 + dv l[t].toNat := by rw [pv_in h2, hN]
          have hcd := HG.out.dig _ (List.getElem_mem h2)
          generalize l[t] = c at *
          have hdv : dv c.toNat = c.toNat - 48 := by unfold dv; exact if_pos hcd
          rw [hdv] at hnx
          have hc1 := hcd.1
          have hc2 := hcd.2
          have HNX := Lib.hid hnx
          have hn2 : decide (l.length ≤ t) = false := by rw [decide_eq_false_iff_not]; omega
          have hn3 : decide ((l.length : Int) ≤ (t : Int)) = false := by rw [decide_eq_false_iff_not]; omega
          clear hnx hdv hcd hN
          go_wp2_with fail
          try (go_quiet (fail); go_wp2_with fail)
          go_roundg (gk - 1)
          case measure => omega
          case rel => exact ⟨t + 1, _, by omega, by go_num, by rw [HNX.out]; go_num, .inr (by rw [Nat.add_sub_cancel]; exact HLT.out), by first | rfl | exact World.drewN_drewN⟩
        · have htl : t = l.length := by omega
          have hN1 : 1 ≤ N := by rw [← hN]; exact pv_pos HG.out t (by omega)
          have HTL := Lib.hid htl
          have HR2 : Hid (pv l (t - 1) < 2 ^ k) := Lib.hid (HR.out.resolve_left (by omega))
          have hn2 : l.length ≤ t := by omega
          have hn0 : (N == 0) = false := by rw [beq_eq_false_iff_ne]; omega
          have hn00 : ((N : Int) == 0) = false := by rw [beq_eq_false_iff_ne]; omega
          clear htl HR hN hlt h2
          go_wp2_with fail
          go_loopg [4, 6] (k + 1) (fun g s4 s6 wr => ∃ t nq : Nat, t + g = l.length + k + 1 ∧ l.length ≤ t ∧ s4 = .int .i64 t ∧ s6 = .int .u64 (pv l t) ∧ pv l (t - 1) < 2 ^ k ∧ wr = w.drewN nq)
          case atStart => exact ⟨t, _, by have := HTL.out; omega, by have := HTL.out; omega, rfl, by rw [HN.out], HR2.out, rfl⟩
          case round =>
            clear hq hN1 hn2 hn0 hn00 HTL HR2 HN htg HTG HLT
            obtain ⟨t, nq, htg, hlt2, rfl, rfl, hr, rfl⟩ := hrel
            have HR := Lib.hid hr
            clear hr
            obtain ⟨N, hN⟩ : ∃ N, pv l t = N := ⟨_, rfl⟩
            rw [hN]
            have HN := Lib.hid hN
            by_cases hlt : N < P
            · have hq : (N : Int) / (P : Int) = 0 := Int.ediv_eq_zero_of_lt (by omega) (by omega)
              have HLT : Hid (pv l t < 2 ^ k) := Lib.hid (by rw [hN, ← HP.out]; exact hlt)
              have hts := pv_small HG.out k t HLT.out hlt2
              have HNX : Hid (pv l (t + 1) = N * 10) := Lib.hid (by rw [pv_out hlt2, hN])
              clear hN
              go_wp2_with fail
              go_roundg (gk - 1)
              case measure => omega
              case rel => exact ⟨t + 1, _, by omega, by omega, by go_num, by rw [HNX.out]; go_num, by rw [Nat.add_sub_cancel]; exact HLT.out, rfl⟩
            · have hq1 : ((N : Int) / (P : Int) == 0) = false := by
                rw [beq_eq_false_iff_ne]
                have : (1 : Int) ≤ (N : Int) / (P : Int) := by rw [Int.le_ediv_iff_mul_le (by omega)]; omega
                omega
              have HGE : Hid (2 ^ k ≤ pv l t) := Lib.hid (by rw [hN, ← HP.out]; omega)
              clear hN hlt
              go_wp2_with fail
              go_meet
              exact ⟨t, _, rfl, by rw [HN.out], ⟨by omega, HGE.out, HR.out⟩, rfl⟩
      · have hq1 : ((N : Int) / (P : Int) == 0) = false := by
          rw [beq_eq_false_iff_ne]
          have : (1 : Int) ≤ (N : Int) / (P : Int) := by rw [Int.le_ediv_iff_mul_le (by omega)]; omega
          omega
        have HGE : Hid (2 ^ k ≤ pv l t) := Lib.hid (by rw [hN, ← HP.out]; omega)
        have HT1 : Hid (t ≠ 0) := Lib.hid (by
          rintro rfl
          rw [pv_zero] at hN
          omega)
        clear hN hlt
        go_wp2_with fail
        go_meet
        exact ⟨t, _, rfl, by rw [HN.out], ⟨by have := HT1.out; omega, HGE.out, HR.out.resolve_left HT1.out⟩, rfl⟩
  case rest =>
    obtain ⟨r0, nq, rfl, rfl, hr0, rfl⟩ := hcut
    have hrs := hr0.small HG.out
    have hr1 := hr0.pos
    have HR0 := Lib.hid hr0
    obtain ⟨N0, hN0⟩ : ∃ N, pv l r0 = N := ⟨_, rfl⟩
    have HN0 : Hid (N0 = leftN l k r0) := Lib.hid (by rw [← hN0, left_first hr0 HG.out.dig])
    rw [hN0]
    clear hr0 hN0
    have hdpi : ∃ dp' : Int, dp - ((r0 : Int) - 1) = dp' := ⟨_, rfl⟩
    obtain ⟨dp', hdp⟩ := hdpi
    have hdp1 : -3000 ≤ dp' := by omega
    have hdp2 : dp' ≤ 3000 := by omega
    have HDP := Lib.hid hdp
    go_wp2_with fail
    try (go_quiet (fail); go_wp2_with fail)
    go_loopg [4, 5, 6, 9, 10] (max l.length r0 - r0) (fun g s4 s5 s6 s9 s10 wr => ∃ (t : Nat) (xs : List UInt8), r0 + t + g = max l.length r0 ∧ s4 = .int .i64 (r0 + t : Nat) ∧ s5 = .int .i64 t ∧ s6 = .int .u64 (leftN l k (r0 + t)) ∧ DecAt wr b xs l.length dp' false tr ∧ Rw dk xs l k r0 t ∧ Below b w wr)
    case atStart =>
      refine ⟨0, dk, by omega, rfl, rfl, by rw [HN0.out]; rfl, ?_, Rw.first dk l k r0 HDA.out.len, ?_⟩
      · first | exact (HDA.out.drewN _).putTail.2.1 _ | exact ((HDA.out.drewN _).putTail.2.1 _).drewN _
      · first | exact (bDrewN (Below.refl _ _) _).setCell (Nat.le_refl b) _ | exact (Below.refl b w).setCell (Nat.le_refl b) _
    case round =>
      obtain ⟨t, xs, htg, rfl, rfl, rfl, hda, hrw, hb⟩ := hrel
      have HX := Lib.hid hda
      have HRW := Lib.hid hrw
      have HB := Lib.hid hb
      have fzr := hda.frz
      have hbr := hda.lt
      obtain ⟨cc1, cc2, _, cc4⟩ := hda.tail
      by_cases h2 : r0 + t < l.length
      · have hxj : xs[r0 + t]? = some l[r0 + t] := by
          rw [hrw.old (r0 + t) (by omega) (by omega), ← List.getElem?_eq_getElem h2]
          conv => rhs; rw [← HDL.out]
          rw [List.getElem?_take_of_lt h2]
        have cj := hda.cell (r0 + t) _ hxj
        have hin := left_in k (r0 + t) h2 (by omega) HG.out.dig
        have hdv0 := left_div k (r0 + t) (by omega) HG.out.dig
        have hlt10 := left_lt l k (r0 + t)
        have hcd := HG.out.dig _ (List.getElem_mem h2)
        generalize l[r0 + t] = c at *
        have hdv : dv c.toNat = c.toNat - 48 := by unfold dv; exact if_pos hcd
        have hc1 := hcd.1
        have hc2 := hcd.2
        obtain ⟨N, hN⟩ : ∃ N, leftN l k (r0 + t) = N := ⟨_, rfl⟩
        rw [hN] at hin hdv0 hlt10
        rw [← HP.out] at hin hdv0 hlt10
        rw [hdv] at hin
        obtain ⟨q, hq⟩ : ∃ q, N / P = q := ⟨_, rfl⟩
        obtain ⟨r, hr⟩ : ∃ r, N % P = r := ⟨_, rfl⟩
        have hand := and_low N k P HP.out (by omega) hk2
        rw [hr] at hand hin
        rw [hq] at hdv0
        have hq9 : q ≤ 9 := by
          have : q < 10 := by rw [← hq]; exact (Nat.div_lt_iff_lt_mul (by omega)).2 hlt10
          omega
        have hqi : (N : Int) / (P : Int) = (q : Int) := by rw [← hq]; push_cast; rfl
        have hrP : r < P := by rw [← hr]; exact Nat.mod_lt _ (by omega)
        have hb8 : (UInt8.ofNat (48 + q)).toNat = 48 + q := by rw [UInt8.toNat_ofNat']; omega
        have HEB : Hid (Value.int .u8 ((q : Int) + 48) = encB (UInt8.ofNat (48 + q))) := Lib.hid (by
          unfold encB; rw [hb8]; congr 1; push_cast; omega)
        have HIN := Lib.hid hin
        have HQ := Lib.hid hdv0
        have ht8 : t < 800 := by omega
        have hxl : t < xs.length := by rw [hda.len]; exact ht8
        have cw := hda.cell t xs[t] (List.getElem?_eq_getElem hxl)
        generalize xs[t] = xw at *
        have h2i : ((r0 + t : Nat) : Int) < (l.length : Int) := by omega
        rw [hN]
        clear hda hrw hb hxj hin hdv0 hlt10 hcd hdv hN hq hr hb8
        go_wp2_with fail
        try (go_quiet (fail); go_wp2_with fail)
        go_roundg (gk - 1)
        case measure => omega
        case rel =>
          refine ⟨t + 1, xs.set t (UInt8.ofNat (48 + q)), by omega, by go_num, by go_num, ?_, ?_, ?_, ?_⟩
          · rw [show r0 + (t + 1) = r0 + t + 1 by omega, HIN.out]; go_num
          · first | exact HX.out.put t ht8 _ _ HEB.out | exact (HX.out.drewN _).put t ht8 _ _ HEB.out | exact (HX.out.put t ht8 _ _ HEB.out).drewN _
          · have := HRW.out.put ht8
            rw [← HP.out, ← HQ.out] at this
            exact this
          · first | exact HB.out.setCell (Nat.le_refl b) _ | exact (bDrewN HB.out _).setCell (Nat.le_refl b) _
      · have h2n : ¬ ((r0 + t : Nat) : Int) < (l.length : Int) := by omega
        have h2d : decide (((r0 + t : Nat) : Int) < (l.length : Int)) = false := decide_eq_false h2n
        have h2e : decide (r0 + t < l.length) = false := decide_eq_false h2
        have HT8 : Hid (t ≤ 800) := Lib.hid (by omega)
        have HTG : Hid (l.length ≤ r0 + t ∧ r0 + t ≤ l.length + k) := Lib.hid (by omega)
        clear hda hrw hb
        go_wp2_with fail
        go_loopg [5, 6, 11] (l.length + k + 1) (fun g s5 s6 s11 wr => ∃ (t wv : Nat) (xs : List UInt8), r0 + t + g ≤ l.length + k + 1 + (r0 + t) ∧ l.length + k + 1 ≤ r0 + t + g ∧ l.length ≤ r0 + t ∧ r0 + t ≤ l.length + k + 1 ∧ s5 = .int .i64 wv ∧ wv = min t 800 ∧ s6 = .int .u64 (leftN l k (r0 + t)) ∧ DecAt wr b xs l.length dp' false (tr || lostR l k r0 t) ∧ Rw dk xs l k r0 t ∧ Below b w wr)
        case atStart =>
          have := HT8.out
          have := HTG.out
          refine ⟨t, t, xs, by omega, by omega, by omega, by omega, rfl, by omega, rfl, ?_, HRW.out, by first | exact HB.out | exact bDrewN HB.out _⟩
          rw [lostR_put l k r0 t (by omega), Bool.or_false]
          first | exact HX.out | exact HX.out.drewN _
        case round =>
          clear fzr hbr cc1 cc2 cc4 HX HRW HB h2n h2d h2e HT8 HTG htg h2
          obtain ⟨t2, wv, xs2, htg1, htg2, htl, hth, rfl, hwv, rfl, hda, hrw, hb⟩ := hrel
          have HX := Lib.hid hda
          have HRW := Lib.hid hrw
          have HB := Lib.hid hb
          have fzr := hda.frz
          have hbr := hda.lt
          obtain ⟨cc1, cc2, _, cc4⟩ := hda.tail
          have hin := left_out k (r0 + t2) htl (by omega) HG.out.dig
          have hdv0 := left_div k (r0 + t2) (by omega) HG.out.dig
          have hlt10 := left_lt l k (r0 + t2)
          have hend : l.length + k + 1 ≤ r0 + t2 → leftN l k (r0 + t2) = 0 := left_end k (r0 + t2)
          obtain ⟨N, hN⟩ : ∃ N, leftN l k (r0 + t2) = N := ⟨_, rfl⟩
          rw [hN] at hin hdv0 hlt10 hend
          rw [← HP.out] at hin hdv0 hlt10
          rw [hN]
          by_cases hz : N = 0
          · have HZ : Hid (leftN l k (r0 + t2) = 0) := Lib.hid (hN.trans hz)
            subst hz
            have HTR := Lib.hid (fun (W : World) (nn : Nat) (ddp : Int) (hh : DecAt W b xs2 nn ddp false (tr || lostR l k r0 t2)) (h8 : nn ≤ 800) => dtrim_any b nn xs2 ddp false (tr || lostR l k r0 t2) W hh h8)
            have HWV := Lib.hid hwv
            have HTL := Lib.hid htl
            have HTH := Lib.hid hth
            have hwv8 : wv ≤ 800 := by omega
            clear hda hrw hb hin hdv0 hlt10 hend hN hwv htl hth htg1 htg2 cc4
            go_wp2_with fail
            try (go_quiet (fail); go_wp2_with fail)
            refine (HTR.out _ wv dp' ?_ hwv8).mono ?_
            · first | exact HX.out.putTail.1 _ | exact (HX.out.drewN _).putTail.1 _
            · rintro e w2 ⟨⟨v, rfl⟩, mm, htr, hd2, hb2⟩
              have HD2 := Lib.hid hd2
              have HB2 := Lib.hid hb2
              have HTM := Lib.hid htr
              clear hd2 hb2 htr
              go_wp2_with fail
              go_end0
              obtain ⟨a1, a2, a3⟩ := right_cut (dp := dp) (tr := tr) HG.out HR0.out HRW.out HTL.out HTH.out HZ.out (by have := HTM.out; rw [HWV.out] at this; exact this)
              have hlm : (xs2.take mm).length = mm := by rw [List.length_take, HRW.out.len]; omega
              rw [HDP.out] at a1
              have hd3 := HD2.out
              rw [if_neg (by omega)] at hd3
              refine ⟨⟨_, rfl⟩, xs2.take mm, dp', _, a1, ⟨xs2, by rw [hlm]; exact hd3, by rw [hlm]⟩, ?_⟩
              refine Below.trans ?_ HB2.out
              first | exact HB.out.setCell (Nat.le_refl b) _ | exact (bDrewN HB.out _).setCell (Nat.le_refl b) _
          · have htk : r0 + t2 < l.length + k + 1 := by
              rcases Nat.lt_or_ge (r0 + t2) (l.length + k + 1) with h | h
              · exact h
              · exact absurd (hend h) hz
            obtain ⟨q, hq⟩ : ∃ q, N / P = q := ⟨_, rfl⟩
            obtain ⟨r, hr⟩ : ∃ r, N % P = r := ⟨_, rfl⟩
            have hand := and_low N k P HP.out (by omega) hk2
            rw [hr] at hand hin
            rw [hq] at hdv0
            have hq9 : q ≤ 9 := by
              have : q < 10 := by rw [← hq]; exact (Nat.div_lt_iff_lt_mul (by omega)).2 hlt10
              omega
            have hqi : (N : Int) / (P : Int) = (q : Int) := by rw [← hq]; push_cast; rfl
            have hrP : r < P := by rw [← hr]; exact Nat.mod_lt _ (by omega)
            have hb8 : (UInt8.ofNat (48 + q)).toNat = 48 + q := by rw [UInt8.toNat_ofNat']; omega
            have HEB : Hid (Value.int .u8 ((q : Int) + 48) = encB (UInt8.ofNat (48 + q))) := Lib.hid (by
              unfold encB; rw [hb8]; congr 1; push_cast; omega)
            have HIN := Lib.hid hin
            have HQ := Lib.hid hdv0
            have HQ8 : Hid (pv l (r0 + t2) / 2 ^ k % 10 = q) := Lib.hid (by rw [← HP.out]; exact hdv0.symm)
            have hN0 : (0 : Int) < (N : Int) := by omega
            by_cases ht8 : t2 < 800
            · have hwt : wv = t2 := by omega
              subst hwt
              have hxl : wv < xs2.length := by rw [hda.len]; exact ht8
              have cw := hda.cell wv xs2[wv] (List.getElem?_eq_getElem hxl)
              generalize xs2[wv] = xw at *
              have h8i : (wv : Int) < 800 := by omega
              clear hda hrw hb hin hdv0 hlt10 hend hN hq hr hb8 hwv
              go_wp2_with fail
              try (go_quiet (fail); go_wp2_with fail)
              go_roundg (gk - 1)
              case measure => omega
              case rel =>
                refine ⟨wv + 1, wv + 1, xs2.set wv (UInt8.ofNat (48 + q)), by omega, by omega, by omega, by omega, by go_num, by omega, ?_, ?_, ?_, ?_⟩
                · rw [show r0 + (wv + 1) = r0 + wv + 1 by omega, HIN.out]; go_num
                · rw [lostR_put l k r0 (wv + 1) (by omega)]
                  have h9 := HX.out
                  rw [lostR_put l k r0 wv (by omega)] at h9
                  first | exact h9.put wv ht8 _ _ HEB.out | exact (h9.drewN _).put wv ht8 _ _ HEB.out
                · have := HRW.out.put ht8
                  rw [HQ8.out] at this
                  exact this
                · first | exact HB.out.setCell (Nat.le_refl b) _ | exact (bDrewN HB.out _).setCell (Nat.le_refl b) _
            · have hwt : wv = 800 := by omega
              subst hwt
              by_cases hq0 : q = 0
              · have HQ0 := Lib.hid hq0
                have hqn : ¬ (0 : Int) < (q : Int) := by omega
                have hqn2 : decide ((0 : Int) < (q : Int)) = false := decide_eq_false hqn
                clear hda hrw hb hin hdv0 hlt10 hend hN hq hr hb8 hwv hq0
                go_wp2_with fail
                try (go_quiet (fail); go_wp2_with fail)
                go_roundg (gk - 1)
                case measure => omega
                case rel =>
                  refine ⟨t2 + 1, 800, xs2, by omega, by omega, by omega, by omega, rfl, by omega, ?_, ?_, HRW.out.skip (by omega), by first | exact HB.out | exact bDrewN HB.out _⟩
                  · rw [show r0 + (t2 + 1) = r0 + t2 + 1 by omega, HIN.out]; go_num
                  · rw [lostR_skip l k r0 t2 (by omega) HG.out.dig, HQ8.out, HQ0.out]
                    simp only [bne_self_eq_false, Bool.or_false]
                    first | exact HX.out | exact HX.out.drewN _
              · have HQ0 : Hid ((q != 0) = true) := Lib.hid (bne_iff_ne.2 hq0)
                have hqn : (0 : Int) < (q : Int) := by omega
                clear hda hrw hb hin hdv0 hlt10 hend hN hq hr hb8 hwv hq0
                go_wp2_with fail
                try (go_quiet (fail); go_wp2_with fail)
                go_roundg (gk - 1)
                case measure => omega
                case rel =>
                  refine ⟨t2 + 1, 800, xs2, by omega, by omega, by omega, by omega, rfl, by omega, ?_, ?_, HRW.out.skip (by omega), by first | exact HB.out.setCell (Nat.le_refl b) _ | exact (bDrewN HB.out _).setCell (Nat.le_refl b) _⟩
                  · rw [show r0 + (t2 + 1) = r0 + t2 + 1 by omega, HIN.out]; go_num
                  · rw [lostR_skip l k r0 t2 (by omega) HG.out.dig, HQ8.out, HQ0.out]
                    simp only [Bool.or_true]
                    first | exact HX.out.putTail.2.2.2 true | exact (HX.out.drewN _).putTail.2.2.2 true
end Go.Proofs.YtmhagigokgklaaaGreatDoor

/- Shift, RoundedInteger. -/
namespace Go.Proofs.YtmhagigokgklaaaGreatDoor
open Go Go.RowKit Go.Sort Go.Lib

set_option maxRecDepth 100000 in
set_option maxHeartbeats 4000000 in
theorem shift_left (b k K : Nat) (l : List UInt8) (dp : Int) (tr : Bool) (w : World) (h : DecL w b l dp tr) (hg : Dg l) (hC : GlobC K w) (hKb : K ≤ b) (hk1 : 1 ≤ k) (hk2 : k ≤ 60) (hd1 : -1000 ≤ dp) (hd2 : dp ≤ 1000) :
    Calls Tryz.prog 131 #[.pointer (some ⟨b, 0, Option.none⟩), .int .i64 k] w (ShPost b (dvl 10 l * 2 ^ k) (dp - l.length) tr w) := by
  have HS := Lib.hid (lshift_any b k K l dp tr w h hg hC hKb hk1 hk2 hd1 hd2)
  obtain ⟨c1, -, -, -⟩ := h.tail
  have hp := hg.pos
  have hn0 : ((l.length : Int) == 0) = false := by rw [beq_eq_false_iff_ne]; omega
  have hn1 : ¬ l = [] := by rintro rfl; simp at hp
  have hn2 : (l.length == 0) = false := by rw [beq_eq_false_iff_ne]; omega
  have hlen := h.le
  have hk : (0 : Int) < (k : Int) := by omega
  have hk6 : ¬ (60 : Int) < (k : Int) := by omega
  clear h hg hC
  generalize dvl 10 l * 2 ^ k = B at *
  go_enter Tryz.func131, Tryz.ntmps131
  go_wp2_with fail
  go_loopg [1] 0 (fun g s1 wr => s1 = .int .i64 k ∧ wr = w)
  case atStart => exact ⟨rfl, rfl⟩
  case round =>
    obtain ⟨rfl, rfl⟩ := hrel
    go_wp2_with fail
    refine HS.out.mono ?_
    rintro e w2 ⟨⟨v, rfl⟩, hpost⟩
    have HPO := Lib.hid hpost
    clear hpost
    go_wp2_with fail
    go_end0
    exact ⟨⟨_, rfl⟩, HPO.out⟩

/-- what a great shift to the right leaves -/
def SdPost (P Q F f b : Nat) (dp : Int) (n : Nat) (w : World) (e : Ending) (w' : World) : Prop :=
  (∃ v, e = .returned v) ∧ ∃ l' dp' tr', Sd P Q F f l' dp' tr' ∧ (∃ t c, l' = t ++ [c] ∧ c ≠ 48) ∧ DecL w' b l' dp' tr' ∧ Below b w w' ∧ dp' ≤ dp ∧ dp - n ≤ dp'

set_option maxRecDepth 100000 in
set_option maxHeartbeats 4000000 in
theorem shift_right (P Q F f b n : Nat) (l : List UInt8) (dp : Int) (tr : Bool) (w : World) (z : Sz P Q F) (h : DecL w b l dp tr) (hs : Sd P Q F (f + n) l dp tr) (hn1 : 1 ≤ n) (hn2 : n ≤ 200) (hd1 : n - 318 ≤ dp) (_hf : F ≤ f + 4000) (_hff : f ≤ 4000) :
    Calls Tryz.prog 131 #[.pointer (some ⟨b, 0, Option.none⟩), .int .i64 (-(n : Int))] w (SdPost P Q F f b dp n w) := by
  have HZ := Lib.hid z
  have HD := Lib.hid h
  have HS := Lib.hid hs
  obtain ⟨c1, -, -, -⟩ := h.tail
  have hp := hs.dg.pos
  have hdp := hs.hi
  have hn0 : ((l.length : Int) == 0) = false := by rw [beq_eq_false_iff_ne]; omega
  have hn1' : ¬ l = [] := by rintro rfl; simp at hp
  have hn2' : (l.length == 0) = false := by rw [beq_eq_false_iff_ne]; omega
  have hlen := h.le
  have hnp : 0 < n := hn1
  have hneg : -(n : Int) < 0 := by omega
  have hneg2 : ¬ (0 : Int) < -(n : Int) := by omega
  have hnn : ¬ (n : Int) < 0 := by omega
  clear h hs z
  go_enter Tryz.func131, Tryz.ntmps131
  go_wp2_with fail
  go_loopg [1] n (fun g s1 wr => ∃ (m : Nat) (l' : List UInt8) (dp' : Int) (tr' : Bool), 1 ≤ m ∧ m ≤ n ∧ m ≤ g ∧ s1 = .int .i64 (-(m : Int)) ∧ Sd P Q F (f + m) l' dp' tr' ∧ DecL wr b l' dp' tr' ∧ Below b w wr ∧ dp' ≤ dp ∧ dp - (n - m : Nat) ≤ dp')
  case atStart => exact ⟨n, l, dp, tr, hn1, Nat.le_refl _, Nat.le_refl _, rfl, HS.out, HD.out, Below.refl _ _, Int.le_refl _, by omega⟩
  case round =>
    obtain ⟨m, l', dp', tr', hm1, hm2, hmg, rfl, hs, hd, hb, hdl, hdg⟩ := hrel
    have HB := Lib.hid hb
    have hhi := hs.hi
    by_cases h6 : m ≤ 60
    · have hsh := rshift_any b m l' dp' tr' wr hd hs.dg hm1 h6 (by omega) (by omega)
      have HSH := Lib.hid hsh
      have HS2 := Lib.hid hs
      have hi : ¬ -(m : Int) < -60 := by omega
      have hu : IntKind.u64.wrap (- -(m : Int)) = (m : Int) := by rw [IntKind.wrap_u64]; omega
      clear hs hd hb hsh
      go_wp2_with fail
      refine HSH.out.mono ?_
      rintro e w2 ⟨⟨v, rfl⟩, l2, dp2, tr2, hcut, hd2, hb2⟩
      have HC := Lib.hid hcut
      have HD2 := Lib.hid hd2
      have HB2 := Lib.hid hb2
      clear hcut hd2 hb2
      go_wp2_with fail
      go_end0
      obtain ⟨a1, a2, a3⟩ := HS2.out.right HZ.out (by omega) HC.out
      exact ⟨⟨_, rfl⟩, l2, dp2, tr2, a1, HC.out.last, HD2.out, HB.out.trans HB2.out, by omega, by omega⟩
    · have hsh := rshift_any b 60 l' dp' tr' wr hd hs.dg (by decide) (by decide) (by omega) (by omega)
      have HSH := Lib.hid hsh
      obtain ⟨m', rfl⟩ : ∃ m', m = m' + 60 := ⟨m - 60, by omega⟩
      have HS2 := Lib.hid hs
      have hi : -((m' + 60 : Nat) : Int) < -60 := by omega
      have hadd : -((m' + 60 : Nat) : Int) + 60 = -(m' : Int) := by omega
      clear hs hd hb hsh
      go_wp2_with fail
      refine HSH.out.mono ?_
      rintro e w2 ⟨⟨v, rfl⟩, l2, dp2, tr2, hcut, hd2, hb2⟩
      have HC := Lib.hid hcut
      have HD2 := Lib.hid hd2
      have HB2 := Lib.hid hb2
      clear hcut hd2 hb2
      go_wp2_with fail
      go_roundg (gk - 1)
      case measure => omega
      case rel =>
        obtain ⟨a1, a2, a3⟩ := (show Sd P Q F (f + m' + 60) l' dp' tr' from HS2.out).right HZ.out (by omega) HC.out
        exact ⟨m', l2, dp2, tr2, by omega, by omega, by omega, by go_num, a1, HD2.out, HB.out.trans HB2.out, by omega, by omega⟩

theorem pv_mono {l : List UInt8} (hd : ∀ x ∈ l, isDig x) (i : Nat) : ∀ j, i ≤ j → pv l i ≤ pv l j
  | 0, h => by obtain rfl : i = 0 := by omega
               exact Nat.le_refl _
  | j + 1, h => by
    by_cases h1 : i = j + 1
    · subst h1; exact Nat.le_refl _
    · have h2 := pv_mono hd i j (by omega)
      have h3 := pv_div hd j
      omega

set_option maxRecDepth 100000 in
set_option maxHeartbeats 4000000 in
theorem rounded_any (b : Nat) (l : List UInt8) (dp : Int) (tr : Bool) (w : World) (h : DecL w b l dp tr) (hd : ∀ x ∈ l, isDig x) (h1 : -1000 ≤ dp) (h2 : dp ≤ 20) (h3 : ipW l dp ≤ 1152921504606846976) :
    Calls Tryz.prog 179 #[.pointer (some ⟨b, 0, Option.none⟩)] w fun e w' => e = .returned (.int .u64 (ipW l dp + (upR l dp tr).toNat : Nat)) ∧ ∃ m, w' = w.drewN m := by
  obtain ⟨c1, c2, -, -⟩ := h.tail
  have hlen := h.le
  have HC := Lib.hid h.cell
  have HDG := Lib.hid hd
  have HUP := Lib.hid (fun n : Nat => roundup_any b l dp dp tr (w.drewN n) (by obtain ⟨dk, hda, hdl⟩ := h; exact ⟨dk, hda.drewN n, hdl⟩) (by omega) (by omega) hd)
  obtain ⟨D, hD⟩ : ∃ D : Nat, D = dp.toNat := ⟨_, rfl⟩
  have hDi : (D : Int) = max dp 0 := by omega
  have hip : ipW l dp = pv l D := by rw [hD]; rfl
  rw [hip] at h3 ⊢
  have HMO := Lib.hid (fun i (hi : i ≤ D) => Nat.le_trans (pv_mono hd i D hi) h3)
  have h20 : ¬ (20 : Int) < dp := by omega
  clear h hd hD hip
  go_enter Tryz.func179, Tryz.ntmps179
  go_upto_block 0 with fail
  go_cut [3, 4] from 5 to 200 (fun s3 s4 wx => ∃ i nq : Nat, i = min D l.length ∧ s3 = .int .i64 i ∧ s4 = .int .u64 (pv l i) ∧ wx = w.drewN nq)
  case first =>
    go_wp2_with fail
    go_loopg [3, 4] D (fun g s3 s4 wr => ∃ i nq : Nat, i + g = D ∧ i ≤ l.length ∧ s3 = .int .i64 i ∧ s4 = .int .u64 (pv l i) ∧ wr = w.drewN nq)
    case atStart => exact ⟨0, 0, by omega, by omega, rfl, by rw [pv_zero]; rfl, rfl⟩
    case round =>
      obtain ⟨i, nq, hig, hil, rfl, rfl, rfl⟩ := hrel
      by_cases h4 : i < D
      · have hi4 : (i : Int) < dp := by omega
        by_cases h5 : i < l.length
        · have hi5 : (i : Int) < (l.length : Int) := by omega
          have hx := HC.out i h5
          have hnx := pv_in h5
          have hm := HMO.out (i + 1) (by omega)
          have hcd := HDG.out _ (List.getElem_mem h5)
          generalize l[i] = c at *
          have hdv : dv c.toNat = c.toNat - 48 := by unfold dv; exact if_pos hcd
          rw [hdv] at hnx
          have hc1 := hcd.1
          have hc2 := hcd.2
          rw [hnx] at hm
          have HNX := Lib.hid hnx
          have hw8 : IntKind.u8.wrap ((c.toNat : Int) - 48) = (c.toNat : Int) - 48 := by rw [IntKind.wrap_u8]; omega
          clear hnx hdv hcd
          generalize hn : pv l i = N at *
          have HN := Lib.hid hn
          clear hn
          go_wp2_with fail
          try (go_quiet (fail); go_wp2_with fail)
          try (go_quiet (fail); go_wp2_with fail)
          go_roundg (gk - 1)
          case measure => omega
          case rel => exact ⟨i + 1, _, by omega, by omega, by go_num, by rw [HNX.out]; go_num, by first | rfl | (simp only [World.drewN_drewN]; rfl)⟩
        · have hi5 : ¬ (i : Int) < (l.length : Int) := by omega
          have hi6 : decide (i < l.length) = false := decide_eq_false h5
          go_wp2_with fail
          try (go_quiet (fail); go_wp2_with fail)
          go_meet
          exact ⟨i, _, by omega, rfl, rfl, by first | rfl | (simp only [World.drewN_drewN]; rfl)⟩
      · have hi4 : ¬ (i : Int) < dp := by omega
        go_wp2_with fail
        try (go_quiet (fail); go_wp2_with fail)
        go_meet
        exact ⟨i, _, by omega, rfl, rfl, by first | rfl | (simp only [World.drewN_drewN]; rfl)⟩
  case rest =>
    obtain ⟨i0, nq0, hi0, rfl, rfl, rfl⟩ := hcut
    have HI0 := Lib.hid hi0
    clear hi0
    go_wp2_with fail
    go_loopg [3, 4] D (fun g s3 s4 wr => ∃ i nq : Nat, D ≤ i + g ∧ i ≤ D ∧ min D l.length ≤ i ∧ s3 = .int .i64 i ∧ s4 = .int .u64 (pv l i) ∧ wr = w.drewN nq)
    case atStart => have := HI0.out; exact ⟨i0, _, by omega, by omega, by omega, rfl, rfl, rfl⟩
    case round =>
      obtain ⟨i, nq, hig, hiD, him, rfl, rfl, rfl⟩ := hrel
      by_cases h4 : i < D
      · have hi4 : (i : Int) < dp := by omega
        have hnx := pv_out (l := l) (r := i) (by omega)
        have hm := HMO.out (i + 1) (by omega)
        rw [hnx] at hm
        have HNX := Lib.hid hnx
        clear hnx
        generalize pv l i = N at *
        go_wp2_with fail
        try (go_quiet (fail); go_wp2_with fail)
        go_roundg (gk - 1)
        case measure => omega
        case rel => exact ⟨i + 1, _, by omega, by omega, by omega, by go_num, by rw [HNX.out]; go_num, rfl⟩
      · have hi4 : ¬ (i : Int) < dp := by omega
        obtain rfl : i = D := by omega
        obtain ⟨N, hN⟩ : ∃ N, pv l i = N := ⟨_, rfl⟩
        have hN6 := HMO.out i (Nat.le_refl _)
        rw [hN] at hN6
        rw [hN]
        cases hup : upR l dp tr
        · rw [hup] at HUP
          have HF : Hid (((pv l i + (upR l dp tr).toNat : Nat) : Int) = (N : Int)) := Lib.hid (by rw [hN, hup]; rfl)
          clear hN hup
          go_wp2_with fail
          refine (HUP.out _).mono ?_
          rintro e w' ⟨rfl, m, rfl⟩
          go_wp2_with fail
          go_ret
          exact ⟨by rw [HF.out]; rfl, _, rfl⟩
        · rw [hup] at HUP
          have HF : Hid (((pv l i + (upR l dp tr).toNat : Nat) : Int) = (N : Int) + 1) := Lib.hid (by rw [hN, hup]; push_cast; rfl)
          clear hN hup
          go_wp2_with fail
          refine (HUP.out _).mono ?_
          rintro e w' ⟨rfl, m, rfl⟩
          go_wp2_with fail
          go_ret
          exact ⟨by rw [HF.out]; rfl, _, rfl⟩
end Go.Proofs.YtmhagigokgklaaaGreatDoor
