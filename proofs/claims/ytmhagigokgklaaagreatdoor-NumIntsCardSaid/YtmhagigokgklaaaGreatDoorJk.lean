/- Joined texts: Pq Pr. Each begins with its own remark. -/
import Derived.Test.YtmhagigokgklaaaGreatDoorJj
import Derived.Deep.CutBlock
import Derived.Deep.DeepCutAuto
import Derived.Test.YtmhagigokgklaaaGreatDoorJi
import Derived.LaidEqlPtr

/- num.hexadecimal. -/
namespace Go.Proofs.YtmhagigokgklaaaGreatDoor
open Go Go.RowKit Go.Sort Go.Lib

/-- no bar at an end, no two -/
def barOK (l : List UInt8) : Bool := !(hasPrefix l [95] || hasSuffix l [95] || contains l [95, 95])
def HexOK (B : Nat) (l : List UInt8) : Prop := barOK l = true ∧ ∀ x ∈ noBars l, okB B x
/-- what hexadecimal hands back -/
def HexPost (B : Nat) (l : List UInt8) (w : World) (e : Ending) (w' : World) : Prop :=
  (HexOK B l ∧ ∃ H : List UInt8, (∀ x ∈ H, okD 16 x) ∧ dvl 16 H = bval B (noBars l) ∧ H.length ≤ (noBars l).length + 1 ∧ (noBars l ≠ [] → H ≠ []) ∧ e = .returned (.tuple #[.string ⟨H.toArray⟩, .bool true]) ∧ Below w.heap.size w w') ∨
  (¬ HexOK B l ∧ e = .returned (.tuple #[.string ⟨#[]⟩, .bool false]) ∧ Below w.heap.size w w')

theorem barOK_false {l : List UInt8} {B : Nat} (h : barOK l = false) : ¬ HexOK B l := fun h2 => by
  have := h2.1
  rw [h] at this
  exact absurd this (by decide)

/-- in the loop over the digits: the builder holds these bytes, the range stands at k -/
structure L2 (w5 : World) (L : List UInt8) (wr : World) : Prop where
  bu : IsBuilderF 83 5 w5.heap.size w5.heap.size (byteCells L) wr
  be : Below w5.heap.size w5 wr
  le : w5.heap.size < wr.heap.size
theorem L2.start (w5 : World) : L2 w5 [] (w5.alloc (.cells #[.pointer Option.none, .slice Option.none 0 0] 83)) :=
  ⟨IsBuilderF.of (fresh_isBuilder 83 5 w5), (Below.refl _ _).alloc (Nat.le_refl _) _, by simp⟩
theorem L2.go {w5 : World} {L : List UInt8} {wr w' : World} (h : L2 w5 L wr) (hb : Below wr.heap.size wr w') : L2 w5 L w' :=
  ⟨IsBuilderF.go h.bu hb, h.be.trans (hb.mono h.be.size), Nat.lt_of_lt_of_le h.le hb.size⟩
theorem L2.write {w5 : World} {L : List UInt8} {wr w' : World} (h : L2 w5 L wr) (s : ByteArray)
    (hw : BuilderAtF 83 5 w5.heap.size w5.heap.size (.pointer (some ⟨w5.heap.size, 0, Option.none⟩)) (byteCells L ++ strCells s) w') (hb : Below w5.heap.size wr w') : L2 w5 (L ++ s.data.toList) w' :=
  ⟨.inr (by rw [byteCells_append]; exact hw), h.be.trans hb, Nat.lt_of_lt_of_le h.le hb.size⟩
structure L1 (w5 : World) (tt : ByteArray) (k : Nat) (L : List UInt8) (wr : World) : Prop where
  it : wr.heap[w5.heap.size + 1]? = some (.stringIter tt k)
  bu : IsBuilderF 83 5 w5.heap.size w5.heap.size (byteCells L) wr
  be : Below w5.heap.size w5 wr
theorem L1.le {w5 : World} {tt : ByteArray} {k : Nat} {L : List UInt8} {wr : World} (h : L1 w5 tt k L wr) : w5.heap.size + 1 < wr.heap.size := (Array.getElem?_eq_some_iff.1 h.it).1
theorem L1.start (w5 : World) (tt : ByteArray) : L1 w5 tt 0 [] ((w5.alloc (.cells #[.pointer Option.none, .slice Option.none 0 0] 83)).iter tt 0) := by
  refine ⟨?_, ?_, ?_⟩
  · have := World.iter_heap (w5.alloc (.cells #[.pointer Option.none, .slice Option.none 0 0] 83)) tt 0
    simpa using this
  · exact (IsBuilderF.of (fresh_isBuilder 83 5 w5)).alloc _
  · exact ((Below.refl _ _).alloc (Nat.le_refl _) _).alloc (by simp) _
theorem L1.next {w5 : World} {tt : ByteArray} {k : Nat} {L : List UInt8} {wr : World} (h : L1 w5 tt k L wr) (j : Nat) : L1 w5 tt j L (wr.iterAt (w5.heap.size + 1) tt j) :=
  ⟨iterAt_heap _ _ _ _ _ h.it, h.bu.iterAt h.it j, below_iterAt h.be (by omega) _ _⟩
theorem L1.go {w5 : World} {tt : ByteArray} {k : Nat} {L : List UInt8} {wr w' : World} (h : L1 w5 tt k L wr) (hb : Below wr.heap.size wr w') : L1 w5 tt k L w' :=
  ⟨(hb.block _ h.le).trans h.it, IsBuilderF.go h.bu hb, h.be.trans (hb.mono h.be.size)⟩
theorem L1.write {w5 : World} {tt : ByteArray} {k : Nat} {L : List UInt8} {wr w' : World} (h : L1 w5 tt k L wr) (s : ByteArray)
    (hw : BuilderAtF 83 5 w5.heap.size w5.heap.size (.pointer (some ⟨w5.heap.size, 0, Option.none⟩)) (byteCells L ++ strCells s) w') (hb : Below w5.heap.size wr w') (ho : OthersKept 5 (some w5.heap.size) wr w') : L1 w5 tt k (L ++ s.data.toList) w' :=
  ⟨ho.iter h.it (by omega), .inr (by rw [byteCells_append]; exact hw), h.be.trans hb⟩

theorem drop_one (l : List UInt8) : (⟨l.toArray⟩ : ByteArray).extract 1 (⟨l.toArray⟩ : ByteArray).size = ⟨(l.drop 1).toArray⟩ := by
  apply ByteArray.ext
  rw [ByteArray.data_extract]
  apply Array.ext'
  rw [ba_size]
  cases l with
  | nil => rfl
  | cons x t => simp

set_option maxRecDepth 100000 in
set_option maxHeartbeats 4000000 in
theorem hexadecimal_any (l : List UInt8) (c : Int) (B kk K : Nat) (w : World) (hG : Globs w) (hT : GlobT K w) (hl : l.length ≤ 400) (hcB : (c = 120 ∧ B = 16 ∧ kk = 4) ∨ (c = 111 ∧ B = 8 ∧ kk = 3) ∨ (c = 98 ∧ B = 2 ∧ kk = 1)) :
    Calls Tryz.prog 22 #[.string ⟨l.toArray⟩, .int .u8 c] w (HexPost B l w) := by
  obtain ⟨w2, w3, w4, r2, r3, r4, r5, hb4⟩ := map_base w c B (by rcases hcB with h | h | h <;> omega)
  obtain ⟨m, hm⟩ := (hG.on hb4).mlen
  have r1 : (Instr.makeMap 79 Option.none).run Tryz.prog w = .ok (.map (some w.heap.size)) (w.alloc (.map #[] 0)) := by kernel_rfl
  have HPX := Lib.hid (Tryz.strings_HasPrefix ⟨l.toArray⟩ ⟨#[95]⟩ w4)
  have HSX := Lib.hid (Tryz.strings_HasSuffix ⟨l.toArray⟩ ⟨#[95]⟩ w4 (by rw [ba_size]; omega))
  have HCX := Lib.hid (Tryz.strings_Contains ⟨l.toArray⟩ ⟨#[95, 95]⟩ m w4 (by rw [ba_size]; omega) hm)
  rw [show (⟨l.toArray⟩ : ByteArray).data.toList = l from rfl, show (⟨#[95]⟩ : ByteArray).data.toList = [95] from rfl] at HPX HSX
  rw [show (⟨l.toArray⟩ : ByteArray).data.toList = l from rfl, show (⟨#[95, 95]⟩ : ByteArray).data.toList = [95, 95] from rfl] at HCX
  have HBO : Hid (barOK l = !(hasPrefix l [95] || hasSuffix l [95] || contains l [95, 95])) := Lib.hid rfl
  obtain ⟨p1, hp1⟩ : ∃ p1, hasPrefix l [95] = p1 := ⟨_, rfl⟩
  obtain ⟨p2, hp2⟩ : ∃ p2, hasSuffix l [95] = p2 := ⟨_, rfl⟩
  obtain ⟨p3, hp3⟩ : ∃ p3, contains l [95, 95] = p3 := ⟨_, rfl⟩
  rw [hp1] at HPX HBO
  rw [hp2] at HSX HBO
  rw [hp3] at HCX HBO
  have HRE := Lib.hid (rep_run l w4 (hG.on hb4) (by omega))
  obtain ⟨T0, hT0⟩ : ∃ T0 : ByteArray, T0 = ⟨l.toArray⟩ := ⟨_, rfl⟩
  rw [← hT0] at HPX HSX HCX HRE ⊢
  have HB4 := Lib.hid hb4
  have HGS := Lib.hid (hG.on hb4)
  have HTS := Lib.hid (hT.on hb4)
  clear hp1 hp2 hp3 hG hT hT0 hm hb4
  cases p1
  · cases p2
    · cases p3
      · obtain ⟨tt, htt⟩ : ∃ tt : ByteArray, tt = ⟨(noBars l).toArray⟩ := ⟨_, rfl⟩
        rw [← htt] at HRE
        have hts : tt.size = (noBars l).length := by rw [htt]; rfl
        have hnl := noBars_len l
        have HTT := Lib.hid htt
        have HTS2 := Lib.hid hts
        have hts400 : tt.size ≤ 400 := by omega
        have HBT : Hid (barOK l = true) := Lib.hid HBO.out
        clear htt hts hnl
        go_enter Tryz.func22, Tryz.ntmps22
        go_wp2_with (first
          | (go_at_call 51; refine HPX.out.mono ?_; rintro e w4 ⟨rfl, rfl⟩)
          | (go_at_call 52; refine HSX.out.mono ?_; rintro e w4 ⟨rfl, rfl⟩)
          | (go_at_call 53; refine HCX.out.mono ?_; rintro e w4 ⟨rfl, rfl⟩))
        refine HRE.out.mono ?_
        rintro e w5 ⟨rfl, hb5⟩
        have HB5 : Hid (Below w.heap.size w w5) := Lib.hid (HB4.out.trans (hb5.mono HB4.out.size))
        have HG5 := Lib.hid (HGS.out.on hb5)
        have HT5 := Lib.hid (HTS.out.on hb5)
        clear hb5
        go_wp2_with fail
        go_loopg [9, 10, 11] tt.size (fun g _ _ _ wr => ∃ k : Nat, k + g = tt.size ∧ (∀ x ∈ tt.data.toList.take k, okB B x) ∧ L1 w5 tt k (bitsL kk (tt.data.toList.take k)) wr)
        case atStart => exact ⟨0, by omega, by simp, by simpa [bitsL] using L1.start w5 tt⟩
        case round =>
          obtain ⟨k, hkg, hok, hL⟩ := hrel
          have HOK := Lib.hid hok
          have HL := Lib.hid hL
          have hit := hL.it
          clear hok hL
          by_cases hlt : k < tt.size
          · have hne1 := fun ty => run_next_any_at (P := Tryz.prog) wr (w5.heap.size + 1) tt k ty hit hlt
            clear hit
            by_cases hgood : tt[k].toNat < 128 ∧ okB B tt[k]
            · obtain ⟨hasc, hok1, hok2⟩ := hgood
              rw [decode_ascii tt k hlt hasc] at hne1
              simp only at hne1
              have HHX := Lib.hid (fun (W : World) => hex_any tt[k].toNat W (by omega))
              obtain ⟨v, hv⟩ : ∃ v : Nat, hexI tt[k].toNat = (v : Int) := ⟨(hexI tt[k].toNat).toNat, by omega⟩
              rw [hv] at HHX hok2
              have hvB : v < B := by omega
              have hB2 : 2 ≤ B ∧ B ≤ 16 := by rcases hcB with h | h | h <;> omega
              have hBk : B = 2 ^ kk := by rcases hcB with ⟨_, h1, h2⟩ | ⟨_, h1, h2⟩ | ⟨_, h1, h2⟩ <;> rw [h1, h2]
              have HBK := Lib.hid hBk
              have HV := Lib.hid hv
              have t0 : decide ((v : Int) < 0) = false := by rw [decide_eq_false_iff_not]; omega
              have t1 : decide ((B : Int) ≤ (v : Int)) = false := by rw [decide_eq_false_iff_not]; omega
              have t2 : decide (B ≤ v) = false := by rw [decide_eq_false_iff_not]; omega
              have HL2 := Lib.hid (HL.out.next (k + 1))
              generalize wr.iterAt (w5.heap.size + 1) tt (k + 1) = w6 at *
              clear hv hBk hok1 hok2
              go_wp2_with fail
              refine (HHX.out _).mono ?_
              rintro e w6 ⟨rfl, rfl⟩
              go_wp2_with fail
              rw [show ((v : Int) + (B : Int)) = ((v + B : Nat) : Int) from by push_cast; rfl]
              refine (fint_2 (v + B) K _ (HT5.out.on HL2.out.be) (by omega) (by omega)).mono ?_
              rintro e w7 ⟨rfl, hb7⟩
              have HL3 := Lib.hid (HL2.out.go hb7)
              clear hb7
              obtain ⟨Dd, hDd⟩ : ∃ Dd : ByteArray, Dd = ⟨(binD (v + B)).toArray⟩ := ⟨_, rfl⟩
              rw [← hDd]
              have hdsz : 1 ≤ Dd.size := by
                rw [hDd, ba_size]
                exact List.length_pos_iff.2 (binD_ne _)
              have HDX : Hid (Dd.extract 1 Dd.size = ⟨(bitsK kk v).toArray⟩) := Lib.hid (by
                rw [hDd, drop_one, HBK.out, binD_drop kk v (by rw [← HBK.out]; exact hvB)])
              clear hDd
              go_wp2_with fail
              rw [HDX.out]
              refine (bwrite _ _ _ ⟨(bitsK kk v).toArray⟩ w7 HL3.out.bu (by
                have e1 := bitsL_len kk (tt.data.toList.take k)
                have e2 : (tt.data.toList.take k).length ≤ k := List.length_take_le _ _
                have e3 := bitsK_len kk v
                have e4 : kk ≤ 4 := by rcases hcB with h | h | h <;> omega
                have e5 : kk * (tt.data.toList.take k).length ≤ 4 * k := Nat.mul_le_mul e4 e2
                rw [byteCells_length, e1, ba_size, e3]
                omega) (by have := HL3.out.le; omega)).mono ?_
              rintro e w8 ⟨rfl, hbw, hbb, hbo⟩
              have HL4 := Lib.hid (HL3.out.write _ hbw hbb hbo)
              clear hbw hbb hbo
              go_wp2_with fail
              go_roundg (tt.size - (k + 1))
              case measure => omega
              case rel =>
                have htk : tt.data.toList.take (k + 1) = tt.data.toList.take k ++ [tt[k]] := by
                  rw [List.take_succ_eq_append_getElem (by simpa using hlt)]; rfl
                refine ⟨k + 1, by omega, ?_, ?_⟩
                · intro x hx
                  rw [htk] at hx
                  rcases List.mem_append.1 hx with h1 | h1
                  · exact HOK.out x h1
                  · rw [List.mem_singleton] at h1
                    subst h1
                    exact ⟨by rw [HV.out]; omega, by rw [HV.out]; omega⟩
                · rw [htk, bitsL_snoc, HV.out]
                  exact HL4.out
            · have hbad : hexI tt[k].toNat < 0 ∨ (B : Int) ≤ hexI tt[k].toNat := by
                by_cases h1 : tt[k].toNat < 128
                · by_cases h2 : 0 ≤ hexI tt[k].toNat
                  · right
                    rcases Int.lt_or_le (hexI tt[k].toNat) B with h3 | h3
                    · exact absurd ⟨h1, h2, h3⟩ hgood
                    · exact h3
                  · left; omega
                · left; rw [hexI_high _ (by omega)]; decide
              have hnot : ¬ HexOK B l := fun h => by
                have hm := h.2 tt[k] (by rw [show noBars l = tt.data.toList from by rw [HTT.out]]; exact List.getElem_mem (by simpa using hlt))
                obtain ⟨h1, h2⟩ := hm
                omega
              obtain ⟨n, hn, hn2, hnb⟩ : ∃ n : Nat, (Utf8.decode tt k).1 = n ∧ n < 2147483648 ∧ (hexI n < 0 ∨ (B : Int) ≤ hexI n) := by
                by_cases h1 : tt[k].toNat < 128
                · rw [decode_ascii tt k hlt h1]
                  exact ⟨_, rfl, by omega, hbad⟩
                · have := decode_high tt k hlt (by omega)
                  exact ⟨_, rfl, by omega, .inl (by rw [hexI_high _ this.1]; decide)⟩
              rw [hn] at hne1
              have HHX := Lib.hid (fun (W : World) => hex_any n W hn2)
              have HL2 := Lib.hid (HL.out.next (k + (Utf8.decode tt k).2))
              generalize wr.iterAt (w5.heap.size + 1) tt (k + (Utf8.decode tt k).2) = w6 at *
              generalize hexI n = v at *
              have HNOT := Lib.hid hnot
              clear hn hbad hgood hnot
              rcases hnb with hv | hv
              · go_wp2_with fail
                refine (HHX.out _).mono ?_
                rintro e w6 ⟨rfl, rfl⟩
                go_wp2_with fail
                refine bodyPost_ret (v := .tuple #[.string ⟨#[]⟩, .bool false]) (by simp [results, Tryz.results22, go_sem]) rfl (.inr ⟨HNOT.out, rfl, HB5.out.trans (HL2.out.be.mono HB5.out.size)⟩)
              · have hv0 : decide (v < 0) = false := by rw [decide_eq_false_iff_not]; omega
                go_wp2_with fail
                refine (HHX.out _).mono ?_
                rintro e w6 ⟨rfl, rfl⟩
                go_wp2_with fail
                refine bodyPost_ret (v := .tuple #[.string ⟨#[]⟩, .bool false]) (by simp [results, Tryz.results22, go_sem]) rfl (.inr ⟨HNOT.out, rfl, HB5.out.trans (HL2.out.be.mono HB5.out.size)⟩)
          · have hne1 := fun ty => run_next_end_at (P := Tryz.prog) wr (w5.heap.size + 1) tt k ty hit hlt
            clear hit
            have hkt : k = tt.size := by omega
            subst hkt
            have hfull : tt.data.toList.take tt.size = tt.data.toList := List.take_of_length_le (by simp)
            have hL := HL.out
            have hok := HOK.out
            rw [hfull] at hL hok
            obtain ⟨P0, hP0⟩ : ∃ P0, P0 = bitsL kk tt.data.toList := ⟨_, rfl⟩
            rw [← hP0] at hL
            have hP0l : P0.length = kk * tt.size := by rw [hP0, bitsL_len]; simp
            have hkk4 : kk ≤ 4 ∧ 1 ≤ kk := by rcases hcB with h | h | h <;> omega
            have hP0m : P0.length ≤ 4 * tt.size := by rw [hP0l]; exact Nat.mul_le_mul hkk4.1 (Nat.le_refl _)
            have hP0n : tt.size ≤ P0.length := by rw [hP0l]; exact Nat.le_mul_of_pos_left _ hkk4.2
            have hbits : ∀ x ∈ P0, x.toNat = 48 ∨ x.toNat = 49 := by rw [hP0]; exact bitsL_bits _ _
            have hBk : B = 2 ^ kk := by rcases hcB with ⟨_, h1, h2⟩ | ⟨_, h1, h2⟩ | ⟨_, h1, h2⟩ <;> rw [h1, h2]
            have hval : dvl 2 P0 = bval B (noBars l) := by
              rw [hP0, hBk, show noBars l = tt.data.toList from by rw [HTT.out]]
              exact bitsL_val kk _ (by rw [← hBk]; exact hok)
            have hgood : HexOK B l := ⟨HBT.out, by rw [show noBars l = tt.data.toList from by rw [HTT.out]]; exact hok⟩
            have HBS := Lib.hid (Tryz.Builder_String_any_k w5.heap.size w5.heap.size P0 wr hL.bu (by have := hL.le; omega))
            have HLL := Lib.hid hL
            have HVAL := Lib.hid hval
            have HGOOD := Lib.hid hgood
            have HBITS := Lib.hid hbits
            have HTL := Lib.hid HTS2.out
            clear hfull hL hok hP0 hP0l hbits hBk hval hgood HOK HL hkg
            go_wp2_with fail
            refine HBS.out.mono ?_
            rintro e w9 ⟨rfl, _, hb9, _⟩
            have HB9 : Hid (Below w5.heap.size w5 w9) := Lib.hid (HLL.out.be.trans hb9)
            clear hb9
            obtain ⟨two, htwo⟩ : ∃ two : ByteArray, two = ⟨P0.toArray⟩ := ⟨_, rfl⟩
            rw [← htwo]
            have htwos : two.size = P0.length := by rw [htwo]; rfl
            have HTWO := Lib.hid htwo
            clear htwo
            go_wp2_with fail
            rw [show (-(((P0.length : Nat) : Int) % 4) % 4 : Int) = (((4 - P0.length % 4) % 4 : Nat) : Int) from by omega]
            have hzr := zeros_any ((4 - P0.length % 4) % 4 : Nat) w9 (by omega) (by omega)
            rw [Int.toNat_natCast] at hzr
            obtain ⟨Z0, hZ0⟩ : ∃ Z0 : ByteArray, Z0 = ⟨(List.replicate ((4 - P0.length % 4) % 4) 48).toArray⟩ := ⟨_, rfl⟩
            rw [← hZ0] at hzr
            have hT1l : (Z0 ++ two).data.toList = padB P0 := by
              rw [hZ0, HTWO.out]
              unfold padB
              simp
            have hz3 : Z0.size ≤ 3 := by rw [hZ0, ba_size, List.length_replicate]; omega
            have htw2 : two.size ≤ 1600 := by omega
            clear hZ0
            refine hzr.mono ?_
            clear hzr
            rintro e w10 ⟨rfl, hb10⟩
            have HB10 : Hid (Below w5.heap.size w5 w10) := Lib.hid (HB9.out.trans (hb10.mono HB9.out.size))
            clear hb10
            have hpl := padB_len P0
            have hpb := padB_bits P0 HBITS.out
            have hpv : dvl 2 (padB P0) = bval B (noBars l) := by rw [padB_val]; exact HVAL.out
            obtain ⟨P1, hP1⟩ : ∃ P1, P1 = padB P0 := ⟨_, rfl⟩
            rw [← hP1] at hT1l hpl hpb hpv
            obtain ⟨hpl1, hpl2⟩ := hpl
            have HT1 := Lib.hid hT1l
            have HPB := Lib.hid hpb
            have HPV := Lib.hid hpv
            have HG10 := Lib.hid (HG5.out.on HB10.out)
            have HT10 := Lib.hid (HT5.out.on HB10.out)
            have hP1g : P0.length ≤ P1.length := by rw [hP1]; unfold padB; rw [List.length_append]; omega
            clear hT1l hpb hpv hP1 htwos
            go_wp2_with fail
            go_loopg [12, 14, 15] (P1.length / 4) (fun g s12 _ _ wr' => ∃ (j : Nat) (T : ByteArray) (H : List UInt8), j + g = P1.length / 4 ∧ s12 = .string T ∧ T.data.toList = P1.drop (4 * j) ∧ (∀ x ∈ H, okD 16 x) ∧ dvl 16 H = dvl 2 (P1.take (4 * j)) ∧ H.length = j ∧ L2 w10 H wr')
            case atStart => exact ⟨0, Z0 ++ two, [], by omega, rfl, by simpa using HT1.out, by simp, by simp [dvl], rfl, L2.start w10⟩
            case round =>
              obtain ⟨j, T, H, hjg, rfl, hTl, hHd, hHv, hHl, hL2⟩ := hrel
              have hTs : T.size = P1.length - 4 * j := by
                have : T.size = T.data.toList.length := by simp
                rw [this, hTl, List.length_drop]
              have HTL := Lib.hid hTl
              have HHD := Lib.hid hHd
              have HHV := Lib.hid hHv
              have HL2 := Lib.hid hL2
              have HHL := Lib.hid hHl
              have HTS3 := Lib.hid hTs
              by_cases hj : 4 * j < P1.length
              · have h4 : 4 ≤ T.size := by omega
                have hne : T.toList.isEmpty = false := by
                  rw [ByteArray.toList_eq]
                  cases hh : T.data.toList with
                  | nil =>
                    exfalso
                    have h5 : T.size = T.data.toList.length := by simp
                    rw [hh, List.length_nil] at h5
                    omega
                  | cons x t => rfl
                have hne2 : ¬ T.toList = [] := by
                  intro hh; rw [hh] at hne; exact absurd hne (by decide)
                clear hTl hHd hHv hL2 hHl hTs
                have hS4 : (T.extract 0 4).data.toList = (P1.drop (4 * j)).take 4 := by
                  rw [ByteArray.data_extract, ← HTL.out]
                  simp
                have hE4 : (T.extract 4 T.size).data.toList = P1.drop (4 * (j + 1)) := by
                  rw [ByteArray.data_extract, Array.toList_extract, HTL.out]
                  have : T.size - 4 = (P1.drop (4 * j)).length - 4 := by rw [List.length_drop]; have := HTS3.out; omega
                  rw [List.extract_eq_take_drop, this, List.drop_drop, show 4 * j + 4 = 4 * (j + 1) by omega]
                  refine List.take_of_length_le ?_
                  rw [List.length_drop, List.length_drop]; omega
                have hS4s : (T.extract 0 4).size = 4 := by
                  have : (T.extract 0 4).size = (T.extract 0 4).data.toList.length := by simp
                  rw [this, hS4, List.length_take, List.length_drop]; omega
                have hS4b : ∀ i (h : i < (T.extract 0 4).size), (T.extract 0 4)[i].toNat = 48 ∨ (T.extract 0 4)[i].toNat = 49 := fun i h => by
                  have hm : (T.extract 0 4)[i] ∈ (T.extract 0 4).data.toList := List.getElem_mem (l := (T.extract 0 4).data.toList) (n := i) (by simpa using h)
                  rw [hS4] at hm
                  exact HPB.out _ (List.mem_of_mem_drop (List.mem_of_mem_take hm))
                have hvl := dvl2_lt _ hS4b 4 (by omega)
                rw [List.take_of_length_le (by rw [hS4, List.length_take]; omega)] at hvl
                have hPU := ppuint_2 (T.extract 0 4) wr (by omega) (by omega) hS4b
                have hTk : P1.take (4 * (j + 1)) = P1.take (4 * j) ++ (T.extract 0 4).data.toList := by
                  rw [hS4, show 4 * (j + 1) = 4 * j + 4 by omega, List.take_add]
                have hl4 : (T.extract 0 4).data.toList.length = 4 := by rw [← hS4s]; simp
                obtain ⟨v, hv⟩ : ∃ v, dvl 2 (T.extract 0 4).data.toList = v := ⟨_, rfl⟩
                rw [hv] at hvl hPU
                have HPU := Lib.hid hPU
                have HVV : Hid (dvl 2 (P1.take (4 * (j + 1))) = dvl 2 (P1.take (4 * j)) * 2 ^ 4 + v) := Lib.hid (by rw [hTk, dvl_app, hl4, hv])
                have HE4 := Lib.hid hE4
                clear hS4 hE4 hS4b hPU hTk hl4 hv
                go_wp2_with fail
                refine HPU.out.mono ?_
                rintro e w11 ⟨rfl, hb11⟩
                have HL3 := Lib.hid (HL2.out.go hb11)
                clear hb11
                go_wp2_with fail
                refine (fuint_16 v K _ (HT10.out.on HL3.out.be) (by omega)).mono ?_
                rintro e w12 ⟨hvd, rfl, hb12⟩
                have HL4 := Lib.hid (HL3.out.go hb12)
                clear hb12
                obtain ⟨D1, hD1⟩ : ∃ D1 : ByteArray, D1 = ⟨[DG[v]'hvd].toArray⟩ := ⟨_, rfl⟩
                rw [← hD1]
                have HD1 := Lib.hid hD1
                have hd1s : D1.size = 1 := by rw [hD1]; rfl
                clear hD1
                go_wp2_with fail
                refine (bwrite _ _ _ D1 _ HL4.out.bu (by rw [byteCells_length]; have := HHL.out; omega) (by have := HL4.out.le; omega)).mono ?_
                rintro e w13 ⟨rfl, hbw, hbb, hbo⟩
                have HL5 := Lib.hid (HL4.out.write _ hbw hbb)
                clear hbw hbb hbo
                go_wp2_with fail
                go_roundg (P1.length / 4 - (j + 1))
                case measure => omega
                case rel =>
                  obtain ⟨kd1, kd2⟩ := DG_dv ⟨v, by omega⟩ hvd
                  refine ⟨j + 1, T.extract 4 T.size, H ++ [DG[v]'hvd], by omega, rfl, HE4.out, ?_, ?_, by rw [List.length_append, HHL.out]; rfl, ?_⟩
                  · intro x hx
                    rcases List.mem_append.1 hx with h1 | h1
                    · exact HHD.out x h1
                    · rw [List.mem_singleton] at h1; subst h1; exact kd2
                  · rw [dvl_snoc, HHV.out, HVV.out, kd1]
                  · have := HL5.out
                    rw [HD1.out] at this
                    exact this
              · have hne : T.toList.isEmpty = true := by
                  rw [ByteArray.toList_eq, HTL.out, List.drop_eq_nil_of_le (by omega)]; rfl
                have hne2 : T.toList = [] := by
                  rw [ByteArray.toList_eq, HTL.out, List.drop_eq_nil_of_le (by omega)]
                have hHv2 : dvl 16 H = bval B (noBars l) := by
                  rw [hHv, List.take_of_length_le (by omega)]; exact HPV.out
                have HV2 := Lib.hid hHv2
                have hje : j = P1.length / 4 := by omega
                have HJE := Lib.hid hje
                have HBX := Lib.hid (Tryz.Builder_String_any_k w10.heap.size w10.heap.size H wr hL2.bu (by have := hL2.le; omega))
                have hHl2 : H.length ≤ (noBars l).length + 1 := by
                  have := HTS2.out
                  omega
                have HHL2 := Lib.hid hHl2
                have HHN : Hid (noBars l ≠ [] → H ≠ []) := Lib.hid fun hn hh => by
                  have h1 := List.length_pos_iff.2 hn
                  have h2 := HTS2.out
                  rw [hh, List.length_nil] at hHl
                  omega
                clear hTl hHd hHv hL2 hHl hTs hHv2 hje hjg hHl2
                go_wp2_with fail
                refine HBX.out.mono ?_
                rintro e w14 ⟨rfl, _, hb14, _⟩
                have HB14 : Hid (Below w.heap.size w w14) := Lib.hid ((HB5.out.trans (HB10.out.mono HB5.out.size)).trans ((HL2.out.be.trans hb14).mono (HB5.out.trans (HB10.out.mono HB5.out.size)).size))
                clear hb14
                obtain ⟨RH, hRH⟩ : ∃ RH : ByteArray, RH = ⟨H.toArray⟩ := ⟨_, rfl⟩
                rw [← hRH]
                have HRH := Lib.hid hRH
                clear hRH
                go_wp2_with fail
                refine bodyPost_ret (v := .tuple #[.string RH, .bool true]) (by simp [results, Tryz.results22, go_sem]) rfl (.inl ⟨HGOOD.out, H, HHD.out, HV2.out, HHL2.out, HHN.out, by rw [HRH.out], HB14.out⟩)
      · go_enter Tryz.func22, Tryz.ntmps22
        go_wp2_with (first
          | (go_at_call 51; refine HPX.out.mono ?_; rintro e w4 ⟨rfl, rfl⟩)
          | (go_at_call 52; refine HSX.out.mono ?_; rintro e w4 ⟨rfl, rfl⟩)
          | (go_at_call 53; refine HCX.out.mono ?_; rintro e w4 ⟨rfl, rfl⟩))
        refine bodyPost_ret (v := .tuple #[.string ⟨#[]⟩, .bool false]) (by simp [results, Tryz.results22, go_sem]) rfl (.inr ⟨barOK_false HBO.out, rfl, HB4.out⟩)
    · go_enter Tryz.func22, Tryz.ntmps22
      go_wp2_with (first
          | (go_at_call 51; refine HPX.out.mono ?_; rintro e w4 ⟨rfl, rfl⟩)
          | (go_at_call 52; refine HSX.out.mono ?_; rintro e w4 ⟨rfl, rfl⟩))
      refine bodyPost_ret (v := .tuple #[.string ⟨#[]⟩, .bool false]) (by simp [results, Tryz.results22, go_sem]) rfl (.inr ⟨barOK_false HBO.out, rfl, HB4.out⟩)
  · go_enter Tryz.func22, Tryz.ntmps22
    go_wp2_with fail
    refine HPX.out.mono ?_
    rintro e w4 ⟨rfl, rfl⟩
    go_wp2_with fail
    refine bodyPost_ret (v := .tuple #[.string ⟨#[]⟩, .bool false]) (by simp [results, Tryz.results22, go_sem]) rfl (.inr ⟨barOK_false HBO.out, rfl, HB4.out⟩)
end Go.Proofs.YtmhagigokgklaaaGreatDoor

/- atofHex of whole numbers (printed by gen_hex15.py). -/
namespace Go.Proofs.YtmhagigokgklaaaGreatDoor
open Go Go.RowKit
set_option exponentiation.threshold 5000

/-- the rung of a number whose unrounded digits, at two places, are m -/
theorem hex_near (N k J m : Nat) (hm : m = unr (N * 2 ^ k) (2 ^ (J + 2))) (h1 : 18014398509481984 ≤ m) (h2 : m < 36028797018963968) (hk : k ≤ 1076 + J) :
    Near (2 * (N * 2 ^ 1074)) 1 (min INF ((1076 + J - k) * BB + (m + 1 + m / 4 % 2) / 4)) := by
  have hG : 0 < 2 ^ (J + 2) := Nat.two_pow_pos _
  have hf : N * 2 ^ k / 2 ^ (J + 2) = m / 4 := by rw [hm, unr_floor _ _ hG]
  have hr := unr_round (N * 2 ^ k) (2 ^ (J + 2)) hG
  rw [← hm] at hr
  rw [hr]
  refine near_gap (by decide) hG ?_ (by rw [hf]; unfold BB; omega) (.inr (by rw [hf]; unfold BB; omega))
  rw [Nat.one_mul, Nat.mul_assoc 2, Nat.mul_assoc N, ← Nat.pow_add, Nat.mul_assoc N, ← Nat.pow_add]
  congr 3
  omega

/-- one step to the right -/
theorem hex_step (n J m : Nat) (hm : m = unr n (2 ^ (J + 2))) : m / 2 ||| m % 2 = unr n (2 ^ (J + 1 + 2)) := by
  rw [or_half, hm, unr_half _ _ (Nat.two_pow_pos _)]
  rw [show J + 1 + 2 = (J + 2) + 1 from by omega, Nat.pow_succ' (n := J + 2)]

theorem hex_up (m q : Nat) (_hq : q = m / 4) : (m % 4 ||| q % 2 = 3 → (m + 1 + m / 4 % 2) / 4 = q + 1) ∧ (¬ (m % 4 ||| q % 2 = 3) → (m + 1 + m / 4 % 2) / 4 = q) := by
  subst _hq
  have h4 := Nat.div_add_mod m 4
  have h2 := Nat.mod_two_eq_zero_or_one (m / 4)
  have hl := Nat.mod_lt m (show 0 < 4 by decide)
  generalize m % 4 = a at *
  generalize m / 4 = b at *
  rcases h2 with h2 | h2 <;> rw [h2] <;> rcases (by omega : a = 0 ∨ a = 1 ∨ a = 2 ∨ a = 3) with h | h | h | h <;> subst h <;> constructor <;> intro hh <;> first | omega | exact absurd hh (by decide) | exact absurd (by decide) hh

set_option maxRecDepth 100000 in
/-- the last bits -/
theorem hex_bits (q T : Nat) (h1 : 4503599627370496 ≤ q) (h2 : q < 9007199254740992) (hT : T < 2048) :
    bits .and .u64 (q : Int) 4503599627370495 = ((q - 4503599627370496 : Nat) : Int) ∧ bits .and .i64 (T : Int) 2047 = (T : Int) ∧
    bits .or .u64 ((q - 4503599627370496 : Nat) : Int) ((T : Int) * 4503599627370496) = ((T * 4503599627370496 + (q - 4503599627370496) : Nat) : Int) := by
  refine ⟨?_, ?_, ?_⟩
  · have h := u64_and_nat q 4503599627370495 (by omega) (by decide)
    have h3 : q &&& 4503599627370495 = q - 4503599627370496 := by
      have h4 : q &&& 4503599627370495 = q % 4503599627370496 := Nat.and_two_pow_sub_one_eq_mod q 52
      rw [h4]; omega
    rw [h3] at h
    exact h
  · have h := bits_and_2047 (T * 4503599627370496) T (by omega) (by omega) (by omega)
    rw [show ((T * 4503599627370496 : Nat) : Int) / 4503599627370496 = T from by omega] at h
    exact h
  · have h := bits_or_u64_nat (q - 4503599627370496) (T * 4503599627370496) (by omega) (by omega)
    rw [or_parts _ T (by omega)] at h
    exact h

set_option maxRecDepth 100000 in
theorem hex_leaf (N k J m q qf T : Nat) (hm : m = unr (N * 2 ^ k) (2 ^ (J + 2))) (h1 : 18014398509481984 ≤ m) (h2 : m < 36028797018963968) (hk : k ≤ 1076 + J)
    (hq : (m + 1 + m / 4 % 2) / 4 = q) (hf1 : 4503599627370496 ≤ qf) (hf2 : qf < 9007199254740992) (hT : T * BB + qf = (1077 + J - k) * BB + q) :
    (T < 2047 → Near (2 * (N * 2 ^ 1074)) 1 (T * 4503599627370496 + (qf - 4503599627370496)) ∧ T * 4503599627370496 + (qf - 4503599627370496) ≠ INF) ∧ (¬ T < 2047 → Near (2 * (N * 2 ^ 1074)) 1 INF) := by
  have hn := hex_near N k J m hm h1 h2 hk
  rw [hq] at hn
  have he : (1076 + J - k) * BB + q = T * BB + (qf - BB) := by
    have : (1077 + J - k) * BB = (1076 + J - k) * BB + BB := by
      rw [show 1077 + J - k = (1076 + J - k) + 1 from by omega, Nat.add_mul, Nat.one_mul]
    have hbq : BB ≤ qf := hf1
    clear hm hn hq h1 h2 hf1 hf2
    generalize (1077 + J - k) * BB = a at *
    generalize (1076 + J - k) * BB = b at *
    generalize T * BB = c at *
    omega
  rw [he] at hn
  refine ⟨fun h => ?_, fun h => ?_⟩
  · have hlt : T * BB + (qf - BB) < INF := by
      unfold BB INF
      omega
    rw [Nat.min_eq_right (Nat.le_of_lt hlt)] at hn
    exact ⟨hn, Nat.ne_of_lt hlt⟩
  · rw [Nat.min_eq_left] at hn
    · exact hn
    · unfold BB INF
      omega

theorem info_size : (Tryz.prog.info? 172).map (fun i => i.size != 0) = some true := by kernel_rfl

/-- what is asked of the digits held and dropped -/
structure HexIn (N mant J : Nat) (tr : Bool) : Prop where
  lt : mant < 18446744073709551616
  pos : 1 ≤ mant
  le : J ≤ 4000
  val : (if tr = true then mant ||| 1 else mant) = unr N (2 ^ (J + 2))
  big : (J = 0 ∧ tr = false) ∨ 576460752303423488 ≤ mant

def HxPost (N : Nat) (w : World) (e : Ending) (w' : World) : Prop := ∃ r, Near (2 * (N * 2 ^ 1074)) 1 r ∧ e = .returned (.tuple #[.float .f64 r, errV r]) ∧ ∃ n, w' = w.drewN n

theorem hex_start (N mant J0 k m : Nat) (hval : mant = unr N (2 ^ (J0 + 2))) (hbig : J0 = 0 ∨ 576460752303423488 ≤ mant) (hm : m = mant * 2 ^ k) (hk : k = 0 ∨ m < 36028797018963968) :
    m = unr (N * 2 ^ k) (2 ^ (J0 + 2)) := by
  rcases hk with h | h
  · rw [hm, h, Nat.pow_zero, Nat.mul_one, Nat.mul_one]; exact hval
  · rcases hbig with h0 | h0
    · rw [h0] at hval ⊢
      have e : ∀ n, unr n (2 ^ (0 + 2)) = n := fun n => by unfold unr; split <;> omega
      rw [e] at hval ⊢
      rw [hm, hval]
    · exfalso
      have h2 : mant ≤ mant * 2 ^ k := Nat.le_mul_of_pos_right _ (Nat.two_pow_pos k)
      omega

set_option maxRecDepth 100000 in
set_option maxHeartbeats 4000000 in
theorem atof_hex_false (st : ByteArray) (N mant J0 K : Nat) (w : World) (hg : GlobT K w) (hin : HexIn N mant J0 false) :
    Calls Tryz.prog 143 #[.string st, .pointer (some ⟨9, 0, Option.none⟩), .int .u64 mant, .int .i64 J0, .bool false, .bool false] w (HxPost N w) := by
  obtain ⟨i0, i1, i2⟩ := hg.inf
  obtain ⟨bca, bcb, bta, btb, k1, k2⟩ := hg.blk
  obtain ⟨j, hj, hjs⟩ := Option.map_eq_some_iff.1 info_size
  have heq : ∀ n : Nat, (binOp .eql 170 (.pointer (some ⟨9, 0, Option.none⟩)) (.pointer (some ⟨8, 0, Option.none⟩))).run Tryz.prog (w.drewN n) = .ok (.bool false) (w.drewN n) := fun n =>
    run_eql_ptr_other (w.drewN n) Tryz.underlying170 hj (by simpa using hjs) (by decide) k2 k1
  clear k1 k2 hj hjs
  obtain ⟨hlt, hpos, hle, hval, hbig⟩ := hin
  have HVAL := Lib.hid hval
  clear hval
  go_enter Tryz.func143, Tryz.ntmps143
  go_upto_region 1 with fail
  go_quiet (fail)
  go_wp2_with fail
  go_loopg [2, 3] 54 (fun g s2 s3 wr => ∃ (k m n : Nat) (x : Int), k + g = 54 ∧ m = mant * 2 ^ k ∧ x = (J0 : Int) + 52 - k ∧ (k = 0 ∨ m < 36028797018963968) ∧ s2 = .int .u64 m ∧ s3 = .int .i64 x ∧ wr = w.drewN n)
  case atStart => exact ⟨0, mant, _, _, by omega, by omega, rfl, .inl rfl, rfl, by go_num, rfl⟩
  case round =>
    obtain ⟨k, m, n, x, hkg, hm, hx, hk, rfl, rfl, rfl⟩ := hrel
    have hmb : m < 18446744073709551616 := by
      rcases hk with hk | hk
      · rw [hm, hk, Nat.pow_zero, Nat.mul_one]; exact hlt
      · omega
    have hmp : 1 ≤ m := by rw [hm]; exact Nat.mul_pos hpos (Nat.two_pow_pos k)
    have hne : ((m : Int) != 0) = true := by rw [bne_iff_ne]; omega
    have hHM := Lib.hid hm
    by_cases hc : m < 18014398509481984
    · have hq : ((m : Int) / 18014398509481984 == 0) = true := by rw [beq_iff_eq]; omega
      have hk54 : k < 54 := by
        rcases Nat.lt_or_ge k 54 with h | h
        · exact h
        · exfalso
          have : k = 54 := by omega
          subst this
          have : 2 ^ 54 * 1 ≤ 2 ^ 54 * mant := Nat.mul_le_mul_left _ hpos
          rw [Nat.mul_comm] at hm
          omega
      have hm2 : m * 2 = mant * 2 ^ (k + 1) := by rw [hm, Nat.pow_succ, Nat.mul_assoc]
      have HM2 := Lib.hid hm2
      clear hm hm2 hk
      go_wp2_with fail
      go_roundg (gk - 1)
      case measure => omega
      case rel => exact ⟨k + 1, m * 2, _, x - 1, by omega, HM2.out, by omega, .inr (by omega), by go_num, by go_num, rfl⟩
    · have hq : ((m : Int) / 18014398509481984 == 0) = false := by rw [beq_eq_false_iff_ne]; omega
      have HXX := Lib.hid hx
      have HKK := Lib.hid hk
      clear hm
      have HM1 : Hid (m = unr (N * 2 ^ k) (2 ^ (J0 + 2))) := Lib.hid (hex_start N mant J0 k m HVAL.out (by omega) hHM.out HKK.out)
      generalize hm1 : m = m1 at *
      go_wp2_with fail
      go_loopg [2, 3] 9 (fun g s2 s3 wr => ∃ (J m n : Nat) (x : Int), J + g ≤ J0 + 9 ∧ g ≤ 9 ∧ m = unr (N * 2 ^ k) (2 ^ (J + 2)) ∧ x = (J : Int) + 52 - k ∧ 18014398509481984 ≤ m ∧ m < 36028797018963968 * 2 ^ g ∧ s2 = .int .u64 m ∧ s3 = .int .i64 x ∧ wr = w.drewN n)
      case atStart => exact ⟨J0, m1, _, x, by omega, by omega, HM1.out, hx, by omega, by omega, rfl, rfl, rfl⟩
      clear hq hne hk hx
      clear hmb hmp hc
      case round =>
        obtain ⟨J, m, n, x, hJ, hg9, hm, hx, hlo, hhi, rfl, rfl, rfl⟩ := hrel
        have HM := Lib.hid hm
        have hn4 : ((m : Nat) : Int) / 4 = ((m / 4 : Nat) : Int) := by omega
        by_cases hc2 : m < 36028797018963968
        · have hq2 : ((m : Int) / 36028797018963968 != 0) = false := by rw [bne_eq_false_iff_eq]; omega
          clear hm
          go_wp2_with fail
          go_loopg [2, 3] 0 (fun _ s2 s3 wr => ∃ n : Nat, s2 = .int .u64 m ∧ s3 = .int .i64 x ∧ wr = w.drewN n)
          case atStart => exact ⟨_, rfl, rfl, rfl⟩
          case round =>
            obtain ⟨n, rfl, rfl, rfl⟩ := hrel
            have hx0 : ¬ (x < -1024) := by omega
            have hm1 : (1 : Int) < (m : Int) := by omega
            have HUP := Lib.hid (hex_up m (m / 4) rfl)
            have ha1 : bits .and .u64 (m : Int) 3 = ((m % 4 : Nat) : Int) := by
              have h := u64_and_nat m 3 (by omega) (by decide)
              rw [Nat.and_two_pow_sub_one_eq_mod m 2] at h
              exact h
            have ha2 : bits .and .u64 ((m / 4 : Nat) : Int) 1 = ((m / 4 % 2 : Nat) : Int) := by
              have h := u64_and_nat (m / 4) 1 (by omega) (by decide)
              rw [Nat.and_two_pow_sub_one_eq_mod (m / 4) 1] at h
              exact h
            have ha3 := bits_or_u64_nat (m % 4) (m / 4 % 2) (by omega) (by omega)
            have hqlo : 4503599627370496 ≤ m / 4 := by omega
            have hqhi : m / 4 < 9007199254740992 := by omega
            obtain ⟨q, hq⟩ : ∃ q, m / 4 = q := ⟨_, rfl⟩
            have HQ := Lib.hid hq
            rw [hq] at HUP ha2 ha3 hqlo hqhi hn4
            clear hq
            generalize m % 4 = ra at *
            obtain ⟨rb, hrb⟩ : ∃ rb, q % 2 = rb := ⟨_, rfl⟩
            have HRB := Lib.hid hrb
            rw [hrb] at HUP ha2 ha3
            clear hrb
            generalize hrc : ra ||| rb = rc at *
            have HX := Lib.hid hx
            have hxk : k ≤ 54 := by omega
            have hxj : x = (J : Int) + 52 - k := hx
            clear hx hhi
            by_cases hup : rc = 3
            · have hb : ((rc : Int) == 3) = true := by rw [beq_iff_eq]; omega
              by_cases hfu : q + 1 = 9007199254740992
              · have hb2 : ((q : Int) + 1) = 9007199254740992 := by omega
                obtain ⟨qf, hqf⟩ : ∃ qf : Nat, qf = 4503599627370496 := ⟨_, rfl⟩
                have hq5 : (9007199254740992 : Int) / 2 = (qf : Int) := by omega
                have hT0 : x + 2 + 1 - -1023 = ((J + 1078 - k : Nat) : Int) := by omega
                have hT3 : (1023 : Int) + (x + 2 + 1) = ((J + 1078 - k : Nat) : Int) := by omega
                have HNR := Lib.hid (hex_leaf N k J m (q + 1) (qf) (J + 1078 - k) HM.out hlo hc2 (by omega) (by rw [HQ.out, HRB.out]; have := HUP.out; exact this.1 hup) (by omega) (by omega) (by unfold BB; omega))
                by_cases hT : J + 1078 - k < 2047
                · have hT1 : ¬ (1023 < x + 2 + 1) := by omega
                  obtain ⟨f1, f2, f3⟩ := hex_bits (qf) (J + 1078 - k) (by omega) (by omega) (by omega)
                  have HR := Lib.hid (HNR.out.1 hT)
                  have hf1 : ((qf : Nat) : Int) / 4503599627370496 = 1 := by omega
                  clear hxj hqf
                  have hs := run_sfrom ((J + 1078 - k) * 4503599627370496 + (qf - 4503599627370496))
                  generalize J + 1078 - k = T at *
                  generalize T * 4503599627370496 + (qf - 4503599627370496) = R at *
                  generalize qf - 4503599627370496 = fr at *
                  clear HM hJ
                  go_upto_region 32 with fail
                  go_quiet (fail)
                  go_wp2_with fail
                  refine bodyPost_ret (v := .tuple #[.float .f64 R, .nilIface]) (by simp [results, Tryz.results143, go_sem]) rfl ⟨R, HR.out.1, by rw [show errV R = .nilIface from if_neg HR.out.2], _, rfl⟩
                · have hT1 : 1023 < x + 2 + 1 := by omega
                  have HR := Lib.hid (HNR.out.2 hT)
                  have hf1 : ((qf : Nat) : Int) / 4503599627370496 = 1 := by omega
                  have hs : ∀ W : World, (callFunc 151 #[.int .u64 9218868437227405312]).run Tryz.prog W = .ok (.value (.float .f64 9218868437227405312)) W := run_sfrom 9218868437227405312
                  have ho : bits .or .u64 0 9218868437227405312 = 9218868437227405312 := by decide +kernel
                  have ha : bits .and .u64 4503599627370496 4503599627370495 = 0 := by decide +kernel
                  have ha2 : bits .and .i64 2047 2047 = 2047 := by decide +kernel
                  clear hxj hqf
                  go_upto_region 32 with fail
                  go_quiet (fail)
                  go_wp2_with fail
                  refine bodyPost_ret (v := .tuple #[.float .f64 9218868437227405312, .iface 111 (.int .i64 1)]) (by simp [results, Tryz.results143, go_sem]) rfl ⟨INF, HR.out, rfl, _, rfl⟩
              · skip
                obtain ⟨qf, hqf⟩ : ∃ qf : Nat, qf = q + 1 := ⟨_, rfl⟩
                have hq6 : (q : Int) + 1 = (qf : Int) := by omega
                have hb2 : ((qf : Int) == 9007199254740992) = false := by rw [beq_eq_false_iff_ne]; omega
                have hT0 : x + 2 - -1023 = ((J + 1077 - k : Nat) : Int) := by omega
                have hT3 : (1023 : Int) + (x + 2) = ((J + 1077 - k : Nat) : Int) := by omega
                have HNR := Lib.hid (hex_leaf N k J m (q + 1) (qf) (J + 1077 - k) HM.out hlo hc2 (by omega) (by rw [HQ.out, HRB.out]; have := HUP.out; exact this.1 hup) (by omega) (by omega) (by unfold BB; omega))
                by_cases hT : J + 1077 - k < 2047
                · have hT1 : ¬ (1023 < x + 2) := by omega
                  obtain ⟨f1, f2, f3⟩ := hex_bits (qf) (J + 1077 - k) (by omega) (by omega) (by omega)
                  have HR := Lib.hid (HNR.out.1 hT)
                  have hf1 : ((qf : Nat) : Int) / 4503599627370496 = 1 := by omega
                  clear hxj hqf
                  have hs := run_sfrom ((J + 1077 - k) * 4503599627370496 + (qf - 4503599627370496))
                  generalize J + 1077 - k = T at *
                  generalize T * 4503599627370496 + (qf - 4503599627370496) = R at *
                  generalize qf - 4503599627370496 = fr at *
                  clear HM hJ
                  go_upto_region 32 with fail
                  go_quiet (fail)
                  go_wp2_with fail
                  refine bodyPost_ret (v := .tuple #[.float .f64 R, .nilIface]) (by simp [results, Tryz.results143, go_sem]) rfl ⟨R, HR.out.1, by rw [show errV R = .nilIface from if_neg HR.out.2], _, rfl⟩
                · have hT1 : 1023 < x + 2 := by omega
                  have HR := Lib.hid (HNR.out.2 hT)
                  have hf1 : ((qf : Nat) : Int) / 4503599627370496 = 1 := by omega
                  have hs : ∀ W : World, (callFunc 151 #[.int .u64 9218868437227405312]).run Tryz.prog W = .ok (.value (.float .f64 9218868437227405312)) W := run_sfrom 9218868437227405312
                  have ho : bits .or .u64 0 9218868437227405312 = 9218868437227405312 := by decide +kernel
                  have ha : bits .and .u64 4503599627370496 4503599627370495 = 0 := by decide +kernel
                  have ha2 : bits .and .i64 2047 2047 = 2047 := by decide +kernel
                  clear hxj hqf
                  go_upto_region 32 with fail
                  go_quiet (fail)
                  go_wp2_with fail
                  refine bodyPost_ret (v := .tuple #[.float .f64 9218868437227405312, .iface 111 (.int .i64 1)]) (by simp [results, Tryz.results143, go_sem]) rfl ⟨INF, HR.out, rfl, _, rfl⟩
            · have hb : ((rc : Int) == 3) = false := by rw [beq_eq_false_iff_ne]; omega
              have hT0 : x + 2 - -1023 = ((J + 1077 - k : Nat) : Int) := by omega
              have hT3 : (1023 : Int) + (x + 2) = ((J + 1077 - k : Nat) : Int) := by omega
              have HNR := Lib.hid (hex_leaf N k J m (q) (q) (J + 1077 - k) HM.out hlo hc2 (by omega) (by rw [HQ.out, HRB.out]; have := HUP.out; exact this.2 hup) (by omega) (by omega) (by unfold BB; omega))
              by_cases hT : J + 1077 - k < 2047
              · have hT1 : ¬ (1023 < x + 2) := by omega
                obtain ⟨f1, f2, f3⟩ := hex_bits (q) (J + 1077 - k) (by omega) (by omega) (by omega)
                have HR := Lib.hid (HNR.out.1 hT)
                have hf1 : ((q : Nat) : Int) / 4503599627370496 = 1 := by omega
                clear hxj
                have hs := run_sfrom ((J + 1077 - k) * 4503599627370496 + (q - 4503599627370496))
                generalize J + 1077 - k = T at *
                generalize T * 4503599627370496 + (q - 4503599627370496) = R at *
                generalize q - 4503599627370496 = fr at *
                clear HM hJ
                go_upto_region 32 with fail
                go_quiet (fail)
                go_wp2_with fail
                refine bodyPost_ret (v := .tuple #[.float .f64 R, .nilIface]) (by simp [results, Tryz.results143, go_sem]) rfl ⟨R, HR.out.1, by rw [show errV R = .nilIface from if_neg HR.out.2], _, rfl⟩
              · have hT1 : 1023 < x + 2 := by omega
                have HR := Lib.hid (HNR.out.2 hT)
                have hf1 : ((q : Nat) : Int) / 4503599627370496 = 1 := by omega
                have hs : ∀ W : World, (callFunc 151 #[.int .u64 9218868437227405312]).run Tryz.prog W = .ok (.value (.float .f64 9218868437227405312)) W := run_sfrom 9218868437227405312
                have ho : bits .or .u64 0 9218868437227405312 = 9218868437227405312 := by decide +kernel
                have ha : bits .and .u64 4503599627370496 4503599627370495 = 0 := by decide +kernel
                have ha2 : bits .and .i64 2047 2047 = 2047 := by decide +kernel
                clear hxj
                go_upto_region 32 with fail
                go_quiet (fail)
                go_wp2_with fail
                refine bodyPost_ret (v := .tuple #[.float .f64 9218868437227405312, .iface 111 (.int .i64 1)]) (by simp [results, Tryz.results143, go_sem]) rfl ⟨INF, HR.out, rfl, _, rfl⟩
        · have hq2 : ((m : Int) / 36028797018963968 != 0) = true := by rw [bne_iff_ne]; omega
          have HM3 := Lib.hid (hex_step _ _ _ hm)
          have hgp : 1 ≤ gk := by
            rcases Nat.eq_zero_or_pos gk with h | h
            · rw [h, Nat.pow_zero, Nat.mul_one] at hhi; omega
            · exact h
          have hmb : m < 18446744073709551616 := by
            have := Nat.mul_le_mul_left 36028797018963968 (Nat.pow_le_pow_right (show 0 < 2 by decide) (show gk ≤ 9 by omega))
            omega
          have ha1 : bits .and .u64 (m : Int) 1 = ((m % 2 : Nat) : Int) := by
            have h := u64_and_nat m 1 (by omega) (by decide)
            rw [Nat.and_two_pow_sub_one_eq_mod m 1] at h
            exact h
          have ha3 := bits_or_u64_nat (m / 2) (m % 2) (by omega) (by omega)
          have hoh := or_half m
          have hm3 : m / 2 ||| m % 2 < 36028797018963968 * 2 ^ (gk - 1) := by
            obtain ⟨g', rfl⟩ : ∃ g', gk = g' + 1 := ⟨gk - 1, by omega⟩
            rw [Nat.pow_succ] at hhi
            rw [Nat.add_sub_cancel, hoh]
            generalize 2 ^ g' = P at *
            split <;> omega
          have hm4 : 18014398509481984 ≤ m / 2 ||| m % 2 := by
            rw [hoh]; split <;> omega
          obtain ⟨mh, hmh⟩ : ∃ mh, m / 2 = mh := ⟨_, rfl⟩
          have hn2 : ((m : Nat) : Int) / 2 = (mh : Int) := by omega
          have hHM3 := HM3.out
          rw [hmh] at ha3 hm3 hm4 hHM3
          clear hmh HM3 hoh
          generalize m % 2 = ml at *
          generalize mh ||| ml = m2 at *
          have HM3 := Lib.hid hHM3
          clear hHM3
          have HHI := Lib.hid hhi
          have HM4 := Lib.hid hm3
          clear hhi hm3 hm
          go_wp2_with fail
          go_roundg (gk - 1)
          case measure => omega
          case rel => exact ⟨J + 1, m2, _, x + 1, by omega, by omega, HM3.out, by omega, hm4, HM4.out, by go_num, by go_num, rfl⟩
set_option maxRecDepth 100000 in
set_option maxHeartbeats 4000000 in
theorem atof_hex_true (st : ByteArray) (N mant J0 K : Nat) (w : World) (hg : GlobT K w) (hin : HexIn N mant J0 true) :
    Calls Tryz.prog 143 #[.string st, .pointer (some ⟨9, 0, Option.none⟩), .int .u64 mant, .int .i64 J0, .bool false, .bool true] w (HxPost N w) := by
  obtain ⟨i0, i1, i2⟩ := hg.inf
  obtain ⟨bca, bcb, bta, btb, k1, k2⟩ := hg.blk
  obtain ⟨j, hj, hjs⟩ := Option.map_eq_some_iff.1 info_size
  have heq : ∀ n : Nat, (binOp .eql 170 (.pointer (some ⟨9, 0, Option.none⟩)) (.pointer (some ⟨8, 0, Option.none⟩))).run Tryz.prog (w.drewN n) = .ok (.bool false) (w.drewN n) := fun n =>
    run_eql_ptr_other (w.drewN n) Tryz.underlying170 hj (by simpa using hjs) (by decide) k2 k1
  clear k1 k2 hj hjs
  obtain ⟨hlt, hpos, hle, hval, hbig⟩ := hin
  have HVAL := Lib.hid hval
  clear hval
  go_enter Tryz.func143, Tryz.ntmps143
  go_upto_region 1 with fail
  go_quiet (fail)
  go_wp2_with fail
  go_loopg [2, 3] 54 (fun g s2 s3 wr => ∃ (k m n : Nat) (x : Int), k + g = 54 ∧ m = mant * 2 ^ k ∧ x = (J0 : Int) + 52 - k ∧ (k = 0 ∨ m < 36028797018963968) ∧ s2 = .int .u64 m ∧ s3 = .int .i64 x ∧ wr = w.drewN n)
  case atStart => exact ⟨0, mant, _, _, by omega, by omega, rfl, .inl rfl, rfl, by go_num, rfl⟩
  case round =>
    obtain ⟨k, m, n, x, hkg, hm, hx, hk, rfl, rfl, rfl⟩ := hrel
    have hmb : m < 18446744073709551616 := by
      rcases hk with hk | hk
      · rw [hm, hk, Nat.pow_zero, Nat.mul_one]; exact hlt
      · omega
    have hmp : 1 ≤ m := by rw [hm]; exact Nat.mul_pos hpos (Nat.two_pow_pos k)
    have hne : ((m : Int) != 0) = true := by rw [bne_iff_ne]; omega
    have hHM := Lib.hid hm
    by_cases hc : m < 18014398509481984
    · have hq : ((m : Int) / 18014398509481984 == 0) = true := by rw [beq_iff_eq]; omega
      have hk54 : k < 54 := by
        rcases Nat.lt_or_ge k 54 with h | h
        · exact h
        · exfalso
          have : k = 54 := by omega
          subst this
          have : 2 ^ 54 * 1 ≤ 2 ^ 54 * mant := Nat.mul_le_mul_left _ hpos
          rw [Nat.mul_comm] at hm
          omega
      have hm2 : m * 2 = mant * 2 ^ (k + 1) := by rw [hm, Nat.pow_succ, Nat.mul_assoc]
      have HM2 := Lib.hid hm2
      clear hm hm2 hk
      go_wp2_with fail
      go_roundg (gk - 1)
      case measure => omega
      case rel => exact ⟨k + 1, m * 2, _, x - 1, by omega, HM2.out, by omega, .inr (by omega), by go_num, by go_num, rfl⟩
    · have hq : ((m : Int) / 18014398509481984 == 0) = false := by rw [beq_eq_false_iff_ne]; omega
      have HXX := Lib.hid hx
      have HKK := Lib.hid hk
      clear hm
      have hk0 : k = 0 := by
        rcases hk with h | h
        · exact h
        · exfalso
          have h1 := hHM.out
          have h2 : mant ≤ mant * 2 ^ k := Nat.le_mul_of_pos_right _ (Nat.two_pow_pos k)
          rw [← h1] at h2
          rcases hbig with ⟨_, hb⟩ | hb
          · simp at hb
          · omega
      obtain ⟨m1, hm1⟩ : ∃ m1, m ||| 1 = m1 := ⟨_, rfl⟩
      have ho : bits .or .u64 (m : Int) 1 = (m1 : Int) := by
        have h := bits_or_u64_nat m 1 hmb (by decide)
        rw [hm1] at h; exact h
      have HM1 : Hid (m1 = unr (N * 2 ^ k) (2 ^ (J0 + 2))) := Lib.hid (by rw [← hm1, hHM.out, hk0, Nat.pow_zero, Nat.mul_one, Nat.mul_one]; exact HVAL.out)
      have hlo1 : 18014398509481984 ≤ m1 := by
        have : m ≤ m ||| 1 := Nat.left_le_or
        omega
      have hhi1 : m1 < 18446744073709551616 := by
        rw [← hm1]; exact Nat.or_lt_two_pow (n := 64) hmb (by decide)
      clear hm1 hk0
      go_wp2_with fail
      go_loopg [2, 3] 9 (fun g s2 s3 wr => ∃ (J m n : Nat) (x : Int), J + g ≤ J0 + 9 ∧ g ≤ 9 ∧ m = unr (N * 2 ^ k) (2 ^ (J + 2)) ∧ x = (J : Int) + 52 - k ∧ 18014398509481984 ≤ m ∧ m < 36028797018963968 * 2 ^ g ∧ s2 = .int .u64 m ∧ s3 = .int .i64 x ∧ wr = w.drewN n)
      case atStart => exact ⟨J0, m1, _, x, by omega, by omega, HM1.out, hx, by omega, by omega, rfl, rfl, rfl⟩
      clear hq hne hk hx
      clear hmb hmp hc
      case round =>
        obtain ⟨J, m, n, x, hJ, hg9, hm, hx, hlo, hhi, rfl, rfl, rfl⟩ := hrel
        have HM := Lib.hid hm
        have hn4 : ((m : Nat) : Int) / 4 = ((m / 4 : Nat) : Int) := by omega
        by_cases hc2 : m < 36028797018963968
        · have hq2 : ((m : Int) / 36028797018963968 != 0) = false := by rw [bne_eq_false_iff_eq]; omega
          clear hm
          go_wp2_with fail
          go_loopg [2, 3] 0 (fun _ s2 s3 wr => ∃ n : Nat, s2 = .int .u64 m ∧ s3 = .int .i64 x ∧ wr = w.drewN n)
          case atStart => exact ⟨_, rfl, rfl, rfl⟩
          case round =>
            obtain ⟨n, rfl, rfl, rfl⟩ := hrel
            have hx0 : ¬ (x < -1024) := by omega
            have hm1 : (1 : Int) < (m : Int) := by omega
            have HUP := Lib.hid (hex_up m (m / 4) rfl)
            have ha1 : bits .and .u64 (m : Int) 3 = ((m % 4 : Nat) : Int) := by
              have h := u64_and_nat m 3 (by omega) (by decide)
              rw [Nat.and_two_pow_sub_one_eq_mod m 2] at h
              exact h
            have ha2 : bits .and .u64 ((m / 4 : Nat) : Int) 1 = ((m / 4 % 2 : Nat) : Int) := by
              have h := u64_and_nat (m / 4) 1 (by omega) (by decide)
              rw [Nat.and_two_pow_sub_one_eq_mod (m / 4) 1] at h
              exact h
            have ha3 := bits_or_u64_nat (m % 4) (m / 4 % 2) (by omega) (by omega)
            have hqlo : 4503599627370496 ≤ m / 4 := by omega
            have hqhi : m / 4 < 9007199254740992 := by omega
            obtain ⟨q, hq⟩ : ∃ q, m / 4 = q := ⟨_, rfl⟩
            have HQ := Lib.hid hq
            rw [hq] at HUP ha2 ha3 hqlo hqhi hn4
            clear hq
            generalize m % 4 = ra at *
            obtain ⟨rb, hrb⟩ : ∃ rb, q % 2 = rb := ⟨_, rfl⟩
            have HRB := Lib.hid hrb
            rw [hrb] at HUP ha2 ha3
            clear hrb
            generalize hrc : ra ||| rb = rc at *
            have HX := Lib.hid hx
            have hxk : k ≤ 54 := by omega
            have hxj : x = (J : Int) + 52 - k := hx
            clear hx hhi
            by_cases hup : rc = 3
            · have hb : ((rc : Int) == 3) = true := by rw [beq_iff_eq]; omega
              by_cases hfu : q + 1 = 9007199254740992
              · have hb2 : ((q : Int) + 1) = 9007199254740992 := by omega
                obtain ⟨qf, hqf⟩ : ∃ qf : Nat, qf = 4503599627370496 := ⟨_, rfl⟩
                have hq5 : (9007199254740992 : Int) / 2 = (qf : Int) := by omega
                have hT0 : x + 2 + 1 - -1023 = ((J + 1078 - k : Nat) : Int) := by omega
                have hT3 : (1023 : Int) + (x + 2 + 1) = ((J + 1078 - k : Nat) : Int) := by omega
                have HNR := Lib.hid (hex_leaf N k J m (q + 1) (qf) (J + 1078 - k) HM.out hlo hc2 (by omega) (by rw [HQ.out, HRB.out]; have := HUP.out; exact this.1 hup) (by omega) (by omega) (by unfold BB; omega))
                by_cases hT : J + 1078 - k < 2047
                · have hT1 : ¬ (1023 < x + 2 + 1) := by omega
                  obtain ⟨f1, f2, f3⟩ := hex_bits (qf) (J + 1078 - k) (by omega) (by omega) (by omega)
                  have HR := Lib.hid (HNR.out.1 hT)
                  have hf1 : ((qf : Nat) : Int) / 4503599627370496 = 1 := by omega
                  clear hxj hqf
                  have hs := run_sfrom ((J + 1078 - k) * 4503599627370496 + (qf - 4503599627370496))
                  generalize J + 1078 - k = T at *
                  generalize T * 4503599627370496 + (qf - 4503599627370496) = R at *
                  generalize qf - 4503599627370496 = fr at *
                  clear HM hJ
                  go_upto_region 32 with fail
                  go_quiet (fail)
                  go_wp2_with fail
                  refine bodyPost_ret (v := .tuple #[.float .f64 R, .nilIface]) (by simp [results, Tryz.results143, go_sem]) rfl ⟨R, HR.out.1, by rw [show errV R = .nilIface from if_neg HR.out.2], _, rfl⟩
                · have hT1 : 1023 < x + 2 + 1 := by omega
                  have HR := Lib.hid (HNR.out.2 hT)
                  have hf1 : ((qf : Nat) : Int) / 4503599627370496 = 1 := by omega
                  have hs : ∀ W : World, (callFunc 151 #[.int .u64 9218868437227405312]).run Tryz.prog W = .ok (.value (.float .f64 9218868437227405312)) W := run_sfrom 9218868437227405312
                  have ho : bits .or .u64 0 9218868437227405312 = 9218868437227405312 := by decide +kernel
                  have ha : bits .and .u64 4503599627370496 4503599627370495 = 0 := by decide +kernel
                  have ha2 : bits .and .i64 2047 2047 = 2047 := by decide +kernel
                  clear hxj hqf
                  go_upto_region 32 with fail
                  go_quiet (fail)
                  go_wp2_with fail
                  refine bodyPost_ret (v := .tuple #[.float .f64 9218868437227405312, .iface 111 (.int .i64 1)]) (by simp [results, Tryz.results143, go_sem]) rfl ⟨INF, HR.out, rfl, _, rfl⟩
              · skip
                obtain ⟨qf, hqf⟩ : ∃ qf : Nat, qf = q + 1 := ⟨_, rfl⟩
                have hq6 : (q : Int) + 1 = (qf : Int) := by omega
                have hb2 : ((qf : Int) == 9007199254740992) = false := by rw [beq_eq_false_iff_ne]; omega
                have hT0 : x + 2 - -1023 = ((J + 1077 - k : Nat) : Int) := by omega
                have hT3 : (1023 : Int) + (x + 2) = ((J + 1077 - k : Nat) : Int) := by omega
                have HNR := Lib.hid (hex_leaf N k J m (q + 1) (qf) (J + 1077 - k) HM.out hlo hc2 (by omega) (by rw [HQ.out, HRB.out]; have := HUP.out; exact this.1 hup) (by omega) (by omega) (by unfold BB; omega))
                by_cases hT : J + 1077 - k < 2047
                · have hT1 : ¬ (1023 < x + 2) := by omega
                  obtain ⟨f1, f2, f3⟩ := hex_bits (qf) (J + 1077 - k) (by omega) (by omega) (by omega)
                  have HR := Lib.hid (HNR.out.1 hT)
                  have hf1 : ((qf : Nat) : Int) / 4503599627370496 = 1 := by omega
                  clear hxj hqf
                  have hs := run_sfrom ((J + 1077 - k) * 4503599627370496 + (qf - 4503599627370496))
                  generalize J + 1077 - k = T at *
                  generalize T * 4503599627370496 + (qf - 4503599627370496) = R at *
                  generalize qf - 4503599627370496 = fr at *
                  clear HM hJ
                  go_upto_region 32 with fail
                  go_quiet (fail)
                  go_wp2_with fail
                  refine bodyPost_ret (v := .tuple #[.float .f64 R, .nilIface]) (by simp [results, Tryz.results143, go_sem]) rfl ⟨R, HR.out.1, by rw [show errV R = .nilIface from if_neg HR.out.2], _, rfl⟩
                · have hT1 : 1023 < x + 2 := by omega
                  have HR := Lib.hid (HNR.out.2 hT)
                  have hf1 : ((qf : Nat) : Int) / 4503599627370496 = 1 := by omega
                  have hs : ∀ W : World, (callFunc 151 #[.int .u64 9218868437227405312]).run Tryz.prog W = .ok (.value (.float .f64 9218868437227405312)) W := run_sfrom 9218868437227405312
                  have ho : bits .or .u64 0 9218868437227405312 = 9218868437227405312 := by decide +kernel
                  have ha : bits .and .u64 4503599627370496 4503599627370495 = 0 := by decide +kernel
                  have ha2 : bits .and .i64 2047 2047 = 2047 := by decide +kernel
                  clear hxj hqf
                  go_upto_region 32 with fail
                  go_quiet (fail)
                  go_wp2_with fail
                  refine bodyPost_ret (v := .tuple #[.float .f64 9218868437227405312, .iface 111 (.int .i64 1)]) (by simp [results, Tryz.results143, go_sem]) rfl ⟨INF, HR.out, rfl, _, rfl⟩
            · have hb : ((rc : Int) == 3) = false := by rw [beq_eq_false_iff_ne]; omega
              have hT0 : x + 2 - -1023 = ((J + 1077 - k : Nat) : Int) := by omega
              have hT3 : (1023 : Int) + (x + 2) = ((J + 1077 - k : Nat) : Int) := by omega
              have HNR := Lib.hid (hex_leaf N k J m (q) (q) (J + 1077 - k) HM.out hlo hc2 (by omega) (by rw [HQ.out, HRB.out]; have := HUP.out; exact this.2 hup) (by omega) (by omega) (by unfold BB; omega))
              by_cases hT : J + 1077 - k < 2047
              · have hT1 : ¬ (1023 < x + 2) := by omega
                obtain ⟨f1, f2, f3⟩ := hex_bits (q) (J + 1077 - k) (by omega) (by omega) (by omega)
                have HR := Lib.hid (HNR.out.1 hT)
                have hf1 : ((q : Nat) : Int) / 4503599627370496 = 1 := by omega
                clear hxj
                have hs := run_sfrom ((J + 1077 - k) * 4503599627370496 + (q - 4503599627370496))
                generalize J + 1077 - k = T at *
                generalize T * 4503599627370496 + (q - 4503599627370496) = R at *
                generalize q - 4503599627370496 = fr at *
                clear HM hJ
                go_upto_region 32 with fail
                go_quiet (fail)
                go_wp2_with fail
                refine bodyPost_ret (v := .tuple #[.float .f64 R, .nilIface]) (by simp [results, Tryz.results143, go_sem]) rfl ⟨R, HR.out.1, by rw [show errV R = .nilIface from if_neg HR.out.2], _, rfl⟩
              · have hT1 : 1023 < x + 2 := by omega
                have HR := Lib.hid (HNR.out.2 hT)
                have hf1 : ((q : Nat) : Int) / 4503599627370496 = 1 := by omega
                have hs : ∀ W : World, (callFunc 151 #[.int .u64 9218868437227405312]).run Tryz.prog W = .ok (.value (.float .f64 9218868437227405312)) W := run_sfrom 9218868437227405312
                have ho : bits .or .u64 0 9218868437227405312 = 9218868437227405312 := by decide +kernel
                have ha : bits .and .u64 4503599627370496 4503599627370495 = 0 := by decide +kernel
                have ha2 : bits .and .i64 2047 2047 = 2047 := by decide +kernel
                clear hxj
                go_upto_region 32 with fail
                go_quiet (fail)
                go_wp2_with fail
                refine bodyPost_ret (v := .tuple #[.float .f64 9218868437227405312, .iface 111 (.int .i64 1)]) (by simp [results, Tryz.results143, go_sem]) rfl ⟨INF, HR.out, rfl, _, rfl⟩
        · have hq2 : ((m : Int) / 36028797018963968 != 0) = true := by rw [bne_iff_ne]; omega
          have HM3 := Lib.hid (hex_step _ _ _ hm)
          have hgp : 1 ≤ gk := by
            rcases Nat.eq_zero_or_pos gk with h | h
            · rw [h, Nat.pow_zero, Nat.mul_one] at hhi; omega
            · exact h
          have hmb : m < 18446744073709551616 := by
            have := Nat.mul_le_mul_left 36028797018963968 (Nat.pow_le_pow_right (show 0 < 2 by decide) (show gk ≤ 9 by omega))
            omega
          have ha1 : bits .and .u64 (m : Int) 1 = ((m % 2 : Nat) : Int) := by
            have h := u64_and_nat m 1 (by omega) (by decide)
            rw [Nat.and_two_pow_sub_one_eq_mod m 1] at h
            exact h
          have ha3 := bits_or_u64_nat (m / 2) (m % 2) (by omega) (by omega)
          have hoh := or_half m
          have hm3 : m / 2 ||| m % 2 < 36028797018963968 * 2 ^ (gk - 1) := by
            obtain ⟨g', rfl⟩ : ∃ g', gk = g' + 1 := ⟨gk - 1, by omega⟩
            rw [Nat.pow_succ] at hhi
            rw [Nat.add_sub_cancel, hoh]
            generalize 2 ^ g' = P at *
            split <;> omega
          have hm4 : 18014398509481984 ≤ m / 2 ||| m % 2 := by
            rw [hoh]; split <;> omega
          obtain ⟨mh, hmh⟩ : ∃ mh, m / 2 = mh := ⟨_, rfl⟩
          have hn2 : ((m : Nat) : Int) / 2 = (mh : Int) := by omega
          have hHM3 := HM3.out
          rw [hmh] at ha3 hm3 hm4 hHM3
          clear hmh HM3 hoh
          generalize m % 2 = ml at *
          generalize mh ||| ml = m2 at *
          have HM3 := Lib.hid hHM3
          clear hHM3
          have HHI := Lib.hid hhi
          have HM4 := Lib.hid hm3
          clear hhi hm3 hm
          go_wp2_with fail
          go_roundg (gk - 1)
          case measure => omega
          case rel => exact ⟨J + 1, m2, _, x + 1, by omega, by omega, HM3.out, by omega, hm4, HM4.out, by go_num, by go_num, rfl⟩
end Go.Proofs.YtmhagigokgklaaaGreatDoor
