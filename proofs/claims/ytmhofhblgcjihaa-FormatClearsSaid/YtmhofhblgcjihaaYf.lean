/- The law FormatClears, walked: it returns true. -/
import Derived.Test.YtmhofhblgcjihaaYe
import Derived.Deep.CutBlock
namespace Go.Proofs.Ytmhofhblgcjihaa
open Go Go.RowKit Go.Shelf

theorem st_lenI' {w W : World} {b : Nat} {l : List Ab} (h : St w b l W) (c : Int) (hc : (l.length : Int) = c) :
    Calls Try.prog 13 #[.pointer (some ⟨b, 0, Option.none⟩)] W fun e W' => e = .returned (.int .i64 c) ∧ W = W' := by
  rw [← hc]; exact st_len h l.length rfl

/-- from later on -/
theorem St.sk2 {w wo W : World} {b : Nat} {l : List Ab} (h : St w b l wo) (hb : Below wo.heap.size wo W) : ∃ S, Sk W S b l W ∧ (∀ k, S k → k < wo.heap.size) ∧ ∀ W', Keeps S W W' → Below w.heap.size w W' := by
  obtain ⟨v, es, h0, h1, h2⟩ := h.ex
  have hB := h.below.trans (hb.mono h.below.size)
  exact ⟨fp b v, ⟨⟨v, es, h0, h1.below hb, fun k hk => .inl hk⟩, Keeps.refl _ _⟩, fun k hk => h1.lt k hk, fun W' hk => hB.trans (hk.below hB.size h2)⟩

set_option maxRecDepth 100000 in
set_option maxHeartbeats 8000000 in
theorem clears_walk (kv1 kv2 : Value) (ks ls : List Int) (w : World) (hk : IntsAt w kv1 ks) (hl : IntsAt w kv2 ls) :
    Calls Try.prog 5 #[kv1, kv2] w fun e w' => e = .returned (.bool true) ∧ Below w.heap.size w w' := by
  obtain ⟨n0, ni, nz0, nz1, nz2⟩ := info_parts infoInt
  have nt : Try.prog.underlying 22 = some (.slice 3) := Try.underlying22
  have hlen := hk.len
  have hlen2 := hl.len
  obtain ⟨va, vc, rfl⟩ := hk.form
  obtain ⟨ua, uc, rfl⟩ := hl.form
  have HK := Lib.hid hk
  have HL := Lib.hid hl
  have hone := one_str
  clear hk hl
  go_enter Try.func5, Try.ntmps5
  go_wp2_with fail
  refine (works_any _).mono ?_
  rintro e w1 ⟨rfl, hb1⟩
  have s0 : St w w1.heap.size [] (w1.alloc (.cells #[.slice Option.none 0 0] 27)) := St.new hb1 _ rfl
  clear hb1
  go_upto_block 0 with fail
  go_cut [7] from 22 to 45 (fun _ wx => ∃ B : List Ab, St w w1.heap.size B wx ∧ AInv B ∧ B.length ≤ 300)
  case first =>
    go_wp2_with fail
    go_loopw [7] (fun i wr => ∃ k : Nat, k ≤ ks.length ∧ k ≤ 300 ∧ i = .int .i64 k ∧ ∃ B : List Ab, St w w1.heap.size B wr ∧ AInv B ∧ B.length ≤ k) (fun i _ => ks.length - (intOf i).toNat)
    case atStart => exact ⟨0, by omega, by omega, rfl, [], s0, (fun x h => by simp at h), by simp⟩
    case round =>
      obtain ⟨k, hk1, hk2, rfl, B, s1, hA, hBl⟩ := hrel
      clear s0
      have HA := Lib.hid hA
      clear hA
      by_cases hgo : k < ks.length ∧ k < 300
      · obtain ⟨hlt, hlt2⟩ := hgo
        obtain ⟨b, off, rfl, _, hbl, hc⟩ := ints_at HK.out hlt
        have hcr := (s1.below.cell (p := ⟨b, off + k, Option.none⟩) hbl).trans hc
        generalize ks[k] = kk at *
        have hw1 : IntKind.i64.wrap ((k : Int) + 1) = (k : Int) + 1 := by rw [IntKind.wrap_i64]; omega
        obtain ⟨hp1, hp2⟩ := HA.out.push ⟨(k : Int) + 1, (⟨#[104, 116, 109, 108]⟩ : ByteArray), strOfNums [97 + kk % 256 % 5]⟩ (by simp; omega)
        have HP1 := Lib.hid hp1
        have hal : Below wr.heap.size wr (wr.alloc (.cells #[.int .u8 (97 + kk % 256 % 5)] 5)) := (Below.refl _ _).alloc (Nat.le_refl _) _
        have s2 := s1.go hal
        have S2 := Lib.hid s2
        clear hp1 hal s2
        go_wp2_with fail
        refine (elem_any (k + 1) _ _).mono ?_
        rintro e w2 ⟨rfl, hb2⟩
        have s3 := S2.out.go hb2
        clear hb2
        go_wp2_with fail
        refine (st_push0 s3 ⟨(k : Int) + 1, (⟨#[104, 116, 109, 108]⟩ : ByteArray), strOfNums [97 + kk % 256 % 5]⟩ (by omega) _ rfl).mono ?_
        rintro e w4 ⟨rfl, s4⟩
        clear s1 s3
        go_wp2_with fail
        go_roundw
        case rel => exact ⟨k + 1, by omega, by omega, by go_num, _, s4, HP1.out, by omega⟩
        case measure => simp [intOf] <;> omega
      · by_cases hlt : k < ks.length
        · have hlt2 : ¬ k < 300 := by omega
          clear hgo
          go_wp2_with fail
          go_meet
          exact ⟨B, s1, HA.out, by omega⟩
        · clear hgo
          go_wp2_with fail
          go_meet
          exact ⟨B, s1, HA.out, by omega⟩
  case rest =>
    obtain ⟨B, s1, hA, hBl⟩ := hcut
    obtain ⟨wo, rfl⟩ : ∃ wo : World, wo = wc := ⟨_, rfl⟩
    have HA := Lib.hid hA
    clear hA s0
    go_wp2_with fail
    refine (st_lenI' s1 _ rfl).mono ?_
    rintro e w' ⟨rfl, rfl⟩
    go_wp2_with fail
    go_loopw [9, 10] (fun v i wr => ∃ j : Nat, j ≤ B.length ∧ i = .int .i64 j ∧ wr.ownsRow wo.heap.size 3 1 v ((B.map fun x => x.el.id).take j).length (encI ((B.map fun x => x.el.id).take j)) ∧ Below wo.heap.size wo wr) (fun _ i _ => B.length - (intOf i).toNat)
    case atStart => exact ⟨0, by omega, rfl, by simp [encI, World.ownsRow_nil], Below.refl _ _⟩
    case round =>
      obtain ⟨j, hj, rfl, hrow, hB⟩ := hrel
      have HR := Lib.hid hrow
      have HB := Lib.hid hB
      have s2 := s1.go hB
      have S2 := Lib.hid s2
      clear hrow hB s2
      by_cases hjl : j < B.length
      · have hget : B[j]? = some B[j] := by simp [hjl]
        have hat := st_at S2.out j _ hget
        have htk : (B.map fun x => x.el.id).take (j + 1) = (B.map fun x => x.el.id).take j ++ [B[j].el.id] := by
          rw [List.take_succ_eq_append_getElem (by simpa using hjl), List.getElem_map]
        generalize B[j] = x at *
        have HAT := Lib.hid hat
        have HTK := Lib.hid htk
        have hw1 : IntKind.i64.wrap ((j : Int) + 1) = (j : Int) + 1 := by rw [IntKind.wrap_i64]; omega
        clear hget hat htk
        go_wp2_with fail
        refine HAT.out.mono ?_
        rintro e w3 ⟨xa, xc, rfl, _, _, hb3⟩
        dsimp only
        have hb4 : Below wr.heap.size wr (w3.alloc (.cells #[.int .i64 x.el.id, .string x.el.sp, .string x.el.nm, .slice xa x.ats.length xc] 37)) := hb3.alloc hb3.size _
        have hrow2 := (own_below HR.out hb4).alloc (.cells #[.int .i64 x.el.id] 3)
        have hon := one_news (w3.alloc (.cells #[.int .i64 x.el.id, .string x.el.sp, .string x.el.nm, .slice xa x.ats.length xc] 37)) (.int .i64 x.el.id) 3
        rw [World.size_alloc] at hon
        have HN := Lib.hid hon
        have HB4 := Lib.hid hb4
        have HR2 := Lib.hid hrow2
        have hjt : ((B.map fun x => x.el.id).take j).length = j := by simp; omega
        have HJT := Lib.hid hjt
        have hwo := HB.out.size
        have hw3 := hb3.size
        clear hb3 hb4 hon hrow2 hjt
        go_wp2_with (first | (at_builtin; refine wpList_append_lies _ rfl _ _ 22 rfl wo.heap.size 3 n0 _ 1 8 nt ni nz0 nz1 nz2 rfl (by decide) _ _ _ rfl HR2.out ⟨w3.heap.size + 1, 0, Option.none⟩ 1 1 [.int .i64 x.el.id] rfl rfl HN.out (by simp [Value.oneCell']) (by decide) (by rw [HJT.out]; unfold maxLen; omega) (by rw [HJT.out]; omega) (by simp; omega) _ rfl ?_; intro g6 cap6 w6 hown6 hgr6 _ _) | fail)
        go_roundw
        case rel =>
          refine ⟨j + 1, by omega, by go_num, ?_, ?_⟩
          · rw [HTK.out]
            have hmin : min j B.length = j := Nat.min_eq_left hj
            simpa [encI, hmin] using hown6
          · have hb5 : Below wo.heap.size wo ((w3.alloc (.cells #[.int .i64 x.el.id, .string x.el.sp, .string x.el.nm, .slice xa x.ats.length xc] 37)).alloc (.cells #[.int .i64 x.el.id] 3)) := (HB.out.trans (HB4.out.mono hwo)).alloc (by simp; omega) _
            exact hb5.grown hgr6 (by simp; omega) (fun k e => (HR2.out.lt k e).1)
        case measure => simp [intOf] <;> omega
      · obtain rfl : j = B.length := by omega
        have hrow := HR.out
        rw [List.take_of_length_le (by simp)] at hrow
        obtain ⟨hints, hge⟩ := ints_of_row hrow (by simp; omega)
        obtain ⟨w5, rfl⟩ : ∃ w5 : World, w5 = wr := ⟨_, rfl⟩
        obtain ⟨S, hsk, hSlt, hback⟩ := s1.sk2 HB.out
        have HBK := Lib.hid hback
        have HIN : Hid (∀ W, Keeps S w5 W → IntsAt W u9 (B.map fun x => x.el.id)) := fun W hW => hints.keeps hW (fun q o n c e hS => by have := hge q o n c e; have := hSlt q hS; omega)
        clear hrow hints hge HR S2 hSlt hback
        go_wp2_with fail
        refine (sk_mark hsk (by omega) _ rfl).mono ?_
        rintro e w6 ⟨rfl, s6⟩
        clear hsk
        go_upto_block 4 with fail
        go_cut [13] from 67 to 90 (fun _ wx => ∃ C : List Ab, Sk w5 S w1.heap.size ((B ++ [Ab.none]) ++ C) wx ∧ CInv C ∧ C.length ≤ 300)
        case first =>
          go_wp2_with fail
          go_loopw [13] (fun i wr => ∃ j : Nat, j ≤ ls.length ∧ j ≤ 300 ∧ i = .int .i64 j ∧ ∃ C : List Ab, Sk w5 S w1.heap.size ((B ++ [Ab.none]) ++ C) wr ∧ CInv C ∧ C.length ≤ j) (fun i _ => ls.length - (intOf i).toNat)
          case atStart => exact ⟨0, by omega, by omega, rfl, [], by rw [List.append_nil]; exact s6, (fun x h => by simp at h), by simp⟩
          case round =>
            obtain ⟨k, hk1, hk2, rfl, C, s7, hC, hCl⟩ := hrel
            clear s6
            have HC := Lib.hid hC
            clear hC
            by_cases hgo : k < ls.length ∧ k < 300
            · obtain ⟨hlt, hlt2⟩ := hgo
              obtain ⟨b, off, rfl, _, hbl, hc⟩ := ints_at HL.out hlt
              have hcr := ((HBK.out _ s7.keeps).cell (p := ⟨b, off + k, Option.none⟩) hbl).trans hc
              generalize ls[k] = kk at *
              have hw1 : IntKind.i64.wrap (1000 + (k : Int)) = 1000 + (k : Int) := by rw [IntKind.wrap_i64]; omega
              obtain ⟨C', hp0, hp1, hp2⟩ := HC.out.push (L := B) ⟨1000 + (k : Int), (⟨#[104, 116, 109, 108]⟩ : ByteArray), strOfNums [97 + kk % 256 % 5]⟩ (by show (1000 : Int) ≤ 1000 + (k : Int); omega)
              have HP0 := Lib.hid hp0
              have HP1 := Lib.hid hp1
              have hal : Below wr.heap.size wr (wr.alloc (.cells #[.int .u8 (97 + kk % 256 % 5)] 5)) := (Below.refl _ _).alloc (Nat.le_refl _) _
              have S8 := Lib.hid (s7.go hal)
              clear hp0 hp1 hal
              go_wp2_with fail
              refine (elem_any (1000 + k) _ _).mono ?_
              rintro e w2 ⟨rfl, hb2⟩
              have s9 := S8.out.go hb2
              clear hb2
              go_wp2_with fail
              refine (sk_push0 s9 ⟨1000 + (k : Int), (⟨#[104, 116, 109, 108]⟩ : ByteArray), strOfNums [97 + kk % 256 % 5]⟩ (by simp; omega) _ HP0.out).mono ?_
              rintro e w4 ⟨rfl, s10⟩
              clear s7 s9
              go_wp2_with fail
              go_roundw
              case rel => exact ⟨k + 1, by omega, by omega, by go_num, _, s10, HP1.out, by omega⟩
              case measure => simp [intOf] <;> omega
            · by_cases hlt : k < ls.length
              · have hlt2 : ¬ k < 300 := by omega
                clear hgo
                go_wp2_with fail
                go_meet
                exact ⟨C, s7, HC.out, by omega⟩
              · clear hgo
                go_wp2_with fail
                go_meet
                exact ⟨C, s7, HC.out, by omega⟩
        case rest =>
          obtain ⟨C, s7, hC, hCl⟩ := hcut
          obtain ⟨w7, rfl⟩ : ∃ w7 : World, w7 = wc := ⟨_, rfl⟩
          have HC := Lib.hid hC
          have hw1 : IntKind.i64.wrap ((B.length : Int) + 1) = (B.length : Int) + 1 := by rw [IntKind.wrap_i64]; omega
          have hop : ∀ x ∈ B.map (fun x => x.el.id), x ≤ 300 := fun x hx => by
            obtain ⟨y, hy, rfl⟩ := List.mem_map.1 hx
            exact (HA.out y hy).2
          have HLO1 : Hid ((lostN (B.map fun x => x.el.id) ((B ++ [Ab.none]) ++ C) : Int) = (B.length : Int) + 1) := by
            have h : (lostN (B.map fun x => x.el.id) ((B ++ [Ab.none]) ++ C) : Int) = (B.length : Int) + 1 := by rw [HC.out.lost _ hop]; rfl
            exact Lib.hid h
          have HLO2 : Hid ((lostN (B.map fun x => x.el.id) B : Int) = (B.length : Int)) := by
            have h : (lostN (B.map fun x => x.el.id) B : Int) = (B.length : Int) := by rw [HA.out.lost]
            exact Lib.hid h
          have HIN7 := Lib.hid (HIN.out _ s7.keeps)
          clear hC hop s6
          go_wp2_with fail
          refine (sk_lost s7 _ _ HIN7.out _ HLO1.out).mono ?_
          rintro e w8 ⟨rfl, s8⟩
          clear s7
          go_wp2_with fail
          refine (sk_clear s8 B HC.out.clear).mono ?_
          rintro e w9 ⟨rfl, s9⟩
          clear s8
          go_wp2_with fail
          refine (sk_len s9 _ rfl).mono ?_
          rintro e w' ⟨rfl, rfl⟩
          have HIN9 := Lib.hid (HIN.out _ s9.keeps)
          go_wp2_with fail
          refine (sk_lost s9 _ _ HIN9.out _ HLO2.out).mono ?_
          rintro e w10 ⟨rfl, s10⟩
          clear s9
          go_wp2_with fail
          go_loopw [14] (fun i wr => ∃ j : Nat, j ≤ B.length ∧ i = .int .i64 j ∧ Sk w5 S w1.heap.size B wr) (fun i _ => B.length - (intOf i).toNat)
          case atStart => exact ⟨0, by omega, rfl, s10⟩
          case round =>
            obtain ⟨j, hj, rfl, s11⟩ := hrel
            clear s10
            by_cases hjl : j < B.length
            · have hget : B[j]? = some B[j] := by simp [hjl]
              have hat := sk_at s11 j _ hget
              have hnt := HIN.out _ s11.keeps
              have hlm : j < (B.map fun x => x.el.id).length := by simpa using hjl
              obtain ⟨ua9, uc9, rfl⟩ := hnt.form
              obtain ⟨b, off, rfl, _, hbl, hc⟩ := ints_at hnt hlm
              rw [List.getElem_map] at hc
              rw [List.length_map] at *
              generalize B[j] = x at *
              have HAT := Lib.hid hat
              have hw2 : IntKind.i64.wrap ((j : Int) + 1) = (j : Int) + 1 := by rw [IntKind.wrap_i64]; omega
              clear hget hat hnt hlm
              go_wp2_with fail
              refine HAT.out.mono ?_
              rintro e w3 ⟨xa, xc, rfl, _, _, hb3⟩
              dsimp only
              have hb4 : Below wr.heap.size wr (w3.alloc (.cells #[.int .i64 x.el.id, .string x.el.sp, .string x.el.nm, .slice xa x.ats.length xc] 37)) := hb3.alloc hb3.size _
              have hc4 := (hb4.cell (p := ⟨b, off + j, Option.none⟩) hbl).trans hc
              have S12 := Lib.hid (s11.go hb4)
              clear hb3 hb4 hc s11
              go_wp2_with fail
              go_quiet (fail)
              go_wp2
              go_roundw
              case rel => exact ⟨j + 1, by omega, by go_num, S12.out.go (bDrewN (Below.refl _ _) _)⟩
              case measure => simp [intOf] <;> omega
            · obtain rfl : j = B.length := by omega
              go_wp2_with fail
              go_ret
              exact ⟨rfl, HBK.out _ s11.keeps⟩
end Go.Proofs.Ytmhofhblgcjihaa
