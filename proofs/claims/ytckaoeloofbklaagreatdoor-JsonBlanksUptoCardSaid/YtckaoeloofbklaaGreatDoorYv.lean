/- Joined texts: Ku Kr. Each begins with its own remark. -/
import Derived.Test.YtckaoeloofbklaaGreatDoorYm
import Derived.Test.YtckaoeloofbklaaGreatDoorYs
import Derived.Test.YtckaoeloofbklaaGreatDoorYu
import Derived.Test.YtckaoeloofbklaaGreatDoorYt
import Derived.Deep.Slices
import Derived.SliceStrings
import Derived.SizedLaws
import Derived.ProofKit
import Derived.LaidMore
import Derived.Test.YtckaoeloofbklaaGreatDoorRows
namespace Go.Proofs.YtckaoeloofbklaaGreatDoor
open Go Go.RowKit Go.Lib
theorem Bl.self : ∀ (b : Bool) (s : List UInt8), Bl b s s
  | b, [] => .nil
  | b, c :: s => by
    by_cases h : (xor b (c == 34)) = true ∨ markC c = false
    · exact .char h (Bl.self _ s)
    · have h1 : (xor b (c == 34)) = false := by
        cases hx : xor b (c == 34) with
        | false => rfl
        | true => exact absurd (.inl hx) h
      have h2 : markC c = true := by
        cases hx : markC c with
        | true => rfl
        | false => exact absurd (.inr hx) h
      have h3 : (c == 34) = false := by rw [beq_eq_false_iff_ne]; rintro rfl; revert h2; decide
      rw [h3, Bool.xor_false] at h1
      subst h1
      exact Bl.mark (p := []) (q := []) h2 rfl rfl (Bl.self false s)
def z0 : JV := .mk 0 false 0 0 ⟨#[]⟩ [] []
theorem pp_of {s : ByteArray} {w : World} {o : Out JV} {e : Ending} {w' : World} {y : JV} {er : Int} (h : ParsePost s w o e w') (ho : (o = .ok y [] ∧ er = 0) ∨ (∃ t', o = .err er t') ∧ y = z0) :
    Below w.heap.size w w' ∧ ∃ V p, e = .returned (.tuple #[V, .int .i64 er, .int .i64 p]) ∧ JAt (fun _ => True) w' y V := by
  obtain ⟨hb, h⟩ := h
  refine ⟨hb, ?_⟩
  rcases ho with ⟨rfl, rfl⟩ | ⟨⟨t', rfl⟩, rfl⟩
  · obtain ⟨V, rfl, hj⟩ := h
    exact ⟨V, 0, rfl, hj.kept (fun i _ _ => ⟨rfl, trivial⟩)⟩
  · exact ⟨zeroJ, _, h, atom_at _ _ 0 false 0 0 ⟨#[]⟩⟩
theorem blanks_reads (v : JV) (T : List UInt8) (hf : v.formed = true) (hr : Rng v) (hd : v.deep ≤ 64) (hB : Bl false (shJ v) T) :
    ∃ (o1 o2 : Out JV) (y : JV) (er : Int), Val decB8 enc NJ 64 (shJ v) o1 ∧ Val decB8 enc NJ 64 (32 :: T ++ [10]) o2 ∧ ((o1 = .ok y [] ∧ er = 0) ∨ (∃ t', o1 = .err er t') ∧ y = z0) ∧ ((o2 = .ok y [] ∧ er = 0) ∨ (∃ t', o2 = .err er t') ∧ y = z0) := by
  obtain ⟨o1, h1, h2⟩ := reads_all num_ok v 64 (shJ v) [] hf hr hd (Bl.self false _) trivial
  obtain ⟨o2, h3, h4⟩ := reads_all num_ok v 64 T [10] hf hr hd hB (.inl (by decide))
  rw [List.append_nil] at h1
  have h5 : Val decB8 enc NJ 64 (32 :: T ++ [10]) o2 := val_skip (T ++ [10]) _ rfl 64 h3
  rcases h2 with ⟨g1, rfl⟩ | ⟨g1, t1, rfl⟩
  · rcases h4 with ⟨_, rfl⟩ | ⟨g2, _⟩
    · exact ⟨_, _, normJ infI v, 0, h1, h5, .inl ⟨rfl, rfl⟩, .inl ⟨rfl, rfl⟩⟩
    · rw [g1] at g2; cases g2
  · rcases h4 with ⟨g2, _⟩ | ⟨_, t2, rfl⟩
    · rw [g1] at g2; cases g2
    · exact ⟨_, _, z0, 162, h1, h5, .inr ⟨⟨_, rfl⟩, rfl⟩, .inr ⟨⟨_, rfl⟩, rfl⟩⟩
def BlkAt (w : World) (a : Option Addr) (len : Nat) : Prop := len = 0 ∨ ∃ q off, a = some ⟨q, off, none⟩ ∧ q < w.heap.size ∧ ∀ j, j < len → ∃ z : Int, w.cell? ⟨q, off + j, none⟩ = some (.int .u8 z) ∧ 0 ≤ z ∧ z ≤ 255
theorem markC_no {c : UInt8} (h : markC c = false) : ((c.toNat : Nat) : Int) ≠ 91 ∧ ((c.toNat : Nat) : Int) ≠ 93 ∧ ((c.toNat : Nat) : Int) ≠ 123 ∧ ((c.toNat : Nat) : Int) ≠ 125 ∧ ((c.toNat : Nat) : Int) ≠ 44 ∧ ((c.toNat : Nat) : Int) ≠ 58 := by
  have key : ∀ c : Fin 256, markC (UInt8.ofNat c.val) = false → c.val ≠ 91 ∧ c.val ≠ 93 ∧ c.val ≠ 123 ∧ c.val ≠ 125 ∧ c.val ≠ 44 ∧ c.val ≠ 58 := by decide +kernel
  have := key ⟨c.toNat, c.toNat_lt⟩ (by simpa only [UInt8.ofNat_toNat] using h)
  simp only at this
  omega
theorem markC_yes {c : UInt8} (h : markC c = true) : c = 91 ∨ c = 93 ∨ c = 123 ∨ c = 125 ∨ c = 44 ∨ c = 58 := by
  unfold markC at h
  simp only [Bool.or_eq_true, beq_iff_eq, or_assoc] at h
  exact h
def BlP (b : Bool) (s T : List UInt8) : Prop := ∀ s' t', Bl b s' t' → Bl false (s ++ s') (T ++ t')
theorem BlP.char {b : Bool} {s T : List UInt8} (h : BlP b s T) (c : UInt8) (hc : (xor b (c == 34)) = true ∨ markC c = false) : BlP (xor b (c == 34)) (s ++ [c]) (T ++ [c]) := fun s' t' h' => by
  have := h (c :: s') (c :: t') (.char hc h')
  simpa using this
theorem BlP.mark {s T : List UInt8} (h : BlP false s T) (c : UInt8) (p q : List UInt8) (hc : markC c = true) (hp : p.all isBl = true) (hq : q.all isBl = true) : BlP false (s ++ [c]) (T ++ p ++ [c] ++ q) := fun s' t' h' => by
  have := h (c :: s') (p ++ c :: (q ++ t')) (.mark hc hp hq h')
  simpa using this
set_option maxRecDepth 100000 in
set_option maxHeartbeats 16000000 in
theorem blanks_walk (ok : Nat → Prop) (v : JV) (V : Value) (la : Option Addr) (len lc : Nat) (K : Nat) (w : World) (hT : Lib.Utf8Tabs 0 1 w) (hG : Globs w) (hGT : GlobT K w) (h : JAt ok w v V) (hk : KOk v) (hr : Rng v) (hl : Loc v) (hw : v.weigh ≤ 1048576) (hb : BlkAt w la len) (hlm : len ≤ 1000000000000000) :
    Calls Tryz.prog 3 #[V, .slice la len lc] w fun e w' => e = .returned (.bool true) ∧ Below w.heap.size w w' := by
  have h17 := hG.glob.lt
  have hjk := fun (W : World) (hW : Below w.heap.size w W) => h.kept (ok' := fun _ => True) (fun i _ hi => ⟨hW.block i hi, trivial⟩)
  have hsl := show_len v hr
  have HW := Lib.hid (fun (W : World) (hb : Below w.heap.size w W) => works_any K W (utabs_kept hT (hb.mono h17)) (hG.on hb) (hGT.on hb))
  have HF := Lib.hid (fun (W : World) (hb : Below w.heap.size w W) => far_any (fun _ => True) v V W (hjk W hb) hl)
  have HS := Lib.hid (fun (W : World) (hb : Below w.heap.size w W) => showM_any (fun _ => True) v V W (hG.on hb) (utabs_kept hT (hb.mono h17)) (Nat.le_trans h17 hb.size) (hjk W hb) hk hr (by omega) (by omega))
  have HP := Lib.hid (fun (x : ByteArray) (o : Out JV) (W : World) (hb : Below w.heap.size w W) (hx : x.size ≤ 1100000000) (hv : Val decB8 enc NJ 64 x.data.toList o) => parse_json K x o W (utabs_kept hT (hb.mono h17)) (hG.on hb) (hGT.on hb) (by omega) hv)
  have HCF := Lib.hid (fun h => check_form (v := v) h)
  have HR := Lib.hid hr
  have HBK := Lib.hid hb
  obtain ⟨S, hS⟩ : ∃ S : ByteArray, S = if v.check = 0 then ⟨(shJ v).toArray⟩ else ⟨#[]⟩ := ⟨_, rfl⟩
  have hss : S.size ≤ 209715200 := by
    rw [hS]
    split
    · show (shJ v).length ≤ _; omega
    · exact Nat.zero_le _
  have HSR := Lib.hid (show showR v = .tuple #[.string S, .int .i64 v.check] by unfold showR; rw [hS])
  have HSS := Lib.hid hS
  rw [HSR.out] at HS
  have hform : ∃ (k : Int) (b : Bool) (n u : Int) (s : ByteArray) (ka : Option Addr) (kn kc : Nat) (a : Option Addr) (an c : Nat), V = .agg #[.int .u8 k, .bool b, .int .i64 n, .int .u64 u, .string s, .slice ka kn kc, .slice a an c] := by
    obtain ⟨k, b, n, u, s, ks, vs⟩ := v
    rw [JAt] at h
    obtain ⟨ka, kc, a, c, rfl, -⟩ := h
    exact ⟨_, _, _, _, _, _, _, _, _, _, _, rfl⟩
  obtain ⟨k, b, n, u, s, ka, kn, kc, a, an, c, rfl⟩ := hform
  have hbx := heap_alloc_new w (.cells #[.int .u8 k, .bool b, .int .i64 n, .int .u64 u, .string s, .slice ka kn kc, .slice a an c] 27)
  have hbA : Below w.heap.size w (w.alloc (.cells #[.int .u8 k, .bool b, .int .i64 n, .int .u64 u, .string s, .slice ka kn kc, .slice a an c] 27)) := (Below.refl _ _).alloc (Nat.le_refl _) _
  have HBX := Lib.hid hbx
  have HBA := Lib.hid hbA
  have hlA := (Array.getElem?_eq_some_iff.1 hbx).1
  have HWK := Lib.hid (HW.out _ hbA)
  clear hbx hbA h hjk hT hG hGT hk hr hl hb hS HW hsl
  go_enter Tryz.func3, Tryz.ntmps3
  go_upto_region 1 with fail
  generalize w.alloc (.cells #[.int .u8 k, .bool b, .int .i64 n, .int .u64 u, .string s, .slice ka kn kc, .slice a an c] 27) = wA at *
  go_wp2_with fail
  refine HWK.out.mono ?_
  rintro e w1 ⟨rfl, hb1⟩
  have hbx1 := (hb1.block w.heap.size hlA).trans HBX.out
  have hw1 := HBA.out.trans (hb1.mono HBA.out.size)
  obtain ⟨c0, c1, c2, c3, c4, c5, c6⟩ := cell_agg7 hbx1
  have HBX1 := Lib.hid hbx1
  have hl1 := (Array.getElem?_eq_some_iff.1 hbx1).1
  have HW1 := Lib.hid hw1
  have HFF := Lib.hid (HF.out _ hw1)
  clear hb1 hbx1 hw1 HBX HBA HWK HF hlA
  go_wp2_with fail
  refine HFF.out.mono ?_
  rintro e w2 ⟨⟨z, rfl, -⟩, hb2⟩
  have hbx2 := (hb2.block w.heap.size hl1).trans HBX1.out
  have hw2 := HW1.out.trans (hb2.mono HW1.out.size)
  clear c0 c1 c2 c3 c4 c5 c6
  obtain ⟨c0, c1, c2, c3, c4, c5, c6⟩ := cell_agg7 hbx2
  have HW2 := Lib.hid hw2
  have HSX := Lib.hid (HS.out _ hw2)
  clear hb2 hbx2 hw2 HBX1 HW1 HFF HS hl1
  go_wp2_with fail
  refine HSX.out.mono ?_
  rintro e w3 ⟨rfl, hb3⟩
  have HW3 := Lib.hid (HW2.out.trans (hb3.mono HW2.out.size))
  clear hb3 HW2 HSX c0 c1 c2 c3 c4 c5 c6
  cases z with
  | true =>
    go_wp2_with fail
    go_ret
    exact ⟨rfl, HW3.out⟩
  | false =>
    by_cases hc : v.check = 0
    · have hSe := HSS.out
      rw [if_pos hc] at hSe
      obtain ⟨hf, hd⟩ := HCF.out hc
      rw [hc]
      have HFD := Lib.hid (And.intro hf hd)
      have HSE := Lib.hid hSe
      clear hc hf hd hSe HSS HSR HCF
      by_cases hln : 8192 < len
      · have hln2 : (8192 : Int) < (len : Int) := by omega
        go_wp2_with fail
        go_ret
        exact ⟨rfl, HW3.out⟩
      have hln2 : ¬ (8192 : Int) < (len : Int) := by omega
      obtain ⟨L, hL⟩ : ∃ L, L = S.data.toList := ⟨_, rfl⟩
      have hLs : L.length = S.size := by rw [hL]; simp
      have HL := Lib.hid hL
      clear hL
      go_wp2_with fail
      go_loopg [9, 10, 11, 12, 13, 14] S.size (fun g s9 s10 s11 s12 _ _ wr => ∃ (i kk : Nat) (T : List UInt8) (inb : Bool), i + g = S.size ∧ kk ≤ len ∧ s12 = .int .i64 i ∧ s11 = .int .i64 kk ∧ s10 = .bool inb ∧ s9 = .string ⟨T.toArray⟩ ∧ T.length ≤ 5 * i ∧ BlP inb (L.take i) T ∧ Below w.heap.size w wr)
      case atStart => exact ⟨0, 0, [], false, by omega, Nat.zero_le _, rfl, rfl, rfl, rfl, by simp, fun s' t' h => h, HW3.out⟩
      case round =>
        obtain ⟨i, kk, T, inb, hi, hkk, rfl, rfl, rfl, rfl, hTl, hbp, hbw⟩ := hrel
        have HBP := Lib.hid hbp
        have HBW := Lib.hid hbw
        have hts : (⟨T.toArray⟩ : ByteArray).size ≤ 1048576000 := by show T.length ≤ _; omega
        clear hbp hbw
        by_cases hlt : i < S.size
        · obtain ⟨ch, hch⟩ : ∃ ch, L[i]? = some ch := ⟨_, List.getElem?_eq_getElem (by omega)⟩
          have hix : S[i] = ch := by
            have h1 : S.data.toList[i]? = some ch := by rw [← HL.out]; exact hch
            rw [List.getElem?_eq_getElem (by rw [← HL.out]; omega)] at h1
            exact Option.some.inj h1
          have htk : L.take (i + 1) = L.take i ++ [ch] := by rw [List.take_add_one, hch]; rfl
          have hsl : ∀ W, (Instr.slice 9 (.string S) (some (.int .i64 i)) (some (.int .i64 ((i : Int) + 1))) Option.none).run Tryz.prog W = .ok (.string ⟨#[ch]⟩) W := fun W => by
            have h2 := run_slice_string (P := Tryz.prog) W 9 S .i64 .i64 i ((i : Int) + 1) Tryz.underlying9 (by omega) (by omega) (by omega)
            have h3 : S.extract (Int.toNat (i : Int)) (Int.toNat ((i : Int) + 1)) = ⟨#[ch]⟩ := by
              apply ByteArray.ext
              apply Array.toList_inj.1
              rw [show Int.toNat (i : Int) = i by omega, show Int.toNat ((i : Int) + 1) = i + 1 by omega]
              rw [ByteArray.data_extract, Array.toList_extract, List.extract_eq_take_drop, ← HL.out]
              rw [show i + 1 - i = 1 by omega, List.drop_eq_getElem_cons (by omega)]
              rw [List.getElem?_eq_getElem (by omega)] at hch
              rw [Option.some.inj hch]
              simp
            rw [h3] at h2
            exact h2
          have HTK := Lib.hid htk
          have hone : (⟨#[ch]⟩ : ByteArray).size = 1 := rfl
          clear hch htk
          cases inb with
          | true =>
            by_cases h34 : ch = 34
            · subst h34
              go_wp2_with fail
              go_roundg (gk - 1)
              case measure => omega
              case rel => exact ⟨i + 1, kk, T ++ [34], false, by omega, by omega, by go_num, by first | rfl | go_num, rfl, by refine congrArg Value.string (ByteArray.ext (Array.toList_inj.1 ?_)); simp [ByteArray.data_append], by simp; omega, by rw [HTK.out]; exact (by have := HBP.out.char 34 (.inr (by decide)); simpa using this), HBW.out⟩
            · have e34 : ((ch.toNat : Int) == 34) = false := by rw [beq_eq_false_iff_ne]; intro e; exact h34 (UInt8.toNat_inj.1 (by show ch.toNat = 34; omega))
              have g34 : ¬ (ch.toNat : Int) = 34 := fun e => h34 (UInt8.toNat_inj.1 (by show ch.toNat = 34; omega))
              have b34 : (ch == 34) = false := beq_eq_false_iff_ne.2 h34
              go_wp2_with fail
              go_roundg (gk - 1)
              case measure => omega
              case rel => exact ⟨i + 1, kk, T ++ [ch], true, by omega, by omega, by go_num, by first | rfl | go_num, rfl, by refine congrArg Value.string (ByteArray.ext (Array.toList_inj.1 ?_)); simp [ByteArray.data_append], by simp; omega, by rw [HTK.out]; exact (by have := HBP.out.char ch (.inl (by rw [b34]; rfl)); rw [b34] at this; exact this), HBW.out⟩
          | false =>
            by_cases h34 : ch = 34
            · subst h34
              go_wp2_with fail
              go_roundg (gk - 1)
              case measure => omega
              case rel => exact ⟨i + 1, kk, T ++ [34], true, by omega, by omega, by go_num, by first | rfl | go_num, rfl, by refine congrArg Value.string (ByteArray.ext (Array.toList_inj.1 ?_)); simp [ByteArray.data_append], by simp; omega, by rw [HTK.out]; exact (by have := HBP.out.char 34 (.inl (by decide)); simpa using this), HBW.out⟩
            · have e34 : ((ch.toNat : Int) == 34) = false := by rw [beq_eq_false_iff_ne]; intro e; exact h34 (UInt8.toNat_inj.1 (by show ch.toNat = 34; omega))
              have g34 : ¬ (ch.toNat : Int) = 34 := fun e => h34 (UInt8.toNat_inj.1 (by show ch.toNat = 34; omega))
              have b34 : (ch == 34) = false := beq_eq_false_iff_ne.2 h34
              cases hmk : markC ch with
              | false =>
                obtain ⟨m1, m2, m3, m4, m5, m6⟩ := markC_no hmk
                have e91 : ((ch.toNat : Int) == 91) = false := beq_eq_false_iff_ne.2 m1
                have e93 : ((ch.toNat : Int) == 93) = false := beq_eq_false_iff_ne.2 m2
                have e123 : ((ch.toNat : Int) == 123) = false := beq_eq_false_iff_ne.2 m3
                have e125 : ((ch.toNat : Int) == 125) = false := beq_eq_false_iff_ne.2 m4
                have e44 : ((ch.toNat : Int) == 44) = false := beq_eq_false_iff_ne.2 m5
                have e58 : ((ch.toNat : Int) == 58) = false := beq_eq_false_iff_ne.2 m6
                go_wp2_with fail
                go_roundg (gk - 1)
                case measure => omega
                case rel => exact ⟨i + 1, kk, T ++ [ch], false, by omega, by omega, by go_num, by first | rfl | go_num, rfl, by refine congrArg Value.string (ByteArray.ext (Array.toList_inj.1 ?_)); simp [ByteArray.data_append], by simp; omega, by rw [HTK.out]; exact (by have := HBP.out.char ch (.inr hmk); rw [b34] at this; exact this), HBW.out⟩
              | true =>
                clear e34 g34 b34 h34
                rcases markC_yes hmk with rfl | rfl | rfl | rfl | rfl | rfl
                · rcases Nat.lt_or_ge kk len with hkl | hkl
                  · obtain ⟨q, off, hla, hq, hz⟩ := HBK.out.resolve_left (by omega)
                    obtain ⟨z, hz1, hz2, hz3⟩ := hz kk hkl
                    have hqr : q < wr.heap.size := Nat.lt_of_lt_of_le hq HBW.out.size
                    have d0 : wr.cell? ⟨q, off + kk, none⟩ = some (.int .u8 z) := by rw [HBW.out.cell (p := ⟨q, off + kk, none⟩) hq]; exact hz1
                    have hn1 := heap_alloc_new wr (.cells #[.string ⟨#[]⟩, .string ⟨#[32]⟩, .string ⟨#[10, 9]⟩, .string ⟨#[13, 32]⟩] 9)
                    have hs1 : (wr.alloc (.cells #[.string ⟨#[]⟩, .string ⟨#[32]⟩, .string ⟨#[10, 9]⟩, .string ⟨#[13, 32]⟩] 9)).heap.size = wr.heap.size + 1 := by simp
                    have hn2 := heap_alloc_new (wr.alloc (.cells #[.string ⟨#[]⟩, .string ⟨#[32]⟩, .string ⟨#[10, 9]⟩, .string ⟨#[13, 32]⟩] 9)) (.cells #[.string ⟨#[32]⟩, .string ⟨#[]⟩, .string ⟨#[9]⟩, .string ⟨#[10]⟩] 9)
                    rw [hs1] at hn2
                    have d1 : (wr.alloc (.cells #[.string ⟨#[]⟩, .string ⟨#[32]⟩, .string ⟨#[10, 9]⟩, .string ⟨#[13, 32]⟩] 9)).cell? ⟨q, off + kk, none⟩ = some (.int .u8 z) := by
                      rw [World.cell?_of_block (w := wr) (a := ⟨q, off + kk, none⟩) (Below.heap_alloc _ _ _ hqr)]; exact d0
                    obtain ⟨x0, x1, x2, x3⟩ := cell_agg4 hn1
                    obtain ⟨y0, y1, y2, y3⟩ := cell_agg4 hn2
                    have HB2 := Lib.hid ((HBW.out.alloc HBW.out.size (.cells #[.string ⟨#[]⟩, .string ⟨#[32]⟩, .string ⟨#[10, 9]⟩, .string ⟨#[13, 32]⟩] 9)).alloc (by have := HBW.out.size; omega) (.cells #[.string ⟨#[32]⟩, .string ⟨#[]⟩, .string ⟨#[9]⟩, .string ⟨#[10]⟩] 9))
                    subst hla
                    clear hn1 hn2 hz hz1 hs1 hq HBK
                    have hr4 : z % 4 = 0 ∨ z % 4 = 1 ∨ z % 4 = 2 ∨ z % 4 = 3 := by omega
                    have htm : z.tmod 4 = z % 4 := Int.tmod_eq_emod_of_nonneg hz2
                    rcases hr4 with hr4 | hr4 | hr4 | hr4
                    · rw [hr4] at htm
                      go_wp2_with fail
                      go_roundg (gk - 1)
                      case measure => omega
                      case rel => exact ⟨i + 1, kk + 1, T ++ [] ++ [91] ++ [32], false, by omega, by omega, by go_num, by first | rfl | go_num, rfl, by refine congrArg Value.string (ByteArray.ext (Array.toList_inj.1 ?_)); simp [ByteArray.data_append], by simp; omega, by rw [HTK.out]; exact HBP.out.mark 91 [] [32] (by decide) (by decide) (by decide), HB2.out⟩
                    · rw [hr4] at htm
                      go_wp2_with fail
                      go_roundg (gk - 1)
                      case measure => omega
                      case rel => exact ⟨i + 1, kk + 1, T ++ [32] ++ [91] ++ [], false, by omega, by omega, by go_num, by first | rfl | go_num, rfl, by refine congrArg Value.string (ByteArray.ext (Array.toList_inj.1 ?_)); simp [ByteArray.data_append], by simp; omega, by rw [HTK.out]; exact HBP.out.mark 91 [32] [] (by decide) (by decide) (by decide), HB2.out⟩
                    · rw [hr4] at htm
                      go_wp2_with fail
                      go_roundg (gk - 1)
                      case measure => omega
                      case rel => exact ⟨i + 1, kk + 1, T ++ [10, 9] ++ [91] ++ [9], false, by omega, by omega, by go_num, by first | rfl | go_num, rfl, by refine congrArg Value.string (ByteArray.ext (Array.toList_inj.1 ?_)); simp [ByteArray.data_append], by simp; omega, by rw [HTK.out]; exact HBP.out.mark 91 [10, 9] [9] (by decide) (by decide) (by decide), HB2.out⟩
                    · rw [hr4] at htm
                      go_wp2_with fail
                      go_roundg (gk - 1)
                      case measure => omega
                      case rel => exact ⟨i + 1, kk + 1, T ++ [13, 32] ++ [91] ++ [10], false, by omega, by omega, by go_num, by first | rfl | go_num, rfl, by refine congrArg Value.string (ByteArray.ext (Array.toList_inj.1 ?_)); simp [ByteArray.data_append], by simp; omega, by rw [HTK.out]; exact HBP.out.mark 91 [13, 32] [10] (by decide) (by decide) (by decide), HB2.out⟩
                  · have hkl2 : ¬ (kk : Int) < (len : Int) := by omega
                    go_wp2_with fail
                    go_roundg (gk - 1)
                    case measure => omega
                    case rel => exact ⟨i + 1, kk, T ++ [91], false, by omega, by omega, by go_num, by first | rfl | go_num, rfl, by refine congrArg Value.string (ByteArray.ext (Array.toList_inj.1 ?_)); simp [ByteArray.data_append], by simp; omega, by rw [HTK.out]; exact (by have := HBP.out.mark 91 [] [] (by decide) rfl rfl; simpa using this), HBW.out⟩
                · rcases Nat.lt_or_ge kk len with hkl | hkl
                  · obtain ⟨q, off, hla, hq, hz⟩ := HBK.out.resolve_left (by omega)
                    obtain ⟨z, hz1, hz2, hz3⟩ := hz kk hkl
                    have hqr : q < wr.heap.size := Nat.lt_of_lt_of_le hq HBW.out.size
                    have d0 : wr.cell? ⟨q, off + kk, none⟩ = some (.int .u8 z) := by rw [HBW.out.cell (p := ⟨q, off + kk, none⟩) hq]; exact hz1
                    have hn1 := heap_alloc_new wr (.cells #[.string ⟨#[]⟩, .string ⟨#[32]⟩, .string ⟨#[10, 9]⟩, .string ⟨#[13, 32]⟩] 9)
                    have hs1 : (wr.alloc (.cells #[.string ⟨#[]⟩, .string ⟨#[32]⟩, .string ⟨#[10, 9]⟩, .string ⟨#[13, 32]⟩] 9)).heap.size = wr.heap.size + 1 := by simp
                    have hn2 := heap_alloc_new (wr.alloc (.cells #[.string ⟨#[]⟩, .string ⟨#[32]⟩, .string ⟨#[10, 9]⟩, .string ⟨#[13, 32]⟩] 9)) (.cells #[.string ⟨#[32]⟩, .string ⟨#[]⟩, .string ⟨#[9]⟩, .string ⟨#[10]⟩] 9)
                    rw [hs1] at hn2
                    have d1 : (wr.alloc (.cells #[.string ⟨#[]⟩, .string ⟨#[32]⟩, .string ⟨#[10, 9]⟩, .string ⟨#[13, 32]⟩] 9)).cell? ⟨q, off + kk, none⟩ = some (.int .u8 z) := by
                      rw [World.cell?_of_block (w := wr) (a := ⟨q, off + kk, none⟩) (Below.heap_alloc _ _ _ hqr)]; exact d0
                    obtain ⟨x0, x1, x2, x3⟩ := cell_agg4 hn1
                    obtain ⟨y0, y1, y2, y3⟩ := cell_agg4 hn2
                    have HB2 := Lib.hid ((HBW.out.alloc HBW.out.size (.cells #[.string ⟨#[]⟩, .string ⟨#[32]⟩, .string ⟨#[10, 9]⟩, .string ⟨#[13, 32]⟩] 9)).alloc (by have := HBW.out.size; omega) (.cells #[.string ⟨#[32]⟩, .string ⟨#[]⟩, .string ⟨#[9]⟩, .string ⟨#[10]⟩] 9))
                    subst hla
                    clear hn1 hn2 hz hz1 hs1 hq HBK
                    have hr4 : z % 4 = 0 ∨ z % 4 = 1 ∨ z % 4 = 2 ∨ z % 4 = 3 := by omega
                    have htm : z.tmod 4 = z % 4 := Int.tmod_eq_emod_of_nonneg hz2
                    rcases hr4 with hr4 | hr4 | hr4 | hr4
                    · rw [hr4] at htm
                      go_wp2_with fail
                      go_roundg (gk - 1)
                      case measure => omega
                      case rel => exact ⟨i + 1, kk + 1, T ++ [] ++ [93] ++ [32], false, by omega, by omega, by go_num, by first | rfl | go_num, rfl, by refine congrArg Value.string (ByteArray.ext (Array.toList_inj.1 ?_)); simp [ByteArray.data_append], by simp; omega, by rw [HTK.out]; exact HBP.out.mark 93 [] [32] (by decide) (by decide) (by decide), HB2.out⟩
                    · rw [hr4] at htm
                      go_wp2_with fail
                      go_roundg (gk - 1)
                      case measure => omega
                      case rel => exact ⟨i + 1, kk + 1, T ++ [32] ++ [93] ++ [], false, by omega, by omega, by go_num, by first | rfl | go_num, rfl, by refine congrArg Value.string (ByteArray.ext (Array.toList_inj.1 ?_)); simp [ByteArray.data_append], by simp; omega, by rw [HTK.out]; exact HBP.out.mark 93 [32] [] (by decide) (by decide) (by decide), HB2.out⟩
                    · rw [hr4] at htm
                      go_wp2_with fail
                      go_roundg (gk - 1)
                      case measure => omega
                      case rel => exact ⟨i + 1, kk + 1, T ++ [10, 9] ++ [93] ++ [9], false, by omega, by omega, by go_num, by first | rfl | go_num, rfl, by refine congrArg Value.string (ByteArray.ext (Array.toList_inj.1 ?_)); simp [ByteArray.data_append], by simp; omega, by rw [HTK.out]; exact HBP.out.mark 93 [10, 9] [9] (by decide) (by decide) (by decide), HB2.out⟩
                    · rw [hr4] at htm
                      go_wp2_with fail
                      go_roundg (gk - 1)
                      case measure => omega
                      case rel => exact ⟨i + 1, kk + 1, T ++ [13, 32] ++ [93] ++ [10], false, by omega, by omega, by go_num, by first | rfl | go_num, rfl, by refine congrArg Value.string (ByteArray.ext (Array.toList_inj.1 ?_)); simp [ByteArray.data_append], by simp; omega, by rw [HTK.out]; exact HBP.out.mark 93 [13, 32] [10] (by decide) (by decide) (by decide), HB2.out⟩
                  · have hkl2 : ¬ (kk : Int) < (len : Int) := by omega
                    go_wp2_with fail
                    go_roundg (gk - 1)
                    case measure => omega
                    case rel => exact ⟨i + 1, kk, T ++ [93], false, by omega, by omega, by go_num, by first | rfl | go_num, rfl, by refine congrArg Value.string (ByteArray.ext (Array.toList_inj.1 ?_)); simp [ByteArray.data_append], by simp; omega, by rw [HTK.out]; exact (by have := HBP.out.mark 93 [] [] (by decide) rfl rfl; simpa using this), HBW.out⟩
                · rcases Nat.lt_or_ge kk len with hkl | hkl
                  · obtain ⟨q, off, hla, hq, hz⟩ := HBK.out.resolve_left (by omega)
                    obtain ⟨z, hz1, hz2, hz3⟩ := hz kk hkl
                    have hqr : q < wr.heap.size := Nat.lt_of_lt_of_le hq HBW.out.size
                    have d0 : wr.cell? ⟨q, off + kk, none⟩ = some (.int .u8 z) := by rw [HBW.out.cell (p := ⟨q, off + kk, none⟩) hq]; exact hz1
                    have hn1 := heap_alloc_new wr (.cells #[.string ⟨#[]⟩, .string ⟨#[32]⟩, .string ⟨#[10, 9]⟩, .string ⟨#[13, 32]⟩] 9)
                    have hs1 : (wr.alloc (.cells #[.string ⟨#[]⟩, .string ⟨#[32]⟩, .string ⟨#[10, 9]⟩, .string ⟨#[13, 32]⟩] 9)).heap.size = wr.heap.size + 1 := by simp
                    have hn2 := heap_alloc_new (wr.alloc (.cells #[.string ⟨#[]⟩, .string ⟨#[32]⟩, .string ⟨#[10, 9]⟩, .string ⟨#[13, 32]⟩] 9)) (.cells #[.string ⟨#[32]⟩, .string ⟨#[]⟩, .string ⟨#[9]⟩, .string ⟨#[10]⟩] 9)
                    rw [hs1] at hn2
                    have d1 : (wr.alloc (.cells #[.string ⟨#[]⟩, .string ⟨#[32]⟩, .string ⟨#[10, 9]⟩, .string ⟨#[13, 32]⟩] 9)).cell? ⟨q, off + kk, none⟩ = some (.int .u8 z) := by
                      rw [World.cell?_of_block (w := wr) (a := ⟨q, off + kk, none⟩) (Below.heap_alloc _ _ _ hqr)]; exact d0
                    obtain ⟨x0, x1, x2, x3⟩ := cell_agg4 hn1
                    obtain ⟨y0, y1, y2, y3⟩ := cell_agg4 hn2
                    have HB2 := Lib.hid ((HBW.out.alloc HBW.out.size (.cells #[.string ⟨#[]⟩, .string ⟨#[32]⟩, .string ⟨#[10, 9]⟩, .string ⟨#[13, 32]⟩] 9)).alloc (by have := HBW.out.size; omega) (.cells #[.string ⟨#[32]⟩, .string ⟨#[]⟩, .string ⟨#[9]⟩, .string ⟨#[10]⟩] 9))
                    subst hla
                    clear hn1 hn2 hz hz1 hs1 hq HBK
                    have hr4 : z % 4 = 0 ∨ z % 4 = 1 ∨ z % 4 = 2 ∨ z % 4 = 3 := by omega
                    have htm : z.tmod 4 = z % 4 := Int.tmod_eq_emod_of_nonneg hz2
                    rcases hr4 with hr4 | hr4 | hr4 | hr4
                    · rw [hr4] at htm
                      go_wp2_with fail
                      go_roundg (gk - 1)
                      case measure => omega
                      case rel => exact ⟨i + 1, kk + 1, T ++ [] ++ [123] ++ [32], false, by omega, by omega, by go_num, by first | rfl | go_num, rfl, by refine congrArg Value.string (ByteArray.ext (Array.toList_inj.1 ?_)); simp [ByteArray.data_append], by simp; omega, by rw [HTK.out]; exact HBP.out.mark 123 [] [32] (by decide) (by decide) (by decide), HB2.out⟩
                    · rw [hr4] at htm
                      go_wp2_with fail
                      go_roundg (gk - 1)
                      case measure => omega
                      case rel => exact ⟨i + 1, kk + 1, T ++ [32] ++ [123] ++ [], false, by omega, by omega, by go_num, by first | rfl | go_num, rfl, by refine congrArg Value.string (ByteArray.ext (Array.toList_inj.1 ?_)); simp [ByteArray.data_append], by simp; omega, by rw [HTK.out]; exact HBP.out.mark 123 [32] [] (by decide) (by decide) (by decide), HB2.out⟩
                    · rw [hr4] at htm
                      go_wp2_with fail
                      go_roundg (gk - 1)
                      case measure => omega
                      case rel => exact ⟨i + 1, kk + 1, T ++ [10, 9] ++ [123] ++ [9], false, by omega, by omega, by go_num, by first | rfl | go_num, rfl, by refine congrArg Value.string (ByteArray.ext (Array.toList_inj.1 ?_)); simp [ByteArray.data_append], by simp; omega, by rw [HTK.out]; exact HBP.out.mark 123 [10, 9] [9] (by decide) (by decide) (by decide), HB2.out⟩
                    · rw [hr4] at htm
                      go_wp2_with fail
                      go_roundg (gk - 1)
                      case measure => omega
                      case rel => exact ⟨i + 1, kk + 1, T ++ [13, 32] ++ [123] ++ [10], false, by omega, by omega, by go_num, by first | rfl | go_num, rfl, by refine congrArg Value.string (ByteArray.ext (Array.toList_inj.1 ?_)); simp [ByteArray.data_append], by simp; omega, by rw [HTK.out]; exact HBP.out.mark 123 [13, 32] [10] (by decide) (by decide) (by decide), HB2.out⟩
                  · have hkl2 : ¬ (kk : Int) < (len : Int) := by omega
                    go_wp2_with fail
                    go_roundg (gk - 1)
                    case measure => omega
                    case rel => exact ⟨i + 1, kk, T ++ [123], false, by omega, by omega, by go_num, by first | rfl | go_num, rfl, by refine congrArg Value.string (ByteArray.ext (Array.toList_inj.1 ?_)); simp [ByteArray.data_append], by simp; omega, by rw [HTK.out]; exact (by have := HBP.out.mark 123 [] [] (by decide) rfl rfl; simpa using this), HBW.out⟩
                · rcases Nat.lt_or_ge kk len with hkl | hkl
                  · obtain ⟨q, off, hla, hq, hz⟩ := HBK.out.resolve_left (by omega)
                    obtain ⟨z, hz1, hz2, hz3⟩ := hz kk hkl
                    have hqr : q < wr.heap.size := Nat.lt_of_lt_of_le hq HBW.out.size
                    have d0 : wr.cell? ⟨q, off + kk, none⟩ = some (.int .u8 z) := by rw [HBW.out.cell (p := ⟨q, off + kk, none⟩) hq]; exact hz1
                    have hn1 := heap_alloc_new wr (.cells #[.string ⟨#[]⟩, .string ⟨#[32]⟩, .string ⟨#[10, 9]⟩, .string ⟨#[13, 32]⟩] 9)
                    have hs1 : (wr.alloc (.cells #[.string ⟨#[]⟩, .string ⟨#[32]⟩, .string ⟨#[10, 9]⟩, .string ⟨#[13, 32]⟩] 9)).heap.size = wr.heap.size + 1 := by simp
                    have hn2 := heap_alloc_new (wr.alloc (.cells #[.string ⟨#[]⟩, .string ⟨#[32]⟩, .string ⟨#[10, 9]⟩, .string ⟨#[13, 32]⟩] 9)) (.cells #[.string ⟨#[32]⟩, .string ⟨#[]⟩, .string ⟨#[9]⟩, .string ⟨#[10]⟩] 9)
                    rw [hs1] at hn2
                    have d1 : (wr.alloc (.cells #[.string ⟨#[]⟩, .string ⟨#[32]⟩, .string ⟨#[10, 9]⟩, .string ⟨#[13, 32]⟩] 9)).cell? ⟨q, off + kk, none⟩ = some (.int .u8 z) := by
                      rw [World.cell?_of_block (w := wr) (a := ⟨q, off + kk, none⟩) (Below.heap_alloc _ _ _ hqr)]; exact d0
                    obtain ⟨x0, x1, x2, x3⟩ := cell_agg4 hn1
                    obtain ⟨y0, y1, y2, y3⟩ := cell_agg4 hn2
                    have HB2 := Lib.hid ((HBW.out.alloc HBW.out.size (.cells #[.string ⟨#[]⟩, .string ⟨#[32]⟩, .string ⟨#[10, 9]⟩, .string ⟨#[13, 32]⟩] 9)).alloc (by have := HBW.out.size; omega) (.cells #[.string ⟨#[32]⟩, .string ⟨#[]⟩, .string ⟨#[9]⟩, .string ⟨#[10]⟩] 9))
                    subst hla
                    clear hn1 hn2 hz hz1 hs1 hq HBK
                    have hr4 : z % 4 = 0 ∨ z % 4 = 1 ∨ z % 4 = 2 ∨ z % 4 = 3 := by omega
                    have htm : z.tmod 4 = z % 4 := Int.tmod_eq_emod_of_nonneg hz2
                    rcases hr4 with hr4 | hr4 | hr4 | hr4
                    · rw [hr4] at htm
                      go_wp2_with fail
                      go_roundg (gk - 1)
                      case measure => omega
                      case rel => exact ⟨i + 1, kk + 1, T ++ [] ++ [125] ++ [32], false, by omega, by omega, by go_num, by first | rfl | go_num, rfl, by refine congrArg Value.string (ByteArray.ext (Array.toList_inj.1 ?_)); simp [ByteArray.data_append], by simp; omega, by rw [HTK.out]; exact HBP.out.mark 125 [] [32] (by decide) (by decide) (by decide), HB2.out⟩
                    · rw [hr4] at htm
                      go_wp2_with fail
                      go_roundg (gk - 1)
                      case measure => omega
                      case rel => exact ⟨i + 1, kk + 1, T ++ [32] ++ [125] ++ [], false, by omega, by omega, by go_num, by first | rfl | go_num, rfl, by refine congrArg Value.string (ByteArray.ext (Array.toList_inj.1 ?_)); simp [ByteArray.data_append], by simp; omega, by rw [HTK.out]; exact HBP.out.mark 125 [32] [] (by decide) (by decide) (by decide), HB2.out⟩
                    · rw [hr4] at htm
                      go_wp2_with fail
                      go_roundg (gk - 1)
                      case measure => omega
                      case rel => exact ⟨i + 1, kk + 1, T ++ [10, 9] ++ [125] ++ [9], false, by omega, by omega, by go_num, by first | rfl | go_num, rfl, by refine congrArg Value.string (ByteArray.ext (Array.toList_inj.1 ?_)); simp [ByteArray.data_append], by simp; omega, by rw [HTK.out]; exact HBP.out.mark 125 [10, 9] [9] (by decide) (by decide) (by decide), HB2.out⟩
                    · rw [hr4] at htm
                      go_wp2_with fail
                      go_roundg (gk - 1)
                      case measure => omega
                      case rel => exact ⟨i + 1, kk + 1, T ++ [13, 32] ++ [125] ++ [10], false, by omega, by omega, by go_num, by first | rfl | go_num, rfl, by refine congrArg Value.string (ByteArray.ext (Array.toList_inj.1 ?_)); simp [ByteArray.data_append], by simp; omega, by rw [HTK.out]; exact HBP.out.mark 125 [13, 32] [10] (by decide) (by decide) (by decide), HB2.out⟩
                  · have hkl2 : ¬ (kk : Int) < (len : Int) := by omega
                    go_wp2_with fail
                    go_roundg (gk - 1)
                    case measure => omega
                    case rel => exact ⟨i + 1, kk, T ++ [125], false, by omega, by omega, by go_num, by first | rfl | go_num, rfl, by refine congrArg Value.string (ByteArray.ext (Array.toList_inj.1 ?_)); simp [ByteArray.data_append], by simp; omega, by rw [HTK.out]; exact (by have := HBP.out.mark 125 [] [] (by decide) rfl rfl; simpa using this), HBW.out⟩
                · rcases Nat.lt_or_ge kk len with hkl | hkl
                  · obtain ⟨q, off, hla, hq, hz⟩ := HBK.out.resolve_left (by omega)
                    obtain ⟨z, hz1, hz2, hz3⟩ := hz kk hkl
                    have hqr : q < wr.heap.size := Nat.lt_of_lt_of_le hq HBW.out.size
                    have d0 : wr.cell? ⟨q, off + kk, none⟩ = some (.int .u8 z) := by rw [HBW.out.cell (p := ⟨q, off + kk, none⟩) hq]; exact hz1
                    have hn1 := heap_alloc_new wr (.cells #[.string ⟨#[]⟩, .string ⟨#[32]⟩, .string ⟨#[10, 9]⟩, .string ⟨#[13, 32]⟩] 9)
                    have hs1 : (wr.alloc (.cells #[.string ⟨#[]⟩, .string ⟨#[32]⟩, .string ⟨#[10, 9]⟩, .string ⟨#[13, 32]⟩] 9)).heap.size = wr.heap.size + 1 := by simp
                    have hn2 := heap_alloc_new (wr.alloc (.cells #[.string ⟨#[]⟩, .string ⟨#[32]⟩, .string ⟨#[10, 9]⟩, .string ⟨#[13, 32]⟩] 9)) (.cells #[.string ⟨#[32]⟩, .string ⟨#[]⟩, .string ⟨#[9]⟩, .string ⟨#[10]⟩] 9)
                    rw [hs1] at hn2
                    have d1 : (wr.alloc (.cells #[.string ⟨#[]⟩, .string ⟨#[32]⟩, .string ⟨#[10, 9]⟩, .string ⟨#[13, 32]⟩] 9)).cell? ⟨q, off + kk, none⟩ = some (.int .u8 z) := by
                      rw [World.cell?_of_block (w := wr) (a := ⟨q, off + kk, none⟩) (Below.heap_alloc _ _ _ hqr)]; exact d0
                    obtain ⟨x0, x1, x2, x3⟩ := cell_agg4 hn1
                    obtain ⟨y0, y1, y2, y3⟩ := cell_agg4 hn2
                    have HB2 := Lib.hid ((HBW.out.alloc HBW.out.size (.cells #[.string ⟨#[]⟩, .string ⟨#[32]⟩, .string ⟨#[10, 9]⟩, .string ⟨#[13, 32]⟩] 9)).alloc (by have := HBW.out.size; omega) (.cells #[.string ⟨#[32]⟩, .string ⟨#[]⟩, .string ⟨#[9]⟩, .string ⟨#[10]⟩] 9))
                    subst hla
                    clear hn1 hn2 hz hz1 hs1 hq HBK
                    have hr4 : z % 4 = 0 ∨ z % 4 = 1 ∨ z % 4 = 2 ∨ z % 4 = 3 := by omega
                    have htm : z.tmod 4 = z % 4 := Int.tmod_eq_emod_of_nonneg hz2
                    rcases hr4 with hr4 | hr4 | hr4 | hr4
                    · rw [hr4] at htm
                      go_wp2_with fail
                      go_roundg (gk - 1)
                      case measure => omega
                      case rel => exact ⟨i + 1, kk + 1, T ++ [] ++ [44] ++ [32], false, by omega, by omega, by go_num, by first | rfl | go_num, rfl, by refine congrArg Value.string (ByteArray.ext (Array.toList_inj.1 ?_)); simp [ByteArray.data_append], by simp; omega, by rw [HTK.out]; exact HBP.out.mark 44 [] [32] (by decide) (by decide) (by decide), HB2.out⟩
                    · rw [hr4] at htm
                      go_wp2_with fail
                      go_roundg (gk - 1)
                      case measure => omega
                      case rel => exact ⟨i + 1, kk + 1, T ++ [32] ++ [44] ++ [], false, by omega, by omega, by go_num, by first | rfl | go_num, rfl, by refine congrArg Value.string (ByteArray.ext (Array.toList_inj.1 ?_)); simp [ByteArray.data_append], by simp; omega, by rw [HTK.out]; exact HBP.out.mark 44 [32] [] (by decide) (by decide) (by decide), HB2.out⟩
                    · rw [hr4] at htm
                      go_wp2_with fail
                      go_roundg (gk - 1)
                      case measure => omega
                      case rel => exact ⟨i + 1, kk + 1, T ++ [10, 9] ++ [44] ++ [9], false, by omega, by omega, by go_num, by first | rfl | go_num, rfl, by refine congrArg Value.string (ByteArray.ext (Array.toList_inj.1 ?_)); simp [ByteArray.data_append], by simp; omega, by rw [HTK.out]; exact HBP.out.mark 44 [10, 9] [9] (by decide) (by decide) (by decide), HB2.out⟩
                    · rw [hr4] at htm
                      go_wp2_with fail
                      go_roundg (gk - 1)
                      case measure => omega
                      case rel => exact ⟨i + 1, kk + 1, T ++ [13, 32] ++ [44] ++ [10], false, by omega, by omega, by go_num, by first | rfl | go_num, rfl, by refine congrArg Value.string (ByteArray.ext (Array.toList_inj.1 ?_)); simp [ByteArray.data_append], by simp; omega, by rw [HTK.out]; exact HBP.out.mark 44 [13, 32] [10] (by decide) (by decide) (by decide), HB2.out⟩
                  · have hkl2 : ¬ (kk : Int) < (len : Int) := by omega
                    go_wp2_with fail
                    go_roundg (gk - 1)
                    case measure => omega
                    case rel => exact ⟨i + 1, kk, T ++ [44], false, by omega, by omega, by go_num, by first | rfl | go_num, rfl, by refine congrArg Value.string (ByteArray.ext (Array.toList_inj.1 ?_)); simp [ByteArray.data_append], by simp; omega, by rw [HTK.out]; exact (by have := HBP.out.mark 44 [] [] (by decide) rfl rfl; simpa using this), HBW.out⟩
                · rcases Nat.lt_or_ge kk len with hkl | hkl
                  · obtain ⟨q, off, hla, hq, hz⟩ := HBK.out.resolve_left (by omega)
                    obtain ⟨z, hz1, hz2, hz3⟩ := hz kk hkl
                    have hqr : q < wr.heap.size := Nat.lt_of_lt_of_le hq HBW.out.size
                    have d0 : wr.cell? ⟨q, off + kk, none⟩ = some (.int .u8 z) := by rw [HBW.out.cell (p := ⟨q, off + kk, none⟩) hq]; exact hz1
                    have hn1 := heap_alloc_new wr (.cells #[.string ⟨#[]⟩, .string ⟨#[32]⟩, .string ⟨#[10, 9]⟩, .string ⟨#[13, 32]⟩] 9)
                    have hs1 : (wr.alloc (.cells #[.string ⟨#[]⟩, .string ⟨#[32]⟩, .string ⟨#[10, 9]⟩, .string ⟨#[13, 32]⟩] 9)).heap.size = wr.heap.size + 1 := by simp
                    have hn2 := heap_alloc_new (wr.alloc (.cells #[.string ⟨#[]⟩, .string ⟨#[32]⟩, .string ⟨#[10, 9]⟩, .string ⟨#[13, 32]⟩] 9)) (.cells #[.string ⟨#[32]⟩, .string ⟨#[]⟩, .string ⟨#[9]⟩, .string ⟨#[10]⟩] 9)
                    rw [hs1] at hn2
                    have d1 : (wr.alloc (.cells #[.string ⟨#[]⟩, .string ⟨#[32]⟩, .string ⟨#[10, 9]⟩, .string ⟨#[13, 32]⟩] 9)).cell? ⟨q, off + kk, none⟩ = some (.int .u8 z) := by
                      rw [World.cell?_of_block (w := wr) (a := ⟨q, off + kk, none⟩) (Below.heap_alloc _ _ _ hqr)]; exact d0
                    obtain ⟨x0, x1, x2, x3⟩ := cell_agg4 hn1
                    obtain ⟨y0, y1, y2, y3⟩ := cell_agg4 hn2
                    have HB2 := Lib.hid ((HBW.out.alloc HBW.out.size (.cells #[.string ⟨#[]⟩, .string ⟨#[32]⟩, .string ⟨#[10, 9]⟩, .string ⟨#[13, 32]⟩] 9)).alloc (by have := HBW.out.size; omega) (.cells #[.string ⟨#[32]⟩, .string ⟨#[]⟩, .string ⟨#[9]⟩, .string ⟨#[10]⟩] 9))
                    subst hla
                    clear hn1 hn2 hz hz1 hs1 hq HBK
                    have hr4 : z % 4 = 0 ∨ z % 4 = 1 ∨ z % 4 = 2 ∨ z % 4 = 3 := by omega
                    have htm : z.tmod 4 = z % 4 := Int.tmod_eq_emod_of_nonneg hz2
                    rcases hr4 with hr4 | hr4 | hr4 | hr4
                    · rw [hr4] at htm
                      go_wp2_with fail
                      go_roundg (gk - 1)
                      case measure => omega
                      case rel => exact ⟨i + 1, kk + 1, T ++ [] ++ [58] ++ [32], false, by omega, by omega, by go_num, by first | rfl | go_num, rfl, by refine congrArg Value.string (ByteArray.ext (Array.toList_inj.1 ?_)); simp [ByteArray.data_append], by simp; omega, by rw [HTK.out]; exact HBP.out.mark 58 [] [32] (by decide) (by decide) (by decide), HB2.out⟩
                    · rw [hr4] at htm
                      go_wp2_with fail
                      go_roundg (gk - 1)
                      case measure => omega
                      case rel => exact ⟨i + 1, kk + 1, T ++ [32] ++ [58] ++ [], false, by omega, by omega, by go_num, by first | rfl | go_num, rfl, by refine congrArg Value.string (ByteArray.ext (Array.toList_inj.1 ?_)); simp [ByteArray.data_append], by simp; omega, by rw [HTK.out]; exact HBP.out.mark 58 [32] [] (by decide) (by decide) (by decide), HB2.out⟩
                    · rw [hr4] at htm
                      go_wp2_with fail
                      go_roundg (gk - 1)
                      case measure => omega
                      case rel => exact ⟨i + 1, kk + 1, T ++ [10, 9] ++ [58] ++ [9], false, by omega, by omega, by go_num, by first | rfl | go_num, rfl, by refine congrArg Value.string (ByteArray.ext (Array.toList_inj.1 ?_)); simp [ByteArray.data_append], by simp; omega, by rw [HTK.out]; exact HBP.out.mark 58 [10, 9] [9] (by decide) (by decide) (by decide), HB2.out⟩
                    · rw [hr4] at htm
                      go_wp2_with fail
                      go_roundg (gk - 1)
                      case measure => omega
                      case rel => exact ⟨i + 1, kk + 1, T ++ [13, 32] ++ [58] ++ [10], false, by omega, by omega, by go_num, by first | rfl | go_num, rfl, by refine congrArg Value.string (ByteArray.ext (Array.toList_inj.1 ?_)); simp [ByteArray.data_append], by simp; omega, by rw [HTK.out]; exact HBP.out.mark 58 [13, 32] [10] (by decide) (by decide) (by decide), HB2.out⟩
                  · have hkl2 : ¬ (kk : Int) < (len : Int) := by omega
                    go_wp2_with fail
                    go_roundg (gk - 1)
                    case measure => omega
                    case rel => exact ⟨i + 1, kk, T ++ [58], false, by omega, by omega, by go_num, by first | rfl | go_num, rfl, by refine congrArg Value.string (ByteArray.ext (Array.toList_inj.1 ?_)); simp [ByteArray.data_append], by simp; omega, by rw [HTK.out]; exact (by have := HBP.out.mark 58 [] [] (by decide) rfl rfl; simpa using this), HBW.out⟩
        · obtain rfl : i = S.size := by omega
          rw [← hLs, List.take_length] at HBP
          have hbl := HBP.out [] [] .nil
          rw [List.append_nil, List.append_nil] at hbl
          have hLv : L = shJ v := by rw [HL.out, HSE.out]
          rw [hLv] at hbl
          obtain ⟨o1, o2, y, er, hv1, hv2, ho1, ho2⟩ := blanks_reads v T HFD.out.1 HR.out HFD.out.2 hbl
          have HO1 := Lib.hid ho1
          have HO2 := Lib.hid ho2
          have HV2 := Lib.hid hv2
          have HP1 := Lib.hid (HP.out S o1 _ HBW.out (by omega) (by rw [← HL.out, hLv]; exact hv1))
          clear hbl ho1 ho2 hv1 hv2 hLv
          go_wp2_with fail
          refine HP1.out.mono ?_
          intro e w5 hp5
          obtain ⟨hb5, V5, p5, rfl, hj5⟩ := pp_of hp5 HO1.out
          clear hp5 HP1
          obtain ⟨yk, yb, yn, yu, ys, yks, yvs⟩ := y
          have hj5' := hj5
          rw [JAt] at hj5'
          obtain ⟨ra, rc, ra2, rc2, rfl, -⟩ := hj5'
          have hbb := (HBW.out.trans (hb5.mono HBW.out.size)).alloc (Nat.le_trans HBW.out.size hb5.size) (.cells #[.int .u8 yk, .bool yb, .int .i64 yn, .int .u64 yu, .string ys, .slice ra yks.length rc, .slice ra2 yvs.length rc2] 27)
          have hbx := heap_alloc_new w5 (.cells #[.int .u8 yk, .bool yb, .int .i64 yn, .int .u64 yu, .string ys, .slice ra yks.length rc, .slice ra2 yvs.length rc2] 27)
          have HJ5 := Lib.hid (hj5.kept (w' := w5.alloc (.cells #[.int .u8 yk, .bool yb, .int .i64 yn, .int .u64 yu, .string ys, .slice ra yks.length rc, .slice ra2 yvs.length rc2] 27)) (ok' := fun _ => True) (fun j _ hj => ⟨Below.heap_alloc _ _ _ hj, trivial⟩))
          have HB6 := Lib.hid hbb
          have HBX6 := Lib.hid hbx
          have hl6 := (Array.getElem?_eq_some_iff.1 hbx).1
          clear hbb hbx hj5 hb5
          go_upto_region 25 with fail
          generalize w5.alloc (.cells #[.int .u8 yk, .bool yb, .int .i64 yn, .int .u64 yu, .string ys, .slice ra yks.length rc, .slice ra2 yvs.length rc2] 27) = w6 at *
          have hXd : (((⟨#[32]⟩ : ByteArray) ++ ⟨T.toArray⟩) ++ ⟨#[10]⟩).data.toList = 32 :: T ++ [10] := by simp [ByteArray.data_append]
          have hXs : (((⟨#[32]⟩ : ByteArray) ++ ⟨T.toArray⟩) ++ ⟨#[10]⟩).size ≤ 1100000000 := by
            have h0 : ∀ (a b : ByteArray), (a ++ b).size = a.size + b.size := fun a b => ByteArray.size_append
            rw [h0, h0]
            simp only [show (⟨#[32]⟩ : ByteArray).size = 1 from rfl, show (⟨#[10]⟩ : ByteArray).size = 1 from rfl]
            omega
          have HP2 := Lib.hid (HP.out _ o2 _ HB6.out hXs (by rw [hXd]; exact HV2.out))
          clear hXd hXs
          go_wp2_with fail
          refine HP2.out.mono ?_
          intro e w7 hp7
          obtain ⟨hb7, V7, p7, rfl, hj7⟩ := pp_of hp7 HO2.out
          clear hp7 HP2
          have hj7' := hj7
          rw [JAt] at hj7'
          obtain ⟨sa, sc, sa2, sc2, rfl, -⟩ := hj7'
          have hbc : Below w6.heap.size w6 (w7.alloc (.cells #[.int .u8 yk, .bool yb, .int .i64 yn, .int .u64 yu, .string ys, .slice sa yks.length sc, .slice sa2 yvs.length sc2] 27)) := hb7.alloc hb7.size _
          have hbx7 := heap_alloc_new w7 (.cells #[.int .u8 yk, .bool yb, .int .i64 yn, .int .u64 yu, .string ys, .slice sa yks.length sc, .slice sa2 yvs.length sc2] 27)
          have hbx6 := (hbc.block _ hl6).trans HBX6.out
          have HJ7 := Lib.hid (hj7.kept (w' := w7.alloc (.cells #[.int .u8 yk, .bool yb, .int .i64 yn, .int .u64 yu, .string ys, .slice sa yks.length sc, .slice sa2 yvs.length sc2] 27)) (ok' := fun _ => True) (fun j _ hj => ⟨Below.heap_alloc _ _ _ hj, trivial⟩))
          have HJ6 := Lib.hid (HJ5.out.kept (ok' := fun _ => True) (fun j _ hj => ⟨hbc.block j hj, trivial⟩))
          have HB8 := Lib.hid (HB6.out.trans (hbc.mono HB6.out.size))
          have HY7 := Lib.hid hbx7
          have HY6 := Lib.hid hbx6
          clear hbc hbx7 hbx6 hj7 hb7 HJ5 HBX6 HB6
          go_upto_region 26 with fail
          generalize w7.alloc (.cells #[.int .u8 yk, .bool yb, .int .i64 yn, .int .u64 yu, .string ys, .slice sa yks.length sc, .slice sa2 yvs.length sc2] 27) = w8 at *
          have hy6 := HY6.out
          have hy7 := HY7.out
          obtain ⟨c0, c1, c2, c3, c4, c5, c6⟩ := cell_agg7 hy6
          obtain ⟨d0, d1, d2, d3, d4, d5, d6⟩ := cell_agg7 hy7
          have HSV := Lib.hid (same_any _ _ _ _ _ _ w8 HJ6.out HJ7.out)
          rw [JV.same_self] at HSV
          clear hy6 hy7
          go_wp2_with fail
          refine HSV.out.mono ?_
          rintro e w9 ⟨rfl, hb9⟩
          have HB9 := Lib.hid (HB8.out.trans (hb9.mono HB8.out.size))
          clear hb9 c0 c1 c2 c3 c4 c5 c6 d0 d1 d2 d3 d4 d5 d6
          go_wp2_with fail
          go_ret
          exact ⟨rfl, HB9.out⟩
    · have hc2 : (v.check == 0) = false := beq_eq_false_iff_ne.2 hc
      have hc3 : (v.check != 0) = true := by rw [bne, hc2]; rfl
      generalize v.check = zz at *
      go_wp2_with fail
      go_ret
      exact ⟨rfl, HW3.out⟩
end Go.Proofs.YtckaoeloofbklaaGreatDoor
namespace Go.Proofs.YtckaoeloofbklaaGreatDoor
open Go Go.ChangeShapes Go.WideShapes Go.ChangeAt Go.RowKit Go.WideMaps Go.WideElems Go.Deep
theorem weightsAllV_mem {H : Type} {P : Program} {e : TypeId} : ∀ {l : List (DataW H)} {d : DataW H}, d ∈ l → ∀ n ∈ d.weights P e, n ∈ DataW.weightsAll P e l
  | d' :: r, d, hd, n, hn => by
    simp only [DataW.weightsAll, List.mem_append]
    rcases List.mem_cons.1 hd with rfl | h
    · exact .inl hn
    · exact .inr (weightsAllV_mem h n hn)
section
variable {H : Type} {enc : TypeId × Value → H} {W : World}
theorem val_cells : Tryz.prog.cellsOf 27 = 7 := by kernel_rfl
theorem kind_cells : Tryz.prog.cellsOf 22 = 1 := by kernel_rfl
theorem boolV_cells : Tryz.prog.cellsOf 4 = 1 := by kernel_rfl
theorem i64_cells : Tryz.prog.cellsOf 2 = 1 := by kernel_rfl
theorem u64V_cells : Tryz.prog.cellsOf 23 = 1 := by kernel_rfl
theorem strV_cells : Tryz.prog.cellsOf 9 = 1 := by kernel_rfl
theorem strsV_cells : Tryz.prog.cellsOf 24 = 1 := by kernel_rfl
theorem vals_cells : Tryz.prog.cellsOf 25 = 1 := by kernel_rfl
theorem strV_bytes : Tryz.prog.bytesOf 9 = 16 := by kernel_rfl
theorem val_bytes : 16 ≤ Tryz.prog.bytesOf 27 := of_decide_eq_true (by kernel_rfl)
theorem seven {α : Type} (l : List α) (h : l.length = 7) : ∃ a b c d e f g, l = [a, b, c, d, e, f, g] := by
  match l, h with
  | [a, b, c, d, e, f, g], _ => exact ⟨a, b, c, d, e, f, g, rfl⟩
theorem add_noneV (b o k : Nat) : (⟨b, o, Option.none⟩ : Addr).add k = ⟨b, o + k, Option.none⟩ := by simp [Addr.add]
theorem itAt_of {ok : Nat → Prop} {q : Nat} : ∀ (vs : List JV) (off : Nat), (∀ i x, vs[i]? = some x → ∃ V, Cells7 W q (off + 7 * i) V ∧ JAt ok W x V) → ItAt ok W q off vs
  | [], _, _ => by rw [ItAt]; trivial
  | v :: vs, off, h => by
    rw [ItAt]
    refine ⟨by simpa using h 0 v rfl, itAt_of vs (off + 7) fun i x hx => ?_⟩
    have := h (i + 1) x (by simpa using hx)
    rwa [show off + 7 * (i + 1) = off + 7 + 7 * i by omega] at this
theorem bulk_strs : ∀ l : List ByteArray, l.length + (l.map ByteArray.size).sum ≤ Rows.uptoBulkAll (strs (H := H) l)
  | [] => by simp
  | s :: l => by
    have := bulk_strs l
    have e : strs (H := H) (s :: l) = .lit (.string s.data.toList) :: strs l := rfl
    rw [e, Rows.uptoBulkAll, Rows.uptoBulk, List.length_cons, List.map_cons, List.sum_cons]
    have h : s.data.toList.length = s.size := by simp
    omega
theorem bulk_vals (f : Nat → JV) (D : Nat → DataW H) : ∀ l : List Nat, (∀ i ∈ l, (f i).weigh ≤ Rows.uptoBulk (D i)) → JV.weighL (l.map f) ≤ Rows.uptoBulkAll (l.map D)
  | [], _ => by simp [JV.weighL]
  | i :: l, h => by
    have := bulk_vals f D l fun j hj => h j (by simp [hj])
    have := h i (by simp)
    rw [List.map_cons, List.map_cons, JV.weighL, Rows.uptoBulkAll]
    omega
theorem namesV_of_trod {fuel : Nat} {c : Value} {x : DataW H × List MemPlace} (h : DataW.trod enc Tryz.prog W 0 (fun _ => true) true fuel 24 [c] = some x) (hw : ∀ q ∈ x.1.weights Tryz.prog 24, q ≤ reachBytes) :
    ∃ a k ks, c = .slice a (ks : List ByteArray).length k ∧ StrsAt (fun _ => True) W a ks ∧ ks.length ≤ 35184372080000 ∧ (∀ s ∈ ks, s.size ≤ 140737488351232) ∧ ks.length + (ks.map ByteArray.size).sum ≤ Rows.uptoBulk x.1 := by
  rcases open_strings Tryz.underlying24 Tryz.underlying9 strV_cells h with ⟨hcs, _⟩ | ⟨ad, len, cap, ss, hcs, _, hl, hm, hz, rfl, hcell, _⟩
  · simp at hcs
    subst hcs
    exact ⟨Option.none, 0, [], rfl, .inl rfl, by simp, by simp, by simp⟩
  · simp at hcs
    subst hcs
    simp only [if_true] at hz
    have hlen : (ss.take len).length = len := by rw [List.length_take]; omega
    simp only [DataW.weights, Tryz.underlying24, List.mem_cons, List.mem_append] at hw
    have hb := hw _ (.inl rfl)
    rw [strV_bytes] at hb
    have hle : len ≤ (strs (H := H) (ss.take len)).length + (strs (H := H) (ss.drop len)).length := by simp [strs]; omega
    refine ⟨some ad, cap, ss.take len, by rw [hlen], ?_, by rw [hlen]; unfold reachBytes at hb; omega, fun s hs => ?_, ?_⟩
    · by_cases h0 : len = 0
      · exact .inl (by rw [h0, List.take_zero])
      · have hc0 := hcell 0 (by omega)
        have hspot : ad.spot = Option.none := by
          have := World.cell?_spot hc0
          simpa [Addr.add] using this
        obtain ⟨b, off, spot⟩ := ad
        simp at hspot
        subst hspot
        refine .inr ⟨b, off, rfl, trivial, World.block_lt_of_cell? W _ hc0, fun j k hj => ?_⟩
        have hj2 := (List.getElem?_eq_some_iff.1 hj).1
        rw [hlen] at hj2
        have := hcell j (by omega)
        rw [show (⟨b, off, Option.none⟩ : Addr).add j = ⟨b, off + j, Option.none⟩ from by simp [Addr.add]] at this
        rw [this]
        rw [List.getElem?_take, if_pos hj2] at hj
        rw [List.getD_eq_getElem?_getD, hj]
        rfl
    · have := hw s.size (.inr (.inl (weightsAllV_mem (d := .lit (.string s.data.toList)) (List.mem_map.2 ⟨s, hs, rfl⟩) _ (by simp [DataW.weights]))))
      unfold reachBytes at this
      omega
    · rw [Rows.uptoBulk]
      have := bulk_strs (H := H) (ss.take len)
      omega
set_option maxRecDepth 10000 in
theorem val_of_trod : ∀ (N fuel : Nat) (cs : List Value) (x : DataW H × List MemPlace), SizeOf.sizeOf x.1 < N → DataW.trod enc Tryz.prog W 0 (fun _ => true) true fuel 27 cs = some x →
    (∀ q ∈ x.1.weights Tryz.prog 27, q ≤ reachBytes) → ∃ (v : JV) (c0 c1 c2 c3 c4 c5 c6 : Value), cs = [c0, c1, c2, c3, c4, c5, c6] ∧ JAt (fun _ => True) W v (.agg #[c0, c1, c2, c3, c4, c5, c6]) ∧ KOk v ∧ Rng v ∧ Loc v ∧ v.weigh ≤ Rows.uptoBulk x.1
  | 0, _, _, _, h, _, _ => by omega
  | N + 1, fuel, cs, x, hN, h, hw => by
    obtain ⟨ys, n', hn', hy, hlen, hyl, hf⟩ := DataW.trod_struct Tryz.underlying27 h
    rw [val_cells] at hlen
    obtain ⟨c0, c1, c2, c3, c4, c5, c6, rfl⟩ := seven cs hlen
    obtain ⟨y0, y1, y2, y3, y4, y5, y6, rfl⟩ := seven ys hyl
    have h0 := hf 0 _ rfl
    have h1 := hf 1 _ rfl
    have h2 := hf 2 _ rfl
    have h3 := hf 3 _ rfl
    have h4 := hf 4 _ rfl
    have h5 := hf 5 _ rfl
    have h6 := hf 6 _ rfl
    replace h0 : DataW.trod enc Tryz.prog W 0 (fun _ => true) true n' 22 (List.take (Tryz.prog.cellsOf 22) [c0, c1, c2, c3, c4, c5, c6]) = some y0 := h0
    replace h1 : DataW.trod enc Tryz.prog W 0 (fun _ => true) true n' 4 (List.take (Tryz.prog.cellsOf 4) [c1, c2, c3, c4, c5, c6]) = some y1 := h1
    replace h2 : DataW.trod enc Tryz.prog W 0 (fun _ => true) true n' 2 (List.take (Tryz.prog.cellsOf 2) [c2, c3, c4, c5, c6]) = some y2 := h2
    replace h3 : DataW.trod enc Tryz.prog W 0 (fun _ => true) true n' 23 (List.take (Tryz.prog.cellsOf 23) [c3, c4, c5, c6]) = some y3 := h3
    replace h4 : DataW.trod enc Tryz.prog W 0 (fun _ => true) true n' 9 (List.take (Tryz.prog.cellsOf 9) [c4, c5, c6]) = some y4 := h4
    replace h5 : DataW.trod enc Tryz.prog W 0 (fun _ => true) true n' 24 (List.take (Tryz.prog.cellsOf 24) [c5, c6]) = some y5 := h5
    replace h6 : DataW.trod enc Tryz.prog W 0 (fun _ => true) true n' 25 (List.take (Tryz.prog.cellsOf 25) [c6]) = some y6 := h6
    rw [kind_cells] at h0
    rw [boolV_cells] at h1
    rw [i64_cells] at h2
    rw [u64V_cells] at h3
    rw [strV_cells] at h4
    rw [strsV_cells] at h5
    rw [vals_cells] at h6
    obtain ⟨k, e0, _, w0⟩ := DataW.trod_int Tryz.underlying22 h0
    obtain ⟨b, e1, _⟩ := DataW.trod_bool Tryz.underlying4 h1
    obtain ⟨nn, e2, _, w2⟩ := DataW.trod_int Tryz.underlying2 h2
    obtain ⟨u, e3, _, w3⟩ := DataW.trod_int Tryz.underlying23 h3
    obtain ⟨s, e4, f4, w4⟩ := DataW.trod_string Tryz.underlying9 h4
    simp at e0 e1 e2 e3 e4
    subst e0 e1 e2 e3 e4
    simp only [Lit.wf, IntKind.min, IntKind.max, IntKind.signed, IntKind.bits] at w0 w2 w3
    simp at w0 w2 w3
    have hx1 : x.1 = .agg [y0.1, y1.1, y2.1, y3.1, y4.1, y5.1, y6.1] := by rw [hy]; rfl
    have hwe : ∀ (j : Nat) (t : TypeId) (d : DataW H), [22, 4, 2, 23, 9, 24, 25][j]? = some t → [y0.1, y1.1, y2.1, y3.1, y4.1, y5.1, y6.1][j]? = some d → ∀ q ∈ d.weights Tryz.prog t, q ≤ reachBytes := by
      intro j t d ht hd q hq
      refine hw q ?_
      rw [hx1]
      simp only [DataW.weights, Tryz.underlying27]
      exact DataW.weights_mem_each (j := j) (t := t) (d := d) ht hd q hq
    have hs : s.size ≤ 140737488351232 := by
      have := hwe 4 _ _ rfl rfl s.size (by rw [f4]; simp [DataW.weights])
      unfold reachBytes at this
      omega
    simp only [List.take_succ_cons, List.take_zero] at h5 h6
    obtain ⟨ka, kc, ks, rfl, hks, hkn, hkz, hkb⟩ := namesV_of_trod h5 (hwe 5 _ _ rfl rfl)
    have hw6 := hwe 6 _ _ rfl rfl
    obtain ⟨a, c, vs, rfl, hvs, hvn, hall, hvb⟩ : ∃ a c vs, c6 = .slice a (vs : List JV).length c ∧ (vs = [] ∨ ∃ q off, a = some ⟨q, off, none⟩ ∧ True ∧ q < W.heap.size ∧ ItAt (fun _ => True) W q off vs) ∧ vs.length ≤ 35184372080000 ∧ (∀ v ∈ vs, KOk v ∧ Rng v ∧ Loc v) ∧ JV.weighL vs ≤ Rows.uptoBulk y6.1 := by
      rcases open_slice Tryz.underlying25 h6 with ⟨hcs, _⟩ | ⟨ad, len, cap, m, n, D, Pl, hcs, _, hl, hm, hmm, hx, hi⟩
      · simp at hcs
        subst hcs
        exact ⟨Option.none, 0, [], rfl, .inl rfl, by simp, by simp, by simp [JV.weighL]⟩
      · simp at hcs
        subst hcs
        simp at hmm
        subst hmm
        have hd : y6.1 = .slice ((List.range len).map D) ((List.range (m - len)).map fun j => D (len + j)) := congrArg Prod.fst hx
        rw [hd] at hw6
        simp only [DataW.weights, Tryz.underlying25, List.mem_cons, List.mem_append] at hw6
        have hb := hw6 _ (.inl rfl)
        have hvb := val_bytes
        have hln : len * 16 ≤ reachBytes := by
          refine Nat.le_trans (Nat.mul_le_mul (by simp) hvb) hb
        have hsz : ∀ i, i < len → SizeOf.sizeOf (D i) < N := by
          intro i hi'
          have g1 : SizeOf.sizeOf (D i) < SizeOf.sizeOf ((List.range len).map D) := List.sizeOf_lt_of_mem (List.mem_map.2 ⟨i, List.mem_range.2 hi', rfl⟩)
          have g2 : SizeOf.sizeOf y6.1 = 1 + SizeOf.sizeOf ((List.range len).map D) + SizeOf.sizeOf ((List.range (m - len)).map fun j => D (len + j)) := by rw [hd, DataW.slice.sizeOf_spec]
          have g3 : SizeOf.sizeOf x.1 = 1 + SizeOf.sizeOf [y0.1, y1.1, y2.1, y3.1, y4.1, y5.1, y6.1] := by rw [hx1, DataW.agg.sizeOf_spec]
          have g4 : SizeOf.sizeOf y6.1 < SizeOf.sizeOf [y0.1, y1.1, y2.1, y3.1, y4.1, y5.1, y6.1] := List.sizeOf_lt_of_mem (by simp)
          omega
        by_cases hl0 : len = 0
        · subst hl0
          exact ⟨some ad, m, [], rfl, .inl rfl, by simp, by simp, by simp [JV.weighL]⟩
        have hspot : ad.spot = Option.none ∧ ad.block < W.heap.size := by
          obtain ⟨cs', hc, ht⟩ := hi 0 (by omega)
          rw [val_cells] at hc
          obtain ⟨v, d0, d1, d2, d3, d4, d5, d6, rfl, _⟩ := val_of_trod N n cs' (D 0, Pl 0) (hsz 0 (by omega)) ht (fun q hq => hw6 q (.inr (.inl (weightsAllV_mem (List.mem_map.2 ⟨0, List.mem_range.2 (by omega), rfl⟩) q hq))))
          obtain ⟨_, _, hat⟩ := World.cells?_some hc
          have hc0 := hat 0 (by decide)
          have hsp : ad.spot = Option.none := by
            have := World.cell?_spot hc0
            simpa [Addr.add] using this
          obtain ⟨bb, off, spot⟩ := ad
          simp at hsp
          subst hsp
          refine ⟨rfl, World.block_lt_of_cell? W (u := d0) ⟨bb, off, Option.none⟩ ?_⟩
          rw [show ((⟨bb, off, Option.none⟩ : Addr).add (0 * 7)).add 0 = ⟨bb, off, Option.none⟩ from by simp [Addr.add]] at hc0
          exact hc0
        obtain ⟨bb, off, spot⟩ := ad
        obtain ⟨hsp, hbw⟩ := hspot
        simp only at hsp hbw
        subst hsp
        have each : ∀ i, i < len → ∃ v : JV, (∃ V, Cells7 W bb (off + 7 * i) V ∧ JAt (fun _ => True) W v V) ∧ (KOk v ∧ Rng v ∧ Loc v) ∧ v.weigh ≤ Rows.uptoBulk (D i) := by
          intro i hi'
          obtain ⟨cs', hc, ht⟩ := hi i (by omega)
          rw [val_cells] at hc
          obtain ⟨v, d0, d1, d2, d3, d4, d5, d6, rfl, hj, g1, g2, g3, g4⟩ := val_of_trod N n cs' (D i, Pl i) (hsz i hi') ht (fun q hq => hw6 q (.inr (.inl (weightsAllV_mem (List.mem_map.2 ⟨i, List.mem_range.2 hi', rfl⟩) q hq))))
          obtain ⟨_, _, hat⟩ := World.cells?_some hc
          have key : ∀ j, j < 7 → W.cell? ⟨bb, off + 7 * i + j, Option.none⟩ = [d0, d1, d2, d3, d4, d5, d6][j]? := fun j hj => by
            have := hat j hj
            rw [add_noneV, add_noneV, Nat.mul_comm i 7] at this
            exact this
          exact ⟨v, ⟨_, ⟨d0, d1, d2, d3, d4, d5, d6, rfl, key 0 (by decide), key 1 (by decide), key 2 (by decide), key 3 (by decide), key 4 (by decide), key 5 (by decide), key 6 (by decide)⟩, hj⟩, ⟨g1, g2, g3⟩, g4⟩
        obtain ⟨f, hfe⟩ : ∃ f : Nat → JV, ∀ i, i < len → (∃ V, Cells7 W bb (off + 7 * i) V ∧ JAt (fun _ => True) W (f i) V) ∧ (KOk (f i) ∧ Rng (f i) ∧ Loc (f i)) ∧ (f i).weigh ≤ Rows.uptoBulk (D i) := by
          refine ⟨fun i => if h : i < len then (each i h).choose else .mk 0 false 0 0 ⟨#[]⟩ [] [], fun i hi' => ?_⟩
          simp only [hi', dif_pos]
          exact (each i hi').choose_spec
        have hvl : ((List.range len).map f).length = len := by simp
        refine ⟨some ⟨bb, off, Option.none⟩, m, (List.range len).map f, by rw [hvl], .inr ⟨bb, off, rfl, trivial, hbw, itAt_of _ _ fun i x hx => ?_⟩, by rw [hvl]; unfold reachBytes at hln; omega, fun v hv => ?_, ?_⟩
        · rw [List.getElem?_map, Option.map_eq_some_iff] at hx
          obtain ⟨j, hj, rfl⟩ := hx
          obtain ⟨hlt, rfl⟩ := List.getElem?_eq_some_iff.1 hj
          simp only [List.length_range] at hlt
          simp only [List.getElem_range]
          exact (hfe i hlt).1
        · obtain ⟨i, hi', rfl⟩ := List.mem_map.1 hv
          exact (hfe i (List.mem_range.1 hi')).2.1
        · rw [hd, Rows.uptoBulk]
          have := bulk_vals f D (List.range len) fun i hi' => (hfe i (List.mem_range.1 hi')).2.2
          omega
    refine ⟨.mk k b nn u s ks vs, _, _, _, _, _, _, _, rfl, ?_, .mk w0.1 (by omega) fun v hv => (hall v hv).1, .mk w2.1 (by omega) w3.1 (by omega) fun v hv => (hall v hv).2.1, .mk hs hkz fun v hv => (hall v hv).2.2, ?_⟩
    · rw [JAt]
      exact ⟨ka, kc, a, c, rfl, hks, hvs, hkn, hvn⟩
    · have hs4 : s.size ≤ Rows.uptoBulk y4.1 := by rw [f4, Rows.uptoBulk]; simp
      rw [hx1, Rows.uptoBulk, JV.weigh]
      simp only [Rows.uptoBulkAll]
      omega
theorem arg_value_at (j : Nat) {v : Value} {d : DataW H} {p : List MemPlace} {ts : List TypeId} {ds : List (DataW H)} (h : DataW.Trod enc Tryz.prog W 0 (fun _ => true) true 27 v d p)
    (hv : ∃ xs, v = .agg xs) (ht : ts[j]? = some 27) (hd : ds[j]? = some d) (hsz : (DataW.weightsEach Tryz.prog ts ds).all (· ≤ reachBytes) = true) :
    ∃ x : JV, JAt (fun _ => True) W x v ∧ KOk x ∧ Rng x ∧ Loc x ∧ x.weigh ≤ Rows.uptoBulk d := by
  obtain ⟨fuel, hf⟩ := h
  obtain ⟨xs, rfl⟩ := hv
  obtain ⟨x, c0, c1, c2, c3, c4, c5, c6, hc, hj, h1, h2, h3, h4⟩ := val_of_trod (SizeOf.sizeOf d + 1) fuel _ (d, p) (by show SizeOf.sizeOf d < _; omega) hf (fun q hq => of_decide_eq_true (List.all_eq_true.1 hsz q (DataW.weights_mem_each (j := j) (t := 27) (d := d) ht hd q hq)))
  refine ⟨x, ?_, h1, h2, h3, h4⟩
  simp only [Value.cells] at hc
  have : xs = #[c0, c1, c2, c3, c4, c5, c6] := by cases xs; simp_all
  rw [this]
  exact hj
end
end Go.Proofs.YtckaoeloofbklaaGreatDoor
