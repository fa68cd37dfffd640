/- The law OpenImplied, walked: it returns true. -/
import Derived.Test.YtibfiblajicdpaaDoorP
import Derived.Deep.AppendLies
namespace Go.Proofs.YtibfiblajicdpaaDoor
open Go Go.RowKit

def impZ : List ByteArray := [(⟨#[100, 100]⟩ : ByteArray), (⟨#[100, 116]⟩ : ByteArray), (⟨#[108, 105]⟩ : ByteArray), (⟨#[111, 112, 116, 103, 114, 111, 117, 112]⟩ : ByteArray), (⟨#[111, 112, 116, 105, 111, 110]⟩ : ByteArray), (⟨#[112]⟩ : ByteArray), (⟨#[114, 98]⟩ : ByteArray), (⟨#[114, 112]⟩ : ByteArray), (⟨#[114, 116]⟩ : ByteArray), (⟨#[114, 116, 99]⟩ : ByteArray)]
def thZ : List ByteArray := [(⟨#[99, 97, 112, 116, 105, 111, 110]⟩ : ByteArray), (⟨#[99, 111, 108, 103, 114, 111, 117, 112]⟩ : ByteArray), (⟨#[116, 98, 111, 100, 121]⟩ : ByteArray), (⟨#[116, 100]⟩ : ByteArray), (⟨#[116, 102, 111, 111, 116]⟩ : ByteArray), (⟨#[116, 104]⟩ : ByteArray), (⟨#[116, 104, 101, 97, 100]⟩ : ByteArray), (⟨#[116, 114]⟩ : ByteArray)]
def wordsZ (th : Bool) : List ByteArray := if th then impZ ++ thZ else impZ

theorem words_imp (s : ByteArray) : Lib.containsS (wordsZ false) s = amongL s.data.toList [] impW.data.toList := by
  rw [← impOk.contains]; congr 1
theorem words_tho (s : ByteArray) : Lib.containsS (wordsZ true) s = amongL s.data.toList [] thoW.data.toList := by
  rw [← thoOk.contains]; congr 1

/-- what ends by itself, by the law's own words -/
theorem impB_words (th : Bool) (but : ByteArray) (x : El) : impB th but x = ((x.sp.toList == [104, 116, 109, 108]) && Lib.containsS (wordsZ th) x.nm && !(x.nm.toList == but.toList)) := by
  unfold impB impliedB isB
  cases th
  · rw [words_imp]; rfl
  · rw [words_tho]; rfl

theorem imp_no1 {th : Bool} {but : ByteArray} {x : El} (h : ¬ x.nm ∈ wordsZ th) : impB th but x = false := by
  have : Lib.containsS (wordsZ th) x.nm = false := by rw [← Bool.not_eq_true, Lib.containsS_iff]; exact h
  rw [impB_words, this]; simp
theorem imp_no2 {th : Bool} {but : ByteArray} {x : El} (h : (x.sp.toList == [104, 116, 109, 108]) = false) : impB th but x = false := by
  rw [impB_words, h]; simp
theorem imp_no3 {th : Bool} {but : ByteArray} {x : El} (h : (x.nm.toList == but.toList) = true) : impB th but x = false := by
  rw [impB_words, h]; simp
theorem imp_yes {th : Bool} {but : ByteArray} {x : El} (h1 : x.nm ∈ wordsZ th) (h2 : (x.sp.toList == [104, 116, 109, 108]) = true) (h3 : (x.nm.toList == but.toList) = false) : impB th but x = true := by
  have : Lib.containsS (wordsZ th) x.nm = true := (Lib.containsS_iff _ _).2 h1
  rw [impB_words, h2, h3, this]; rfl

theorem infoStr : (Tryd.prog.info? 9).map (fun i => (i.zero, i.size, i.bytes)) = some (some (.string ⟨#[]⟩), 1, 16) := by kernel_rfl

theorem strs_of_row {W : World} {v : Value} {ns : List ByteArray} (h : W.ownsRow 0 9 1 v ns.length (ns.map Value.string)) (hm : ns.length ≤ 1000000) : StrsAt W v ns := by
  rcases h.2 with ⟨rfl, hn⟩ | ⟨g, cap, cur, rfl, _, hg, hc, _, hs, ht⟩
  · exact .inl ⟨List.eq_nil_of_length_eq_zero hn, _, _, rfl⟩
  · by_cases h0 : ns.length = 0
    · rw [h0]
      exact .inl ⟨List.eq_nil_of_length_eq_zero h0, _, _, rfl⟩
    · refine .inr ⟨g, 0, cap, rfl, (Array.getElem?_eq_some_iff.1 hg).1, by omega, by omega, fun j hj => ?_⟩
      rw [cell_of_row W g (0 + j) _ _ _ hg]
      have h1 : (List.take (ns.length * 1) cur.toList)[j]? = some (.string (ns.getD j ByteArray.empty)) := by
        rw [ht]; simp [hj]
      rw [List.getElem?_take] at h1
      split at h1
      · simpa using h1
      · cases h1

theorem strs_old (W : World) (ns : List ByteArray) (hm : ns.length ≤ 1000000) (h0 : 0 < ns.length) : StrsAt (W.alloc (.cells (ns.map Value.string).toArray 9)) (.slice (some ⟨W.heap.size, 0, Option.none⟩) ns.length ns.length) ns := by
  refine .inr ⟨_, 0, _, rfl, by simp, by omega, h0, fun j hj => ?_⟩
  rw [cell_of_row _ _ (0 + j) _ _ _ (heap_alloc_new W _)]
  simp [hj]
theorem strs_grown (W : World) (A B : Obj) (xs ys : List ByteArray) (Z : Array Value) (cap : Nat) (hm : (xs ++ ys).length ≤ 1000000) (h0 : 0 < (xs ++ ys).length) :
    StrsAt ((((W.alloc A).alloc B).alloc (.cells ((xs.map Value.string).toArray ++ ((ys.map Value.string).toArray ++ Z)) 9)).drew) (.slice (some ⟨W.heap.size + 1 + 1, 0, Option.none⟩) (xs ++ ys).length cap) (xs ++ ys) := by
  refine .inr ⟨_, 0, _, rfl, ?_, by omega, h0, fun j hj => ?_⟩
  · show W.heap.size + 1 + 1 < (((W.alloc A).alloc B).alloc _).heap.size
    simp
  · have hb := heap_alloc_new ((W.alloc A).alloc B) (.cells ((xs.map Value.string).toArray ++ ((ys.map Value.string).toArray ++ Z)) 9)
    rw [World.size_alloc, World.size_alloc] at hb
    have hb' : ((((W.alloc A).alloc B).alloc (.cells ((xs.map Value.string).toArray ++ ((ys.map Value.string).toArray ++ Z)) 9)).drew).heap[W.heap.size + 1 + 1]? = _ := hb
    rw [cell_of_row _ _ (0 + j) _ _ _ hb', ← Array.append_assoc, show (xs.map Value.string).toArray ++ (ys.map Value.string).toArray = ((xs ++ ys).map Value.string).toArray from by simp, Array.getElem?_append_left (by simpa using hj)]
    simp only [Nat.zero_add, List.getElem?_toArray, List.getElem?_map, List.getElem?_eq_getElem hj, Option.map_some, List.getD_eq_getElem?_getD, Option.getD_some]

theorem mem_next {ns : List ByteArray} {k : Nat} {nm : ByteArray} (hk : k < ns.length) (h : (ns[k].toList == nm.toList) = true) : nm ∈ ns.take (k + 1) := by
  have : nm = ns[k] := by
    have h' := eq_of_beq h
    rw [ByteArray.toList_eq, ByteArray.toList_eq] at h'
    exact (ByteArray.ext (Array.toList_inj.1 h')).symm
  rw [List.take_succ_eq_append_getElem hk]
  exact List.mem_append_right _ (by rw [this]; exact List.mem_singleton.2 rfl)
theorem mem_same {ns : List ByteArray} {k : Nat} {nm : ByteArray} (hk : k < ns.length) (h : (ns[k].toList == nm.toList) = false) : (nm ∈ ns.take (k + 1)) = (nm ∈ ns.take k) := by
  rw [List.take_succ_eq_append_getElem hk, List.mem_append, List.mem_singleton]
  refine propext ⟨fun h1 => ?_, .inl⟩
  rcases h1 with h1 | h1
  · exact h1
  · rw [h1] at h; simp at h
theorem mem_more {ns : List ByteArray} {k : Nat} {nm : ByteArray} (h : nm ∈ ns.take k) : nm ∈ ns.take (k + 1) :=
  (List.take_sublist_take_left (Nat.le_succ k)).subset h
theorem elsat_lt {w : World} {b off : Nat} {c : Nat} {l : List El} {n : Nat} (h : ElsAt w (.slice (some ⟨b, off, Option.none⟩) n c) l) : 0 < n → b < w.heap.size := by
  rcases h with ⟨_, a, c', he⟩ | ⟨b', off', c', he, hlt, _⟩
  · cases he; intro h; omega
  · cases he; intro _; exact hlt

/-- the world under one name -/
theorem gen_world {P : Program} {c : Code} {Q : Exit → Act → World → Prop} {a : Act} (W : World) (F : World → Prop) (hF : F W) (h : ∀ W', F W' → Code.wp P c Q a W') : Code.wp P c Q a W := h W hF

theorem row_of_lit (W : World) (ns : List ByteArray) (hm : ns.length ≤ 1000000) : (W.alloc (.cells (ns.map Value.string).toArray 9)).ownsRow 0 9 1 (.slice (some ⟨W.heap.size, 0, Option.none⟩) ns.length ns.length) ns.length (ns.map Value.string) :=
  ⟨by simp, .inr ⟨W.heap.size, ns.length, _, rfl, Nat.zero_le _, heap_alloc_new W _, Nat.le_refl _, by unfold maxLen; omega, by simp, by rw [Nat.mul_one, List.take_of_length_le (by simp)]⟩⟩

theorem news_new (W : World) (ns : List ByteArray) : ∀ j u, (ns.map Value.string)[j]? = some u → (W.alloc (.cells (ns.map Value.string).toArray 9)).cell? ((⟨W.heap.size, 0, Option.none⟩ : Addr).add j) = some u := by
  intro j u hu
  rw [show (⟨W.heap.size, 0, Option.none⟩ : Addr).add j = ⟨W.heap.size, j, Option.none⟩ from by unfold Addr.add; split <;> simp_all, cell_of_row _ _ j _ _ _ (heap_alloc_new W _)]
  simpa using hu

theorem atE_take (l : List El) (m k : Nat) (hk : k < m) (hm : m ≤ l.length) (h : k < l.length) : atE (l.take m) (k : Int) = l[k] := by
  unfold atE
  rw [if_pos (by simp; omega)]
  simp [hk, h]

set_option maxRecDepth 100000 in
set_option maxHeartbeats 8000000 in
/-- from where the words are known on -/
theorem implied_walk (vl : Value) (l : List El) (th : Bool) (but : ByteArray) (w : World) (hg : Glob w) (hl : ElsAt w vl l) :
    Calls Tryd.prog 4 #[vl, .bool th, .string but] w fun e w' => e = .returned (.bool true) ∧ Below w.heap.size w w' := by
  obtain ⟨la, ll, lc, rfl⟩ : ∃ a n c, vl = .slice a n c := by
    rcases hl with ⟨_, a, c, rfl⟩ | ⟨b, off, c, rfl, _⟩
    · exact ⟨_, _, _, rfl⟩
    · exact ⟨_, _, _, rfl⟩
  obtain rfl : ll = l.length := by
    rcases hl with ⟨rfl, a, c, he⟩ | ⟨b, off, c, he, _⟩
    · cases he; rfl
    · cases he; rfl
  by_cases hbig : 3000 < l.length
  · go_enter Tryd.func4, Tryd.ntmps4
    go_wp2_with (go_at_call 7; refine (works_any _ hg).mono ?_; rintro e w' ⟨rfl, hb⟩)
    go_ret
    exact ⟨rfl, hb⟩
  · have hsm : l.length ≤ 3000 := by omega
    clear hbig
    go_enter Tryd.func4, Tryd.ntmps4
    go_wp2_with fail
    refine (works_any _ hg).mono ?_
    rintro e w1 ⟨rfl, hb1⟩
    have s0 : St w w1.heap.size (l.take 0) (w1.alloc (.cells #[.slice Option.none 0 0] 27)) := St.new hg hb1 _ (by simp)
    have HL := Lib.hid hl
    clear hl
    go_wp2_with fail
    go_loopw [9] (fun i wr => ∃ k : Nat, k ≤ l.length ∧ i = .int .i64 k ∧ St w w1.heap.size (l.take k) wr) (fun i _ => l.length - (intOf i).toNat)
    case atStart => exact ⟨0, by omega, rfl, s0⟩
    case round =>
      obtain ⟨k, hk, rfl, s1⟩ := hrel
      by_cases hlt : k < l.length
      · obtain ⟨b, off, rfl, q0, q1, q2⟩ := els_at HL.out s1.below hlt
        have hts : l.take (k + 1) = l.take k ++ [l[k]] := List.take_succ_eq_append_getElem hlt
        have hpu := st_push s1 l[k] (by simp; omega)
        rw [← hts] at hpu
        have HP := Lib.hid hpu
        clear hpu hts
        generalize l[k] = x at *
        go_wp2_with fail
        refine HP.out.mono ?_
        rintro e w2 ⟨rfl, s2⟩
        go_wp2_with fail
        go_roundw
        case rel => exact ⟨k + 1, by omega, by go_num, s2⟩
        case measure => simp [intOf] <;> omega
      · obtain rfl : k = l.length := by omega
        rw [List.take_length] at s1
        obtain ⟨wr0, rfl⟩ : ∃ wr0 : World, wr0 = wr := ⟨_, rfl⟩
        cases th
        · go_wp2_with fail
          refine gen_world _ (fun W' => St w w1.heap.size l W' ∧ StrsAt W' (.slice (some ⟨wr0.heap.size, 0, Option.none⟩) 10 10) (wordsZ false)) ⟨s1.go ((Below.refl _ _).alloc (Nat.le_refl _) _), strs_old wr0 impZ (by decide) (by decide)⟩ ?_
          have hwl : (wordsZ false).length = 10 := rfl
          generalize (some (⟨wr0.heap.size, 0, Option.none⟩ : Addr)) = wa
          rintro w2 ⟨s2, hw2⟩
          have HW := Lib.hid hw2
          clear hw2
          go_loopw [11] (fun i wr => ∃ k : Nat, k ≤ l.length ∧ i = .int .i64 k ∧ Below w2.heap.size w2 wr ∧ (∀ j, j < k → ∀ x, l.reverse[j]? = some x → impB false but x = true)) (fun i _ => l.length - (intOf i).toNat)
          case atStart => exact ⟨0, by omega, rfl, Below.refl _ _, fun j hj => by omega⟩
          case round =>
            obtain ⟨k, hk, rfl, hb2, hP⟩ := hrel
            have HP := Lib.hid hP
            clear hP
            obtain ⟨wr1, rfl⟩ : ∃ wr1 : World, wr1 = wr := ⟨_, rfl⟩
            by_cases hlt : k < l.length
            · obtain ⟨b, off, hva, q0, q1, q2⟩ := els_at HL.out (s2.go hb2).below (k := l.length - 1 - k) (by omega)
              cases hva
              have hrev : l.reverse[k]? = some (l[l.length - 1 - k]'(by omega)) := by
                rw [List.getElem?_reverse hlt, List.getElem?_eq_getElem (by omega)]
              have HR := Lib.hid hrev
              clear hrev
              generalize l[l.length - 1 - k]'(by omega) = x at *
              have hb3 := (Below.refl wr1.heap.size wr1).alloc (Nat.le_refl _) (.cells #[.int .i64 x.id, .string x.sp, .string x.nm] 30)
              have hYes := fun (h1 : x.nm ∈ wordsZ false) (h2 : (x.sp.toList == [104, 116, 109, 108]) = true) (h3 : (x.nm.toList == but.toList) = false) => (fun j (hj : j < k + 1) y hy => by
                by_cases hjk : j < k
                · exact HP.out j hjk y hy
                · obtain rfl : j = k := by omega
                  rw [HR.out] at hy; cases hy; exact imp_yes h1 h2 h3 : ∀ j, j < k + 1 → ∀ y, l.reverse[j]? = some y → impB false but y = true)
              have hNo := fun (h : impB false but x = false) => (cntTop_eq _ l k hk HP.out (.inr ⟨x, HR.out, h⟩) : cntTop (impB false but) l = k)
              have HY := Lib.hid hYes
              have HN := Lib.hid hNo
              clear hYes hNo
              go_wp2_with fail
              go_loopw [13, 14] (fun isv iv wr => ∃ (m : Nat) (r : Bool), m ≤ 10 ∧ iv = .int .i64 m ∧ isv = .bool r ∧ (r = true ↔ x.nm ∈ (wordsZ false).take m) ∧ Below (wr1.heap.size + 1) (wr1.alloc (.cells #[.int .i64 x.id, .string x.sp, .string x.nm] 30)) wr) (fun _ iv _ => 10 - (intOf iv).toNat)
              case atStart => exact ⟨0, false, by omega, rfl, rfl, by simp, Below.refl _ _⟩
              case round =>
                obtain ⟨m, r, hm, rfl, rfl, hr, hbi⟩ := hrel
                have hbi' : Below wr1.heap.size wr1 wr := hb3.trans (hbi.mono (by omega))
                have c1 : wr.cell? ⟨wr1.heap.size, 1, Option.none⟩ = some (.string x.sp) := (hbi.cell (p := ⟨wr1.heap.size, 1, Option.none⟩) (by simp)).trans (by simp [go_sem])
                have c2 : wr.cell? ⟨wr1.heap.size, 2, Option.none⟩ = some (.string x.nm) := (hbi.cell (p := ⟨wr1.heap.size, 2, Option.none⟩) (by simp)).trans (by simp [go_sem])
                have HI := Lib.hid hr
                clear hr
                by_cases hm2 : m < 10
                · obtain ⟨wb, wo, hwa, g0⟩ := strs_at (c := 10) HW.out (hb2.trans (hbi'.mono hb2.size)) (k := m) (by rw [hwl]; exact hm2)
                  cases hwa
                  have hs1 := fun (h : (((wordsZ false)[m]'(by rw [hwl]; exact hm2)).toList == x.nm.toList) = true) => mem_next (by rw [hwl]; exact hm2) h
                  have hs2 := fun (h : (((wordsZ false)[m]'(by rw [hwl]; exact hm2)).toList == x.nm.toList) = false) => mem_same (by rw [hwl]; exact hm2) h
                  have HS1 := Lib.hid hs1
                  have HS2 := Lib.hid hs2
                  clear hs1 hs2
                  generalize (wordsZ false)[m]'(by rw [hwl]; exact hm2) = y at *
                  cases r
                  · go_wp2_with fail
                    go_quiet (fail)
                    cases hq : (y.toList == x.nm.toList)
                    · have HQ := Lib.hid hq
                      go_wp2
                      go_roundw
                      case rel => exact ⟨m + 1, false, by omega, by go_num, by first | rfl | rw [HQ.out], by rw [HS2.out HQ.out]; exact HI.out, bDrewN hbi _⟩
                      case measure => simp [intOf] <;> omega
                    · have HQ := Lib.hid hq
                      go_wp2
                      go_roundw
                      case rel => exact ⟨m + 1, true, by omega, by go_num, by first | rfl | rw [HQ.out], by simp [HS1.out HQ.out], bDrewN hbi _⟩
                      case measure => simp [intOf] <;> omega
                  · go_wp2_with fail
                    go_quiet (fail)
                    go_wp2
                    go_roundw
                    case rel => exact ⟨m + 1, true, by omega, by go_num, rfl, by simp [mem_more (by first | exact HI.out.1 rfl | exact HI.out.1 trivial)], bDrewN hbi _⟩
                    case measure => simp [intOf] <;> omega
                · obtain rfl : m = 10 := by omega
                  have hall : (wordsZ false).take 10 = wordsZ false := by rw [← hwl, List.take_length]
                  rw [hall] at HI
                  clear hall
                  have hBB : Below w2.heap.size w2 wr := hb2.trans (hbi'.mono hb2.size)
                  cases r
                  · have hcnt := HN.out (imp_no1 (fun h => by have := HI.out.2 h; cases this))
                    have s3 := s2.go (hBB)
                    have hi := st_implied_r s3 false but k (l.take (l.length - k)) (by rw [hcnt]) (by rw [hcnt])
                    have HJ := Lib.hid hi
                    clear hi hcnt
                    go_wp2_with fail
                    refine HJ.out.mono ?_
                    rintro e w4 ⟨rfl, s4⟩
                    go_wp2_with fail
                    refine (st_len_r s4 ((l.length : Int) - k) (by first | (simp; done) | (simp; omega))).mono ?_
                    rintro e w' ⟨rfl, rfl⟩
                    go_wp2_with fail
                    go_loopw [16] (fun i wr => ∃ m : Nat, m ≤ l.length - k ∧ i = .int .i64 m ∧ St w w1.heap.size (l.take (l.length - k)) wr) (fun i _ => l.length - k - (intOf i).toNat)
                    case atStart => exact ⟨0, by omega, rfl, s4⟩
                    case round =>
                      obtain ⟨m, hm, rfl, s5⟩ := hrel
                      go_wp2_with fail
                      refine (st_len_r s5 ((l.length : Int) - k) (by first | (simp; done) | (simp; omega))).mono ?_
                      rintro e w' ⟨rfl, rfl⟩
                      by_cases hmk : m < l.length - k
                      · obtain ⟨b', off', hva', p0, p1, p2⟩ := els_at HL.out s5.below (k := m) (by omega)
                        cases hva'
                        have hat := st_at s5 m
                        rw [atE_take l (l.length - k) m hmk (by omega) (by omega)] at hat
                        have HA := Lib.hid hat
                        clear hat
                        have hwf := (HL.out)
                        generalize l[m]'(by omega) = z at *
                        go_wp2_with fail
                        refine HA.out.mono ?_
                        rintro e w6 ⟨rfl, hb6⟩
                        rw [El.v]
                        have s6 := s5.go hb6
                        have hbl := elsat_lt HL.out (by omega)
                        have p0' := Eq.trans (hb6.cell (by exact Nat.lt_of_lt_of_le hbl s5.below.size)) p0
                        have p1' := Eq.trans (hb6.cell (by exact Nat.lt_of_lt_of_le hbl s5.below.size)) p1
                        have p2' := Eq.trans (hb6.cell (by exact Nat.lt_of_lt_of_le hbl s5.below.size)) p2
                        have hbl6 := Nat.lt_of_lt_of_le hbl s6.below.size
                        go_wp2_with fail
                        go_quiet (fail)
                        go_wp2
                        go_roundw
                        case rel => exact ⟨m + 1, by omega, by go_num, s6.go (bDrewN ((Below.refl _ _).alloc (Nat.le_refl _) _) _)⟩
                        case measure => simp [intOf] <;> omega
                      · go_wp2_with fail
                        go_ret
                        exact ⟨rfl, s5.below⟩
                  · have hmem : x.nm ∈ wordsZ false := by first | exact HI.out.1 rfl | exact HI.out.1 trivial
                    have HM := Lib.hid hmem
                    clear hmem
                    cases h2 : (x.sp.toList == [104, 116, 109, 108])
                    · have hcnt := HN.out (imp_no2 h2)
                      have s3 := s2.go (hBB)
                      have hi := st_implied_r s3 false but k (l.take (l.length - k)) (by rw [hcnt]) (by rw [hcnt])
                      have HJ := Lib.hid hi
                      clear hi hcnt
                      go_wp2_with fail
                      refine HJ.out.mono ?_
                      rintro e w4 ⟨rfl, s4⟩
                      go_wp2_with fail
                      refine (st_len_r s4 ((l.length : Int) - k) (by first | (simp; done) | (simp; omega))).mono ?_
                      rintro e w' ⟨rfl, rfl⟩
                      go_wp2_with fail
                      go_loopw [16] (fun i wr => ∃ m : Nat, m ≤ l.length - k ∧ i = .int .i64 m ∧ St w w1.heap.size (l.take (l.length - k)) wr) (fun i _ => l.length - k - (intOf i).toNat)
                      case atStart => exact ⟨0, by omega, rfl, s4⟩
                      case round =>
                        obtain ⟨m, hm, rfl, s5⟩ := hrel
                        go_wp2_with fail
                        refine (st_len_r s5 ((l.length : Int) - k) (by first | (simp; done) | (simp; omega))).mono ?_
                        rintro e w' ⟨rfl, rfl⟩
                        by_cases hmk : m < l.length - k
                        · obtain ⟨b', off', hva', p0, p1, p2⟩ := els_at HL.out s5.below (k := m) (by omega)
                          cases hva'
                          have hat := st_at s5 m
                          rw [atE_take l (l.length - k) m hmk (by omega) (by omega)] at hat
                          have HA := Lib.hid hat
                          clear hat
                          have hwf := (HL.out)
                          generalize l[m]'(by omega) = z at *
                          go_wp2_with fail
                          refine HA.out.mono ?_
                          rintro e w6 ⟨rfl, hb6⟩
                          rw [El.v]
                          have s6 := s5.go hb6
                          have hbl := elsat_lt HL.out (by omega)
                          have p0' := Eq.trans (hb6.cell (by exact Nat.lt_of_lt_of_le hbl s5.below.size)) p0
                          have p1' := Eq.trans (hb6.cell (by exact Nat.lt_of_lt_of_le hbl s5.below.size)) p1
                          have p2' := Eq.trans (hb6.cell (by exact Nat.lt_of_lt_of_le hbl s5.below.size)) p2
                          have hbl6 := Nat.lt_of_lt_of_le hbl s6.below.size
                          go_wp2_with fail
                          go_quiet (fail)
                          go_wp2
                          go_roundw
                          case rel => exact ⟨m + 1, by omega, by go_num, s6.go (bDrewN ((Below.refl _ _).alloc (Nat.le_refl _) _) _)⟩
                          case measure => simp [intOf] <;> omega
                        · go_wp2_with fail
                          go_ret
                          exact ⟨rfl, s5.below⟩
                    · cases h3 : (x.nm.toList == but.toList)
                      · have HH := Lib.hid (HY.out HM.out h2 h3)
                        go_wp2
                        go_roundw
                        case rel => exact ⟨k + 1, by omega, by go_num, hBB, HH.out⟩
                        case measure => simp [intOf] <;> omega
                      · have hcnt := HN.out (imp_no3 h3)
                        have s3 := s2.go (hBB)
                        have hi := st_implied_r s3 false but k (l.take (l.length - k)) (by rw [hcnt]) (by rw [hcnt])
                        have HJ := Lib.hid hi
                        clear hi hcnt
                        go_wp2_with fail
                        refine HJ.out.mono ?_
                        rintro e w4 ⟨rfl, s4⟩
                        go_wp2_with fail
                        refine (st_len_r s4 ((l.length : Int) - k) (by first | (simp; done) | (simp; omega))).mono ?_
                        rintro e w' ⟨rfl, rfl⟩
                        go_wp2_with fail
                        go_loopw [16] (fun i wr => ∃ m : Nat, m ≤ l.length - k ∧ i = .int .i64 m ∧ St w w1.heap.size (l.take (l.length - k)) wr) (fun i _ => l.length - k - (intOf i).toNat)
                        case atStart => exact ⟨0, by omega, rfl, s4⟩
                        case round =>
                          obtain ⟨m, hm, rfl, s5⟩ := hrel
                          go_wp2_with fail
                          refine (st_len_r s5 ((l.length : Int) - k) (by first | (simp; done) | (simp; omega))).mono ?_
                          rintro e w' ⟨rfl, rfl⟩
                          by_cases hmk : m < l.length - k
                          · obtain ⟨b', off', hva', p0, p1, p2⟩ := els_at HL.out s5.below (k := m) (by omega)
                            cases hva'
                            have hat := st_at s5 m
                            rw [atE_take l (l.length - k) m hmk (by omega) (by omega)] at hat
                            have HA := Lib.hid hat
                            clear hat
                            have hwf := (HL.out)
                            generalize l[m]'(by omega) = z at *
                            go_wp2_with fail
                            refine HA.out.mono ?_
                            rintro e w6 ⟨rfl, hb6⟩
                            rw [El.v]
                            have s6 := s5.go hb6
                            have hbl := elsat_lt HL.out (by omega)
                            have p0' := Eq.trans (hb6.cell (by exact Nat.lt_of_lt_of_le hbl s5.below.size)) p0
                            have p1' := Eq.trans (hb6.cell (by exact Nat.lt_of_lt_of_le hbl s5.below.size)) p1
                            have p2' := Eq.trans (hb6.cell (by exact Nat.lt_of_lt_of_le hbl s5.below.size)) p2
                            have hbl6 := Nat.lt_of_lt_of_le hbl s6.below.size
                            go_wp2_with fail
                            go_quiet (fail)
                            go_wp2
                            go_roundw
                            case rel => exact ⟨m + 1, by omega, by go_num, s6.go (bDrewN ((Below.refl _ _).alloc (Nat.le_refl _) _) _)⟩
                            case measure => simp [intOf] <;> omega
                          · go_wp2_with fail
                            go_ret
                            exact ⟨rfl, s5.below⟩
            · obtain rfl : k = l.length := by omega
              have hcnt : cntTop (impB false but) l = l.length := cntTop_eq _ l _ (Nat.le_refl _) HP.out (.inl rfl)
              have s3 := s2.go (hb2)
              have hi := st_implied_r s3 false but l.length (l.take (l.length - l.length)) (by rw [hcnt]) (by rw [hcnt])
              have HJ := Lib.hid hi
              clear hi hcnt
              go_wp2_with fail
              refine HJ.out.mono ?_
              rintro e w4 ⟨rfl, s4⟩
              go_wp2_with fail
              refine (st_len_r s4 ((l.length : Int) - l.length) (by first | (simp; done) | (simp; omega))).mono ?_
              rintro e w' ⟨rfl, rfl⟩
              go_wp2_with fail
              go_loopw [16] (fun i wr => ∃ m : Nat, m ≤ l.length - l.length ∧ i = .int .i64 m ∧ St w w1.heap.size (l.take (l.length - l.length)) wr) (fun i _ => l.length - l.length - (intOf i).toNat)
              case atStart => exact ⟨0, by omega, rfl, s4⟩
              case round =>
                obtain ⟨m, hm, rfl, s5⟩ := hrel
                go_wp2_with fail
                refine (st_len_r s5 ((l.length : Int) - l.length) (by first | (simp; done) | (simp; omega))).mono ?_
                rintro e w' ⟨rfl, rfl⟩
                by_cases hmk : m < l.length - l.length
                · exact absurd hmk (by omega)
                · go_wp2_with fail
                  go_ret
                  exact ⟨rfl, s5.below⟩
        · go_wp2_with fail
          have hst := s1.go ((((Below.refl _ _).alloc (Nat.le_refl _) (.cells (impZ.map Value.string).toArray 9)).alloc (by simp) (.cells (thZ.map Value.string).toArray 9)).alloc (by simp; omega) (.cells ((impZ.map Value.string).toArray ++ ((thZ.map Value.string).toArray ++ Builtin.zeroCells #[.string ⟨#[]⟩] ((Question.appendCap 18 10 9).cut (wr0.tape wr0.drawn (Question.appendCap 18 10 9)) - 18))) 9)).drew
          have hsg := strs_grown wr0 (.cells (impZ.map Value.string).toArray 9) (.cells (thZ.map Value.string).toArray 9) impZ thZ (Builtin.zeroCells #[.string ⟨#[]⟩] ((Question.appendCap 18 10 9).cut (wr0.tape wr0.drawn (Question.appendCap 18 10 9)) - 18)) ((Question.appendCap 18 10 9).cut (wr0.tape wr0.drawn (Question.appendCap 18 10 9))) (by decide) (by decide)
          refine gen_world _ (fun W' => St w w1.heap.size l W' ∧ StrsAt W' (.slice (some ⟨wr0.heap.size + 1 + 1, 0, Option.none⟩) 18 ((Question.appendCap 18 10 9).cut (wr0.tape wr0.drawn (Question.appendCap 18 10 9)))) (wordsZ true)) ⟨hst, hsg⟩ ?_
          have hwl : (wordsZ true).length = 18 := rfl
          generalize (some (⟨wr0.heap.size + 1 + 1, 0, Option.none⟩ : Addr)) = wa
          generalize ((Question.appendCap 18 10 9).cut (wr0.tape wr0.drawn (Question.appendCap 18 10 9))) = wc
          rintro w2 ⟨s2, hw2⟩
          have HW := Lib.hid hw2
          clear hw2
          go_loopw [11] (fun i wr => ∃ k : Nat, k ≤ l.length ∧ i = .int .i64 k ∧ Below w2.heap.size w2 wr ∧ (∀ j, j < k → ∀ x, l.reverse[j]? = some x → impB true but x = true)) (fun i _ => l.length - (intOf i).toNat)
          case atStart => exact ⟨0, by omega, rfl, Below.refl _ _, fun j hj => by omega⟩
          case round =>
            obtain ⟨k, hk, rfl, hb2, hP⟩ := hrel
            have HP := Lib.hid hP
            clear hP
            obtain ⟨wr1, rfl⟩ : ∃ wr1 : World, wr1 = wr := ⟨_, rfl⟩
            by_cases hlt : k < l.length
            · obtain ⟨b, off, hva, q0, q1, q2⟩ := els_at HL.out (s2.go hb2).below (k := l.length - 1 - k) (by omega)
              cases hva
              have hrev : l.reverse[k]? = some (l[l.length - 1 - k]'(by omega)) := by
                rw [List.getElem?_reverse hlt, List.getElem?_eq_getElem (by omega)]
              have HR := Lib.hid hrev
              clear hrev
              generalize l[l.length - 1 - k]'(by omega) = x at *
              have hb3 := (Below.refl wr1.heap.size wr1).alloc (Nat.le_refl _) (.cells #[.int .i64 x.id, .string x.sp, .string x.nm] 30)
              have hYes := fun (h1 : x.nm ∈ wordsZ true) (h2 : (x.sp.toList == [104, 116, 109, 108]) = true) (h3 : (x.nm.toList == but.toList) = false) => (fun j (hj : j < k + 1) y hy => by
                by_cases hjk : j < k
                · exact HP.out j hjk y hy
                · obtain rfl : j = k := by omega
                  rw [HR.out] at hy; cases hy; exact imp_yes h1 h2 h3 : ∀ j, j < k + 1 → ∀ y, l.reverse[j]? = some y → impB true but y = true)
              have hNo := fun (h : impB true but x = false) => (cntTop_eq _ l k hk HP.out (.inr ⟨x, HR.out, h⟩) : cntTop (impB true but) l = k)
              have HY := Lib.hid hYes
              have HN := Lib.hid hNo
              clear hYes hNo
              go_wp2_with fail
              go_loopw [13, 14] (fun isv iv wr => ∃ (m : Nat) (r : Bool), m ≤ 18 ∧ iv = .int .i64 m ∧ isv = .bool r ∧ (r = true ↔ x.nm ∈ (wordsZ true).take m) ∧ Below (wr1.heap.size + 1) (wr1.alloc (.cells #[.int .i64 x.id, .string x.sp, .string x.nm] 30)) wr) (fun _ iv _ => 18 - (intOf iv).toNat)
              case atStart => exact ⟨0, false, by omega, rfl, rfl, by simp, Below.refl _ _⟩
              case round =>
                obtain ⟨m, r, hm, rfl, rfl, hr, hbi⟩ := hrel
                have hbi' : Below wr1.heap.size wr1 wr := hb3.trans (hbi.mono (by omega))
                have c1 : wr.cell? ⟨wr1.heap.size, 1, Option.none⟩ = some (.string x.sp) := (hbi.cell (p := ⟨wr1.heap.size, 1, Option.none⟩) (by simp)).trans (by simp [go_sem])
                have c2 : wr.cell? ⟨wr1.heap.size, 2, Option.none⟩ = some (.string x.nm) := (hbi.cell (p := ⟨wr1.heap.size, 2, Option.none⟩) (by simp)).trans (by simp [go_sem])
                have HI := Lib.hid hr
                clear hr
                by_cases hm2 : m < 18
                · obtain ⟨wb, wo, hwa, g0⟩ := strs_at (c := wc) HW.out (hb2.trans (hbi'.mono hb2.size)) (k := m) (by rw [hwl]; exact hm2)
                  cases hwa
                  have hs1 := fun (h : (((wordsZ true)[m]'(by rw [hwl]; exact hm2)).toList == x.nm.toList) = true) => mem_next (by rw [hwl]; exact hm2) h
                  have hs2 := fun (h : (((wordsZ true)[m]'(by rw [hwl]; exact hm2)).toList == x.nm.toList) = false) => mem_same (by rw [hwl]; exact hm2) h
                  have HS1 := Lib.hid hs1
                  have HS2 := Lib.hid hs2
                  clear hs1 hs2
                  generalize (wordsZ true)[m]'(by rw [hwl]; exact hm2) = y at *
                  cases r
                  · go_wp2_with fail
                    go_quiet (fail)
                    cases hq : (y.toList == x.nm.toList)
                    · have HQ := Lib.hid hq
                      go_wp2
                      go_roundw
                      case rel => exact ⟨m + 1, false, by omega, by go_num, by first | rfl | rw [HQ.out], by rw [HS2.out HQ.out]; exact HI.out, bDrewN hbi _⟩
                      case measure => simp [intOf] <;> omega
                    · have HQ := Lib.hid hq
                      go_wp2
                      go_roundw
                      case rel => exact ⟨m + 1, true, by omega, by go_num, by first | rfl | rw [HQ.out], by simp [HS1.out HQ.out], bDrewN hbi _⟩
                      case measure => simp [intOf] <;> omega
                  · go_wp2_with fail
                    go_quiet (fail)
                    go_wp2
                    go_roundw
                    case rel => exact ⟨m + 1, true, by omega, by go_num, rfl, by simp [mem_more (by first | exact HI.out.1 rfl | exact HI.out.1 trivial)], bDrewN hbi _⟩
                    case measure => simp [intOf] <;> omega
                · obtain rfl : m = 18 := by omega
                  have hall : (wordsZ true).take 18 = wordsZ true := by rw [← hwl, List.take_length]
                  rw [hall] at HI
                  clear hall
                  have hBB : Below w2.heap.size w2 wr := hb2.trans (hbi'.mono hb2.size)
                  cases r
                  · have hcnt := HN.out (imp_no1 (fun h => by have := HI.out.2 h; cases this))
                    have s3 := s2.go (hBB)
                    have hi := st_implied_r s3 true but k (l.take (l.length - k)) (by rw [hcnt]) (by rw [hcnt])
                    have HJ := Lib.hid hi
                    clear hi hcnt
                    go_wp2_with fail
                    refine HJ.out.mono ?_
                    rintro e w4 ⟨rfl, s4⟩
                    go_wp2_with fail
                    refine (st_len_r s4 ((l.length : Int) - k) (by first | (simp; done) | (simp; omega))).mono ?_
                    rintro e w' ⟨rfl, rfl⟩
                    go_wp2_with fail
                    go_loopw [16] (fun i wr => ∃ m : Nat, m ≤ l.length - k ∧ i = .int .i64 m ∧ St w w1.heap.size (l.take (l.length - k)) wr) (fun i _ => l.length - k - (intOf i).toNat)
                    case atStart => exact ⟨0, by omega, rfl, s4⟩
                    case round =>
                      obtain ⟨m, hm, rfl, s5⟩ := hrel
                      go_wp2_with fail
                      refine (st_len_r s5 ((l.length : Int) - k) (by first | (simp; done) | (simp; omega))).mono ?_
                      rintro e w' ⟨rfl, rfl⟩
                      by_cases hmk : m < l.length - k
                      · obtain ⟨b', off', hva', p0, p1, p2⟩ := els_at HL.out s5.below (k := m) (by omega)
                        cases hva'
                        have hat := st_at s5 m
                        rw [atE_take l (l.length - k) m hmk (by omega) (by omega)] at hat
                        have HA := Lib.hid hat
                        clear hat
                        have hwf := (HL.out)
                        generalize l[m]'(by omega) = z at *
                        go_wp2_with fail
                        refine HA.out.mono ?_
                        rintro e w6 ⟨rfl, hb6⟩
                        rw [El.v]
                        have s6 := s5.go hb6
                        have hbl := elsat_lt HL.out (by omega)
                        have p0' := Eq.trans (hb6.cell (by exact Nat.lt_of_lt_of_le hbl s5.below.size)) p0
                        have p1' := Eq.trans (hb6.cell (by exact Nat.lt_of_lt_of_le hbl s5.below.size)) p1
                        have p2' := Eq.trans (hb6.cell (by exact Nat.lt_of_lt_of_le hbl s5.below.size)) p2
                        have hbl6 := Nat.lt_of_lt_of_le hbl s6.below.size
                        go_wp2_with fail
                        go_quiet (fail)
                        go_wp2
                        go_roundw
                        case rel => exact ⟨m + 1, by omega, by go_num, s6.go (bDrewN ((Below.refl _ _).alloc (Nat.le_refl _) _) _)⟩
                        case measure => simp [intOf] <;> omega
                      · go_wp2_with fail
                        go_ret
                        exact ⟨rfl, s5.below⟩
                  · have hmem : x.nm ∈ wordsZ true := by first | exact HI.out.1 rfl | exact HI.out.1 trivial
                    have HM := Lib.hid hmem
                    clear hmem
                    cases h2 : (x.sp.toList == [104, 116, 109, 108])
                    · have hcnt := HN.out (imp_no2 h2)
                      have s3 := s2.go (hBB)
                      have hi := st_implied_r s3 true but k (l.take (l.length - k)) (by rw [hcnt]) (by rw [hcnt])
                      have HJ := Lib.hid hi
                      clear hi hcnt
                      go_wp2_with fail
                      refine HJ.out.mono ?_
                      rintro e w4 ⟨rfl, s4⟩
                      go_wp2_with fail
                      refine (st_len_r s4 ((l.length : Int) - k) (by first | (simp; done) | (simp; omega))).mono ?_
                      rintro e w' ⟨rfl, rfl⟩
                      go_wp2_with fail
                      go_loopw [16] (fun i wr => ∃ m : Nat, m ≤ l.length - k ∧ i = .int .i64 m ∧ St w w1.heap.size (l.take (l.length - k)) wr) (fun i _ => l.length - k - (intOf i).toNat)
                      case atStart => exact ⟨0, by omega, rfl, s4⟩
                      case round =>
                        obtain ⟨m, hm, rfl, s5⟩ := hrel
                        go_wp2_with fail
                        refine (st_len_r s5 ((l.length : Int) - k) (by first | (simp; done) | (simp; omega))).mono ?_
                        rintro e w' ⟨rfl, rfl⟩
                        by_cases hmk : m < l.length - k
                        · obtain ⟨b', off', hva', p0, p1, p2⟩ := els_at HL.out s5.below (k := m) (by omega)
                          cases hva'
                          have hat := st_at s5 m
                          rw [atE_take l (l.length - k) m hmk (by omega) (by omega)] at hat
                          have HA := Lib.hid hat
                          clear hat
                          have hwf := (HL.out)
                          generalize l[m]'(by omega) = z at *
                          go_wp2_with fail
                          refine HA.out.mono ?_
                          rintro e w6 ⟨rfl, hb6⟩
                          rw [El.v]
                          have s6 := s5.go hb6
                          have hbl := elsat_lt HL.out (by omega)
                          have p0' := Eq.trans (hb6.cell (by exact Nat.lt_of_lt_of_le hbl s5.below.size)) p0
                          have p1' := Eq.trans (hb6.cell (by exact Nat.lt_of_lt_of_le hbl s5.below.size)) p1
                          have p2' := Eq.trans (hb6.cell (by exact Nat.lt_of_lt_of_le hbl s5.below.size)) p2
                          have hbl6 := Nat.lt_of_lt_of_le hbl s6.below.size
                          go_wp2_with fail
                          go_quiet (fail)
                          go_wp2
                          go_roundw
                          case rel => exact ⟨m + 1, by omega, by go_num, s6.go (bDrewN ((Below.refl _ _).alloc (Nat.le_refl _) _) _)⟩
                          case measure => simp [intOf] <;> omega
                        · go_wp2_with fail
                          go_ret
                          exact ⟨rfl, s5.below⟩
                    · cases h3 : (x.nm.toList == but.toList)
                      · have HH := Lib.hid (HY.out HM.out h2 h3)
                        go_wp2
                        go_roundw
                        case rel => exact ⟨k + 1, by omega, by go_num, hBB, HH.out⟩
                        case measure => simp [intOf] <;> omega
                      · have hcnt := HN.out (imp_no3 h3)
                        have s3 := s2.go (hBB)
                        have hi := st_implied_r s3 true but k (l.take (l.length - k)) (by rw [hcnt]) (by rw [hcnt])
                        have HJ := Lib.hid hi
                        clear hi hcnt
                        go_wp2_with fail
                        refine HJ.out.mono ?_
                        rintro e w4 ⟨rfl, s4⟩
                        go_wp2_with fail
                        refine (st_len_r s4 ((l.length : Int) - k) (by first | (simp; done) | (simp; omega))).mono ?_
                        rintro e w' ⟨rfl, rfl⟩
                        go_wp2_with fail
                        go_loopw [16] (fun i wr => ∃ m : Nat, m ≤ l.length - k ∧ i = .int .i64 m ∧ St w w1.heap.size (l.take (l.length - k)) wr) (fun i _ => l.length - k - (intOf i).toNat)
                        case atStart => exact ⟨0, by omega, rfl, s4⟩
                        case round =>
                          obtain ⟨m, hm, rfl, s5⟩ := hrel
                          go_wp2_with fail
                          refine (st_len_r s5 ((l.length : Int) - k) (by first | (simp; done) | (simp; omega))).mono ?_
                          rintro e w' ⟨rfl, rfl⟩
                          by_cases hmk : m < l.length - k
                          · obtain ⟨b', off', hva', p0, p1, p2⟩ := els_at HL.out s5.below (k := m) (by omega)
                            cases hva'
                            have hat := st_at s5 m
                            rw [atE_take l (l.length - k) m hmk (by omega) (by omega)] at hat
                            have HA := Lib.hid hat
                            clear hat
                            have hwf := (HL.out)
                            generalize l[m]'(by omega) = z at *
                            go_wp2_with fail
                            refine HA.out.mono ?_
                            rintro e w6 ⟨rfl, hb6⟩
                            rw [El.v]
                            have s6 := s5.go hb6
                            have hbl := elsat_lt HL.out (by omega)
                            have p0' := Eq.trans (hb6.cell (by exact Nat.lt_of_lt_of_le hbl s5.below.size)) p0
                            have p1' := Eq.trans (hb6.cell (by exact Nat.lt_of_lt_of_le hbl s5.below.size)) p1
                            have p2' := Eq.trans (hb6.cell (by exact Nat.lt_of_lt_of_le hbl s5.below.size)) p2
                            have hbl6 := Nat.lt_of_lt_of_le hbl s6.below.size
                            go_wp2_with fail
                            go_quiet (fail)
                            go_wp2
                            go_roundw
                            case rel => exact ⟨m + 1, by omega, by go_num, s6.go (bDrewN ((Below.refl _ _).alloc (Nat.le_refl _) _) _)⟩
                            case measure => simp [intOf] <;> omega
                          · go_wp2_with fail
                            go_ret
                            exact ⟨rfl, s5.below⟩
            · obtain rfl : k = l.length := by omega
              have hcnt : cntTop (impB true but) l = l.length := cntTop_eq _ l _ (Nat.le_refl _) HP.out (.inl rfl)
              have s3 := s2.go (hb2)
              have hi := st_implied_r s3 true but l.length (l.take (l.length - l.length)) (by rw [hcnt]) (by rw [hcnt])
              have HJ := Lib.hid hi
              clear hi hcnt
              go_wp2_with fail
              refine HJ.out.mono ?_
              rintro e w4 ⟨rfl, s4⟩
              go_wp2_with fail
              refine (st_len_r s4 ((l.length : Int) - l.length) (by first | (simp; done) | (simp; omega))).mono ?_
              rintro e w' ⟨rfl, rfl⟩
              go_wp2_with fail
              go_loopw [16] (fun i wr => ∃ m : Nat, m ≤ l.length - l.length ∧ i = .int .i64 m ∧ St w w1.heap.size (l.take (l.length - l.length)) wr) (fun i _ => l.length - l.length - (intOf i).toNat)
              case atStart => exact ⟨0, by omega, rfl, s4⟩
              case round =>
                obtain ⟨m, hm, rfl, s5⟩ := hrel
                go_wp2_with fail
                refine (st_len_r s5 ((l.length : Int) - l.length) (by first | (simp; done) | (simp; omega))).mono ?_
                rintro e w' ⟨rfl, rfl⟩
                by_cases hmk : m < l.length - l.length
                · exact absurd hmk (by omega)
                · go_wp2_with fail
                  go_ret
                  exact ⟨rfl, s5.below⟩
end Go.Proofs.YtibfiblajicdpaaDoor
