/- strings.Cut at a colon; spaced. -/
import Derived.Test.YtdoiopdnencabaaDoorFg
import Derived.Lib.IndexLaws
namespace Go.Proofs.YtdoiopdnencabaaDoor
open Go Go.RowKit

/-- a name, cut at its first colon -/
def cutI (s : ByteArray) : Int := Lib.indexByte s.data.toList 58
def cutA (s : ByteArray) : ByteArray := if 0 ≤ cutI s then s.extract 0 (cutI s).toNat else s
def cutB (s : ByteArray) : ByteArray := if 0 ≤ cutI s then s.extract ((cutI s).toNat + 1) s.size else ⟨#[]⟩
def cutF (s : ByteArray) : Bool := decide (0 ≤ cutI s)

theorem cutI_lt (s : ByteArray) : cutI s < s.size := by
  by_cases h : 0 ≤ cutI s
  · obtain ⟨k, hk⟩ : ∃ k : Nat, cutI s = k := ⟨(cutI s).toNat, by omega⟩
    have h1 := (Lib.indexByte_some (l := s.data.toList) (c := 58) hk).1
    have h2 := (List.getElem?_eq_some_iff.1 h1).1
    have h4 : s.data.toList.length = s.size := by simp
    omega
  · omega

set_option maxHeartbeats 1000000 in
theorem cut1_any (s : ByteArray) (w : World) (hs : s.size ≤ maxLen) :
    Calls Tryd.prog 40 #[.string s, .string ⟨#[58]⟩] w fun e w' => e = .returned (.tuple #[.string (cutA s), .string (cutB s), .bool (cutF s)]) ∧ Below w.heap.size w w' := by
  unfold maxLen at hs
  have hix := Tryd.stringslite_Index_one s 58 w
  have hlt := cutI_lt s
  by_cases hi : 0 ≤ cutI s
  · have ea : cutA s = s.extract 0 (cutI s).toNat := by rw [cutA, if_pos hi]
    have eb : cutB s = s.extract ((cutI s).toNat + 1) s.size := by rw [cutB, if_pos hi]
    have ef : cutF s = true := decide_eq_true hi
    rw [ea, eb, ef]
    have HI := Lib.hid hix
    have e0 : Lib.indexByte s.data.toList 58 = cutI s := rfl
    rw [e0] at HI
    clear hix ea eb ef e0
    obtain ⟨k, hk⟩ : ∃ k : Nat, cutI s = k := ⟨(cutI s).toNat, by omega⟩
    rw [hk] at HI hlt hi ⊢
    clear hk
    simp only [Int.toNat_natCast]
    go_enter Tryd.func40, Tryd.ntmps40
    go_wp2_with fail
    refine HI.out.mono ?_
    rintro e w' ⟨rfl, rfl⟩
    go_wp2_with fail
    go_quiet (fail)
    go_wp2
    refine bodyPost_ret (v := .tuple #[.string (s.extract 0 k), .string (s.extract (k + 1) s.size), .bool true]) (by simp [results, Tryd.results40, go_sem]) rfl ⟨rfl, ?_⟩
    exact bDrewN (Below.refl _ _) _
  · have ea : cutA s = s := by rw [cutA, if_neg hi]
    have eb : cutB s = ⟨#[]⟩ := by rw [cutB, if_neg hi]
    have ef : cutF s = false := decide_eq_false hi
    rw [ea, eb, ef]
    have HI := Lib.hid hix
    have e0 : Lib.indexByte s.data.toList 58 = cutI s := rfl
    rw [e0] at HI
    clear hix ea eb ef e0
    generalize cutI s = m at *
    go_enter Tryd.func40, Tryd.ntmps40
    go_wp2_with fail
    refine HI.out.mono ?_
    rintro e w' ⟨rfl, rfl⟩
    go_wp2_with fail
    refine bodyPost_ret (v := .tuple #[.string s, .string ⟨#[]⟩, .bool false]) (by simp [results, Tryd.results40, go_sem]) rfl ⟨rfl, ?_⟩
    exact Below.refl _ _

set_option maxHeartbeats 1000000 in
theorem cut_any (s : ByteArray) (w : World) (hs : s.size ≤ maxLen) :
    Calls Tryd.prog 35 #[.string s, .string ⟨#[58]⟩] w fun e w' => e = .returned (.tuple #[.string (cutA s), .string (cutB s), .bool (cutF s)]) ∧ Below w.heap.size w w' := by
  go_enter Tryd.func35, Tryd.ntmps35
  go_wp2_with fail
  refine (cut1_any s _ hs).mono ?_
  rintro e w' ⟨rfl, hb⟩
  go_wp2_with fail
  refine bodyPost_ret (v := .tuple #[.string (cutA s), .string (cutB s), .bool (cutF s)]) (by simp [results, Tryd.results35, go_sem]) rfl ⟨rfl, hb⟩

def linkW : ByteArray := (⟨#[97, 99, 116, 117, 97, 116, 101, 32, 97, 114, 99, 114, 111, 108, 101, 32, 104, 114, 101, 102, 32, 114, 111, 108, 101, 32, 115, 104, 111, 119, 32, 116, 105, 116, 108, 101, 32, 116, 121, 112, 101]⟩ : ByteArray)
def langW : ByteArray := (⟨#[108, 97, 110, 103, 32, 115, 112, 97, 99, 101]⟩ : ByteArray)
theorem linkOk : WordsOk linkW := ⟨by decide +kernel, by decide +kernel, by decide +kernel⟩
theorem langOk : WordsOk langW := ⟨by decide +kernel, by decide +kernel, by decide +kernel⟩

/-- does its name say its space? -/
def spaceT (n : ByteArray) : Bool := (((cutA n).toList == ([120, 108, 105, 110, 107] : List UInt8)) && amongB (cutB n) linkW) || (((cutA n).toList == ([120, 109, 108] : List UInt8)) && amongB (cutB n) langW) || (n.toList == ([120, 109, 108, 110, 115, 58, 120, 108, 105, 110, 107] : List UInt8))
def spacedA (x : At) : At :=
  if spaceT x.nm then ⟨cutA x.nm, cutB x.nm, x.va⟩ else if (x.nm.toList == ([120, 109, 108, 110, 115] : List UInt8)) = true then ⟨x.nm, x.nm, x.va⟩ else x

def At.v (x : At) : Value := .agg #[.string x.sp, .string x.nm, .string x.va]

/-- the box of an attribute, and the result's block, in whatever world lies behind -/
theorem box_facts {w W : World} {a b c d e f : Value} {t : TypeId} (hb : Below ((w.alloc (.cells #[a, b, c] t)).alloc (.cells #[d, e, f] t)).heap.size ((w.alloc (.cells #[a, b, c] t)).alloc (.cells #[d, e, f] t)) W) :
    (W.cell? ⟨w.heap.size, 0, none⟩ = some a ∧ W.cell? ⟨w.heap.size, 1, none⟩ = some b ∧ W.cell? ⟨w.heap.size, 2, none⟩ = some c) ∧
    (W.cell? ⟨w.heap.size + 1, 0, none⟩ = some d ∧ W.cell? ⟨w.heap.size + 1, 1, none⟩ = some e ∧ W.cell? ⟨w.heap.size + 1, 2, none⟩ = some f) ∧
    (∀ j, W.frozen? ⟨w.heap.size, j, none⟩ = false) ∧ (∀ j, W.frozen? ⟨w.heap.size + 1, j, none⟩ = false) ∧ w.heap.size < W.heap.size ∧ w.heap.size + 1 < W.heap.size := by
  have hs := hb.size
  have e1 : ((w.alloc (.cells #[a, b, c] t)).alloc (.cells #[d, e, f] t)).heap[w.heap.size]? = some (.cells #[a, b, c] t) := by
    rw [heap_alloc_old _ _ (by simp), heap_alloc_new]
  have e2 : ((w.alloc (.cells #[a, b, c] t)).alloc (.cells #[d, e, f] t)).heap[w.heap.size + 1]? = some (.cells #[d, e, f] t) := by
    have := heap_alloc_new (w.alloc (.cells #[a, b, c] t)) (.cells #[d, e, f] t)
    rwa [World.size_alloc] at this
  have f1 := (hb.block w.heap.size (by simp; omega)).trans e1
  have f2 := (hb.block (w.heap.size + 1) (by simp)).trans e2
  simp only [World.size_alloc] at hs
  refine ⟨⟨?_, ?_, ?_⟩, ⟨?_, ?_, ?_⟩, ?_, ?_, by omega, by omega⟩
  · rw [cell_of_row _ _ 0 _ _ _ f1]; rfl
  · rw [cell_of_row _ _ 1 _ _ _ f1]; rfl
  · rw [cell_of_row _ _ 2 _ _ _ f1]; rfl
  · rw [cell_of_row _ _ 0 _ _ _ f2]; rfl
  · rw [cell_of_row _ _ 1 _ _ _ f2]; rfl
  · rw [cell_of_row _ _ 2 _ _ _ f2]; rfl
  · intro j; simp [World.frozen?, f1]
  · intro j; simp [World.frozen?, f2]

set_option maxHeartbeats 2000000 in
theorem spaced_any (x : At) (w : World) (hg : Glob w) (hn : x.nm.size ≤ maxLen) :
    Calls Tryd.prog 23 #[x.v] w fun e w' => e = .returned (spacedA x).v ∧ Below w.heap.size w w' := by
  obtain ⟨sp, nm, va⟩ := x
  simp only at hn
  have hres : spacedA ⟨sp, nm, va⟩ = if spaceT nm then ⟨cutA nm, cutB nm, va⟩ else if (nm.toList == ([120, 109, 108, 110, 115] : List UInt8)) = true then ⟨nm, nm, va⟩ else ⟨sp, nm, va⟩ := rfl
  generalize spacedA ⟨sp, nm, va⟩ = R at *
  have HR := Lib.hid hres
  clear hres
  rw [At.v]
  have hT : spaceT nm = ((((cutA nm).toList == ([120, 108, 105, 110, 107] : List UInt8)) && amongB (cutB nm) linkW) || (((cutA nm).toList == ([120, 109, 108] : List UInt8)) && amongB (cutB nm) langW) || (nm.toList == ([120, 109, 108, 110, 115, 58, 120, 108, 105, 110, 107] : List UInt8))) := rfl
  have HT := Lib.hid hT
  clear hT
  have hcut := fun W => cut_any nm W hn
  have HC := Lib.hid hcut
  clear hcut
  generalize cutA nm = ca at *
  generalize cutB nm = cb at *
  generalize cutF nm = cf at *
  have hg1 := (hg.alloc (.cells #[.string sp, .string nm, .string va] 27)).alloc (.cells #[.string ⟨#[]⟩, .string ⟨#[]⟩, .string ⟨#[]⟩] 27)
  cases q1 : (ca.toList == ([120, 108, 105, 110, 107] : List UInt8))
  · rw [q1] at HT
    cases q2 : (ca.toList == ([120, 109, 108] : List UInt8))
    · rw [q2] at HT
      go_enter Tryd.func23, Tryd.ntmps23
      go_wp2_with fail
      refine (HC.out _).mono ?_
      rintro e w1 ⟨rfl, hb1⟩
      obtain ⟨⟨_b0, _b1, _b2⟩, ⟨_r0, _r1, _r2⟩, bf, rf, _s0, _s1⟩ := box_facts hb1
      have _f0 := bf 0
      have _f1 := bf 1
      have _f2 := bf 2
      have _g0 := rf 0
      have _g1 := rf 1
      have _g2 := rf 2
      clear bf rf
      cases q4 : (nm.toList == ([120, 109, 108, 110, 115, 58, 120, 108, 105, 110, 107] : List UInt8))
      · cases q5 : (nm.toList == ([120, 109, 108, 110, 115] : List UInt8))
        · go_wp2_with fail
          have hB : Below w.heap.size w _ := (((Below.refl w.heap.size w).alloc (Nat.le_refl _) (.cells #[.string sp, .string nm, .string va] 27)).alloc (by simp) (.cells #[.string ⟨#[]⟩, .string ⟨#[]⟩, .string ⟨#[]⟩] 27)).trans (hb1.mono (by simp; omega))
          have hR : R = ⟨sp, nm, va⟩ := by rw [HR.out, HT.out]; simp [*]
          refine bodyPost_ret (v := (⟨sp, nm, va⟩ : At).v) (by simp [results, Tryd.results23, go_sem, At.v, *]) rfl ⟨by rw [hR], ?_⟩
          repeat' refine Below.setCell ?_ (by simp) _
          exact hB
        · go_wp2_with fail
          have hB : Below w.heap.size w _ := (((Below.refl w.heap.size w).alloc (Nat.le_refl _) (.cells #[.string sp, .string nm, .string va] 27)).alloc (by simp) (.cells #[.string ⟨#[]⟩, .string ⟨#[]⟩, .string ⟨#[]⟩] 27)).trans (hb1.mono (by simp; omega))
          have hR : R = ⟨nm, nm, va⟩ := by rw [HR.out, HT.out]; simp [*]
          refine bodyPost_ret (v := (⟨nm, nm, va⟩ : At).v) (by simp [results, Tryd.results23, go_sem, At.v, *]) rfl ⟨by rw [hR], ?_⟩
          repeat' refine Below.setCell ?_ (by simp) _
          exact hB
      · go_wp2_with fail
        have hB : Below w.heap.size w _ := (((Below.refl w.heap.size w).alloc (Nat.le_refl _) (.cells #[.string sp, .string nm, .string va] 27)).alloc (by simp) (.cells #[.string ⟨#[]⟩, .string ⟨#[]⟩, .string ⟨#[]⟩] 27)).trans (hb1.mono (by simp; omega))
        have hR : R = ⟨ca, cb, va⟩ := by rw [HR.out, HT.out]; simp [*]
        refine bodyPost_ret (v := (⟨ca, cb, va⟩ : At).v) (by simp [results, Tryd.results23, go_sem, At.v, *]) rfl ⟨by rw [hR], ?_⟩
        repeat' refine Below.setCell ?_ (by simp) _
        exact hB
    · rw [q2] at HT
      cases q3 : amongB cb langW
      · rw [q3] at HT
        have HY := Lib.hid q3
        clear q3
        go_enter Tryd.func23, Tryd.ntmps23
        go_wp2_with fail
        refine (HC.out _).mono ?_
        rintro e w1 ⟨rfl, hb1⟩
        go_wp2_with fail
        refine (among_any cb langW _ (hg1.below hg1.lt hb1) langOk).mono ?_
        rintro e w2 ⟨rfl, hbb⟩
        rw [HY.out]
        have hb_w2 := hb1.trans (hbb.mono hb1.size)
        clear hbb
        obtain ⟨⟨_b0, _b1, _b2⟩, ⟨_r0, _r1, _r2⟩, bf, rf, _s0, _s1⟩ := box_facts hb_w2
        have _f0 := bf 0
        have _f1 := bf 1
        have _f2 := bf 2
        have _g0 := rf 0
        have _g1 := rf 1
        have _g2 := rf 2
        clear bf rf
        cases q4 : (nm.toList == ([120, 109, 108, 110, 115, 58, 120, 108, 105, 110, 107] : List UInt8))
        · cases q5 : (nm.toList == ([120, 109, 108, 110, 115] : List UInt8))
          · go_wp2_with fail
            have hB : Below w.heap.size w _ := (((Below.refl w.heap.size w).alloc (Nat.le_refl _) (.cells #[.string sp, .string nm, .string va] 27)).alloc (by simp) (.cells #[.string ⟨#[]⟩, .string ⟨#[]⟩, .string ⟨#[]⟩] 27)).trans (hb_w2.mono (by simp; omega))
            have hR : R = ⟨sp, nm, va⟩ := by rw [HR.out, HT.out]; simp [*]
            refine bodyPost_ret (v := (⟨sp, nm, va⟩ : At).v) (by simp [results, Tryd.results23, go_sem, At.v, *]) rfl ⟨by rw [hR], ?_⟩
            repeat' refine Below.setCell ?_ (by simp) _
            exact hB
          · go_wp2_with fail
            have hB : Below w.heap.size w _ := (((Below.refl w.heap.size w).alloc (Nat.le_refl _) (.cells #[.string sp, .string nm, .string va] 27)).alloc (by simp) (.cells #[.string ⟨#[]⟩, .string ⟨#[]⟩, .string ⟨#[]⟩] 27)).trans (hb_w2.mono (by simp; omega))
            have hR : R = ⟨nm, nm, va⟩ := by rw [HR.out, HT.out]; simp [*]
            refine bodyPost_ret (v := (⟨nm, nm, va⟩ : At).v) (by simp [results, Tryd.results23, go_sem, At.v, *]) rfl ⟨by rw [hR], ?_⟩
            repeat' refine Below.setCell ?_ (by simp) _
            exact hB
        · go_wp2_with fail
          have hB : Below w.heap.size w _ := (((Below.refl w.heap.size w).alloc (Nat.le_refl _) (.cells #[.string sp, .string nm, .string va] 27)).alloc (by simp) (.cells #[.string ⟨#[]⟩, .string ⟨#[]⟩, .string ⟨#[]⟩] 27)).trans (hb_w2.mono (by simp; omega))
          have hR : R = ⟨ca, cb, va⟩ := by rw [HR.out, HT.out]; simp [*]
          refine bodyPost_ret (v := (⟨ca, cb, va⟩ : At).v) (by simp [results, Tryd.results23, go_sem, At.v, *]) rfl ⟨by rw [hR], ?_⟩
          repeat' refine Below.setCell ?_ (by simp) _
          exact hB
      · rw [q3] at HT
        have HY := Lib.hid q3
        clear q3
        go_enter Tryd.func23, Tryd.ntmps23
        go_wp2_with fail
        refine (HC.out _).mono ?_
        rintro e w1 ⟨rfl, hb1⟩
        go_wp2_with fail
        refine (among_any cb langW _ (hg1.below hg1.lt hb1) langOk).mono ?_
        rintro e w2 ⟨rfl, hbb⟩
        rw [HY.out]
        have hb_w2 := hb1.trans (hbb.mono hb1.size)
        clear hbb
        obtain ⟨⟨_b0, _b1, _b2⟩, ⟨_r0, _r1, _r2⟩, bf, rf, _s0, _s1⟩ := box_facts hb_w2
        have _f0 := bf 0
        have _f1 := bf 1
        have _f2 := bf 2
        have _g0 := rf 0
        have _g1 := rf 1
        have _g2 := rf 2
        clear bf rf
        go_wp2_with fail
        have hB : Below w.heap.size w _ := (((Below.refl w.heap.size w).alloc (Nat.le_refl _) (.cells #[.string sp, .string nm, .string va] 27)).alloc (by simp) (.cells #[.string ⟨#[]⟩, .string ⟨#[]⟩, .string ⟨#[]⟩] 27)).trans (hb_w2.mono (by simp; omega))
        have hR : R = ⟨ca, cb, va⟩ := by rw [HR.out, HT.out]; simp [*]
        refine bodyPost_ret (v := (⟨ca, cb, va⟩ : At).v) (by simp [results, Tryd.results23, go_sem, At.v, *]) rfl ⟨by rw [hR], ?_⟩
        repeat' refine Below.setCell ?_ (by simp) _
        exact hB
  · rw [q1] at HT
    have q2 : (ca.toList == ([120, 109, 108] : List UInt8)) = false := by rw [eq_of_beq q1]; decide
    rw [q2] at HT
    cases q3 : amongB cb linkW
    · rw [q3] at HT
      have HY := Lib.hid q3
      clear q3
      go_enter Tryd.func23, Tryd.ntmps23
      go_wp2_with fail
      refine (HC.out _).mono ?_
      rintro e w1 ⟨rfl, hb1⟩
      go_wp2_with fail
      refine (among_any cb linkW _ (hg1.below hg1.lt hb1) linkOk).mono ?_
      rintro e w2 ⟨rfl, hbb⟩
      rw [HY.out]
      have hb_w2 := hb1.trans (hbb.mono hb1.size)
      clear hbb
      obtain ⟨⟨_b0, _b1, _b2⟩, ⟨_r0, _r1, _r2⟩, bf, rf, _s0, _s1⟩ := box_facts hb_w2
      have _f0 := bf 0
      have _f1 := bf 1
      have _f2 := bf 2
      have _g0 := rf 0
      have _g1 := rf 1
      have _g2 := rf 2
      clear bf rf
      cases q4 : (nm.toList == ([120, 109, 108, 110, 115, 58, 120, 108, 105, 110, 107] : List UInt8))
      · cases q5 : (nm.toList == ([120, 109, 108, 110, 115] : List UInt8))
        · go_wp2_with fail
          have hB : Below w.heap.size w _ := (((Below.refl w.heap.size w).alloc (Nat.le_refl _) (.cells #[.string sp, .string nm, .string va] 27)).alloc (by simp) (.cells #[.string ⟨#[]⟩, .string ⟨#[]⟩, .string ⟨#[]⟩] 27)).trans (hb_w2.mono (by simp; omega))
          have hR : R = ⟨sp, nm, va⟩ := by rw [HR.out, HT.out]; simp [*]
          refine bodyPost_ret (v := (⟨sp, nm, va⟩ : At).v) (by simp [results, Tryd.results23, go_sem, At.v, *]) rfl ⟨by rw [hR], ?_⟩
          repeat' refine Below.setCell ?_ (by simp) _
          exact hB
        · go_wp2_with fail
          have hB : Below w.heap.size w _ := (((Below.refl w.heap.size w).alloc (Nat.le_refl _) (.cells #[.string sp, .string nm, .string va] 27)).alloc (by simp) (.cells #[.string ⟨#[]⟩, .string ⟨#[]⟩, .string ⟨#[]⟩] 27)).trans (hb_w2.mono (by simp; omega))
          have hR : R = ⟨nm, nm, va⟩ := by rw [HR.out, HT.out]; simp [*]
          refine bodyPost_ret (v := (⟨nm, nm, va⟩ : At).v) (by simp [results, Tryd.results23, go_sem, At.v, *]) rfl ⟨by rw [hR], ?_⟩
          repeat' refine Below.setCell ?_ (by simp) _
          exact hB
      · go_wp2_with fail
        have hB : Below w.heap.size w _ := (((Below.refl w.heap.size w).alloc (Nat.le_refl _) (.cells #[.string sp, .string nm, .string va] 27)).alloc (by simp) (.cells #[.string ⟨#[]⟩, .string ⟨#[]⟩, .string ⟨#[]⟩] 27)).trans (hb_w2.mono (by simp; omega))
        have hR : R = ⟨ca, cb, va⟩ := by rw [HR.out, HT.out]; simp [*]
        refine bodyPost_ret (v := (⟨ca, cb, va⟩ : At).v) (by simp [results, Tryd.results23, go_sem, At.v, *]) rfl ⟨by rw [hR], ?_⟩
        repeat' refine Below.setCell ?_ (by simp) _
        exact hB
    · rw [q3] at HT
      have HY := Lib.hid q3
      clear q3
      go_enter Tryd.func23, Tryd.ntmps23
      go_wp2_with fail
      refine (HC.out _).mono ?_
      rintro e w1 ⟨rfl, hb1⟩
      go_wp2_with fail
      refine (among_any cb linkW _ (hg1.below hg1.lt hb1) linkOk).mono ?_
      rintro e w2 ⟨rfl, hbb⟩
      rw [HY.out]
      have hb_w2 := hb1.trans (hbb.mono hb1.size)
      clear hbb
      obtain ⟨⟨_b0, _b1, _b2⟩, ⟨_r0, _r1, _r2⟩, bf, rf, _s0, _s1⟩ := box_facts hb_w2
      have _f0 := bf 0
      have _f1 := bf 1
      have _f2 := bf 2
      have _g0 := rf 0
      have _g1 := rf 1
      have _g2 := rf 2
      clear bf rf
      go_wp2_with fail
      have hB : Below w.heap.size w _ := (((Below.refl w.heap.size w).alloc (Nat.le_refl _) (.cells #[.string sp, .string nm, .string va] 27)).alloc (by simp) (.cells #[.string ⟨#[]⟩, .string ⟨#[]⟩, .string ⟨#[]⟩] 27)).trans (hb_w2.mono (by simp; omega))
      have hR : R = ⟨ca, cb, va⟩ := by rw [HR.out, HT.out]; simp [*]
      refine bodyPost_ret (v := (⟨ca, cb, va⟩ : At).v) (by simp [results, Tryd.results23, go_sem, At.v, *]) rfl ⟨by rw [hR], ?_⟩
      repeat' refine Below.setCell ?_ (by simp) _
      exact hB
end Go.Proofs.YtdoiopdnencabaaDoor
