/- The reference's one. -/
import Derived.Test.YtdoiopdnencabaaDoorFj
namespace Go.Proofs.YtdoiopdnencabaaDoor
open Go Go.RowKit

theorem great_size {ws nm : ByteArray} (hok : WordsOk ws) (hn : nm.size ≤ 9223372036854775807) : (greatB nm ws).size ≤ 9223372036854775807 := by
  unfold greatB
  rw [greatL_split]
  unfold firstW
  split
  · rename_i f hf
    have h1 := split32_sizes ws.data.toList [] f (List.mem_of_find?_eq_some hf)
    have h3 := hok.size
    have h4 : ws.data.toList.length = ws.size := by simp
    have h5 : (⟨f.toArray⟩ : ByteArray).size = f.length := by simp [ByteArray.size]
    rw [h5]
    simp at h1
    omega
  · simpa using hn

set_option maxRecDepth 100000 in
set_option maxHeartbeats 8000000 in
theorem one_ref (sp : ByteArray) (x : At) (w : World) (hn : x.nm.size ≤ maxLen) :
    Calls Tryd.prog 24 #[.string sp, x.v] w fun e w' => e = .returned (attrA sp x).v ∧ Below w.heap.size w w' := by
  obtain ⟨xs, nm, va⟩ := x
  rw [At.v]
  simp only at hn
  unfold maxLen at hn
  have hB0 : Below w.heap.size w ((w.alloc (.cells #[.string xs, .string nm, .string va] 27)).alloc (.cells #[.string ⟨#[]⟩, .string ⟨#[]⟩, .string ⟨#[]⟩] 27)) := ((Below.refl w.heap.size w).alloc (Nat.le_refl _) _).alloc (by simp) _
  have hA : attrA sp ⟨xs, nm, va⟩ = if xs.toList.isEmpty = true then spacedA ⟨xs, lowName sp nm, va⟩ else ⟨xs, nm, va⟩ := rfl
  generalize attrA sp ⟨xs, nm, va⟩ = R at *
  have HR := Lib.hid hA
  clear hA
  cases h0 : xs.toList.isEmpty
  · rw [h0, if_neg (by simp)] at HR
    go_enter Tryd.func24, Tryd.ntmps24
    go_wp2_with fail
    have hR : R = ⟨xs, nm, va⟩ := HR.out
    refine bodyPost_ret (v := (⟨xs, nm, va⟩ : At).v) (by simp [results, Tryd.results24, go_sem, At.v, *]) rfl ⟨by rw [hR], ?_⟩
    repeat' refine Below.setCell ?_ (by simp) _
    exact ((Below.refl w.heap.size w).alloc (Nat.le_refl _) _).alloc (by simp) _
  · rw [h0, if_pos rfl] at HR
    cases h1 : (sp.toList == [115, 118, 103])
    · have hlow : lowName sp nm = if (sp.toList == [109, 97, 116, 104]) = true ∧ (nm.toList == ([100, 101, 102, 105, 110, 105, 116, 105, 111, 110, 117, 114, 108] : List UInt8)) = true then urlW else nm := by rw [lowName, h1, if_neg (by simp)]
      cases h2 : (sp.toList == [109, 97, 116, 104])
      · rw [h2, if_neg (by simp)] at hlow
        rw [hlow] at HR
        clear hlow
        cases a1 : amongB nm bigW
        · have A1 := Lib.hid a1
          cases a2 : amongB nm xmlW
          · have A2 := Lib.hid a2
            cases a3 : (nm.toList == ([120, 109, 108, 110, 115, 58, 120, 108, 105, 110, 107] : List UInt8))
            · have A3 := Lib.hid a3
              cases a4 : (nm.toList == ([120, 109, 108, 110, 115] : List UInt8))
              · have A4 := Lib.hid a4
                clear a1 a2
                go_enter Tryd.func24, Tryd.ntmps24
                go_wp2_with fail
                refine (among_ref nm bigW _ bigOk.size).mono ?_
                rintro e wa ⟨rfl, rfl⟩
                rw [A1.out]
                go_wp2_with fail
                refine (among_ref nm xmlW _ xmlOk.size).mono ?_
                rintro e wa ⟨rfl, rfl⟩
                rw [A2.out]
                go_wp2_with fail
                have hR : R = ⟨xs, nm, va⟩ := by rw [HR.out]; exact spaced_same A1.out A2.out A3.out A4.out
                refine bodyPost_ret (v := (⟨xs, nm, va⟩ : At).v) (by simp [results, Tryd.results24, go_sem, At.v, *]) rfl ⟨by rw [hR], ?_⟩
                repeat' refine Below.setCell ?_ (by simp) _
                exact ((Below.refl w.heap.size w).alloc (Nat.le_refl _) _).alloc (by simp) _
              · have A4 := Lib.hid a4
                clear a1 a2
                go_enter Tryd.func24, Tryd.ntmps24
                go_wp2_with fail
                refine (among_ref nm bigW _ bigOk.size).mono ?_
                rintro e wa ⟨rfl, rfl⟩
                rw [A1.out]
                go_wp2_with fail
                refine (among_ref nm xmlW _ xmlOk.size).mono ?_
                rintro e wa ⟨rfl, rfl⟩
                rw [A2.out]
                go_wp2_with fail
                have hR : R = ⟨(⟨#[120, 109, 108, 110, 115]⟩ : ByteArray), nm, va⟩ := by rw [HR.out]; exact spaced_xmlns A1.out A2.out A3.out A4.out
                refine bodyPost_ret (v := (⟨(⟨#[120, 109, 108, 110, 115]⟩ : ByteArray), nm, va⟩ : At).v) (by simp [results, Tryd.results24, go_sem, At.v, *]) rfl ⟨by rw [hR], ?_⟩
                repeat' refine Below.setCell ?_ (by simp) _
                exact ((Below.refl w.heap.size w).alloc (Nat.le_refl _) _).alloc (by simp) _
            · have A3 := Lib.hid a3
              clear a1 a2
              go_enter Tryd.func24, Tryd.ntmps24
              go_wp2_with fail
              refine (among_ref nm bigW _ bigOk.size).mono ?_
              rintro e wa ⟨rfl, rfl⟩
              rw [A1.out]
              go_wp2_with fail
              refine (among_ref nm xmlW _ xmlOk.size).mono ?_
              rintro e wa ⟨rfl, rfl⟩
              rw [A2.out]
              go_wp2_with fail
              have hR : R = ⟨(⟨#[120, 109, 108, 110, 115]⟩ : ByteArray), (⟨#[120, 108, 105, 110, 107]⟩ : ByteArray), va⟩ := by rw [HR.out]; exact spaced_ns A3.out
              refine bodyPost_ret (v := (⟨(⟨#[120, 109, 108, 110, 115]⟩ : ByteArray), (⟨#[120, 108, 105, 110, 107]⟩ : ByteArray), va⟩ : At).v) (by simp [results, Tryd.results24, go_sem, At.v, *]) rfl ⟨by rw [hR], ?_⟩
              repeat' refine Below.setCell ?_ (by simp) _
              exact ((Below.refl w.heap.size w).alloc (Nat.le_refl _) _).alloc (by simp) _
          · have A2 := Lib.hid a2
            have _h4 := (xml_is a2).2.2.2
            clear a1 a2
            go_enter Tryd.func24, Tryd.ntmps24
            go_wp2_with fail
            refine (among_ref nm bigW _ bigOk.size).mono ?_
            rintro e wa ⟨rfl, rfl⟩
            rw [A1.out]
            go_wp2_with fail
            refine (among_ref nm xmlW _ xmlOk.size).mono ?_
            rintro e wa ⟨rfl, rfl⟩
            rw [A2.out]
            go_wp2_with fail
            have hR : R = ⟨(⟨#[120, 109, 108]⟩ : ByteArray), nm.extract 4 nm.size, va⟩ := by rw [HR.out]; exact spaced_xml A2.out
            refine bodyPost_ret (v := (⟨(⟨#[120, 109, 108]⟩ : ByteArray), nm.extract 4 nm.size, va⟩ : At).v) (by simp [results, Tryd.results24, go_sem, At.v, *]) rfl ⟨by rw [hR], ?_⟩
            repeat' refine Below.setCell ?_ (by simp) _
            exact ((Below.refl w.heap.size w).alloc (Nat.le_refl _) _).alloc (by simp) _
        · have A1 := Lib.hid a1
          have _h6 := (big_is a1).2.2.2
          clear a1
          go_enter Tryd.func24, Tryd.ntmps24
          go_wp2_with fail
          refine (among_ref nm bigW _ bigOk.size).mono ?_
          rintro e wa ⟨rfl, rfl⟩
          rw [A1.out]
          go_wp2_with fail
          have hR : R = ⟨(⟨#[120, 108, 105, 110, 107]⟩ : ByteArray), nm.extract 6 nm.size, va⟩ := by rw [HR.out]; exact spaced_big A1.out
          refine bodyPost_ret (v := (⟨(⟨#[120, 108, 105, 110, 107]⟩ : ByteArray), nm.extract 6 nm.size, va⟩ : At).v) (by simp [results, Tryd.results24, go_sem, At.v, *]) rfl ⟨by rw [hR], ?_⟩
          repeat' refine Below.setCell ?_ (by simp) _
          exact ((Below.refl w.heap.size w).alloc (Nat.le_refl _) _).alloc (by simp) _
      · cases h3 : (nm.toList == ([100, 101, 102, 105, 110, 105, 116, 105, 111, 110, 117, 114, 108] : List UInt8))
        · rw [h3, if_neg (by simp)] at hlow
          rw [hlow] at HR
          clear hlow
          cases a1 : amongB nm bigW
          · have A1 := Lib.hid a1
            cases a2 : amongB nm xmlW
            · have A2 := Lib.hid a2
              cases a3 : (nm.toList == ([120, 109, 108, 110, 115, 58, 120, 108, 105, 110, 107] : List UInt8))
              · have A3 := Lib.hid a3
                cases a4 : (nm.toList == ([120, 109, 108, 110, 115] : List UInt8))
                · have A4 := Lib.hid a4
                  clear a1 a2
                  go_enter Tryd.func24, Tryd.ntmps24
                  go_wp2_with fail
                  refine (among_ref nm bigW _ bigOk.size).mono ?_
                  rintro e wa ⟨rfl, rfl⟩
                  rw [A1.out]
                  go_wp2_with fail
                  refine (among_ref nm xmlW _ xmlOk.size).mono ?_
                  rintro e wa ⟨rfl, rfl⟩
                  rw [A2.out]
                  go_wp2_with fail
                  have hR : R = ⟨xs, nm, va⟩ := by rw [HR.out]; exact spaced_same A1.out A2.out A3.out A4.out
                  refine bodyPost_ret (v := (⟨xs, nm, va⟩ : At).v) (by simp [results, Tryd.results24, go_sem, At.v, *]) rfl ⟨by rw [hR], ?_⟩
                  repeat' refine Below.setCell ?_ (by simp) _
                  exact ((Below.refl w.heap.size w).alloc (Nat.le_refl _) _).alloc (by simp) _
                · have A4 := Lib.hid a4
                  clear a1 a2
                  go_enter Tryd.func24, Tryd.ntmps24
                  go_wp2_with fail
                  refine (among_ref nm bigW _ bigOk.size).mono ?_
                  rintro e wa ⟨rfl, rfl⟩
                  rw [A1.out]
                  go_wp2_with fail
                  refine (among_ref nm xmlW _ xmlOk.size).mono ?_
                  rintro e wa ⟨rfl, rfl⟩
                  rw [A2.out]
                  go_wp2_with fail
                  have hR : R = ⟨(⟨#[120, 109, 108, 110, 115]⟩ : ByteArray), nm, va⟩ := by rw [HR.out]; exact spaced_xmlns A1.out A2.out A3.out A4.out
                  refine bodyPost_ret (v := (⟨(⟨#[120, 109, 108, 110, 115]⟩ : ByteArray), nm, va⟩ : At).v) (by simp [results, Tryd.results24, go_sem, At.v, *]) rfl ⟨by rw [hR], ?_⟩
                  repeat' refine Below.setCell ?_ (by simp) _
                  exact ((Below.refl w.heap.size w).alloc (Nat.le_refl _) _).alloc (by simp) _
              · have A3 := Lib.hid a3
                clear a1 a2
                go_enter Tryd.func24, Tryd.ntmps24
                go_wp2_with fail
                refine (among_ref nm bigW _ bigOk.size).mono ?_
                rintro e wa ⟨rfl, rfl⟩
                rw [A1.out]
                go_wp2_with fail
                refine (among_ref nm xmlW _ xmlOk.size).mono ?_
                rintro e wa ⟨rfl, rfl⟩
                rw [A2.out]
                go_wp2_with fail
                have hR : R = ⟨(⟨#[120, 109, 108, 110, 115]⟩ : ByteArray), (⟨#[120, 108, 105, 110, 107]⟩ : ByteArray), va⟩ := by rw [HR.out]; exact spaced_ns A3.out
                refine bodyPost_ret (v := (⟨(⟨#[120, 109, 108, 110, 115]⟩ : ByteArray), (⟨#[120, 108, 105, 110, 107]⟩ : ByteArray), va⟩ : At).v) (by simp [results, Tryd.results24, go_sem, At.v, *]) rfl ⟨by rw [hR], ?_⟩
                repeat' refine Below.setCell ?_ (by simp) _
                exact ((Below.refl w.heap.size w).alloc (Nat.le_refl _) _).alloc (by simp) _
            · have A2 := Lib.hid a2
              have _h4 := (xml_is a2).2.2.2
              clear a1 a2
              go_enter Tryd.func24, Tryd.ntmps24
              go_wp2_with fail
              refine (among_ref nm bigW _ bigOk.size).mono ?_
              rintro e wa ⟨rfl, rfl⟩
              rw [A1.out]
              go_wp2_with fail
              refine (among_ref nm xmlW _ xmlOk.size).mono ?_
              rintro e wa ⟨rfl, rfl⟩
              rw [A2.out]
              go_wp2_with fail
              have hR : R = ⟨(⟨#[120, 109, 108]⟩ : ByteArray), nm.extract 4 nm.size, va⟩ := by rw [HR.out]; exact spaced_xml A2.out
              refine bodyPost_ret (v := (⟨(⟨#[120, 109, 108]⟩ : ByteArray), nm.extract 4 nm.size, va⟩ : At).v) (by simp [results, Tryd.results24, go_sem, At.v, *]) rfl ⟨by rw [hR], ?_⟩
              repeat' refine Below.setCell ?_ (by simp) _
              exact ((Below.refl w.heap.size w).alloc (Nat.le_refl _) _).alloc (by simp) _
          · have A1 := Lib.hid a1
            have _h6 := (big_is a1).2.2.2
            clear a1
            go_enter Tryd.func24, Tryd.ntmps24
            go_wp2_with fail
            refine (among_ref nm bigW _ bigOk.size).mono ?_
            rintro e wa ⟨rfl, rfl⟩
            rw [A1.out]
            go_wp2_with fail
            have hR : R = ⟨(⟨#[120, 108, 105, 110, 107]⟩ : ByteArray), nm.extract 6 nm.size, va⟩ := by rw [HR.out]; exact spaced_big A1.out
            refine bodyPost_ret (v := (⟨(⟨#[120, 108, 105, 110, 107]⟩ : ByteArray), nm.extract 6 nm.size, va⟩ : At).v) (by simp [results, Tryd.results24, go_sem, At.v, *]) rfl ⟨by rw [hR], ?_⟩
            repeat' refine Below.setCell ?_ (by simp) _
            exact ((Below.refl w.heap.size w).alloc (Nat.le_refl _) _).alloc (by simp) _
        · rw [h2, h3, if_pos ⟨rfl, rfl⟩] at hlow
          rw [hlow] at HR
          clear hlow
          have a1 : amongB urlW bigW = false := by decide +kernel
          have a2 : amongB urlW xmlW = false := by decide +kernel
          have _a3 : (urlW.toList == ([120, 109, 108, 110, 115, 58, 120, 108, 105, 110, 107] : List UInt8)) = false := by decide +kernel
          have _a4 : (urlW.toList == ([120, 109, 108, 110, 115] : List UInt8)) = false := by decide +kernel
          have A1 := Lib.hid a1
          have A2 := Lib.hid a2
          have A3 := Lib.hid _a3
          have A4 := Lib.hid _a4
          unfold urlW at _a3 _a4
          clear a1 a2
          go_enter Tryd.func24, Tryd.ntmps24
          go_wp2_with fail
          refine (among_ref urlW bigW _ bigOk.size).mono ?_
          rintro e wa ⟨rfl, rfl⟩
          rw [A1.out]
          go_wp2_with fail
          refine (among_ref urlW xmlW _ xmlOk.size).mono ?_
          rintro e wa ⟨rfl, rfl⟩
          rw [A2.out]
          go_wp2_with fail
          have hR : R = ⟨xs, urlW, va⟩ := by rw [HR.out]; exact spaced_same A1.out A2.out A3.out A4.out
          refine bodyPost_ret (v := (⟨xs, urlW, va⟩ : At).v) (by simp [results, Tryd.results24, go_sem, At.v, urlW, *]) rfl ⟨by rw [hR], ?_⟩
          repeat' refine Below.setCell ?_ (by simp) _
          exact ((Below.refl w.heap.size w).alloc (Nat.le_refl _) _).alloc (by simp) _
    · have hlow : lowName sp nm = greatB nm attrsW := by rw [lowName, h1, if_pos rfl]
      have hgr := fun W => great_ref nm attrsW W attrsOk.size
      have HG := Lib.hid hgr
      clear hgr
      rw [hlow] at HR
      clear hlow
      have hsz : (greatB nm attrsW).size ≤ 9223372036854775807 := great_size attrsOk hn
      generalize greatB nm attrsW = n at *
      cases a1 : amongB n bigW
      · have A1 := Lib.hid a1
        cases a2 : amongB n xmlW
        · have A2 := Lib.hid a2
          cases a3 : (n.toList == ([120, 109, 108, 110, 115, 58, 120, 108, 105, 110, 107] : List UInt8))
          · have A3 := Lib.hid a3
            cases a4 : (n.toList == ([120, 109, 108, 110, 115] : List UInt8))
            · have A4 := Lib.hid a4
              clear a1 a2
              go_enter Tryd.func24, Tryd.ntmps24
              go_wp2_with fail
              refine (HG.out _).mono ?_
              rintro e w1 ⟨rfl, hb1⟩
              obtain ⟨⟨_b0, _b1, _b2⟩, ⟨_r0, _r1, _r2⟩, bf, rf, _s0, _s1⟩ := box_facts hb1
              have _f0 := bf 0
              have _f1 := bf 1
              have _f2 := bf 2
              have _g0 := rf 0
              have _g1 := rf 1
              have _g2 := rf 2
              clear bf rf
              have hB := hB0.trans (hb1.mono (by simp; omega))
              go_wp2_with fail
              refine (among_ref n bigW _ bigOk.size).mono ?_
              rintro e wa ⟨rfl, rfl⟩
              rw [A1.out]
              go_wp2_with fail
              refine (among_ref n xmlW _ xmlOk.size).mono ?_
              rintro e wa ⟨rfl, rfl⟩
              rw [A2.out]
              go_wp2_with fail
              have hR : R = ⟨xs, n, va⟩ := by rw [HR.out]; exact spaced_same A1.out A2.out A3.out A4.out
              refine bodyPost_ret (v := (⟨xs, n, va⟩ : At).v) (by simp [results, Tryd.results24, go_sem, At.v, *]) rfl ⟨by rw [hR], ?_⟩
              repeat' refine Below.setCell ?_ (by simp) _
              exact hB
            · have A4 := Lib.hid a4
              clear a1 a2
              go_enter Tryd.func24, Tryd.ntmps24
              go_wp2_with fail
              refine (HG.out _).mono ?_
              rintro e w1 ⟨rfl, hb1⟩
              obtain ⟨⟨_b0, _b1, _b2⟩, ⟨_r0, _r1, _r2⟩, bf, rf, _s0, _s1⟩ := box_facts hb1
              have _f0 := bf 0
              have _f1 := bf 1
              have _f2 := bf 2
              have _g0 := rf 0
              have _g1 := rf 1
              have _g2 := rf 2
              clear bf rf
              have hB := hB0.trans (hb1.mono (by simp; omega))
              go_wp2_with fail
              refine (among_ref n bigW _ bigOk.size).mono ?_
              rintro e wa ⟨rfl, rfl⟩
              rw [A1.out]
              go_wp2_with fail
              refine (among_ref n xmlW _ xmlOk.size).mono ?_
              rintro e wa ⟨rfl, rfl⟩
              rw [A2.out]
              go_wp2_with fail
              have hR : R = ⟨(⟨#[120, 109, 108, 110, 115]⟩ : ByteArray), n, va⟩ := by rw [HR.out]; exact spaced_xmlns A1.out A2.out A3.out A4.out
              refine bodyPost_ret (v := (⟨(⟨#[120, 109, 108, 110, 115]⟩ : ByteArray), n, va⟩ : At).v) (by simp [results, Tryd.results24, go_sem, At.v, *]) rfl ⟨by rw [hR], ?_⟩
              repeat' refine Below.setCell ?_ (by simp) _
              exact hB
          · have A3 := Lib.hid a3
            clear a1 a2
            go_enter Tryd.func24, Tryd.ntmps24
            go_wp2_with fail
            refine (HG.out _).mono ?_
            rintro e w1 ⟨rfl, hb1⟩
            obtain ⟨⟨_b0, _b1, _b2⟩, ⟨_r0, _r1, _r2⟩, bf, rf, _s0, _s1⟩ := box_facts hb1
            have _f0 := bf 0
            have _f1 := bf 1
            have _f2 := bf 2
            have _g0 := rf 0
            have _g1 := rf 1
            have _g2 := rf 2
            clear bf rf
            have hB := hB0.trans (hb1.mono (by simp; omega))
            go_wp2_with fail
            refine (among_ref n bigW _ bigOk.size).mono ?_
            rintro e wa ⟨rfl, rfl⟩
            rw [A1.out]
            go_wp2_with fail
            refine (among_ref n xmlW _ xmlOk.size).mono ?_
            rintro e wa ⟨rfl, rfl⟩
            rw [A2.out]
            go_wp2_with fail
            have hR : R = ⟨(⟨#[120, 109, 108, 110, 115]⟩ : ByteArray), (⟨#[120, 108, 105, 110, 107]⟩ : ByteArray), va⟩ := by rw [HR.out]; exact spaced_ns A3.out
            refine bodyPost_ret (v := (⟨(⟨#[120, 109, 108, 110, 115]⟩ : ByteArray), (⟨#[120, 108, 105, 110, 107]⟩ : ByteArray), va⟩ : At).v) (by simp [results, Tryd.results24, go_sem, At.v, *]) rfl ⟨by rw [hR], ?_⟩
            repeat' refine Below.setCell ?_ (by simp) _
            exact hB
        · have A2 := Lib.hid a2
          have _h4 := (xml_is a2).2.2.2
          clear a1 a2
          go_enter Tryd.func24, Tryd.ntmps24
          go_wp2_with fail
          refine (HG.out _).mono ?_
          rintro e w1 ⟨rfl, hb1⟩
          obtain ⟨⟨_b0, _b1, _b2⟩, ⟨_r0, _r1, _r2⟩, bf, rf, _s0, _s1⟩ := box_facts hb1
          have _f0 := bf 0
          have _f1 := bf 1
          have _f2 := bf 2
          have _g0 := rf 0
          have _g1 := rf 1
          have _g2 := rf 2
          clear bf rf
          have hB := hB0.trans (hb1.mono (by simp; omega))
          go_wp2_with fail
          refine (among_ref n bigW _ bigOk.size).mono ?_
          rintro e wa ⟨rfl, rfl⟩
          rw [A1.out]
          go_wp2_with fail
          refine (among_ref n xmlW _ xmlOk.size).mono ?_
          rintro e wa ⟨rfl, rfl⟩
          rw [A2.out]
          go_wp2_with fail
          have hR : R = ⟨(⟨#[120, 109, 108]⟩ : ByteArray), n.extract 4 n.size, va⟩ := by rw [HR.out]; exact spaced_xml A2.out
          refine bodyPost_ret (v := (⟨(⟨#[120, 109, 108]⟩ : ByteArray), n.extract 4 n.size, va⟩ : At).v) (by simp [results, Tryd.results24, go_sem, At.v, *]) rfl ⟨by rw [hR], ?_⟩
          repeat' refine Below.setCell ?_ (by simp) _
          exact hB
      · have A1 := Lib.hid a1
        have _h6 := (big_is a1).2.2.2
        clear a1
        go_enter Tryd.func24, Tryd.ntmps24
        go_wp2_with fail
        refine (HG.out _).mono ?_
        rintro e w1 ⟨rfl, hb1⟩
        obtain ⟨⟨_b0, _b1, _b2⟩, ⟨_r0, _r1, _r2⟩, bf, rf, _s0, _s1⟩ := box_facts hb1
        have _f0 := bf 0
        have _f1 := bf 1
        have _f2 := bf 2
        have _g0 := rf 0
        have _g1 := rf 1
        have _g2 := rf 2
        clear bf rf
        have hB := hB0.trans (hb1.mono (by simp; omega))
        go_wp2_with fail
        refine (among_ref n bigW _ bigOk.size).mono ?_
        rintro e wa ⟨rfl, rfl⟩
        rw [A1.out]
        go_wp2_with fail
        have hR : R = ⟨(⟨#[120, 108, 105, 110, 107]⟩ : ByteArray), n.extract 6 n.size, va⟩ := by rw [HR.out]; exact spaced_big A1.out
        refine bodyPost_ret (v := (⟨(⟨#[120, 108, 105, 110, 107]⟩ : ByteArray), n.extract 6 n.size, va⟩ : At).v) (by simp [results, Tryd.results24, go_sem, At.v, *]) rfl ⟨by rw [hR], ?_⟩
        repeat' refine Below.setCell ?_ (by simp) _
        exact hB
end Go.Proofs.YtdoiopdnencabaaDoor
