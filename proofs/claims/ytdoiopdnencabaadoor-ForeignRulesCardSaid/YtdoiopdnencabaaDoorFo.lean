/- works: what the chapter's examples fix. -/
import Derived.Test.YtdoiopdnencabaaDoorFn
import Derived.Test.YtdoiopdnencabaaDoorFd
namespace Go.Proofs.YtdoiopdnencabaaDoor
open Go Go.RowKit

theorem own_new (w : World) (l : List At) : OwnP (w.alloc (.cells (flatA l).toArray 27)) w.heap.size (.slice (some ⟨w.heap.size, 0, none⟩) l.length l.length) l :=
  .inr ⟨_, _, _, rfl, Nat.le_refl _, heap_alloc_new _ _, fun j x hx => by simpa using flatA_get l j x hx⟩

def L1 : List At := [⟨⟨#[]⟩, (⟨#[118, 105, 101, 119, 98, 111, 120]⟩ : ByteArray), (⟨#[49]⟩ : ByteArray)⟩, ⟨⟨#[]⟩, (⟨#[120, 108, 105, 110, 107, 58, 104, 114, 101, 102]⟩ : ByteArray), ⟨#[]⟩⟩, ⟨⟨#[]⟩, (⟨#[120, 109, 108, 110, 115]⟩ : ByteArray), ⟨#[]⟩⟩]
def L2 : List At := [⟨⟨#[]⟩, (⟨#[118, 105, 101, 119, 66, 111, 120]⟩ : ByteArray), (⟨#[49]⟩ : ByteArray)⟩, ⟨(⟨#[120, 108, 105, 110, 107]⟩ : ByteArray), (⟨#[104, 114, 101, 102]⟩ : ByteArray), ⟨#[]⟩⟩, ⟨(⟨#[120, 109, 108, 110, 115]⟩ : ByteArray), (⟨#[120, 109, 108, 110, 115]⟩ : ByteArray), ⟨#[]⟩⟩]
def L3 : List At := [⟨⟨#[]⟩, (⟨#[99, 111, 108, 111, 114]⟩ : ByteArray), ⟨#[]⟩⟩]
def svgS : ByteArray := ⟨#[115, 118, 103]⟩
set_option maxRecDepth 100000 in
theorem works1 : tagB svgS (⟨#[102, 111, 114, 101, 105, 103, 110, 111, 98, 106, 101, 99, 116]⟩ : ByteArray) = (⟨#[102, 111, 114, 101, 105, 103, 110, 79, 98, 106, 101, 99, 116]⟩ : ByteArray) := by decide +kernel
set_option maxRecDepth 100000 in
theorem works2 : tagB (⟨#[109, 97, 116, 104]⟩ : ByteArray) (⟨#[102, 111, 114, 101, 105, 103, 110, 111, 98, 106, 101, 99, 116]⟩ : ByteArray) = (⟨#[102, 111, 114, 101, 105, 103, 110, 111, 98, 106, 101, 99, 116]⟩ : ByteArray) := by decide +kernel
set_option maxRecDepth 100000 in
theorem works3 : sameB (L1.map (attrA svgS)) L2 = true := by decide +kernel
set_option maxRecDepth 100000 in
theorem works4 : breaksB 2 (⟨#[102, 111, 110, 116]⟩ : ByteArray) [] = false := by decide +kernel
set_option maxRecDepth 100000 in
theorem works5 : breaksB 2 (⟨#[102, 111, 110, 116]⟩ : ByteArray) L3 = true := by decide +kernel

def fontT : Tk := ⟨2, (⟨#[102, 111, 110, 116]⟩ : ByteArray), false, ⟨#[]⟩, ⟨#[]⟩, ⟨#[]⟩, false, false, false⟩

set_option maxRecDepth 100000 in
set_option maxHeartbeats 4000000 in
theorem works_any (w : World) (hg : Glob w) :
    Calls Tryd.prog 7 #[] w fun e w' => e = .returned (.bool true) ∧ Below w.heap.size w w' := by
  go_enter Tryd.func7, Tryd.ntmps7
  go_wp2_with fail
  refine (tag_any svgS (⟨#[102, 111, 114, 101, 105, 103, 110, 111, 98, 106, 101, 99, 116]⟩ : ByteArray) w hg (by decide)).mono ?_
  rintro e w1 ⟨rfl, hb1⟩
  rw [works1]
  have hg1 := hg.below hg.lt hb1
  go_wp2_with fail
  refine (tag_any (⟨#[109, 97, 116, 104]⟩ : ByteArray) (⟨#[102, 111, 114, 101, 105, 103, 110, 111, 98, 106, 101, 99, 116]⟩ : ByteArray) w1 hg1 (by decide)).mono ?_
  rintro e w2 ⟨rfl, hb2⟩
  rw [works2]
  have hg2 := hg1.below hg1.lt hb2
  have hB2 := hb1.trans (hb2.mono hb1.size)
  clear hb1 hb2 hg1
  go_wp2_with fail
  have hL1 := (own_new w2 L1).ats (by decide)
  have hA1 := (Below.refl w2.heap.size w2).alloc (Nat.le_refl _) (.cells (flatA L1).toArray 27)
  refine (attrs_any svgS _ L1 _ (hg2.below hg2.lt hA1) hL1 (by decide) (by decide)).mono ?_
  rintro e w3 ⟨v', rfl, ho, hb3⟩
  have hB3 := hB2.trans ((hA1.trans (hb3.mono (by simp))).mono hB2.size)
  have hg3 := hg.below hg.lt hB3
  clear hL1 hA1 hb3 hB2 hg2
  have hv' := ho.ats (by decide)
  clear ho
  have hA2 := (Below.refl w3.heap.size w3).alloc (Nat.le_refl _) (.cells (flatA L2).toArray 27)
  have HV := Lib.hid (hv'.below (Nat.le_refl _) hA2)
  have HL := Lib.hid ((own_new w3 L2).ats (by decide))
  clear hv'
  go_wp2_with fail
  refine (same_any v' _ _ L2 _ HV.out HL.out).mono ?_
  rintro e w4 ⟨rfl, hb4⟩
  rw [works3]
  have hB4 := hB3.trans ((hA2.trans (hb4.mono (by simp))).mono hB3.size)
  have hg4 := hg.below hg.lt hB4
  clear hA2 hb4 hB3 hg3 HV HL
  go_wp2_with fail
  refine (breaks_any fontT _ [] w4 hg4 (.inl ⟨rfl, Option.none, 0, rfl⟩)).mono ?_
  rintro e w5 ⟨rfl, hb5⟩
  rw [show breaksB fontT.k fontT.n [] = false from works4]
  have hB5 := hB4.trans (hb5.mono hB4.size)
  have hg5 := hg.below hg.lt hB5
  clear hb5 hB4 hg4
  go_wp2_with fail
  have hL3 := (own_new w5 L3).ats (by decide)
  have hA3 := (Below.refl w5.heap.size w5).alloc (Nat.le_refl _) (.cells (flatA L3).toArray 27)
  refine (breaks_any fontT _ L3 _ (hg5.below hg5.lt hA3) hL3).mono ?_
  rintro e w6 ⟨rfl, hb6⟩
  rw [show breaksB fontT.k fontT.n L3 = true from works5]
  have hB6 := hB5.trans ((hA3.trans (hb6.mono (by simp))).mono hB5.size)
  go_wp2_with fail
  go_ret
  exact ⟨rfl, hB6⟩
end Go.Proofs.YtdoiopdnencabaaDoor
