/- What 'works' does: it returns true. -/
import Derived.Test.YtibfiblajicdpaaDoorN
import Derived.Test.YtibfiblajicdpaaDoorC
namespace Go.Proofs.YtibfiblajicdpaaDoor
open Go Go.RowKit

theorem st_has_r {w W : World} {b : Nat} {l : List El} (h : St w b l W) (scope : Int) (vn : Value) (ns : List ByteArray) (hv : StrsAt W vn ns) (r : Bool) (hr : foundB (oneE ns) (endE scope) l.reverse = r) :
    Calls Tryd.prog 9 #[.pointer (some ⟨b, 0, Option.none⟩), .int .u8 scope, vn] W fun e W' => e = .returned (.bool r) ∧ Below W.heap.size W W' := by
  rw [← hr]; exact st_has h scope vn ns hv
theorem st_popto_r {w W : World} {b : Nat} {l : List El} (h : St w b l W) (vn : Value) (ns : List ByteArray) (hv : StrsAt W vn ns) (hno : Apart w vn b W) (n : Int) (l' : List El) (hn : popToN ns l = n) (hl : popToL ns l = l') :
    Calls Tryd.prog 19 #[.pointer (some ⟨b, 0, Option.none⟩), vn] W fun e W' => e = .returned (.int .i64 n) ∧ St w b l' W' := by
  rw [← hn, ← hl]; exact st_popto h vn ns hv hno
theorem st_implied_r {w W : World} {b : Nat} {l : List El} (h : St w b l W) (th : Bool) (but : ByteArray) (n : Int) (l' : List El) (hn : (cntTop (impB th but) l : Int) = n) (hl : l.take (l.length - cntTop (impB th but) l) = l') :
    Calls Tryd.prog 11 #[.pointer (some ⟨b, 0, Option.none⟩), .bool th, .string but] W fun e W' => e = .returned (.int .i64 n) ∧ St w b l' W' := by
  rw [← hn, ← hl]; exact st_implied h th but
theorem st_len_r {w W : World} {b : Nat} {l : List El} (h : St w b l W) (n : Int) (hn : (l.length : Int) = n) :
    Calls Tryd.prog 12 #[.pointer (some ⟨b, 0, Option.none⟩)] W fun e W' => e = .returned (.int .i64 n) ∧ W = W' := by
  rw [← hn]; exact st_len h
theorem st_top_r {w W : World} {b : Nat} {l : List El} (h : St w b l W) (x : El) (hx : topE l = x) :
    Calls Tryd.prog 20 #[.pointer (some ⟨b, 0, Option.none⟩)] W fun e W' => e = .returned (.agg #[.int .i64 x.id, .string x.sp, .string x.nm]) ∧ Below W.heap.size W W' := by
  rw [← hx]; exact st_top h
theorem special_r (i : Int) (sp nm : ByteArray) (w : World) (hg : Glob w) (r : Bool) (hr : specialB sp nm = r) :
    Calls Tryd.prog 21 #[.agg #[.int .i64 i, .string sp, .string nm]] w fun e w' => e = .returned (.bool r) ∧ Below w.heap.size w w' := by
  rw [← hr]; exact special_any i sp nm w hg

def wL0 : List El := []
def wL1 : List El := [(⟨1, (⟨#[104, 116, 109, 108]⟩ : ByteArray), (⟨#[104, 116, 109, 108]⟩ : ByteArray)⟩ : El)]
def wL2 : List El := [(⟨1, (⟨#[104, 116, 109, 108]⟩ : ByteArray), (⟨#[104, 116, 109, 108]⟩ : ByteArray)⟩ : El), (⟨2, (⟨#[104, 116, 109, 108]⟩ : ByteArray), (⟨#[98, 111, 100, 121]⟩ : ByteArray)⟩ : El)]
def wL3 : List El := [(⟨1, (⟨#[104, 116, 109, 108]⟩ : ByteArray), (⟨#[104, 116, 109, 108]⟩ : ByteArray)⟩ : El), (⟨2, (⟨#[104, 116, 109, 108]⟩ : ByteArray), (⟨#[98, 111, 100, 121]⟩ : ByteArray)⟩ : El), (⟨3, (⟨#[104, 116, 109, 108]⟩ : ByteArray), (⟨#[100, 105, 118]⟩ : ByteArray)⟩ : El)]
def wL4 : List El := [(⟨1, (⟨#[104, 116, 109, 108]⟩ : ByteArray), (⟨#[104, 116, 109, 108]⟩ : ByteArray)⟩ : El), (⟨2, (⟨#[104, 116, 109, 108]⟩ : ByteArray), (⟨#[98, 111, 100, 121]⟩ : ByteArray)⟩ : El), (⟨3, (⟨#[104, 116, 109, 108]⟩ : ByteArray), (⟨#[100, 105, 118]⟩ : ByteArray)⟩ : El), (⟨4, (⟨#[104, 116, 109, 108]⟩ : ByteArray), (⟨#[112]⟩ : ByteArray)⟩ : El)]
def wL5 : List El := [(⟨1, (⟨#[104, 116, 109, 108]⟩ : ByteArray), (⟨#[104, 116, 109, 108]⟩ : ByteArray)⟩ : El), (⟨2, (⟨#[104, 116, 109, 108]⟩ : ByteArray), (⟨#[98, 111, 100, 121]⟩ : ByteArray)⟩ : El), (⟨3, (⟨#[104, 116, 109, 108]⟩ : ByteArray), (⟨#[100, 105, 118]⟩ : ByteArray)⟩ : El), (⟨4, (⟨#[104, 116, 109, 108]⟩ : ByteArray), (⟨#[112]⟩ : ByteArray)⟩ : El), (⟨5, (⟨#[104, 116, 109, 108]⟩ : ByteArray), (⟨#[98, 117, 116, 116, 111, 110]⟩ : ByteArray)⟩ : El)]
def wL6 : List El := [(⟨1, (⟨#[104, 116, 109, 108]⟩ : ByteArray), (⟨#[104, 116, 109, 108]⟩ : ByteArray)⟩ : El), (⟨2, (⟨#[104, 116, 109, 108]⟩ : ByteArray), (⟨#[98, 111, 100, 121]⟩ : ByteArray)⟩ : El), (⟨3, (⟨#[104, 116, 109, 108]⟩ : ByteArray), (⟨#[100, 105, 118]⟩ : ByteArray)⟩ : El), (⟨4, (⟨#[104, 116, 109, 108]⟩ : ByteArray), (⟨#[112]⟩ : ByteArray)⟩ : El), (⟨5, (⟨#[104, 116, 109, 108]⟩ : ByteArray), (⟨#[98, 117, 116, 116, 111, 110]⟩ : ByteArray)⟩ : El), (⟨6, (⟨#[104, 116, 109, 108]⟩ : ByteArray), (⟨#[116, 100]⟩ : ByteArray)⟩ : El)]
def wL7 : List El := [(⟨1, (⟨#[104, 116, 109, 108]⟩ : ByteArray), (⟨#[104, 116, 109, 108]⟩ : ByteArray)⟩ : El), (⟨2, (⟨#[104, 116, 109, 108]⟩ : ByteArray), (⟨#[98, 111, 100, 121]⟩ : ByteArray)⟩ : El), (⟨3, (⟨#[104, 116, 109, 108]⟩ : ByteArray), (⟨#[100, 105, 118]⟩ : ByteArray)⟩ : El), (⟨4, (⟨#[104, 116, 109, 108]⟩ : ByteArray), (⟨#[112]⟩ : ByteArray)⟩ : El), (⟨7, (⟨#[104, 116, 109, 108]⟩ : ByteArray), (⟨#[108, 105]⟩ : ByteArray)⟩ : El)]

set_option maxRecDepth 100000 in
set_option maxHeartbeats 4000000 in
theorem works_any (w : World) (hg : Glob w) :
    Calls Tryd.prog 7 #[] w fun e w' => e = .returned (.bool true) ∧ Below w.heap.size w w' := by
  have s0 : St w w.heap.size wL0 (w.alloc (.cells #[.slice Option.none 0 0] 27)) := St.new hg (Below.refl _ _) _ rfl
  go_enter Tryd.func7, Tryd.ntmps7
  go_wp2_with fail
  refine (st_pop s0).mono ?_
  rintro e w1 ⟨rfl, s1⟩
  replace s1 : St w w.heap.size wL0 w1 := s1
  rw [show topE wL0 = El.none from rfl, show popC wL0 = 60 from rfl]
  simp only [El.v, El.none]
  clear s0

  replace s1 := s1.go ((Below.refl _ _).alloc (Nat.le_refl _) (.cells #[.int .i64 0, .string ⟨#[]⟩, .string ⟨#[]⟩] 30))
  go_wp2_with fail
  refine (elem_any 1 (⟨#[104, 116, 109, 108]⟩ : ByteArray) _).mono ?_
  rintro e u1 ⟨rfl, hb1⟩
  have t1 := s1.go hb1
  clear s1 hb1
  go_wp2_with fail
  refine (st_push t1 (⟨1, (⟨#[104, 116, 109, 108]⟩ : ByteArray), (⟨#[104, 116, 109, 108]⟩ : ByteArray)⟩ : El) (by decide)).mono ?_
  rintro e w2 ⟨rfl, s2⟩
  replace s2 : St w w.heap.size wL1 w2 := s2
  clear t1
  go_wp2_with fail
  refine (elem_any 2 (⟨#[98, 111, 100, 121]⟩ : ByteArray) _).mono ?_
  rintro e u2 ⟨rfl, hb2⟩
  have t2 := s2.go hb2
  clear s2 hb2
  go_wp2_with fail
  refine (st_push t2 (⟨2, (⟨#[104, 116, 109, 108]⟩ : ByteArray), (⟨#[98, 111, 100, 121]⟩ : ByteArray)⟩ : El) (by decide)).mono ?_
  rintro e w3 ⟨rfl, s3⟩
  replace s3 : St w w.heap.size wL2 w3 := s3
  clear t2
  go_wp2_with fail
  refine (elem_any 3 (⟨#[100, 105, 118]⟩ : ByteArray) _).mono ?_
  rintro e u3 ⟨rfl, hb3⟩
  have t3 := s3.go hb3
  clear s3 hb3
  go_wp2_with fail
  refine (st_push t3 (⟨3, (⟨#[104, 116, 109, 108]⟩ : ByteArray), (⟨#[100, 105, 118]⟩ : ByteArray)⟩ : El) (by decide)).mono ?_
  rintro e w4 ⟨rfl, s4⟩
  replace s4 : St w w.heap.size wL3 w4 := s4
  clear t3
  go_wp2_with fail
  refine (elem_any 4 (⟨#[112]⟩ : ByteArray) _).mono ?_
  rintro e u4 ⟨rfl, hb4⟩
  have t4 := s4.go hb4
  clear s4 hb4
  go_wp2_with fail
  refine (st_push t4 (⟨4, (⟨#[104, 116, 109, 108]⟩ : ByteArray), (⟨#[112]⟩ : ByteArray)⟩ : El) (by decide)).mono ?_
  rintro e w5 ⟨rfl, s5⟩
  replace s5 : St w w.heap.size wL4 w5 := s5
  clear t4
  have t5 := s5.go ((Below.refl _ _).alloc (Nat.le_refl _) (.cells #[.string (⟨#[112]⟩ : ByteArray)] 9))
  go_wp2_with fail
  refine (st_has_r t5 2 _ [(⟨#[112]⟩ : ByteArray)] (strs_one w5 (⟨#[112]⟩ : ByteArray) 9) true (by decide +kernel)).mono ?_
  rintro e w6 ⟨rfl, hb5⟩
  have s6 := t5.go hb5
  clear s5 t5 hb5
  go_wp2_with fail
  refine (elem_any 5 (⟨#[98, 117, 116, 116, 111, 110]⟩ : ByteArray) _).mono ?_
  rintro e u6 ⟨rfl, hb6⟩
  have t6 := s6.go hb6
  clear s6 hb6
  go_wp2_with fail
  refine (st_push t6 (⟨5, (⟨#[104, 116, 109, 108]⟩ : ByteArray), (⟨#[98, 117, 116, 116, 111, 110]⟩ : ByteArray)⟩ : El) (by decide)).mono ?_
  rintro e w7 ⟨rfl, s7⟩
  replace s7 : St w w.heap.size wL5 w7 := s7
  clear t6
  have t7 := s7.go ((Below.refl _ _).alloc (Nat.le_refl _) (.cells #[.string (⟨#[112]⟩ : ByteArray)] 9))
  go_wp2_with fail
  refine (st_has_r t7 2 _ [(⟨#[112]⟩ : ByteArray)] (strs_one w7 (⟨#[112]⟩ : ByteArray) 9) false (by decide +kernel)).mono ?_
  rintro e w8 ⟨rfl, hb7⟩
  have s8 := t7.go hb7
  clear s7 t7 hb7
  have t8 := s8.go ((Below.refl _ _).alloc (Nat.le_refl _) (.cells #[.string (⟨#[112]⟩ : ByteArray)] 9))
  go_wp2_with fail
  refine (st_has_r t8 0 _ [(⟨#[112]⟩ : ByteArray)] (strs_one w8 (⟨#[112]⟩ : ByteArray) 9) true (by decide +kernel)).mono ?_
  rintro e w9 ⟨rfl, hb8⟩
  have s9 := t8.go hb8
  clear s8 t8 hb8
  go_wp2_with fail
  refine (elem_any 6 (⟨#[116, 100]⟩ : ByteArray) _).mono ?_
  rintro e u9 ⟨rfl, hb9⟩
  have t9 := s9.go hb9
  clear s9 hb9
  go_wp2_with fail
  refine (st_push t9 (⟨6, (⟨#[104, 116, 109, 108]⟩ : ByteArray), (⟨#[116, 100]⟩ : ByteArray)⟩ : El) (by decide)).mono ?_
  rintro e w10 ⟨rfl, s10⟩
  replace s10 : St w w.heap.size wL6 w10 := s10
  clear t9
  have t10 := s10.go ((Below.refl _ _).alloc (Nat.le_refl _) (.cells #[.string (⟨#[112]⟩ : ByteArray)] 9))
  go_wp2_with fail
  refine (st_has_r t10 0 _ [(⟨#[112]⟩ : ByteArray)] (strs_one w10 (⟨#[112]⟩ : ByteArray) 9) false (by decide +kernel)).mono ?_
  rintro e w11 ⟨rfl, hb10⟩
  have s11 := t10.go hb10
  clear s10 t10 hb10
  have t11 := s11.go ((Below.refl _ _).alloc (Nat.le_refl _) (.cells #[.string (⟨#[112]⟩ : ByteArray)] 9))
  go_wp2_with fail
  refine (st_has_r t11 3 _ [(⟨#[112]⟩ : ByteArray)] (strs_one w11 (⟨#[112]⟩ : ByteArray) 9) true (by decide +kernel)).mono ?_
  rintro e w12 ⟨rfl, hb11⟩
  have s12 := t11.go hb11
  clear s11 t11 hb11
  have t12 := s12.go ((Below.refl _ _).alloc (Nat.le_refl _) (.cells #[.string (⟨#[98, 117, 116, 116, 111, 110]⟩ : ByteArray)] 9))
  have ap := apart_new s12 (.cells #[.string (⟨#[98, 117, 116, 116, 111, 110]⟩ : ByteArray)] 9) 1 1
  go_wp2_with fail
  refine (st_popto_r t12 _ [(⟨#[98, 117, 116, 116, 111, 110]⟩ : ByteArray)] (strs_one w12 (⟨#[98, 117, 116, 116, 111, 110]⟩ : ByteArray) 9) ap 2 wL4 (by kernel_rfl) (by kernel_rfl)).mono ?_
  rintro e w13 ⟨rfl, s13⟩
  clear s12 t12 ap
  go_wp2_with fail
  refine (elem_any 7 (⟨#[108, 105]⟩ : ByteArray) _).mono ?_
  rintro e u13 ⟨rfl, hb13⟩
  have t13 := s13.go hb13
  clear s13 hb13
  go_wp2_with fail
  refine (st_push t13 (⟨7, (⟨#[104, 116, 109, 108]⟩ : ByteArray), (⟨#[108, 105]⟩ : ByteArray)⟩ : El) (by decide)).mono ?_
  rintro e w14 ⟨rfl, s14⟩
  replace s14 : St w w.heap.size wL7 w14 := s14
  clear t13
  go_wp2_with fail
  refine (st_implied_r s14 false (⟨#[112]⟩ : ByteArray) 1 wL4 (by kernel_rfl) (by kernel_rfl)).mono ?_
  rintro e w15 ⟨rfl, s15⟩
  clear s14
  go_wp2_with fail
  refine (st_len_r s15 4 rfl).mono ?_
  rintro e w' ⟨rfl, rfl⟩
  go_wp2_with fail
  refine (st_top_r s15 (⟨4, (⟨#[104, 116, 109, 108]⟩ : ByteArray), (⟨#[112]⟩ : ByteArray)⟩ : El) rfl).mono ?_
  rintro e w16 ⟨rfl, hb⟩
  have s16 := s15.go hb
  clear s15 hb
  go_wp2_with fail
  refine (elem_any 4 (⟨#[112]⟩ : ByteArray) _).mono ?_
  rintro e w17 ⟨rfl, hb⟩
  have s17 := s16.go hb
  clear s16 hb
  go_wp2_with fail
  refine (elem_any 1 (⟨#[100, 105, 118]⟩ : ByteArray) _).mono ?_
  rintro e w18 ⟨rfl, hb⟩
  have s18 := s17.go hb
  clear s17 hb
  have gl := Lib.hid s18.gl
  go_wp2_with fail
  refine (special_r 1 (⟨#[104, 116, 109, 108]⟩ : ByteArray) (⟨#[100, 105, 118]⟩ : ByteArray) _ gl.out true (by decide +kernel)).mono ?_
  rintro e w19 ⟨rfl, hb⟩
  have s19 := s18.go hb
  clear s18 hb gl
  go_wp2_with fail
  refine (elem_any 1 (⟨#[98]⟩ : ByteArray) _).mono ?_
  rintro e w20 ⟨rfl, hb⟩
  have s20 := s19.go hb
  clear s19 hb
  have gl := Lib.hid s20.gl
  go_wp2_with fail
  refine (special_r 1 (⟨#[104, 116, 109, 108]⟩ : ByteArray) (⟨#[98]⟩ : ByteArray) _ gl.out false (by decide +kernel)).mono ?_
  rintro e w21 ⟨rfl, hb⟩
  have s21 := s20.go hb
  clear s20 hb gl
  go_wp2
  go_ret
  exact ⟨rfl, s21.below⟩
end Go.Proofs.YtibfiblajicdpaaDoor
