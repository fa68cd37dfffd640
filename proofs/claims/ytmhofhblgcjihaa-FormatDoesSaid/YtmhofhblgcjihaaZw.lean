/- works: what the chapter's examples fix, walked: it returns true. -/
import Derived.Test.YtmhofhblgcjihaaZv
import Derived.Deep.RegionHeld3
namespace Go.Proofs.Ytmhofhblgcjihaa
open Go Go.RowKit Go.Shelf

def eB (i : Nat) : Ab := ⟨⟨(i : Int), (⟨#[104, 116, 109, 108]⟩ : ByteArray), (⟨#[98]⟩ : ByteArray)⟩, []⟩
def wl : Nat → List Ab
  | 0 => []
  | 1 => []
  | 2 => [eB 1]
  | 3 => [eB 1, eB 2]
  | 4 => [eB 1, eB 2, eB 3]
  | _ => [eB 2, eB 3, eB 4]
def wm : List Ab := [eB 2, eB 3, eB 4, Ab.none]
def wi : List Ab := [eB 2, eB 3, eB 4, Ab.none, ⟨⟨5, (⟨#[104, 116, 109, 108]⟩ : ByteArray), (⟨#[105]⟩ : ByteArray)⟩, []⟩]

theorem wl_push1 : pushS (wl 1) ⟨((1 : Nat) : Int), (⟨#[104, 116, 109, 108]⟩ : ByteArray), (⟨#[98]⟩ : ByteArray)⟩ [] = wl (1 + 1) := by kernel_rfl
theorem wl_push2 : pushS (wl 2) ⟨((2 : Nat) : Int), (⟨#[104, 116, 109, 108]⟩ : ByteArray), (⟨#[98]⟩ : ByteArray)⟩ [] = wl (2 + 1) := by kernel_rfl
theorem wl_push3 : pushS (wl 3) ⟨((3 : Nat) : Int), (⟨#[104, 116, 109, 108]⟩ : ByteArray), (⟨#[98]⟩ : ByteArray)⟩ [] = wl (3 + 1) := by kernel_rfl
theorem wl_push4 : pushS (wl 4) ⟨((4 : Nat) : Int), (⟨#[104, 116, 109, 108]⟩ : ByteArray), (⟨#[98]⟩ : ByteArray)⟩ [] = wl (4 + 1) := by kernel_rfl
theorem wl_push (k : Nat) (h1 : 1 ≤ k) (h2 : k ≤ 4) : pushB (wl k) ⟨(k : Int), (⟨#[104, 116, 109, 108]⟩ : ByteArray), (⟨#[98]⟩ : ByteArray)⟩ [] = wl (k + 1) := by
  rw [pushB_small (by simp) (by
    intro x hx
    have : k = 1 ∨ k = 2 ∨ k = 3 ∨ k = 4 := by omega
    rcases this with rfl | rfl | rfl | rfl <;> simp [wl, eB] at hx <;> simp [hx] <;> (rcases hx with rfl | rfl | rfl <;> simp) )]
  have : k = 1 ∨ k = 2 ∨ k = 3 ∨ k = 4 := by omega
  rcases this with rfl | rfl | rfl | rfl
  · exact wl_push1
  · exact wl_push2
  · exact wl_push3
  · exact wl_push4

theorem wi_push : pushB wm ⟨5, (⟨#[104, 116, 109, 108]⟩ : ByteArray), (⟨#[105]⟩ : ByteArray)⟩ [] = wi := by
  rw [pushB_small (by simp) (by intro x hx; simp [wm, eB, Ab.none] at hx; rcases hx with rfl | rfl | rfl | rfl <;> simp)]
  kernel_rfl

theorem ints_one (w : World) (x : Int) : IntsAt (w.alloc (.cells #[.int .i64 x] 3)) (.slice (some ⟨w.heap.size, 0, Option.none⟩) 1 1) [x] := by
  refine .inr ⟨w.heap.size, 0, 1, rfl, by simp, by simp, fun j y hj => ?_⟩
  cases j with
  | zero => simp at hj; subst hj; simp [go_sem]
  | succ j => simp at hj

theorem st_lost1 {w W : World} {b : Nat} {l : List Ab} (h : St w b l W) (B : Nat) (hB : B = W.heap.size) (x : Int) (n : Nat) (hn : lostN [x] l = n) :
    Calls Try.prog 15 #[.pointer (some ⟨b, 0, Option.none⟩), .slice (some ⟨B, 0, Option.none⟩) 1 1] (W.alloc (.cells #[.int .i64 x] 3)) fun e W' => e = .returned (.int .i64 n) ∧ St w b l W' ∧ Below (W.alloc (.cells #[.int .i64 x] 3)).heap.size (W.alloc (.cells #[.int .i64 x] 3)) W' := by
  subst hB
  have hal : Below W.heap.size W (W.alloc (.cells #[.int .i64 x] 3)) := (Below.refl _ _).alloc (Nat.le_refl _) _
  exact (st_lost (h.go hal) _ [x] (ints_one W x) n hn).mono fun _ _ ⟨h1, h2⟩ => ⟨h1, (h.go hal).go h2, h2⟩

theorem st_lost1d {w W : World} {b : Nat} {l : List Ab} (h : St w b l W) (B : Nat) (hB : B = W.heap.size) (x : Int) (n : Nat) (hn : lostN [x] l = n) :
    Calls Try.prog 15 #[.pointer (some ⟨b, 0, Option.none⟩), .slice (some ⟨B, 0, Option.none⟩) 1 1] (W.alloc (.cells #[.int .i64 x] 3)).drew fun e W' => e = .returned (.int .i64 n) ∧ St w b l W' ∧ Below (W.alloc (.cells #[.int .i64 x] 3)).drew.heap.size (W.alloc (.cells #[.int .i64 x] 3)).drew W' :=
  st_lost1 (h.go (Below.refl _ _).drew) B hB x n hn

theorem st_lost0 {w W : World} {b : Nat} {l : List Ab} (h : St w b l W) (n : Nat) (hn : lostN [] l = n) :
    Calls Try.prog 15 #[.pointer (some ⟨b, 0, Option.none⟩), .slice Option.none 0 0] W fun e W' => e = .returned (.int .i64 n) ∧ St w b l W' ∧ Below W.heap.size W W' :=
  (st_lost h _ [] (.inl ⟨rfl, _, _, rfl⟩) n hn).mono fun _ _ ⟨h1, h2⟩ => ⟨h1, h.go h2, h2⟩

theorem st_elem {w W : World} {b : Nat} {l : List Ab} (h : St w b l W) (id : Int) (nm : ByteArray) :
    Calls Try.prog 9 #[.int .i64 id, .string nm] W fun e W' => e = .returned (.agg #[.int .i64 id, .string (⟨#[104, 116, 109, 108]⟩ : ByteArray), .string nm]) ∧ St w b l W' ∧ Below W.heap.size W W' :=
  (elem_any id nm W).mono fun _ _ ⟨h1, h2⟩ => ⟨h1, h.go h2, h2⟩

theorem x_below {X : Nat} {W W' : World} {v0 v1 v2 : Value} (h : W.cell? ⟨X, 0, Option.none⟩ = some v0 ∧ W.cell? ⟨X, 1, Option.none⟩ = some v1 ∧ W.cell? ⟨X, 2, Option.none⟩ = some v2) (hb : Below W.heap.size W W') :
    W'.cell? ⟨X, 0, Option.none⟩ = some v0 ∧ W'.cell? ⟨X, 1, Option.none⟩ = some v1 ∧ W'.cell? ⟨X, 2, Option.none⟩ = some v2 := by
  have hx : X < W.heap.size := World.block_lt_of_cell? W _ h.1
  exact ⟨(hb.cell (p := ⟨X, 0, Option.none⟩) hx).trans h.1, (hb.cell (p := ⟨X, 1, Option.none⟩) hx).trans h.2.1, (hb.cell (p := ⟨X, 2, Option.none⟩) hx).trans h.2.2⟩

def e4 : Ab := ⟨⟨4, (⟨#[104, 116, 109, 108]⟩ : ByteArray), (⟨#[98]⟩ : ByteArray)⟩, []⟩
theorem len_5 : (wl 5).length = 3 := rfl
theorem lost_3 : lostN [3] (wl 5) = 2 := by kernel_rfl
theorem lost_0 : lostN [] (wl 5) = 0 := by kernel_rfl
theorem lost_44 : lostN [4] (wl 5) = 3 := by kernel_rfl
theorem lost_4 : lostN [4] wi = 4 := by kernel_rfl

set_option maxRecDepth 100000 in
set_option maxHeartbeats 8000000 in
theorem works_any (w : World) : Calls Try.prog 7 #[] w fun e w' => e = .returned (.bool true) ∧ Below w.heap.size w w' := by
  have s0 : St w w.heap.size [] (w.alloc (.cells #[.slice Option.none 0 0] 27)) := St.new (Below.refl _ _) _ rfl
  go_enter Try.func7, Try.ntmps7
  go_wp2_with fail
  go_loopw [2] (fun i wr => ∃ k : Nat, 1 ≤ k ∧ k ≤ 5 ∧ i = .int .i64 k ∧ St w w.heap.size (wl k) wr) (fun i _ => 5 - (intOf i).toNat)
  case atStart => exact ⟨1, by omega, by omega, rfl, s0⟩
  case round =>
    obtain ⟨k, hk1, hk5, rfl, s1⟩ := hrel
    clear s0
    by_cases hlt : k < 5
    · have HW := Lib.hid (wl_push k hk1 (by omega))
      have hln : (wl k).length < 900000 := by
        have : k = 1 ∨ k = 2 ∨ k = 3 ∨ k = 4 := by omega
        rcases this with rfl | rfl | rfl | rfl <;> simp [wl]
      go_wp2_with fail
      refine (elem_any k (⟨#[98]⟩ : ByteArray) _).mono ?_
      rintro e w2 ⟨rfl, hb⟩
      have s2 := s1.go hb
      clear s1 hb
      go_wp2_with fail
      refine (st_push0 s2 ⟨k, (⟨#[104, 116, 109, 108]⟩ : ByteArray), (⟨#[98]⟩ : ByteArray)⟩ hln _ HW.out).mono ?_
      rintro e w3 ⟨rfl, s3⟩
      clear s2
      go_wp2_with fail
      go_roundw
      case rel => exact ⟨k + 1, by omega, by omega, by go_num, s3⟩
      case measure => simp [intOf] <;> omega
    · obtain rfl : k = 5 := by omega
      go_wp2_with fail
      refine (st_len s1 3 rfl).mono ?_
      rintro e w' ⟨rfl, rfl⟩
      go_wp2_with fail
      refine (st_index s1 1 (-1) (by kernel_rfl)).mono ?_
      rintro e w2 ⟨rfl, hb⟩
      have s2 := s1.go hb
      clear s1 hb
      go_wp2_with fail
      refine (st_mark s2 (by decide) wm rfl).mono ?_
      rintro e w3 ⟨rfl, s3⟩
      clear s2
      go_wp2_with fail
      refine (elem_any 5 (⟨#[105]⟩ : ByteArray) _).mono ?_
      rintro e w4 ⟨rfl, hb⟩
      have s4 := s3.go hb
      clear s3 hb
      go_wp2_with fail
      refine (st_push0 s4 ⟨5, (⟨#[104, 116, 109, 108]⟩ : ByteArray), (⟨#[105]⟩ : ByteArray)⟩ (by decide) wi wi_push).mono ?_
      rintro e w5 ⟨rfl, s5⟩
      clear s4
      go_wp2_with fail
      refine (st_find_none s5 (⟨#[98]⟩ : ByteArray) (by kernel_rfl)).mono ?_
      rintro e w6 ⟨fa, fc, rfl, hfa, _, hb⟩
      have s6 := s5.go hb
      clear s5 hb hfa
      have hy6 := s6.go ((Below.refl _ _).alloc (Nat.le_refl _) (.cells #[.int .i64 Ab.none.el.id, .string Ab.none.el.sp, .string Ab.none.el.nm, .slice fa Ab.none.ats.length fc] 37))
      have HT6 := Lib.hid (hy6.go ((Below.refl _ _).alloc (Nat.le_refl _) (.cells #[.int .i64 4] 3)))
      have HIN := Lib.hid (ints_one (w6.alloc (.cells #[.int .i64 Ab.none.el.id, .string Ab.none.el.sp, .string Ab.none.el.nm, .slice fa Ab.none.ats.length fc] 37)) 4)
      clear s6 hy6
      rw [World.size_alloc] at HIN
      go_wp2_with fail
      refine (st_lost HT6.out _ [4] HIN.out 4 lost_4).mono ?_
      rintro e w7 ⟨rfl, hb⟩
      have s7 := HT6.out.go hb
      clear HT6 HIN hb
      go_wp2_with fail
      refine (st_clear s7 (wl 5) (by kernel_rfl)).mono ?_
      rintro e w8 ⟨rfl, s8⟩
      clear s7
      go_wp2_with fail
      refine (st_remove s8 9 70 (wl 5) (by kernel_rfl) (by kernel_rfl)).mono ?_
      rintro e w9 ⟨rfl, s9⟩
      clear s8
      go_wp2_with fail
      refine (st_find_some s9 (⟨#[98]⟩ : ByteArray) e4 (by kernel_rfl)).mono ?_
      rintro e w10 ⟨ga, gc, rfl, hga, _, hb⟩
      dsimp only [e4, List.length_nil]
      have s10 := s9.go hb
      clear s9 hb hga
      have sx := s10.go ((Below.refl _ _).alloc (Nat.le_refl _) (.cells #[.int .i64 4, .string (⟨#[104, 116, 109, 108]⟩ : ByteArray), .string (⟨#[98]⟩ : ByteArray), .slice ga 0 gc] 37))
      have SX := Lib.hid sx
      clear s10 sx
      go_wp2_with fail
      have x0 : (w10.alloc (.cells #[.int .i64 4, .string (⟨#[104, 116, 109, 108]⟩ : ByteArray), .string (⟨#[98]⟩ : ByteArray), .slice ga 0 gc] 37)).cell? ⟨w10.heap.size, 0, Option.none⟩ = some (.int .i64 4) := by simp [go_sem]
      have x1 : (w10.alloc (.cells #[.int .i64 4, .string (⟨#[104, 116, 109, 108]⟩ : ByteArray), .string (⟨#[98]⟩ : ByteArray), .slice ga 0 gc] 37)).cell? ⟨w10.heap.size, 1, Option.none⟩ = some (.string (⟨#[104, 116, 109, 108]⟩ : ByteArray)) := by simp [go_sem]
      have x2 : (w10.alloc (.cells #[.int .i64 4, .string (⟨#[104, 116, 109, 108]⟩ : ByteArray), .string (⟨#[98]⟩ : ByteArray), .slice ga 0 gc] 37)).cell? ⟨w10.heap.size, 2, Option.none⟩ = some (.string (⟨#[98]⟩ : ByteArray)) := by simp [go_sem]
      have hsx := SX.out.go (Below.refl _ _).drew
      have hsx0 := SX.out
      generalize hX : w10.heap.size = X at *
      generalize w10.alloc (.cells #[.int .i64 4, .string (⟨#[104, 116, 109, 108]⟩ : ByteArray), .string (⟨#[98]⟩ : ByteArray), .slice ga 0 gc] 37) = W at *
      clear hX SX
      go_region_held3 (fun w' => w'.cell? ⟨X, 0, Option.none⟩ = some (.int .i64 4) ∧ w'.cell? ⟨X, 1, Option.none⟩ = some (.string (⟨#[104, 116, 109, 108]⟩ : ByteArray)) ∧ w'.cell? ⟨X, 2, Option.none⟩ = some (.string (⟨#[98]⟩ : ByteArray)))
        (first | with_reducible exact x_below (by assumption) hb' | go_keep)
        (first
          | (go_at_call 13; (with_reducible refine (st_len (by assumption) 3 len_5).mono ?_); rintro e w' ⟨rfl, rfl⟩)
          | (go_at_call 15; (with_reducible refine (st_lost1 (by assumption) _ (by rfl) _ _ (by first | exact lost_3 | exact lost_44)).mono ?_); rintro e w' ⟨rfl, hs', hb'⟩)
          | (go_at_call 15; (with_reducible refine (st_lost1d (by assumption) _ (by rfl) _ _ (by first | exact lost_3 | exact lost_44)).mono ?_); rintro e w' ⟨rfl, hs', hb'⟩)
          | (go_at_call 15; (with_reducible refine (st_lost0 (by assumption) _ lost_0).mono ?_); rintro e w' ⟨rfl, hs', hb'⟩)
          | (go_at_call 9; (with_reducible refine (st_elem (by assumption) _ _).mono ?_); rintro e w' ⟨rfl, hs', hb'⟩))
      all_goals
        go_wp2
        go_ret
        exact ⟨rfl, hs'.below⟩
end Go.Proofs.Ytmhofhblgcjihaa
