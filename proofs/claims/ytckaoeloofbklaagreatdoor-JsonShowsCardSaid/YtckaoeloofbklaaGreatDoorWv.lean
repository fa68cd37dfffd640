/- Joined texts: Jv Kl Ko On. Each begins with its own remark. -/
import Derived.Test.YtckaoeloofbklaaGreatDoorWu
import Derived.Test.YtckaoeloofbklaaGreatDoorWj
import Derived.Test.YtckaoeloofbklaaGreatDoorWk
import Derived.Test.YtckaoeloofbklaaGreatDoorWn
import Derived.Test.YtckaoeloofbklaaGreatDoorWt
set_option maxRecDepth 100000
set_option maxHeartbeats 16000000
namespace Go.Proofs.YtckaoeloofbklaaGreatDoor
open Go Go.RowKit Go.Lib
def zeroJ : Value := .agg #[.int .u8 0, .bool false, .int .i64 0, .int .u64 0, .string ⟨#[]⟩, .slice none 0 0, .slice none 0 0]
def ParsePost (s : ByteArray) (w : World) (o : Out JV) (e : Ending) (w' : World) : Prop := Below w.heap.size w w' ∧ match o with
 | .ok v [] => ∃ V, e = .returned (.tuple #[V, .int .i64 0, .int .i64 0]) ∧ JAt (fun b => w.heap.size ≤ b) w' v V
 | .ok _ (c :: t) => e = .returned (.tuple #[zeroJ, .int .i64 160, .int .i64 ((s.size - (c :: t).length : Nat) : Int)])
 | .err x t => e = .returned (.tuple #[zeroJ, .int .i64 x, .int .i64 ((s.size - t.length : Nat) : Int)])
theorem parse_json (K : Nat) (s : ByteArray) (o : Out JV) (w : World) (ht : Lib.Utf8Tabs 0 1 w) (hg : Globs w) (hgt : GlobT K w) (hs : (s.size + 1) * 88 ≤ 140737488355328) (hv : Val decB8 enc NJ 64 s.data.toList o) :
  Calls Tryz.prog 10 #[.string s] w (ParsePost s w o) := by
 have hmf : ∀ (fn : Fn) (first cap : Array Value) (w : World), (Instr.makeFunc fn first cap).run Tryz.prog w = .ok (.func fn first cap) w := fun _ _ _ _ => rfl
 obtain ⟨r, hr⟩ : ∃ r, r = w.heap.size + 1 + 1 + 1 := ⟨_, rfl⟩
 obtain ⟨W, hW⟩ : ∃ W, W = (((w.alloc (.cells #[.int .u8 0, .bool false, .int .i64 0, .int .u64 0, .string ⟨#[]⟩, .slice none 0 0, .slice none 0 0] 27)).alloc (.cells #[.int .i64 0] 31)).alloc (.cells #[.int .i64 0] 3)).alloc (.cells #[.string s, .int .i64 0, .int .i64 0] 56) := ⟨_, rfl⟩
 have hbW : Below w.heap.size w W := by
  rw [hW]
  exact ((((Below.refl _ _).alloc (Nat.le_refl _) _).alloc (by simp <;> omega) _).alloc (by simp <;> omega) _).alloc (by simp <;> omega) _
 have hWs : W.heap.size = w.heap.size + 4 := by rw [hW]; simp
 have n3 : W.heap[r]? = some (.cells #[.string s, .int .i64 0, .int .i64 0] 56 (0, 0)) := by
  have := heap_alloc_new (((w.alloc (.cells #[.int .u8 0, .bool false, .int .i64 0, .int .u64 0, .string ⟨#[]⟩, .slice none 0 0, .slice none 0 0] 27)).alloc (.cells #[.int .i64 0] 31)).alloc (.cells #[.int .i64 0] 3)) (.cells #[.string s, .int .i64 0, .int .i64 0] 56)
  rw [← hW] at this
  rw [hr]
  simpa using this
 have n2 : W.heap[w.heap.size + 1 + 1]? = some (.cells #[.int .i64 0] 3 (0, 0)) := by
  rw [hW, heapJ_old _ _ _ (by simp <;> omega)]
  have := heap_alloc_new ((w.alloc (.cells #[.int .u8 0, .bool false, .int .i64 0, .int .u64 0, .string ⟨#[]⟩, .slice none 0 0, .slice none 0 0] 27)).alloc (.cells #[.int .i64 0] 31)) (.cells #[.int .i64 0] 3)
  simpa using this
 have n1 : W.heap[w.heap.size + 1]? = some (.cells #[.int .i64 0] 31 (0, 0)) := by
  rw [hW, heapJ_old _ _ _ (by simp <;> omega), heapJ_old _ _ _ (by simp <;> omega)]
  have := heap_alloc_new (w.alloc (.cells #[.int .u8 0, .bool false, .int .i64 0, .int .u64 0, .string ⟨#[]⟩, .slice none 0 0, .slice none 0 0] 27)) (.cells #[.int .i64 0] 31)
  simpa using this
 have n0 : W.heap[w.heap.size]? = some (.cells #[.int .u8 0, .bool false, .int .i64 0, .int .u64 0, .string ⟨#[]⟩, .slice none 0 0, .slice none 0 0] 27 (0, 0)) := by
  rw [hW, heapJ_old _ _ _ (by simp <;> omega), heapJ_old _ _ _ (by simp <;> omega), heapJ_old _ _ _ (by simp <;> omega)]
  exact heap_alloc_new _ _
 have hsl : s.data.toList.length = s.size := by simp
 have hrd : Rd r s s.data.toList 0 W := ⟨by rw [n3, hsl]; simp, List.suffix_refl _, by omega⟩
 have hE : Env K r s W := ⟨by have := hgt.le; omega, utabs_kept ht (hbW.mono (by have := hgt.lt; have := hgt.le; omega)), hg.on hbW, hgt.on hbW, hs⟩
 have HV := Lib.hid (value_any K 64 r s s.data.toList 0 W o (by omega) hrd hE hv)
 have HB := Lib.hid hbW
 have HN := Lib.hid (And.intro n0 (And.intro n1 (And.intro n2 n3)))
 clear hbW n0 n1 n2 n3 hrd hE hv ht hg hgt
 go_enter_defers Tryz.func10, Tryz.ntmps10
 go_wp2_with fail
 rw [← hW, ← hr]
 refine HV.out.mono ?_
 intro e w1 hp
 have HR := Lib.hid hr
 cases o with
 | err x t =>
  obtain ⟨hg, hk⟩ := hp
  unfold Gives at hg
  subst hg
  obtain ⟨n0, n1, n2, n3⟩ := HN.out
  have m0 := (hk.block w.heap.size (by omega) (by omega)).trans n0
  have m1 := (hk.block (w.heap.size + 1) (by omega) (by omega)).trans n1
  have m2 := (hk.block (w.heap.size + 1 + 1) (by omega) (by omega)).trans n2
  have HC := Lib.hid (catch_hit w.heap.size w.heap.size (w.heap.size + 1) (w.heap.size + 1 + 1) x (s.size - t.length) w1 _ _ _ _ _ _ _ _ _ m0 m1 m2 (by omega) (by omega) (by omega) (by omega) (by omega) (by omega))
  dsimp only
  refine leaves_cons (f := 24) (args := #[.pointer (some ⟨w.heap.size, 0, none⟩), .pointer (some ⟨w.heap.size + 1, 0, none⟩), .pointer (some ⟨w.heap.size + 1 + 1, 0, none⟩)]) (by simp) (by simp [go_sem]) ?_
  refine HC.out.mono ?_
  rintro e u' w'' ⟨rfl, rfl, g0, g1, g2, gb⟩
  obtain ⟨c0, c1, c2, c3, c4, c5, c6⟩ := cell_agg7 g0
  have d1 : w''.cell? ⟨w.heap.size + 1, 0, none⟩ = some (.int .i64 x) := by rw [cell_of_row _ _ 0 _ _ _ g1]; rfl
  have d2 : w''.cell? ⟨w.heap.size + 1 + 1, 0, none⟩ = some (.int .i64 ((s.size - t.length : Nat) : Int)) := by rw [cell_of_row _ _ 0 _ _ _ g2]; rfl
  have hfin : ParsePost s w (.err x t) (.returned (.tuple #[zeroJ, .int .i64 x, .int .i64 ((s.size - t.length : Nat) : Int)])) w'' := ⟨(HB.out.trans (hk.below (by omega) |>.mono (by omega))).trans gb, rfl⟩
  simp [Leaves, settle, results, Tryz.results10, go_sem, c0, c1, c2, c3, c4, c5, c6, d1, d2]
  exact hfin
 | ok v t =>
  obtain ⟨V, rfl, hJ, hr1, hk⟩ := hp
  obtain ⟨vk, vb, vn, vu, vt, vks, vvs⟩ := v
  have hJ2 := hJ
  rw [JAt] at hJ2
  obtain ⟨va, vc, va', vc', rfl, -⟩ := hJ2
  obtain ⟨n0, n1, n2, n3⟩ := HN.out
  have m0 := (hk.block w.heap.size (by omega) (by omega)).trans n0
  have m1 := (hk.block (w.heap.size + 1) (by omega) (by omega)).trans n1
  have m2 := (hk.block (w.heap.size + 1 + 1) (by omega) (by omega)).trans n2
  have q : ∀ j, w1.frozen? ⟨w.heap.size, j, none⟩ = false := fun j => froz_agg m0 j
  obtain ⟨q0, q1, q2, q3, q4, q5, q6⟩ := cell_agg7 m0
  have HM := Lib.hid (And.intro m0 (And.intro m1 (And.intro m2 (And.intro hr1 (And.intro hk hJ)))))
  have hF := seven_set m0 (.int .u8 vk) (.bool vb) (.int .i64 vn) (.int .u64 vu) (.string vt) (.slice va vks.length vc) (.slice va' vvs.length vc')
  have hB7 : Below w.heap.size w (set7 w1 w.heap.size (.int .u8 vk) (.bool vb) (.int .i64 vn) (.int .u64 vu) (.string vt) (.slice va vks.length vc) (.slice va' vvs.length vc')) := ((((((((HB.out.trans (hk.below (by omega) |>.mono (by omega))).setCell (p := ⟨w.heap.size, 0, none⟩) (Nat.le_refl _) _).setCell (p := ⟨w.heap.size, 1, none⟩) (Nat.le_refl _) _).setCell (p := ⟨w.heap.size, 2, none⟩) (Nat.le_refl _) _).setCell (p := ⟨w.heap.size, 3, none⟩) (Nat.le_refl _) _).setCell (p := ⟨w.heap.size, 4, none⟩) (Nat.le_refl _) _).setCell (p := ⟨w.heap.size, 5, none⟩) (Nat.le_refl _) _).setCell (p := ⟨w.heap.size, 6, none⟩) (Nat.le_refl _) _)
  have hb7 : ∀ j, j ≠ w.heap.size → (set7 w1 w.heap.size (.int .u8 vk) (.bool vb) (.int .i64 vn) (.int .u64 vu) (.string vt) (.slice va vks.length vc) (.slice va' vvs.length vc')).heap[j]? = w1.heap[j]? := fun j hj => set7_block hj ..
  have HX := Lib.hid (And.intro hB7 hb7)
  unfold set7 at HX
  clear m0 m1 m2 hr1 hk hJ n0 n1 n2 n3 hr hB7 hb7
  go_upto_region 4 with fail
  generalize ((((((w1.setCell ⟨w.heap.size, 0, none⟩ (.int .u8 vk)).setCell ⟨w.heap.size, 1, none⟩ (.bool vb)).setCell ⟨w.heap.size, 2, none⟩ (.int .i64 vn)).setCell ⟨w.heap.size, 3, none⟩ (.int .u64 vu)).setCell ⟨w.heap.size, 4, none⟩ (.string vt)).setCell ⟨w.heap.size, 5, none⟩ (.slice va vks.length vc)).setCell ⟨w.heap.size, 6, none⟩ (.slice va' vvs.length vc') = F at *
  obtain ⟨m0, m1, m2, hr1, hk, hJ⟩ := HM.out
  have k1 := (HX.out.2 (w.heap.size + 1) (by omega)).trans m1
  have k2 := (HX.out.2 (w.heap.size + 1 + 1) (by omega)).trans m2
  have hrF : Rd r s t 0 F := hr1.kept (HX.out.2 r (by have := HR.out; omega))
  obtain ⟨p, hp, c1⟩ := hrF.pos
  have HK := Lib.hid (And.intro k1 (And.intro k2 hJ))
  have HF := Lib.hid hF
  cases t with
  | nil =>
   rw [List.length_nil, Nat.add_zero] at hp
   subst hp
   obtain ⟨g0, g1, g2, g3, g4, g5, g6⟩ := cell_agg7 hF
   have q : ∀ j, F.frozen? ⟨w.heap.size, j, none⟩ = false := fun j => froz_agg hF j
   have f1 := froz_agg k1 0
   have f2 := froz_agg k2 0
   have e1 : F.cell? ⟨w.heap.size + 1, 0, none⟩ = some (.int .i64 0) := by rw [cell_of_row _ _ 0 _ _ _ k1]; rfl
   have e2 : F.cell? ⟨w.heap.size + 1 + 1, 0, none⟩ = some (.int .i64 0) := by rw [cell_of_row _ _ 0 _ _ _ k2]; rfl
   have hF2 := seven_set hF (.int .u8 vk) (.bool vb) (.int .i64 vn) (.int .u64 vu) (.string vt) (.slice va vks.length vc) (.slice va' vvs.length vc')
   have hb8 : ∀ j, j ≠ w.heap.size → (set7 F w.heap.size (.int .u8 vk) (.bool vb) (.int .i64 vn) (.int .u64 vu) (.string vt) (.slice va vks.length vc) (.slice va' vvs.length vc')).heap[j]? = F.heap[j]? := fun j hj => set7_block hj ..
   have hB8 : Below w.heap.size w (set7 F w.heap.size (.int .u8 vk) (.bool vb) (.int .i64 vn) (.int .u64 vu) (.string vt) (.slice va vks.length vc) (.slice va' vvs.length vc')) := (((((((HX.out.1.setCell (p := ⟨w.heap.size, 0, none⟩) (Nat.le_refl _) _).setCell (p := ⟨w.heap.size, 1, none⟩) (Nat.le_refl _) _).setCell (p := ⟨w.heap.size, 2, none⟩) (Nat.le_refl _) _).setCell (p := ⟨w.heap.size, 3, none⟩) (Nat.le_refl _) _).setCell (p := ⟨w.heap.size, 4, none⟩) (Nat.le_refl _) _).setCell (p := ⟨w.heap.size, 5, none⟩) (Nat.le_refl _) _).setCell (p := ⟨w.heap.size, 6, none⟩) (Nat.le_refl _) _)
   have H8 := Lib.hid (And.intro hF2 (And.intro hb8 hB8))
   unfold set7 at H8
   clear m0 m1 m2 hr1 hk hJ k1 k2 hrF hF hF2 hb8 hB8
   go_wp2_with fail
   generalize (((((((F.setCell ⟨w.heap.size, 0, none⟩ (.int .u8 vk)).setCell ⟨w.heap.size, 1, none⟩ (.bool vb)).setCell ⟨w.heap.size, 2, none⟩ (.int .i64 vn)).setCell ⟨w.heap.size, 3, none⟩ (.int .u64 vu)).setCell ⟨w.heap.size, 4, none⟩ (.string vt)).setCell ⟨w.heap.size, 5, none⟩ (.slice va vks.length vc)).setCell ⟨w.heap.size, 6, none⟩ (.slice va' vvs.length vc')) = F8 at *
   obtain ⟨x0, x1, x2⟩ := H8.out
   obtain ⟨k1, k2, hJ⟩ := HK.out
   have y1 := (x1 (w.heap.size + 1) (by omega)).trans k1
   have y2 := (x1 (w.heap.size + 1 + 1) (by omega)).trans k2
   have z1 := setCellJ (j := 0) y1 (.int .i64 0)
   have z2 := setCellJ (w := F8.setCell ⟨w.heap.size + 1, 0, none⟩ (.int .i64 0)) (j := 0) ((Below.heap_setCell F8 ⟨w.heap.size + 1, 0, none⟩ (.int .i64 0) (w.heap.size + 1 + 1) (by show _ ≠ w.heap.size + 1; omega)).trans y2) (.int .i64 0)
   have z0 := (Below.heap_setCell (F8.setCell ⟨w.heap.size + 1, 0, none⟩ (.int .i64 0)) ⟨w.heap.size + 1 + 1, 0, none⟩ (.int .i64 0) w.heap.size (by show w.heap.size ≠ w.heap.size + 1 + 1; omega)).trans ((Below.heap_setCell F8 ⟨w.heap.size + 1, 0, none⟩ (.int .i64 0) w.heap.size (by show w.heap.size ≠ w.heap.size + 1; omega)).trans x0)
   have z1' := (Below.heap_setCell (F8.setCell ⟨w.heap.size + 1, 0, none⟩ (.int .i64 0)) ⟨w.heap.size + 1 + 1, 0, none⟩ (.int .i64 0) (w.heap.size + 1) (by show w.heap.size + 1 ≠ w.heap.size + 1 + 1; omega)).trans z1
   have hBf := (x2.setCell (p := ⟨w.heap.size + 1, 0, none⟩) (by show w.heap.size ≤ w.heap.size + 1; omega) (.int .i64 0)).setCell (p := ⟨w.heap.size + 1 + 1, 0, none⟩) (by show w.heap.size ≤ w.heap.size + 1 + 1; omega) (.int .i64 0)
   have hJf : JAt (fun b => w.heap.size ≤ b) ((F8.setCell ⟨w.heap.size + 1, 0, none⟩ (.int .i64 0)).setCell ⟨w.heap.size + 1 + 1, 0, none⟩ (.int .i64 0)) _ _ := JAt.kept (fun j hj _ => ⟨(Below.heap_setCell _ _ _ _ (by show j ≠ w.heap.size + 1 + 1; omega)).trans ((Below.heap_setCell _ _ _ _ (by show j ≠ w.heap.size + 1; omega)).trans ((x1 j (by omega)).trans (HX.out.2 j (by omega)))), by omega⟩) _ _ hJ
   clear x0 x1 x2 y1 y2 z1 k1 k2 hJ
   generalize (F8.setCell ⟨w.heap.size + 1, 0, none⟩ (.int .i64 0)).setCell ⟨w.heap.size + 1 + 1, 0, none⟩ (.int .i64 0) = G at *
   obtain ⟨c0, c1, c2, c3, c4, c5, c6⟩ := cell_agg7 z0
   have d1 : G.cell? ⟨w.heap.size + 1, 0, none⟩ = some (.int .i64 0) := by rw [cell_of_row _ _ 0 _ _ _ z1']; rfl
   have d2 : G.cell? ⟨w.heap.size + 1 + 1, 0, none⟩ = some (.int .i64 0) := by rw [cell_of_row _ _ 0 _ _ _ z2]; rfl
   refine leaves_cons (f := 24) (args := #[.pointer (some ⟨w.heap.size, 0, none⟩), .pointer (some ⟨w.heap.size + 1, 0, none⟩), .pointer (some ⟨w.heap.size + 1 + 1, 0, none⟩)]) (by simp) (by simp [go_sem]) ?_
   refine (catch_idle ⟨w.heap.size, 0, none⟩ ⟨w.heap.size + 1, 0, none⟩ ⟨w.heap.size + 1 + 1, 0, none⟩ _).mono ?_
   rintro e u' w'' ⟨rfl, rfl, hw⟩
   replace hw := hw.symm
   subst hw
   have hfin : ∀ V, JAt (fun b => w.heap.size ≤ b) G (.mk vk vb vn vu vt vks vvs) V → ParsePost s w (.ok (.mk vk vb vn vu vt vks vvs) []) (.returned (.tuple #[V, .int .i64 0, .int .i64 0])) G := fun V hV => ⟨hBf, V, rfl, hV⟩
   simp [Leaves, settle, results, Tryz.results10, go_sem, c0, c1, c2, c3, c4, c5, c6, d1, d2]
   exact hfin _ hJf
  | cons c t =>
   have hlt : (p : Int) < (s.size : Int) := by rw [List.length_cons] at hp; omega
   have HFA := Lib.hid (fail_any (.pointer (some ⟨r, 0, none⟩)) p F)
   have HC := Lib.hid (catch_hit w.heap.size w.heap.size (w.heap.size + 1) (w.heap.size + 1 + 1) 160 p F _ _ _ _ _ _ _ _ _ hF k1 k2 (by omega) (by omega) (by omega) (by omega) (by omega) (by omega))
   have hpe : s.size - (c :: t).length = p := by omega
   clear m0 m1 m2 hr1 hk hJ k1 k2 hrF hF hp
   go_wp2_with fail
   refine HFA.out.mono ?_
   rintro e w3 ⟨hg, hw⟩
   replace hw := hw.symm
   subst hw
   unfold Gives at hg
   subst hg
   dsimp only
   refine leaves_cons (f := 24) (args := #[.pointer (some ⟨w.heap.size, 0, none⟩), .pointer (some ⟨w.heap.size + 1, 0, none⟩), .pointer (some ⟨w.heap.size + 1 + 1, 0, none⟩)]) (by simp) (by simp [go_sem]) ?_
   refine HC.out.mono ?_
   rintro e u' w'' ⟨rfl, rfl, g0, g1, g2, gb⟩
   obtain ⟨c0, c1, c2, c3, c4, c5, c6⟩ := cell_agg7 g0
   have d1 : w''.cell? ⟨w.heap.size + 1, 0, none⟩ = some (.int .i64 160) := by rw [cell_of_row _ _ 0 _ _ _ g1]; rfl
   have d2 : w''.cell? ⟨w.heap.size + 1 + 1, 0, none⟩ = some (.int .i64 (p : Int)) := by rw [cell_of_row _ _ 0 _ _ _ g2]; rfl
   have hfin : ParsePost s w (.ok (.mk vk vb vn vu vt vks vvs) (c :: t)) (.returned (.tuple #[zeroJ, .int .i64 160, .int .i64 (p : Int)])) w'' := ⟨HX.out.1.trans gb, by dsimp only; rw [hpe]⟩
   simp [Leaves, settle, results, Tryz.results10, go_sem, c0, c1, c2, c3, c4, c5, c6, d1, d2]
   exact hfin
end Go.Proofs.YtckaoeloofbklaaGreatDoor
namespace Go.Proofs.YtckaoeloofbklaaGreatDoor
open Go Go.RowKit Go.Lib
structure W1At (w : World) (a : Option Addr) : Prop where
 ex : ∃ (q off c2 q2 off2 : Nat), a = some ⟨q, off, none⟩ ∧ q < w.heap.size ∧ q2 < w.heap.size ∧ w.cell? ⟨q, off + 6, none⟩ = some (.slice (some ⟨q2, off2, none⟩) 4 c2) ∧ w.cell? ⟨q2, off2 + 2, none⟩ = some (.int .i64 1) ∧
  w.cell? ⟨q2, off2 + 10, none⟩ = some (.int .u64 9223372036854775808) ∧ w.cell? ⟨q2, off2 + 25, none⟩ = some (.string ⟨#[195, 169, 240, 159, 152, 128, 239, 191, 189]⟩)
theorem W1At.on {w w' : World} {a : Option Addr} (h : W1At w a) (hb : Below w.heap.size w w') : W1At w' a := by
 obtain ⟨q, off, c2, q2, off2, e, h1, h2, h3, h4, h5, h6⟩ := h.ex
 have k1 : ∀ i, w'.cell? ⟨q, i, none⟩ = w.cell? ⟨q, i, none⟩ := fun i => hb.cell (p := ⟨q, i, none⟩) h1
 have k2 : ∀ i, w'.cell? ⟨q2, i, none⟩ = w.cell? ⟨q2, i, none⟩ := fun i => hb.cell (p := ⟨q2, i, none⟩) h2
 exact ⟨q, off, c2, q2, off2, e, Nat.lt_of_lt_of_le h1 hb.size, Nat.lt_of_lt_of_le h2 hb.size, by rw [k1, h3], by rw [k2, h4], by rw [k2, h5], by rw [k2, h6]⟩
theorem w1_of {ok : Nat → Prop} {w : World} {V : Value} (h : JAt ok w val1 V) : ∃ (ka : Option Addr) (kc : Nat) (a : Option Addr) (c : Nat), V = .agg #[.int .u8 7, .bool false, .int .i64 0, .int .u64 0, .string ⟨#[]⟩, .slice ka 1 kc, .slice a 1 c] ∧ W1At w a := by
 unfold val1 jRec at h
 rw [JAt] at h
 obtain ⟨ka, kc, a, c, rfl, -, hvs, -, -⟩ := h
 refine ⟨ka, kc, a, c, rfl, ?_⟩
 obtain ⟨q, off, rfl, -, hq, hit⟩ := hvs.resolve_left (by simp)
 rw [ItAt] at hit
 obtain ⟨⟨V2, h7, hj⟩, -⟩ := hit
 unfold jList at hj
 rw [JAt] at hj
 obtain ⟨ka2, kc2, a2, c2, rfl, -, hvs2, -, -⟩ := hj
 obtain ⟨q2, off2, rfl, -, hq2, hit2⟩ := hvs2.resolve_left (by simp)
 obtain ⟨x0, x1, x2, x3, x4, x5, x6, hV, d0, d1, d2, d3, d4, d5, d6⟩ := h7
 simp only [Value.agg.injEq, Array.mk.injEq, List.cons.injEq, and_true] at hV
 obtain ⟨rfl, rfl, rfl, rfl, rfl, rfl, rfl⟩ := hV
 obtain ⟨A0, g0, j0⟩ := hit2.get (i := 0) rfl
 obtain ⟨A1, g1, j1⟩ := hit2.get (i := 1) rfl
 obtain ⟨A3, g3, j3⟩ := hit2.get (i := 3) rfl
 unfold jInt at j0
 unfold jFlt at j1
 unfold jStr at j3
 rw [JAt] at j0 j1 j3
 obtain ⟨_, _, _, _, rfl, -⟩ := j0
 obtain ⟨_, _, _, _, rfl, -⟩ := j1
 obtain ⟨_, _, _, _, rfl, -⟩ := j3
 obtain ⟨y0, y1, y2, y3, y4, y5, y6, hY, e0, e1, e2, e3, e4, e5, e6⟩ := g0
 simp only [Value.agg.injEq, Array.mk.injEq, List.cons.injEq, and_true] at hY
 obtain ⟨rfl, rfl, rfl, rfl, rfl, rfl, rfl⟩ := hY
 obtain ⟨y0, y1, y2, y3, y4, y5, y6, hY, f0, f1, f2, f3, f4, f5, f6⟩ := g1
 simp only [Value.agg.injEq, Array.mk.injEq, List.cons.injEq, and_true] at hY
 obtain ⟨rfl, rfl, rfl, rfl, rfl, rfl, rfl⟩ := hY
 obtain ⟨y0, y1, y2, y3, y4, y5, y6, hY, k0, k1, k2, k3, k4, k5, k6⟩ := g3
 simp only [Value.agg.injEq, Array.mk.injEq, List.cons.injEq, and_true] at hY
 obtain ⟨rfl, rfl, rfl, rfl, rfl, rfl, rfl⟩ := hY
 exact ⟨q, off, c2, q2, off2, rfl, hq, hq2, d6, e2, f3, k4⟩
theorem val4_at (w : World) : JAt (fun _ => True) ((w.alloc (.cells #[.string ⟨#[97]⟩] 9)).alloc (.cells #[.int .u8 4, .bool false, .int .i64 0, .int .u64 4617315517961601024, .string ⟨#[]⟩, .slice none 0 0, .slice none 0 0] 27)) val4
  (.agg #[.int .u8 7, .bool false, .int .i64 0, .int .u64 0, .string ⟨#[]⟩, .slice (some ⟨w.heap.size, 0, none⟩) 1 1, .slice (some ⟨w.heap.size + 1, 0, none⟩) 1 1]) := by
 have h1 := heap_alloc_new w (.cells #[.string ⟨#[97]⟩] 9)
 have h2 := heap_alloc_new (w.alloc (.cells #[.string ⟨#[97]⟩] 9)) (.cells #[.int .u8 4, .bool false, .int .i64 0, .int .u64 4617315517961601024, .string ⟨#[]⟩, .slice none 0 0, .slice none 0 0] 27)
 have hs : (w.alloc (.cells #[.string ⟨#[97]⟩] 9)).heap.size = w.heap.size + 1 := by simp
 have h3 := (heapJ_old (w.alloc (.cells #[.string ⟨#[97]⟩] 9)) (.cells #[.int .u8 4, .bool false, .int .i64 0, .int .u64 4617315517961601024, .string ⟨#[]⟩, .slice none 0 0, .slice none 0 0] 27) w.heap.size (by omega)).trans h1
 rw [hs] at h2
 have hl := (Array.getElem?_eq_some_iff.1 h2).1
 unfold val4 jRec jFlt
 rw [JAt]
 refine ⟨_, 1, _, 1, rfl, .inr ⟨w.heap.size, 0, rfl, trivial, by omega, fun j k hj => ?_⟩, .inr ⟨w.heap.size + 1, 0, rfl, trivial, hl, ?_⟩, by decide, by decide⟩
 ·match j, hj with
  | 0, hj =>
   simp at hj; subst hj
   rw [cell_of_row _ _ 0 _ _ _ h3]; rfl
  | j + 1, hj => simp at hj
 ·rw [ItAt, ItAt]
  obtain ⟨c0, c1, c2, c3, c4, c5, c6⟩ := cell_agg7 h2
  exact ⟨⟨_, ⟨_, _, _, _, _, _, _, rfl, c0, c1, c2, c3, c4, c5, c6⟩, atom_at _ _ 4 false 0 4617315517961601024 ⟨#[]⟩⟩, trivial⟩
theorem works_any (K : Nat) (w : World) (hT : Lib.Utf8Tabs 0 1 w) (hG : Globs w) (hGT : GlobT K w) :
  Calls Tryz.prog 7 #[] w fun e w' => e = .returned (.bool true) ∧ Below w.heap.size w w' := by
 have h17 := hG.glob.lt
 have hP1 := parse_json K ⟨txt1.toArray⟩ _ w hT hG hGT (by decide) reads1
 have HP1 := Lib.hid hP1
 have HP2 := Lib.hid (fun (W : World) (hb : Below w.heap.size w W) => parse_json K ⟨txt2.toArray⟩ _ W (utabs_kept hT (hb.mono h17)) (hG.on hb) (hGT.on hb) (by decide) reads2)
 have HP3 := Lib.hid (fun (W : World) (hb : Below w.heap.size w W) => parse_json K ⟨txt3.toArray⟩ _ W (utabs_kept hT (hb.mono h17)) (hG.on hb) (hGT.on hb) (by decide) reads3)
 have HS := Lib.hid (fun (W : World) (V : Value) (hb : Below w.heap.size w W) (hj : JAt (fun _ => True) W val4 V) => showM_any (fun _ => True) val4 V W (hG.on hb) (utabs_kept hT (hb.mono h17)) (Nat.le_trans h17 hb.size) hj
  (.mk (by decide) (by decide) (by intro v hv; simp at hv; subst hv; exact .mk (by decide) (by decide) (by simp))) (.mk (by decide) (by decide) (by decide) (by decide) (by intro v hv; simp at hv; subst hv; exact .mk (by decide) (by decide) (by decide) (by decide) (by simp))) (by decide +kernel) (by decide +kernel))
 have HQ := Lib.hid (fun (W : World) (hb : Below w.heap.size w W) => quote_any ⟨#[60, 47, 10]⟩ W (Nat.le_trans h17 hb.size) (utabs_kept hT (hb.mono h17)) (by decide))
 clear hP1 hT hG hGT
 go_enter Tryz.func7, Tryz.ntmps7
 go_wp2_with fail
 refine HP1.out.mono ?_
 rintro e w1 ⟨hb1, V, rfl, hj1⟩
 obtain ⟨ka, kc, a, c, rfl, hw1⟩ := w1_of hj1
 have hbB : Below w.heap.size w (w1.alloc (.cells #[.int .u8 7, .bool false, .int .i64 0, .int .u64 0, .string ⟨#[]⟩, .slice ka 1 kc, .slice a 1 c] 27)) := hb1.alloc hb1.size _
 have hbx := heap_alloc_new w1 (.cells #[.int .u8 7, .bool false, .int .i64 0, .int .u64 0, .string ⟨#[]⟩, .slice ka 1 kc, .slice a 1 c] 27)
 have HW1 := Lib.hid (hw1.on ((Below.refl _ _).alloc (Nat.le_refl _) (.cells #[.int .u8 7, .bool false, .int .i64 0, .int .u64 0, .string ⟨#[]⟩, .slice ka 1 kc, .slice a 1 c] 27)))
 have HBX := Lib.hid hbx
 have HBB := Lib.hid hbB
 have HPP2 := Lib.hid (HP2.out _ hbB)
 have hl1 := (Array.getElem?_eq_some_iff.1 hbx).1
 clear hbx hbB hw1 hj1 hb1
 go_upto_region 2 with fail
 generalize w1.alloc (.cells #[.int .u8 7, .bool false, .int .i64 0, .int .u64 0, .string ⟨#[]⟩, .slice ka 1 kc, .slice a 1 c] 27) = wB at *
 go_wp2_with fail
 refine HPP2.out.mono ?_
 rintro e w2 ⟨hb2, he2⟩
 have he2 : e = .returned (.tuple #[.agg #[.int .u8 0, .bool false, .int .i64 0, .int .u64 0, .string ⟨#[]⟩, .slice none 0 0, .slice none 0 0], .int .i64 162, .int .i64 7]) := he2
 subst he2
 have hbC : Below wB.heap.size wB (w2.alloc (.cells #[.int .u8 0, .bool false, .int .i64 0, .int .u64 0, .string ⟨#[]⟩, .slice none 0 0, .slice none 0 0] 27)) := hb2.alloc hb2.size _
 have hbD := HBB.out.trans (hbC.mono HBB.out.size)
 have HW2 := Lib.hid (HW1.out.on hbC)
 have HBX2 := Lib.hid ((hbC.block w1.heap.size hl1).trans HBX.out)
 have HPP3 := Lib.hid (HP3.out _ hbD)
 have HBD := Lib.hid hbD
 have hl2 := Nat.lt_of_lt_of_le hl1 hbC.size
 clear hbC hbD hb2 HW1 HBX HBB HPP2
 go_upto_region 3 with fail
 generalize w2.alloc (.cells #[.int .u8 0, .bool false, .int .i64 0, .int .u64 0, .string ⟨#[]⟩, .slice none 0 0, .slice none 0 0] 27) = wC at *
 go_wp2_with fail
 refine HPP3.out.mono ?_
 rintro e w3 ⟨hb3, he3⟩
 have he3 : e = .returned (.tuple #[.agg #[.int .u8 0, .bool false, .int .i64 0, .int .u64 0, .string ⟨#[]⟩, .slice none 0 0, .slice none 0 0], .int .i64 160, .int .i64 3]) := he3
 subst he3
 have hbE : Below wC.heap.size wC (w3.alloc (.cells #[.int .u8 0, .bool false, .int .i64 0, .int .u64 0, .string ⟨#[]⟩, .slice none 0 0, .slice none 0 0] 27)) := hb3.alloc hb3.size _
 have hbF := HBD.out.trans (hbE.mono HBD.out.size)
 have HW3 := Lib.hid (HW2.out.on hbE)
 have HBX3 := Lib.hid ((hbE.block w1.heap.size hl2).trans HBX2.out)
 have HBF := Lib.hid hbF
 have hl3 := Nat.lt_of_lt_of_le hl2 hbE.size
 clear hbE hbF hb3 HW2 HBX2 HBD HPP3 hl1 hl2
 go_upto_region 4 with fail
 generalize w3.alloc (.cells #[.int .u8 0, .bool false, .int .i64 0, .int .u64 0, .string ⟨#[]⟩, .slice none 0 0, .slice none 0 0] 27) = wE at *
 have hal : Below wE.heap.size wE ((wE.alloc (.cells #[.string ⟨#[97]⟩] 9)).alloc (.cells #[.int .u8 4, .bool false, .int .i64 0, .int .u64 4617315517961601024, .string ⟨#[]⟩, .slice none 0 0, .slice none 0 0] 27)) :=
  ((Below.refl _ _).alloc (Nat.le_refl _) _).alloc (by simp) _
 have HSS := Lib.hid (HS.out _ _ (HBF.out.trans (hal.mono HBF.out.size)) (val4_at wE))
 have HAL := Lib.hid hal
 clear hal
 rw [show4] at HSS
 go_wp2_with fail
 refine HSS.out.mono ?_
 rintro e w4 ⟨rfl, hb4⟩
 have hbG := HAL.out.trans (hb4.mono HAL.out.size)
 have HW4 := Lib.hid (HW3.out.on hbG)
 have HBX4 := Lib.hid ((hbG.block w1.heap.size hl3).trans HBX3.out)
 have hbH := HBF.out.trans (hbG.mono HBF.out.size)
 have HQQ := Lib.hid (HQ.out _ hbH)
 rw [quote4] at HQQ
 have HBH := Lib.hid hbH
 have hl4 := Nat.lt_of_lt_of_le hl3 hbG.size
 clear hbG hbH hb4 HW3 HBX3 HBF HSS hl3
 go_wp2_with fail
 refine HQQ.out.mono ?_
 rintro e w5 ⟨rfl, hb5⟩
 have hbx5 := (hb5.block w1.heap.size hl4).trans HBX4.out
 obtain ⟨c0, c1, c2, c3, c4, c5, c6⟩ := cell_agg7 hbx5
 obtain ⟨q, off, cc2, q2, off2, rfl, -, -, d0, d1, d2, d3⟩ := (HW4.out.on hb5).ex
 have HB5 := Lib.hid (HBH.out.trans (hb5.mono HBH.out.size))
 clear hb5 hbx5 HW4 HBX4 HBH
 go_wp2_with fail
 go_ret
 exact ⟨rfl, HB5.out⟩
end Go.Proofs.YtckaoeloofbklaaGreatDoor
namespace Go.Proofs.YtckaoeloofbklaaGreatDoor
open Go Go.RowKit Go.Lib
theorem weighL_snoc : ∀ (l : List JV) (x : JV), JV.weighL (l ++ [x]) = JV.weighL l + x.weigh
 | [], x => by simp [JV.weighL]
 | v :: l, x => by rw [List.cons_append, JV.weighL, JV.weighL, weighL_snoc l x]; omega
def keyS (l : List ByteArray) : Nat := (l.map ByteArray.size).sum
theorem keyS_snoc (l : List ByteArray) (x : ByteArray) : keyS (l ++ [x]) = keyS l + x.size := by simp [keyS]
inductive Loc : JV → Prop
 | mk {k b n u s ks vs} (h1 : s.size ≤ 140737488351232) (h2 : ∀ k ∈ ks, k.size ≤ 140737488351232) (h : ∀ v ∈ vs, Loc v) : Loc (.mk k b n u s ks vs)
def WeighOk (v : JV) : Prop := ∀ (ok : Nat → Prop) (V : Value) (w : World) (most : Nat), JAt ok w v V → Loc v → most ≤ 1125899906842624 →
 Calls Tryz.prog 21 #[V, .int .i64 (most : Int)] w fun e w' => (∃ r : Nat, e = .returned (.int .i64 (r : Int)) ∧ r ≤ most + 200000000000000 ∧ (r ≤ most → r = v.weigh)) ∧ Below w.heap.size w w'
theorem weigh_one (k : Int) (b : Bool) (n u : Int) (s : ByteArray) (ks : List ByteArray) (vs : List JV) (ih : ∀ x ∈ vs, WeighOk x) : WeighOk (.mk k b n u s ks vs) := by
 intro ok V w most hj hw hm
 have hwv : (JV.mk k b n u s ks vs).weigh = 1 + s.size + ks.length + keyS ks + JV.weighL vs := by rw [JV.weigh]; rfl
 rw [hwv]
 obtain ⟨hs0, hkl, hvl⟩ := hw
 rw [JAt] at hj
 obtain ⟨ka, kc, a, c, rfl, hks, hvs, hkn, hvn⟩ := hj
 have hbx := heap_alloc_new w (.cells #[.int .u8 k, .bool b, .int .i64 n, .int .u64 u, .string s, .slice ka ks.length kc, .slice a vs.length c] 27)
 have hbA : Below w.heap.size w (w.alloc (.cells #[.int .u8 k, .bool b, .int .i64 n, .int .u64 u, .string s, .slice ka ks.length kc, .slice a vs.length c] 27)) := (Below.refl _ _).alloc (Nat.le_refl _) _
 have hlA := (Array.getElem?_eq_some_iff.1 hbx).1
 have hbx0 := hbx
 obtain ⟨c0, c1, c2, c3, c4, c5, c6⟩ := cell_agg7 hbx0
 have HBX := Lib.hid hbx
 have HBA := Lib.hid hbA
 have HVS := Lib.hid hvs
 have HKS := Lib.hid hks
 have HIH := Lib.hid ih
 have HKL := Lib.hid hkl
 have HVL := Lib.hid hvl
 clear hbx hbA hvs hks ih hkl hvl hwv hbx0
 go_enter Tryz.func21, Tryz.ntmps21
 go_upto_region 1 with fail
 generalize w.alloc (.cells #[.int .u8 k, .bool b, .int .i64 n, .int .u64 u, .string s, .slice ka ks.length kc, .slice a vs.length c] 27) = wA at *
 go_wp2_with fail
 go_loopg [5, 6] ks.length (fun g s5 s6 wr => wr = wA ∧ ∃ i : Nat, i + g = ks.length ∧ s6 = .int .i64 i ∧ s5 = .int .i64 ((1 + s.size + ks.length + keyS (ks.take i) : Nat) : Int) ∧ 1 + s.size + ks.length + keyS (ks.take i) ≤ most + 200000000000000)
 case atStart => exact ⟨rfl, 0, by omega, rfl, by rw [List.take_zero]; simp [keyS], by rw [List.take_zero]; show _ + 0 ≤ _; omega⟩
 case round =>
  obtain ⟨hwr, i, hi, rfl, rfl, hmb⟩ := hrel
  have hwr2 := hwr.symm
  subst hwr2
  obtain ⟨m, hmm⟩ : ∃ m, m = 1 + s.size + ks.length + keyS (ks.take i) := ⟨_, rfl⟩
  have HM := Lib.hid hmm
  rw [← hmm] at hmb ⊢
  clear hmm
  by_cases hlt : i < ks.length ∧ m ≤ most
  ·obtain ⟨hlt, hle⟩ := hlt
   obtain ⟨x, hx⟩ : ∃ x, ks[i]? = some x := ⟨_, List.getElem?_eq_getElem hlt⟩
   obtain ⟨kb, ko, ha, -, hkb, hkc⟩ := HKS.out.resolve_left (by rintro rfl; simp at hlt)
   have f0 : wA.cell? ⟨kb, ko + i, none⟩ = some (.string x) := by rw [HBA.out.cell (p := ⟨kb, ko + i, none⟩) hkb]; exact hkc i x hx
   have htk : ks.take (i + 1) = ks.take i ++ [x] := by rw [List.take_add_one, hx]; rfl
   have hk1 := keyS_snoc (ks.take i) x
   rw [← htk] at hk1
   have hxs := HKL.out x (List.mem_of_getElem? hx)
   have HK1 := Lib.hid hk1
   have hle2 : (m : Int) ≤ (most : Int) := by omega
   subst ha
   clear hkc HKS htk hk1 hx
   go_wp2_with fail
   go_roundg (gk - 1)
   case measure => omega
   case rel => exact ⟨rfl, i + 1, by omega, by go_num, by rw [HK1.out, HM.out]; simp; omega, by rw [HK1.out]; have := HM.out; omega⟩
  ·rcases Nat.lt_or_ge i ks.length with hik | hik
   ·have hmo : ¬ (m : Int) ≤ (most : Int) := by omega
    clear hlt
    go_wp2_with fail
    go_loopg [5, 7] vs.length (fun g s5 s7 w9w => ∃ (j r : Nat), j + g = vs.length ∧ s7 = .int .i64 j ∧ s5 = .int .i64 r ∧ m ≤ r ∧ r ≤ most + 200000000000000 ∧ (r ≤ most → i = ks.length ∧ r = m + JV.weighL (vs.take j)) ∧ Below wA.heap.size wA w9w)
    case atStart => exact ⟨0, m, by omega, rfl, rfl, Nat.le_refl _, hmb, fun h => ⟨by omega, by rw [List.take_zero]; simp [JV.weighL]⟩, Below.refl _ _⟩
    case round =>
     obtain ⟨j, r, hj, rfl, rfl, hmr, hrb, hr2, hbq⟩ := hrel
     have hbxq := (hbq.block w.heap.size hlA).trans HBX.out
     obtain ⟨c0, c1, c2, c3, c4, c5, c6⟩ := cell_agg7 hbxq
     have HR2 := Lib.hid hr2
     have HBQ := Lib.hid hbq
     clear hr2 hbq hbxq
     rcases Nat.lt_or_ge j vs.length with hjv | hjv
     ·rcases Nat.lt_or_ge most r with hrm | hrm
      ·have hrm2 : ¬ (r : Int) ≤ (most : Int) := by omega
       go_wp2_with fail
       go_ret
       exact ⟨⟨r, rfl, hrb, fun h => by omega⟩, HBA.out.trans (HBQ.out.mono HBA.out.size)⟩
      ·exfalso; omega
     ·obtain rfl : j = vs.length := by omega
      go_wp2_with fail
      go_ret
      refine ⟨⟨r, rfl, hrb, fun h => ?_⟩, HBA.out.trans (HBQ.out.mono HBA.out.size)⟩
      ·obtain ⟨h1, h2⟩ := HR2.out h
       have h3 := HM.out
       rw [h1, List.take_length] at h3
       rw [List.take_length] at h2
       omega
   ·clear hlt
    go_wp2_with fail
    go_loopg [5, 7] vs.length (fun g s5 s7 w9w => ∃ (j r : Nat), j + g = vs.length ∧ s7 = .int .i64 j ∧ s5 = .int .i64 r ∧ m ≤ r ∧ r ≤ most + 200000000000000 ∧ (r ≤ most → i = ks.length ∧ r = m + JV.weighL (vs.take j)) ∧ Below wA.heap.size wA w9w)
    case atStart => exact ⟨0, m, by omega, rfl, rfl, Nat.le_refl _, hmb, fun h => ⟨by omega, by rw [List.take_zero]; simp [JV.weighL]⟩, Below.refl _ _⟩
    case round =>
     obtain ⟨j, r, hj, rfl, rfl, hmr, hrb, hr2, hbq⟩ := hrel
     have hbxq := (hbq.block w.heap.size hlA).trans HBX.out
     obtain ⟨c0, c1, c2, c3, c4, c5, c6⟩ := cell_agg7 hbxq
     have HR2 := Lib.hid hr2
     have HBQ := Lib.hid hbq
     clear hr2 hbq hbxq
     rcases Nat.lt_or_ge j vs.length with hjv | hjv
     ·rcases Nat.lt_or_ge most r with hrm | hrm
      ·have hrm2 : ¬ (r : Int) ≤ (most : Int) := by omega
       go_wp2_with fail
       go_ret
       exact ⟨⟨r, rfl, hrb, fun h => by omega⟩, HBA.out.trans (HBQ.out.mono HBA.out.size)⟩
      ·obtain ⟨x, hx⟩ : ∃ x, vs[j]? = some x := ⟨_, List.getElem?_eq_getElem hjv⟩
       obtain ⟨q, off, ha, hq, hqw, hit⟩ := HVS.out.resolve_left (by rintro rfl; simp at hjv)
       obtain ⟨V, h7, hja⟩ := hit.get hx
       obtain ⟨xk, xb, xn, xu, xs, xa, xm, xc, xa2, xm2, xc2, rfl, d0, d1, d2, d3, d4, d5, d6⟩ := it_cells h7 hja
       have hbw := HBA.out.trans (HBQ.out.mono HBA.out.size)
       have hkq : ∀ i : Nat, wr.cell? ⟨q, i, none⟩ = w.cell? ⟨q, i, none⟩ := fun i => hbw.cell (p := ⟨q, i, none⟩) hqw
       rw [← hkq, Nat.mul_comm 7 j] at d0 d1 d2 d3 d4 d5 d6
       have htk : vs.take (j + 1) = vs.take j ++ [x] := by rw [List.take_add_one, hx]; rfl
       have hk1 := weighL_snoc (vs.take j) x
       rw [← htk] at hk1
       obtain ⟨d, hd⟩ : ∃ d : Nat, d = most - r := ⟨_, rfl⟩
       have hJ := HIH.out x (List.mem_of_getElem? hx) (fun _ => True) _ wr d (hja.kept (fun i hi hi2 => ⟨hbw.block i hi2, trivial⟩)) (HVL.out x (List.mem_of_getElem? hx)) (by omega)
       rw [show ((d : Nat) : Int) = (most : Int) - (r : Int) by omega] at hJ
       have HJ := Lib.hid hJ
       have HK1 := Lib.hid hk1
       have hrm2 : (r : Int) ≤ (most : Int) := by omega
       have HD := Lib.hid hd
       subst ha
       clear hit h7 hja hkq HVS hx htk hk1 hJ hbw hd
       go_wp2_with fail
       refine HJ.out.mono ?_
       rintro e w9 ⟨⟨z, rfl, hz1, hz2⟩, hb9⟩
       have hzb : r + z ≤ most + 200000000000000 := by have := HD.out; omega
       have HZ := Lib.hid hz2
       have HB9 := Lib.hid (HBQ.out.trans (hb9.mono HBQ.out.size))
       clear hz1 hz2 hb9 c0 c1 c2 c3 c4 c5 c6 d0 d1 d2 d3 d4 d5 d6
       go_wp2_with fail
       go_roundg (gk - 1)
       case measure => omega
       case rel =>
        refine ⟨j + 1, r + z, by omega, by go_num, by go_num, by omega, hzb, fun h => ?_, HB9.out⟩
        ·have h1 := HR2.out hrm
         have h2 := HZ.out (by have := HD.out; omega)
         rw [HK1.out]
         exact ⟨h1.1, by omega⟩
     ·obtain rfl : j = vs.length := by omega
      go_wp2_with fail
      go_ret
      refine ⟨⟨r, rfl, hrb, fun h => ?_⟩, HBA.out.trans (HBQ.out.mono HBA.out.size)⟩
      ·obtain ⟨h1, h2⟩ := HR2.out h
       have h3 := HM.out
       rw [h1, List.take_length] at h3
       rw [List.take_length] at h2
       omega
theorem weigh_any : ∀ v, WeighOk v := JV.ind fun k b n u s ks vs ih => weigh_one k b n u s ks vs ih
theorem far_any (ok : Nat → Prop) (v : JV) (V : Value) (w : World) (h : JAt ok w v V) (hw : Loc v) :
  Calls Tryz.prog 8 #[V] w fun e w' => (∃ z : Bool, e = .returned (.bool z) ∧ (z = false → v.weigh ≤ 8192)) ∧ Below w.heap.size w w' := by
 have hjk := fun (W : World) (hW : Below w.heap.size w W) => h.kept (ok' := fun _ => True) (fun i _ hi => ⟨hW.block i hi, trivial⟩)
 obtain ⟨k, b, n, u, s, ks, vs⟩ := v
 have h0 := h
 rw [JAt] at h0
 obtain ⟨ka, kc, a, c, rfl, -⟩ := h0
 have hbx := heap_alloc_new w (.cells #[.int .u8 k, .bool b, .int .i64 n, .int .u64 u, .string s, .slice ka ks.length kc, .slice a vs.length c] 27)
 have hbA : Below w.heap.size w (w.alloc (.cells #[.int .u8 k, .bool b, .int .i64 n, .int .u64 u, .string s, .slice ka ks.length kc, .slice a vs.length c] 27)) := (Below.refl _ _).alloc (Nat.le_refl _) _
 obtain ⟨c0, c1, c2, c3, c4, c5, c6⟩ := cell_agg7 hbx
 have HL := Lib.hid (weigh_any _ _ _ _ 8192 (hjk _ hbA) hw (by decide))
 have HBA := Lib.hid hbA
 clear hbx hbA h hjk
 generalize JV.mk k b n u s ks vs = v at *
 go_enter Tryz.func8, Tryz.ntmps8
 go_wp2_with fail
 refine HL.out.mono ?_
 rintro e w1 ⟨⟨r, rfl, h1, h2⟩, hb1⟩
 have HB1 := Lib.hid (HBA.out.trans (hb1.mono HBA.out.size))
 have H2 := Lib.hid h2
 clear hb1 c0 c1 c2 c3 c4 c5 c6 h1 h2
 by_cases h8 : 8192 < r
 ·go_wp2_with fail
  go_ret
  exact ⟨⟨_, rfl, fun h => absurd h (by simp; omega)⟩, HB1.out⟩
 ·go_wp2_with fail
  go_ret
  exact ⟨⟨_, rfl, fun _ => by have := H2.out (by omega); omega⟩, HB1.out⟩
end Go.Proofs.YtckaoeloofbklaaGreatDoor
namespace Go.Proofs.YtckaoeloofbklaaGreatDoor
open Go Go.RowKit Go.Lib
theorem shows_walk (ok ok' : Nat → Prop) (v v' : JV) (V V' : Value) (S : ByteArray) (K : Nat) (w : World) (hT : Lib.Utf8Tabs 0 1 w) (hG : Globs w) (hGT : GlobT K w) (h : JAt ok w v V) (h' : JAt ok' w v' V') (hk : KOk v) (hr : Rng v) (hw : Loc v) (hw' : Loc v') (hs : S.size ≤ 9223372036854775807) :
  Calls Tryz.prog 4 #[V, V', .string S] w fun e w' => e = .returned (.bool true) ∧ Below w.heap.size w w' := by
 have h17 := hG.glob.lt
 have hjk := fun (W : World) (hW : Below w.heap.size w W) => h.kept (ok' := fun _ => True) (fun i _ hi => ⟨hW.block i hi, trivial⟩)
 have hjk' := fun (W : World) (hW : Below w.heap.size w W) => h'.kept (ok' := fun _ => True) (fun i _ hi => ⟨hW.block i hi, trivial⟩)
 have HW := Lib.hid (fun (W : World) (hb : Below w.heap.size w W) => works_any K W (utabs_kept hT (hb.mono h17)) (hG.on hb) (hGT.on hb))
 have HF := Lib.hid (fun (W : World) (hb : Below w.heap.size w W) => far_any (fun _ => True) v V W (hjk W hb) hw)
 have HF' := Lib.hid (fun (W : World) (hb : Below w.heap.size w W) => far_any (fun _ => True) v' V' W (hjk' W hb) hw')
 have HCP := Lib.hid (fun (W : World) (hb : Below w.heap.size w W) (h8 : v.weigh ≤ 8192) => copy_any v (fun _ => True) V W (hjk W hb) (by omega))
 have HRC := Lib.hid (fun (W : World) (hb : Below w.heap.size w W) (h8 : v.weigh ≤ 8192) => rcheck_any (fun _ => True) v V W (hjk W hb) hk (by omega))
 have HRS := Lib.hid (fun (W : World) (hb : Below w.heap.size w W) (h8 : v.weigh ≤ 8192) => rshowM_any (fun _ => True) v V W (hjk W hb) hk hr (by omega))
 have HSV := Lib.hid (fun (W : World) (hb : Below w.heap.size w W) => same_any v v' (fun _ => True) (fun _ => True) V V' W (hjk W hb) (hjk' W hb))
 have HQ := Lib.hid (fun (W : World) (hb : Below w.heap.size w W) (h8 : S.size ≤ 8192) => quote_any S W (Nat.le_trans h17 hb.size) (utabs_kept hT (hb.mono h17)) (by omega))
 have HQR := Lib.hid (fun (W : World) (h8 : S.size ≤ 8192) => quoteR_any S W (by omega))
 have HCC := Lib.hid (fun (V2 : Value) (W1 : World) (hb1 : Below w.heap.size w W1) (hj : JAt (fun _ => True) W1 v V2) (h8 : v.weigh ≤ 8192) (W : World) (hb : Below W1.heap.size W1 W) => check_any (fun _ => True) v V2 W (hj.kept (fun i _ hi => ⟨hb.block i hi, trivial⟩)) hk (by omega))
 have HCS := Lib.hid (fun (V2 : Value) (W1 : World) (hb1 : Below w.heap.size w W1) (hj : JAt (fun _ => True) W1 v V2) (h8 : v.weigh ≤ 8192) (W : World) (hb : Below W1.heap.size W1 W) => showM_any (fun _ => True) v V2 W (hG.on (hb1.trans (hb.mono hb1.size))) (utabs_kept hT ((hb1.trans (hb.mono hb1.size)).mono h17)) (Nat.le_trans h17 (hb1.trans (hb.mono hb1.size)).size) (hj.kept (fun i _ hi => ⟨hb.block i hi, trivial⟩)) hk hr (by omega) (by have := show_len v hr; omega))
 have HCJ := Lib.hid (fun (V2 : Value) (W1 : World) (hb1 : Below w.heap.size w W1) (hj : JAt (fun _ => True) W1 v V2) (W : World) (hb : Below W1.heap.size W1 W) => jsame_any v v' (fun _ => True) (fun _ => True) V2 V' W (hj.kept (fun i _ hi => ⟨hb.block i hi, trivial⟩)) (hjk' W (hb1.trans (hb.mono hb1.size))))
 have HCK := Lib.hid (fun (V2 : Value) (W1 : World) (_hb1 : Below w.heap.size w W1) (hj : JAt (fun _ => True) W1 v V2) (W : World) (hb : Below W1.heap.size W1 W) => jsame_any v v (fun _ => True) (fun _ => True) V2 V2 W (hj.kept (fun i _ hi => ⟨hb.block i hi, trivial⟩)) (hj.kept (fun i _ hi => ⟨hb.block i hi, trivial⟩)))
 have HCV := Lib.hid (fun (V2 : Value) (W1 : World) (hb1 : Below w.heap.size w W1) (hj : JAt (fun _ => True) W1 v V2) (W : World) (hb : Below W1.heap.size W1 W) => same_any v v (fun _ => True) (fun _ => True) V2 V W (hj.kept (fun i _ hi => ⟨hb.block i hi, trivial⟩)) (hjk W (hb1.trans (hb.mono hb1.size))))
 obtain ⟨k, b, n, u, s, ka, kn, kc, a, an, c, rfl⟩ := jat_form h
 obtain ⟨k', b', n', u', s', ka', kn', kc', a', an', c', rfl⟩ := jat_form h'
 rw [JV.same_self v] at HCK HCV
 have hx1 := heap_alloc_new w (.cells #[.int .u8 k, .bool b, .int .i64 n, .int .u64 u, .string s, .slice ka kn kc, .slice a an c] 27)
 have hs1 : (w.alloc (.cells #[.int .u8 k, .bool b, .int .i64 n, .int .u64 u, .string s, .slice ka kn kc, .slice a an c] 27)).heap.size = w.heap.size + 1 := by simp
 have hx0 := (heapJ_old (w.alloc (.cells #[.int .u8 k, .bool b, .int .i64 n, .int .u64 u, .string s, .slice ka kn kc, .slice a an c] 27)) (.cells #[.int .u8 k', .bool b', .int .i64 n', .int .u64 u', .string s', .slice ka' kn' kc', .slice a' an' c'] 27) w.heap.size (by omega)).trans hx1
 have hy0 := heap_alloc_new (w.alloc (.cells #[.int .u8 k, .bool b, .int .i64 n, .int .u64 u, .string s, .slice ka kn kc, .slice a an c] 27)) (.cells #[.int .u8 k', .bool b', .int .i64 n', .int .u64 u', .string s', .slice ka' kn' kc', .slice a' an' c'] 27)
 rw [hs1] at hy0
 have hbA : Below w.heap.size w ((w.alloc (.cells #[.int .u8 k, .bool b, .int .i64 n, .int .u64 u, .string s, .slice ka kn kc, .slice a an c] 27)).alloc (.cells #[.int .u8 k', .bool b', .int .i64 n', .int .u64 u', .string s', .slice ka' kn' kc', .slice a' an' c'] 27)) := ((Below.refl _ _).alloc (Nat.le_refl _) _).alloc (by omega) _
 have lx0 := (Array.getElem?_eq_some_iff.1 hx0).1
 have ly0 := (Array.getElem?_eq_some_iff.1 hy0).1
 obtain ⟨c0, c1, c2, c3, c4, c5, c6⟩ := cell_agg7 hx0
 obtain ⟨e0, e1, e2, e3, e4, e5, e6⟩ := cell_agg7 hy0
 have HX0 := Lib.hid hx0
 have HY0 := Lib.hid hy0
 have HB0 := Lib.hid hbA
 have HW0 := Lib.hid (HW.out _ hbA)
 have hck : ∃ z, v.check = z := ⟨_, rfl⟩
 obtain ⟨z, hz⟩ := hck
 have hsr : showR v = .tuple #[.string (if v.check = 0 then ⟨(shJ v).toArray⟩ else ⟨#[]⟩), .int .i64 v.check] := rfl
 rw [hz] at HRC HCC hsr
 generalize (if z = 0 then (⟨(shJ v).toArray⟩ : ByteArray) else ⟨#[]⟩) = R at *
 rw [hsr] at HRS HCS
 generalize hq : quoL S.data.toList = QQ at *
 generalize JV.same v v' = E at *
 clear hx1 hx0 hy0 hbA hs1 h h' hjk hjk' hk hr hw hw' hT hG hGT hz hsr HW hq
 go_enter Tryz.func4, Tryz.ntmps4
 go_upto_region 1 with fail
 generalize (w.alloc (.cells #[.int .u8 k, .bool b, .int .i64 n, .int .u64 u, .string s, .slice ka kn kc, .slice a an c] 27)).alloc (.cells #[.int .u8 k', .bool b', .int .i64 n', .int .u64 u', .string s', .slice ka' kn' kc', .slice a' an' c'] 27) = wA at *
 go_wp2_with fail
 refine HW0.out.mono ?_
 rintro e w1 ⟨rfl, hb1⟩
 have hx1 := (hb1.block _ lx0).trans HX0.out
 have lx1 := (Array.getElem?_eq_some_iff.1 hx1).1
 have hy1 := (hb1.block _ ly0).trans HY0.out
 have ly1 := (Array.getElem?_eq_some_iff.1 hy1).1
 clear c0 c1 c2 c3 c4 c5 c6 e0 e1 e2 e3 e4 e5 e6
 obtain ⟨c0, c1, c2, c3, c4, c5, c6⟩ := cell_agg7 hx1
 obtain ⟨e0, e1, e2, e3, e4, e5, e6⟩ := cell_agg7 hy1
 have HX1 := Lib.hid hx1
 have HY1 := Lib.hid hy1
 have HB1 := Lib.hid (HB0.out.trans (hb1.mono HB0.out.size))
 clear HW0 hb1 hx1 HX0 lx0 hy1 HY0 ly0
 have HF0 := Lib.hid (HF.out _ HB1.out)
 clear HF
 go_wp2_with fail
 refine HF0.out.mono ?_
 rintro e w2 ⟨⟨z1, rfl, hz1⟩, hb2⟩
 have hx2 := (hb2.block _ lx1).trans HX1.out
 have lx2 := (Array.getElem?_eq_some_iff.1 hx2).1
 have hy2 := (hb2.block _ ly1).trans HY1.out
 have ly2 := (Array.getElem?_eq_some_iff.1 hy2).1
 clear c0 c1 c2 c3 c4 c5 c6 e0 e1 e2 e3 e4 e5 e6
 obtain ⟨c0, c1, c2, c3, c4, c5, c6⟩ := cell_agg7 hx2
 obtain ⟨e0, e1, e2, e3, e4, e5, e6⟩ := cell_agg7 hy2
 have HX2 := Lib.hid hx2
 have HY2 := Lib.hid hy2
 have HB2 := Lib.hid (HB1.out.trans (hb2.mono HB1.out.size))
 clear HF0 hb2 hx2 HX1 lx1 hy2 HY1 ly1
 have HF1 := Lib.hid (HF'.out _ HB2.out)
 have HZ1 := Lib.hid hz1
 clear HF' hz1
 go_wp2_with fail
 refine HF1.out.mono ?_
 rintro e w3 ⟨⟨z2, rfl, _⟩, hb3⟩
 have hx3 := (hb3.block _ lx2).trans HX2.out
 have lx3 := (Array.getElem?_eq_some_iff.1 hx3).1
 have hy3 := (hb3.block _ ly2).trans HY2.out
 have ly3 := (Array.getElem?_eq_some_iff.1 hy3).1
 clear c0 c1 c2 c3 c4 c5 c6 e0 e1 e2 e3 e4 e5 e6
 obtain ⟨c0, c1, c2, c3, c4, c5, c6⟩ := cell_agg7 hx3
 obtain ⟨e0, e1, e2, e3, e4, e5, e6⟩ := cell_agg7 hy3
 have HX3 := Lib.hid hx3
 have HY3 := Lib.hid hy3
 have HB3 := Lib.hid (HB2.out.trans (hb3.mono HB2.out.size))
 clear HF1 hb3 hx3 HX2 lx2 hy3 HY2 ly2
 cases z1 with
 | true =>
  go_wp2_with fail
  go_ret
  exact ⟨rfl, HB3.out⟩
 | false =>
 cases z2 with
 | true =>
  go_wp2_with fail
  go_ret
  exact ⟨rfl, HB3.out⟩
 | false =>
 by_cases h8 : 8192 < S.size
 ·go_wp2_with fail
  go_ret
  exact ⟨rfl, HB3.out⟩
 have h9 := HZ1.out rfl
 have h7 : S.size ≤ 8192 := by omega
 have HCP0 := Lib.hid (HCP.out _ HB3.out h9)
 clear HCP HZ1
 go_wp2_with fail
 refine HCP0.out.mono ?_
 rintro e w4 ⟨V2, rfl, hJ2, hb4⟩
 have hx4 := (hb4.block _ lx3).trans HX3.out
 have lx4 := (Array.getElem?_eq_some_iff.1 hx4).1
 have hy4 := (hb4.block _ ly3).trans HY3.out
 have ly4 := (Array.getElem?_eq_some_iff.1 hy4).1
 clear c0 c1 c2 c3 c4 c5 c6 e0 e1 e2 e3 e4 e5 e6
 obtain ⟨c0, c1, c2, c3, c4, c5, c6⟩ := cell_agg7 hx4
 obtain ⟨e0, e1, e2, e3, e4, e5, e6⟩ := cell_agg7 hy4
 have HX4 := Lib.hid hx4
 have HY4 := Lib.hid hy4
 have HB4 := Lib.hid (HB3.out.trans (hb4.mono HB3.out.size))
 clear HCP0 hb4 hx4 HX3 lx3 hy4 HY3 ly3
 obtain ⟨k₂, b₂, n₂, u₂, s₂, ka₂, kn₂, kc₂, a₂, an₂, c₂, rfl⟩ := jat_form hJ2
 have hx5 := (heapJ_old w4 (.cells #[.int .u8 k₂, .bool b₂, .int .i64 n₂, .int .u64 u₂, .string s₂, .slice ka₂ kn₂ kc₂, .slice a₂ an₂ c₂] 27) w.heap.size lx4).trans HX4.out
 have hy5 := (heapJ_old w4 (.cells #[.int .u8 k₂, .bool b₂, .int .i64 n₂, .int .u64 u₂, .string s₂, .slice ka₂ kn₂ kc₂, .slice a₂ an₂ c₂] 27) (w.heap.size + 1) ly4).trans HY4.out
 have hz5 := heap_alloc_new w4 (.cells #[.int .u8 k₂, .bool b₂, .int .i64 n₂, .int .u64 u₂, .string s₂, .slice ka₂ kn₂ kc₂, .slice a₂ an₂ c₂] 27)
 have hB5 : Below w.heap.size w (w4.alloc (.cells #[.int .u8 k₂, .bool b₂, .int .i64 n₂, .int .u64 u₂, .string s₂, .slice ka₂ kn₂ kc₂, .slice a₂ an₂ c₂] 27)) := HB4.out.alloc HB4.out.size _
 have hJ5 : JAt (fun _ => True) (w4.alloc (.cells #[.int .u8 k₂, .bool b₂, .int .i64 n₂, .int .u64 u₂, .string s₂, .slice ka₂ kn₂ kc₂, .slice a₂ an₂ c₂] 27)) v (.agg #[.int .u8 k₂, .bool b₂, .int .i64 n₂, .int .u64 u₂, .string s₂, .slice ka₂ kn₂ kc₂, .slice a₂ an₂ c₂]) := hJ2.kept (fun i _ hi => ⟨heapJ_old _ _ _ hi, trivial⟩)
 have HC0 := Lib.hid (HCC.out _ _ hB5 hJ5 h9)
 have HC1 := Lib.hid (HCS.out _ _ hB5 hJ5 h9)
 have HC2 := Lib.hid (HCJ.out _ _ hB5 hJ5)
 have HC3 := Lib.hid (HCK.out _ _ hB5 hJ5)
 have HC4 := Lib.hid (HCV.out _ _ hB5 hJ5)
 have hBC : Below (w4.alloc (.cells #[.int .u8 k₂, .bool b₂, .int .i64 n₂, .int .u64 u₂, .string s₂, .slice ka₂ kn₂ kc₂, .slice a₂ an₂ c₂] 27)).heap.size (w4.alloc (.cells #[.int .u8 k₂, .bool b₂, .int .i64 n₂, .int .u64 u₂, .string s₂, .slice ka₂ kn₂ kc₂, .slice a₂ an₂ c₂] 27)) (w4.alloc (.cells #[.int .u8 k₂, .bool b₂, .int .i64 n₂, .int .u64 u₂, .string s₂, .slice ka₂ kn₂ kc₂, .slice a₂ an₂ c₂] 27)) := Below.refl _ _
 clear hJ2 hJ5 HCC HCS HCJ HCK HCV
 go_upto_region 9 with fail
 obtain ⟨cb, hcb⟩ : ∃ cb, cb = w4.heap.size := ⟨_, rfl⟩
 rw [← hcb] at hz5 ⊢
 generalize w4.alloc (.cells #[.int .u8 k₂, .bool b₂, .int .i64 n₂, .int .u64 u₂, .string s₂, .slice ka₂ kn₂ kc₂, .slice a₂ an₂ c₂] 27) = w5 at *
 clear c0 c1 c2 c3 c4 c5 c6 e0 e1 e2 e3 e4 e5 e6 hcb HX4 HY4 HB4 lx4 ly4
 obtain ⟨c0, c1, c2, c3, c4, c5, c6⟩ := cell_agg7 hx5
 obtain ⟨e0, e1, e2, e3, e4, e5, e6⟩ := cell_agg7 hy5
 obtain ⟨f0, f1, f2, f3, f4, f5, f6⟩ := cell_agg7 hz5
 have lx5 := (Array.getElem?_eq_some_iff.1 hx5).1
 have ly5 := (Array.getElem?_eq_some_iff.1 hy5).1
 have lz5 := (Array.getElem?_eq_some_iff.1 hz5).1
 have HX5 := Lib.hid hx5
 have HY5 := Lib.hid hy5
 have HZ5 := Lib.hid hz5
 have HB5 := Lib.hid hB5
 have HC5 := Lib.hid hBC
 have HK5 := Lib.hid (HC0.out _ hBC)
 clear hx5 hy5 hz5 hB5 hBC HC0
 go_wp2_with fail
 refine HK5.out.mono ?_
 rintro e w6 ⟨rfl, hb6⟩
 have hx6 := (hb6.block _ lx5).trans HX5.out
 have lx6 := (Array.getElem?_eq_some_iff.1 hx6).1
 have hy6 := (hb6.block _ ly5).trans HY5.out
 have ly6 := (Array.getElem?_eq_some_iff.1 hy6).1
 have hz6 := (hb6.block _ lz5).trans HZ5.out
 have lz6 := (Array.getElem?_eq_some_iff.1 hz6).1
 clear c0 c1 c2 c3 c4 c5 c6 e0 e1 e2 e3 e4 e5 e6 f0 f1 f2 f3 f4 f5 f6
 obtain ⟨c0, c1, c2, c3, c4, c5, c6⟩ := cell_agg7 hx6
 obtain ⟨e0, e1, e2, e3, e4, e5, e6⟩ := cell_agg7 hy6
 obtain ⟨f0, f1, f2, f3, f4, f5, f6⟩ := cell_agg7 hz6
 have HX6 := Lib.hid hx6
 have HY6 := Lib.hid hy6
 have HZ6 := Lib.hid hz6
 have HB6 := Lib.hid (HB5.out.trans (hb6.mono HB5.out.size))
 have HC6 := Lib.hid (HC5.out.trans (hb6.mono HC5.out.size))
 clear HK5 hb6 hx6 HX5 lx5 hy6 HY5 ly5 hz6 HZ5 lz5
 have HK6 := Lib.hid (HC1.out _ HC6.out)
 clear HC1
 go_wp2_with fail
 refine HK6.out.mono ?_
 rintro e w7 ⟨rfl, hb7⟩
 have hx7 := (hb7.block _ lx6).trans HX6.out
 have lx7 := (Array.getElem?_eq_some_iff.1 hx7).1
 have hy7 := (hb7.block _ ly6).trans HY6.out
 have ly7 := (Array.getElem?_eq_some_iff.1 hy7).1
 have hz7 := (hb7.block _ lz6).trans HZ6.out
 have lz7 := (Array.getElem?_eq_some_iff.1 hz7).1
 clear c0 c1 c2 c3 c4 c5 c6 e0 e1 e2 e3 e4 e5 e6 f0 f1 f2 f3 f4 f5 f6
 obtain ⟨c0, c1, c2, c3, c4, c5, c6⟩ := cell_agg7 hx7
 obtain ⟨e0, e1, e2, e3, e4, e5, e6⟩ := cell_agg7 hy7
 obtain ⟨f0, f1, f2, f3, f4, f5, f6⟩ := cell_agg7 hz7
 have HX7 := Lib.hid hx7
 have HY7 := Lib.hid hy7
 have HZ7 := Lib.hid hz7
 have HB7 := Lib.hid (HB6.out.trans (hb7.mono HB6.out.size))
 have HC7 := Lib.hid (HC6.out.trans (hb7.mono HC6.out.size))
 clear HK6 hb7 hx7 HX6 lx6 hy7 HY6 ly6 hz7 HZ6 lz6
 have HK7 := Lib.hid (HC2.out _ HC7.out)
 clear HC2
 go_wp2_with fail
 refine HK7.out.mono ?_
 rintro e w8 ⟨rfl, hb8⟩
 have hx8 := (hb8.block _ lx7).trans HX7.out
 have lx8 := (Array.getElem?_eq_some_iff.1 hx8).1
 have hy8 := (hb8.block _ ly7).trans HY7.out
 have ly8 := (Array.getElem?_eq_some_iff.1 hy8).1
 have hz8 := (hb8.block _ lz7).trans HZ7.out
 have lz8 := (Array.getElem?_eq_some_iff.1 hz8).1
 clear c0 c1 c2 c3 c4 c5 c6 e0 e1 e2 e3 e4 e5 e6 f0 f1 f2 f3 f4 f5 f6
 obtain ⟨c0, c1, c2, c3, c4, c5, c6⟩ := cell_agg7 hx8
 obtain ⟨e0, e1, e2, e3, e4, e5, e6⟩ := cell_agg7 hy8
 obtain ⟨f0, f1, f2, f3, f4, f5, f6⟩ := cell_agg7 hz8
 have HX8 := Lib.hid hx8
 have HY8 := Lib.hid hy8
 have HZ8 := Lib.hid hz8
 have HB8 := Lib.hid (HB7.out.trans (hb8.mono HB7.out.size))
 have HC8 := Lib.hid (HC7.out.trans (hb8.mono HC7.out.size))
 clear HK7 hb8 hx8 HX7 lx7 hy8 HY7 ly7 hz8 HZ7 lz7
 have HK8 := Lib.hid (HC3.out _ HC8.out)
 clear HC3
 go_wp2_with fail
 refine HK8.out.mono ?_
 rintro e w9 ⟨rfl, hb9⟩
 have hx9 := (hb9.block _ lx8).trans HX8.out
 have lx9 := (Array.getElem?_eq_some_iff.1 hx9).1
 have hy9 := (hb9.block _ ly8).trans HY8.out
 have ly9 := (Array.getElem?_eq_some_iff.1 hy9).1
 have hz9 := (hb9.block _ lz8).trans HZ8.out
 have lz9 := (Array.getElem?_eq_some_iff.1 hz9).1
 clear c0 c1 c2 c3 c4 c5 c6 e0 e1 e2 e3 e4 e5 e6 f0 f1 f2 f3 f4 f5 f6
 obtain ⟨c0, c1, c2, c3, c4, c5, c6⟩ := cell_agg7 hx9
 obtain ⟨e0, e1, e2, e3, e4, e5, e6⟩ := cell_agg7 hy9
 obtain ⟨f0, f1, f2, f3, f4, f5, f6⟩ := cell_agg7 hz9
 have HX9 := Lib.hid hx9
 have HY9 := Lib.hid hy9
 have HZ9 := Lib.hid hz9
 have HB9 := Lib.hid (HB8.out.trans (hb9.mono HB8.out.size))
 have HC9 := Lib.hid (HC8.out.trans (hb9.mono HC8.out.size))
 clear HK8 hb9 hx9 HX8 lx8 hy9 HY8 ly8 hz9 HZ8 lz8
 have HK9 := Lib.hid (HRS.out _ HB9.out h9)
 clear HRS
 go_wp2_with fail
 refine HK9.out.mono ?_
 rintro e w10 ⟨rfl, hb10⟩
 have hx10 := (hb10.block _ lx9).trans HX9.out
 have lx10 := (Array.getElem?_eq_some_iff.1 hx10).1
 have hy10 := (hb10.block _ ly9).trans HY9.out
 have ly10 := (Array.getElem?_eq_some_iff.1 hy10).1
 have hz10 := (hb10.block _ lz9).trans HZ9.out
 have lz10 := (Array.getElem?_eq_some_iff.1 hz10).1
 clear c0 c1 c2 c3 c4 c5 c6 e0 e1 e2 e3 e4 e5 e6 f0 f1 f2 f3 f4 f5 f6
 obtain ⟨c0, c1, c2, c3, c4, c5, c6⟩ := cell_agg7 hx10
 obtain ⟨e0, e1, e2, e3, e4, e5, e6⟩ := cell_agg7 hy10
 obtain ⟨f0, f1, f2, f3, f4, f5, f6⟩ := cell_agg7 hz10
 have HX10 := Lib.hid hx10
 have HY10 := Lib.hid hy10
 have HZ10 := Lib.hid hz10
 have HB10 := Lib.hid (HB9.out.trans (hb10.mono HB9.out.size))
 have HC10 := Lib.hid (HC9.out.trans (hb10.mono HC9.out.size))
 clear HK9 hb10 hx10 HX9 lx9 hy10 HY9 ly9 hz10 HZ9 lz9
 have HK10 := Lib.hid (HC4.out _ HC10.out)
 clear HC4
 go_wp2_with fail
 refine HK10.out.mono ?_
 rintro e w11 ⟨rfl, hb11⟩
 have hx11 := (hb11.block _ lx10).trans HX10.out
 have lx11 := (Array.getElem?_eq_some_iff.1 hx11).1
 have hy11 := (hb11.block _ ly10).trans HY10.out
 have ly11 := (Array.getElem?_eq_some_iff.1 hy11).1
 have hz11 := (hb11.block _ lz10).trans HZ10.out
 have lz11 := (Array.getElem?_eq_some_iff.1 hz11).1
 clear c0 c1 c2 c3 c4 c5 c6 e0 e1 e2 e3 e4 e5 e6 f0 f1 f2 f3 f4 f5 f6
 obtain ⟨c0, c1, c2, c3, c4, c5, c6⟩ := cell_agg7 hx11
 obtain ⟨e0, e1, e2, e3, e4, e5, e6⟩ := cell_agg7 hy11
 obtain ⟨f0, f1, f2, f3, f4, f5, f6⟩ := cell_agg7 hz11
 have HX11 := Lib.hid hx11
 have HY11 := Lib.hid hy11
 have HZ11 := Lib.hid hz11
 have HB11 := Lib.hid (HB10.out.trans (hb11.mono HB10.out.size))
 have HC11 := Lib.hid (HC10.out.trans (hb11.mono HC10.out.size))
 clear HK10 hb11 hx11 HX10 lx10 hy11 HY10 ly10 hz11 HZ10 lz10
 have HK11 := Lib.hid (HRC.out _ HB11.out h9)
 clear HRC
 go_wp2_with fail
 refine HK11.out.mono ?_
 rintro e w12 ⟨rfl, hb12⟩
 have hx12 := (hb12.block _ lx11).trans HX11.out
 have lx12 := (Array.getElem?_eq_some_iff.1 hx12).1
 have hy12 := (hb12.block _ ly11).trans HY11.out
 have ly12 := (Array.getElem?_eq_some_iff.1 hy12).1
 have hz12 := (hb12.block _ lz11).trans HZ11.out
 have lz12 := (Array.getElem?_eq_some_iff.1 hz12).1
 clear c0 c1 c2 c3 c4 c5 c6 e0 e1 e2 e3 e4 e5 e6 f0 f1 f2 f3 f4 f5 f6
 obtain ⟨c0, c1, c2, c3, c4, c5, c6⟩ := cell_agg7 hx12
 obtain ⟨e0, e1, e2, e3, e4, e5, e6⟩ := cell_agg7 hy12
 obtain ⟨f0, f1, f2, f3, f4, f5, f6⟩ := cell_agg7 hz12
 have HX12 := Lib.hid hx12
 have HY12 := Lib.hid hy12
 have HZ12 := Lib.hid hz12
 have HB12 := Lib.hid (HB11.out.trans (hb12.mono HB11.out.size))
 have HC12 := Lib.hid (HC11.out.trans (hb12.mono HC11.out.size))
 clear HK11 hb12 hx12 HX11 lx11 hy12 HY11 ly11 hz12 HZ11 lz11
 have HK12 := Lib.hid (HSV.out _ HB12.out)
 clear HSV
 go_wp2_with fail
 refine HK12.out.mono ?_
 rintro e w13 ⟨rfl, hb13⟩
 have hx13 := (hb13.block _ lx12).trans HX12.out
 have lx13 := (Array.getElem?_eq_some_iff.1 hx13).1
 have hy13 := (hb13.block _ ly12).trans HY12.out
 have ly13 := (Array.getElem?_eq_some_iff.1 hy13).1
 have hz13 := (hb13.block _ lz12).trans HZ12.out
 have lz13 := (Array.getElem?_eq_some_iff.1 hz13).1
 clear c0 c1 c2 c3 c4 c5 c6 e0 e1 e2 e3 e4 e5 e6 f0 f1 f2 f3 f4 f5 f6
 obtain ⟨c0, c1, c2, c3, c4, c5, c6⟩ := cell_agg7 hx13
 obtain ⟨e0, e1, e2, e3, e4, e5, e6⟩ := cell_agg7 hy13
 obtain ⟨f0, f1, f2, f3, f4, f5, f6⟩ := cell_agg7 hz13
 have HX13 := Lib.hid hx13
 have HY13 := Lib.hid hy13
 have HZ13 := Lib.hid hz13
 have HB13 := Lib.hid (HB12.out.trans (hb13.mono HB12.out.size))
 have HC13 := Lib.hid (HC12.out.trans (hb13.mono HC12.out.size))
 clear HK12 hb13 hx13 HX12 lx12 hy13 HY12 ly12 hz13 HZ12 lz12
 have HK13 := Lib.hid (HQ.out _ HB13.out h7)
 clear HQ
 go_wp2_with fail
 refine HK13.out.mono ?_
 rintro e w14 ⟨rfl, hb14⟩
 have hx14 := (hb14.block _ lx13).trans HX13.out
 have lx14 := (Array.getElem?_eq_some_iff.1 hx14).1
 have hy14 := (hb14.block _ ly13).trans HY13.out
 have ly14 := (Array.getElem?_eq_some_iff.1 hy14).1
 have hz14 := (hb14.block _ lz13).trans HZ13.out
 have lz14 := (Array.getElem?_eq_some_iff.1 hz14).1
 clear c0 c1 c2 c3 c4 c5 c6 e0 e1 e2 e3 e4 e5 e6 f0 f1 f2 f3 f4 f5 f6
 obtain ⟨c0, c1, c2, c3, c4, c5, c6⟩ := cell_agg7 hx14
 obtain ⟨e0, e1, e2, e3, e4, e5, e6⟩ := cell_agg7 hy14
 obtain ⟨f0, f1, f2, f3, f4, f5, f6⟩ := cell_agg7 hz14
 have HX14 := Lib.hid hx14
 have HY14 := Lib.hid hy14
 have HZ14 := Lib.hid hz14
 have HB14 := Lib.hid (HB13.out.trans (hb14.mono HB13.out.size))
 have HC14 := Lib.hid (HC13.out.trans (hb14.mono HC13.out.size))
 clear HK13 hb14 hx14 HX13 lx13 hy14 HY13 ly13 hz14 HZ13 lz13
 have HK14 := Lib.hid (HQR.out w14 h7)
 clear HQR
 go_wp2_with fail
 refine HK14.out.mono ?_
 rintro e w15 ⟨rfl, hb15⟩
 have hx15 := (hb15.block _ lx14).trans HX14.out
 have lx15 := (Array.getElem?_eq_some_iff.1 hx15).1
 have hy15 := (hb15.block _ ly14).trans HY14.out
 have ly15 := (Array.getElem?_eq_some_iff.1 hy15).1
 have hz15 := (hb15.block _ lz14).trans HZ14.out
 have lz15 := (Array.getElem?_eq_some_iff.1 hz15).1
 clear c0 c1 c2 c3 c4 c5 c6 e0 e1 e2 e3 e4 e5 e6 f0 f1 f2 f3 f4 f5 f6
 obtain ⟨c0, c1, c2, c3, c4, c5, c6⟩ := cell_agg7 hx15
 obtain ⟨e0, e1, e2, e3, e4, e5, e6⟩ := cell_agg7 hy15
 obtain ⟨f0, f1, f2, f3, f4, f5, f6⟩ := cell_agg7 hz15
 have HX15 := Lib.hid hx15
 have HY15 := Lib.hid hy15
 have HZ15 := Lib.hid hz15
 have HB15 := Lib.hid (HB14.out.trans (hb15.mono HB14.out.size))
 have HC15 := Lib.hid (HC14.out.trans (hb15.mono HC14.out.size))
 clear HK14 hb15 hx15 HX14 lx14 hy15 HY14 ly14 hz15 HZ14 lz14
 go_wp2_with fail
 go_ret
 exact ⟨rboolS (by simp), HB15.out⟩
end Go.Proofs.YtckaoeloofbklaaGreatDoor
