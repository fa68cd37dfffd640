/- From the rows' conditions to what the walks of num ask: the library's tables. -/
import Derived.Test.YtckaoeloofbklaaGreatDoorRows
import Derived.Test.YtckaoeloofbklaaGreatDoorWh
import Derived.Test.YtckaoeloofbklaaGreatDoorWi
import Derived.ProofKit
import Derived.LaidMore
import Derived.OpenShut
import Derived.Stop.Joined
import Derived.Deep.Slices
import Derived.Lib.LaidU8
import Derived.Handed
import Derived.Shelf.Vars
import Derived.Lay
import Derived.SevenTiedAt
import Derived.Lib.LaidU8T
import Derived.Test.YtckaoeloofbklaaGreatDoorWw
namespace Go.Proofs.YtckaoeloofbklaaGreatDoor
open Go Go.ChangeShapes Go.WideShapes Go.ChangeAt Go.RowKit Go.Lib Go.Deep
theorem own : ownKnob Tryz.prog.godebug = Option.none := by kernel_rfl
theorem laidOut : laidOutB Tryz.prog = true := by kernel_rfl
def laidL : List (String × DataW Unit) := Rows.jsonStringsRow.laid
theorem reads_at {W : World} (h : laidMet Tryz.prog laidL W) {n : String} {d : DataW Unit} (hm : (n, d) ∈ laidL) {g : Nat} {t : TypeId} (hg : Tryz.prog.globalNamed n = some g) (ht : (Tryz.prog.globals[g]?).map (·.type) = some t) :
  ∃ (cs : Array Value) (fuel : Nat) (p : List MemPlace), W.var? Tryz.prog n = some cs ∧ DataW.trod (fun _ => ()) Tryz.prog W 0 (fun _ => true) false fuel t cs.toList = some (d, p) := by
 obtain ⟨g', t', cs, fuel, p, hg', ht', hv, hd⟩ := laidMet.reads h hm
 obtain rfl := Option.some.inj (hg.symm.trans hg')
 obtain rfl := Option.some.inj (ht.symm.trans ht')
 exact ⟨cs, fuel, p, hv, hd⟩
theorem trod_float1 {W : World} {k : FloatKind} {t : TypeId} {fuel : Nat} {v : Value} {d : DataW Unit} {p : List MemPlace} {b : Nat} (ht : Tryz.prog.underlying t = some (.float k))
  (h : DataW.trod (fun _ => ()) Tryz.prog W 0 (fun _ => true) false fuel t [v] = some (d, p)) (hd : d = .lit (.float k b)) : v = .float k b := by
 cases fuel with
 | zero => simp [DataW.trod] at h
 | succ n =>
  unfold DataW.trod at h
  rw [ht] at h
  split at h <;> simp_all
theorem trod_iface1 {W : World} {ms : Array (String × TypeId)} {t : TypeId} {fuel : Nat} {cs : List Value} {nm : String} {d : DataW Unit} {p : List MemPlace} (ht : Tryz.prog.underlying t = some (.interface ms))
  (h : DataW.trod (fun _ => ()) Tryz.prog W 0 (fun _ => true) false fuel t cs = some (.iface nm d, p)) : ∃ te pe, cs = [.iface te pe] := by
 cases fuel with
 | zero => simp [DataW.trod] at h
 | succ n =>
  unfold DataW.trod at h
  rw [ht] at h
  split at h <;> simp_all
theorem g_deb : Tryz.prog.globalNamed "math/bits.deBruijn64tab" = some 7 := by kernel_rfl
theorem y_deb : (Tryz.prog.globals[7]?).map (·.type) = some 216 := by kernel_rfl
theorem g_f32 : Tryz.prog.globalNamed "internal/strconv.float32info" = some 10 := by kernel_rfl
theorem y_f32 : (Tryz.prog.globals[10]?).map (·.type) = some 264 := by kernel_rfl
theorem g_f64 : Tryz.prog.globalNamed "internal/strconv.float64info" = some 11 := by kernel_rfl
theorem y_f64 : (Tryz.prog.globals[11]?).map (·.type) = some 264 := by kernel_rfl
theorem g_opt : Tryz.prog.globalNamed "internal/strconv.optimize" = some 8 := by kernel_rfl
theorem y_opt : (Tryz.prog.globals[8]?).map (·.type) = some 4 := by kernel_rfl
theorem g_p10 : Tryz.prog.globalNamed "internal/strconv.float64pow10" = some 16 := by kernel_rfl
theorem y_p10 : (Tryz.prog.globals[16]?).map (·.type) = some 287 := by kernel_rfl
theorem y_u10 : (Tryz.prog.globals[2]?).map (·.type) = some 164 := by kernel_rfl
theorem g_rng : Tryz.prog.globalNamed "strconv.ErrRange" = some 5 := by kernel_rfl
theorem y_rng : (Tryz.prog.globals[5]?).map (·.type) = some 68 := by kernel_rfl
theorem g_pow : Tryz.prog.globalNamed "internal/strconv.pow10Tab" = some 12 := by kernel_rfl
theorem y_pow : (Tryz.prog.globals[12]?).map (·.type) = some 278 := by kernel_rfl
theorem c_deb : Tryz.prog.cellsOf 216 = 64 := by kernel_rfl
theorem c_u8 : Tryz.prog.cellsOf 5 = 1 := by kernel_rfl
theorem c_u64 : Tryz.prog.cellsOf 23 = 1 := by kernel_rfl
theorem c_f64 : Tryz.prog.cellsOf 128 = 1 := by kernel_rfl
theorem c_u10 : Tryz.prog.cellsOf 164 = 20 := by kernel_rfl
theorem c_128 : Tryz.prog.cellsOf 277 = 2 := by kernel_rfl
theorem c_inf : Tryz.prog.cellsOf 264 = 3 := by kernel_rfl
theorem c_uint : Tryz.prog.cellsOf 103 = 1 := by kernel_rfl
theorem c_int : Tryz.prog.cellsOf 3 = 1 := by kernel_rfl
def debL : List Int := [0, 1, 56, 2, 57, 49, 28, 3, 61, 58, 42, 50, 38, 29, 17, 4, 62, 47, 59, 36, 45, 43, 51, 22, 53, 39, 33, 30, 24, 18, 12, 5, 63, 55, 48, 27, 60, 41, 37, 16, 46, 35, 44, 21, 52, 32, 23, 11, 54, 26, 40, 15, 34, 20, 31, 10, 25, 14, 19, 9, 13, 8, 7, 6]
theorem d_deb : (Rows.laid_math_bits_deBruijn64tab : DataW Unit) = tabData .u8 debL := by kernel_rfl
theorem d_u10 : (Rows.laid_internal_strconv_uint64pow10 : DataW Unit) = tabData .u64 Lib.pow10Tab := by kernel_rfl
theorem d_p10 : (Rows.laid_internal_strconv_float64pow10 : DataW Unit) = .slice ((List.range 23).map fun k => .lit (.float .f64 (p10N k))) [] := by kernel_rfl
theorem plain_laid {W : World} (h : laidMetH Tryz.prog laidL W) : laidMet Tryz.prog laidL W := by
 rwa [MakeChecks.laidMetH_plain _ _ _ (by kernel_rfl)] at h
theorem deb_of {W : World} (h : laidMet Tryz.prog laidL W) : W.cell? ⟨7, 1, Option.none⟩ = some (.int .u8 1) ∧ W.cell? ⟨7, 15, Option.none⟩ = some (.int .u8 4) := by
 obtain ⟨cs, fuel, p, hv, hd⟩ := reads_at h (n := "math/bits.deBruijn64tab") (d := Rows.laid_math_bits_deBruijn64tab) (by simp [laidL, Rows.jsonStringsRow]) g_deb y_deb
 rw [d_deb] at hd
 have hcs := cells_of_tab Tryz.underlying216 Tryz.underlying5 c_u8 c_deb hd
 constructor
 ·rw [World.var?_cell g_deb hv 1, ← Array.getElem?_toList, hcs]; rfl
 ·rw [World.var?_cell g_deb hv 15, ← Array.getElem?_toList, hcs]; rfl
theorem u10_of {W : World} (h : laidMet Tryz.prog laidL W) : Lib.TabIs Tryz.prog W "internal/strconv.uint64pow10" .u64 Lib.pow10Tab := by
 obtain ⟨cs, fuel, p, hv, hd⟩ := reads_at h (n := "internal/strconv.uint64pow10") (d := Rows.laid_internal_strconv_uint64pow10) (by simp [laidL, Rows.jsonStringsRow]) u10_num y_u10
 rw [d_u10] at hd
 have hcs := cells_of_tab Tryz.underlying164 Tryz.underlying23 c_u64 c_u10 hd
 unfold Lib.TabIs
 rw [hv, ← hcs]
theorem inf_of {W : World} (h : laidMet Tryz.prog laidL W) : W.cell? ⟨11, 0, Option.none⟩ = some (.int .u64 52) ∧ W.cell? ⟨11, 1, Option.none⟩ = some (.int .u64 11) ∧ W.cell? ⟨11, 2, Option.none⟩ = some (.int .i64 (-1023)) := by
 obtain ⟨cs, fuel, p, hv, hd⟩ := reads_at h (n := "internal/strconv.float64info") (d := Rows.laid_internal_strconv_float64info) (by simp [laidL, Rows.jsonStringsRow]) g_f64 y_f64
 obtain ⟨xs, n, _, hx, hl, hxl, hall⟩ := DataW.trod_struct Tryz.underlying264 hd
 rw [c_inf] at hl
 have hx1 : xs.map (·.1) = [.lit (.int .u64 52), .lit (.int .u64 11), .lit (.int .i64 (-1023))] := by
  have := congrArg Prod.fst hx
  simpa [Rows.laid_internal_strconv_float64info] using this.symm
 have h0 := hall 0 _ rfl
 have h1 := hall 1 _ rfl
 have h2 := hall 2 _ rfl
 obtain ⟨c0, c1, c2, e⟩ : ∃ a b c, cs.toList = [a, b, c] := by
  match cs.toList, hl with
  | [a, b, c], _ => exact ⟨a, b, c, rfl⟩
 obtain ⟨x0, x1, x2, e2⟩ : ∃ a b c, xs = [a, b, c] := by
  match xs, hxl with
  | [a, b, c], _ => exact ⟨a, b, c, rfl⟩
 rw [e2] at hx1 h0 h1 h2
 rw [e] at h0 h1 h2
 simp only [List.map_cons, List.map_nil, List.cons.injEq, and_true] at hx1
 obtain ⟨p0, p1, p2⟩ := hx1
 replace h0 : DataW.trod (fun _ => ()) Tryz.prog W 0 (fun _ => true) false n 103 (List.take (Tryz.prog.cellsOf 103) [c0, c1, c2]) = some x0 := h0
 replace h1 : DataW.trod (fun _ => ()) Tryz.prog W 0 (fun _ => true) false n 103 (List.take (Tryz.prog.cellsOf 103) [c1, c2]) = some x1 := h1
 replace h2 : DataW.trod (fun _ => ()) Tryz.prog W 0 (fun _ => true) false n 3 (List.take (Tryz.prog.cellsOf 3) [c2]) = some x2 := h2
 rw [c_uint] at h0 h1
 rw [c_int] at h2
 obtain ⟨a0, q0, r0, _⟩ := DataW.trod_int Tryz.underlying103 h0
 obtain ⟨a1, q1, r1, _⟩ := DataW.trod_int Tryz.underlying103 h1
 obtain ⟨a2, q2, r2, _⟩ := DataW.trod_int Tryz.underlying3 h2
 rw [r0] at p0
 rw [r1] at p1
 rw [r2] at p2
 simp only [DataW.lit.injEq, Lit.int.injEq, true_and] at p0 p1 p2
 simp only [List.take_succ_cons, List.take_zero, List.cons.injEq, and_true] at q0 q1 q2
 subst p0 p1 p2 q0 q1 q2
 refine ⟨?_, ?_, ?_⟩
 ·rw [World.var?_cell g_f64 hv 0, ← Array.getElem?_toList, e]; rfl
 ·rw [World.var?_cell g_f64 hv 1, ← Array.getElem?_toList, e]; rfl
 ·rw [World.var?_cell g_f64 hv 2, ← Array.getElem?_toList, e]; rfl
theorem opt_of {W : World} (h : laidMet Tryz.prog laidL W) : W.cell? ⟨8, 0, Option.none⟩ = some (.bool true) := by
 obtain ⟨cs, fuel, p, hv, hd⟩ := reads_at h (n := "internal/strconv.optimize") (d := Rows.laid_internal_strconv_optimize) (by simp [laidL, Rows.jsonStringsRow]) g_opt y_opt
 obtain ⟨b, hcs, hx⟩ := DataW.trod_bool Tryz.underlying4 hd
 have hb : b = true := by
  have := congrArg Prod.fst hx
  simpa [Rows.laid_internal_strconv_optimize] using this.symm
 rw [World.var?_cell g_opt hv 0, ← Array.getElem?_toList, hcs, hb]; rfl
theorem rng_of {W : World} (h : laidMet Tryz.prog laidL W) : ∃ te pe, W.cell? ⟨5, 0, Option.none⟩ = some (.iface te pe) := by
 obtain ⟨cs, fuel, p, hv, hd⟩ := reads_at h (n := "strconv.ErrRange") (d := Rows.laid_strconv_ErrRange) (by simp [laidL, Rows.jsonStringsRow]) g_rng y_rng
 obtain ⟨te, pe, hcs⟩ := trod_iface1 Tryz.underlying68 hd
 exact ⟨te, pe, by rw [World.var?_cell g_rng hv 0, ← Array.getElem?_toList, hcs]; rfl⟩
theorem block_of {W : World} {n : String} {g : Nat} {cs : Array Value} (hg : Tryz.prog.globalNamed n = some g) (hv : W.var? Tryz.prog n = some cs) : g < W.heap.size := by
 unfold World.var? at hv
 rw [hg] at hv
 simp only [Option.bind_some] at hv
 by_cases hlt : g < W.heap.size
 ·exact hlt
 ·rw [Array.getElem?_eq_none (by omega)] at hv
  exact absurd hv (by simp)
theorem p10_of {W : World} (h : laidMet Tryz.prog laidL W) : ∃ b o cap : Nat, b < W.heap.size ∧ W.cell? ⟨16, 0, Option.none⟩ = some (.slice (some ⟨b, o, Option.none⟩) 23 cap) ∧ ∀ k, k < 23 → W.cell? ⟨b, o + k, Option.none⟩ = some (.float .f64 (p10N k)) := by
 obtain ⟨cs, fuel, p, hv, hd⟩ := reads_at h (n := "internal/strconv.float64pow10") (d := Rows.laid_internal_strconv_float64pow10) (by simp [laidL, Rows.jsonStringsRow]) g_p10 y_p10
 rw [d_p10] at hd
 rcases open_slice1 Tryz.underlying287 c_f64 hd with ⟨_, hx⟩ | ⟨a, len, cap, m, n, Vv, D, Pl, hcs, _, hl, hm, hmm, hx, hi⟩
 ·cases hx
 ·have hx1 := congrArg Prod.fst hx
  simp only [DataW.slice.injEq] at hx1
  obtain ⟨hx2, _⟩ := hx1
  have hlen : len = 23 := by
   have := congrArg List.length hx2
   simpa using this.symm
  subst hlen
  have hD : ∀ k, k < 23 → D k = .lit (.float .f64 (p10N k)) := fun k hk => by
   have := congrArg (·[k]?) hx2
   simp only [List.getElem?_map, List.getElem?_range hk, Option.map_some, Option.some.injEq] at this
   exact this.symm
  have hm23 : 23 ≤ m := by rw [hmm]; split <;> omega
  obtain ⟨ab, ao, asp⟩ := a
  have hsp : asp = Option.none := by
   have h0 := (hi 0 (by omega)).1
   have e : (⟨ab, ao, asp⟩ : Addr).add 0 = ⟨ab, ao, asp⟩ := by unfold Addr.add; cases asp <;> simp
   rw [e] at h0
   exact cell_spot h0
  subst hsp
  have hc : ∀ k, k < 23 → W.cell? ⟨ab, ao + k, Option.none⟩ = some (.float .f64 (p10N k)) := fun k hk => by
   obtain ⟨h1, h2⟩ := hi k (by omega)
   have e : (⟨ab, ao, Option.none⟩ : Addr).add k = ⟨ab, ao + k, Option.none⟩ := by unfold Addr.add; simp
   rw [e] at h1
   rw [h1, trod_float1 Tryz.underlying128 h2 (hD k hk)]
  refine ⟨ab, ao, cap, ?_, ?_, hc⟩
  ·have h0 := hc 0 (by decide)
   by_cases hlt : ab < W.heap.size
   ·exact hlt
   ·exfalso
    unfold World.cell? at h0
    simp only at h0
    rw [Array.getElem?_eq_none (by omega)] at h0
    exact absurd h0 (by simp)
  ·rw [World.var?_cell g_p10 hv 0, ← Array.getElem?_toList, hcs]; rfl
theorem pow_of {W : World} (h : laidMet Tryz.prog laidL W) : ∀ i, i < 696 → W.cell? ⟨12, i * 2, Option.none⟩ = some (.int .u64 (hiN i)) ∧ W.cell? ⟨12, i * 2 + 1, Option.none⟩ = some (.int .u64 (loN i)) := by
 obtain ⟨cs, fuel, p, hv, hd⟩ := reads_at h (n := "internal/strconv.pow10Tab") (d := Rows.laid_internal_strconv_pow10Tab) (by simp [laidL, Rows.jsonStringsRow]) g_pow y_pow
 intro i hi
 unfold Rows.laid_internal_strconv_pow10Tab Go.Pinned.pow10Tab at hd
 obtain ⟨fuel', d, q, hdi, he⟩ := array_elem Tryz.underlying278 hd i hi
 have hlen : Go.Pinned.pow10Rows.length = 696 := by decide +kernel
 rw [List.getElem?_map, List.getElem?_eq_getElem (by omega), Option.map_some, Option.some.injEq] at hdi
 subst hdi
 rw [c_128] at he
 have hcs := ints_of_struct (zs := [((Go.Pinned.pow10Rows[i]'(by omega)).1 : Int), ((Go.Pinned.pow10Rows[i]'(by omega)).2 : Int)]) Tryz.underlying277 (fun j f hj => by
  match j, hj with
  | 0, hj => simp at hj; subst hj; exact ⟨Tryz.underlying23, rfl, c_u64⟩
  | 1, hj => simp at hj; subst hj; exact ⟨Tryz.underlying23, rfl, c_u64⟩
  | j + 2, hj => simp at hj) (by rw [c_128]; rfl) he
 have e0 := congrArg (·[0]?) hcs
 have e1 := congrArg (·[1]?) hcs
 simp only [List.getElem?_take, List.getElem?_drop] at e0 e1
 have hh : Go.Pinned.pow10Rows.getD i (0, 0) = Go.Pinned.pow10Rows[i]'(by omega) := by
  rw [List.getD_eq_getElem?_getD, List.getElem?_eq_getElem (by omega), Option.getD_some]
 unfold hiN loN
 rw [hh]
 constructor
 ·rw [World.var?_cell g_pow hv (i * 2), ← Array.getElem?_toList]
  simpa using e0
 ·rw [World.var?_cell g_pow hv (i * 2 + 1), ← Array.getElem?_toList]
  simpa using e1
theorem laid_place {W : World} : ∀ {l : List (String × DataW Unit)} {ps : List MemPlace}, DataW.LaidVars Tryz.prog W l ps → ∀ n d, (n, d) ∈ l → ∀ g cs, Tryz.prog.globalNamed n = some g → W.var? Tryz.prog n = some cs → 0 < cs.size → MemPlace.cell g 0 ∈ ps
 | [], _, _, _, _, hm, _, _, _, _, _ => by cases hm
 | (n', d') :: r, ps, h, n, d, hm, g, cs, hg, hv, h0 => by
  obtain ⟨g', t, cs', fuel, p, q, h1, h2, h3, h4, h5, rfl⟩ := h
  rcases List.mem_cons.1 hm with e | e
  ·cases e
   obtain rfl := Option.some.inj (hg.symm.trans h1)
   obtain rfl := Option.some.inj (hv.symm.trans h3)
   rw [List.mem_append, List.mem_append]
   exact .inl (.inl (MemPlace.mem_row.2 ⟨0, h0, rfl⟩))
  ·rw [List.mem_append]
   exact .inr (laid_place h5 n d e g cs hg hv h0)
theorem row_at {W : World} (h : laidMet Tryz.prog laidL W) {n : String} {d : DataW Unit} (hm : (n, d) ∈ laidL) {g : Nat} (hg : Tryz.prog.globalNamed n = some g) {cs : Array Value} (hv : W.var? Tryz.prog n = some cs) (h0 : 0 < cs.size) :
  ∃ c t, W.heap[g]? = some (.cells c t (0, 0)) := by
 obtain ⟨ps, hl, _, hall⟩ := h
 exact (hall g 0 (laid_place hl n d hm g cs hg hv h0)).1
theorem blk_of {W : World} (h : laidMet Tryz.prog laidL W) : ∃ (ca cb : Array Value) (ta tb : TypeId), W.heap[(10 : Nat)]? = some (.cells ca ta (0, 0)) ∧ W.heap[(11 : Nat)]? = some (.cells cb tb (0, 0)) := by
 have m1 : ("internal/strconv.float32info", Rows.laid_internal_strconv_float32info) ∈ laidL := by simp [laidL, Rows.jsonStringsRow]
 have m2 : ("internal/strconv.float64info", Rows.laid_internal_strconv_float64info) ∈ laidL := by simp [laidL, Rows.jsonStringsRow]
 obtain ⟨cs, fuel, p, hv, hd⟩ := reads_at h m1 g_f32 y_f32
 obtain ⟨cs2, fuel2, p2, hv2, hd2⟩ := reads_at h m2 g_f64 y_f64
 obtain ⟨xs, n, _, _, hl, _⟩ := DataW.trod_struct Tryz.underlying264 hd
 obtain ⟨xs2, n2, _, _, hl2, _⟩ := DataW.trod_struct Tryz.underlying264 hd2
 rw [c_inf] at hl hl2
 obtain ⟨ca, ta, ha⟩ := row_at h m1 g_f32 hv (by simp at hl; omega)
 obtain ⟨cb, tb, hb⟩ := row_at h m2 g_f64 hv2 (by simp at hl2; omega)
 exact ⟨ca, cb, ta, tb, ha, hb⟩
theorem heap_17 {W : World} (h : laidMet Tryz.prog laidL W) : 17 ≤ W.heap.size := by
 obtain ⟨cs, fuel, p, hv, hd⟩ := reads_at h (n := "internal/strconv.float64pow10") (d := Rows.laid_internal_strconv_float64pow10) (by simp [laidL, Rows.jsonStringsRow]) g_p10 y_p10
 exact block_of g_p10 hv
theorem glob_of_laid {W : World} (h : laidMetH Tryz.prog laidL W) (hsh : W.ShapedOpen Tryz.prog) : Globs W ∧ GlobT W.heap.size W := by
 have h' := plain_laid h
 refine ⟨⟨⟨heap_17 h', pow_of h', u10_of h', opt_of h'⟩, ?_⟩, ⟨heap_17 h', Nat.le_refl _, inf_of h', p10_of h', deb_of h', blk_of h', rng_of h'⟩⟩
 exact cell_of_shapedOpen_int (zero := #[.int .i64 0]) (t := 3) hsh (of_decide_eq_true (by kernel_rfl)) (by kernel_rfl) (by kernel_rfl) (by kernel_rfl) (by kernel_rfl) Tryz.underlying3
theorem tabs_extra : Go.Proofs.U8Extra Tryz.prog lays_valid_ren := {
 n3 := by kernel_rfl
 n4 := by kernel_rfl
 y3 := by kernel_rfl
 y4 := by kernel_rfl
 c5 := by kernel_rfl
 c119 := by kernel_rfl
 c138 := by kernel_rfl }
theorem d_first : (Rows.laid_unicode_utf8_first : DataW Unit) = Lib.firstData := by kernel_rfl
theorem d_accept : (Rows.laid_unicode_utf8_acceptRanges : DataW Unit) = Lib.acceptData := by kernel_rfl
theorem tabs_of_laid {W : World} (h : laidMetH Tryz.prog laidL W) : Lib.Utf8Tabs 0 1 W := by
 have h' := plain_laid h
 refine Go.Proofs.utf8Tabs_of_readsT (.of196 lays_valid) tabs_extra ?_ ?_
 ·rw [← d_first]; exact laidMet.reads h' (by simp [laidL, Rows.jsonStringsRow])
 ·rw [← d_accept]; exact laidMet.reads h' (by simp [laidL, Rows.jsonStringsRow])
theorem laid_plain : (laidL.all fun x => x.2.handleName?.isNone) = true := by kernel_rfl
theorem all_met (os : Os) (args : Array Value) : laidMetH Tryz.prog laidL ((World.laidAll Tryz.prog os laidL).forCall (fun _ _ => 0) ⟨#[], args, []⟩).memory := by
 rw [MakeChecks.laidMetH_plain _ _ _ laid_plain]
 exact laidMet_laidAll _ (by kernel_rfl) (by kernel_rfl)
variable {H : Type} {enc : TypeId × Value → H}
theorem handed_laid {a : Assume} {C : Checked} {os : Os} {f : FuncId} {fn : Func} {s : ChangeSpec} {conds : List PathCond} {apart fresh handsOn again : Bool} {X : World → Array Value → Prop}
  (hX : ∀ (w w' : World) (args : Array Value), w.heap = w'.heap → X w args → X w' args)
  (own : ownKnob C.prog.godebug = none) (started : os.Started) (noInit : C.prog.inits.idxOf? f = none) (hfn : C.prog.funcs[f]? = some fn)
  (witness : ∃ (w : World) (tape : Tape) (i : Input), w.os = os ∧ (w.forCall tape i).Shaped C.prog ∧ i.vars = [] ∧ Input.okWide C.prog (w.forCall tape i) .any w.heap.size f i ∧
   ((s.pre enc C.prog fn conds apart (w.forCall tape i).memory i.args ∧ X (w.forCall tape i).memory i.args) ∧ sizedMet enc C.prog fn (OpenSpec.ofChange s) apart (w.forCall tape i).memory i.args) ∧ a.holds C.prog (lone (Frame.enter C.prog f i.args .normal) [] (w.forCall tape i)))
  (contract : ∀ (W : World) (base : Nat) (args : Array Value) (ds gs : List (DataW H)) (before : List MemPlace),
   (∀ (j : Nat) t v, fn.params[j]? = some t → args[j]? = some v → Value.okWide C.prog W .any base t v) →
   DataW.Whole enc C.prog fn.params.toList s.vars apart W args.toList ds gs before → X W args → W.ShapedOpen C.prog →
   Calls C.prog f args W fun e W' => ∃ v, e = .returned v ∧ s.post enc C.prog fn apart fresh handsOn again W args v W') :
  ReturnsInHanded a C os f .any (fun w args => (s.pre enc C.prog fn conds apart w args ∧ X w args) ∧ sizedMet enc C.prog fn (OpenSpec.ofChange s) apart w args) (s.post enc C.prog fn apart fresh handsOn again) := by
 refine returnsInHanded_of_calls own started noInit witness ?_
 intro w tape i _ hsh _ hok hpre _
 obtain ⟨_, _, _, fn', hfn', _, _, _, _, hval⟩ := hok
 obtain rfl : fn' = fn := Option.some.inj (hfn'.symm.trans hfn)
 obtain ⟨⟨⟨ds, gs, before, hw, _⟩, hx⟩, _⟩ := hpre
 refine (contract (w.forCall tape i) w.heap.size i.args ds gs before hval (DataW.Whole.of_heap (w' := w.forCall tape i) (by rfl) hw) (hX _ _ _ (by rfl) hx) hsh).mono fun e W' ⟨v, he, hp⟩ => ?_
 subst he
 exact ChangeSpec.post_blind hp
end Go.Proofs.YtckaoeloofbklaaGreatDoor
