/- Joined texts: Je Kg Pa Jc Jd Jf. Each begins with its own remark. -/
import Derived.Test.YtckaoeloofbklaaGreatDoorWc
import Derived.Maps.OwnOps
import Derived.Maps.Views
import Derived.Laws.StructEq
import Derived.Test.YtckaoeloofbklaaGreatDoorWb
import Derived.Deep.LoopGhost
import Derived.Deep.Cut
set_option maxRecDepth 100000
set_option maxHeartbeats 4000000
namespace Go.Proofs.YtckaoeloofbklaaGreatDoor
open Go Go.RowKit Go.Lib
def StrsAt (ok : Nat → Prop) (w : World) (a : Option Addr) (ks : List ByteArray) : Prop :=
 ks = [] ∨ ∃ b off, a = some ⟨b, off, none⟩ ∧ ok b ∧ b < w.heap.size ∧ ∀ j k, ks[j]? = some k → w.cell? ⟨b, off + j, none⟩ = some (.string k)
def Cells7 (w : World) (b off : Nat) (V : Value) : Prop := ∃ x0 x1 x2 x3 x4 x5 x6, V = .agg #[x0, x1, x2, x3, x4, x5, x6] ∧ w.cell? ⟨b, off, none⟩ = some x0 ∧ w.cell? ⟨b, off + 1, none⟩ = some x1 ∧ w.cell? ⟨b, off + 2, none⟩ = some x2 ∧
 w.cell? ⟨b, off + 3, none⟩ = some x3 ∧ w.cell? ⟨b, off + 4, none⟩ = some x4 ∧ w.cell? ⟨b, off + 5, none⟩ = some x5 ∧ w.cell? ⟨b, off + 6, none⟩ = some x6
def atomV (k : Int) (b : Bool) (n u : Int) (s : ByteArray) : Value := .agg #[.int .u8 k, .bool b, .int .i64 n, .int .u64 u, .string s, .slice none 0 0, .slice none 0 0]
mutual
def JAt (ok : Nat → Prop) (w : World) : JV → Value → Prop
 | .mk k b n u s ks vs, V => ∃ a c a' c', V = .agg #[.int .u8 k, .bool b, .int .i64 n, .int .u64 u, .string s, .slice a ks.length c, .slice a' vs.length c'] ∧
   StrsAt ok w a ks ∧ (vs = [] ∨ ∃ q off, a' = some ⟨q, off, none⟩ ∧ ok q ∧ q < w.heap.size ∧ ItAt ok w q off vs) ∧ ks.length ≤ 35184372080000 ∧ vs.length ≤ 35184372080000
def ItAt (ok : Nat → Prop) (w : World) (q : Nat) (off : Nat) : List JV → Prop
 | [] => True
 | v :: vs => (∃ V, Cells7 w q off V ∧ JAt ok w v V) ∧ ItAt ok w q (off + 7) vs
end
theorem Cells7.kept {w w' : World} {b off : Nat} {V : Value} (h : Cells7 w b off V) (hb : w'.heap[b]? = w.heap[b]?) : Cells7 w' b off V := by
 obtain ⟨x0, x1, x2, x3, x4, x5, x6, h, e0, e1, e2, e3, e4, e5, e6⟩ := h
 exact ⟨x0, x1, x2, x3, x4, x5, x6, h, by rwa [World.cell?_of_block hb], by rwa [World.cell?_of_block hb], by rwa [World.cell?_of_block hb], by rwa [World.cell?_of_block hb], by rwa [World.cell?_of_block hb], by rwa [World.cell?_of_block hb], by rwa [World.cell?_of_block hb]⟩
theorem StrsAt.kept {ok ok' : Nat → Prop} {w w' : World} {a : Option Addr} {ks : List ByteArray} (h : StrsAt ok w a ks) (hk : ∀ b, ok b → b < w.heap.size → w'.heap[b]? = w.heap[b]? ∧ ok' b) : StrsAt ok' w' a ks := by
 rcases h with h | ⟨b, off, h1, h2, h3, h4⟩
 ·exact .inl h
 ·obtain ⟨e1, e2⟩ := hk b h2 h3
  refine .inr ⟨b, off, h1, e2, ?_, fun j k hj => by rw [World.cell?_of_block e1]; exact h4 j k hj⟩
  have := (Array.getElem?_eq_some_iff.1 (e1.trans (Array.getElem?_eq_getElem h3))).1
  exact this
mutual
theorem JAt.kept {ok ok' : Nat → Prop} {w w' : World} (hk : ∀ b, ok b → b < w.heap.size → w'.heap[b]? = w.heap[b]? ∧ ok' b) : ∀ (v : JV) (V : Value), JAt ok w v V → JAt ok' w' v V
 | .mk k b n u s ks vs, V => by
  rw [JAt, JAt]
  rintro ⟨a, c, a', c', h1, h2, h3, h4⟩
  refine ⟨a, c, a', c', h1, h2.kept hk, ?_, h4⟩
  rcases h3 with h3 | ⟨q, off, g1, g2, g3, g4⟩
  ·exact .inl h3
  ·obtain ⟨e1, e2⟩ := hk q g2 g3
   exact .inr ⟨q, off, g1, e2, (Array.getElem?_eq_some_iff.1 (e1.trans (Array.getElem?_eq_getElem g3))).1, ItAt.kept hk e1 vs g4⟩
theorem ItAt.kept {ok ok' : Nat → Prop} {w w' : World} (hk : ∀ b, ok b → b < w.heap.size → w'.heap[b]? = w.heap[b]? ∧ ok' b) {q off : Nat} (hq : w'.heap[q]? = w.heap[q]?) : ∀ (vs : List JV), ItAt ok w q off vs → ItAt ok' w' q off vs
 | [], _ => by rw [ItAt]; trivial
 | v :: vs, h => by
  rw [ItAt] at h ⊢
  obtain ⟨⟨V, h1, h2⟩, h3⟩ := h
  exact ⟨⟨V, h1.kept hq, JAt.kept hk v V h2⟩, ItAt.kept hk hq vs h3⟩
end
theorem atom_at (ok : Nat → Prop) (w : World) (k : Int) (b : Bool) (n u : Int) (s : ByteArray) : JAt ok w (.mk k b n u s [] []) (atomV k b n u s) := by
 rw [JAt]
 exact ⟨none, 0, none, 0, rfl, .inl rfl, .inl rfl, by simp, by simp⟩
def ValOk (r : Nat) (s : ByteArray) (d : Nat) (w : World) (v : JV) (t : List UInt8) (e : Ending) (w' : World) : Prop :=
 ∃ V, e = .returned V ∧ JAt (fun b => w.heap.size ≤ b) w' v V ∧ Rd r s t d w' ∧ KR r w w'
def ValBad (r : Nat) (s : ByteArray) (w : World) (x : Int) (t : List UInt8) (e : Ending) (w' : World) : Prop :=
 Gives x (s.size - t.length) e ∧ KR r w w'
def ValPost (r : Nat) (s : ByteArray) (d : Nat) (w : World) (o : Out JV) (e : Ending) (w' : World) : Prop := match o with
 | .ok v t => ValOk r s d w v t e w'
 | .err x t => ValBad r s w x t e w'
end Go.Proofs.YtckaoeloofbklaaGreatDoor
namespace Go.Proofs.YtckaoeloofbklaaGreatDoor
open Go Go.RowKit Go.Maps
def cntS (l : List ByteArray) (x : ByteArray) : Nat := l.countP fun y => decide (y = x)
theorem cntS_app (l : List ByteArray) (y x : ByteArray) : cntS (l ++ [y]) x = cntS l x + if y = x then 1 else 0 := by unfold cntS; rw [List.countP_append, List.countP_singleton]; simp
theorem cntS_le (l : List ByteArray) (x : ByteArray) : cntS l x ≤ l.length := List.countP_le_length
theorem lawT : Keyed Tryz.prog 9 := string_keyed Tryz.underlying9
theorem zeroT (w : World) : (zeroValue 3).run Tryz.prog w = .ok (.int .i64 0) w := by kernel_rfl
def Cnt (D : DataW Unit) (l : List ByteArray) : Prop := IsMap D ∧ ∀ x : ByteArray, D.atKey (.string x.data.toList) (.lit (.int .i64 0)) = .lit (.int .i64 (cntS l x : Nat))
theorem Cnt.none : Cnt (.map []) [] := ⟨isMap_empty, fun x => by rfl⟩
theorem keyLitT (k : List UInt8) : WideAt.IsKeyLit (.string k) := by simp [WideAt.IsKeyLit]
theorem Cnt.put {D : DataW Unit} {l : List ByteArray} (h : Cnt D l) (x : ByteArray) (m : Nat) (hm : cntS l x = m) : Cnt (D.put (.string x.data.toList) (.lit (.int .i64 ((m : Int) + 1)))) (l ++ [x]) := by
 refine ⟨h.1.put _ _, fun y => ?_⟩
 rw [cntS_app]
 by_cases hy : x = y
 ·subst hy
  rw [atKey_put_same h.1 (keyLitT _), hm, if_pos rfl]
  rfl
 ·rw [atKey_put_other (fun e => hy (ByteArray.ext (Array.toList_inj.1 (by injection e with e; exact e.symm)))), h.2 y, if_neg hy]
  rfl
theorem wpList_look_cnt {P : Program} (hP : P = Tryz.prog) (w : World) {ops : Array Oper} {rest : List Oper} {o : Oper} {a : Act} {Q : Exit → Act → World → Prop} (hg : o.guard = Option.none) (m x : Operand) (hop : o.op = Op.lookup 158 m x false)
  (b n : Nat) (D : DataW Unit) (ws : List ByteArray) (hm : a.eval m = .map (some b)) (hown : w.ownsMap Tryz.prog 9 (plainElem Tryz.prog 3) b n D) (hc : Cnt D ws) (key : ByteArray) (hk : key.size ≤ maxLen) (hx : a.eval x = .string key) (c : Int) (hcn : (cntS ws key : Nat) = c)
  (hK : wpList P ops Q rest (a.put o.dst (.int .i64 c)) w) : wpList P ops Q (o :: rest) a w := by
 subst hP
 refine wpList_lookup_own_int w hg m x _ hop 9 3 .i64 lawT Tryz.underlying158 Tryz.underlying3 (zeroT w) b n D hm hown _ _ hx (WideMaps.keyOf_string_mk Tryz.underlying9 hk) ?_
 intro c' hat _
 rw [hc.2 key] at hat
 have e : c' = c := by
  simp only [DataW.lit.injEq, Lit.int.injEq, true_and] at hat
  rw [← hat, hcn]
 rw [e]
 exact hK
theorem mem_of_count {l : List ByteArray} {x : ByteArray} {m : Nat} (h : cntS l x = m) (hm : 1 ≤ m) : x ∈ l := by
 have : 0 < List.countP (fun y => decide (y = x)) l := by unfold cntS at h; omega
 obtain ⟨y, hy, h2⟩ := List.countP_pos_iff.1 this
 rwa [of_decide_eq_true h2] at hy
theorem count_of_mem {l : List ByteArray} {x : ByteArray} (h : x ∈ l) : 0 < cntS l x := List.countP_pos_iff.2 ⟨x, h, decide_eq_true rfl⟩
theorem twice_any (ok : Nat → Prop) (a : Option Addr) (c : Nat) (ks : List ByteArray) (w : World) (h : StrsAt ok w a ks) (hn : ks.length ≤ 35184372080000) (hs : ∀ k ∈ ks, k.size ≤ maxLen) :
  Calls Tryz.prog 85 #[.slice a ks.length c] w fun e w' => e = .returned (.bool (decide (¬ ks.Nodup))) ∧ Below w.heap.size w w' := by
 have hmm := @run_makeMap Tryz.prog
 have H := Lib.hid h
 have HS := Lib.hid hs
 clear h hs
 go_enter Tryz.func85, Tryz.ntmps85
 go_wp2_with fail
 go_loopg [2, 5, 9] ks.length (fun g s2 _ s9 wr => ∃ (k : Nat) (D : DataW Unit), k + g = ks.length ∧ s2 = .bool false ∧ s9 = .int .i64 k ∧ wr.ownsMap Tryz.prog 9 (plainElem Tryz.prog 3) w.heap.size k D ∧ Cnt D (ks.take k) ∧ (ks.take k).Nodup ∧ Below w.heap.size w wr)
 case atStart => exact ⟨0, _, by omega, rfl, rfl, World.ownsMap_made _ _ _ _, by rw [List.take_zero]; exact Cnt.none, by rw [List.take_zero]; exact List.nodup_nil, (Below.refl _ _).alloc (Nat.le_refl _) _⟩
 case round =>
  obtain ⟨k, D, hk, rfl, rfl, hown, hcnt, hnd, hb⟩ := hrel
  have HO := Lib.hid hown
  have HC := Lib.hid hcnt
  have HB := Lib.hid hb
  have HN := Lib.hid hnd
  clear hown hcnt hb hnd
  by_cases hlt : k < ks.length
  ·obtain ⟨x, hx⟩ : ∃ x, ks[k]? = some x := ⟨_, List.getElem?_eq_getElem hlt⟩
   obtain ⟨b, off, ha, -, hbw, hcell⟩ := H.out.resolve_left (by rintro rfl; simp at hlt)
   have hxs := HS.out x (List.mem_of_getElem? hx)
   have c0 : wr.cell? ⟨b, off + k, none⟩ = some (.string x) := by rw [HB.out.cell (p := ⟨b, off + k, none⟩) hbw]; exact hcell k x hx
   have htk : ks.take (k + 1) = ks.take k ++ [x] := by rw [List.take_add_one, hx]; rfl
   have HTK := Lib.hid htk
   have HX := Lib.hid hx
   obtain ⟨m, hm⟩ : ∃ m, cntS (ks.take k) x = m := ⟨_, rfl⟩
   have hmk : m ≤ k := by rw [← hm]; exact Nat.le_trans (cntS_le _ _) (by rw [List.length_take]; exact Nat.min_le_left _ _)
   have HM := Lib.hid hm
   have hwf : (Lit.int .i64 ((m : Int) + 1)).wf = true := by
    simp only [Lit.wf, IntKind.min, IntKind.max, IntKind.signed, IntKind.bits]
    simp
    omega
   subst ha
   clear htk hm hcell hx
   go_wp2_with (first
    | (at_lookup; refine wpList_look_cnt rfl _ rfl _ _ rfl w.heap.size k D _ rfl HO.out HC.out x hxs rfl (m : Int) (congrArg Nat.cast HM.out) ?_)
    | (at_mapUpdate; refine wpList_mapUpdate_own _ rfl _ _ _ 158 rfl 9 3 lawT Tryz.underlying158 _ w.heap.size k D rfl HO.out (by unfold maxLen; omega) _ _ _ rfl rfl (WideMaps.keyOf_string_mk Tryz.underlying9 hxs) _ [] (plainElem_int Tryz.underlying3 hwf) ?_)
    | fail)
   intro w3 hown3 hgr3
   have hc3 := HC.out.put x m HM.out
   rw [← HTK.out] at hc3
   have hct : (cntS (ks.take (k + 1)) x : Nat) = ((m : Int) + 1) := by
    rw [HTK.out, cntS_app, HM.out, if_pos rfl]; rfl
   have HO3 := Lib.hid hown3
   have HC3 := Lib.hid hc3
   have HT3 := Lib.hid hct
   have HB3 := Lib.hid (HB.out.grown hgr3 HB.out.size (fun j hj => by cases hj; exact Nat.le_refl _))
   clear hown3 hc3 hct hgr3 c0
   rcases Nat.eq_zero_or_pos m with rfl | hm0
   ·go_wp2_with (first | (at_lookup; refine wpList_look_cnt rfl _ rfl _ _ rfl w.heap.size (k + 1) _ _ rfl HO3.out HC3.out x hxs rfl _ HT3.out ?_) | fail)
    go_roundg (gk - 1)
    case measure => omega
    case rel =>
     refine ⟨k + 1, _, by omega, rfl, by go_num, HO3.out, HC3.out, ?_, HB3.out⟩
     rw [HTK.out, List.nodup_append]
     refine ⟨HN.out, by simp, fun y hy z hz => ?_⟩
     rw [List.mem_singleton] at hz
     subst hz
     rintro rfl
     have := count_of_mem hy
     rw [HM.out] at this
     omega
   ·have hgt : (1 : Int) < (m : Int) + 1 := by omega
    go_wp2_with (first | (at_lookup; refine wpList_look_cnt rfl _ rfl _ _ rfl w.heap.size (k + 1) _ _ rfl HO3.out HC3.out x hxs rfl _ HT3.out ?_) | fail)
    go_ret
    refine ⟨congrArg (fun b => Ending.returned (.bool b)) (decide_eq_true ?_).symm, HB3.out⟩
    intro hnd
    have h1 : (ks.take (k + 1)).Nodup := hnd.sublist (List.take_sublist _ _)
    rw [HTK.out, List.nodup_append] at h1
    exact h1.2.2 x (mem_of_count HM.out hm0) x (by simp) rfl
  ·obtain rfl : k = ks.length := by omega
   go_wp2_with fail
   go_ret
   refine ⟨congrArg (fun b => Ending.returned (.bool b)) (decide_eq_false ?_).symm, HB.out⟩
   have := HN.out
   rw [List.take_length] at this
   exact fun h => h this
theorem rest_eql (b b' : Bool) (n n' u u' : Int) (s s' : ByteArray) (W : World) : (binOp .eql 63 (.agg #[.bool b, .int .i64 n, .int .u64 u, .string s]) (.agg #[.bool b', .int .i64 n', .int .u64 u', .string s'])).run Tryz.prog W = .ok (.bool (decide (b = b' ∧ n = n' ∧ u = u' ∧ s = s'))) W := by
 have uB := Tryz.underlying4
 have uI := Tryz.underlying2
 have uU := Tryz.underlying23
 have uS := Tryz.underlying9
 have hS : Tryz.prog.underlying 63 = some (.struct (Tryz.prog.fieldsOf 63)) := by kernel_rfl
 have hp : Tryz.prog.stoodInHeld 63 = false := by kernel_rfl
 rw [run_eql_struct, show (10000 : Nat) = 9999 + 1 from rfl, run_equalIn_agg W 9999 63 _ _ hS hp]
 simp only [Program.fieldsOf, Tryz.underlying63]
 have hs : s.toList = s'.toList ↔ s = s' := by
  rw [ByteArray.toList_eq, ByteArray.toList_eq]
  exact ⟨fun h => ByteArray.ext (Array.toList_inj.1 h), fun h => by rw [h]⟩
 go_simp
 by_cases h1 : b = b' <;> by_cases h2 : n = n' <;> by_cases h3 : u = u' <;> by_cases h4 : s = s' <;> simp [h1, h2, h3, h4]
end Go.Proofs.YtckaoeloofbklaaGreatDoor
namespace Go.Proofs.YtckaoeloofbklaaGreatDoor
open Go Go.RowKit
def clsN (c : Nat) : Nat := if c = 48 then 1 else if 48 ≤ c ∧ c ≤ 57 then 2 else if c = 46 then 3 else if c = 69 ∨ c = 101 then 4 else if c = 43 ∨ c = 45 then 5 else if c = 95 then 6 else 0
theorem or32 (c : Nat) (h : c < 256) : (bits .or .u8 (c : Int) 32 = 101) = (c = 69 ∨ c = 101) := by
 have key : ∀ c : Fin 256, (bits .or .u8 ((c.val : Nat) : Int) 32 = 101) ↔ (c.val = 69 ∨ c.val = 101) := by decide +kernel
 exact propext (key ⟨c, h⟩)
theorem digit_yes (r : Int) (w : World) (h1 : 48 ≤ r) (h2 : r ≤ 57) :
  Calls Tryz.prog 53 #[.int .i32 r] w fun e w' => e = .returned (.bool true) ∧ w' = w := by
 go_enter Tryz.func53, Tryz.ntmps53
 go_wp2_with fail
 go_ret
 exact ⟨ret_bool (by first | rfl | (simp; done) | (simp; omega)), rfl⟩
theorem digit_low (r : Int) (w : World) (h1 : r < 48) :
  Calls Tryz.prog 53 #[.int .i32 r] w fun e w' => e = .returned (.bool false) ∧ w' = w := by
 go_enter Tryz.func53, Tryz.ntmps53
 go_wp2_with fail
 go_ret
 exact ⟨ret_bool (by simp), rfl⟩
theorem digit_high (r : Int) (w : World) (h1 : 57 < r) :
  Calls Tryz.prog 53 #[.int .i32 r] w fun e w' => e = .returned (.bool false) ∧ w' = w := by
 have h0 : 48 ≤ r := by omega
 go_enter Tryz.func53, Tryz.ntmps53
 go_wp2_with fail
 go_ret
 exact ⟨ret_bool (by simp; omega), rfl⟩
theorem digit_no (r : Int) (w : World) (h : ¬ (48 ≤ r ∧ r ≤ 57)) :
  Calls Tryz.prog 53 #[.int .i32 r] w fun e w' => e = .returned (.bool false) ∧ w' = w := by
 by_cases h1 : r < 48
 ·exact digit_low r w h1
 ·exact digit_high r w (by omega)
theorem class_0 (c : Nat) (w : World) (_h : c < 256) (hq : c = 48) :
  Calls Tryz.prog 197 #[.int .u8 c] w fun e w' => e = .returned (.int .i64 (clsN c)) ∧ w' = w := by
 have hv : clsN c = 1 := by unfold clsN; repeat (first | rw [if_pos (by omega)] | rw [if_neg (by omega)])
 rw [hv]
 have t0 : ((c : Int) == 48) = true := by rw [beq_iff_eq]; omega
 clear hv hq
 go_enter Tryz.func197, Tryz.ntmps197
 go_wp2_with fail
 go_ret
 exact ⟨rfl, rfl⟩
theorem class_1 (c : Nat) (w : World) (h : c < 256) (hq : 48 < c ∧ c ≤ 57) :
  Calls Tryz.prog 197 #[.int .u8 c] w fun e w' => e = .returned (.int .i64 (clsN c)) ∧ w' = w := by
 have hv : clsN c = 2 := by unfold clsN; repeat (first | rw [if_pos (by omega)] | rw [if_neg (by omega)])
 rw [hv]
 have HD := Lib.hid (digit_yes c w (by omega) (by omega))
 have t0 : ((c : Int) == 48) = false := by rw [beq_eq_false_iff_ne]; omega
 clear hv hq
 go_enter Tryz.func197, Tryz.ntmps197
 go_wp2_with fail
 refine HD.out.mono ?_
 rintro e w5 ⟨rfl, rfl⟩
 go_wp2_with fail
 go_ret
 exact ⟨rfl, rfl⟩
theorem class_2 (c : Nat) (w : World) (h : c < 256) (hq : c = 46) :
  Calls Tryz.prog 197 #[.int .u8 c] w fun e w' => e = .returned (.int .i64 (clsN c)) ∧ w' = w := by
 have hv : clsN c = 3 := by unfold clsN; repeat (first | rw [if_pos (by omega)] | rw [if_neg (by omega)])
 rw [hv]
 have HD := Lib.hid (digit_no c w (by omega))
 have t0 : ((c : Int) == 48) = false := by rw [beq_eq_false_iff_ne]; omega
 have t2 : ((c : Int) == 46) = true := by rw [beq_iff_eq]; omega
 clear hv hq
 go_enter Tryz.func197, Tryz.ntmps197
 go_wp2_with fail
 refine HD.out.mono ?_
 rintro e w5 ⟨rfl, rfl⟩
 go_wp2_with fail
 go_ret
 exact ⟨rfl, rfl⟩
theorem class_3 (c : Nat) (w : World) (h : c < 256) (hq : c = 69 ∨ c = 101) :
  Calls Tryz.prog 197 #[.int .u8 c] w fun e w' => e = .returned (.int .i64 (clsN c)) ∧ w' = w := by
 have hv : clsN c = 4 := by unfold clsN; repeat (first | rw [if_pos (by omega)] | rw [if_neg (by omega)])
 rw [hv]
 have ho := or32 c h
 have HD := Lib.hid (digit_no c w (by omega))
 have t0 : ((c : Int) == 48) = false := by rw [beq_eq_false_iff_ne]; omega
 have t2 : ((c : Int) == 46) = false := by rw [beq_eq_false_iff_ne]; omega
 have t3 : (bits .or .u8 (c : Int) 32 == 101) = true := by rw [beq_iff_eq, ho]; omega
 clear hv ho hq
 go_enter Tryz.func197, Tryz.ntmps197
 go_wp2_with fail
 refine HD.out.mono ?_
 rintro e w5 ⟨rfl, rfl⟩
 go_wp2_with fail
 go_ret
 exact ⟨rfl, rfl⟩
theorem class_4 (c : Nat) (w : World) (h : c < 256) (hq : c = 43) :
  Calls Tryz.prog 197 #[.int .u8 c] w fun e w' => e = .returned (.int .i64 (clsN c)) ∧ w' = w := by
 have hv : clsN c = 5 := by unfold clsN; repeat (first | rw [if_pos (by omega)] | rw [if_neg (by omega)])
 rw [hv]
 have ho := or32 c h
 have HD := Lib.hid (digit_no c w (by omega))
 have t0 : ((c : Int) == 48) = false := by rw [beq_eq_false_iff_ne]; omega
 have t2 : ((c : Int) == 46) = false := by rw [beq_eq_false_iff_ne]; omega
 have t3 : (bits .or .u8 (c : Int) 32 == 101) = false := by rw [beq_eq_false_iff_ne, ne_eq, ho]; omega
 have t4 : ((c : Int) == 43) = true := by rw [beq_iff_eq]; omega
 clear hv ho hq
 go_enter Tryz.func197, Tryz.ntmps197
 go_wp2_with fail
 refine HD.out.mono ?_
 rintro e w5 ⟨rfl, rfl⟩
 go_wp2_with fail
 go_ret
 exact ⟨rfl, rfl⟩
theorem class_5 (c : Nat) (w : World) (h : c < 256) (hq : c = 45) :
  Calls Tryz.prog 197 #[.int .u8 c] w fun e w' => e = .returned (.int .i64 (clsN c)) ∧ w' = w := by
 have hv : clsN c = 5 := by unfold clsN; repeat (first | rw [if_pos (by omega)] | rw [if_neg (by omega)])
 rw [hv]
 have ho := or32 c h
 have HD := Lib.hid (digit_no c w (by omega))
 have t0 : ((c : Int) == 48) = false := by rw [beq_eq_false_iff_ne]; omega
 have t2 : ((c : Int) == 46) = false := by rw [beq_eq_false_iff_ne]; omega
 have t3 : (bits .or .u8 (c : Int) 32 == 101) = false := by rw [beq_eq_false_iff_ne, ne_eq, ho]; omega
 have t4 : ((c : Int) == 43) = false := by rw [beq_eq_false_iff_ne]; omega
 have t5 : ((c : Int) == 45) = true := by rw [beq_iff_eq]; omega
 clear hv ho hq
 go_enter Tryz.func197, Tryz.ntmps197
 go_wp2_with fail
 refine HD.out.mono ?_
 rintro e w5 ⟨rfl, rfl⟩
 go_wp2_with fail
 go_ret
 exact ⟨rfl, rfl⟩
theorem class_6 (c : Nat) (w : World) (h : c < 256) (hq : c = 95) :
  Calls Tryz.prog 197 #[.int .u8 c] w fun e w' => e = .returned (.int .i64 (clsN c)) ∧ w' = w := by
 have hv : clsN c = 6 := by unfold clsN; repeat (first | rw [if_pos (by omega)] | rw [if_neg (by omega)])
 rw [hv]
 have ho := or32 c h
 have HD := Lib.hid (digit_no c w (by omega))
 have t0 : ((c : Int) == 48) = false := by rw [beq_eq_false_iff_ne]; omega
 have t2 : ((c : Int) == 46) = false := by rw [beq_eq_false_iff_ne]; omega
 have t3 : (bits .or .u8 (c : Int) 32 == 101) = false := by rw [beq_eq_false_iff_ne, ne_eq, ho]; omega
 have t4 : ((c : Int) == 43) = false := by rw [beq_eq_false_iff_ne]; omega
 have t5 : ((c : Int) == 45) = false := by rw [beq_eq_false_iff_ne]; omega
 have t6 : ((c : Int) == 95) = true := by rw [beq_iff_eq]; omega
 clear hv ho hq
 go_enter Tryz.func197, Tryz.ntmps197
 go_wp2_with fail
 refine HD.out.mono ?_
 rintro e w5 ⟨rfl, rfl⟩
 go_wp2_with fail
 go_ret
 exact ⟨rfl, rfl⟩
theorem class_7 (c : Nat) (w : World) (h : c < 256) (hq : ¬ (48 ≤ c ∧ c ≤ 57) ∧ c ≠ 46 ∧ c ≠ 69 ∧ c ≠ 101 ∧ c ≠ 43 ∧ c ≠ 45 ∧ c ≠ 95) :
  Calls Tryz.prog 197 #[.int .u8 c] w fun e w' => e = .returned (.int .i64 (clsN c)) ∧ w' = w := by
 have hv : clsN c = 0 := by unfold clsN; repeat (first | rw [if_pos (by omega)] | rw [if_neg (by omega)])
 rw [hv]
 have ho := or32 c h
 have HD := Lib.hid (digit_no c w (by omega))
 have t0 : ((c : Int) == 48) = false := by rw [beq_eq_false_iff_ne]; omega
 have t2 : ((c : Int) == 46) = false := by rw [beq_eq_false_iff_ne]; omega
 have t3 : (bits .or .u8 (c : Int) 32 == 101) = false := by rw [beq_eq_false_iff_ne, ne_eq, ho]; omega
 have t4 : ((c : Int) == 43) = false := by rw [beq_eq_false_iff_ne]; omega
 have t5 : ((c : Int) == 45) = false := by rw [beq_eq_false_iff_ne]; omega
 have t6 : ((c : Int) == 95) = false := by rw [beq_eq_false_iff_ne]; omega
 clear hv ho hq
 go_enter Tryz.func197, Tryz.ntmps197
 go_wp2_with fail
 refine HD.out.mono ?_
 rintro e w5 ⟨rfl, rfl⟩
 go_wp2_with fail
 go_ret
 exact ⟨rfl, rfl⟩
theorem class_any (c : Nat) (w : World) (h : c < 256) :
  Calls Tryz.prog 197 #[.int .u8 c] w fun e w' => e = .returned (.int .i64 (clsN c)) ∧ w' = w := by
 by_cases q0 : c = 48
 ·exact class_0 c w h q0
 by_cases q1 : 48 < c ∧ c ≤ 57
 ·exact class_1 c w h q1
 by_cases q2 : c = 46
 ·exact class_2 c w h q2
 by_cases q3 : c = 69 ∨ c = 101
 ·exact class_3 c w h q3
 by_cases q4 : c = 43
 ·exact class_4 c w h q4
 by_cases q5 : c = 45
 ·exact class_5 c w h q5
 by_cases q6 : c = 95
 ·exact class_6 c w h q6
 exact class_7 c w h (by omega)
end Go.Proofs.YtckaoeloofbklaaGreatDoor
namespace Go.Proofs.YtckaoeloofbklaaGreatDoor
open Go Go.RowKit Go.Lib
def Tells (f : Nat) (p : UInt8 → Bool) : Prop := ∀ (c : UInt8) (W : World), Calls Tryz.prog f #[.int .i32 (c.toNat : Int)] W fun e W' => e = .returned (.bool (p c)) ∧ W' = W
theorem wrap_byte (x : UInt8) : IntKind.i32.wrap (x.toNat : Int) = (x.toNat : Int) := by
 have := x.toNat_lt
 rw [IntKind.wrap_i32]; omega
theorem run_mid (s : ByteArray) (a u : List UInt8) (h : (a ++ u) <:+ s.data.toList) (m k : Nat) (hm : m + (a ++ u).length = s.size) (hk : k + u.length = s.size) : s.extract m k = ⟨a.toArray⟩ := by
 obtain ⟨p, hp⟩ := h
 have hl := congrArg List.length hp
 have hl2 : s.data.toList.length = s.size := by simp
 rw [List.length_append, hl2] at hl
 rw [List.length_append] at hm
 apply ByteArray.ext
 apply Array.toList_inj.1
 have e1 : (s.extract m k).data.toList = (s.data.toList.drop m).take (k - m) := by
  simp [List.extract_eq_take_drop]
 rw [e1, ← hp, show m = p.length by rw [List.length_append] at hl; omega, List.drop_left, show k - p.length = a.length by rw [List.length_append] at hl; omega, List.take_left]
theorem run_any (f : Nat) (p : UInt8 → Bool) (hf : Tells f p) (he : ∀ args w, (callFunc f args).run Tryz.prog w = .ok (.enter f args) w) (r : Nat) (s : ByteArray) (a u : List UInt8) (d : Nat) (w : World) (h : Rd r s (a ++ u) d w) (ha : a.all p = true) (hu : Ends p u) :
  Calls Tryz.prog 79 #[.pointer (some ⟨r, 0, none⟩), .func (.func f) #[] #[]] w fun e w' => e = .returned (.string ⟨a.toArray⟩) ∧ Rd r s u d w' ∧ KR r w w' := by
 have hbig := h.big
 obtain ⟨m, hm, c1⟩ := h.pos
 obtain ⟨c0, -, -⟩ := cell_agg3 h.at_
 have hmid := run_mid s a u h.suf m
 have HM := Lib.hid (fun k hk => hmid k hm hk)
 have HA := Lib.hid ha
 have HF := Lib.hid hf
 have HH := Lib.hid h
 have HMM := Lib.hid hm
 clear hmid ha hf hm
 have hms : (m : Int) ≤ (s.size : Int) := by have := HMM.out; omega
 go_enter Tryz.func79, Tryz.ntmps79
 go_wp2_with fail
 go_loopg [] a.length (fun g wr => ∃ b, b.length = g ∧ b.all p = true ∧ Rd r s (b ++ u) d wr ∧ KR r w wr)
 case atStart => exact ⟨a, rfl, HA.out, HH.out, KR.refl _ _⟩
 case round =>
  obtain ⟨b, hbg, hbp, hrd, hkr⟩ := hrel
  clear c0 c1
  obtain ⟨c0, -, -⟩ := cell_agg3 hrd.at_
  cases b with
  | nil =>
   cases u with
   | nil =>
    obtain ⟨k, hk, c1⟩ := hrd.pos
    rw [List.append_nil, List.length_nil, Nat.add_zero] at hk
    subst hk
    have hsl : ∀ W, (Instr.slice 9 (.string s) (some (.int .i64 m)) (some (.int .i64 s.size)) Option.none).run Tryz.prog W = .ok (.string ⟨a.toArray⟩) W := fun W => by
     rw [← HM.out s.size rfl]
     exact run_slice_string W 9 s .i64 .i64 m s.size Tryz.underlying9 (by omega) (by omega) (by omega)
    have HRD := Lib.hid hrd
    have HKR := Lib.hid hkr
    clear hrd hkr
    go_upto_region 2 with fail
    go_quiet (fail)
    go_wp2_with fail
    go_quiet (fail)
    go_wp2_with fail
    go_ret
    exact ⟨rfl, (HRD.out.drewN _).drewN _, (HKR.out.drewN _).drewN _⟩
   | cons x u =>
    obtain ⟨k, hlt, hk, hget, c1⟩ := hrd.head
    have hsl : ∀ W, (Instr.slice 9 (.string s) (some (.int .i64 m)) (some (.int .i64 k)) Option.none).run Tryz.prog W = .ok (.string ⟨a.toArray⟩) W := fun W => by
     rw [← HM.out k hk]
     have hmk : m ≤ k := by have := HMM.out; rw [List.length_append, List.length_cons] at this; omega
     exact run_slice_string W 9 s .i64 .i64 m k Tryz.underlying9 (by omega) (by omega) (by omega)
    have hpx : p x = false := hu
    have hwx := wrap_byte x
    have hfx := HF.out x
    rw [hpx] at hfx
    have HFX := Lib.hid hfx
    have HRD := Lib.hid hrd
    have HKR := Lib.hid hkr
    clear hrd hkr hfx
    have hli : (k : Int) < (s.size : Int) := by omega
    go_upto_region 2 with fail
    go_quiet ((exact Calls.quiet_of_same (HFX.out _)))
    go_wp2_with fail
    go_quiet (fail)
    go_wp2_with fail
    go_ret
    exact ⟨rfl, (HRD.out.drewN _).drewN _, (HKR.out.drewN _).drewN _⟩
  | cons x b =>
   obtain ⟨k, hlt, hk, hget, c1⟩ := hrd.head
   rw [List.all_cons, Bool.and_eq_true] at hbp
   have hwx := wrap_byte x
   have hfx := HF.out x
   rw [hbp.1] at hfx
   have HFX := Lib.hid hfx
   have hk' : k + ((b ++ u).length + 1) = s.size := hk
   have hset := fun n => (hrd.drewN n).set' (t' := b ++ u) (List.suffix_cons x (b ++ u)) (k + 1) (by omega)
   have HSET := Lib.hid hset
   have HKR := Lib.hid hkr
   have f1 := froz_agg hrd.at_ 1
   clear hrd hkr hfx hset
   have hli : (k : Int) < (s.size : Int) := by omega
   go_upto_region 2 with fail
   go_quiet ((exact Calls.quiet_of_same (HFX.out _)))
   go_wp2_with fail
   go_roundg (gk - 1)
   case measure => simp at hbg; omega
   case rel => exact ⟨b, by simp at hbg; omega, hbp.2, HSET.out _, (HKR.out.drewN _).set _ _⟩
end Go.Proofs.YtckaoeloofbklaaGreatDoor
namespace Go.Proofs.YtckaoeloofbklaaGreatDoor
open Go Go.RowKit Go.Lib
theorem or_al : ∀ c : Fin 256, bits .or .i32 ((c.val : Nat) : Int) 32 = ((c.val ||| 32 : Nat) : Int) := by decide +kernel
theorem or_is : ∀ c : Fin 256, (97 ≤ c.val ||| 32 ∧ c.val ||| 32 ≤ 122) ↔ isAl (UInt8.ofNat c.val) = true := by decide +kernel
theorem al_or (c : UInt8) : isAl c = decide (97 ≤ c.toNat ||| 32 ∧ c.toNat ||| 32 ≤ 122) := by
 have := or_is ⟨c.toNat, c.toNat_lt⟩
 simp only [UInt8.ofNat_toNat] at this
 rw [Bool.eq_iff_iff, decide_eq_true_iff]
 exact this.symm
theorem alphaJ_any : Tells 54 isAl := by
 intro c w
 have hor := or_al ⟨c.toNat, c.toNat_lt⟩
 have hal := al_or c
 simp only at hor
 rw [hal]
 clear hal
 generalize c.toNat ||| 32 = o at *
 by_cases h1 : 97 ≤ o
 ·by_cases h2 : o ≤ 122
  ·have e : decide (97 ≤ o ∧ o ≤ 122) = true := decide_eq_true ⟨h1, h2⟩
   rw [e]
   go_enter Tryz.func54, Tryz.ntmps54
   go_wp2_with fail
   go_ret
   exact ⟨ret_bool (by first | rfl | (simp; done) | (simp; omega)), rfl⟩
  ·have e : decide (97 ≤ o ∧ o ≤ 122) = false := decide_eq_false (fun h => h2 h.2)
   have h3 : 122 < o := by omega
   rw [e]
   clear h2
   go_enter Tryz.func54, Tryz.ntmps54
   go_wp2_with fail
   go_ret
   exact ⟨ret_bool (by first | rfl | (simp; done) | (simp; omega)), rfl⟩
 ·have e : decide (97 ≤ o ∧ o ≤ 122) = false := decide_eq_false (fun h => h1 h.1)
  have h3 : o < 97 := by omega
  rw [e]
  clear h1
  go_enter Tryz.func54, Tryz.ntmps54
  go_wp2_with fail
  go_ret
  exact ⟨ret_bool (by first | rfl | (simp; done) | (simp; omega)), rfl⟩
theorem digit_any : Tells 53 isDgB := by
 intro c w
 by_cases h : 48 ≤ c.toNat ∧ c.toNat ≤ 57
 ·have e : isDgB c = true := decide_eq_true h
  rw [e]
  exact digit_yes _ w (by omega) (by omega)
 ·have e : isDgB c = false := decide_eq_false h
  rw [e]
  exact digit_no _ w (by omega)
theorem strc_any : Tells 112 strC := by
 intro c w
 have hc := c.toNat_lt
 by_cases h1 : 32 ≤ c.toNat
 ·have h34 : (c == 34) = decide (c.toNat = 34) := by rw [Bool.eq_iff_iff, beq_iff_eq, decide_eq_true_iff, ← UInt8.toNat_inj]; rfl
  have h92 : (c == 92) = decide (c.toNat = 92) := by rw [Bool.eq_iff_iff, beq_iff_eq, decide_eq_true_iff, ← UInt8.toNat_inj]; rfl
  have e : strC c = (!decide (c.toNat = 34) && !decide (c.toNat = 92)) := by
   unfold strC
   rw [decide_eq_true h1, bne, bne, h34, h92]; rfl
  rw [e]
  clear e h34 h92
  generalize c.toNat = n at *
  by_cases h2 : n = 34
  ·subst h2
   go_enter Tryz.func112, Tryz.ntmps112
   go_wp2_with fail
   go_ret
   exact ⟨rfl, rfl⟩
  ·by_cases h3 : n = 92
   ·subst h3
    go_enter Tryz.func112, Tryz.ntmps112
    go_wp2_with fail
    go_ret
    exact ⟨rfl, rfl⟩
   ·rw [decide_eq_false h2, decide_eq_false h3]
    have g2 : (n : Int) ≠ 34 := by omega
    have g3 : (n : Int) ≠ 92 := by omega
    go_enter Tryz.func112, Tryz.ntmps112
    go_wp2_with fail
    go_ret
    exact ⟨ret_bool (by first | rfl | (simp; done) | (simp; omega)), rfl⟩
 ·have e : strC c = false := by unfold strC; rw [decide_eq_false h1]; rfl
  have h3 : c.toNat < 32 := by omega
  rw [e]
  clear h1 e
  go_enter Tryz.func112, Tryz.ntmps112
  go_wp2_with fail
  go_ret
  exact ⟨ret_bool (by first | rfl | (simp; done) | (simp; omega)), rfl⟩
theorem numc_any : Tells 80 numC := by
 intro c w
 have HA := Lib.hid (alphaJ_any c)
 have HD := Lib.hid (digit_any c)
 have h46 : (c == 46) = decide (c.toNat = 46) := by rw [Bool.eq_iff_iff, beq_iff_eq, decide_eq_true_iff, ← UInt8.toNat_inj]; rfl
 have h43 : (c == 43) = decide (c.toNat = 43) := by rw [Bool.eq_iff_iff, beq_iff_eq, decide_eq_true_iff, ← UInt8.toNat_inj]; rfl
 have h45 : (c == 45) = decide (c.toNat = 45) := by rw [Bool.eq_iff_iff, beq_iff_eq, decide_eq_true_iff, ← UInt8.toNat_inj]; rfl
 have hc := c.toNat_lt
 unfold numC
 rw [h46, h43, h45]
 clear h46 h43 h45
 generalize isAl c = a at *
 generalize isDgB c = dg at *
 generalize c.toNat = n at *
 by_cases q46 : n = 46
 ·subst q46
  cases a <;> cases dg
  all_goals
   go_enter Tryz.func80, Tryz.ntmps80
   go_wp2_with (first | (refine (HA.out _).mono ?_; rintro e w5 ⟨rfl, rfl⟩) | (refine (HD.out _).mono ?_; rintro e w5 ⟨rfl, rfl⟩) | fail)
   go_ret
   exact ⟨rfl, rfl⟩
 ·have g46 : (n : Int) ≠ 46 := by omega
  rw [decide_eq_false q46]
  by_cases q43 : n = 43
  ·subst q43
   cases a <;> cases dg
   all_goals
    go_enter Tryz.func80, Tryz.ntmps80
    go_wp2_with (first | (refine (HA.out _).mono ?_; rintro e w5 ⟨rfl, rfl⟩) | (refine (HD.out _).mono ?_; rintro e w5 ⟨rfl, rfl⟩) | fail)
    go_ret
    exact ⟨rfl, rfl⟩
  ·have g43 : (n : Int) ≠ 43 := by omega
   rw [decide_eq_false q43]
   by_cases q45 : n = 45
   ·subst q45
    cases a <;> cases dg
    all_goals
     go_enter Tryz.func80, Tryz.ntmps80
     go_wp2_with (first | (refine (HA.out _).mono ?_; rintro e w5 ⟨rfl, rfl⟩) | (refine (HD.out _).mono ?_; rintro e w5 ⟨rfl, rfl⟩) | fail)
     go_ret
     exact ⟨rfl, rfl⟩
   ·have g45 : (n : Int) ≠ 45 := by omega
    rw [decide_eq_false q45]
    cases a <;> cases dg
    all_goals
     go_enter Tryz.func80, Tryz.ntmps80
     go_wp2_with (first | (refine (HA.out _).mono ?_; rintro e w5 ⟨rfl, rfl⟩) | (refine (HD.out _).mono ?_; rintro e w5 ⟨rfl, rfl⟩) | fail)
     go_ret
     exact ⟨ret_bool (by first | rfl | (simp; done) | (simp; omega)), rfl⟩
end Go.Proofs.YtckaoeloofbklaaGreatDoor
namespace Go.Proofs.YtckaoeloofbklaaGreatDoor
open Go Go.RowKit Go.Lib
theorem ent_alpha : ∀ args w, (callFunc 54 args).run Tryz.prog w = .ok (.enter 54 args) w := enters_of Tryz.func54 (by kernel_rfl) rfl
theorem ent_numc : ∀ args w, (callFunc 80 args).run Tryz.prog w = .ok (.enter 80 args) w := enters_of Tryz.func80 (by kernel_rfl) rfl
theorem ent_strc : ∀ args w, (callFunc 112 args).run Tryz.prog w = .ok (.enter 112 args) w := enters_of Tryz.func112 (by kernel_rfl) rfl
theorem Rd.alloc {r : Nat} {s : ByteArray} {t : List UInt8} {d : Nat} {w : World} (h : Rd r s t d w) (o : Obj) : Rd r s t d (w.alloc o) := h.below ((Below.refl _ _).alloc (Nat.le_refl _) o)
theorem KR.alloc {r : Nat} {a w : World} (h : KR r a w) (o : Obj) : KR r a (w.alloc o) := h.trans (KR.of ((Below.refl _ _).alloc (Nat.le_refl _) o))
theorem KR.setNew {r : Nat} {a w : World} (h : KR r a w) (p : Addr) (u : Value) (hp : a.heap.size ≤ p.block) : KR r a (w.setCell p u) :=
 ⟨h.os, h.tape, h.output, by simpa [World.setCell] using h.size, fun k hk hr => (Below.heap_setCell w p u k (by omega)).trans (h.block k hk hr)⟩
theorem cell_agg7 {w : World} {b : Nat} {x0 x1 x2 x3 x4 x5 x6 : Value} {T : TypeId} {f : Nat × Nat} (h : w.heap[b]? = some (.cells #[x0, x1, x2, x3, x4, x5, x6] T f)) :
  w.cell? ⟨b, 0, none⟩ = some x0 ∧ w.cell? ⟨b, 1, none⟩ = some x1 ∧ w.cell? ⟨b, 2, none⟩ = some x2 ∧ w.cell? ⟨b, 3, none⟩ = some x3 ∧ w.cell? ⟨b, 4, none⟩ = some x4 ∧ w.cell? ⟨b, 5, none⟩ = some x5 ∧ w.cell? ⟨b, 6, none⟩ = some x6 := by
 refine ⟨?_, ?_, ?_, ?_, ?_, ?_, ?_⟩ <;> simp [World.cell?, h]
theorem seven_set {w : World} {p : Nat} {T : TypeId} {x0 x1 x2 x3 x4 x5 x6 : Value} (h : w.heap[p]? = some (.cells #[x0, x1, x2, x3, x4, x5, x6] T (0, 0))) (y0 y1 y2 y3 y4 y5 y6 : Value) :
  (((((((w.setCell ⟨p, 0, none⟩ y0).setCell ⟨p, 1, none⟩ y1).setCell ⟨p, 2, none⟩ y2).setCell ⟨p, 3, none⟩ y3).setCell ⟨p, 4, none⟩ y4).setCell ⟨p, 5, none⟩ y5).setCell ⟨p, 6, none⟩ y6).heap[p]? = some (.cells #[y0, y1, y2, y3, y4, y5, y6] T (0, 0)) := by
 have h0 := setCellJ (j := 0) h y0
 have h1 := setCellJ (j := 1) h0 y1
 have h2 := setCellJ (j := 2) h1 y2
 have h3 := setCellJ (j := 3) h2 y3
 have h4 := setCellJ (j := 4) h3 y4
 have h5 := setCellJ (j := 5) h4 y5
 have h6 := setCellJ (j := 6) h5 y6
 simpa using h6
def set7 (w : World) (p : Nat) (y0 y1 y2 y3 y4 y5 y6 : Value) : World :=
 ((((((w.setCell ⟨p, 0, none⟩ y0).setCell ⟨p, 1, none⟩ y1).setCell ⟨p, 2, none⟩ y2).setCell ⟨p, 3, none⟩ y3).setCell ⟨p, 4, none⟩ y4).setCell ⟨p, 5, none⟩ y5).setCell ⟨p, 6, none⟩ y6
theorem set7_kr {r p : Nat} {a w : World} (h : KR r a w) (hp : a.heap.size ≤ p) (y0 y1 y2 y3 y4 y5 y6 : Value) : KR r a (set7 w p y0 y1 y2 y3 y4 y5 y6) :=
 ((((((h.setNew _ y0 hp).setNew _ y1 hp).setNew _ y2 hp).setNew _ y3 hp).setNew _ y4 hp).setNew _ y5 hp).setNew _ y6 hp
theorem set7_block {p k : Nat} {w : World} (hk : k ≠ p) (y0 y1 y2 y3 y4 y5 y6 : Value) : (set7 w p y0 y1 y2 y3 y4 y5 y6).heap[k]? = w.heap[k]? := by
 unfold set7
 rw [Below.heap_setCell _ _ _ _ hk, Below.heap_setCell _ _ _ _ hk, Below.heap_setCell _ _ _ _ hk, Below.heap_setCell _ _ _ _ hk, Below.heap_setCell _ _ _ _ hk, Below.heap_setCell _ _ _ _ hk, Below.heap_setCell _ _ _ _ hk]
theorem set7_ok {r p : Nat} {s : ByteArray} {t : List UInt8} {d : Nat} {a w : World} {k : Int} {b : Bool} {n u : Int} {x : ByteArray} {e : Ending} (he : e = .returned (atomV k b n u x)) (h : KR r a w) (hr : Rd r s t d w) (hp : a.heap.size ≤ p) (hrp : r < a.heap.size) (y0 y1 y2 y3 y4 y5 y6 : Value) :
  ValOk r s d a (.mk k b n u x [] []) t e (set7 w p y0 y1 y2 y3 y4 y5 y6) :=
 ⟨_, he, atom_at _ _ _ _ _ _ _, hr.kept (set7_block (by omega) ..), set7_kr h hp ..⟩
theorem word_null (r : Nat) (s : ByteArray) (t : List UInt8) (d : Nat) (w : World) (h : Rd r s (([110, 117, 108, 108] : List UInt8) ++ t) d w) (ht : Ends isAl t) :
  Calls Tryz.prog 55 #[.pointer (some ⟨r, 0, none⟩)] w (ValOk r s d w jNull t) := by
 have hal := h.alloc (.cells #[.int .u8 0, .bool false, .int .i64 0, .int .u64 0, .string ⟨#[]⟩, .slice none 0 0, .slice none 0 0] 27)
 have HR := Lib.hid (run_any _ isAl alphaJ_any ent_alpha r s ([110, 117, 108, 108] : List UInt8) t d _ hal (by decide) ht)
 obtain ⟨m, hm, c1⟩ := hal.pos
 have hnew := heap_alloc_new w (.cells #[.int .u8 0, .bool false, .int .i64 0, .int .u64 0, .string ⟨#[]⟩, .slice none 0 0, .slice none 0 0] 27)
 have HN := Lib.hid hnew
 have hrl := h.lt
 have HKR := Lib.hid ((KR.refl r w).alloc (.cells #[.int .u8 0, .bool false, .int .i64 0, .int .u64 0, .string ⟨#[]⟩, .slice none 0 0, .slice none 0 0] 27))
 clear h hal hm hnew
 go_enter Tryz.func55, Tryz.ntmps55
 go_wp2_with fail
 refine HR.out.mono ?_
 rintro e w1 ⟨rfl, hrd, hkr⟩
 have hn1 := (hkr.block w.heap.size (by simp) (by omega)).trans HN.out
 obtain ⟨n0, n1, n2, n3, n4, n5, n6⟩ := cell_agg7 hn1
 have q : ∀ j, w1.frozen? ⟨w.heap.size, j, none⟩ = false := fun j => froz_agg hn1 j
 have HRD := Lib.hid hrd
 have HK1 := Lib.hid hkr
 have HN1 := Lib.hid hn1
 clear hrd hkr hn1
 go_wp2_with fail
 show bodyPost _ _ _ _ _ (set7 w1 w.heap.size (.int .u8 1) (.bool false) (.int .i64 0) (.int .u64 0) (.string ⟨#[]⟩) (.slice none 0 0) (.slice none 0 0))
 have hF := seven_set HN1.out (.int .u8 1) (.bool false) (.int .i64 0) (.int .u64 0) (.string ⟨#[]⟩) (.slice none 0 0) (.slice none 0 0)
 have hok := fun e he => set7_ok (e := e) (k := 1) (b := false) (n := 0) (u := 0) (x := ⟨#[]⟩) (p := w.heap.size) he (HKR.out.trans HK1.out) HRD.out (Nat.le_refl _) hrl (.int .u8 1) (.bool false) (.int .i64 0) (.int .u64 0) (.string ⟨#[]⟩) (.slice none 0 0) (.slice none 0 0)
 unfold set7 at hok ⊢
 generalize ((((((w1.setCell ⟨w.heap.size, 0, none⟩ (.int .u8 1)).setCell ⟨w.heap.size, 1, none⟩ (.bool false)).setCell ⟨w.heap.size, 2, none⟩ (.int .i64 0)).setCell ⟨w.heap.size, 3, none⟩ (.int .u64 0)).setCell ⟨w.heap.size, 4, none⟩ (.string ⟨#[]⟩)).setCell ⟨w.heap.size, 5, none⟩ (.slice none 0 0)).setCell ⟨w.heap.size, 6, none⟩ (.slice none 0 0) = F at *
 obtain ⟨g0, g1, g2, g3, g4, g5, g6⟩ := cell_agg7 hF
 refine bodyPost_ret (v := atomV 1 false 0 0 ⟨#[]⟩) (by simp [results, Tryz.results55, go_sem, atomV, g0, g1, g2, g3, g4, g5, g6]) rfl ?_
 exact hok _ rfl
theorem word_true (r : Nat) (s : ByteArray) (t : List UInt8) (d : Nat) (w : World) (h : Rd r s (([116, 114, 117, 101] : List UInt8) ++ t) d w) (ht : Ends isAl t) :
  Calls Tryz.prog 55 #[.pointer (some ⟨r, 0, none⟩)] w (ValOk r s d w (jBool true) t) := by
 have hal := h.alloc (.cells #[.int .u8 0, .bool false, .int .i64 0, .int .u64 0, .string ⟨#[]⟩, .slice none 0 0, .slice none 0 0] 27)
 have HR := Lib.hid (run_any _ isAl alphaJ_any ent_alpha r s ([116, 114, 117, 101] : List UInt8) t d _ hal (by decide) ht)
 obtain ⟨m, hm, c1⟩ := hal.pos
 have hnew := heap_alloc_new w (.cells #[.int .u8 0, .bool false, .int .i64 0, .int .u64 0, .string ⟨#[]⟩, .slice none 0 0, .slice none 0 0] 27)
 have HN := Lib.hid hnew
 have hrl := h.lt
 have HKR := Lib.hid ((KR.refl r w).alloc (.cells #[.int .u8 0, .bool false, .int .i64 0, .int .u64 0, .string ⟨#[]⟩, .slice none 0 0, .slice none 0 0] 27))
 clear h hal hm hnew
 go_enter Tryz.func55, Tryz.ntmps55
 go_wp2_with fail
 refine HR.out.mono ?_
 rintro e w1 ⟨rfl, hrd, hkr⟩
 have hn1 := (hkr.block w.heap.size (by simp) (by omega)).trans HN.out
 obtain ⟨n0, n1, n2, n3, n4, n5, n6⟩ := cell_agg7 hn1
 have q : ∀ j, w1.frozen? ⟨w.heap.size, j, none⟩ = false := fun j => froz_agg hn1 j
 have HRD := Lib.hid hrd
 have HK1 := Lib.hid hkr
 have HN1 := Lib.hid hn1
 clear hrd hkr hn1
 go_wp2_with fail
 show bodyPost _ _ _ _ _ (set7 w1 w.heap.size (.int .u8 2) (.bool true) (.int .i64 0) (.int .u64 0) (.string ⟨#[]⟩) (.slice none 0 0) (.slice none 0 0))
 have hF := seven_set HN1.out (.int .u8 2) (.bool true) (.int .i64 0) (.int .u64 0) (.string ⟨#[]⟩) (.slice none 0 0) (.slice none 0 0)
 have hok := fun e he => set7_ok (e := e) (k := 2) (b := true) (n := 0) (u := 0) (x := ⟨#[]⟩) (p := w.heap.size) he (HKR.out.trans HK1.out) HRD.out (Nat.le_refl _) hrl (.int .u8 2) (.bool true) (.int .i64 0) (.int .u64 0) (.string ⟨#[]⟩) (.slice none 0 0) (.slice none 0 0)
 unfold set7 at hok ⊢
 generalize ((((((w1.setCell ⟨w.heap.size, 0, none⟩ (.int .u8 2)).setCell ⟨w.heap.size, 1, none⟩ (.bool true)).setCell ⟨w.heap.size, 2, none⟩ (.int .i64 0)).setCell ⟨w.heap.size, 3, none⟩ (.int .u64 0)).setCell ⟨w.heap.size, 4, none⟩ (.string ⟨#[]⟩)).setCell ⟨w.heap.size, 5, none⟩ (.slice none 0 0)).setCell ⟨w.heap.size, 6, none⟩ (.slice none 0 0) = F at *
 obtain ⟨g0, g1, g2, g3, g4, g5, g6⟩ := cell_agg7 hF
 refine bodyPost_ret (v := atomV 2 true 0 0 ⟨#[]⟩) (by simp [results, Tryz.results55, go_sem, atomV, g0, g1, g2, g3, g4, g5, g6]) rfl ?_
 exact hok _ rfl
theorem word_false (r : Nat) (s : ByteArray) (t : List UInt8) (d : Nat) (w : World) (h : Rd r s (([102, 97, 108, 115, 101] : List UInt8) ++ t) d w) (ht : Ends isAl t) :
  Calls Tryz.prog 55 #[.pointer (some ⟨r, 0, none⟩)] w (ValOk r s d w (jBool false) t) := by
 have hal := h.alloc (.cells #[.int .u8 0, .bool false, .int .i64 0, .int .u64 0, .string ⟨#[]⟩, .slice none 0 0, .slice none 0 0] 27)
 have HR := Lib.hid (run_any _ isAl alphaJ_any ent_alpha r s ([102, 97, 108, 115, 101] : List UInt8) t d _ hal (by decide) ht)
 obtain ⟨m, hm, c1⟩ := hal.pos
 have hnew := heap_alloc_new w (.cells #[.int .u8 0, .bool false, .int .i64 0, .int .u64 0, .string ⟨#[]⟩, .slice none 0 0, .slice none 0 0] 27)
 have HN := Lib.hid hnew
 have hrl := h.lt
 have HKR := Lib.hid ((KR.refl r w).alloc (.cells #[.int .u8 0, .bool false, .int .i64 0, .int .u64 0, .string ⟨#[]⟩, .slice none 0 0, .slice none 0 0] 27))
 clear h hal hm hnew
 go_enter Tryz.func55, Tryz.ntmps55
 go_wp2_with fail
 refine HR.out.mono ?_
 rintro e w1 ⟨rfl, hrd, hkr⟩
 have hn1 := (hkr.block w.heap.size (by simp) (by omega)).trans HN.out
 obtain ⟨n0, n1, n2, n3, n4, n5, n6⟩ := cell_agg7 hn1
 have q : ∀ j, w1.frozen? ⟨w.heap.size, j, none⟩ = false := fun j => froz_agg hn1 j
 have HRD := Lib.hid hrd
 have HK1 := Lib.hid hkr
 have HN1 := Lib.hid hn1
 clear hrd hkr hn1
 go_wp2_with fail
 show bodyPost _ _ _ _ _ (set7 w1 w.heap.size (.int .u8 2) (.bool false) (.int .i64 0) (.int .u64 0) (.string ⟨#[]⟩) (.slice none 0 0) (.slice none 0 0))
 have hF := seven_set HN1.out (.int .u8 2) (.bool false) (.int .i64 0) (.int .u64 0) (.string ⟨#[]⟩) (.slice none 0 0) (.slice none 0 0)
 have hok := fun e he => set7_ok (e := e) (k := 2) (b := false) (n := 0) (u := 0) (x := ⟨#[]⟩) (p := w.heap.size) he (HKR.out.trans HK1.out) HRD.out (Nat.le_refl _) hrl (.int .u8 2) (.bool false) (.int .i64 0) (.int .u64 0) (.string ⟨#[]⟩) (.slice none 0 0) (.slice none 0 0)
 unfold set7 at hok ⊢
 generalize ((((((w1.setCell ⟨w.heap.size, 0, none⟩ (.int .u8 2)).setCell ⟨w.heap.size, 1, none⟩ (.bool false)).setCell ⟨w.heap.size, 2, none⟩ (.int .i64 0)).setCell ⟨w.heap.size, 3, none⟩ (.int .u64 0)).setCell ⟨w.heap.size, 4, none⟩ (.string ⟨#[]⟩)).setCell ⟨w.heap.size, 5, none⟩ (.slice none 0 0)).setCell ⟨w.heap.size, 6, none⟩ (.slice none 0 0) = F at *
 obtain ⟨g0, g1, g2, g3, g4, g5, g6⟩ := cell_agg7 hF
 refine bodyPost_ret (v := atomV 2 false 0 0 ⟨#[]⟩) (by simp [results, Tryz.results55, go_sem, atomV, g0, g1, g2, g3, g4, g5, g6]) rfl ?_
 exact hok _ rfl
end Go.Proofs.YtckaoeloofbklaaGreatDoor
