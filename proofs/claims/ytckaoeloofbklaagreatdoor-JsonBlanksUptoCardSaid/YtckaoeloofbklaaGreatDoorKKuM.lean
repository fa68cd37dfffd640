/- The law JsonBlanks, where what it reads is of bulk at most 1048576: from its walk to what the row says. -/
import Derived.Test.YtckaoeloofbklaaGreatDoorKKs
import Derived.Test.YtckaoeloofbklaaGreatDoorYv
import Derived.ChangeSlices
import Derived.Deep.DeepHandedRow
namespace Go.Proofs.YtckaoeloofbklaaGreatDoor
open Go Go.ChangeShapes Go.WideShapes Go.ChangeAt Go.RowKit Go.WideMaps Go.WideElems Go.Deep
theorem bulk_lits {H : Type} (k : IntKind) : ∀ zs : List Int, Rows.uptoBulkAll (lits (H := H) k zs) = zs.length
  | [] => rfl
  | z :: zs => by
    have := bulk_lits (H := H) k zs
    simp only [lits, List.map_cons, Rows.uptoBulkAll, Rows.uptoBulk, List.length_cons] at this ⊢
    omega
section
variable {H : Type} {enc : TypeId × Value → H} {W : World}
theorem blk_of_trod {v : Value} {x : DataW H} {p : List MemPlace} (h : DataW.Trod enc Tryz.prog W 0 (fun _ => true) true 28 v x p) (hv : ∃ a len cap, v = .slice a len cap) :
    ∃ a len cap, v = .slice a len cap ∧ BlkAt W a len ∧ len ≤ Rows.uptoBulk x := by
  obtain ⟨fuel, hf⟩ := h
  obtain ⟨va, vl, vc, rfl⟩ := hv
  simp only [Value.cells] at hf
  rcases open_ints Tryz.underlying28 Tryz.underlying5 c_u8 hf with ⟨hcs, _⟩ | ⟨ad, len, cap, zs, hcs, _, hl, hm, hz, hd, hcell, hwf⟩
  · simp at hcs
    obtain ⟨rfl, rfl, rfl⟩ := hcs
    exact ⟨_, _, _, rfl, .inl rfl, Nat.zero_le _⟩
  · simp at hcs
    obtain ⟨rfl, rfl, rfl⟩ := hcs
    simp only [if_true] at hz
    refine ⟨_, _, _, rfl, ?_, ?_⟩
    · by_cases h0 : vl = 0
      · exact .inl h0
      · right
        have hc0 := hcell 0 (by omega)
        have hspot : ad.spot = Option.none := by
          have := World.cell?_spot hc0
          simpa [Addr.add] using this
        obtain ⟨b, off, spot⟩ := ad
        simp at hspot
        subst hspot
        refine ⟨b, off, rfl, ?_, fun j hj => ?_⟩
        · have := World.block_lt_of_cell? W (u := .int .u8 (zs.getD 0 0)) ⟨b, off, Option.none⟩ (by simpa [Addr.add] using hc0)
          exact this
        · refine ⟨zs.getD j 0, ?_, ?_⟩
          · have := hcell j (by omega)
            rw [show (⟨b, off, Option.none⟩ : Addr).add j = ⟨b, off + j, Option.none⟩ from by unfold Addr.add; split <;> simp_all] at this
            exact this
          · have hj' : j < zs.length := by omega
            have := hwf (zs.getD j 0) (by rw [List.getD_eq_getElem?_getD, List.getElem?_eq_getElem hj']; exact List.getElem_mem hj')
            simp only [Lit.wf, IntKind.min, IntKind.max, IntKind.signed, IntKind.bits] at this
            simpa using this
    · have hd' : x = .slice (lits .u8 (zs.take vl)) (lits .u8 (zs.drop vl)) := congrArg Prod.fst hd
      rw [hd', Rows.uptoBulk, bulk_lits, bulk_lits, List.length_take, List.length_drop]
      omega
end
theorem witness_row_shaped {H : Type} {enc : TypeId × Value → H} {C : Checked} {os : Os} {f : FuncId} {fn : Func} {s : OpenSpec} {conds : List PathCond} {apart : Bool} {laid : List (String × DataW Unit)} (w0 : World) (args : Array Value) (hos : w0.os = os)
    (hsh : (w0.forCall (fun _ _ => 0) ⟨#[], args, []⟩).Shaped C.prog)
    (hok : Input.okWideB C.prog (w0.forCall (fun _ _ => 0) ⟨#[], args, []⟩) f ⟨#[], args, []⟩ = true)
    (hrow : s.preRow enc C.prog fn conds apart laid (w0.forCall (fun _ _ => 0) ⟨#[], args, []⟩).memory args) :
    ∃ (w : World) (tape : Tape) (i : Input), w.os = os ∧ (w.forCall tape i).Shaped C.prog ∧ i.vars = [] ∧ Input.okWide C.prog (w.forCall tape i) .any w.heap.size f i ∧
      s.preRow enc C.prog fn conds apart laid (w.forCall tape i).memory i.args ∧ ({} : Assume).holds C.prog (lone (Frame.enter C.prog f i.args .normal) [] (w.forCall tape i)) :=
  ⟨w0, fun _ _ => 0, ⟨#[], args, []⟩, hos, hsh, (Input.okWide_of_okWideB (base := 0) hok).1, (Input.okWide_of_okWideB hok).2, hrow, by
    simp only [Assume.holds]
    exact ⟨by simp, by simp, by simp, by simp, by simp⟩⟩
def uptoArgs : Array Value := #[.agg #[.int .u8 0, .bool false, .int .i64 0, .int .u64 0, .string ⟨#[]⟩, .slice Option.none 0 0, .slice Option.none 0 0], .slice Option.none 0 0]
set_option maxRecDepth 100000 in
theorem upto_reads (os : Os) {H : Type} (enc : TypeId × Value → H) : DataW.whole enc Tryz.prog ((World.laidAll Tryz.prog os laidL).forCall (fun _ _ => 0) ⟨#[], uptoArgs, []⟩).memory Tryz.f3.params.toList Rows.jsonBlanksSpec.vars false uptoArgs.toList 8 =
    some ([.agg [.lit (.int .u8 0), .lit (.bool false), .lit (.int .i64 0), .lit (.int .u64 0), .lit (.string []), .nil, .nil], .nil], [], []) := by kernel_rfl
set_option maxRecDepth 100000 in
theorem jsonBlanksUpto_lifted (os : Os) (started : os.Started) (H : Type) (enc : TypeId × Value → H) (F : Stop.Interp) :
    ReturnsInHanded {} Tryz.checked os 3 .any ((Rows.OpenSpec.upto Rows.jsonBlanksSpec).preRow enc Tryz.prog Tryz.f3 Rows.jsonBlanksUptoRow.domain false Rows.jsonBlanksUptoRow.laid)
      (((Rows.OpenSpec.upto Rows.jsonBlanksSpec).at F).post enc Tryz.prog Tryz.f3 false true false false) := by
  refine returnsInHanded_of_row (C := Tryz.checked) (s := Rows.OpenSpec.upto Rows.jsonBlanksSpec) own started (by kernel_rfl) Tryz.func3
    (witness_row_shaped (enc := enc) (C := Tryz.checked) (World.laidAll Tryz.prog os laidL) uptoArgs (World.laidAll_os _ _ _) (World.shaped_of_ZipB (by kernel_rfl) (by kernel_rfl)) (by kernel_rfl)
      (OpenSpec.preRow_of_cond 8 (upto_reads os enc) (by kernel_rfl) (fun k hk => by cases hk; kernel_rfl) (by kernel_rfl) (all_met os _))) ?_
  intro W base args ds gs before hval0 hW _ hk hsz0 hL hsh _
  have hsm := hk _ rfl
  have hval : ∀ (j : Nat) t v, Tryz.f3.params[j]? = some t → args[j]? = some v → Value.okWide Tryz.prog W .any base t v := hval0
  have hW' := hW
  obtain ⟨p, q, hA0, hV, rfl, hfz, hnd⟩ := hW
  have hA : DataW.TrodAll enc Tryz.prog W 0 (fun _ => true) true Tryz.f3.params.toList args.toList ds p := hA0
  rw [Tryz.params3] at hA hval hsz0
  obtain ⟨v0, vs0, d0, ds0, p0, q0, hargs, rfl, rfl, h0, r0⟩ := trodAll_cons hA
  obtain ⟨v1, vs1, d1, ds1, p1, q1, rfl, rfl, rfl, h1, r1⟩ := trodAll_cons r0
  obtain ⟨rfl, rfl, rfl⟩ := trodAll_nil r1
  obtain rfl : args = #[v0, v1] := by cases args; simp_all
  obtain ⟨rfl, rfl⟩ := trodVars_none hV
  have lt0 : ∀ x ∈ p0, x.block < W.heap.size := by obtain ⟨m, hm⟩ := h0; exact DataW.trod_lt m _ _ _ hm
  have lt1 : ∀ x ∈ p1, x.block < W.heap.size := by obtain ⟨m, hm⟩ := h1; exact DataW.trod_lt m _ _ _ hm
  obtain ⟨cs0, rfl, _⟩ := okWide_struct Tryz.underlying27 (hval 0 27 v0 rfl rfl)
  obtain ⟨x0, hj0, hk0, hr0, hl0, hb0⟩ := arg_value_at 0 h0 ⟨_, rfl⟩ rfl rfl hsz0
  obtain ⟨a1, len1, cap1, rfl, hb1, hle1⟩ := blk_of_trod h1 (okWide_slice Tryz.underlying28 (hval 1 28 v1 rfl rfl))
  have hsm' : Rows.uptoBulk d0 + Rows.uptoBulk d1 ≤ 1048576 := by
    have := of_decide_eq_true hsm
    simpa [Rows.uptoBulkAll] using this
  clear hA0 hval0
  obtain ⟨hG, hT⟩ := glob_of_laid hL hsh
  have hU := tabs_of_laid hL
  refine (blanks_walk _ x0 _ a1 len1 cap1 W.heap.size W hU hG hT hj0 hk0 hr0 hl0 (by omega) hb1 (by omega)).mono fun e W' ⟨he, bel⟩ => ?_
  subst he
  exact ⟨_, rfl, _, _, _, [], _, [], hW', trodAll_mk1 (shut_bool Tryz.underlying4 _), (trodAll_cons_mk (Below.trod laidOut (by kernel_rfl) (of_decide_eq_true (by kernel_rfl)) h0 bel lt0) (trodAll_cons_mk (Below.trod laidOut (by kernel_rfl) (of_decide_eq_true (by kernel_rfl)) h1 bel lt1) trodAll_mk0)), rfl, bel.frame _, fun h => by cases h⟩
theorem jsonBlanksUpto_said : Rows.JsonBlanksUptoSaid :=
  OpenClaim.holds_of_cond 3 Tryz.f3 rfl rfl rfl rfl rfl rfl rfl ⟨rfl, rfl, rfl, rfl, rfl⟩ rfl rfl rfl rfl rfl (by kernel_rfl) Tryz.func3 (by kernel_rfl)
    (of_decide_eq_true (by kernel_rfl)) (by unfold Func.isWrapper; first | (rw [if_pos (by decide +kernel)]; kernel_rfl) | (rw [if_neg (by decide +kernel)]; exact ⟨rfl, rfl⟩))
    (fun os started H enc _ F => by rw [OpenClaim.pre_eq_preRow]; exact jsonBlanksUpto_lifted os started H enc F)
end Go.Proofs.YtckaoeloofbklaaGreatDoor
