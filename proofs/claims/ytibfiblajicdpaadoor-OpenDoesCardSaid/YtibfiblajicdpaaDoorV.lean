/- What Remove and Replace do to a stack. -/
import Derived.Test.YtibfiblajicdpaaDoorT
import Derived.Test.YtibfiblajicdpaaDoorU
namespace Go.Proofs.YtibfiblajicdpaaDoor
open Go Go.RowKit

/-- slices.Delete over a row of elements -/
theorem del_any (v : Value) (l : List El) (i : Nat) (w : World) (hown : w.ownsRow 0 30 3 v l.length (flat l)) (hi : i < l.length) :
    Calls Tryd.prog 31 #[v, .int .i64 i, .int .i64 ((i : Int) + 1)] w (emPost v (flat (l.take i ++ l.drop (i + 1))) (l.length - 1) w) := by
  have hcs : flat (l.take i ++ l.drop (i + 1)) = (flat l).take (i * 3) ++ (flat l).drop ((i + 1) * 3) := by
    rw [flat_append, flat_take, flat_drop]
  rw [hcs]
  rcases hown.2 with ⟨_, h0⟩ | ⟨g, c, cur, rfl, _, hg, hnc, hm, hs, hcur⟩
  · omega
  · have hglt : g < w.heap.size := (Array.getElem?_eq_some_iff.1 hg).1
    have h1c : ∀ u ∈ cur.toList.take (l.length * 3), u.oneCell' = true := by rw [hcur]; exact flat_oneC l
    have hfl := flat_length l
    refine (em_del_row g l.length c i cur w hg hs hi hnc hm h1c).mono ?_
    rintro e w' ⟨zs, hzl, rfl, rfl⟩
    rw [hcur]
    have hg1 := heap_setCells g 30 (0, 0) ((flat l).drop ((i + 1) * 3)) (i * 3) w.drew cur hg (by simp; omega)
    have hg2 := heap_setCells g 30 (0, 0) zs ((l.length - 1) * 3) _ _ hg1 (by simp; omega)
    have hb1 := grown_setCells g ((flat l).drop ((i + 1) * 3)) (i * 3) w.drew
    have hb2 := grown_setCells g zs ((l.length - 1) * 3) (w.drew.setCells g (i * 3) ((flat l).drop ((i + 1) * 3)))
    refine ⟨g, c, rfl, ⟨by simp; omega, .inr ⟨g, c, _, rfl, Nat.zero_le _, hg2, by omega, hm, by simp; omega, ?_⟩⟩, ⟨hb2.os.trans hb1.os, hb2.tape.trans hb1.tape, hb2.output.trans hb1.output, Nat.le_trans hb1.size hb2.size, fun k hk hkn => (hb2.block k (Nat.lt_of_lt_of_le hk hb1.size) hkn).trans (hb1.block k hk hkn)⟩, .inl rfl, ?_⟩
    · have h := lay_cut cur.toList zs (i * 3) ((i + 1) * 3) (l.length * 3) (by omega) (by omega) (by simp; omega) (by simp; omega)
      rw [hcur] at h
      have e : i * 3 + (l.length * 3 - (i + 1) * 3) = (l.length - 1) * 3 := by omega
      rw [e] at h
      simp only [lay1] at h
      simpa using h
    · exact Nat.lt_of_lt_of_le hglt (Nat.le_trans hb1.size hb2.size)

set_option maxHeartbeats 1000000 in
theorem remove1 (i sb b : Nat) (v : Value) (l : List El) (w : World) (hs : Stk w b v l) (hsb : w.cell? ⟨sb, 0, Option.none⟩ = some (.pointer (some ⟨b, 0, Option.none⟩))) (hsn : v.ownBlock ≠ some sb) (hi : i < l.length) :
    Calls Tryd.prog 30 #[.int .i64 i, .pointer (some ⟨sb, 0, Option.none⟩)] w (MPost b v w (.returned (.tuple #[])) (l.take i ++ l.drop (i + 1))) := by
  have hc := hs.cell
  have hf := hs.frozen
  have hown := hs.own
  have hblt := hs.lt b (.inl rfl)
  have hne := hs.ne
  have hlen := hs.len
  have hsl : sb < w.heap.size := World.block_lt_of_cell? w _ hsb
  have HS := Lib.hid hs
  have hb : Below w.heap.size w w.drew := (Below.refl _ _).drew
  have hcall := del_any v l i w.drew hown hi
  have HC := Lib.hid hcall
  clear hcall hown
  have hl2 : (l.take i ++ l.drop (i + 1)).length = l.length - 1 := by simp; omega
  have HL := Lib.hid hl2
  clear hl2
  have hw1 : IntKind.i64.wrap ((i : Int) + 1) = (i : Int) + 1 := by rw [IntKind.wrap_i64]; omega
  rcases hs.form with ⟨rfl, rfl⟩ | ⟨g, cap, rfl, _, _, h1, h2, _, _⟩
  · simp at hi
  · clear hs
    go_enter Tryd.func30, Tryd.ntmps30
    go_wp2_with fail
    go_region_with (go_at_call 31; refine HC.out.mono ?_; rintro e w1 ⟨g', cap', rfl, hown1, hgr, hat, hlt1⟩; obtain ⟨hc1, hf1⟩ := grown_far hgr hb hblt hne 0; rw [hc] at hc1; rw [hf] at hf1; obtain ⟨hc2, _⟩ := grown_far hgr hb hsl hsn 0; rw [hsb] at hc2)
    all_goals
      go_end0
      exact put_done HS.out (by rw [HL.out]; omega) hb g' cap' hown1 HL.out.symm hgr hat rfl (Keeps.refl _ _)

theorem flat_set (l : List El) (i : Nat) (x : El) (hi : i < l.length) : flat (l.set i x) = (flat l).take (i * 3) ++ x.cells ++ (flat l).drop (i * 3 + 3) := by
  rw [List.set_eq_take_append_cons_drop, if_pos hi, flat_append, flat_take, show i * 3 + 3 = (i + 1) * 3 from by omega, flat_drop, List.append_assoc]
  rfl

/-- an element is laid in another one's place -/
theorem set_done {w W : World} {b g cap : Nat} {l : List El} {i : Nat} {x : El} {e0 : Ending} (hs : Stk w b (.slice (some ⟨g, 0, Option.none⟩) l.length cap) l) (hW : Below w.heap.size w W) (hi : i < l.length) :
    MPost b (.slice (some ⟨g, 0, Option.none⟩) l.length cap) w e0 (l.set i x) e0 (W.setCells g (i * 3) x.cells) := by
  have hl := hs.len
  obtain ⟨T, hT⟩ := hs.box
  have hblt := hs.lt b (.inl rfl)
  have hglt := hs.lt g (.inr rfl)
  have hgb : g ≠ b := by
    rintro rfl
    exact hs.ne rfl
  have hgr := grown_setCells g x.cells (i * 3) W
  have hxl : x.cells.length = 3 := rfl
  refine ⟨rfl, .slice (some ⟨g, 0, Option.none⟩) l.length cap, ⟨⟨T, ?_⟩, ⟨by rw [flat_length], ?_⟩, hs.ne, by simpa using hl⟩, ?_, fun k hk => .inl hk⟩
  · rw [heap_setCells_other g b _ _ _ (Ne.symm hgb), hW.block b hblt]; exact hT
  · rcases hs.own.2 with ⟨h, _⟩ | ⟨g', cap', cur, hv, _, hg', h1, h2, h3, h4⟩
    · cases h
    · cases hv
      have hg1 : W.heap[g]? = some (.cells cur 30 (0, 0)) := (hW.block g hglt).trans hg'
      have hg2 := heap_setCells g 30 (0, 0) x.cells (i * 3) W cur hg1 (by rw [hxl]; omega)
      have hcl : cur.toList.length = cap * 3 := by simpa using h3
      refine .inr ⟨g, cap, _, by simp, Nat.zero_le _, hg2, by simpa using h1, h2, by simp [hxl]; omega, ?_⟩
      rw [flat_set l i x hi, List.length_set, ← h4]
      simp only [hxl]
      rw [List.take_append, List.take_append]
      simp only [List.take_take, List.length_append, List.length_take, hxl, hcl, List.drop_take]
      have e1 : min (l.length * 3) (i * 3) = i * 3 := by omega
      have e2 : min (i * 3) (cap * 3) = i * 3 := by omega
      have e3 : min (i * 3) (l.length * 3) = i * 3 := by omega
      rw [e1, e2, e3]
      rw [List.take_of_length_le (l := x.cells) (by rw [hxl]; omega)]
  · exact (Keeps.of_below hW).grown hgr (fun k hk => by cases hk; exact .inl (.inr rfl))

set_option maxHeartbeats 1000000 in
theorem replace1 (i eb sb b : Nat) (x : El) (v : Value) (l : List El) (w : World) (hs : Stk w b v l) (hsb : w.cell? ⟨sb, 0, Option.none⟩ = some (.pointer (some ⟨b, 0, Option.none⟩)))
    (he0 : w.cell? ⟨eb, 0, Option.none⟩ = some (.int .i64 x.id)) (he1 : w.cell? ⟨eb, 1, Option.none⟩ = some (.string x.sp)) (he2 : w.cell? ⟨eb, 2, Option.none⟩ = some (.string x.nm)) (hi : i < l.length) :
    Calls Tryd.prog 58 #[.int .i64 i, .pointer (some ⟨eb, 0, Option.none⟩), .pointer (some ⟨sb, 0, Option.none⟩)] w (MPost b v w (.returned (.tuple #[])) (l.set i x)) := by
  have hc := hs.cell
  have hlen := hs.len
  have HS := Lib.hid hs
  have hb : Below w.heap.size w w.drew := (Below.refl _ _).drew
  rcases hs.form with ⟨rfl, rfl⟩ | ⟨g, cap, rfl, hg, hgb, h1, h2, hcs, hfz⟩
  · simp at hi
  · obtain ⟨c0, c1, c2⟩ := hcs i l[i] (by simp [hi])
    have f0 := hfz (i * 3)
    have f1 := hfz (i * 3 + 1)
    have f2 := hfz (i * 3 + 2)
    have hd := set_done (e0 := .returned (.tuple #[])) (x := x) HS.out hb hi
    have HD := Lib.hid hd
    clear hs hcs hfz hd
    generalize l[i] = y at *
    go_enter Tryd.func58, Tryd.ntmps58
    go_wp2_with fail
    go_region
    all_goals
      go_end0
      exact HD.out

/-- 'at': nowhere -/
theorem at_out (g : Nat) (lb : Array Value) (b : Nat) (v : Value) (l : List El) (id : Int) (w : World) (hs : Stk w b v l) (h : idxB l id < 0) :
    Calls Tryd.prog 29 #[.pointer (some ⟨b, 0, Option.none⟩), .int .i64 id, .func (.func g) #[] lb] w (MPost b v w (.returned (.int .i64 60)) l) := by
  have HX := Lib.hid ((idxB_lt l id).2.2 h)
  clear h
  have HS := Lib.hid hs
  go_enter Tryd.func29, Tryd.ntmps29
  go_wp2_with fail
  refine (index_any b v l id w hs).mono ?_
  rintro e w1 ⟨rfl, hb⟩
  rw [HX.out]
  clear hs
  go_wp2_with fail
  go_ret
  exact ⟨rfl, _, HS.out.below hb, Keeps.of_below hb, fun k hk => .inl hk⟩

/-- 'at': somewhere -/
theorem at_in (g : Nat) (lb : Array Value) (b : Nat) (v : Value) (l l' : List El) (id : Int) (i : Nat) (w : World) (hs : Stk w b v l) (heg : ∀ args (w : World), (callFunc g args).run Tryd.prog w = .ok (.enter g args) w) (h : idxB l id = i)
    (hC : ∀ W, Below w.heap.size w W → Calls Tryd.prog g (#[.int .i64 i] ++ lb) W (MPost b v W (.returned (.tuple #[])) l')) :
    Calls Tryd.prog 29 #[.pointer (some ⟨b, 0, Option.none⟩), .int .i64 id, .func (.func g) #[] lb] w (MPost b v w (.returned (.int .i64 0)) l') := by
  have HX := Lib.hid h
  clear h
  have HC := Lib.hid hC
  clear hC
  go_enter Tryd.func29, Tryd.ntmps29
  go_wp2_with fail
  refine (index_any b v l id w hs).mono ?_
  rintro e w1 ⟨rfl, hb⟩
  rw [HX.out]
  clear hs
  go_wp2_with fail
  refine (HC.out w1 hb).mono ?_
  intro e w2 h
  obtain ⟨rfl, h'⟩ := h.from hb
  clear h
  go_wp2_with fail
  go_ret
  exact ⟨rfl, h'⟩

def remC (l : List El) (id : Int) : Int := if idxB l id < 0 then 60 else 0
def remL (l : List El) (id : Int) : List El := if idxB l id < 0 then l else l.take (idxB l id).toNat ++ l.drop ((idxB l id).toNat + 1)
def repL (l : List El) (id : Int) (x : El) : List El := if idxB l id < 0 then l else l.set (idxB l id).toNat x

set_option maxHeartbeats 1000000 in
theorem remove_any (b : Nat) (v : Value) (l : List El) (id : Int) (w : World) (hs : Stk w b v l) :
    Calls Tryd.prog 16 #[.pointer (some ⟨b, 0, Option.none⟩), .int .i64 id] w (MPost b v w (.returned (.int .i64 (remC l id))) (remL l id)) := by
  have hW : Below w.heap.size w (w.alloc (.cells #[.pointer (some ⟨b, 0, Option.none⟩)] 25)) := (Below.refl _ _).alloc (Nat.le_refl _) _
  have hs1 := hs.below hW
  have hb0 := hs.lt b (.inl rfl)
  have hno : v.ownBlock ≠ some w.heap.size := fun e => by have := hs.lt _ (.inr e); omega
  have hlt := idxB_lt l id
  unfold remC remL
  by_cases h : idxB l id < 0
  · rw [if_pos h, if_pos h]
    have HX := Lib.hid h
    clear h
    go_enter Tryd.func16, Tryd.ntmps16
    go_wp2_with fail
    refine (at_out _ _ b v l id _ hs1 HX.out).mono ?_
    intro e w2 h
    obtain ⟨rfl, h'⟩ := h.from hW
    clear h
    go_wp2_with fail
    go_ret
    exact ⟨rfl, h'⟩
  · rw [if_neg h, if_neg h]
    obtain ⟨i, hi⟩ : ∃ i : Nat, idxB l id = i := ⟨(idxB l id).toNat, by omega⟩
    have hil : i < l.length := by omega
    rw [hi]
    simp only [Int.toNat_natCast]
    have HI := Lib.hid hi
    have heg : ∀ args (w : World), (callFunc 30 args).run Tryd.prog w = .ok (.enter 30 args) w := enters_of Tryd.func30 (by kernel_rfl) rfl
    have hC : ∀ W, Below (w.alloc (.cells #[.pointer (some ⟨b, 0, Option.none⟩)] 25)).heap.size (w.alloc (.cells #[.pointer (some ⟨b, 0, Option.none⟩)] 25)) W → Calls Tryd.prog 30 #[.int .i64 i, .pointer (some ⟨w.heap.size, 0, Option.none⟩)] W (MPost b v W (.returned (.tuple #[])) (l.take i ++ l.drop (i + 1))) := fun W hb => remove1 i w.heap.size b v l W (hs1.below hb) ((hb.cell (p := ⟨w.heap.size, 0, Option.none⟩) (by simp)).trans (by simp [go_sem])) hno hil
    have HC := Lib.hid hC
    clear hC
    clear hi h hlt
    go_enter Tryd.func16, Tryd.ntmps16
    go_wp2_with fail
    refine (at_in 30 #[.pointer (some ⟨w.heap.size, 0, Option.none⟩)] b v l _ id i _ hs1 heg HI.out HC.out).mono ?_
    intro e w2 h
    obtain ⟨rfl, h'⟩ := h.from hW
    clear h
    go_wp2_with fail
    go_ret
    exact ⟨rfl, h'⟩

set_option maxHeartbeats 1000000 in
theorem replace_any (b : Nat) (v : Value) (l : List El) (id : Int) (x : El) (w : World) (hs : Stk w b v l) :
    Calls Tryd.prog 39 #[.pointer (some ⟨b, 0, Option.none⟩), .int .i64 id, .agg #[.int .i64 x.id, .string x.sp, .string x.nm]] w (MPost b v w (.returned (.int .i64 (remC l id))) (repL l id x)) := by
  have hW : Below w.heap.size w ((w.alloc (.cells #[.pointer (some ⟨b, 0, Option.none⟩)] 25)).alloc (.cells #[.int .i64 x.id, .string x.sp, .string x.nm] 30)) := ((Below.refl _ _).alloc (Nat.le_refl _) _).alloc (by simp) _
  have hs1 := hs.below hW
  have hb0 := hs.lt b (.inl rfl)
  have hlt := idxB_lt l id
  unfold remC repL
  by_cases h : idxB l id < 0
  · rw [if_pos h, if_pos h]
    have HX := Lib.hid h
    clear h
    go_enter Tryd.func39, Tryd.ntmps39
    go_wp2_with fail
    refine (at_out _ _ b v l id _ hs1 HX.out).mono ?_
    intro e w2 h
    obtain ⟨rfl, h'⟩ := h.from hW
    clear h
    go_wp2_with fail
    go_ret
    exact ⟨rfl, h'⟩
  · rw [if_neg h, if_neg h]
    obtain ⟨i, hi⟩ : ∃ i : Nat, idxB l id = i := ⟨(idxB l id).toNat, by omega⟩
    have hil : i < l.length := by omega
    rw [hi]
    simp only [Int.toNat_natCast]
    have HI := Lib.hid hi
    have heg : ∀ args (w : World), (callFunc 58 args).run Tryd.prog w = .ok (.enter 58 args) w := enters_of Tryd.func58 (by kernel_rfl) rfl
    have hC : ∀ W, Below ((w.alloc (.cells #[.pointer (some ⟨b, 0, Option.none⟩)] 25)).alloc (.cells #[.int .i64 x.id, .string x.sp, .string x.nm] 30)).heap.size ((w.alloc (.cells #[.pointer (some ⟨b, 0, Option.none⟩)] 25)).alloc (.cells #[.int .i64 x.id, .string x.sp, .string x.nm] 30)) W → Calls Tryd.prog 58 #[.int .i64 i, .pointer (some ⟨w.heap.size + 1, 0, Option.none⟩), .pointer (some ⟨w.heap.size, 0, Option.none⟩)] W (MPost b v W (.returned (.tuple #[])) (l.set i x)) := fun W hb => replace1 i (w.heap.size + 1) w.heap.size b x v l W (hs1.below hb) ((hb.cell (p := ⟨w.heap.size, 0, Option.none⟩) (by simp; omega)).trans (by simp [go_sem])) ((hb.cell (p := ⟨w.heap.size + 1, 0, Option.none⟩) (by simp)).trans (by simp [go_sem])) ((hb.cell (p := ⟨w.heap.size + 1, 1, Option.none⟩) (by simp)).trans (by simp [go_sem])) ((hb.cell (p := ⟨w.heap.size + 1, 2, Option.none⟩) (by simp)).trans (by simp [go_sem])) hil
    have HC := Lib.hid hC
    clear hC
    clear hi h hlt
    go_enter Tryd.func39, Tryd.ntmps39
    go_wp2_with fail
    refine (at_in 58 #[.pointer (some ⟨w.heap.size + 1, 0, Option.none⟩), .pointer (some ⟨w.heap.size, 0, Option.none⟩)] b v l _ id i _ hs1 heg HI.out HC.out).mono ?_
    intro e w2 h
    obtain ⟨rfl, h'⟩ := h.from hW
    clear h
    go_wp2_with fail
    go_ret
    exact ⟨rfl, h'⟩
end Go.Proofs.YtibfiblajicdpaaDoor
