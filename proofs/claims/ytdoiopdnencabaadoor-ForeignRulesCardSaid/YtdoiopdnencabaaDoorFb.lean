/- Contracts of chapter 8: slices of attributes; slices.ContainsFunc over them; the closures. -/
import Derived.Test.YtdoiopdnencabaaDoorFa
namespace Go.Proofs.YtdoiopdnencabaaDoor
open Go Go.RowKit

/-- an attribute -/
structure At where
  sp : ByteArray
  nm : ByteArray
  va : ByteArray

/-- the slice value v holds the attributes l -/
def AtsAt (w : World) (v : Value) (l : List At) : Prop :=
  (l = [] ∧ ∃ a c, v = .slice a 0 c) ∨
  (∃ b off c, v = .slice (some ⟨b, off, none⟩) l.length c ∧ b < w.heap.size ∧ 0 < l.length ∧ l.length ≤ 9223372036854775807 ∧
    ∀ j x, l[j]? = some x → w.cell? ⟨b, off + j * 3, none⟩ = some (.string x.sp) ∧ w.cell? ⟨b, off + j * 3 + 1, none⟩ = some (.string x.nm) ∧ w.cell? ⟨b, off + j * 3 + 2, none⟩ = some (.string x.va))

theorem AtsAt.form {w : World} {v : Value} {l : List At} (h : AtsAt w v l) : ∃ a c, v = .slice a l.length c := by
  rcases h with ⟨rfl, a, c, rfl⟩ | ⟨b, off, c, rfl, _⟩
  · exact ⟨_, _, rfl⟩
  · exact ⟨_, _, rfl⟩

theorem AtsAt.len {w : World} {v : Value} {l : List At} (h : AtsAt w v l) : l.length ≤ 9223372036854775807 := by
  rcases h with ⟨rfl, a, c, rfl⟩ | ⟨b, off, c, rfl, _, _, h, _⟩
  · simp
  · exact h

theorem AtsAt.below {w w' : World} {v : Value} {l : List At} {B : Nat} (h : AtsAt w v l) (hB : w.heap.size ≤ B) (hb : Below B w w') : AtsAt w' v l := by
  rcases h with h | ⟨b, off, c, rfl, hlt, h1, h2, h3⟩
  · exact .inl h
  · exact .inr ⟨b, off, c, rfl, Nat.lt_of_lt_of_le hlt hb.size, h1, h2, fun j x hj => by
      obtain ⟨e0, e1, e2⟩ := h3 j x hj
      exact ⟨(hb.cell (p := ⟨b, off + j * 3, none⟩) (by show b < B; omega)).trans e0, (hb.cell (p := ⟨b, off + j * 3 + 1, none⟩) (by show b < B; omega)).trans e1, (hb.cell (p := ⟨b, off + j * 3 + 2, none⟩) (by show b < B; omega)).trans e2⟩⟩

theorem ats_at {w : World} {va : Option Addr} {c : Nat} {l : List At} (h : AtsAt w (.slice va l.length c) l) {k : Nat} (hk : k < l.length) :
    ∃ b off, va = some ⟨b, off, none⟩ ∧ b < w.heap.size ∧ w.cell? ⟨b, off + k * 3, none⟩ = some (.string l[k].sp) ∧ w.cell? ⟨b, off + k * 3 + 1, none⟩ = some (.string l[k].nm) ∧ w.cell? ⟨b, off + k * 3 + 2, none⟩ = some (.string l[k].va) := by
  rcases h with ⟨rfl, _⟩ | ⟨b, off, c', he, hlt, _, _, hc⟩
  · simp at hk
  · cases he
    obtain ⟨h0, h1, h2⟩ := hc k l[k] (by simp [hk])
    exact ⟨b, off, rfl, hlt, h0, h1, h2⟩

/-- a function value that answers P of an attribute among l, in every world behind w0 -/
structure AtC (g : Nat) (lb : Array Value) (P : At → Bool) (l : List At) (w0 : World) : Prop where
  enters : ∀ args (w : World), (callFunc g args).run Tryd.prog w = .ok (.enter g args) w
  calls : ∀ (x : At) (W : World), x ∈ l → Below w0.heap.size w0 W → Calls Tryd.prog g (#[.agg #[.string x.sp, .string x.nm, .string x.va]] ++ lb) W fun e W' => e = .returned (.bool (P x)) ∧ Below W.heap.size W W'

/-- where the first one is -/
def firstI (P : At → Bool) (l : List At) : Int := match l.findIdx? P with | some k => (k : Int) | none => -1

theorem firstI_at {P : At → Bool} {l : List At} {k : Nat} (hk : k < l.length) (hP : P l[k] = true) (h : ∀ j, (hj : j < k) → P (l[j]'(by omega)) = false) : firstI P l = k := by
  have : l.findIdx? P = some k := by
    rw [List.findIdx?_eq_some_iff_getElem]
    exact ⟨hk, hP, fun j hj => by rw [h j hj]; simp⟩
  rw [firstI, this]
theorem firstI_no {P : At → Bool} {l : List At} (h : ∀ j, (hj : j < l.length) → P l[j] = false) : firstI P l = -1 := by
  have : l.findIdx? P = none := by
    rw [List.findIdx?_eq_none_iff]
    intro x hx
    obtain ⟨j, hj, rfl⟩ := List.getElem_of_mem hx
    rw [h j hj]
  rw [firstI, this]
theorem firstI_any (P : At → Bool) (l : List At) : decide (0 ≤ firstI P l) = l.any P := by
  rw [Bool.eq_iff_iff, decide_eq_true_eq]
  unfold firstI
  cases h : l.findIdx? P with
  | none =>
    rw [List.findIdx?_eq_none_iff] at h
    simp only [List.any_eq_true]
    constructor
    · intro h'; simp at h'
    · rintro ⟨x, hx, hP⟩; rw [h x hx] at hP; cases hP
  | some k =>
    rw [List.findIdx?_eq_some_iff_getElem] at h
    obtain ⟨hk, hP, _⟩ := h
    simp only [List.any_eq_true]
    exact ⟨fun _ => ⟨_, List.getElem_mem hk, hP⟩, fun _ => by omega⟩

set_option maxHeartbeats 1000000 in
theorem indexFunc_any (g : Nat) (lb : Array Value) (P : At → Bool) (v : Value) (l : List At) (w : World) (hv : AtsAt w v l) (hC : AtC g lb P l w) :
    Calls Tryd.prog 37 #[v, .func (.func g) #[] lb] w fun e w' => e = .returned (.int .i64 (firstI P l)) ∧ Below w.heap.size w w' := by
  obtain ⟨va, vc, rfl⟩ := hv.form
  have hlen := hv.len
  have heg := hC.enters
  have HC := Lib.hid hC.calls
  clear hC
  have HV := Lib.hid hv
  clear hv
  go_enter Tryd.func37, Tryd.ntmps37
  go_wp2_with fail
  go_loopw [8] (fun i wr => ∃ k : Nat, k ≤ l.length ∧ i = .int .i64 k ∧ (∀ j, (hj : j < k) → (hl : j < l.length) → P l[j] = false) ∧ Below w.heap.size w wr) (fun i _ => l.length - (intOf i).toNat)
  case atStart => exact ⟨0, by omega, rfl, fun j hj => by omega, Below.refl _ _⟩
  case round =>
    obtain ⟨k, hk, rfl, hP, hb⟩ := hrel
    have HP := Lib.hid hP
    clear hP
    by_cases hlt : k < l.length
    · obtain ⟨b, off, rfl, hblt, c0, c1, c2⟩ := ats_at (HV.out.below (Nat.le_refl _) hb) hlt
      have hcall := HC.out l[k] wr (List.getElem_mem hlt) hb
      have hyes := fun (h : P l[k] = true) => firstI_at hlt h (fun j hj => HP.out j hj (by omega))
      have hno := fun (h : P l[k] = false) => (fun j (hj : j < k + 1) (hl : j < l.length) => by
        by_cases hjk : j < k
        · exact HP.out j hjk hl
        · obtain rfl : j = k := by omega
          exact h : ∀ j, (hj : j < k + 1) → (hl : j < l.length) → P l[j] = false)
      have HY := Lib.hid hyes
      have HN := Lib.hid hno
      have HCL := Lib.hid hcall
      clear hyes hno hcall
      generalize l[k] = x at *
      go_wp2_with fail
      refine HCL.out.mono ?_
      rintro e w2 ⟨rfl, hb2⟩
      cases hPx : P x
      · have HPx := Lib.hid hPx
        clear hPx
        go_wp2_with fail
        go_roundw
        case rel => exact ⟨k + 1, by omega, by go_num, HN.out HPx.out, hb.trans (hb2.mono hb.size)⟩
        case measure => simp [intOf] <;> omega
      · have HPx := Lib.hid hPx
        clear hPx
        go_wp2_with fail
        go_ret
        exact ⟨ret_int (HY.out HPx.out).symm, hb.trans (hb2.mono hb.size)⟩
    · obtain rfl : k = l.length := by omega
      go_wp2_with fail
      go_ret
      exact ⟨ret_int (firstI_no (fun j hj => HP.out j hj hj)).symm, hb⟩

set_option maxHeartbeats 1000000 in
theorem containsFunc_any (g : Nat) (lb : Array Value) (P : At → Bool) (v : Value) (l : List At) (w : World) (hv : AtsAt w v l) (hC : AtC g lb P l w) :
    Calls Tryd.prog 27 #[v, .func (.func g) #[] lb] w fun e w' => e = .returned (.bool (l.any P)) ∧ Below w.heap.size w w' := by
  have hcall := indexFunc_any g lb P v l w hv hC
  have hany := firstI_any P l
  generalize firstI P l = n at *
  have HCL := Lib.hid hcall
  have HA := Lib.hid hany
  clear hcall hany
  obtain ⟨va, vc, rfl⟩ := hv.form
  clear hv hC
  go_enter Tryd.func27, Tryd.ntmps27
  go_wp2_with fail
  refine HCL.out.mono ?_
  rintro e w2 ⟨rfl, hb⟩
  go_wp2_with fail
  go_ret
  exact ⟨ret_bool HA.out, hb⟩

/-- a font's attribute -/
def fontP (x : At) : Bool := amongB x.nm fontW
/-- HTML's encoding -/
def encP (x : At) : Bool := (x.sp.toList == []) && (x.nm.toList == ([101, 110, 99, 111, 100, 105, 110, 103] : List UInt8)) && amongB (lowB x.va) textW

set_option maxHeartbeats 400000 in
theorem font1 (x : At) (w : World) (hg : Glob w) :
    Calls Tryd.prog 28 #[.agg #[.string x.sp, .string x.nm, .string x.va]] w fun e w' => e = .returned (.bool (fontP x)) ∧ Below w.heap.size w w' := by
  have hg1 := hg.alloc (.cells #[.string x.sp, .string x.nm, .string x.va] 27)
  go_enter Tryd.func28, Tryd.ntmps28
  go_wp2_with fail
  refine (among_any x.nm fontW _ hg1 fontOk).mono ?_
  rintro e w' ⟨rfl, hb⟩
  go_wp2
  go_ret
  exact ⟨rfl, ((Below.refl _ _).alloc (Nat.le_refl _) _).trans (hb.mono (by simp))⟩

set_option maxHeartbeats 1000000 in
theorem enc1 (x : At) (w : World) (hg : Glob w) (hva : x.va.size ≤ maxLen) :
    Calls Tryd.prog 31 #[.agg #[.string x.sp, .string x.nm, .string x.va]] w fun e w' => e = .returned (.bool (encP x)) ∧ Below w.heap.size w w' := by
  by_cases h : x.sp.toList = [] ∧ x.nm.toList = ([101, 110, 99, 111, 100, 105, 110, 103] : List UInt8)
  · obtain ⟨h1, h2⟩ := h
    have e1 : encP x = amongB (lowB x.va) textW := by rw [encP, h1, h2]; rfl
    have H1 := Lib.hid e1; clear e1
    have hg1 := hg.alloc (.cells #[.string x.sp, .string x.nm, .string x.va] 27)
    go_enter Tryd.func31, Tryd.ntmps31
    go_wp2_with fail
    refine (lower_any x.va _ hva).mono ?_
    rintro e w1 ⟨rfl, hb⟩
    have hg2 := hg1.below hg1.lt hb
    go_wp2_with fail
    refine (among_any (lowB x.va) textW _ hg2 textOk).mono ?_
    rintro e w2 ⟨rfl, hb2⟩
    go_wp2
    go_ret
    exact ⟨ret_bool H1.out.symm, (((Below.refl _ _).alloc (Nat.le_refl _) _).trans (hb.mono (by simp))).trans (hb2.mono (by have := hb.size; simp at this; omega))⟩
  · have e1 : encP x = false := by
      rw [encP]
      simp only [Bool.and_eq_false_iff, beq_eq_false_iff_ne]
      by_cases h1 : x.sp.toList = []
      · exact .inl (.inr (fun h2 => h ⟨h1, h2⟩))
      · exact .inl (.inl h1)
    have H1 := Lib.hid e1; clear e1
    by_cases h1 : x.sp.toList = []
    · have h2 : (x.nm.toList == ([101, 110, 99, 111, 100, 105, 110, 103] : List UInt8)) = false := by rw [beq_eq_false_iff_ne]; exact fun h2 => h ⟨h1, h2⟩
      clear h
      go_enter Tryd.func31, Tryd.ntmps31
      go_wp2
      go_ret
      exact ⟨ret_bool H1.out.symm, (Below.refl _ _).alloc (Nat.le_refl _) _⟩
    · have h2 : x.sp.toList.isEmpty = false := by cases hx : x.sp.toList with | nil => exact absurd hx h1 | cons a l => rfl
      clear h h1
      go_enter Tryd.func31, Tryd.ntmps31
      go_wp2
      go_ret
      exact ⟨ret_bool H1.out.symm, (Below.refl _ _).alloc (Nat.le_refl _) _⟩
end Go.Proofs.YtdoiopdnencabaaDoor
