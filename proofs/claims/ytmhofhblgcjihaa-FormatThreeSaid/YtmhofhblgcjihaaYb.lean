/- The plain law of FormatThree. -/
import Derived.Test.YtmhofhblgcjihaaYa
namespace Go.Proofs.Ytmhofhblgcjihaa
open Go Go.RowKit Go.Shelf

theorem eraseP_congr {α : Type} {p q : α → Bool} {l : List α} (h : ∀ x ∈ l, p x = q x) : l.eraseP p = l.eraseP q := by
  induction l with
  | nil => rfl
  | cons x l ih => rw [List.eraseP_cons, List.eraseP_cons, h x (by simp), ih (fun y hy => h y (by simp [hy]))]

theorem remF_congr {p q : Ab → Bool} {B : List Ab} (h : ∀ x ∈ B, p x = q x) : remF p B = remF q B := by
  unfold remF
  rw [List.countP_congr (fun x hx => by rw [h x hx]), eraseP_congr h]

theorem countP_eraseP {α : Type} (p : α → Bool) (l : List α) (h : 0 < l.countP p) : (l.eraseP p).countP p = l.countP p - 1 := by
  induction l with
  | nil => simp at h
  | cons x l ih =>
    cases hx : p x
    · rw [List.countP_cons, hx] at h
      rw [List.eraseP_cons_of_neg (by simp [hx]), List.countP_cons, List.countP_cons, hx, ih (by simpa using h)]
      simp
    · rw [List.eraseP_cons_of_pos hx, List.countP_cons, hx]
      simp

/-- no more than three behind the last marker are alike -/
structure TInv (A B : List Ab) : Prop where
  hmk : Mk A
  nom : NoM B
  sp : ∀ x ∈ B, x.el.sp = (⟨#[104, 116, 109, 108]⟩ : ByteArray) ∧ x.ats.length ≤ 1
  three : ∀ e ats, B.countP (alikeS e ats) ≤ 3

theorem TInv.zero : TInv [] [] := ⟨.inl rfl, fun x h => by simp at h, fun x h => by simp at h, fun _ _ => by simp⟩
theorem TInv.mark {A B : List Ab} (_h : TInv A B) : TInv (A ++ B ++ [Ab.none]) [] := ⟨Mk.mark A B, fun x h => by simp at h, fun x h => by simp at h, fun _ _ => by simp⟩

theorem alikeS_iff (e : El) (ats : List At) (x : Ab) : alikeS e ats x = true ↔ x.el.sp = e.sp ∧ x.el.nm = e.nm ∧ x.ats = ats := by
  unfold alikeS
  rw [Bool.and_eq_true, Bool.and_eq_true, beq_iff_eq, beq_iff_eq, sameL_iff]
  constructor
  · rintro ⟨h1, h2, h3⟩; exact ⟨toList_inj h1, toList_inj h2, h3⟩
  · rintro ⟨h1, h2, h3⟩; exact ⟨by rw [h1], by rw [h2], h3⟩

theorem TInv.push {A B : List Ab} (h : TInv A B) (e : El) (a : At) (hid : ¬ e.id = 0) (hsp : e.sp = (⟨#[104, 116, 109, 108]⟩ : ByteArray)) :
    pushB (A ++ B) e [a] = A ++ (remF (alikeS e [a]) B ++ [⟨e, [a]⟩]) ∧ TInv A (remF (alikeS e [a]) B ++ [⟨e, [a]⟩]) := by
  constructor
  · rw [pushB_split h.hmk h.nom, remF_congr (fun x hx => alike_small (by simp) (h.sp x hx).2)]
  · refine ⟨h.hmk, h.nom.remF.snoc hid, ?_, ?_⟩
    · intro x hx
      rcases List.mem_append.1 hx with h1 | h1
      · exact h.sp x (mem_remF h1)
      · simp at h1; rw [h1]; exact ⟨hsp, by simp⟩
    · intro e' ats'
      rw [List.countP_append]
      have h3 := h.three e' ats'
      have hle : (remF (alikeS e [a]) B).countP (alikeS e' ats') ≤ B.countP (alikeS e' ats') := by
        unfold remF
        split
        · exact List.eraseP_sublist.countP_le
        · exact Nat.le_refl _
      cases hq : alikeS e' ats' ⟨e, [a]⟩
      · simp [hq]; omega
      · obtain ⟨q1, q2, q3⟩ := (alikeS_iff _ _ _).1 hq
        have hfun : ∀ x, alikeS e' ats' x = alikeS e [a] x := by
          intro x
          rw [Bool.eq_iff_iff, alikeS_iff, alikeS_iff]
          simp only at q1 q2 q3
          rw [q1, q2, q3]
        have hfun2 : alikeS e' ats' = alikeS e [a] := funext hfun
        simp only [List.countP_cons, List.countP_nil, hq, if_true]
        rw [hfun2] at h3 ⊢
        unfold remF
        split
        · rw [countP_eraseP _ _ (by omega)]; omega
        · omega

/-- of a name and of attributes -/
def likeP (nm : ByteArray) (ats : List At) (y : Ab) : Bool := (y.el.nm.toList == nm.toList) && sameB y.ats ats

theorem TInv.le3 {A B : List Ab} (h : TInv A B) (nm : ByteArray) (ats : List At) : B.countP (likeP nm ats) ≤ 3 := by
  rw [List.countP_congr (q := alikeS ⟨0, (⟨#[104, 116, 109, 108]⟩ : ByteArray), nm⟩ ats) (fun x hx => by
    unfold likeP alikeS
    rw [sameB_L, (h.sp x hx).1]
    simp)]
  exact h.three _ _
end Go.Proofs.Ytmhofhblgcjihaa
