/- Joined texts: Hh Kk Jt Ju Jv Kl Km. Each begins with its own remark. -/
import Derived.Test.YtckaoeloofbklaaGreatDoorYt
import Derived.Test.YtckaoeloofbklaaGreatDoorYs
import Derived.Test.YtckaoeloofbklaaGreatDoorYr
import Derived.Defers
import Derived.Recover
import Derived.Test.YtckaoeloofbklaaGreatDoorYc
import Derived.Shelf.Unicode.ValidAny
namespace Go.Proofs.YtckaoeloofbklaaGreatDoor
section
variable {N : List UInt8 → JV → Prop} {intL fltL : Int → List UInt8} {inf : Int → Bool}
theorem num_text {s t : List UInt8} (hs : NumS s) (h : Bl false s t) : t = s := h.same fun c hc => ⟨(numC_no c (hs.all c hc)).1, (numC_no c (hs.all c hc)).2.1⟩
theorem atom_num {s u : List UInt8} {v : JV} (hs : NumS s) (hv : N s v) (hu : EndV u) (n : Nat) : Val decB8 enc N n (s ++ u) (.ok v (skipB u)) := by
  obtain ⟨c, l, rfl, hc, hl⟩ := hs
  have hb := (numC_no c (NumS.all ⟨c, l, rfl, hc, hl⟩ c (by simp))).2.2
  refine val_atom (o := .ok v u) n ?_
  rw [List.cons_append, skip_at _ _ hb]
  exact .num hc hl hv (end_num hu).1
theorem dup_atom (k : Int) (b : Bool) (n u : Int) (s : ByteArray) : dupJ (.mk k b n u s [] []) = false := by rw [dupJ, dupL]; simp
theorem reads_all (hN : NumOK N intL fltL inf) : ∀ v, Reads N intL fltL inf v := by
  refine JV.ind fun k b n u s ks vs ih => ?_
  intro m t w hf hr hd h hw
  obtain ⟨r1, r2, r3, r4, hR⟩ := hr
  rw [JV.formed, Bool.and_eq_true] at hf
  obtain ⟨hp, hfl⟩ := hf
  have hfl := formedL_mem hfl
  simp only [JV.plain] at hp
  rw [showJ] at h
  rw [JV.deep] at hd
  by_cases k1 : k = 1
  · subst k1
    rw [if_pos rfl] at hp h
    simp at hp
    obtain ⟨⟨rfl, rfl, rfl, rfl, rfl⟩, rfl⟩ := hp
    have := h.same (by decide)
    subst this
    refine ⟨_, val_atom (o := .ok jNull w) m (Atom.null (end_num hw).2), .inl ⟨dup_atom .., ?_⟩⟩
    rw [normJ, if_neg (by simp)]; rfl
  rw [if_neg k1] at hp h
  by_cases k2 : k = 2
  · subst k2
    rw [if_pos rfl] at hp h
    simp at hp
    obtain ⟨⟨rfl, rfl, rfl, rfl⟩, rfl⟩ := hp
    cases b with
    | true =>
      have := h.same (by decide)
      subst this
      refine ⟨_, val_atom (o := .ok (jBool true) w) m (Atom.tru (end_num hw).2), .inl ⟨dup_atom .., ?_⟩⟩
      rw [normJ, if_neg (by simp)]; rfl
    | false =>
      have := h.same (by decide)
      subst this
      refine ⟨_, val_atom (o := .ok (jBool false) w) m (Atom.fals (end_num hw).2), .inl ⟨dup_atom .., ?_⟩⟩
      rw [normJ, if_neg (by simp)]; rfl
  rw [if_neg k2] at hp h
  by_cases k3 : k = 3
  · subst k3
    rw [if_pos rfl] at hp h
    simp at hp
    obtain ⟨⟨rfl, rfl, rfl, rfl⟩, rfl⟩ := hp
    obtain ⟨g1, g2⟩ := hN.int n r1 r2
    have := num_text g2 h
    subst this
    refine ⟨_, atom_num g2 g1 hw m, .inl ⟨dup_atom .., ?_⟩⟩
    rw [normJ, if_neg (by simp)]; rfl
  rw [if_neg k3] at hp h
  by_cases k4 : k = 4
  · subst k4
    rw [if_pos rfl] at hp h
    simp at hp
    obtain ⟨⟨rfl, rfl, rfl, rfl⟩, rfl⟩ := hp
    cases hi : inf u with
    | false =>
      obtain ⟨g1, g2⟩ := hN.flt u r3 r4 hi
      have := num_text g2 h
      subst this
      refine ⟨_, atom_num g2 g1 hw m, .inl ⟨dup_atom .., ?_⟩⟩
      rw [normJ, if_neg (by rw [hi]; simp)]; rfl
    | true =>
      rw [hN.nul u r3 r4 hi] at h
      have := h.same (by decide)
      subst this
      refine ⟨_, val_atom (o := .ok jNull w) m (Atom.null (end_num hw).2), .inl ⟨dup_atom .., ?_⟩⟩
      rw [normJ, if_pos ⟨rfl, hi⟩]; rfl
  rw [if_neg k4] at hp h
  by_cases k5 : k = 5
  · subst k5
    rw [if_pos rfl] at hp h
    simp at hp
    obtain ⟨⟨rfl, rfl, rfl, rfl⟩, rfl⟩ := hp
    obtain ⟨T, rfl, h2⟩ := Bl.quoted (s := []) (by rw [List.append_nil]; exact h)
    cases h2
    refine ⟨_, val_atom (o := .ok (jStr ⟨(decB8 s.data.toList).toArray⟩) w) m ?_, .inl ⟨dup_atom .., ?_⟩⟩
    · rw [List.cons_append, skip_at _ _ (by decide), List.append_assoc]
      exact .str (str_quoted _ w)
    · rw [normJ, if_neg (by simp)]; rfl
  rw [if_neg k5] at hp h
  by_cases k7 : k = 7
  · subst k7
    rw [if_neg (by decide), if_pos rfl] at hp
    rw [if_pos rfl] at h
    rw [if_pos (.inr rfl)] at hd
    simp at hp
    obtain ⟨⟨⟨rfl, rfl, rfl, rfl⟩, hlen⟩, hnd⟩ := hp
    obtain ⟨p, q, t', rfl, hp, hq, h'⟩ := h.at_mark (by decide)
    obtain ⟨m, rfl⟩ : ∃ j, m = j + 1 := ⟨m - 1, by omega⟩
    obtain ⟨o, h1, h2⟩ := read_r0 hN m w vs ks t' hlen.symm ih hfl hR (deepL_mem (by omega)) h'
    have hv : Val decB8 enc N (m + 1) (p ++ 123 :: (q ++ t') ++ w) (o.map fun x => jRec x.1 x.2).skip := by
      refine ⟨_, ?_, rfl⟩
      rw [skip_mark _ _ _ _ _ hp (by decide)]
      refine .rcd ?_
      rw [skip_blanks q _ hq]
      exact h1
    refine ⟨_, hv, ?_⟩
    rcases h2 with ⟨g1, g2, q', hq', rfl⟩ | ⟨g, t2, rfl⟩
    · refine .inl ⟨?_, ?_⟩
      · rw [dupJ, g2, Bool.or_false]
        rw [List.nil_append] at g1
        unfold nmK at g1
        simp [g1]
      · show Out.ok (jRec ([] ++ ks.map nmK) ([] ++ normL inf vs)) (skipB (q' ++ w)) = _
        rw [skip_blanks q' _ hq', List.nil_append, List.nil_append, normJ, if_neg (by simp)]
        rfl
    · refine .inr ⟨?_, t2, rfl⟩
      rw [dupJ]
      rcases g with g | g
      · rw [List.nil_append] at g
        unfold nmK at g
        simp [g]
      · rw [g, Bool.or_true]
  · by_cases k6 : k = 6
    · subst k6
      rw [if_pos rfl] at hp
      rw [if_neg k7] at h
      rw [if_pos (.inl rfl)] at hd
      simp at hp
      obtain ⟨rfl, rfl, rfl, rfl, rfl⟩ := hp
      obtain ⟨p, q, t', rfl, hp, hq, h'⟩ := h.at_mark (by decide)
      obtain ⟨m, rfl⟩ : ∃ j, m = j + 1 := ⟨m - 1, by omega⟩
      obtain ⟨o, h1, h2⟩ := read_l0 hN m w vs [] t' ih hfl hR (deepL_mem (by omega)) h'
      have hv : Val decB8 enc N (m + 1) (p ++ 91 :: (q ++ t') ++ w) (o.map jList).skip := by
        refine ⟨_, ?_, rfl⟩
        rw [skip_mark _ _ _ _ _ hp (by decide)]
        refine .list ?_
        rw [skip_blanks q _ hq]
        exact h1
      refine ⟨_, hv, ?_⟩
      rcases h2 with ⟨g2, q', hq', rfl⟩ | ⟨g, t2, rfl⟩
      · refine .inl ⟨?_, ?_⟩
        · rw [dupJ, g2]; simp
        · show Out.ok (jList ([] ++ normL inf vs)) (skipB (q' ++ w)) = _
          rw [skip_blanks q' _ hq', List.nil_append, normJ, if_neg (by simp)]
          rfl
      · refine .inr ⟨?_, t2, rfl⟩
        rw [dupJ, g, Bool.or_true]
    · rw [if_neg k6, if_neg k7] at hp
      cases hp
end
end Go.Proofs.YtckaoeloofbklaaGreatDoor
namespace Go.Proofs.YtckaoeloofbklaaGreatDoor
open Go Go.RowKit Go.Lib
def txt1 : List UInt8 := [123, 34, 97, 34, 58, 91, 49, 44, 45, 48, 44, 49, 46, 48, 44, 34, 92, 117, 48, 48, 101, 57, 92, 117, 100, 56, 51, 100, 92, 117, 100, 101, 48, 48, 92, 117, 100, 56, 48, 48, 34, 93, 125]
def val1 : JV := jRec [⟨#[97]⟩] [jList [jInt 1, jFlt 9223372036854775808, jFlt 4607182418800017408, jStr ⟨#[195, 169, 240, 159, 152, 128, 239, 191, 189]⟩]]
theorem nj_one : NJ [49] (jInt 1) := by
  have := (int_ok 1 (by decide) (by decide)).1
  rwa [show Lib.itoa 1 = [49] by decide +kernel] at this
theorem nj_flt : NJ [49, 46, 48] (jFlt 4607182418800017408) := by
  have := (flt_ok 4607182418800017408 (by decide) (by decide +kernel)).1
  rwa [show fltN 4607182418800017408 = [49, 46, 48] by decide +kernel] at this
theorem nj_nzero : NJ [45, 48] (jFlt 9223372036854775808) := by
  refine .flt (u := 9223372036854775808) true [48] 48 [] [] [] rfl ⟨rfl, by decide, rfl, fun _ => rfl, .inl rfl, .inl rfl⟩ (by decide) (.inr rfl) (by decide) (by decide +kernel) ?_
  intro K w hG hT
  have h := parse_back 9223372036854775808 K w (by decide) hG hT
  rwa [show showB 9223372036854775808 = [45, 48] by decide +kernel, back_fin (by decide +kernel)] at h
theorem val_int (n : Nat) (c : UInt8) (t : List UInt8) (v : JV) (h : NJ [c] v) (hc : isDgB c = true) (ht : EndV t) : Val decB8 enc NJ n (c :: t) (.ok v (skipB t)) :=
  atom_num (s := [c]) ⟨c, [], rfl, .inr hc, rfl⟩ h ht n
theorem val_num (n : Nat) (s t : List UInt8) (v : JV) (hs : NumS s) (h : NJ s v) (ht : EndV t) : Val decB8 enc NJ n (s ++ t) (.ok v (skipB t)) := atom_num hs h ht n
theorem str1 (t : List UInt8) : Str decB8 enc (92 :: 117 :: 48 :: 48 :: 101 :: 57 :: 92 :: 117 :: 100 :: 56 :: 51 :: 100 :: 92 :: 117 :: 100 :: 101 :: 48 :: 48 :: 92 :: 117 :: 100 :: 56 :: 48 :: 48 :: 34 :: t) [195, 169, 240, 159, 152, 128, 239, 191, 189] t := by
  have h := Str.esc (dec := decB8) (enc := enc) (r := []) (x := 117 :: 48 :: 48 :: 101 :: 57 :: 92 :: 117 :: 100 :: 56 :: 51 :: 100 :: 92 :: 117 :: 100 :: 101 :: 48 :: 48 :: 92 :: 117 :: 100 :: 56 :: 48 :: 48 :: 34 :: t) rfl (Esc.one (n := 233) (by decide) (.inl (by decide)))
    (Str.esc (r := []) (x := 117 :: 100 :: 56 :: 51 :: 100 :: 92 :: 117 :: 100 :: 101 :: 48 :: 48 :: 92 :: 117 :: 100 :: 56 :: 48 :: 48 :: 34 :: t) rfl (Esc.pair (n := 55357) (m := 56832) (by decide) (by decide) (by decide) (by decide) (by decide) (by decide))
      (Str.esc (r := []) (x := 117 :: 100 :: 56 :: 48 :: 48 :: 34 :: t) rfl (Esc.lone (n := 55296) (t := 34 :: t) (by decide) (by decide) (by decide) (by simp)) (Str.last (r := []) (t := t) rfl)))
  rwa [show decB8 [] ++ enc 233 ++ (decB8 [] ++ enc (65536 + (55357 - 55296) * 1024 + (56832 - 56320)) ++ (decB8 [] ++ enc 55296 ++ decB8 [])) = [195, 169, 240, 159, 152, 128, 239, 191, 189] by decide +kernel] at h
theorem val_list (n : Nat) (t : List UInt8) (vs : List JV) (t' : List UInt8) (h : Sev0 93 (OneL (Val decB8 enc NJ n)) [] (skipB t) (.ok vs t')) : Val decB8 enc NJ (n + 1) (91 :: t) (.ok (jList vs) (skipB t')) :=
  ⟨_, .list h, rfl⟩
theorem dec_a : decB8 [97] = [97] := by decide +kernel
theorem str_a (t : List UInt8) : Str decB8 enc (97 :: 34 :: t) [97] t := by
  have h := Str.last (dec := decB8) (enc := enc) (r := [97]) (t := t) rfl
  rwa [dec_a] at h
theorem reads1 : Val decB8 enc NJ 64 txt1 (.ok val1 []) := by
  refine ⟨.ok val1 [], Core.rcd (o := .ok ([⟨#[97]⟩], [jList [jInt 1, jFlt 9223372036854775808, jFlt 4607182418800017408, jStr ⟨#[195, 169, 240, 159, 152, 128, 239, 191, 189]⟩]]) []) ?_, rfl⟩
  refine Sev0.more (s' := ([⟨#[97]⟩], [jList [jInt 1, jFlt 9223372036854775808, jFlt 4607182418800017408, jStr ⟨#[195, 169, 240, 159, 152, 128, 239, 191, 189]⟩]])) (t' := [125]) rfl ?_ .stop
  refine OneR.ok (ks := []) (vs := []) rfl (str_a _) (by simp) rfl ?_
  refine val_list 62 _ _ [125] ?_
  refine Sev0.more (s' := [jInt 1]) rfl (OneL.ok (l := []) (val_int 62 49 _ _ nj_one (by decide) (.inr (.inl rfl)))) ?_
  refine Sev.more (s' := [jInt 1, jFlt 9223372036854775808]) (OneL.ok (l := [jInt 1]) (val_num 62 [45, 48] _ _ ⟨45, [48], rfl, .inl rfl, by decide⟩ nj_nzero (.inr (.inl rfl)))) ?_
  refine Sev.more (s' := [jInt 1, jFlt 9223372036854775808, jFlt 4607182418800017408]) (OneL.ok (l := [jInt 1, jFlt 9223372036854775808]) (val_num 62 [49, 46, 48] _ _ ⟨49, [46, 48], rfl, .inr (by decide), by decide⟩ nj_flt (.inr (.inl rfl)))) ?_
  refine Sev.more (t' := [93, 125]) (OneL.ok (l := [jInt 1, jFlt 9223372036854775808, jFlt 4607182418800017408]) (val_atom (o := .ok (jStr ⟨#[195, 169, 240, 159, 152, 128, 239, 191, 189]⟩) [93, 125]) 62 (Atom.str (str1 [93, 125])))) .stop
def txt2 : List UInt8 := [123, 34, 97, 34, 58, 49, 44, 34, 97, 34, 58, 50, 125]
theorem reads2 : Val decB8 enc NJ 64 txt2 (.err 162 [34, 97, 34, 58, 50, 125]) := by
  refine ⟨_, Core.rcd (o := .err 162 [34, 97, 34, 58, 50, 125]) ?_, rfl⟩
  refine Sev0.more (s' := ([⟨#[97]⟩], [jInt 1])) (t' := [44, 34, 97, 34, 58, 50, 125]) rfl ?_ ?_
  · exact OneR.ok (ks := []) (vs := []) rfl (str_a _) (by simp) rfl (val_int 63 49 _ _ nj_one (by decide) (.inr (.inl rfl)))
  · exact Sev.bad (OneR.twice (t := [34, 97, 34, 58, 50, 125]) rfl (str_a _) (by simp))
def txt3 : List UInt8 := [91, 49, 44, 93]
theorem reads3 : Val decB8 enc NJ 64 txt3 (.err 160 [93]) := by
  refine ⟨_, Core.list (o := .err 160 [93]) ?_, rfl⟩
  refine Sev0.more (s' := [jInt 1]) (t' := [44, 93]) rfl (OneL.ok (l := []) (val_int 63 49 _ _ nj_one (by decide) (.inr (.inl rfl)))) ?_
  exact Sev.bad (OneL.err (val_atom (t := [93]) (o := .err 160 [93]) 63 (Atom.bad (by show begC 93 = false; decide))))
def val4 : JV := jRec [⟨#[97]⟩] [jFlt 4617315517961601024]
theorem show4 : showR val4 = .tuple #[.string ⟨#[123, 34, 97, 34, 58, 53, 46, 48, 125]⟩, .int .i64 0] := by
  have hc : val4.check = 0 := by
    rw [check_is]
    have h1 : val4.formed = true := by decide +kernel
    have h2 : val4.deep = 1 := by decide +kernel
    rw [h1, h2]; rfl
  unfold showR
  rw [hc, if_pos rfl]
  have : shJ val4 = [123, 34, 97, 34, 58, 53, 46, 48, 125] := by decide +kernel
  rw [this]
theorem quote4 : quoL [60, 47, 10] = [34, 92, 117, 48, 48, 51, 99, 47, 92, 117, 48, 48, 48, 97, 34] := by decide +kernel
end Go.Proofs.YtckaoeloofbklaaGreatDoor
namespace Go.Proofs.YtckaoeloofbklaaGreatDoor
open Go Go.RowKit Go.Lib
theorem number_any (r : Nat) (s : ByteArray) (a t : List UInt8) (v : JV) (d : Nat) (w : World) (h : Rd r s (a ++ t) d w) (hn : a.all numC = true) (ht : Ends numC t) (K : Nat) (hG : Globs w) (hT : GlobT K w) (hK : K ≤ r) (hv : NJ a v) :
    Calls Tryz.prog 51 #[.pointer (some ⟨r, 0, none⟩)] w (ValOk r s d w v t) := by
  cases hv with
  | int ng l c W ha hf hl h0 hp => exact number_int r s a t d w h hn ht _ ng l c W ha hf hl h0 hp
  | flt ng l c W fr ex ha hf hl hw hu hi hP => exact number_flt r s a t d w h hn ht K hG hT hK _ ng l c W fr ex ha hf hl hw hu hi hP
structure Env (K r : Nat) (s : ByteArray) (w : World) : Prop where
  k : K ≤ r
  t : Lib.Utf8Tabs 0 1 w
  g : Globs w
  gt : GlobT K w
  s : (s.size + 1) * 88 ≤ 140737488355328
theorem Env.h17 {K r : Nat} {s : ByteArray} {w : World} (h : Env K r s w) : 17 ≤ r := Nat.le_trans h.gt.lt h.k
theorem Env.kr {K r : Nat} {s : ByteArray} {w W : World} (h : Env K r s w) (hk : KR r w W) (hr : r < w.heap.size) : Env K r s W :=
  ⟨h.k, utabs_kept h.t (hk.low' h.h17 (by have := h.h17; omega)), h.g.below h.h17 (hk.below (by omega)), h.gt.below h.k (hk.below (by omega)), h.s⟩
def Shorter {σ : Type} (t : List UInt8) : Out σ → Prop
  | .ok _ t' => t'.length < t.length
  | .err _ _ => True
theorem atom_short {t : List UInt8} {o : Out JV} (h : Atom decB8 enc NJ t o) : Shorter t o := by
  cases h with
  | null => simp [Shorter]; omega
  | tru => simp [Shorter]; omega
  | fals => simp [Shorter]; omega
  | str h => have := str_len h; simp [Shorter]; omega
  | num => simp [Shorter]; omega
  | bad => trivial
theorem sev_short {σ : Type} {e : UInt8} {One : σ → List UInt8 → Out σ → Prop} (hO : ∀ s t o, One s t o → Shorter t o) {s : σ} {t : List UInt8} {o : Out σ} (h : Sev e One s t o) : Shorter t o := by
  induction h with
  | stop => simp [Shorter]
  | more h _ ih =>
    have := hO _ _ _ h
    rename_i o _
    cases o with
    | ok v t' => simp [Shorter] at this ih ⊢; omega
    | err => trivial
  | bad => trivial
theorem sev0_short {σ : Type} {e : UInt8} {One : σ → List UInt8 → Out σ → Prop} (hO : ∀ s t o, One s t o → Shorter t o) {s : σ} {t : List UInt8} {o : Out σ} (h : Sev0 e One s t o) : Shorter t o := by
  cases h with
  | stop => simp [Shorter]
  | more _ h h2 =>
    have h3 := hO _ _ _ h
    have h4 := sev_short hO h2
    cases o with
    | ok v t' => simp [Shorter] at h3 h4 ⊢; omega
    | err => trivial
  | bad => trivial
theorem short_skip {t u : List UInt8} {o : Out JV} (h : Shorter u o) (hu : u.length ≤ t.length) : Shorter t o.skip := by
  cases o with
  | ok v t' =>
    have := skip_len t'
    simp [Shorter, Out.skip] at h ⊢
    omega
  | err => trivial
theorem val_short : ∀ (n : Nat) (t : List UInt8) (o : Out JV), Val decB8 enc NJ n t o → Shorter t o
  | 0, t, o, h => by
    obtain ⟨o', h1, rfl⟩ := h
    exact short_skip (atom_short h1) (skip_len t)
  | n + 1, t, o, h => by
    obtain ⟨o', h1, rfl⟩ := h
    refine short_skip ?_ (skip_len t)
    have ih := val_short n
    generalize skipB t = tt at h1 ⊢
    cases h1 with
    | atom h => exact atom_short h
    | list h =>
      rename_i t2 o2
      have := sev0_short (One := OneL (Val decB8 enc NJ n)) (fun s t o ho => by
        cases ho with
        | ok hp => exact ih _ _ hp
        | err hp => trivial) h
      have hs := skip_len t2
      cases o2 with
      | ok v t' => simp [Shorter, Out.map] at this ⊢; omega
      | err => trivial
    | rcd h =>
      rename_i t2 o2
      have := sev0_short (One := OneR decB8 enc (Val decB8 enc NJ n)) (fun s t o ho => by
        cases ho with
        | ok e1 e2 e3 e4 hp =>
          have h1 := ih _ _ hp
          have h2 := str_len e2
          have h3 := congrArg List.length e1
          have h4 := congrArg List.length e4
          rename_i t1 k t2 t3 v t4
          have h5 := skip_len t
          have h6 := skip_len t2
          simp [Shorter] at h1 h3 h4 ⊢; omega
        | err => trivial
        | twice => trivial) h
      have hs := skip_len t2
      cases o2 with
      | ok v t' => simp [Shorter, Out.map] at this ⊢; omega
      | err => trivial
theorem beg_dig (c : UInt8) (h : isDgB c = true) : begF c = none := by
  have key : ∀ c : Fin 256, isDgB (UInt8.ofNat c.val) = true → begF (UInt8.ofNat c.val) = none := by decide +kernel
  have := key ⟨c.toNat, c.toNat_lt⟩
  simp only [UInt8.ofNat_toNat] at this
  exact this h
theorem beg_none (c : UInt8) (h : begC c = false) : begF c = none ∧ isDgB c = false ∧ isAl c = false := by
  have key : ∀ c : Fin 256, begC (UInt8.ofNat c.val) = false → begF (UInt8.ofNat c.val) = none ∧ isDgB (UInt8.ofNat c.val) = false ∧ isAl (UInt8.ofNat c.val) = false := by decide +kernel
  have := key ⟨c.toNat, c.toNat_lt⟩
  simp only [UInt8.ofNat_toNat] at this
  exact this h
theorem ent_list : ∀ args w, (callFunc 48 args).run Tryz.prog w = .ok (.enter 48 args) w := enters_of Tryz.func48 (by kernel_rfl) rfl
theorem ent_record : ∀ args w, (callFunc 49 args).run Tryz.prog w = .ok (.enter 49 args) w := enters_of Tryz.func49 (by kernel_rfl) rfl
theorem ent_text : ∀ args w, (callFunc 50 args).run Tryz.prog w = .ok (.enter 50 args) w := enters_of Tryz.func50 (by kernel_rfl) rfl
theorem ent_number : ∀ args w, (callFunc 51 args).run Tryz.prog w = .ok (.enter 51 args) w := enters_of Tryz.func51 (by kernel_rfl) rfl
theorem atom_value {K r : Nat} {s : ByteArray} {t : List UInt8} {d : Nat} {w : World} (h : Rd r s t d w) (hE : Env K r s w) {u : List UInt8} (hu : skipB t = u) {o : Out JV} (ha : Atom decB8 enc NJ u o) :
    Calls Tryz.prog 25 #[.pointer (some ⟨r, 0, none⟩)] w (ValPost r s d w o.skip) := by
  have hrl := h.lt
  cases ha with
  | null he => exact value_word (o := .ok jNull _) r s t _ 110 d w h hu (by decide) (by decide) (by decide) fun W hr hk => word_null r s _ d W hr he
  | tru he => exact value_word (o := .ok (jBool true) _) r s t _ 116 d w h hu (by decide) (by decide) (by decide) fun W hr hk => word_true r s _ d W hr he
  | fals he => exact value_word (o := .ok (jBool false) _) r s t _ 102 d w h hu (by decide) (by decide) (by decide) fun W hr hk => word_false r s _ d W hr he
  | str hs => exact value_map (o := .ok (jStr _) _) r s t _ 34 d w h hu 50 (by decide) ent_text fun W hr hk => textJ_any r s _ _ _ d W hr hE.h17 (hE.kr hk hrl).t hs
  | num hc hall hv ht =>
    rename_i c a t2 v
    have hN : ∀ W, Rd r s (c :: (a ++ t2)) d W → KR r w W → Calls Tryz.prog 51 #[.pointer (some ⟨r, 0, none⟩)] W (ValPost r s d W (.ok v t2)) := fun W hr hk =>
      number_any r s (c :: a) t2 v d W hr (by
        rw [List.all_cons, hall, Bool.and_true]
        rcases hc with rfl | hc
        · decide
        · unfold numC; rw [hc]; simp) ht K (hE.kr hk hrl).g (hE.kr hk hrl).gt hE.k hv
    rcases hc with rfl | hc
    · exact value_map (o := .ok v t2) r s t _ 45 d w h hu 51 (by decide) ent_number hN
    · exact value_dig (o := .ok v t2) r s t _ c d w h hu (beg_dig c hc) hc hN
  | bad he =>
    cases u with
    | nil =>
      have := value_nil r s t d w h hu
      rw [hu] at this
      exact this
    | cons c u =>
      obtain ⟨h1, h2, h3⟩ := beg_none c he
      have := value_bad r s t u c d w h hu h1 h2 h3
      rw [hu] at this
      exact this
theorem value_any (K : Nat) : ∀ (n r : Nat) (s : ByteArray) (t : List UInt8) (d : Nat) (w : World) (o : Out JV), d + n = 64 → Rd r s t d w → Env K r s w → Val decB8 enc NJ n t o →
    Calls Tryz.prog 25 #[.pointer (some ⟨r, 0, none⟩)] w (ValPost r s d w o)
  | 0, r, s, t, d, w, o, hd, h, hE, hv => by
    obtain ⟨o', h1, rfl⟩ := hv
    exact atom_value h hE rfl h1
  | n + 1, r, s, t, d, w, o, hd, h, hE, hv => by
    have hrl := h.lt
    obtain ⟨o', h1, rfl⟩ := hv
    have ih := value_any K n
    have hsh : ∀ t v t', Val decB8 enc NJ n t (.ok v t') → t'.length < t.length := fun t v t' hv => val_short n _ _ hv
    generalize hu : skipB t = u at h1
    cases h1 with
    | atom ha => exact atom_value h hE hu ha
    | list hs =>
      exact value_map r s t _ 91 d w h hu 48 (by decide) ent_list fun W hr hk =>
        list_yes (Val decB8 enc NJ n) hsh r s d (by omega) hE.s _ W hr (fun W2 t2 o2 hk2 hr2 hp => ih r s t2 (d + 1) W2 o2 (by omega) hr2 ((hE.kr hk hrl).kr hk2 hr.lt) hp) _ hs
    | rcd hs =>
      exact value_map r s t _ 123 d w h hu 49 (by decide) ent_record fun W hr hk =>
        record_yes (Val decB8 enc NJ n) hsh r s d (by omega) hE.s hE.h17 _ W hr (hE.kr hk hrl).t (fun W2 t2 o2 hk2 hr2 hp => ih r s t2 (d + 1) W2 o2 (by omega) hr2 ((hE.kr hk hrl).kr hk2 hr.lt) hp) _ hs
end Go.Proofs.YtckaoeloofbklaaGreatDoor
namespace Go.Proofs.YtckaoeloofbklaaGreatDoor
open Go Go.RowKit Go.Lib
theorem ta_yes (v : Value) (w : World) : (Instr.typeAssert (.iface 53 v) 20 53 true).run Tryz.prog w = .ok (.tuple #[v, .bool true]) w := by
  simp [Instr.typeAssert, run_underlying Tryz.underlying53]
set_option maxRecDepth 100000 in
set_option maxHeartbeats 4000000 in
theorem catch_idle (a b c : Addr) (w : World) :
    CallsD Tryz.prog 24 #[.pointer (some a), .pointer (some b), .pointer (some c)] .returning w fun e u' w' => e = .returned (.tuple #[]) ∧ u' = .returning ∧ w' = w := by
  refine callsD_of_wpS Tryz.func24 rfl fun c₀ cs hu => ?_
  apply wpS_seq
  apply wpS_region
  simp [wpOpsS, go_sem, recoverD, hu, Tryz.ntmps24, Exit.thenS]
  refine wpS_of_wp ?_
  go_wp2
  cases c₀
  simp_all [bodyPostS, results, Tryz.results24]
set_option maxRecDepth 100000 in
set_option maxHeartbeats 4000000 in
theorem catch_hit (n0 a b c : Nat) (x : Int) (n : Nat) (w : World) (x0 x1 x2 x3 x4 x5 x6 y z : Value) (ha : w.heap[a]? = some (.cells #[x0, x1, x2, x3, x4, x5, x6] 27 (0, 0))) (hb : w.heap[b]? = some (.cells #[y] 31 (0, 0))) (hc : w.heap[c]? = some (.cells #[z] 3 (0, 0))) (h0 : n0 ≤ a) (h1 : n0 ≤ b) (h2 : n0 ≤ c) (hab : a ≠ b) (hac : a ≠ c) (hbc : b ≠ c) :
    CallsD Tryz.prog 24 #[.pointer (some ⟨a, 0, none⟩), .pointer (some ⟨b, 0, none⟩), .pointer (some ⟨c, 0, none⟩)] (.panicking [{ v := wrongV x n, recovered := false }]) w fun e u' w' => e = .returned (.tuple #[]) ∧ u' = .panicking [{ v := wrongV x n, recovered := true }] ∧
      w'.heap[a]? = some (.cells #[.int .u8 0, .bool false, .int .i64 0, .int .u64 0, .string ⟨#[]⟩, .slice none 0 0, .slice none 0 0] 27 (0, 0)) ∧ w'.heap[b]? = some (.cells #[.int .i64 x] 31 (0, 0)) ∧ w'.heap[c]? = some (.cells #[.int .i64 (n : Int)] 3 (0, 0)) ∧ Below n0 w w' := by
  obtain ⟨c0, c1, c2, c3, c4, c5, c6⟩ := cell_agg7 ha
  have fa : ∀ j, w.frozen? ⟨a, j, none⟩ = false := fun j => froz_agg ha j
  refine callsD_of_wpS Tryz.func24 rfl fun c₀ cs hu => ?_
  apply wpS_seq
  apply wpS_region
  simp [wpOpsS, go_sem, recoverD, hu, Tryz.ntmps24, Exit.thenS]
  unfold wrongV
  refine wpS_of_wp ?_
  have hta := fun v w => ta_yes v w
  simp only [Array.replicate_succ, Array.replicate_zero, List.push_toArray, List.append_toArray, List.nil_append, List.cons_append, List.setIfInBounds_toArray, List.set_cons_zero, List.set_cons_succ]
  go_upto_region 7 with fail
  have hal : a < w.heap.size := (Array.getElem?_eq_some_iff.1 ha).1
  have hbl : b < w.heap.size := (Array.getElem?_eq_some_iff.1 hb).1
  have hcl : c < w.heap.size := (Array.getElem?_eq_some_iff.1 hc).1
  have nH := heap_alloc_new w (.cells #[.int .i64 x, .int .i64 (n : Int)] 53)
  have ha1 := (heapJ_old w (.cells #[.int .i64 x, .int .i64 (n : Int)] 53) a hal).trans ha
  have hb1 := (heapJ_old w (.cells #[.int .i64 x, .int .i64 (n : Int)] 53) b hbl).trans hb
  have hc1 := (heapJ_old w (.cells #[.int .i64 x, .int .i64 (n : Int)] 53) c hcl).trans hc
  have hB1 : Below n0 w (w.alloc (.cells #[.int .i64 x, .int .i64 (n : Int)] 53)) := (Below.refl _ _).alloc (by omega) _
  generalize w.alloc (.cells #[.int .i64 x, .int .i64 (n : Int)] 53) = w1 at *
  obtain ⟨H, hH⟩ : ∃ H, H = w.heap.size := ⟨_, rfl⟩
  rw [← hH] at hal hbl hcl nH ⊢
  clear hH c0 c1 c2 c3 c4 c5 c6 fa ha hb hc
  have hS : ∀ W : World, W.heap[H]? = w1.heap[H]? → W.cell? ⟨H, 0, none⟩ = some (.int .i64 x) ∧ W.cell? ⟨H, 1, none⟩ = some (.int .i64 (n : Int)) := fun W h => by
    have h2 := h.trans nH
    exact ⟨by rw [cell_of_row _ _ 0 _ _ _ h2]; rfl, by rw [cell_of_row _ _ 1 _ _ _ h2]; rfl⟩
  refine wp_region_held_drew (S := fun w' => w'.cell? ⟨H, 0, none⟩ = some (.int .i64 x) ∧ w'.cell? ⟨H, 1, none⟩ = some (.int .i64 (n : Int))) (by kernel_rfl) (hS _ rfl) (fun hH0 => ?_)
  refine wpAnyH_take (i := 0) (v := .agg #[.int .u8 0, .bool false, .int .i64 0, .int .u64 0, .string ⟨#[]⟩, .slice none 0 0, .slice none 0 0]) rfl (by kernel_rfl) (by kernel_rfl) (by kernel_rfl) (fun _ _ _ h => h) (Or.inl ⟨by rfl, ?_⟩) hH0 ?_
  · (intro w hSw; (try dsimp only at hSw); obtain ⟨hs0, hs1⟩ := hSw; go_simp; try rfl)
  try simp only [Act.put, List.setIfInBounds_toArray, List.set_cons_zero, List.set_cons_succ, List.getElem_toArray, List.getElem_cons_zero]
  refine wpAnyH_take (i := 1) (v := .pointer (some ⟨H, 0, none⟩)) rfl (by kernel_rfl) (by kernel_rfl) (by kernel_rfl) (fun _ _ _ h => h) (Or.inl ⟨by rfl, ?_⟩) hH0 ?_
  · (intro w hSw; (try dsimp only at hSw); obtain ⟨hs0, hs1⟩ := hSw; go_simp; try rfl)
  try simp only [Act.put, List.setIfInBounds_toArray, List.set_cons_zero, List.set_cons_succ, List.getElem_toArray, List.getElem_cons_succ, List.getElem_cons_zero]
  refine wpAnyH_take (i := 2) (v := .int .i64 x) rfl (by kernel_rfl) (by kernel_rfl) (by kernel_rfl) (fun _ _ _ h => h) (Or.inl ⟨by rfl, ?_⟩) hH0 ?_
  · (intro w hSw; (try dsimp only at hSw); obtain ⟨hs0, hs1⟩ := hSw; go_simp; try rfl)
  try simp only [Act.put, List.setIfInBounds_toArray, List.set_cons_zero, List.set_cons_succ, List.getElem_toArray, List.getElem_cons_succ, List.getElem_cons_zero]
  refine wpAnyH_take (i := 3) (v := .pointer (some ⟨H, 1, none⟩)) rfl (by kernel_rfl) (by kernel_rfl) (by kernel_rfl) (fun _ _ _ h => h) (Or.inl ⟨by rfl, ?_⟩) hH0 ?_
  · (intro w hSw; (try dsimp only at hSw); obtain ⟨hs0, hs1⟩ := hSw; go_simp; try rfl)
  try simp only [Act.put, List.setIfInBounds_toArray, List.set_cons_zero, List.set_cons_succ, List.getElem_toArray, List.getElem_cons_succ, List.getElem_cons_zero]
  refine wpAnyH_take (i := 4) (v := .int .i64 (n : Int)) rfl (by kernel_rfl) (by kernel_rfl) (by kernel_rfl) (fun _ _ _ h => h) (Or.inl ⟨by rfl, ?_⟩) hH0 ?_
  · (intro w hSw; (try dsimp only at hSw); obtain ⟨hs0, hs1⟩ := hSw; go_simp; try rfl)
  try simp only [Act.put, List.setIfInBounds_toArray, List.set_cons_zero, List.set_cons_succ, List.getElem_toArray, List.getElem_cons_succ, List.getElem_cons_zero]
  have ha2 : w1.drew.heap[a]? = _ := ha1
  have hb2 : w1.drew.heap[b]? = _ := hb1
  have hc2 : w1.drew.heap[c]? = _ := hc1
  have hB2 : Below n0 w w1.drew := hB1.drew
  have hS2 : ∀ W : World, W.heap[H]? = w1.drew.heap[H]? → _ := hS
  generalize w1.drew = w2 at *
  refine wpAnyH_ready (rs := [5]) (by kernel_rfl) (by simp) ?_
  refine AllReadyH.cons rfl (fun K hK => ?_) AllReadyH.nil
  obtain ⟨c0, c1, c2, c3, c4, c5, c6⟩ := cell_agg7 ha2
  have fa : ∀ j, w2.frozen? ⟨a, j, none⟩ = false := fun j => froz_agg ha2 j
  go_simp
  have ha3 := seven_set ha2 (.int .u8 0) (.bool false) (.int .i64 0) (.int .u64 0) (.string ⟨#[]⟩) (.slice none 0 0) (.slice none 0 0)
  have hk3 : ∀ j, j ≠ a → (set7 w2 a (.int .u8 0) (.bool false) (.int .i64 0) (.int .u64 0) (.string ⟨#[]⟩) (.slice none 0 0) (.slice none 0 0)).heap[j]? = w2.heap[j]? := fun j hj => set7_block hj ..
  have hB3 : Below n0 w (set7 w2 a (.int .u8 0) (.bool false) (.int .i64 0) (.int .u64 0) (.string ⟨#[]⟩) (.slice none 0 0) (.slice none 0 0)) := ((((((hB2.setCell (p := ⟨a, 0, none⟩) h0 _).setCell (p := ⟨a, 1, none⟩) h0 _).setCell (p := ⟨a, 2, none⟩) h0 _).setCell (p := ⟨a, 3, none⟩) h0 _).setCell (p := ⟨a, 4, none⟩) h0 _).setCell (p := ⟨a, 5, none⟩) h0 _).setCell (p := ⟨a, 6, none⟩) h0 _
  unfold set7 at hk3 hB3
  generalize ((((((w2.setCell ⟨a, 0, none⟩ (.int .u8 0)).setCell ⟨a, 1, none⟩ (.bool false)).setCell ⟨a, 2, none⟩ (.int .i64 0)).setCell ⟨a, 3, none⟩ (.int .u64 0)).setCell ⟨a, 4, none⟩ (.string ⟨#[]⟩)).setCell ⟨a, 5, none⟩ (.slice none 0 0)).setCell ⟨a, 6, none⟩ (.slice none 0 0) = w3 at *
  have hb3 := (hk3 b (fun h => hab h.symm)).trans hb2
  have hc3 := (hk3 c (fun h => hac h.symm)).trans hc2
  have hS3 : ∀ W : World, W.heap[H]? = w3.heap[H]? → _ := fun W h => hS2 W (h.trans (hk3 H (by omega)))
  refine hK.out _ _ (hS3 _ rfl) (fun hHx => ?_)
  clear hK K c0 c1 c2 c3 c4 c5 c6 fa ha2 hb2 hc2 hB2 hk3 hS2
  try simp only [Act.put, List.setIfInBounds_toArray, List.set_cons_zero, List.set_cons_succ, List.getElem_toArray, List.getElem_cons_succ, List.getElem_cons_zero]
  refine wpAnyH_ready (rs := [6]) (by kernel_rfl) (by simp) ?_
  refine AllReadyH.cons rfl (fun K hK => ?_) AllReadyH.nil
  have cb : w3.cell? ⟨b, 0, none⟩ = some y := by rw [cell_of_row _ _ 0 _ _ _ hb3]; rfl
  have fb := froz_agg hb3 0
  go_simp
  have hb4 := setCellJ (j := 0) hb3 (.int .i64 x)
  have hk4 : ∀ j, j ≠ b → (w3.setCell ⟨b, 0, none⟩ (.int .i64 x)).heap[j]? = w3.heap[j]? := fun j hj => Below.heap_setCell _ _ _ _ hj
  have hB4 := hB3.setCell (p := ⟨b, 0, none⟩) h1 (.int .i64 x)
  generalize w3.setCell ⟨b, 0, none⟩ (.int .i64 x) = w4 at *
  have ha4 := (hk4 a hab).trans ha3
  have hc4 := (hk4 c (fun h => hbc h.symm)).trans hc3
  have hS4 : ∀ W : World, W.heap[H]? = w4.heap[H]? → _ := fun W h => hS3 W (h.trans (hk4 H (by omega)))
  refine hK.out _ _ (hS4 _ rfl) (fun hHx => ?_)
  clear hK K cb fb hb3 hk4 hB3 hS3 ha3 hc3
  try simp only [Act.put, List.setIfInBounds_toArray, List.set_cons_zero, List.set_cons_succ, List.getElem_toArray, List.getElem_cons_succ, List.getElem_cons_zero]
  refine wpAnyH_ready (rs := [7]) (by kernel_rfl) (by simp) ?_
  refine AllReadyH.cons rfl (fun K hK => ?_) AllReadyH.nil
  have cc : w4.cell? ⟨c, 0, none⟩ = some z := by rw [cell_of_row _ _ 0 _ _ _ hc4]; rfl
  have fc := froz_agg hc4 0
  go_simp
  have hc5 := setCellJ (j := 0) hc4 (.int .i64 (n : Int))
  have hk5 : ∀ j, j ≠ c → (w4.setCell ⟨c, 0, none⟩ (.int .i64 (n : Int))).heap[j]? = w4.heap[j]? := fun j hj => Below.heap_setCell _ _ _ _ hj
  have hB5 := hB4.setCell (p := ⟨c, 0, none⟩) h2 (.int .i64 (n : Int))
  generalize w4.setCell ⟨c, 0, none⟩ (.int .i64 (n : Int)) = w5 at *
  have ha5 := (hk5 a hac).trans ha4
  have hb5 := (hk5 b hbc).trans hb4
  have hS5 : ∀ W : World, W.heap[H]? = w5.heap[H]? → _ := fun W h => hS4 W (h.trans (hk5 H (by omega)))
  refine hK.out _ _ (hS5 _ rfl) (fun hHx => ?_)
  clear hK K cc fc hc4 hk5 hB4 hS4 ha4 hb4
  try simp only [Act.put, List.setIfInBounds_toArray, List.set_cons_zero, List.set_cons_succ, List.getElem_toArray, List.getElem_cons_succ, List.getElem_cons_zero]
  refine wpAnyH_done (by kernel_rfl) ?_ _
  have hb6 : w5.heap[b]? = some (.cells #[.int .i64 x] 31 (0, 0)) := by simpa using hb5
  have hc6 : w5.heap[c]? = some (.cells #[.int .i64 (n : Int)] 3 (0, 0)) := by simpa using hc5
  clear hb5 hc5 hS5 hHx hH0 hS ha1 hb1 hc1 nH hta hB1
  simp (config := { zetaDelta := true }) only [Exit.inBlock, bodyPostS]
  refine ⟨trivial, _, rfl, .tuple #[], by simp [results, Tryz.results24], rfl, rfl, ha5, hb6, hc6, hB5⟩
end Go.Proofs.YtckaoeloofbklaaGreatDoor
namespace Go.Proofs.YtckaoeloofbklaaGreatDoor
open Go Go.RowKit Go.Lib
def zeroJ : Value := .agg #[.int .u8 0, .bool false, .int .i64 0, .int .u64 0, .string ⟨#[]⟩, .slice none 0 0, .slice none 0 0]
def ParsePost (s : ByteArray) (w : World) (o : Out JV) (e : Ending) (w' : World) : Prop := Below w.heap.size w w' ∧ match o with
  | .ok v [] => ∃ V, e = .returned (.tuple #[V, .int .i64 0, .int .i64 0]) ∧ JAt (fun b => w.heap.size ≤ b) w' v V
  | .ok _ (c :: t) => e = .returned (.tuple #[zeroJ, .int .i64 160, .int .i64 ((s.size - (c :: t).length : Nat) : Int)])
  | .err x t => e = .returned (.tuple #[zeroJ, .int .i64 x, .int .i64 ((s.size - t.length : Nat) : Int)])
set_option maxRecDepth 100000 in
set_option maxHeartbeats 8000000 in
theorem parse_json (K : Nat) (s : ByteArray) (o : Out JV) (w : World) (ht : Lib.Utf8Tabs 0 1 w) (hg : Globs w) (hgt : GlobT K w) (hs : (s.size + 1) * 88 ≤ 140737488355328) (hv : Val decB8 enc NJ 64 s.data.toList o) :
    Calls Tryz.prog 10 #[.string s] w (ParsePost s w o) := by
  have hmf : ∀ (fn : Fn) (first cap : Array Value) (w : World), (Instr.makeFunc fn first cap).run Tryz.prog w = .ok (.func fn first cap) w := fun _ _ _ _ => rfl
  obtain ⟨r, hr⟩ : ∃ r, r = w.heap.size + 1 + 1 + 1 := ⟨_, rfl⟩
  obtain ⟨W, hW⟩ : ∃ W, W = (((w.alloc (.cells #[.int .u8 0, .bool false, .int .i64 0, .int .u64 0, .string ⟨#[]⟩, .slice none 0 0, .slice none 0 0] 27)).alloc (.cells #[.int .i64 0] 31)).alloc (.cells #[.int .i64 0] 3)).alloc (.cells #[.string s, .int .i64 0, .int .i64 0] 56) := ⟨_, rfl⟩
  have hbW : Below w.heap.size w W := by
    rw [hW]
    exact ((((Below.refl _ _).alloc (Nat.le_refl _) _).alloc (by simp <;> omega) _).alloc (by simp <;> omega) _).alloc (by simp <;> omega) _
  have hWs : W.heap.size = w.heap.size + 4 := by rw [hW]; simp
  have n3 : W.heap[r]? = some (.cells #[.string s, .int .i64 0, .int .i64 0] 56 (0, 0)) := by
    have := heap_alloc_new (((w.alloc (.cells #[.int .u8 0, .bool false, .int .i64 0, .int .u64 0, .string ⟨#[]⟩, .slice none 0 0, .slice none 0 0] 27)).alloc (.cells #[.int .i64 0] 31)).alloc (.cells #[.int .i64 0] 3)) (.cells #[.string s, .int .i64 0, .int .i64 0] 56)
    rw [← hW] at this
    rw [hr]
    simpa using this
  have n2 : W.heap[w.heap.size + 1 + 1]? = some (.cells #[.int .i64 0] 3 (0, 0)) := by
    rw [hW, heapJ_old _ _ _ (by simp <;> omega)]
    have := heap_alloc_new ((w.alloc (.cells #[.int .u8 0, .bool false, .int .i64 0, .int .u64 0, .string ⟨#[]⟩, .slice none 0 0, .slice none 0 0] 27)).alloc (.cells #[.int .i64 0] 31)) (.cells #[.int .i64 0] 3)
    simpa using this
  have n1 : W.heap[w.heap.size + 1]? = some (.cells #[.int .i64 0] 31 (0, 0)) := by
    rw [hW, heapJ_old _ _ _ (by simp <;> omega), heapJ_old _ _ _ (by simp <;> omega)]
    have := heap_alloc_new (w.alloc (.cells #[.int .u8 0, .bool false, .int .i64 0, .int .u64 0, .string ⟨#[]⟩, .slice none 0 0, .slice none 0 0] 27)) (.cells #[.int .i64 0] 31)
    simpa using this
  have n0 : W.heap[w.heap.size]? = some (.cells #[.int .u8 0, .bool false, .int .i64 0, .int .u64 0, .string ⟨#[]⟩, .slice none 0 0, .slice none 0 0] 27 (0, 0)) := by
    rw [hW, heapJ_old _ _ _ (by simp <;> omega), heapJ_old _ _ _ (by simp <;> omega), heapJ_old _ _ _ (by simp <;> omega)]
    exact heap_alloc_new _ _
  have hsl : s.data.toList.length = s.size := by simp
  have hrd : Rd r s s.data.toList 0 W := ⟨by rw [n3, hsl]; simp, List.suffix_refl _, by omega⟩
  have hE : Env K r s W := ⟨by have := hgt.le; omega, utabs_kept ht (hbW.mono (by have := hgt.lt; have := hgt.le; omega)), hg.on hbW, hgt.on hbW, hs⟩
  have HV := Lib.hid (value_any K 64 r s s.data.toList 0 W o (by omega) hrd hE hv)
  have HB := Lib.hid hbW
  have HN := Lib.hid (And.intro n0 (And.intro n1 (And.intro n2 n3)))
  clear hbW n0 n1 n2 n3 hrd hE hv ht hg hgt
  go_enter_defers Tryz.func10, Tryz.ntmps10
  go_wp2_with fail
  rw [← hW, ← hr]
  refine HV.out.mono ?_
  intro e w1 hp
  have HR := Lib.hid hr
  cases o with
  | err x t =>
    obtain ⟨hg, hk⟩ := hp
    unfold Gives at hg
    subst hg
    obtain ⟨n0, n1, n2, n3⟩ := HN.out
    have m0 := (hk.block w.heap.size (by omega) (by omega)).trans n0
    have m1 := (hk.block (w.heap.size + 1) (by omega) (by omega)).trans n1
    have m2 := (hk.block (w.heap.size + 1 + 1) (by omega) (by omega)).trans n2
    have HC := Lib.hid (catch_hit w.heap.size w.heap.size (w.heap.size + 1) (w.heap.size + 1 + 1) x (s.size - t.length) w1 _ _ _ _ _ _ _ _ _ m0 m1 m2 (by omega) (by omega) (by omega) (by omega) (by omega) (by omega))
    dsimp only
    refine leaves_cons (f := 24) (args := #[.pointer (some ⟨w.heap.size, 0, none⟩), .pointer (some ⟨w.heap.size + 1, 0, none⟩), .pointer (some ⟨w.heap.size + 1 + 1, 0, none⟩)]) (by simp) (by simp [go_sem]) ?_
    refine HC.out.mono ?_
    rintro e u' w'' ⟨rfl, rfl, g0, g1, g2, gb⟩
    obtain ⟨c0, c1, c2, c3, c4, c5, c6⟩ := cell_agg7 g0
    have d1 : w''.cell? ⟨w.heap.size + 1, 0, none⟩ = some (.int .i64 x) := by rw [cell_of_row _ _ 0 _ _ _ g1]; rfl
    have d2 : w''.cell? ⟨w.heap.size + 1 + 1, 0, none⟩ = some (.int .i64 ((s.size - t.length : Nat) : Int)) := by rw [cell_of_row _ _ 0 _ _ _ g2]; rfl
    have hfin : ParsePost s w (.err x t) (.returned (.tuple #[zeroJ, .int .i64 x, .int .i64 ((s.size - t.length : Nat) : Int)])) w'' := ⟨(HB.out.trans (hk.below (by omega) |>.mono (by omega))).trans gb, rfl⟩
    simp [Leaves, settle, results, Tryz.results10, go_sem, c0, c1, c2, c3, c4, c5, c6, d1, d2]
    exact hfin
  | ok v t =>
    obtain ⟨V, rfl, hJ, hr1, hk⟩ := hp
    obtain ⟨vk, vb, vn, vu, vt, vks, vvs⟩ := v
    have hJ2 := hJ
    rw [JAt] at hJ2
    obtain ⟨va, vc, va', vc', rfl, -⟩ := hJ2
    obtain ⟨n0, n1, n2, n3⟩ := HN.out
    have m0 := (hk.block w.heap.size (by omega) (by omega)).trans n0
    have m1 := (hk.block (w.heap.size + 1) (by omega) (by omega)).trans n1
    have m2 := (hk.block (w.heap.size + 1 + 1) (by omega) (by omega)).trans n2
    have q : ∀ j, w1.frozen? ⟨w.heap.size, j, none⟩ = false := fun j => froz_agg m0 j
    obtain ⟨q0, q1, q2, q3, q4, q5, q6⟩ := cell_agg7 m0
    have HM := Lib.hid (And.intro m0 (And.intro m1 (And.intro m2 (And.intro hr1 (And.intro hk hJ)))))
    have hF := seven_set m0 (.int .u8 vk) (.bool vb) (.int .i64 vn) (.int .u64 vu) (.string vt) (.slice va vks.length vc) (.slice va' vvs.length vc')
    have hB7 : Below w.heap.size w (set7 w1 w.heap.size (.int .u8 vk) (.bool vb) (.int .i64 vn) (.int .u64 vu) (.string vt) (.slice va vks.length vc) (.slice va' vvs.length vc')) := ((((((((HB.out.trans (hk.below (by omega) |>.mono (by omega))).setCell (p := ⟨w.heap.size, 0, none⟩) (Nat.le_refl _) _).setCell (p := ⟨w.heap.size, 1, none⟩) (Nat.le_refl _) _).setCell (p := ⟨w.heap.size, 2, none⟩) (Nat.le_refl _) _).setCell (p := ⟨w.heap.size, 3, none⟩) (Nat.le_refl _) _).setCell (p := ⟨w.heap.size, 4, none⟩) (Nat.le_refl _) _).setCell (p := ⟨w.heap.size, 5, none⟩) (Nat.le_refl _) _).setCell (p := ⟨w.heap.size, 6, none⟩) (Nat.le_refl _) _)
    have hb7 : ∀ j, j ≠ w.heap.size → (set7 w1 w.heap.size (.int .u8 vk) (.bool vb) (.int .i64 vn) (.int .u64 vu) (.string vt) (.slice va vks.length vc) (.slice va' vvs.length vc')).heap[j]? = w1.heap[j]? := fun j hj => set7_block hj ..
    have HX := Lib.hid (And.intro hB7 hb7)
    unfold set7 at HX
    clear m0 m1 m2 hr1 hk hJ n0 n1 n2 n3 hr hB7 hb7
    go_upto_region 4 with fail
    generalize ((((((w1.setCell ⟨w.heap.size, 0, none⟩ (.int .u8 vk)).setCell ⟨w.heap.size, 1, none⟩ (.bool vb)).setCell ⟨w.heap.size, 2, none⟩ (.int .i64 vn)).setCell ⟨w.heap.size, 3, none⟩ (.int .u64 vu)).setCell ⟨w.heap.size, 4, none⟩ (.string vt)).setCell ⟨w.heap.size, 5, none⟩ (.slice va vks.length vc)).setCell ⟨w.heap.size, 6, none⟩ (.slice va' vvs.length vc') = F at *
    obtain ⟨m0, m1, m2, hr1, hk, hJ⟩ := HM.out
    have k1 := (HX.out.2 (w.heap.size + 1) (by omega)).trans m1
    have k2 := (HX.out.2 (w.heap.size + 1 + 1) (by omega)).trans m2
    have hrF : Rd r s t 0 F := hr1.kept (HX.out.2 r (by have := HR.out; omega))
    obtain ⟨p, hp, c1⟩ := hrF.pos
    have HK := Lib.hid (And.intro k1 (And.intro k2 hJ))
    have HF := Lib.hid hF
    cases t with
    | nil =>
      rw [List.length_nil, Nat.add_zero] at hp
      subst hp
      obtain ⟨g0, g1, g2, g3, g4, g5, g6⟩ := cell_agg7 hF
      have q : ∀ j, F.frozen? ⟨w.heap.size, j, none⟩ = false := fun j => froz_agg hF j
      have f1 := froz_agg k1 0
      have f2 := froz_agg k2 0
      have e1 : F.cell? ⟨w.heap.size + 1, 0, none⟩ = some (.int .i64 0) := by rw [cell_of_row _ _ 0 _ _ _ k1]; rfl
      have e2 : F.cell? ⟨w.heap.size + 1 + 1, 0, none⟩ = some (.int .i64 0) := by rw [cell_of_row _ _ 0 _ _ _ k2]; rfl
      have hF2 := seven_set hF (.int .u8 vk) (.bool vb) (.int .i64 vn) (.int .u64 vu) (.string vt) (.slice va vks.length vc) (.slice va' vvs.length vc')
      have hb8 : ∀ j, j ≠ w.heap.size → (set7 F w.heap.size (.int .u8 vk) (.bool vb) (.int .i64 vn) (.int .u64 vu) (.string vt) (.slice va vks.length vc) (.slice va' vvs.length vc')).heap[j]? = F.heap[j]? := fun j hj => set7_block hj ..
      have hB8 : Below w.heap.size w (set7 F w.heap.size (.int .u8 vk) (.bool vb) (.int .i64 vn) (.int .u64 vu) (.string vt) (.slice va vks.length vc) (.slice va' vvs.length vc')) := (((((((HX.out.1.setCell (p := ⟨w.heap.size, 0, none⟩) (Nat.le_refl _) _).setCell (p := ⟨w.heap.size, 1, none⟩) (Nat.le_refl _) _).setCell (p := ⟨w.heap.size, 2, none⟩) (Nat.le_refl _) _).setCell (p := ⟨w.heap.size, 3, none⟩) (Nat.le_refl _) _).setCell (p := ⟨w.heap.size, 4, none⟩) (Nat.le_refl _) _).setCell (p := ⟨w.heap.size, 5, none⟩) (Nat.le_refl _) _).setCell (p := ⟨w.heap.size, 6, none⟩) (Nat.le_refl _) _)
      have H8 := Lib.hid (And.intro hF2 (And.intro hb8 hB8))
      unfold set7 at H8
      clear m0 m1 m2 hr1 hk hJ k1 k2 hrF hF hF2 hb8 hB8
      go_wp2_with fail
      generalize (((((((F.setCell ⟨w.heap.size, 0, none⟩ (.int .u8 vk)).setCell ⟨w.heap.size, 1, none⟩ (.bool vb)).setCell ⟨w.heap.size, 2, none⟩ (.int .i64 vn)).setCell ⟨w.heap.size, 3, none⟩ (.int .u64 vu)).setCell ⟨w.heap.size, 4, none⟩ (.string vt)).setCell ⟨w.heap.size, 5, none⟩ (.slice va vks.length vc)).setCell ⟨w.heap.size, 6, none⟩ (.slice va' vvs.length vc')) = F8 at *
      obtain ⟨x0, x1, x2⟩ := H8.out
      obtain ⟨k1, k2, hJ⟩ := HK.out
      have y1 := (x1 (w.heap.size + 1) (by omega)).trans k1
      have y2 := (x1 (w.heap.size + 1 + 1) (by omega)).trans k2
      have z1 := setCellJ (j := 0) y1 (.int .i64 0)
      have z2 := setCellJ (w := F8.setCell ⟨w.heap.size + 1, 0, none⟩ (.int .i64 0)) (j := 0) ((Below.heap_setCell F8 ⟨w.heap.size + 1, 0, none⟩ (.int .i64 0) (w.heap.size + 1 + 1) (by show _ ≠ w.heap.size + 1; omega)).trans y2) (.int .i64 0)
      have z0 := (Below.heap_setCell (F8.setCell ⟨w.heap.size + 1, 0, none⟩ (.int .i64 0)) ⟨w.heap.size + 1 + 1, 0, none⟩ (.int .i64 0) w.heap.size (by show w.heap.size ≠ w.heap.size + 1 + 1; omega)).trans ((Below.heap_setCell F8 ⟨w.heap.size + 1, 0, none⟩ (.int .i64 0) w.heap.size (by show w.heap.size ≠ w.heap.size + 1; omega)).trans x0)
      have z1' := (Below.heap_setCell (F8.setCell ⟨w.heap.size + 1, 0, none⟩ (.int .i64 0)) ⟨w.heap.size + 1 + 1, 0, none⟩ (.int .i64 0) (w.heap.size + 1) (by show w.heap.size + 1 ≠ w.heap.size + 1 + 1; omega)).trans z1
      have hBf := (x2.setCell (p := ⟨w.heap.size + 1, 0, none⟩) (by show w.heap.size ≤ w.heap.size + 1; omega) (.int .i64 0)).setCell (p := ⟨w.heap.size + 1 + 1, 0, none⟩) (by show w.heap.size ≤ w.heap.size + 1 + 1; omega) (.int .i64 0)
      have hJf : JAt (fun b => w.heap.size ≤ b) ((F8.setCell ⟨w.heap.size + 1, 0, none⟩ (.int .i64 0)).setCell ⟨w.heap.size + 1 + 1, 0, none⟩ (.int .i64 0)) _ _ := JAt.kept (fun j hj _ => ⟨(Below.heap_setCell _ _ _ _ (by show j ≠ w.heap.size + 1 + 1; omega)).trans ((Below.heap_setCell _ _ _ _ (by show j ≠ w.heap.size + 1; omega)).trans ((x1 j (by omega)).trans (HX.out.2 j (by omega)))), by omega⟩) _ _ hJ
      clear x0 x1 x2 y1 y2 z1 k1 k2 hJ
      generalize (F8.setCell ⟨w.heap.size + 1, 0, none⟩ (.int .i64 0)).setCell ⟨w.heap.size + 1 + 1, 0, none⟩ (.int .i64 0) = G at *
      obtain ⟨c0, c1, c2, c3, c4, c5, c6⟩ := cell_agg7 z0
      have d1 : G.cell? ⟨w.heap.size + 1, 0, none⟩ = some (.int .i64 0) := by rw [cell_of_row _ _ 0 _ _ _ z1']; rfl
      have d2 : G.cell? ⟨w.heap.size + 1 + 1, 0, none⟩ = some (.int .i64 0) := by rw [cell_of_row _ _ 0 _ _ _ z2]; rfl
      refine leaves_cons (f := 24) (args := #[.pointer (some ⟨w.heap.size, 0, none⟩), .pointer (some ⟨w.heap.size + 1, 0, none⟩), .pointer (some ⟨w.heap.size + 1 + 1, 0, none⟩)]) (by simp) (by simp [go_sem]) ?_
      refine (catch_idle ⟨w.heap.size, 0, none⟩ ⟨w.heap.size + 1, 0, none⟩ ⟨w.heap.size + 1 + 1, 0, none⟩ _).mono ?_
      rintro e u' w'' ⟨rfl, rfl, hw⟩
      replace hw := hw.symm
      subst hw
      have hfin : ∀ V, JAt (fun b => w.heap.size ≤ b) G (.mk vk vb vn vu vt vks vvs) V → ParsePost s w (.ok (.mk vk vb vn vu vt vks vvs) []) (.returned (.tuple #[V, .int .i64 0, .int .i64 0])) G := fun V hV => ⟨hBf, V, rfl, hV⟩
      simp [Leaves, settle, results, Tryz.results10, go_sem, c0, c1, c2, c3, c4, c5, c6, d1, d2]
      exact hfin _ hJf
    | cons c t =>
      have hlt : (p : Int) < (s.size : Int) := by rw [List.length_cons] at hp; omega
      have HFA := Lib.hid (fail_any (.pointer (some ⟨r, 0, none⟩)) p F)
      have HC := Lib.hid (catch_hit w.heap.size w.heap.size (w.heap.size + 1) (w.heap.size + 1 + 1) 160 p F _ _ _ _ _ _ _ _ _ hF k1 k2 (by omega) (by omega) (by omega) (by omega) (by omega) (by omega))
      have hpe : s.size - (c :: t).length = p := by omega
      clear m0 m1 m2 hr1 hk hJ k1 k2 hrF hF hp
      go_wp2_with fail
      refine HFA.out.mono ?_
      rintro e w3 ⟨hg, hw⟩
      replace hw := hw.symm
      subst hw
      unfold Gives at hg
      subst hg
      dsimp only
      refine leaves_cons (f := 24) (args := #[.pointer (some ⟨w.heap.size, 0, none⟩), .pointer (some ⟨w.heap.size + 1, 0, none⟩), .pointer (some ⟨w.heap.size + 1 + 1, 0, none⟩)]) (by simp) (by simp [go_sem]) ?_
      refine HC.out.mono ?_
      rintro e u' w'' ⟨rfl, rfl, g0, g1, g2, gb⟩
      obtain ⟨c0, c1, c2, c3, c4, c5, c6⟩ := cell_agg7 g0
      have d1 : w''.cell? ⟨w.heap.size + 1, 0, none⟩ = some (.int .i64 160) := by rw [cell_of_row _ _ 0 _ _ _ g1]; rfl
      have d2 : w''.cell? ⟨w.heap.size + 1 + 1, 0, none⟩ = some (.int .i64 (p : Int)) := by rw [cell_of_row _ _ 0 _ _ _ g2]; rfl
      have hfin : ParsePost s w (.ok (.mk vk vb vn vu vt vks vvs) (c :: t)) (.returned (.tuple #[zeroJ, .int .i64 160, .int .i64 (p : Int)])) w'' := ⟨HX.out.1.trans gb, by dsimp only; rw [hpe]⟩
      simp [Leaves, settle, results, Tryz.results10, go_sem, c0, c1, c2, c3, c4, c5, c6, d1, d2]
      exact hfin
end Go.Proofs.YtckaoeloofbklaaGreatDoor
namespace Go.Proofs.YtckaoeloofbklaaGreatDoor
open Go Go.RowKit Go.Lib
structure W1At (w : World) (a : Option Addr) : Prop where
  ex : ∃ (q off c2 q2 off2 : Nat), a = some ⟨q, off, none⟩ ∧ q < w.heap.size ∧ q2 < w.heap.size ∧ w.cell? ⟨q, off + 6, none⟩ = some (.slice (some ⟨q2, off2, none⟩) 4 c2) ∧ w.cell? ⟨q2, off2 + 2, none⟩ = some (.int .i64 1) ∧
    w.cell? ⟨q2, off2 + 10, none⟩ = some (.int .u64 9223372036854775808) ∧ w.cell? ⟨q2, off2 + 25, none⟩ = some (.string ⟨#[195, 169, 240, 159, 152, 128, 239, 191, 189]⟩)
theorem W1At.on {w w' : World} {a : Option Addr} (h : W1At w a) (hb : Below w.heap.size w w') : W1At w' a := by
  obtain ⟨q, off, c2, q2, off2, e, h1, h2, h3, h4, h5, h6⟩ := h.ex
  have k1 : ∀ i, w'.cell? ⟨q, i, none⟩ = w.cell? ⟨q, i, none⟩ := fun i => hb.cell (p := ⟨q, i, none⟩) h1
  have k2 : ∀ i, w'.cell? ⟨q2, i, none⟩ = w.cell? ⟨q2, i, none⟩ := fun i => hb.cell (p := ⟨q2, i, none⟩) h2
  exact ⟨q, off, c2, q2, off2, e, Nat.lt_of_lt_of_le h1 hb.size, Nat.lt_of_lt_of_le h2 hb.size, by rw [k1, h3], by rw [k2, h4], by rw [k2, h5], by rw [k2, h6]⟩
theorem w1_of {ok : Nat → Prop} {w : World} {V : Value} (h : JAt ok w val1 V) : ∃ (ka : Option Addr) (kc : Nat) (a : Option Addr) (c : Nat), V = .agg #[.int .u8 7, .bool false, .int .i64 0, .int .u64 0, .string ⟨#[]⟩, .slice ka 1 kc, .slice a 1 c] ∧ W1At w a := by
  unfold val1 jRec at h
  rw [JAt] at h
  obtain ⟨ka, kc, a, c, rfl, -, hvs, -, -⟩ := h
  refine ⟨ka, kc, a, c, rfl, ?_⟩
  obtain ⟨q, off, rfl, -, hq, hit⟩ := hvs.resolve_left (by simp)
  rw [ItAt] at hit
  obtain ⟨⟨V2, h7, hj⟩, -⟩ := hit
  unfold jList at hj
  rw [JAt] at hj
  obtain ⟨ka2, kc2, a2, c2, rfl, -, hvs2, -, -⟩ := hj
  obtain ⟨q2, off2, rfl, -, hq2, hit2⟩ := hvs2.resolve_left (by simp)
  obtain ⟨x0, x1, x2, x3, x4, x5, x6, hV, d0, d1, d2, d3, d4, d5, d6⟩ := h7
  simp only [Value.agg.injEq, Array.mk.injEq, List.cons.injEq, and_true] at hV
  obtain ⟨rfl, rfl, rfl, rfl, rfl, rfl, rfl⟩ := hV
  obtain ⟨A0, g0, j0⟩ := hit2.get (i := 0) rfl
  obtain ⟨A1, g1, j1⟩ := hit2.get (i := 1) rfl
  obtain ⟨A3, g3, j3⟩ := hit2.get (i := 3) rfl
  unfold jInt at j0
  unfold jFlt at j1
  unfold jStr at j3
  rw [JAt] at j0 j1 j3
  obtain ⟨_, _, _, _, rfl, -⟩ := j0
  obtain ⟨_, _, _, _, rfl, -⟩ := j1
  obtain ⟨_, _, _, _, rfl, -⟩ := j3
  obtain ⟨y0, y1, y2, y3, y4, y5, y6, hY, e0, e1, e2, e3, e4, e5, e6⟩ := g0
  simp only [Value.agg.injEq, Array.mk.injEq, List.cons.injEq, and_true] at hY
  obtain ⟨rfl, rfl, rfl, rfl, rfl, rfl, rfl⟩ := hY
  obtain ⟨y0, y1, y2, y3, y4, y5, y6, hY, f0, f1, f2, f3, f4, f5, f6⟩ := g1
  simp only [Value.agg.injEq, Array.mk.injEq, List.cons.injEq, and_true] at hY
  obtain ⟨rfl, rfl, rfl, rfl, rfl, rfl, rfl⟩ := hY
  obtain ⟨y0, y1, y2, y3, y4, y5, y6, hY, k0, k1, k2, k3, k4, k5, k6⟩ := g3
  simp only [Value.agg.injEq, Array.mk.injEq, List.cons.injEq, and_true] at hY
  obtain ⟨rfl, rfl, rfl, rfl, rfl, rfl, rfl⟩ := hY
  exact ⟨q, off, c2, q2, off2, rfl, hq, hq2, d6, e2, f3, k4⟩
theorem val4_at (w : World) : JAt (fun _ => True) ((w.alloc (.cells #[.string ⟨#[97]⟩] 9)).alloc (.cells #[.int .u8 4, .bool false, .int .i64 0, .int .u64 4617315517961601024, .string ⟨#[]⟩, .slice none 0 0, .slice none 0 0] 27)) val4
    (.agg #[.int .u8 7, .bool false, .int .i64 0, .int .u64 0, .string ⟨#[]⟩, .slice (some ⟨w.heap.size, 0, none⟩) 1 1, .slice (some ⟨w.heap.size + 1, 0, none⟩) 1 1]) := by
  have h1 := heap_alloc_new w (.cells #[.string ⟨#[97]⟩] 9)
  have h2 := heap_alloc_new (w.alloc (.cells #[.string ⟨#[97]⟩] 9)) (.cells #[.int .u8 4, .bool false, .int .i64 0, .int .u64 4617315517961601024, .string ⟨#[]⟩, .slice none 0 0, .slice none 0 0] 27)
  have hs : (w.alloc (.cells #[.string ⟨#[97]⟩] 9)).heap.size = w.heap.size + 1 := by simp
  have h3 := (heapJ_old (w.alloc (.cells #[.string ⟨#[97]⟩] 9)) (.cells #[.int .u8 4, .bool false, .int .i64 0, .int .u64 4617315517961601024, .string ⟨#[]⟩, .slice none 0 0, .slice none 0 0] 27) w.heap.size (by omega)).trans h1
  rw [hs] at h2
  have hl := (Array.getElem?_eq_some_iff.1 h2).1
  unfold val4 jRec jFlt
  rw [JAt]
  refine ⟨_, 1, _, 1, rfl, .inr ⟨w.heap.size, 0, rfl, trivial, by omega, fun j k hj => ?_⟩, .inr ⟨w.heap.size + 1, 0, rfl, trivial, hl, ?_⟩, by decide, by decide⟩
  · match j, hj with
    | 0, hj =>
      simp at hj; subst hj
      rw [cell_of_row _ _ 0 _ _ _ h3]; rfl
    | j + 1, hj => simp at hj
  · rw [ItAt, ItAt]
    obtain ⟨c0, c1, c2, c3, c4, c5, c6⟩ := cell_agg7 h2
    exact ⟨⟨_, ⟨_, _, _, _, _, _, _, rfl, c0, c1, c2, c3, c4, c5, c6⟩, atom_at _ _ 4 false 0 4617315517961601024 ⟨#[]⟩⟩, trivial⟩
set_option maxRecDepth 100000 in
set_option maxHeartbeats 8000000 in
theorem works_any (K : Nat) (w : World) (hT : Lib.Utf8Tabs 0 1 w) (hG : Globs w) (hGT : GlobT K w) :
    Calls Tryz.prog 7 #[] w fun e w' => e = .returned (.bool true) ∧ Below w.heap.size w w' := by
  have h17 := hG.glob.lt
  have hP1 := parse_json K ⟨txt1.toArray⟩ _ w hT hG hGT (by decide) reads1
  have HP1 := Lib.hid hP1
  have HP2 := Lib.hid (fun (W : World) (hb : Below w.heap.size w W) => parse_json K ⟨txt2.toArray⟩ _ W (utabs_kept hT (hb.mono h17)) (hG.on hb) (hGT.on hb) (by decide) reads2)
  have HP3 := Lib.hid (fun (W : World) (hb : Below w.heap.size w W) => parse_json K ⟨txt3.toArray⟩ _ W (utabs_kept hT (hb.mono h17)) (hG.on hb) (hGT.on hb) (by decide) reads3)
  have HS := Lib.hid (fun (W : World) (V : Value) (hb : Below w.heap.size w W) (hj : JAt (fun _ => True) W val4 V) => showM_any (fun _ => True) val4 V W (hG.on hb) (utabs_kept hT (hb.mono h17)) (Nat.le_trans h17 hb.size) hj
    (.mk (by decide) (by decide) (by intro v hv; simp at hv; subst hv; exact .mk (by decide) (by decide) (by simp))) (.mk (by decide) (by decide) (by decide) (by decide) (by intro v hv; simp at hv; subst hv; exact .mk (by decide) (by decide) (by decide) (by decide) (by simp))) (by decide +kernel) (by decide +kernel))
  have HQ := Lib.hid (fun (W : World) (hb : Below w.heap.size w W) => quote_any ⟨#[60, 47, 10]⟩ W (Nat.le_trans h17 hb.size) (utabs_kept hT (hb.mono h17)) (by decide))
  clear hP1 hT hG hGT
  go_enter Tryz.func7, Tryz.ntmps7
  go_wp2_with fail
  refine HP1.out.mono ?_
  rintro e w1 ⟨hb1, V, rfl, hj1⟩
  obtain ⟨ka, kc, a, c, rfl, hw1⟩ := w1_of hj1
  have hbB : Below w.heap.size w (w1.alloc (.cells #[.int .u8 7, .bool false, .int .i64 0, .int .u64 0, .string ⟨#[]⟩, .slice ka 1 kc, .slice a 1 c] 27)) := hb1.alloc hb1.size _
  have hbx := heap_alloc_new w1 (.cells #[.int .u8 7, .bool false, .int .i64 0, .int .u64 0, .string ⟨#[]⟩, .slice ka 1 kc, .slice a 1 c] 27)
  have HW1 := Lib.hid (hw1.on ((Below.refl _ _).alloc (Nat.le_refl _) (.cells #[.int .u8 7, .bool false, .int .i64 0, .int .u64 0, .string ⟨#[]⟩, .slice ka 1 kc, .slice a 1 c] 27)))
  have HBX := Lib.hid hbx
  have HBB := Lib.hid hbB
  have HPP2 := Lib.hid (HP2.out _ hbB)
  have hl1 := (Array.getElem?_eq_some_iff.1 hbx).1
  clear hbx hbB hw1 hj1 hb1
  go_upto_region 2 with fail
  generalize w1.alloc (.cells #[.int .u8 7, .bool false, .int .i64 0, .int .u64 0, .string ⟨#[]⟩, .slice ka 1 kc, .slice a 1 c] 27) = wB at *
  go_wp2_with fail
  refine HPP2.out.mono ?_
  rintro e w2 ⟨hb2, he2⟩
  have he2 : e = .returned (.tuple #[.agg #[.int .u8 0, .bool false, .int .i64 0, .int .u64 0, .string ⟨#[]⟩, .slice none 0 0, .slice none 0 0], .int .i64 162, .int .i64 7]) := he2
  subst he2
  have hbC : Below wB.heap.size wB (w2.alloc (.cells #[.int .u8 0, .bool false, .int .i64 0, .int .u64 0, .string ⟨#[]⟩, .slice none 0 0, .slice none 0 0] 27)) := hb2.alloc hb2.size _
  have hbD := HBB.out.trans (hbC.mono HBB.out.size)
  have HW2 := Lib.hid (HW1.out.on hbC)
  have HBX2 := Lib.hid ((hbC.block w1.heap.size hl1).trans HBX.out)
  have HPP3 := Lib.hid (HP3.out _ hbD)
  have HBD := Lib.hid hbD
  have hl2 := Nat.lt_of_lt_of_le hl1 hbC.size
  clear hbC hbD hb2 HW1 HBX HBB HPP2
  go_upto_region 3 with fail
  generalize w2.alloc (.cells #[.int .u8 0, .bool false, .int .i64 0, .int .u64 0, .string ⟨#[]⟩, .slice none 0 0, .slice none 0 0] 27) = wC at *
  go_wp2_with fail
  refine HPP3.out.mono ?_
  rintro e w3 ⟨hb3, he3⟩
  have he3 : e = .returned (.tuple #[.agg #[.int .u8 0, .bool false, .int .i64 0, .int .u64 0, .string ⟨#[]⟩, .slice none 0 0, .slice none 0 0], .int .i64 160, .int .i64 3]) := he3
  subst he3
  have hbE : Below wC.heap.size wC (w3.alloc (.cells #[.int .u8 0, .bool false, .int .i64 0, .int .u64 0, .string ⟨#[]⟩, .slice none 0 0, .slice none 0 0] 27)) := hb3.alloc hb3.size _
  have hbF := HBD.out.trans (hbE.mono HBD.out.size)
  have HW3 := Lib.hid (HW2.out.on hbE)
  have HBX3 := Lib.hid ((hbE.block w1.heap.size hl2).trans HBX2.out)
  have HBF := Lib.hid hbF
  have hl3 := Nat.lt_of_lt_of_le hl2 hbE.size
  clear hbE hbF hb3 HW2 HBX2 HBD HPP3 hl1 hl2
  go_upto_region 4 with fail
  generalize w3.alloc (.cells #[.int .u8 0, .bool false, .int .i64 0, .int .u64 0, .string ⟨#[]⟩, .slice none 0 0, .slice none 0 0] 27) = wE at *
  have hal : Below wE.heap.size wE ((wE.alloc (.cells #[.string ⟨#[97]⟩] 9)).alloc (.cells #[.int .u8 4, .bool false, .int .i64 0, .int .u64 4617315517961601024, .string ⟨#[]⟩, .slice none 0 0, .slice none 0 0] 27)) :=
    ((Below.refl _ _).alloc (Nat.le_refl _) _).alloc (by simp) _
  have HSS := Lib.hid (HS.out _ _ (HBF.out.trans (hal.mono HBF.out.size)) (val4_at wE))
  have HAL := Lib.hid hal
  clear hal
  rw [show4] at HSS
  go_wp2_with fail
  refine HSS.out.mono ?_
  rintro e w4 ⟨rfl, hb4⟩
  have hbG := HAL.out.trans (hb4.mono HAL.out.size)
  have HW4 := Lib.hid (HW3.out.on hbG)
  have HBX4 := Lib.hid ((hbG.block w1.heap.size hl3).trans HBX3.out)
  have hbH := HBF.out.trans (hbG.mono HBF.out.size)
  have HQQ := Lib.hid (HQ.out _ hbH)
  rw [quote4] at HQQ
  have HBH := Lib.hid hbH
  have hl4 := Nat.lt_of_lt_of_le hl3 hbG.size
  clear hbG hbH hb4 HW3 HBX3 HBF HSS hl3
  go_wp2_with fail
  refine HQQ.out.mono ?_
  rintro e w5 ⟨rfl, hb5⟩
  have hbx5 := (hb5.block w1.heap.size hl4).trans HBX4.out
  obtain ⟨c0, c1, c2, c3, c4, c5, c6⟩ := cell_agg7 hbx5
  obtain ⟨q, off, cc2, q2, off2, rfl, -, -, d0, d1, d2, d3⟩ := (HW4.out.on hb5).ex
  have HB5 := Lib.hid (HBH.out.trans (hb5.mono HBH.out.size))
  clear hb5 hbx5 HW4 HBX4 HBH
  go_wp2_with fail
  go_ret
  exact ⟨rfl, HB5.out⟩
end Go.Proofs.YtckaoeloofbklaaGreatDoor
namespace Go.Proofs.YtckaoeloofbklaaGreatDoor
open Go Go.RowKit Go.Lib
def lays_valid_ren : Go.Shelf.Ren := ⟨fun | 196 => 43 | 259 => 66 | n => n, fun | 0 => 0 | 3 => 3 | 4 => 4 | 5 => 5 | 9 => 9 | 12 => 12 | 46 => 103 | 53 => 23 | 119 => 99 | 138 => 101 | 139 => 102 | n => n, fun | 3 => 0 | 4 => 1 | n => n⟩
theorem lays_valid : Go.Proofs.Lays.n196 Tryz.prog lays_valid_ren := {
  mixed := by kernel_rfl
  f196 := Tryz.func43.trans (congrArg some (by kernel_rfl))
  f259 := Tryz.func66.trans (congrArg some (by kernel_rfl))
  t0 := Tryz.underlying0
  a0 := Tryz.isAgg0
  z0 := Tryz.sizeOf0
  v0 := Tryz.zeroValue0
  t3 := Tryz.underlying3
  a3 := Tryz.isAgg3
  z3 := Tryz.sizeOf3
  v3 := Tryz.zeroValue3
  t4 := Tryz.underlying4
  a4 := Tryz.isAgg4
  z4 := Tryz.sizeOf4
  v4 := Tryz.zeroValue4
  t5 := Tryz.underlying5
  a5 := Tryz.isAgg5
  z5 := Tryz.sizeOf5
  v5 := Tryz.zeroValue5
  t9 := Tryz.underlying9
  a9 := Tryz.isAgg9
  z9 := Tryz.sizeOf9
  v9 := Tryz.zeroValue9
  t12 := Tryz.underlying12
  a12 := Tryz.isAgg12
  z12 := Tryz.sizeOf12
  v12 := Tryz.zeroValue12
  t46 := Tryz.underlying103
  a46 := Tryz.isAgg103
  z46 := Tryz.sizeOf103
  v46 := Tryz.zeroValue103
  t53 := Tryz.underlying23
  a53 := Tryz.isAgg23
  z53 := Tryz.sizeOf23
  v53 := Tryz.zeroValue23
  t119 := Tryz.underlying99
  a119 := Tryz.isAgg99
  z119 := Tryz.sizeOf99
  t138 := Tryz.underlying101
  a138 := Tryz.isAgg101
  z138 := Tryz.sizeOf101
  v138 := Tryz.zeroValue101
  t139 := Tryz.underlying102
  a139 := Tryz.isAgg102
  z139 := Tryz.sizeOf102
  v139 := Tryz.zeroValue102
  g3 := by kernel_rfl
  g4 := by kernel_rfl }
end Go.Proofs.YtckaoeloofbklaaGreatDoor
