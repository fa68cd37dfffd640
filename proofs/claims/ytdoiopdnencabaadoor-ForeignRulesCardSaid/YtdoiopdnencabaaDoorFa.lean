/- Contracts of chapter 8: among; the reference's Among; points; the closures. -/
import Derived.Test.YtdoiopdnencabaaDoorWord
import Derived.Test.YtdoiopdnencabaaDoorLow
namespace Go.Proofs.YtdoiopdnencabaaDoor
open Go Go.RowKit

def amongB (nm ws : ByteArray) : Bool := amongL nm.data.toList [] ws.data.toList

set_option maxHeartbeats 400000 in
theorem among_ref (s ws : ByteArray) (w : World) (hws : ws.size ≤ 100000) :
    Calls Tryd.prog 29 #[.string s, .string ws] w fun e w' => e = .returned (.bool (amongB s ws)) ∧ w = w' := by
  go_enter Tryd.func29, Tryd.ntmps29
  go_wp2
  go_loop [5, 6, 4] (fun f i r => ∃ j k : Nat, AmongInv s ws j k ∧ f = .int .i64 j ∧ i = .int .i64 k ∧ r = .bool false) (fun _ i _ => ws.size + 1 - (intOf i).toNat)
  case atStart => exact ⟨0, 0, .start s ws, rfl, rfl, rfl⟩
  case round =>
    obtain ⟨j, k, hI, rfl, rfl, rfl⟩ := hrel
    have hjk := hI.le
    have hk := hI.hi
    by_cases h1 : k < ws.size
    · have hne : ((k : Int) == (ws.size : Int)) = false := by rw [beq_eq_false_iff_ne]; omega
      by_cases hc : ((ws[k].toNat : Int) == 32) = true
      · go_wp2
        · go_ret
          exact ⟨ret_bool (hI.found (by omega) (.inr ⟨h1, hc⟩) ‹_› ‹_›).symm, rfl⟩
        · go_round
          case rel => exact ⟨k + 1, k + 1, hI.next h1 hc (.inr ‹_›), by go_num, by go_num, rfl⟩
          case measure => simp [intOf] <;> omega
        · go_round
          case rel => exact ⟨k + 1, k + 1, hI.next h1 hc (.inl ‹_›), by go_num, by go_num, rfl⟩
          case measure => simp [intOf] <;> omega
      · replace hc : ((ws[k].toNat : Int) == 32) = false := by simpa using hc
        go_wp2
        go_round
        case rel => exact ⟨j, k + 1, hI.on h1 hc, rfl, by go_num, rfl⟩
        case measure => simp [intOf] <;> omega
    · by_cases h2 : k = ws.size
      · obtain rfl := h2
        go_wp2
        · go_ret
          exact ⟨ret_bool (hI.found (by omega) (.inl rfl) ‹_› ‹_›).symm, rfl⟩
        · go_round
          case rel => exact ⟨ws.size + 1, ws.size + 1, hI.last rfl (.inr ‹_›), by go_num, by go_num, rfl⟩
          case measure => simp [intOf] <;> omega
        · go_round
          case rel => exact ⟨ws.size + 1, ws.size + 1, hI.last rfl (.inl ‹_›), by go_num, by go_num, rfl⟩
          case measure => simp [intOf] <;> omega
      · go_wp2
        go_ret
        exact ⟨ret_bool (hI.ended (by omega)).symm, rfl⟩

set_option maxHeartbeats 400000 in
theorem among_any (nm ws : ByteArray) (w : World) (hg : Glob w) (hok : WordsOk ws) :
    Calls Tryd.prog 26 #[.string nm, .string ws] w fun e w' => e = .returned (.bool (amongB nm ws)) ∧ Below w.heap.size w w' := by
  have e1 : amongB nm ws = Lib.containsS (fieldsV ws) nm := (hok.contains nm).symm
  have H1 := Lib.hid e1
  clear e1
  have hlen := fieldsV_small hok
  go_enter Tryd.func26, Tryd.ntmps26
  go_wp2_with fail
  refine (fields_any ws _ hg hok).mono ?_
  rintro e w' ⟨rfl, rfl⟩
  go_wp2_with fail
  refine (contains_any _ _ (fieldsV ws) nm 9 hlen (by exact heap_alloc_new _ _)).mono ?_
  rintro e w' ⟨rfl, rfl⟩
  go_wp2
  go_ret
  exact ⟨ret_bool H1.out.symm, (Below.refl _ _).alloc (Nat.le_refl _) _⟩

/-! ### the words -/
def mathW : ByteArray := (⟨#[109, 105, 32, 109, 111, 32, 109, 110, 32, 109, 115, 32, 109, 116, 101, 120, 116]⟩ : ByteArray)
def svgW : ByteArray := (⟨#[102, 111, 114, 101, 105, 103, 110, 79, 98, 106, 101, 99, 116, 32, 100, 101, 115, 99, 32, 116, 105, 116, 108, 101]⟩ : ByteArray)
def malW : ByteArray := (⟨#[109, 103, 108, 121, 112, 104, 32, 109, 97, 108, 105, 103, 110, 109, 97, 114, 107]⟩ : ByteArray)
def brW : ByteArray := (⟨#[98, 114, 32, 112]⟩ : ByteArray)
def fontW : ByteArray := (⟨#[99, 111, 108, 111, 114, 32, 102, 97, 99, 101, 32, 115, 105, 122, 101]⟩ : ByteArray)
def textW : ByteArray := (⟨#[116, 101, 120, 116, 47, 104, 116, 109, 108, 32, 97, 112, 112, 108, 105, 99, 97, 116, 105, 111, 110, 47, 120, 104, 116, 109, 108, 43, 120, 109, 108]⟩ : ByteArray)
def breakL : List UInt8 := ([98, 32, 98, 105, 103, 32, 98, 108, 111, 99, 107, 113, 117, 111, 116, 101, 32, 98, 111, 100, 121, 32, 98, 114, 32, 99, 101, 110, 116, 101, 114, 32, 99, 111, 100, 101, 32, 100, 100, 32, 100, 105, 118, 32, 100, 108, 32, 100, 116, 32, 101, 109, 32, 101, 109, 98, 101, 100, 32, 104, 49, 32, 104, 50, 32, 104, 51, 32, 104, 52, 32, 104, 53, 32, 104, 54, 32, 104, 101, 97, 100, 32, 104, 114, 32, 105, 32, 105, 109, 103, 32, 108, 105, 32, 108, 105, 115, 116, 105, 110, 103, 32, 109, 101, 110, 117, 32, 109, 101, 116, 97, 32, 110, 111, 98, 114, 32, 111, 108, 32, 112, 32, 112, 114, 101, 32, 114, 117, 98, 121, 32, 115, 32, 115, 109, 97, 108, 108, 32, 115, 112, 97, 110, 32, 115, 116, 114, 111, 110, 103, 32, 115, 116, 114, 105, 107, 101, 32, 115, 117, 98, 32, 115, 117, 112, 32, 116, 97, 98, 108, 101, 32, 116, 116, 32, 117, 32, 117, 108, 32, 118, 97, 114] : List UInt8)
def breakW : ByteArray := ⟨breakL.toArray⟩
theorem mathOk : WordsOk mathW := ⟨by decide +kernel, by decide +kernel, by decide +kernel⟩
theorem svgOk : WordsOk svgW := ⟨by decide +kernel, by decide +kernel, by decide +kernel⟩
theorem malOk : WordsOk malW := ⟨by decide +kernel, by decide +kernel, by decide +kernel⟩
theorem brOk : WordsOk brW := ⟨by decide +kernel, by decide +kernel, by decide +kernel⟩
theorem fontOk : WordsOk fontW := ⟨by decide +kernel, by decide +kernel, by decide +kernel⟩
theorem textOk : WordsOk textW := ⟨by decide +kernel, by decide +kernel, by decide +kernel⟩
theorem breakOk : WordsOk breakW := ⟨by decide +kernel, by decide +kernel, by decide +kernel⟩

/-- MathML's points for texts -/
def mpB (sp nm : ByteArray) : Bool := (sp.toList == [109, 97, 116, 104]) && amongB nm mathW
/-- annotation-xml -/
def xmlB (sp nm : ByteArray) : Bool := (sp.toList == [109, 97, 116, 104]) && (nm.toList == ([97, 110, 110, 111, 116, 97, 116, 105, 111, 110, 45, 120, 109, 108] : List UInt8))

set_option maxHeartbeats 400000 in
theorem mp_any (i : Int) (sp nm : ByteArray) (w : World) (hg : Glob w) :
    Calls Tryd.prog 15 #[.agg #[.int .i64 i, .string sp, .string nm]] w fun e w' => e = .returned (.bool (mpB sp nm)) ∧ Below w.heap.size w w' := by
  have hg1 := hg.alloc (.cells #[.int .i64 i, .string sp, .string nm] 31)
  by_cases h : (sp.toList == [109, 97, 116, 104]) = true
  · have e1 : mpB sp nm = amongB nm mathW := by rw [mpB, h]; rfl
    have H1 := Lib.hid e1; clear e1
    go_enter Tryd.func15, Tryd.ntmps15
    go_wp2_with fail
    refine (among_any nm mathW _ hg1 mathOk).mono ?_
    rintro e w' ⟨rfl, hb⟩
    go_wp2
    go_ret
    exact ⟨ret_bool H1.out.symm, ((Below.refl _ _).alloc (Nat.le_refl _) _).trans (hb.mono (by simp))⟩
  · replace h : (sp.toList == [109, 97, 116, 104]) = false := by simpa using h
    have e1 : mpB sp nm = false := by rw [mpB, h]; rfl
    have H1 := Lib.hid e1; clear e1
    go_enter Tryd.func15, Tryd.ntmps15
    go_wp2_with fail
    go_ret
    exact ⟨ret_bool H1.out.symm, (Below.refl _ _).alloc (Nat.le_refl _) _⟩

set_option maxHeartbeats 400000 in
theorem mp_ref (i : Int) (sp nm : ByteArray) (w : World) :
    Calls Tryd.prog 16 #[.agg #[.int .i64 i, .string sp, .string nm]] w fun e w' => e = .returned (.bool (mpB sp nm)) ∧ Below w.heap.size w w' := by
  by_cases h : (sp.toList == [109, 97, 116, 104]) = true
  · have e1 : mpB sp nm = amongB nm mathW := by rw [mpB, h]; rfl
    have H1 := Lib.hid e1; clear e1
    go_enter Tryd.func16, Tryd.ntmps16
    go_wp2_with fail
    refine (among_ref nm mathW _ mathOk.size).mono ?_
    rintro e w' ⟨rfl, rfl⟩
    go_wp2
    go_ret
    exact ⟨ret_bool H1.out.symm, (Below.refl _ _).alloc (Nat.le_refl _) _⟩
  · replace h : (sp.toList == [109, 97, 116, 104]) = false := by simpa using h
    have e1 : mpB sp nm = false := by rw [mpB, h]; rfl
    have H1 := Lib.hid e1; clear e1
    go_enter Tryd.func16, Tryd.ntmps16
    go_wp2_with fail
    go_ret
    exact ⟨ret_bool H1.out.symm, (Below.refl _ _).alloc (Nat.le_refl _) _⟩

set_option maxHeartbeats 400000 in
theorem xml_any (i : Int) (sp nm : ByteArray) (w : World) :
    Calls Tryd.prog 30 #[.agg #[.int .i64 i, .string sp, .string nm]] w fun e w' => e = .returned (.bool (xmlB sp nm)) ∧ Below w.heap.size w w' := by
  by_cases h : (sp.toList == [109, 97, 116, 104]) = true
  · have e1 : xmlB sp nm = (nm.toList == ([97, 110, 110, 111, 116, 97, 116, 105, 111, 110, 45, 120, 109, 108] : List UInt8)) := by rw [xmlB, h]; rfl
    have H1 := Lib.hid e1; clear e1
    go_enter Tryd.func30, Tryd.ntmps30
    go_wp2_with fail
    go_ret
    exact ⟨ret_bool H1.out.symm, (Below.refl _ _).alloc (Nat.le_refl _) _⟩
  · replace h : (sp.toList == [109, 97, 116, 104]) = false := by simpa using h
    have e1 : xmlB sp nm = false := by rw [xmlB, h]; rfl
    have H1 := Lib.hid e1; clear e1
    go_enter Tryd.func30, Tryd.ntmps30
    go_wp2_with fail
    go_ret
    exact ⟨ret_bool H1.out.symm, (Below.refl _ _).alloc (Nat.le_refl _) _⟩
end Go.Proofs.YtdoiopdnencabaaDoor
