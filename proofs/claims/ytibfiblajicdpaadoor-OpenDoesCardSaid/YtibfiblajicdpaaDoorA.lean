/- Contracts of the reference's small functions. -/
import Derived.WalkKit
import Derived.BigFrame
import Derived.Deep.QuietTactic
import Derived.BigQuiet
import Derived.Lib.Hide
import Derived.Test.YtibfiblajicdpaaDoorPlain
import Derived.Test.YtibfiblajicdpaaDoorProg
namespace Go.Proofs.YtibfiblajicdpaaDoor
open Go Go.RowKit

set_option maxHeartbeats 400000 in
theorem among_any (s ws : ByteArray) (w : World) (hws : ws.size ≤ 100000) :
    Calls Tryd.prog 64 #[.string s, .string ws] w fun e w' => e = .returned (.bool (amongL s.data.toList [] ws.data.toList)) ∧ w = w' := by
  go_enter Tryd.func64, Tryd.ntmps64
  go_wp2
  go_loop [5, 6, 4] (fun f i r => ∃ j k : Nat, AmongInv s ws j k ∧ f = .int .i64 j ∧ i = .int .i64 k ∧ r = .bool false) (fun _ i _ => ws.size + 1 - (intOf i).toNat)
  case atStart => exact ⟨0, 0, .start s ws, rfl, rfl, rfl⟩
  case round =>
    obtain ⟨j, k, hI, rfl, rfl, rfl⟩ := hrel
    have hjk := hI.le
    have hk := hI.hi
    by_cases h1 : k < ws.size
    · have hne : ((k : Int) == (ws.size : Int)) = false := by rw [beq_eq_false_iff_ne]; omega
      by_cases hc : ((ws[k].toNat : Int) == 32) = true
      · go_wp2
        · go_ret
          exact ⟨ret_bool (hI.found (by omega) (.inr ⟨h1, hc⟩) ‹_› ‹_›).symm, rfl⟩
        · go_round
          case rel => exact ⟨k + 1, k + 1, hI.next h1 hc (.inr ‹_›), by go_num, by go_num, rfl⟩
          case measure => simp [intOf] <;> omega
        · go_round
          case rel => exact ⟨k + 1, k + 1, hI.next h1 hc (.inl ‹_›), by go_num, by go_num, rfl⟩
          case measure => simp [intOf] <;> omega
      · replace hc : ((ws[k].toNat : Int) == 32) = false := by simpa using hc
        go_wp2
        go_round
        case rel => exact ⟨j, k + 1, hI.on h1 hc, rfl, by go_num, rfl⟩
        case measure => simp [intOf] <;> omega
    · by_cases h2 : k = ws.size
      · obtain rfl := h2
        go_wp2
        · go_ret
          exact ⟨ret_bool (hI.found (by omega) (.inl rfl) ‹_› ‹_›).symm, rfl⟩
        · go_round
          case rel => exact ⟨ws.size + 1, ws.size + 1, hI.last rfl (.inr ‹_›), by go_num, by go_num, rfl⟩
          case measure => simp [intOf] <;> omega
        · go_round
          case rel => exact ⟨ws.size + 1, ws.size + 1, hI.last rfl (.inl ‹_›), by go_num, by go_num, rfl⟩
          case measure => simp [intOf] <;> omega
      · go_wp2
        go_ret
        exact ⟨ret_bool (hI.ended (by omega)).symm, rfl⟩
end Go.Proofs.YtibfiblajicdpaaDoor
