/- What the row of JsonShows says of the program, computed by the kernel, limb by limb (in one piece it wants 9 GB). -/
import Derived.Test.YtckaoeloofbklaaGreatDoorRows
import Derived.JoinedOf
set_option maxRecDepth 100000
set_option maxHeartbeats 40000000
namespace Go.Proofs.YtckaoeloofbklaaGreatDoor
open Go
theorem both_true {a b : Bool} (ha : a = true) (hb : b = true) : (a && b) = true := by rw [ha, hb]; rfl
theorem jsonShows_closed : joinedFacts Tryz.pinned.checked.prog 4 Tryz.f4 Rows.jsonShowsSpec Rows.jsonShowsRow = true := by
 unfold joinedFacts
 refine both_true (both_true (both_true (both_true (both_true (both_true (both_true (both_true (both_true (both_true (both_true (both_true (both_true (both_true (both_true (both_true (both_true (both_true (both_true (both_true (both_true (both_true (both_true (both_true (both_true (both_true (both_true (both_true (both_true (both_true (both_true ?_ ?_) ?_) ?_) ?_) ?_) ?_) ?_) ?_) ?_) ?_) ?_) ?_) ?_) ?_) ?_) ?_) ?_) ?_) ?_) ?_) ?_) ?_) ?_) ?_) ?_) ?_) ?_) ?_) ?_) ?_) ?_
 all_goals decide +kernel
end Go.Proofs.YtckaoeloofbklaaGreatDoor
