/- The row's closed facts, one by one: D. -/
import Derived.Test.YtajdleoobkfckaaGreatDoorRows
import Derived.JoinedOf
import Derived.KernelRfl
namespace Go.Proofs.YtajdleoobkfckaaGreatDoor
set_option maxRecDepth 100000
set_option maxHeartbeats 4000000
theorem j10 : ((Rows.crashChecksRow.unfollowed == Tryz.prog.unfollowed 3) : Bool) = true := by kernel_rfl
end Go.Proofs.YtajdleoobkfckaaGreatDoor
