/- The row's closed facts, one by one: E. -/
import Derived.Test.YtajdleoobkfckaaGreatDoorRows
import Derived.JoinedOf
import Derived.KernelRfl
namespace Go.Proofs.YtajdleoobkfckaaGreatDoor
set_option maxRecDepth 100000
set_option maxHeartbeats 4000000
theorem j11 : ((Rows.crashChecksRow.recurses == Tryz.prog.recurses 3) : Bool) = true := by kernel_rfl
theorem j12 : ((Rows.crashChecksRow.named == Tryz.prog.varsNamed 3) : Bool) = true := by kernel_rfl
end Go.Proofs.YtajdleoobkfckaaGreatDoor
