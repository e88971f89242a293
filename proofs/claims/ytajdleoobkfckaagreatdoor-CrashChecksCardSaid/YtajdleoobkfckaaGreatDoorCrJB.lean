/- The row's closed facts, one by one: B. -/
import Derived.Test.YtajdleoobkfckaaGreatDoorRows
import Derived.JoinedOf
import Derived.KernelRfl
namespace Go.Proofs.YtajdleoobkfckaaGreatDoor
set_option maxRecDepth 100000
set_option maxHeartbeats 4000000
theorem j6 : ((Tryz.prog.stops == []) : Bool) = true := by kernel_rfl
theorem j7 : ((Rows.crashChecksRow.knobs == []) : Bool) = true := by kernel_rfl
theorem j8 : ((Tryz.prog.stopKnobs == []) : Bool) = true := by kernel_rfl
end Go.Proofs.YtajdleoobkfckaaGreatDoor
