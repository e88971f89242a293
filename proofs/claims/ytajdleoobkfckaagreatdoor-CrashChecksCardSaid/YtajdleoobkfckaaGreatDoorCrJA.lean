/- The row's closed facts, one by one: A. -/
import Derived.Test.YtajdleoobkfckaaGreatDoorRows
import Derived.JoinedOf
import Derived.KernelRfl
namespace Go.Proofs.YtajdleoobkfckaaGreatDoor
set_option maxRecDepth 100000
set_option maxHeartbeats 4000000
theorem j0 : (Rows.crashChecksRow.wf (OpenSpec.ofChange Rows.crashChecksSpec) : Bool) = true := by kernel_rfl
theorem j1 : (laidOutB Tryz.prog : Bool) = true := by kernel_rfl
theorem j2 : (mapsRowed Tryz.prog : Bool) = true := by kernel_rfl
theorem j3 : (Tryz.f3.params.all (Tryz.prog.readableRec ·) : Bool) = true := by kernel_rfl
theorem j4 : (namedTie Tryz.prog Rows.crashChecksRow.named Rows.crashChecksSpec.vars : Bool) = true := by kernel_rfl
theorem j5 : ((Rows.crashChecksRow.stops == []) : Bool) = true := by kernel_rfl
end Go.Proofs.YtajdleoobkfckaaGreatDoor
