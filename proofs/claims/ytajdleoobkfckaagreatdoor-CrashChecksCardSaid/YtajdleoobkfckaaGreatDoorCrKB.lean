/- The card's closed facts: names. -/
import Derived.Test.YtajdleoobkfckaaGreatDoorRows
import Derived.JoinedOf
import Derived.SevenTiedAt
import Derived.KernelRfl
namespace Go.Proofs.YtajdleoobkfckaaGreatDoor
set_option maxRecDepth 100000
theorem own_named : Tryz.prog.funcNamed Rows.crashChecksRow.func = some 3 := by kernel_rfl
theorem own_wf : Rows.crashChecksRow.wfByText (OpenSpec.ofChange Rows.crashChecksSpec) = true := by kernel_rfl
theorem own_main : Tryz.prog.mainIs = some (true, "504aa6d5d4a3e36f32d0734a6b873747e66839c1b81de09559371c9f22e14e95".toList) := by kernel_rfl
theorem own_stand : Tryz.prog.wantsStandIn 24 = false := by kernel_rfl
end Go.Proofs.YtajdleoobkfckaaGreatDoor
