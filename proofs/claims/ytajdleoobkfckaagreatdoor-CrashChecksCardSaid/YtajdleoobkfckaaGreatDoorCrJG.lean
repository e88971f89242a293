/- The row's closed facts, one by one: G. -/
import Derived.Test.YtajdleoobkfckaaGreatDoorRows
import Derived.JoinedOf
import Derived.KernelRfl
namespace Go.Proofs.YtajdleoobkfckaaGreatDoor
set_option maxRecDepth 100000
set_option maxHeartbeats 4000000
theorem j24 : (Tryz.prog.stopsHeard : Bool) = true := by kernel_rfl
theorem j25 : (Tryz.prog.mayEnter : Bool) = true := by kernel_rfl
theorem j26 : ((Rows.crashChecksRow.lifted == Tryz.prog.liftsFinal) : Bool) = true := by kernel_rfl
theorem j27 : ((Tryz.prog.make == some Rows.crashChecksRow.make) : Bool) = true := by kernel_rfl
theorem j28 : ((Rows.crashChecksRow.kinds == (if Rows.crashChecksRow.domain.isEmpty then [] else Tryz.f3.params.toList.map fun t => match Tryz.prog.underlying t with | some (.int k) => some k | _ => none)) : Bool) = true := by kernel_rfl
theorem j29 : ((Rows.crashChecksRow.pinned == Rows.crashChecksRow.pinnedBy) : Bool) = true := by kernel_rfl
theorem j30 : ((Rows.crashChecksRow.veiled == (Tryz.f3.params.toList ++ Rows.crashChecksSpec.plain.varTypes Tryz.prog ++ Tryz.f3.resultTypes.toList).any (Tryz.prog.veiledRec ·)) : Bool) = true := by kernel_rfl
theorem j31 : (Rows.crashChecksRow.veiledFits Tryz.prog Tryz.f3.params.toList (Tryz.f3.params.toList ++ Rows.crashChecksSpec.plain.varTypes Tryz.prog ++ Tryz.f3.resultTypes.toList) : Bool) = true := by kernel_rfl
end Go.Proofs.YtajdleoobkfckaaGreatDoor
