/- The row's closed facts, one by one: F. -/
import Derived.Test.YtajdleoobkfckaaGreatDoorRows
import Derived.JoinedOf
import Derived.KernelRfl
namespace Go.Proofs.YtajdleoobkfckaaGreatDoor
set_option maxRecDepth 100000
set_option maxHeartbeats 4000000
theorem j13 : ((Rows.crashChecksRow.maps == (Tryz.f3.params.toList ++ Rows.crashChecksSpec.plain.varTypes Tryz.prog).any (Tryz.prog.mapsRec ·)) : Bool) = true := by kernel_rfl
theorem j14 : ((Rows.crashChecksRow.ifaces == (Tryz.f3.params.toList ++ Rows.crashChecksSpec.plain.varTypes Tryz.prog).any (Tryz.prog.ifacesRec ·)) : Bool) = true := by kernel_rfl
theorem j15 : ((Rows.crashChecksRow.mapsOut == Tryz.prog.mapsAmong Tryz.f3.resultTypes.toList) : Bool) = true := by kernel_rfl
theorem j16 : ((Rows.crashChecksRow.loops == (Tryz.f3.params.toList ++ Rows.crashChecksSpec.plain.varTypes Tryz.prog).any (Tryz.prog.loopsFrom ·)) : Bool) = true := by kernel_rfl
theorem j17 : ((Rows.crashChecksRow.wideKeys == (Tryz.f3.params.toList ++ Rows.crashChecksSpec.plain.varTypes Tryz.prog ++ Tryz.f3.resultTypes.toList).any (Tryz.prog.wideKeysFrom ·)) : Bool) = true := by kernel_rfl
theorem j18 : (Rows.crashChecksSpec.vars.all (Tryz.prog.varReadable ·) : Bool) = true := by kernel_rfl
theorem j19 : (Tryz.f3.resultTypes.all (fun t => Tryz.prog.readableRec t && decide (t < Tryz.prog.types.size)) : Bool) = true := by kernel_rfl
theorem j20 : ((Rows.crashChecksRow.ifacesOut == Tryz.f3.resultTypes.toList.any (Tryz.prog.ifacesRec ·)) : Bool) = true := by kernel_rfl
theorem j21 : ((Rows.crashChecksRow.loopsOut == Tryz.f3.resultTypes.toList.any (Tryz.prog.loopsFrom ·)) : Bool) = true := by kernel_rfl
theorem j22 : ((Rows.crashChecksRow.plainKeys == Tryz.prog.plainKeys) : Bool) = true := by kernel_rfl
theorem j23 : (Rows.crashChecksRow.shortTexts.isNone : Bool) = true := by kernel_rfl
end Go.Proofs.YtajdleoobkfckaaGreatDoor
