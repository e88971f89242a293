/- The row's closed facts, one by one: A. -/
import Derived.Test.YtajdleoobkfckaaGreatDoorRows
import Derived.JoinedOf
import Derived.KernelRfl
namespace Go.Proofs.YtajdleoobkfckaaGreatDoor
set_option maxRecDepth 100000
set_option maxHeartbeats 4000000
theorem both_true {a b : Bool} (ha : a = true) (hb : b = true) : (a && b) = true := by rw [ha, hb]; rfl
theorem laid_a : (List.range Tryz.prog.types.size).all (rowFine Tryz.prog) = true := by kernel_rfl
theorem laid_b : Tryz.prog.globals.all (fun g => decide (g.type < Tryz.prog.types.size)) = true := by kernel_rfl
theorem laid_c : Tryz.prog.funcs.all (fun f => f.params.all fun t => decide (t < Tryz.prog.types.size)) = true := by kernel_rfl
theorem j1 : laidOutB Tryz.prog = true := both_true (both_true laid_a laid_b) laid_c
theorem j0 : (Rows.crashChecksRow.wf (OpenSpec.ofChange Rows.crashChecksSpec) : Bool) = true := by kernel_rfl
theorem j2 : (mapsRowed Tryz.prog : Bool) = true := by kernel_rfl
theorem j3 : (Tryz.f3.params.all (Tryz.prog.readableRec ·) : Bool) = true := by kernel_rfl
theorem j4 : (namedTie Tryz.prog Rows.crashChecksRow.named Rows.crashChecksSpec.vars : Bool) = true := by kernel_rfl
theorem j5 : ((Rows.crashChecksRow.stops == []) : Bool) = true := by kernel_rfl
end Go.Proofs.YtajdleoobkfckaaGreatDoor
