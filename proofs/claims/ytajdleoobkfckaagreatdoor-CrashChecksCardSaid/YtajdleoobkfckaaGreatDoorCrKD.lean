/- The card's closed facts: how it goes (no function starts a goroutine). -/
import Derived.Test.YtajdleoobkfckaaGreatDoorCrKB
namespace Go.Proofs.YtajdleoobkfckaaGreatDoor
theorem goes_none {P : Program} (h : P.funcs.any Func.goes = false) (f : FuncId) : P.goes f = false := by
  unfold Program.goes
  rw [h, Bool.and_false, Bool.or_false, List.any_eq_false]
  intro g _
  cases hg : P.funcs[g]? with
  | none => simp
  | some fn =>
    rw [Array.any_eq_false'] at h
    simpa using h fn (Array.mem_of_getElem? hg)
set_option maxRecDepth 100000 in
theorem own_noGoes : Tryz.prog.funcs.any Func.goes = false := by kernel_rfl
theorem own_goes : false = Rows.crashChecksRow.goesBy Tryz.prog := by
  unfold OpenClaim.goesBy Program.goesAt Program.goesFrom
  rw [own_named, Option.any_some, goes_none own_noGoes]
  rfl
end Go.Proofs.YtajdleoobkfckaaGreatDoor
