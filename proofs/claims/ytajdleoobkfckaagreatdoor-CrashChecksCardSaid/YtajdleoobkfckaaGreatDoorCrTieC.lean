/- The tie: what the run lays, as it reads. -/
import Derived.Test.YtajdleoobkfckaaGreatDoorCrTieA
import Derived.Test.YtajdleoobkfckaaGreatDoorRows
import Derived.LaidByTextLater
import Derived.SevenTiedAt
namespace Go.Proofs.YtajdleoobkfckaaGreatDoor
open Go
theorem t_1 : ∀ os tape, (DataW.laidRun Tryz.prog (varsWorld Tryz.prog 400 (varsId Tryz.prog) os tape).memory 8 ((tl.filter fun x => x.2.handleName?.isNone).map (·.1))).map (·.1) = some (tl.filter fun x => x.2.handleName?.isNone) := fun _ _ => by kernel_rfl
end Go.Proofs.YtajdleoobkfckaaGreatDoor
