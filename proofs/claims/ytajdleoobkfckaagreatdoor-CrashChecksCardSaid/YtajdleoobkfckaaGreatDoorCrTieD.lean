/- The tie: the places of what the run lays. -/
import Derived.Test.YtajdleoobkfckaaGreatDoorCrTieA
import Derived.Test.YtajdleoobkfckaaGreatDoorRows
import Derived.LaidByTextLater
import Derived.SevenTiedAt
namespace Go.Proofs.YtajdleoobkfckaaGreatDoor
open Go
theorem t_2 : ∀ os tape, (DataW.laidRun Tryz.prog (varsWorld Tryz.prog 400 (varsId Tryz.prog) os tape).memory 8 ((tl.filter fun x => x.2.handleName?.isNone).map (·.1))).map (fun x => decide x.2.Nodup && laidRowsB Tryz.prog (varsWorld Tryz.prog 400 (varsId Tryz.prog) os tape).memory x.2) = some true := fun _ _ => by kernel_rfl
end Go.Proofs.YtajdleoobkfckaaGreatDoor
