/- The tie: the handle that the run lays. -/
import Derived.Test.YtajdleoobkfckaaGreatDoorCrTieA
import Derived.Test.YtajdleoobkfckaaGreatDoorRows
import Derived.LaidByTextLater
import Derived.SevenTiedAt
namespace Go.Proofs.YtajdleoobkfckaaGreatDoor
open Go
theorem t_3 : ∀ os tape, (tl.filter fun x => x.2.handleName?.isSome).all (handleAtB Tryz.prog (varsWorld Tryz.prog 400 (varsId Tryz.prog) os tape).memory) = true := fun _ _ => by kernel_rfl
end Go.Proofs.YtajdleoobkfckaaGreatDoor
