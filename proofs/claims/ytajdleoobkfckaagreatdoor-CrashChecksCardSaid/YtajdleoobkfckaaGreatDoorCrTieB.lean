/- The tie: the run of the variables' text. -/
import Derived.Test.YtajdleoobkfckaaGreatDoorCrTieA
import Derived.Test.YtajdleoobkfckaaGreatDoorRows
import Derived.LaidByTextLater
import Derived.SevenTiedAt
namespace Go.Proofs.YtajdleoobkfckaaGreatDoor
open Go
theorem t_d : ∀ os tape, varsDone Tryz.prog 400 (varsId Tryz.prog) os tape = true := fun _ _ => by kernel_rfl
end Go.Proofs.YtajdleoobkfckaaGreatDoor
