/- The card's closed facts: the looks. -/
import Derived.Test.YtajdleoobkfckaaGreatDoorRows
import Derived.JoinedOf
import Derived.SevenTiedAt
import Derived.KernelRfl
namespace Go.Proofs.YtajdleoobkfckaaGreatDoor
set_option maxRecDepth 100000
theorem own_looks : true = Tryz.prog.looks [] := by kernel_rfl
end Go.Proofs.YtajdleoobkfckaaGreatDoor
