/- The row's closed facts, joined. -/
import Derived.Test.YtajdleoobkfckaaGreatDoorCrJA
import Derived.Test.YtajdleoobkfckaaGreatDoorCrJB
import Derived.Test.YtajdleoobkfckaaGreatDoorCrJC
import Derived.Test.YtajdleoobkfckaaGreatDoorCrJD
import Derived.Test.YtajdleoobkfckaaGreatDoorCrJE
import Derived.Test.YtajdleoobkfckaaGreatDoorCrJF
import Derived.Test.YtajdleoobkfckaaGreatDoorCrJG
namespace Go.Proofs.YtajdleoobkfckaaGreatDoor
set_option maxRecDepth 100000 in
theorem own_joined : joinedFacts Tryz.prog 3 Tryz.f3 Rows.crashChecksSpec Rows.crashChecksRow = true :=
  both_true (both_true (both_true (both_true (both_true (both_true (both_true (both_true (both_true (both_true (both_true (both_true (both_true (both_true (both_true (both_true (both_true (both_true (both_true (both_true (both_true (both_true (both_true (both_true (both_true (both_true (both_true (both_true (both_true (both_true (both_true (j0) j1) j2) j3) j4) j5) j6) j7) j8) j9) j10) j11) j12) j13) j14) j15) j16) j17) j18) j19) j20) j21) j22) j23) j24) j25) j26) j27) j28) j29) j30) j31
end Go.Proofs.YtajdleoobkfckaaGreatDoor
