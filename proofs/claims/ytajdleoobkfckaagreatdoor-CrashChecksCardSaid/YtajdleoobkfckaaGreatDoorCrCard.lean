/- CrashChecks, the card: whatever the script, the statement's function returns true, and the script reads behind the call as it read before. No condition but those of the row (the listed variables are laid as the program's text lays them: the tie). -/
import Derived.Test.YtajdleoobkfckaaGreatDoorCrP
import Derived.Test.YtajdleoobkfckaaGreatDoorCrJ
import Derived.Test.YtajdleoobkfckaaGreatDoorCrTieF
import Derived.Test.YtajdleoobkfckaaGreatDoorCrKA
import Derived.Test.YtajdleoobkfckaaGreatDoorCrKB
import Derived.Test.YtajdleoobkfckaaGreatDoorCrKC
import Derived.Test.YtajdleoobkfckaaGreatDoorCrKD
import Derived.Test.YtajdleoobkfckaaGreatDoorCards
namespace Go.Proofs.YtajdleoobkfckaaGreatDoor
open Go.ChangeShapes Go.WideShapes Go.RowKit

theorem row_holds : Rows.CrashChecksSaid :=
  OpenClaim.holds_of_wide 3 Tryz.f3 rfl rfl rfl rfl rfl rfl rfl ⟨rfl, rfl, rfl, rfl, rfl⟩ rfl rfl rfl rfl rfl own_named Tryz.func3 own_joined own_inst own_wrap
    (fun os started H enc _ => law_lifted os started H enc)

theorem card_holds : Rows.CrashChecksCardSaid :=
  Claim7.holds_tied_plain_at .later [] [.pinned, .data, .handle] true (true, "504aa6d5d4a3e36f32d0734a6b873747e66839c1b81de09559371c9f22e14e95") true
    row_holds (fun _ h => by cases h) own_wf (fun _ h => by cases h) own_row_tie rfl ⟨rfl, rfl⟩ own_main rfl
    (fun f fn hf hfn => by
      obtain rfl : f = 3 := (Option.some.inj (own_named.symm.trans hf)).symm
      obtain rfl : fn = Tryz.f3 := (Option.some.inj (Tryz.func3.symm.trans hfn)).symm
      exact ⟨own_looks, fun j t ht => by
        rw [Tryz.params3] at ht
        have hm : t = 24 := by simpa using Array.mem_of_getElem? ht
        rw [hm]
        exact own_stand⟩)
    own_goes
end Go.Proofs.YtajdleoobkfckaaGreatDoor
