/-
  DERIVED. GIVEN WITH THE SEED: THE CARDS: each row of YtajdleoobkfckaaGreatDoorRows.lean that lists a variable, with what it lists TIED to the program's text (the seventh form; the later family's looks); each row that meets fmt, with fmt's text TOLD by the authors' own Lean function (tested against real Go, not proved from fmt's source: count such statements apart). THE CARD IS WHAT COUNTS. Prove the row's statement (the work); the ties are given (YtajdleoobkfckaaGreatDoorTie.lean); close each card by the builder's one call (the guide's Derived/Test/ToyasCard.lean, 'card_holds'). Laid BY PROGRAM, IN A SANDBOX (cutbox-door.mjs). By AI agents, Wed Nov 11 2026. No macro, syntax, notation, axiom, sorry.
-/
import Derived.Test.YtajdleoobkfckaaGreatDoorRows
import GoSem.ClaimSeven
namespace Go.Proofs.YtajdleoobkfckaaGreatDoor
namespace Rows

/-- THE TIED CARD OF 'vellumlaw30.CrashChecks'. -/
def crashChecksCard : Claim7 := { stood := { row := crashChecksRow, standIns := [], harness := (true, "504aa6d5d4a3e36f32d0734a6b873747e66839c1b81de09559371c9f22e14e95"), looks := true }, kinds := [], alts := [], laidByText := true, laidKinds := [.pinned, .data, .handle], laidTests := true, laidLooks := .later }
def CrashChecksCardSaid : Prop := Claim7.holds Tryz.pinned (.plain (OpenSpec.ofChange crashChecksSpec)) crashChecksCard

/-- THE SECOND FORM's CARD OF 'vellumlaw30.CrashChecks'. -/
def crashChecksUptoCard : Claim7 := { stood := { row := crashChecksUptoRow, standIns := [], harness := (true, "504aa6d5d4a3e36f32d0734a6b873747e66839c1b81de09559371c9f22e14e95"), looks := true }, kinds := [], alts := [], laidByText := true, laidKinds := [.pinned, .data, .handle], laidTests := true, laidLooks := .later }
def CrashChecksUptoCardSaid : Prop := Claim7.holds Tryz.pinned (.plain (OpenSpec.upto crashChecksSpec)) crashChecksUptoCard
end Rows
end Go.Proofs.YtajdleoobkfckaaGreatDoor
