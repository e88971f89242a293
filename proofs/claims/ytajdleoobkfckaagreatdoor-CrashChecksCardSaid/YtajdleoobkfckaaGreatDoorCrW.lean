/- CrashChecks: a world that meets the row's condition. -/
import Derived.Test.YtajdleoobkfckaaGreatDoorRows
import Derived.Test.YtajdleoobkfckaaGreatDoorCrJA
import Derived.ChangeSame
import Derived.ChangeVars
import Derived.JoinedOf
import Derived.RowKit
import Derived.RowKitTokens
import Derived.LaidLaws
import Derived.LaidHandle
import Derived.Lay
import Derived.LaidOnce
import Derived.Deep.DeepLaidRun
import Derived.Stop.Joined
namespace Go.Proofs.YtajdleoobkfckaaGreatDoor
open Go.ChangeShapes Go.WideShapes Go.RowKit

theorem own_knob : ownKnob Tryz.prog.godebug = none := by kernel_rfl
theorem own_laidOut : laidOutB Tryz.prog = true := j1
theorem own_rec : Tryz.prog.readableRec 24 = true := by kernel_rfl
theorem own_row : 24 < Tryz.prog.types.size := of_decide_eq_true (by kernel_rfl)
theorem own_g1 : Tryz.prog.globalNamed "unicode/utf8.first" = some 1 := by kernel_rfl

/-- A world that meets the condition. -/
noncomputable def laidWorld (os : Os) : World :=
  let w0 := World.laidAll Tryz.prog os [("unicode/utf8.first", Rows.laid_unicode_utf8_first), ("unicode/utf8.acceptRanges", Rows.laid_unicode_utf8_acceptRanges)]
  { w0 with heap := w0.heap.modify 0 fun
      | .cells _ t frozen => .cells #[.iface 580 (.agg #[.pointer (some ⟨3, 360, none⟩)])] t frozen
      | o => o }

set_option maxRecDepth 100000 in
theorem laidWorld_os (os : Os) : (laidWorld os).os = os := World.laidAll_os _ _ _

set_option maxRecDepth 100000 in
theorem laidWorld_met (os : Os) (args : Array Value) : laidMetH Tryz.prog Rows.crashChecksRow.laid ((laidWorld os).forCall (fun _ _ => 0) ⟨#[], args, []⟩).memory :=
  laidMetH_of_parts (laidMet_of_run3 8 (by kernel_rfl) (by kernel_rfl) (by kernel_rfl)) (by kernel_rfl)

set_option maxRecDepth 100000 in
theorem own_witness (os : Os) (H : Type) (enc : TypeId × Value → H) :
    ∃ (w : World) (tape : Tape) (i : Input), w.os = os ∧ (w.forCall tape i).Shaped Tryz.checked.prog ∧ i.vars = [] ∧ Input.okWide Tryz.checked.prog (w.forCall tape i) .any w.heap.size 3 i ∧
      ((Rows.crashChecksSpec.pre enc Tryz.checked.prog Tryz.f3 [] false (w.forCall tape i).memory i.args ∧ laidMetH Tryz.prog Rows.crashChecksRow.laid (w.forCall tape i).memory) ∧ sizedMet enc Tryz.checked.prog Tryz.f3 (OpenSpec.ofChange Rows.crashChecksSpec) false (w.forCall tape i).memory i.args) ∧ ({} : Assume).holds Tryz.checked.prog (lone (Frame.enter Tryz.checked.prog 3 i.args .normal) [] (w.forCall tape i)) :=
  ChangeSpec.witness_shaped (enc := enc) (C := Tryz.checked) (os := os) (X := fun w _ => laidMetH Tryz.prog Rows.crashChecksRow.laid w) false (laidWorld os) #[.agg #[.int .i64 0, .slice none 0 0]] 8 (laidWorld_os os)
    (World.shaped_of_ZipB (by kernel_rfl) (by kernel_rfl)) (by kernel_rfl) (by kernel_rfl) (by kernel_rfl) (laidWorld_met os _)
end Go.Proofs.YtajdleoobkfckaaGreatDoor
