/- The card's closed facts: the function is no instance, no wrapper. -/
import Derived.Test.YtajdleoobkfckaaGreatDoorRows
import Derived.JoinedOf
import Derived.SevenTiedAt
import Derived.KernelRfl
namespace Go.Proofs.YtajdleoobkfckaaGreatDoor
set_option maxRecDepth 100000
theorem own_inst : Tryz.f3.isInstance Tryz.prog Rows.crashChecksRow.origin Rows.crashChecksRow.targs := of_decide_eq_true (by kernel_rfl)
theorem own_wrap : Tryz.f3.isWrapper Tryz.prog Rows.crashChecksRow.wrapper Rows.crashChecksRow.mainSum := by
  unfold Func.isWrapper; rw [if_neg (of_decide_eq_false (by kernel_rfl))]; exact ⟨rfl, rfl⟩
end Go.Proofs.YtajdleoobkfckaaGreatDoor
