/- The tie of the row, its closed facts shown one by one (together they want more memory than there is). -/
import Derived.Test.YtajdleoobkfckaaGreatDoorCrTieA
import Derived.Test.YtajdleoobkfckaaGreatDoorCrTieB
import Derived.Test.YtajdleoobkfckaaGreatDoorCrTieC
import Derived.Test.YtajdleoobkfckaaGreatDoorCrTieD
import Derived.Test.YtajdleoobkfckaaGreatDoorCrTieE
import Derived.Test.YtajdleoobkfckaaGreatDoorRows
import Derived.LaidByTextLater
import Derived.SevenTiedAt
namespace Go.Proofs.YtajdleoobkfckaaGreatDoor
open Go
theorem own_pin : Tryz.pinned.checked.prog.pinnedFits "unicode/utf8.first" = true := by kernel_rfl
theorem own_unsafe : Tryz.pinned.checked.prog.headLifts.contains "ownunsafe" = false := by kernel_rfl
theorem own_fits : Tryz.pinned.checked.prog.listedFits [("unicode/utf8.first", Rows.laid_unicode_utf8_first), ("unicode/utf8.acceptRanges", Rows.laid_unicode_utf8_acceptRanges), ("errors.errorType", Rows.laid_errors_errorType)] = true := by
  unfold Program.listedFits
  rw [own_unsafe]
  kernel_rfl
theorem own_tie : Tryz.prog.laidByTextLater [("unicode/utf8.acceptRanges", Rows.laid_unicode_utf8_acceptRanges), ("errors.errorType", Rows.laid_errors_errorType)] [.data, .handle] true :=
  Program.laidByTextLater_by_run_h (laid := tl) 400 8 t_w t_w' t_root t_k t_g t_n t_d t_1 t_2 t_3
theorem own_row_tie : Rows.crashChecksRow.laidByTextAt .later Tryz.pinned [.pinned, .data, .handle] true :=
  OpenClaim.laidByTextAt_pinned rfl rfl own_tie rfl rfl rfl rfl (fun y hy _e => by
    simp only [Rows.crashChecksRow, List.zip_cons_cons, List.zip_nil_right, List.mem_cons, List.mem_nil_iff, or_false] at hy
    rcases hy with rfl | rfl | rfl
    · exact ⟨own_pin, by kernel_rfl⟩
    · cases _e
    · cases _e) own_fits
end Go.Proofs.YtajdleoobkfckaaGreatDoor
