/- The statement ShareNeeded: the row's closed facts. -/
import Derived.Test.YtlkbcjhemhmfoaaGreatDoorWh6
namespace Go.Proofs.YtlkbcjhemhmfoaaGreatDoor.fnNeeded
open Go Go.AM Go.Proofs Go.ChangeShapes Go.WideShapes Go.ChangeAt Go.RowKit
set_option maxRecDepth 100000
theorem j1 : Tryz.pinned.checked.prog.inPlace 6 = Rows.shareNeededRow.inPlace := by kernel_rfl
theorem j2 : Tryz.pinned.checked.prog.unfollowed 6 = Rows.shareNeededRow.unfollowed := by kernel_rfl
theorem j3 : Tryz.pinned.checked.prog.recurses 6 = Rows.shareNeededRow.recurses := by kernel_rfl
theorem j4 : Tryz.pinned.checked.prog.varsNamed 6 = Rows.shareNeededRow.named := by kernel_rfl
theorem j5 : laidOutB Tryz.pinned.checked.prog = true := by kernel_rfl
theorem facts : joinedFacts Tryz.pinned.checked.prog 6 Tryz.f6 (OpenSpec.ofChange Rows.shareNeededSpec).bare Rows.shareNeededRow = true := by
  unfold joinedFacts
  rw [j1, j2, j3, j4, j5]
  simp only [beq_self_eq_true, Bool.and_true]
  kernel_rfl
end Go.Proofs.YtlkbcjhemhmfoaaGreatDoor.fnNeeded
