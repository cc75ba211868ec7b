/- The statement ShareNeeds: the row's closed facts. -/
import Derived.Test.YtlkbcjhemhmfoaaGreatDoorWh5
namespace Go.Proofs.YtlkbcjhemhmfoaaGreatDoor.fnNeeds
open Go Go.AM Go.Proofs Go.ChangeShapes Go.WideShapes Go.ChangeAt Go.RowKit
set_option maxRecDepth 100000
theorem j1 : Tryz.pinned.checked.prog.inPlace 5 = Rows.shareNeedsRow.inPlace := by kernel_rfl
theorem j2 : Tryz.pinned.checked.prog.unfollowed 5 = Rows.shareNeedsRow.unfollowed := by kernel_rfl
theorem j3 : Tryz.pinned.checked.prog.recurses 5 = Rows.shareNeedsRow.recurses := by kernel_rfl
theorem j4 : Tryz.pinned.checked.prog.varsNamed 5 = Rows.shareNeedsRow.named := by kernel_rfl
theorem j5 : laidOutB Tryz.pinned.checked.prog = true := by kernel_rfl
theorem facts : joinedFacts Tryz.pinned.checked.prog 5 Tryz.f5 (OpenSpec.ofChange Rows.shareNeedsSpec).bare Rows.shareNeedsRow = true := by
  unfold joinedFacts
  rw [j1, j2, j3, j4, j5]
  simp only [beq_self_eq_true, Bool.and_true]
  kernel_rfl
end Go.Proofs.YtlkbcjhemhmfoaaGreatDoor.fnNeeds
