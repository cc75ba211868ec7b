/- The statement ShareLess: the row's closed facts. -/
import Derived.Test.YtlkbcjhemhmfoaaGreatDoorWh12
namespace Go.Proofs.YtlkbcjhemhmfoaaGreatDoor.fnLess
open Go Go.AM Go.Proofs Go.ChangeShapes Go.WideShapes Go.ChangeAt Go.RowKit
set_option maxRecDepth 100000
theorem j1 : Tryz.pinned.checked.prog.inPlace 12 = Rows.shareLessRow.inPlace := by kernel_rfl
theorem j2 : Tryz.pinned.checked.prog.unfollowed 12 = Rows.shareLessRow.unfollowed := by kernel_rfl
theorem j3 : Tryz.pinned.checked.prog.recurses 12 = Rows.shareLessRow.recurses := by kernel_rfl
theorem j4 : Tryz.pinned.checked.prog.varsNamed 12 = Rows.shareLessRow.named := by kernel_rfl
theorem j5 : laidOutB Tryz.pinned.checked.prog = true := by kernel_rfl
theorem facts : joinedFacts Tryz.pinned.checked.prog 12 Tryz.f12 (OpenSpec.ofChange Rows.shareLessSpec).bare Rows.shareLessRow = true := by
  unfold joinedFacts
  rw [j1, j2, j3, j4, j5]
  simp only [beq_self_eq_true, Bool.and_true]
  kernel_rfl
end Go.Proofs.YtlkbcjhemhmfoaaGreatDoor.fnLess
