/- The statement ShareMore: the row's closed facts. -/
import Derived.Test.YtlkbcjhemhmfoaaGreatDoorWh11
namespace Go.Proofs.YtlkbcjhemhmfoaaGreatDoor.fnMore
open Go Go.AM Go.Proofs Go.ChangeShapes Go.WideShapes Go.ChangeAt Go.RowKit
set_option maxRecDepth 100000
theorem j1 : Tryz.pinned.checked.prog.inPlace 11 = Rows.shareMoreRow.inPlace := by kernel_rfl
theorem j2 : Tryz.pinned.checked.prog.unfollowed 11 = Rows.shareMoreRow.unfollowed := by kernel_rfl
theorem j3 : Tryz.pinned.checked.prog.recurses 11 = Rows.shareMoreRow.recurses := by kernel_rfl
theorem j4 : Tryz.pinned.checked.prog.varsNamed 11 = Rows.shareMoreRow.named := by kernel_rfl
theorem j5 : laidOutB Tryz.pinned.checked.prog = true := by kernel_rfl
theorem facts : joinedFacts Tryz.pinned.checked.prog 11 Tryz.f11 (OpenSpec.ofChange Rows.shareMoreSpec).bare Rows.shareMoreRow = true := by
  unfold joinedFacts
  rw [j1, j2, j3, j4, j5]
  simp only [beq_self_eq_true, Bool.and_true]
  kernel_rfl
end Go.Proofs.YtlkbcjhemhmfoaaGreatDoor.fnMore
