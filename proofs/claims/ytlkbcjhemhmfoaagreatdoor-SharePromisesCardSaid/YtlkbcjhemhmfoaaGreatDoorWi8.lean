/- The statement SharePromises: the row's closed facts. -/
import Derived.Test.YtlkbcjhemhmfoaaGreatDoorWh8
namespace Go.Proofs.YtlkbcjhemhmfoaaGreatDoor.fnPromises
open Go Go.AM Go.Proofs Go.ChangeShapes Go.WideShapes Go.ChangeAt Go.RowKit
set_option maxRecDepth 100000
theorem j1 : Tryz.pinned.checked.prog.inPlace 8 = Rows.sharePromisesRow.inPlace := by kernel_rfl
theorem j2 : Tryz.pinned.checked.prog.unfollowed 8 = Rows.sharePromisesRow.unfollowed := by kernel_rfl
theorem j3 : Tryz.pinned.checked.prog.recurses 8 = Rows.sharePromisesRow.recurses := by kernel_rfl
theorem j4 : Tryz.pinned.checked.prog.varsNamed 8 = Rows.sharePromisesRow.named := by kernel_rfl
theorem j5 : laidOutB Tryz.pinned.checked.prog = true := by kernel_rfl
theorem facts : joinedFacts Tryz.pinned.checked.prog 8 Tryz.f8 (OpenSpec.ofChange Rows.sharePromisesSpec).bare Rows.sharePromisesRow = true := by
  unfold joinedFacts
  rw [j1, j2, j3, j4, j5]
  simp only [beq_self_eq_true, Bool.and_true]
  kernel_rfl
end Go.Proofs.YtlkbcjhemhmfoaaGreatDoor.fnPromises
