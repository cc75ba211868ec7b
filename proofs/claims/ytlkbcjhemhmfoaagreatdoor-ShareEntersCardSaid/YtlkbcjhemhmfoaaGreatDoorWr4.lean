/- The statement ShareEnters: the row's closed facts. -/
import Derived.Test.YtlkbcjhemhmfoaaGreatDoorWr3
namespace Go.Proofs.YtlkbcjhemhmfoaaGreatDoor.fnEnters
open Go Go.AM Go.Proofs Go.ChangeShapes Go.WideShapes Go.ChangeAt Go.RowKit
set_option maxRecDepth 100000
theorem j1 : Tryz.pinned.checked.prog.inPlace 14 = Rows.shareEntersRow.inPlace := by kernel_rfl
theorem j2 : Tryz.pinned.checked.prog.unfollowed 14 = Rows.shareEntersRow.unfollowed := by kernel_rfl
theorem j3 : Tryz.pinned.checked.prog.recurses 14 = Rows.shareEntersRow.recurses := by kernel_rfl
theorem j4 : Tryz.pinned.checked.prog.varsNamed 14 = Rows.shareEntersRow.named := by kernel_rfl
theorem j5 : laidOutB Tryz.pinned.checked.prog = true := by kernel_rfl
theorem facts : joinedFacts Tryz.pinned.checked.prog 14 Tryz.f14 (OpenSpec.ofChange Rows.shareEntersSpec).bare Rows.shareEntersRow = true := by
  unfold joinedFacts
  rw [j1, j2, j3, j4, j5]
  simp only [beq_self_eq_true, Bool.and_true]
  kernel_rfl
end Go.Proofs.YtlkbcjhemhmfoaaGreatDoor.fnEnters
