/- The statement ShareElder: the row's closed facts. -/
import Derived.Test.YtlkbcjhemhmfoaaGreatDoorWh10
namespace Go.Proofs.YtlkbcjhemhmfoaaGreatDoor.fnElder
open Go Go.AM Go.Proofs Go.ChangeShapes Go.WideShapes Go.ChangeAt Go.RowKit
set_option maxRecDepth 100000
theorem j1 : Tryz.pinned.checked.prog.inPlace 10 = Rows.shareElderRow.inPlace := by kernel_rfl
theorem j2 : Tryz.pinned.checked.prog.unfollowed 10 = Rows.shareElderRow.unfollowed := by kernel_rfl
theorem j3 : Tryz.pinned.checked.prog.recurses 10 = Rows.shareElderRow.recurses := by kernel_rfl
theorem j4 : Tryz.pinned.checked.prog.varsNamed 10 = Rows.shareElderRow.named := by kernel_rfl
theorem j5 : laidOutB Tryz.pinned.checked.prog = true := by kernel_rfl
theorem facts : joinedFacts Tryz.pinned.checked.prog 10 Tryz.f10 (OpenSpec.ofChange Rows.shareElderSpec).bare Rows.shareElderRow = true := by
  unfold joinedFacts
  rw [j1, j2, j3, j4, j5]
  simp only [beq_self_eq_true, Bool.and_true]
  kernel_rfl
end Go.Proofs.YtlkbcjhemhmfoaaGreatDoor.fnElder
