/- The statement ShareEnters, given that 'sane' answers true. -/
import Derived.Test.YtlkbcjhemhmfoaaGreatDoorWr4
namespace Go.Proofs.YtlkbcjhemhmfoaaGreatDoor.fnEnters
open Go Go.AM Go.Proofs Go.ChangeShapes Go.WideShapes Go.ChangeAt Go.RowKit
set_option maxRecDepth 100000
theorem j6 : Tryz.pinned.checked.prog.funcNamed Rows.shareEntersRow.func = some 14 := by kernel_rfl
theorem said (hB : EnvOK Tryz.prog envB) : Rows.ShareEntersSaid :=
  OpenClaim.holds_of_cond 14 Tryz.f14 rfl rfl rfl rfl rfl rfl rfl ⟨rfl, rfl, rfl, rfl, rfl⟩ rfl rfl rfl rfl rfl j6 Tryz.func14 facts
    (of_decide_eq_true (by kernel_rfl)) (by unfold Func.isWrapper; first | (rw [if_pos (by decide +kernel)]; kernel_rfl) | (rw [if_neg (by decide +kernel)]; exact ⟨rfl, rfl⟩))
    (fun os started H enc _ F => by rw [OpenClaim.pre_eq_preRow]; exact lifted hB os started H enc F)
theorem card (hB : EnvOK Tryz.prog envB) : Rows.ShareEntersCardSaid :=
  Claim7.holds_tied_plain_at .later [] _ _ _ _ (said hB) (fun _ h => by cases h) (by kernel_rfl) (fun _ h => by cases h) shareEnters_row_tie rfl ⟨rfl, rfl⟩ (by kernel_rfl) rfl plain (by kernel_rfl)
end Go.Proofs.YtlkbcjhemhmfoaaGreatDoor.fnEnters
