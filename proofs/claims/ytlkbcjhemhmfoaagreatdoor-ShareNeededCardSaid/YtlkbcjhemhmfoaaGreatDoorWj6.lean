/- The statement ShareNeeded of the seat holds: what Need returns is enough, and not too much; no conditions. Told, and tied to its row. -/
import Derived.Test.YtlkbcjhemhmfoaaGreatDoorWi6
import Derived.Test.YtlkbcjhemhmfoaaGreatDoorTs2
namespace Go.Proofs.YtlkbcjhemhmfoaaGreatDoor.fnNeeded
open Go Go.AM Go.Proofs Go.ChangeShapes Go.WideShapes Go.ChangeAt Go.RowKit
set_option maxRecDepth 100000
theorem j6 : Tryz.pinned.checked.prog.funcNamed Rows.shareNeededRow.func = some 6 := by kernel_rfl
theorem said (hB : EnvOK Tryz.prog envB) : Rows.ShareNeededSaid :=
  OpenClaim.holds_of_cond 6 Tryz.f6 rfl rfl rfl rfl rfl rfl rfl ⟨rfl, rfl, rfl, rfl, rfl⟩ rfl rfl rfl rfl rfl j6 Tryz.func6 facts
    (of_decide_eq_true (by kernel_rfl)) (by unfold Func.isWrapper; first | (rw [if_pos (by decide +kernel)]; kernel_rfl) | (rw [if_neg (by decide +kernel)]; exact ⟨rfl, rfl⟩))
    (fun os started H enc _ F => by rw [OpenClaim.pre_eq_preRow]; exact lifted hB os started H enc F)
theorem card (hB : EnvOK Tryz.prog envB) : Rows.ShareNeededCardSaid :=
  Claim7.holds_tied_plain_at .later [] _ _ _ _ (said hB) (fun _ h => by cases h) (by kernel_rfl) (fun _ h => by cases h) shareNeeded_row_tie rfl ⟨rfl, rfl⟩ (by kernel_rfl) rfl plain (by kernel_rfl)
end Go.Proofs.YtlkbcjhemhmfoaaGreatDoor.fnNeeded
namespace Go.Proofs.YtlkbcjhemhmfoaaGreatDoor
open Go Go.Proofs Go.AM

theorem shareNeeded_holds : Rows.ShareNeededCardSaid := fnNeeded.card (envB_ok sane)

end Go.Proofs.YtlkbcjhemhmfoaaGreatDoor
