/-
  DERIVED. GIVEN WITH THE SEED: THE CARDS: each row of YtlkbcjhemhmfoaaGreatDoorRows.lean that lists a variable, with what it lists TIED to the program's text (the seventh form; the later family's looks); each row that meets fmt, with fmt's text TOLD by the authors' own Lean function (tested against real Go, not proved from fmt's source: count such statements apart). THE CARD IS WHAT COUNTS. Prove the row's statement (the work); the ties are given (YtlkbcjhemhmfoaaGreatDoorTie.lean); close each card by the builder's one call (the guide's Derived/Test/ToyasCard.lean, 'card_holds'). Laid BY PROGRAM, IN A SANDBOX (cutbox-door.mjs). By AI agents, Wed Nov 11 2026. No macro, syntax, notation, axiom, sorry.
-/
import Derived.Test.YtlkbcjhemhmfoaaGreatDoorRows
import GoSem.ClaimSeven
namespace Go.Proofs.YtlkbcjhemhmfoaaGreatDoor
namespace Rows

/-- THE TIED CARD OF 'snowlinelaw08.SharePlans'. -/
def sharePlansCard : Claim7 := { stood := { row := sharePlansRow, standIns := [], harness := (true, "bffa6f853751243e2bca4fda4c6bc8fcb385b5d188cf03cec146b2ac6be682c7"), looks := true }, kinds := [], alts := [], laidByText := true, laidKinds := [.data, .data, .data], laidTests := true, laidLooks := .later }
def SharePlansCardSaid : Prop := Claim7.holds Tryz.pinned (.plain (OpenSpec.ofChange sharePlansSpec)) sharePlansCard

/-- THE TIED CARD OF 'snowlinelaw08.ShareCuts'. -/
def shareCutsCard : Claim7 := { stood := { row := shareCutsRow, standIns := [], harness := (true, "bffa6f853751243e2bca4fda4c6bc8fcb385b5d188cf03cec146b2ac6be682c7"), looks := true }, kinds := [], alts := [], laidByText := true, laidKinds := [.data, .data, .data], laidTests := true, laidLooks := .later }
def ShareCutsCardSaid : Prop := Claim7.holds Tryz.pinned (.plain (OpenSpec.ofChange shareCutsSpec)) shareCutsCard

/-- THE TIED CARD OF 'snowlinelaw08.ShareNeeds'. -/
def shareNeedsCard : Claim7 := { stood := { row := shareNeedsRow, standIns := [], harness := (true, "bffa6f853751243e2bca4fda4c6bc8fcb385b5d188cf03cec146b2ac6be682c7"), looks := true }, kinds := [], alts := [], laidByText := true, laidKinds := [.data, .data, .data], laidTests := true, laidLooks := .later }
def ShareNeedsCardSaid : Prop := Claim7.holds Tryz.pinned (.plain (OpenSpec.ofChange shareNeedsSpec)) shareNeedsCard

/-- THE TIED CARD OF 'snowlinelaw08.ShareNeeded'. -/
def shareNeededCard : Claim7 := { stood := { row := shareNeededRow, standIns := [], harness := (true, "bffa6f853751243e2bca4fda4c6bc8fcb385b5d188cf03cec146b2ac6be682c7"), looks := true }, kinds := [], alts := [], laidByText := true, laidKinds := [.data, .data, .data], laidTests := true, laidLooks := .later }
def ShareNeededCardSaid : Prop := Claim7.holds Tryz.pinned (.plain (OpenSpec.ofChange shareNeededSpec)) shareNeededCard

/-- THE TIED CARD OF 'snowlinelaw08.ShareStands'. -/
def shareStandsCard : Claim7 := { stood := { row := shareStandsRow, standIns := [], harness := (true, "bffa6f853751243e2bca4fda4c6bc8fcb385b5d188cf03cec146b2ac6be682c7"), looks := true }, kinds := [], alts := [], laidByText := true, laidKinds := [.data, .data, .data], laidTests := true, laidLooks := .later }
def ShareStandsCardSaid : Prop := Claim7.holds Tryz.pinned (.plain (OpenSpec.ofChange shareStandsSpec)) shareStandsCard

/-- THE TIED CARD OF 'snowlinelaw08.SharePromises'. -/
def sharePromisesCard : Claim7 := { stood := { row := sharePromisesRow, standIns := [], harness := (true, "bffa6f853751243e2bca4fda4c6bc8fcb385b5d188cf03cec146b2ac6be682c7"), looks := true }, kinds := [], alts := [], laidByText := true, laidKinds := [.data, .data, .data], laidTests := true, laidLooks := .later }
def SharePromisesCardSaid : Prop := Claim7.holds Tryz.pinned (.plain (OpenSpec.ofChange sharePromisesSpec)) sharePromisesCard

/-- THE TIED CARD OF 'snowlinelaw08.ShareEither'. -/
def shareEitherCard : Claim7 := { stood := { row := shareEitherRow, standIns := [], harness := (true, "bffa6f853751243e2bca4fda4c6bc8fcb385b5d188cf03cec146b2ac6be682c7"), looks := true }, kinds := [], alts := [], laidByText := true, laidKinds := [.data, .data, .data], laidTests := true, laidLooks := .later }
def ShareEitherCardSaid : Prop := Claim7.holds Tryz.pinned (.plain (OpenSpec.ofChange shareEitherSpec)) shareEitherCard

/-- THE TIED CARD OF 'snowlinelaw08.ShareElder'. -/
def shareElderCard : Claim7 := { stood := { row := shareElderRow, standIns := [], harness := (true, "bffa6f853751243e2bca4fda4c6bc8fcb385b5d188cf03cec146b2ac6be682c7"), looks := true }, kinds := [], alts := [], laidByText := true, laidKinds := [.data, .data, .data], laidTests := true, laidLooks := .later }
def ShareElderCardSaid : Prop := Claim7.holds Tryz.pinned (.plain (OpenSpec.ofChange shareElderSpec)) shareElderCard

/-- THE TIED CARD OF 'snowlinelaw08.ShareMore'. -/
def shareMoreCard : Claim7 := { stood := { row := shareMoreRow, standIns := [], harness := (true, "bffa6f853751243e2bca4fda4c6bc8fcb385b5d188cf03cec146b2ac6be682c7"), looks := true }, kinds := [], alts := [], laidByText := true, laidKinds := [.data, .data, .data], laidTests := true, laidLooks := .later }
def ShareMoreCardSaid : Prop := Claim7.holds Tryz.pinned (.plain (OpenSpec.ofChange shareMoreSpec)) shareMoreCard

/-- THE TIED CARD OF 'snowlinelaw08.ShareLess'. -/
def shareLessCard : Claim7 := { stood := { row := shareLessRow, standIns := [], harness := (true, "bffa6f853751243e2bca4fda4c6bc8fcb385b5d188cf03cec146b2ac6be682c7"), looks := true }, kinds := [], alts := [], laidByText := true, laidKinds := [.data, .data, .data], laidTests := true, laidLooks := .later }
def ShareLessCardSaid : Prop := Claim7.holds Tryz.pinned (.plain (OpenSpec.ofChange shareLessSpec)) shareLessCard

/-- THE TIED CARD OF 'snowlinelaw08.ShareHistories'. -/
def shareHistoriesCard : Claim7 := { stood := { row := shareHistoriesRow, standIns := [], harness := (true, "bffa6f853751243e2bca4fda4c6bc8fcb385b5d188cf03cec146b2ac6be682c7"), looks := true }, kinds := [], alts := [], laidByText := true, laidKinds := [.data, .data, .data], laidTests := true, laidLooks := .later }
def ShareHistoriesCardSaid : Prop := Claim7.holds Tryz.pinned (.plain (OpenSpec.ofChange shareHistoriesSpec)) shareHistoriesCard

/-- THE TIED CARD OF 'snowlinelaw08.ShareEnters'. -/
def shareEntersCard : Claim7 := { stood := { row := shareEntersRow, standIns := [], harness := (true, "bffa6f853751243e2bca4fda4c6bc8fcb385b5d188cf03cec146b2ac6be682c7"), looks := true }, kinds := [], alts := [], laidByText := true, laidKinds := [.data, .data, .data], laidTests := true, laidLooks := .later }
def ShareEntersCardSaid : Prop := Claim7.holds Tryz.pinned (.plain (OpenSpec.ofChange shareEntersSpec)) shareEntersCard

/-- THE TIED CARD OF 'snowlinelaw08.ShareKnown'. -/
def shareKnownCard : Claim7 := { stood := { row := shareKnownRow, standIns := [], harness := (true, "bffa6f853751243e2bca4fda4c6bc8fcb385b5d188cf03cec146b2ac6be682c7"), looks := true }, kinds := [], alts := [], laidByText := true, laidKinds := [.data, .data, .data], laidTests := true, laidLooks := .later }
def ShareKnownCardSaid : Prop := Claim7.holds Tryz.pinned (.plain (OpenSpec.ofChange shareKnownSpec)) shareKnownCard

/-- THE TIED CARD OF 'snowlinelaw08.ShareTexts'. -/
def shareTextsCard : Claim7 := { stood := { row := shareTextsRow, standIns := [], harness := (true, "bffa6f853751243e2bca4fda4c6bc8fcb385b5d188cf03cec146b2ac6be682c7"), looks := true }, kinds := [], alts := [], laidByText := true, laidKinds := [.data, .data, .data, .data, .sentinel, .sentinel, .pinned], laidTests := true, laidLooks := .later }
def ShareTextsCardSaid : Prop := Claim7.holds Tryz.pinned (.plain (OpenSpec.ofChange shareTextsSpec)) shareTextsCard

/-- THE SECOND FORM's CARD OF 'snowlinelaw08.SharePlans'. -/
def sharePlansUptoCard : Claim7 := { stood := { row := sharePlansUptoRow, standIns := [], harness := (true, "bffa6f853751243e2bca4fda4c6bc8fcb385b5d188cf03cec146b2ac6be682c7"), looks := true }, kinds := [], alts := [], laidByText := true, laidKinds := [.data, .data, .data], laidTests := true, laidLooks := .later }
def SharePlansUptoCardSaid : Prop := Claim7.holds Tryz.pinned (.plain (OpenSpec.upto sharePlansSpec)) sharePlansUptoCard

/-- THE SECOND FORM's CARD OF 'snowlinelaw08.ShareCuts'. -/
def shareCutsUptoCard : Claim7 := { stood := { row := shareCutsUptoRow, standIns := [], harness := (true, "bffa6f853751243e2bca4fda4c6bc8fcb385b5d188cf03cec146b2ac6be682c7"), looks := true }, kinds := [], alts := [], laidByText := true, laidKinds := [.data, .data, .data], laidTests := true, laidLooks := .later }
def ShareCutsUptoCardSaid : Prop := Claim7.holds Tryz.pinned (.plain (OpenSpec.upto shareCutsSpec)) shareCutsUptoCard

/-- THE SECOND FORM's CARD OF 'snowlinelaw08.ShareNeeds'. -/
def shareNeedsUptoCard : Claim7 := { stood := { row := shareNeedsUptoRow, standIns := [], harness := (true, "bffa6f853751243e2bca4fda4c6bc8fcb385b5d188cf03cec146b2ac6be682c7"), looks := true }, kinds := [], alts := [], laidByText := true, laidKinds := [.data, .data, .data], laidTests := true, laidLooks := .later }
def ShareNeedsUptoCardSaid : Prop := Claim7.holds Tryz.pinned (.plain (OpenSpec.upto shareNeedsSpec)) shareNeedsUptoCard

/-- THE SECOND FORM's CARD OF 'snowlinelaw08.ShareNeeded'. -/
def shareNeededUptoCard : Claim7 := { stood := { row := shareNeededUptoRow, standIns := [], harness := (true, "bffa6f853751243e2bca4fda4c6bc8fcb385b5d188cf03cec146b2ac6be682c7"), looks := true }, kinds := [], alts := [], laidByText := true, laidKinds := [.data, .data, .data], laidTests := true, laidLooks := .later }
def ShareNeededUptoCardSaid : Prop := Claim7.holds Tryz.pinned (.plain (OpenSpec.upto shareNeededSpec)) shareNeededUptoCard

/-- THE SECOND FORM's CARD OF 'snowlinelaw08.ShareStands'. -/
def shareStandsUptoCard : Claim7 := { stood := { row := shareStandsUptoRow, standIns := [], harness := (true, "bffa6f853751243e2bca4fda4c6bc8fcb385b5d188cf03cec146b2ac6be682c7"), looks := true }, kinds := [], alts := [], laidByText := true, laidKinds := [.data, .data, .data], laidTests := true, laidLooks := .later }
def ShareStandsUptoCardSaid : Prop := Claim7.holds Tryz.pinned (.plain (OpenSpec.upto shareStandsSpec)) shareStandsUptoCard

/-- THE SECOND FORM's CARD OF 'snowlinelaw08.SharePromises'. -/
def sharePromisesUptoCard : Claim7 := { stood := { row := sharePromisesUptoRow, standIns := [], harness := (true, "bffa6f853751243e2bca4fda4c6bc8fcb385b5d188cf03cec146b2ac6be682c7"), looks := true }, kinds := [], alts := [], laidByText := true, laidKinds := [.data, .data, .data], laidTests := true, laidLooks := .later }
def SharePromisesUptoCardSaid : Prop := Claim7.holds Tryz.pinned (.plain (OpenSpec.upto sharePromisesSpec)) sharePromisesUptoCard

/-- THE SECOND FORM's CARD OF 'snowlinelaw08.ShareEither'. -/
def shareEitherUptoCard : Claim7 := { stood := { row := shareEitherUptoRow, standIns := [], harness := (true, "bffa6f853751243e2bca4fda4c6bc8fcb385b5d188cf03cec146b2ac6be682c7"), looks := true }, kinds := [], alts := [], laidByText := true, laidKinds := [.data, .data, .data], laidTests := true, laidLooks := .later }
def ShareEitherUptoCardSaid : Prop := Claim7.holds Tryz.pinned (.plain (OpenSpec.upto shareEitherSpec)) shareEitherUptoCard

/-- THE SECOND FORM's CARD OF 'snowlinelaw08.ShareElder'. -/
def shareElderUptoCard : Claim7 := { stood := { row := shareElderUptoRow, standIns := [], harness := (true, "bffa6f853751243e2bca4fda4c6bc8fcb385b5d188cf03cec146b2ac6be682c7"), looks := true }, kinds := [], alts := [], laidByText := true, laidKinds := [.data, .data, .data], laidTests := true, laidLooks := .later }
def ShareElderUptoCardSaid : Prop := Claim7.holds Tryz.pinned (.plain (OpenSpec.upto shareElderSpec)) shareElderUptoCard

/-- THE SECOND FORM's CARD OF 'snowlinelaw08.ShareMore'. -/
def shareMoreUptoCard : Claim7 := { stood := { row := shareMoreUptoRow, standIns := [], harness := (true, "bffa6f853751243e2bca4fda4c6bc8fcb385b5d188cf03cec146b2ac6be682c7"), looks := true }, kinds := [], alts := [], laidByText := true, laidKinds := [.data, .data, .data], laidTests := true, laidLooks := .later }
def ShareMoreUptoCardSaid : Prop := Claim7.holds Tryz.pinned (.plain (OpenSpec.upto shareMoreSpec)) shareMoreUptoCard

/-- THE SECOND FORM's CARD OF 'snowlinelaw08.ShareLess'. -/
def shareLessUptoCard : Claim7 := { stood := { row := shareLessUptoRow, standIns := [], harness := (true, "bffa6f853751243e2bca4fda4c6bc8fcb385b5d188cf03cec146b2ac6be682c7"), looks := true }, kinds := [], alts := [], laidByText := true, laidKinds := [.data, .data, .data], laidTests := true, laidLooks := .later }
def ShareLessUptoCardSaid : Prop := Claim7.holds Tryz.pinned (.plain (OpenSpec.upto shareLessSpec)) shareLessUptoCard

/-- THE SECOND FORM's CARD OF 'snowlinelaw08.ShareHistories'. -/
def shareHistoriesUptoCard : Claim7 := { stood := { row := shareHistoriesUptoRow, standIns := [], harness := (true, "bffa6f853751243e2bca4fda4c6bc8fcb385b5d188cf03cec146b2ac6be682c7"), looks := true }, kinds := [], alts := [], laidByText := true, laidKinds := [.data, .data, .data], laidTests := true, laidLooks := .later }
def ShareHistoriesUptoCardSaid : Prop := Claim7.holds Tryz.pinned (.plain (OpenSpec.upto shareHistoriesSpec)) shareHistoriesUptoCard

/-- THE SECOND FORM's CARD OF 'snowlinelaw08.ShareEnters'. -/
def shareEntersUptoCard : Claim7 := { stood := { row := shareEntersUptoRow, standIns := [], harness := (true, "bffa6f853751243e2bca4fda4c6bc8fcb385b5d188cf03cec146b2ac6be682c7"), looks := true }, kinds := [], alts := [], laidByText := true, laidKinds := [.data, .data, .data], laidTests := true, laidLooks := .later }
def ShareEntersUptoCardSaid : Prop := Claim7.holds Tryz.pinned (.plain (OpenSpec.upto shareEntersSpec)) shareEntersUptoCard

/-- THE SECOND FORM's CARD OF 'snowlinelaw08.ShareKnown'. -/
def shareKnownUptoCard : Claim7 := { stood := { row := shareKnownUptoRow, standIns := [], harness := (true, "bffa6f853751243e2bca4fda4c6bc8fcb385b5d188cf03cec146b2ac6be682c7"), looks := true }, kinds := [], alts := [], laidByText := true, laidKinds := [.data, .data, .data], laidTests := true, laidLooks := .later }
def ShareKnownUptoCardSaid : Prop := Claim7.holds Tryz.pinned (.plain (OpenSpec.upto shareKnownSpec)) shareKnownUptoCard

/-- THE SECOND FORM's CARD OF 'snowlinelaw08.ShareTexts'. -/
def shareTextsUptoCard : Claim7 := { stood := { row := shareTextsUptoRow, standIns := [], harness := (true, "bffa6f853751243e2bca4fda4c6bc8fcb385b5d188cf03cec146b2ac6be682c7"), looks := true }, kinds := [], alts := [], laidByText := true, laidKinds := [.data, .data, .data, .data, .sentinel, .sentinel, .pinned], laidTests := true, laidLooks := .later }
def ShareTextsUptoCardSaid : Prop := Claim7.holds Tryz.pinned (.plain (OpenSpec.upto shareTextsSpec)) shareTextsUptoCard
end Rows
end Go.Proofs.YtlkbcjhemhmfoaaGreatDoor
