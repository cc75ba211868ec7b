/-
  NARROWER THAN 'FOR EVERY INPUT', by the rows' own cells (each row's printed sentence says how): SharePlans: laid · ShareCuts: laid · ShareNeeds: laid · ShareNeeded: laid · ShareStands: laid · SharePromises: laid · ShareEither: laid · ShareElder: laid · ShareMore: laid · ShareLess: laid · ShareHistories: laid · ShareEnters: laid · ShareKnown: laid · ShareTexts: laid.
  DERIVED. THE GIVEN ROWS OF THIS SEAT. 14 by the template 'for every input the law returns true; each argument reads behind the call as it read before'; 0 by the template 'total and deterministic' (their statements: YtlkbcjhemhmfoaaGreatDoorTotals.lean).
  GIVEN WITH THE SEED: the statements are not yours to turn. If you find one false, say at which input.
  Laid BY PROGRAM, IN A SANDBOX (cutbox-rows.mjs): the forced cells as the released guide's own fill.sh prints them over the translation 99230c29c4d847e7… (all of the seat's roots in one cut). By AI agents, Wed Nov 11 2026. No macro, syntax, notation, axiom, sorry.
-/
import Derived.Test.YtlkbcjhemhmfoaaGreatDoorChecked
import GoSem.PinnedTables
import GoSem.Claim
import GoSem.ClaimJoined
import GoSem.ClaimMapViews
import Derived.JoinedTies
import Derived.KernelRfl
namespace Go.Proofs.YtlkbcjhemhmfoaaGreatDoor
/- THE CELL 'sum', in the pinned program and in every row, IS THE sha256 OF THE DUMP (.gsa) THAT YtlkbcjhemhmfoaaGreatDoorProg.lean LOADS. Nothing in Lean hashes anything: it is a label: what it is worth is what the hold of that sum in a sandbox is worth. -/
noncomputable def Tryz.pinned : Pinned := { name := "ytlkbcjhemhmfoaagreatdoor", sum := "99230c29c4d847e74cf22e2a08a78b0f6554f4051d0f608b0d4347440be0158c", checked := Tryz.checked }
namespace Rows
def none {H : Type} : Left H := { results := [], args := [] }

/- WHAT THE LISTED PACKAGE-LEVEL VARIABLES READ AS WHEN THE CALL BEGINS. Each datum BY PROGRAM (the guide's laid-datum.mjs) off the statement by which the dump's own 'gosem.cut.vars' lays the variable. In a bare row this is a premise. The card (YtlkbcjhemhmfoaaGreatDoorCards.lean) ties it to the program's text. -/
def laid_math_bits_deBruijn32tab {H : Type} : DataW H := .agg [.lit (.int .u8 0), .lit (.int .u8 1), .lit (.int .u8 28), .lit (.int .u8 2), .lit (.int .u8 29), .lit (.int .u8 14), .lit (.int .u8 24), .lit (.int .u8 3), .lit (.int .u8 30), .lit (.int .u8 22), .lit (.int .u8 20), .lit (.int .u8 15), .lit (.int .u8 25), .lit (.int .u8 17), .lit (.int .u8 4), .lit (.int .u8 8), .lit (.int .u8 31), .lit (.int .u8 27), .lit (.int .u8 13), .lit (.int .u8 23), .lit (.int .u8 21), .lit (.int .u8 19), .lit (.int .u8 16), .lit (.int .u8 7), .lit (.int .u8 26), .lit (.int .u8 12), .lit (.int .u8 18), .lit (.int .u8 6), .lit (.int .u8 11), .lit (.int .u8 5), .lit (.int .u8 10), .lit (.int .u8 9)]
def laid_math_bits_deBruijn64tab {H : Type} : DataW H := .agg [.lit (.int .u8 0), .lit (.int .u8 1), .lit (.int .u8 56), .lit (.int .u8 2), .lit (.int .u8 57), .lit (.int .u8 49), .lit (.int .u8 28), .lit (.int .u8 3), .lit (.int .u8 61), .lit (.int .u8 58), .lit (.int .u8 42), .lit (.int .u8 50), .lit (.int .u8 38), .lit (.int .u8 29), .lit (.int .u8 17), .lit (.int .u8 4), .lit (.int .u8 62), .lit (.int .u8 47), .lit (.int .u8 59), .lit (.int .u8 36), .lit (.int .u8 45), .lit (.int .u8 43), .lit (.int .u8 51), .lit (.int .u8 22), .lit (.int .u8 53), .lit (.int .u8 39), .lit (.int .u8 33), .lit (.int .u8 30), .lit (.int .u8 24), .lit (.int .u8 18), .lit (.int .u8 12), .lit (.int .u8 5), .lit (.int .u8 63), .lit (.int .u8 55), .lit (.int .u8 48), .lit (.int .u8 27), .lit (.int .u8 60), .lit (.int .u8 41), .lit (.int .u8 37), .lit (.int .u8 16), .lit (.int .u8 46), .lit (.int .u8 35), .lit (.int .u8 44), .lit (.int .u8 21), .lit (.int .u8 52), .lit (.int .u8 32), .lit (.int .u8 23), .lit (.int .u8 11), .lit (.int .u8 54), .lit (.int .u8 26), .lit (.int .u8 40), .lit (.int .u8 15), .lit (.int .u8 34), .lit (.int .u8 20), .lit (.int .u8 31), .lit (.int .u8 10), .lit (.int .u8 25), .lit (.int .u8 14), .lit (.int .u8 19), .lit (.int .u8 9), .lit (.int .u8 13), .lit (.int .u8 8), .lit (.int .u8 7), .lit (.int .u8 6)]
def laid_internal_strconv_uint64pow10 {H : Type} : DataW H := .agg [.lit (.int .u64 1), .lit (.int .u64 10), .lit (.int .u64 100), .lit (.int .u64 1000), .lit (.int .u64 10000), .lit (.int .u64 100000), .lit (.int .u64 1000000), .lit (.int .u64 10000000), .lit (.int .u64 100000000), .lit (.int .u64 1000000000), .lit (.int .u64 10000000000), .lit (.int .u64 100000000000), .lit (.int .u64 1000000000000), .lit (.int .u64 10000000000000), .lit (.int .u64 100000000000000), .lit (.int .u64 1000000000000000), .lit (.int .u64 10000000000000000), .lit (.int .u64 100000000000000000), .lit (.int .u64 1000000000000000000), .lit (.int .u64 10000000000000000000)]
def laid_unicode_utf8_acceptRanges {H : Type} : DataW H := .agg [.agg [.lit (.int .u8 128), .lit (.int .u8 191)], .agg [.lit (.int .u8 160), .lit (.int .u8 191)], .agg [.lit (.int .u8 128), .lit (.int .u8 159)], .agg [.lit (.int .u8 144), .lit (.int .u8 191)], .agg [.lit (.int .u8 128), .lit (.int .u8 143)], .agg [.lit (.int .u8 0), .lit (.int .u8 0)], .agg [.lit (.int .u8 0), .lit (.int .u8 0)], .agg [.lit (.int .u8 0), .lit (.int .u8 0)], .agg [.lit (.int .u8 0), .lit (.int .u8 0)], .agg [.lit (.int .u8 0), .lit (.int .u8 0)], .agg [.lit (.int .u8 0), .lit (.int .u8 0)], .agg [.lit (.int .u8 0), .lit (.int .u8 0)], .agg [.lit (.int .u8 0), .lit (.int .u8 0)], .agg [.lit (.int .u8 0), .lit (.int .u8 0)], .agg [.lit (.int .u8 0), .lit (.int .u8 0)], .agg [.lit (.int .u8 0), .lit (.int .u8 0)]]
def laid_strconv_ErrRange {H : Type} : DataW H := .iface "*errors.errorString" (.ptr (.agg [.lit (.string [118, 97, 108, 117, 101, 32, 111, 117, 116, 32, 111, 102, 32, 114, 97, 110, 103, 101])]))
def laid_strconv_ErrSyntax {H : Type} : DataW H := .iface "*errors.errorString" (.ptr (.agg [.lit (.string [105, 110, 118, 97, 108, 105, 100, 32, 115, 121, 110, 116, 97, 120])]))
/-- One of Go's own tables, pinned by name: the form's constant. -/
def laid_unicode_utf8_first : DataW Unit := Go.Pinned.utf8First

/-- 'snowlinelaw08.SharePlans': WHATEVER THE INPUT: true; the input reads as it did. -/
def sharePlansSpec : ChangeSpec := { name := "sharePlans", fn := fun _ => fun
  | [d1, d2, d3] => { results := [.lit (.bool true)], args := [d1, d2, d3] }
  | _ => none }
def sharePlansRow : OpenClaim := { program := "ytlkbcjhemhmfoaagreatdoor", sum := "99230c29c4d847e74cf22e2a08a78b0f6554f4051d0f608b0d4347440be0158c", func := "snowline/snowlinelaw08.SharePlans", spec := "sharePlans", unfollowed := true, recurses := true, named := ["internal/strconv.uint64pow10", "math/bits.deBruijn32tab", "math/bits.deBruijn64tab"], apart := false, laid := [("math/bits.deBruijn32tab", laid_math_bits_deBruijn32tab), ("math/bits.deBruijn64tab", laid_math_bits_deBruijn64tab), ("internal/strconv.uint64pow10", laid_internal_strconv_uint64pow10)] }
def SharePlansSaid : Prop := sharePlansRow.holds Tryz.pinned (OpenSpec.ofChange sharePlansSpec)

/-- ITS FALSE NEIGHBOUR: 'it returns false'. Refute it at one input. -/
def sharePlansWrong : ChangeSpec := { name := "sharePlans", fn := fun _ => fun
  | [d1, d2, d3] => { results := [.lit (.bool false)], args := [d1, d2, d3] }
  | _ => none }
def SharePlansWrongFalsely : Prop := sharePlansRow.holds Tryz.pinned (OpenSpec.ofChange sharePlansWrong)

/-- 'snowlinelaw08.ShareCuts': WHATEVER THE INPUT: true; the input reads as it did. -/
def shareCutsSpec : ChangeSpec := { name := "shareCuts", fn := fun _ => fun
  | [d1, d2, d3] => { results := [.lit (.bool true)], args := [d1, d2, d3] }
  | _ => none }
def shareCutsRow : OpenClaim := { program := "ytlkbcjhemhmfoaagreatdoor", sum := "99230c29c4d847e74cf22e2a08a78b0f6554f4051d0f608b0d4347440be0158c", func := "snowline/snowlinelaw08.ShareCuts", spec := "shareCuts", unfollowed := true, recurses := true, named := ["internal/strconv.uint64pow10", "math/bits.deBruijn32tab", "math/bits.deBruijn64tab"], apart := false, laid := [("math/bits.deBruijn32tab", laid_math_bits_deBruijn32tab), ("math/bits.deBruijn64tab", laid_math_bits_deBruijn64tab), ("internal/strconv.uint64pow10", laid_internal_strconv_uint64pow10)] }
def ShareCutsSaid : Prop := shareCutsRow.holds Tryz.pinned (OpenSpec.ofChange shareCutsSpec)

/-- ITS FALSE NEIGHBOUR: 'it returns false'. Refute it at one input. -/
def shareCutsWrong : ChangeSpec := { name := "shareCuts", fn := fun _ => fun
  | [d1, d2, d3] => { results := [.lit (.bool false)], args := [d1, d2, d3] }
  | _ => none }
def ShareCutsWrongFalsely : Prop := shareCutsRow.holds Tryz.pinned (OpenSpec.ofChange shareCutsWrong)

/-- 'snowlinelaw08.ShareNeeds': WHATEVER THE INPUT: true; the input reads as it did. -/
def shareNeedsSpec : ChangeSpec := { name := "shareNeeds", fn := fun _ => fun
  | [d1, d2, d3, d4] => { results := [.lit (.bool true)], args := [d1, d2, d3, d4] }
  | _ => none }
def shareNeedsRow : OpenClaim := { program := "ytlkbcjhemhmfoaagreatdoor", sum := "99230c29c4d847e74cf22e2a08a78b0f6554f4051d0f608b0d4347440be0158c", func := "snowline/snowlinelaw08.ShareNeeds", spec := "shareNeeds", unfollowed := true, recurses := true, named := ["internal/strconv.uint64pow10", "math/bits.deBruijn32tab", "math/bits.deBruijn64tab"], apart := false, laid := [("math/bits.deBruijn32tab", laid_math_bits_deBruijn32tab), ("math/bits.deBruijn64tab", laid_math_bits_deBruijn64tab), ("internal/strconv.uint64pow10", laid_internal_strconv_uint64pow10)] }
def ShareNeedsSaid : Prop := shareNeedsRow.holds Tryz.pinned (OpenSpec.ofChange shareNeedsSpec)

/-- ITS FALSE NEIGHBOUR: 'it returns false'. Refute it at one input. -/
def shareNeedsWrong : ChangeSpec := { name := "shareNeeds", fn := fun _ => fun
  | [d1, d2, d3, d4] => { results := [.lit (.bool false)], args := [d1, d2, d3, d4] }
  | _ => none }
def ShareNeedsWrongFalsely : Prop := shareNeedsRow.holds Tryz.pinned (OpenSpec.ofChange shareNeedsWrong)

/-- 'snowlinelaw08.ShareNeeded': WHATEVER THE INPUT: true; the input reads as it did. -/
def shareNeededSpec : ChangeSpec := { name := "shareNeeded", fn := fun _ => fun
  | [d1, d2, d3, d4] => { results := [.lit (.bool true)], args := [d1, d2, d3, d4] }
  | _ => none }
def shareNeededRow : OpenClaim := { program := "ytlkbcjhemhmfoaagreatdoor", sum := "99230c29c4d847e74cf22e2a08a78b0f6554f4051d0f608b0d4347440be0158c", func := "snowline/snowlinelaw08.ShareNeeded", spec := "shareNeeded", unfollowed := true, recurses := true, named := ["internal/strconv.uint64pow10", "math/bits.deBruijn32tab", "math/bits.deBruijn64tab"], apart := false, laid := [("math/bits.deBruijn32tab", laid_math_bits_deBruijn32tab), ("math/bits.deBruijn64tab", laid_math_bits_deBruijn64tab), ("internal/strconv.uint64pow10", laid_internal_strconv_uint64pow10)] }
def ShareNeededSaid : Prop := shareNeededRow.holds Tryz.pinned (OpenSpec.ofChange shareNeededSpec)

/-- ITS FALSE NEIGHBOUR: 'it returns false'. Refute it at one input. -/
def shareNeededWrong : ChangeSpec := { name := "shareNeeded", fn := fun _ => fun
  | [d1, d2, d3, d4] => { results := [.lit (.bool false)], args := [d1, d2, d3, d4] }
  | _ => none }
def ShareNeededWrongFalsely : Prop := shareNeededRow.holds Tryz.pinned (OpenSpec.ofChange shareNeededWrong)

/-- 'snowlinelaw08.ShareStands': WHATEVER THE INPUT: true; the input reads as it did. -/
def shareStandsSpec : ChangeSpec := { name := "shareStands", fn := fun _ => fun
  | [d1, d2, d3, d4] => { results := [.lit (.bool true)], args := [d1, d2, d3, d4] }
  | _ => none }
def shareStandsRow : OpenClaim := { program := "ytlkbcjhemhmfoaagreatdoor", sum := "99230c29c4d847e74cf22e2a08a78b0f6554f4051d0f608b0d4347440be0158c", func := "snowline/snowlinelaw08.ShareStands", spec := "shareStands", unfollowed := true, recurses := true, named := ["internal/strconv.uint64pow10", "math/bits.deBruijn32tab", "math/bits.deBruijn64tab"], apart := false, laid := [("math/bits.deBruijn32tab", laid_math_bits_deBruijn32tab), ("math/bits.deBruijn64tab", laid_math_bits_deBruijn64tab), ("internal/strconv.uint64pow10", laid_internal_strconv_uint64pow10)] }
def ShareStandsSaid : Prop := shareStandsRow.holds Tryz.pinned (OpenSpec.ofChange shareStandsSpec)

/-- ITS FALSE NEIGHBOUR: 'it returns false'. Refute it at one input. -/
def shareStandsWrong : ChangeSpec := { name := "shareStands", fn := fun _ => fun
  | [d1, d2, d3, d4] => { results := [.lit (.bool false)], args := [d1, d2, d3, d4] }
  | _ => none }
def ShareStandsWrongFalsely : Prop := shareStandsRow.holds Tryz.pinned (OpenSpec.ofChange shareStandsWrong)

/-- 'snowlinelaw08.SharePromises': WHATEVER THE INPUT: true; the input reads as it did. -/
def sharePromisesSpec : ChangeSpec := { name := "sharePromises", fn := fun _ => fun
  | [d1, d2] => { results := [.lit (.bool true)], args := [d1, d2] }
  | _ => none }
def sharePromisesRow : OpenClaim := { program := "ytlkbcjhemhmfoaagreatdoor", sum := "99230c29c4d847e74cf22e2a08a78b0f6554f4051d0f608b0d4347440be0158c", func := "snowline/snowlinelaw08.SharePromises", spec := "sharePromises", unfollowed := true, recurses := true, named := ["internal/strconv.uint64pow10", "math/bits.deBruijn32tab", "math/bits.deBruijn64tab"], apart := false, laid := [("math/bits.deBruijn32tab", laid_math_bits_deBruijn32tab), ("math/bits.deBruijn64tab", laid_math_bits_deBruijn64tab), ("internal/strconv.uint64pow10", laid_internal_strconv_uint64pow10)] }
def SharePromisesSaid : Prop := sharePromisesRow.holds Tryz.pinned (OpenSpec.ofChange sharePromisesSpec)

/-- ITS FALSE NEIGHBOUR: 'it returns false'. Refute it at one input. -/
def sharePromisesWrong : ChangeSpec := { name := "sharePromises", fn := fun _ => fun
  | [d1, d2] => { results := [.lit (.bool false)], args := [d1, d2] }
  | _ => none }
def SharePromisesWrongFalsely : Prop := sharePromisesRow.holds Tryz.pinned (OpenSpec.ofChange sharePromisesWrong)

/-- 'snowlinelaw08.ShareEither': WHATEVER THE INPUT: true; the input reads as it did. -/
def shareEitherSpec : ChangeSpec := { name := "shareEither", fn := fun _ => fun
  | [d1, d2, d3, d4] => { results := [.lit (.bool true)], args := [d1, d2, d3, d4] }
  | _ => none }
def shareEitherRow : OpenClaim := { program := "ytlkbcjhemhmfoaagreatdoor", sum := "99230c29c4d847e74cf22e2a08a78b0f6554f4051d0f608b0d4347440be0158c", func := "snowline/snowlinelaw08.ShareEither", spec := "shareEither", unfollowed := true, recurses := true, named := ["internal/strconv.uint64pow10", "math/bits.deBruijn32tab", "math/bits.deBruijn64tab"], apart := false, laid := [("math/bits.deBruijn32tab", laid_math_bits_deBruijn32tab), ("math/bits.deBruijn64tab", laid_math_bits_deBruijn64tab), ("internal/strconv.uint64pow10", laid_internal_strconv_uint64pow10)] }
def ShareEitherSaid : Prop := shareEitherRow.holds Tryz.pinned (OpenSpec.ofChange shareEitherSpec)

/-- ITS FALSE NEIGHBOUR: 'it returns false'. Refute it at one input. -/
def shareEitherWrong : ChangeSpec := { name := "shareEither", fn := fun _ => fun
  | [d1, d2, d3, d4] => { results := [.lit (.bool false)], args := [d1, d2, d3, d4] }
  | _ => none }
def ShareEitherWrongFalsely : Prop := shareEitherRow.holds Tryz.pinned (OpenSpec.ofChange shareEitherWrong)

/-- 'snowlinelaw08.ShareElder': WHATEVER THE INPUT: true; the input reads as it did. -/
def shareElderSpec : ChangeSpec := { name := "shareElder", fn := fun _ => fun
  | [d1, d2] => { results := [.lit (.bool true)], args := [d1, d2] }
  | _ => none }
def shareElderRow : OpenClaim := { program := "ytlkbcjhemhmfoaagreatdoor", sum := "99230c29c4d847e74cf22e2a08a78b0f6554f4051d0f608b0d4347440be0158c", func := "snowline/snowlinelaw08.ShareElder", spec := "shareElder", unfollowed := true, recurses := true, named := ["internal/strconv.uint64pow10", "math/bits.deBruijn32tab", "math/bits.deBruijn64tab"], apart := false, laid := [("math/bits.deBruijn32tab", laid_math_bits_deBruijn32tab), ("math/bits.deBruijn64tab", laid_math_bits_deBruijn64tab), ("internal/strconv.uint64pow10", laid_internal_strconv_uint64pow10)] }
def ShareElderSaid : Prop := shareElderRow.holds Tryz.pinned (OpenSpec.ofChange shareElderSpec)

/-- ITS FALSE NEIGHBOUR: 'it returns false'. Refute it at one input. -/
def shareElderWrong : ChangeSpec := { name := "shareElder", fn := fun _ => fun
  | [d1, d2] => { results := [.lit (.bool false)], args := [d1, d2] }
  | _ => none }
def ShareElderWrongFalsely : Prop := shareElderRow.holds Tryz.pinned (OpenSpec.ofChange shareElderWrong)

/-- 'snowlinelaw08.ShareMore': WHATEVER THE INPUT: true; the input reads as it did. -/
def shareMoreSpec : ChangeSpec := { name := "shareMore", fn := fun _ => fun
  | [d1, d2, d3, d4, d5] => { results := [.lit (.bool true)], args := [d1, d2, d3, d4, d5] }
  | _ => none }
def shareMoreRow : OpenClaim := { program := "ytlkbcjhemhmfoaagreatdoor", sum := "99230c29c4d847e74cf22e2a08a78b0f6554f4051d0f608b0d4347440be0158c", func := "snowline/snowlinelaw08.ShareMore", spec := "shareMore", unfollowed := true, recurses := true, named := ["internal/strconv.uint64pow10", "math/bits.deBruijn32tab", "math/bits.deBruijn64tab"], apart := false, laid := [("math/bits.deBruijn32tab", laid_math_bits_deBruijn32tab), ("math/bits.deBruijn64tab", laid_math_bits_deBruijn64tab), ("internal/strconv.uint64pow10", laid_internal_strconv_uint64pow10)] }
def ShareMoreSaid : Prop := shareMoreRow.holds Tryz.pinned (OpenSpec.ofChange shareMoreSpec)

/-- ITS FALSE NEIGHBOUR: 'it returns false'. Refute it at one input. -/
def shareMoreWrong : ChangeSpec := { name := "shareMore", fn := fun _ => fun
  | [d1, d2, d3, d4, d5] => { results := [.lit (.bool false)], args := [d1, d2, d3, d4, d5] }
  | _ => none }
def ShareMoreWrongFalsely : Prop := shareMoreRow.holds Tryz.pinned (OpenSpec.ofChange shareMoreWrong)

/-- 'snowlinelaw08.ShareLess': WHATEVER THE INPUT: true; the input reads as it did. -/
def shareLessSpec : ChangeSpec := { name := "shareLess", fn := fun _ => fun
  | [d1, d2, d3, d4, d5] => { results := [.lit (.bool true)], args := [d1, d2, d3, d4, d5] }
  | _ => none }
def shareLessRow : OpenClaim := { program := "ytlkbcjhemhmfoaagreatdoor", sum := "99230c29c4d847e74cf22e2a08a78b0f6554f4051d0f608b0d4347440be0158c", func := "snowline/snowlinelaw08.ShareLess", spec := "shareLess", unfollowed := true, recurses := true, named := ["internal/strconv.uint64pow10", "math/bits.deBruijn32tab", "math/bits.deBruijn64tab"], apart := false, laid := [("math/bits.deBruijn32tab", laid_math_bits_deBruijn32tab), ("math/bits.deBruijn64tab", laid_math_bits_deBruijn64tab), ("internal/strconv.uint64pow10", laid_internal_strconv_uint64pow10)] }
def ShareLessSaid : Prop := shareLessRow.holds Tryz.pinned (OpenSpec.ofChange shareLessSpec)

/-- ITS FALSE NEIGHBOUR: 'it returns false'. Refute it at one input. -/
def shareLessWrong : ChangeSpec := { name := "shareLess", fn := fun _ => fun
  | [d1, d2, d3, d4, d5] => { results := [.lit (.bool false)], args := [d1, d2, d3, d4, d5] }
  | _ => none }
def ShareLessWrongFalsely : Prop := shareLessRow.holds Tryz.pinned (OpenSpec.ofChange shareLessWrong)

/-- 'snowlinelaw08.ShareHistories': WHATEVER THE INPUT: true; the input reads as it did. -/
def shareHistoriesSpec : ChangeSpec := { name := "shareHistories", fn := fun _ => fun
  | [d1, d2, d3] => { results := [.lit (.bool true)], args := [d1, d2, d3] }
  | _ => none }
def shareHistoriesRow : OpenClaim := { program := "ytlkbcjhemhmfoaagreatdoor", sum := "99230c29c4d847e74cf22e2a08a78b0f6554f4051d0f608b0d4347440be0158c", func := "snowline/snowlinelaw08.ShareHistories", spec := "shareHistories", unfollowed := true, recurses := true, named := ["internal/strconv.uint64pow10", "math/bits.deBruijn32tab", "math/bits.deBruijn64tab"], apart := false, laid := [("math/bits.deBruijn32tab", laid_math_bits_deBruijn32tab), ("math/bits.deBruijn64tab", laid_math_bits_deBruijn64tab), ("internal/strconv.uint64pow10", laid_internal_strconv_uint64pow10)] }
def ShareHistoriesSaid : Prop := shareHistoriesRow.holds Tryz.pinned (OpenSpec.ofChange shareHistoriesSpec)

/-- ITS FALSE NEIGHBOUR: 'it returns false'. Refute it at one input. -/
def shareHistoriesWrong : ChangeSpec := { name := "shareHistories", fn := fun _ => fun
  | [d1, d2, d3] => { results := [.lit (.bool false)], args := [d1, d2, d3] }
  | _ => none }
def ShareHistoriesWrongFalsely : Prop := shareHistoriesRow.holds Tryz.pinned (OpenSpec.ofChange shareHistoriesWrong)

/-- 'snowlinelaw08.ShareEnters': WHATEVER THE INPUT: true; the input reads as it did. -/
def shareEntersSpec : ChangeSpec := { name := "shareEnters", fn := fun _ => fun
  | [d1, d2] => { results := [.lit (.bool true)], args := [d1, d2] }
  | _ => none }
def shareEntersRow : OpenClaim := { program := "ytlkbcjhemhmfoaagreatdoor", sum := "99230c29c4d847e74cf22e2a08a78b0f6554f4051d0f608b0d4347440be0158c", func := "snowline/snowlinelaw08.ShareEnters", spec := "shareEnters", unfollowed := true, recurses := true, named := ["internal/strconv.uint64pow10", "math/bits.deBruijn32tab", "math/bits.deBruijn64tab"], apart := false, laid := [("math/bits.deBruijn32tab", laid_math_bits_deBruijn32tab), ("math/bits.deBruijn64tab", laid_math_bits_deBruijn64tab), ("internal/strconv.uint64pow10", laid_internal_strconv_uint64pow10)] }
def ShareEntersSaid : Prop := shareEntersRow.holds Tryz.pinned (OpenSpec.ofChange shareEntersSpec)

/-- ITS FALSE NEIGHBOUR: 'it returns false'. Refute it at one input. -/
def shareEntersWrong : ChangeSpec := { name := "shareEnters", fn := fun _ => fun
  | [d1, d2] => { results := [.lit (.bool false)], args := [d1, d2] }
  | _ => none }
def ShareEntersWrongFalsely : Prop := shareEntersRow.holds Tryz.pinned (OpenSpec.ofChange shareEntersWrong)

/-- 'snowlinelaw08.ShareKnown': WHATEVER THE INPUT: true; the input reads as it did. -/
def shareKnownSpec : ChangeSpec := { name := "shareKnown", fn := fun _ => fun
  | [d1, d2, d3, d4, d5, d6] => { results := [.lit (.bool true)], args := [d1, d2, d3, d4, d5, d6] }
  | _ => none }
def shareKnownRow : OpenClaim := { program := "ytlkbcjhemhmfoaagreatdoor", sum := "99230c29c4d847e74cf22e2a08a78b0f6554f4051d0f608b0d4347440be0158c", func := "snowline/snowlinelaw08.ShareKnown", spec := "shareKnown", unfollowed := true, recurses := true, named := ["internal/strconv.uint64pow10", "math/bits.deBruijn32tab", "math/bits.deBruijn64tab"], apart := false, laid := [("math/bits.deBruijn32tab", laid_math_bits_deBruijn32tab), ("math/bits.deBruijn64tab", laid_math_bits_deBruijn64tab), ("internal/strconv.uint64pow10", laid_internal_strconv_uint64pow10)] }
def ShareKnownSaid : Prop := shareKnownRow.holds Tryz.pinned (OpenSpec.ofChange shareKnownSpec)

/-- ITS FALSE NEIGHBOUR: 'it returns false'. Refute it at one input. -/
def shareKnownWrong : ChangeSpec := { name := "shareKnown", fn := fun _ => fun
  | [d1, d2, d3, d4, d5, d6] => { results := [.lit (.bool false)], args := [d1, d2, d3, d4, d5, d6] }
  | _ => none }
def ShareKnownWrongFalsely : Prop := shareKnownRow.holds Tryz.pinned (OpenSpec.ofChange shareKnownWrong)

/-- 'snowlinelaw08.ShareTexts': WHATEVER THE INPUT: true; the input reads as it did. -/
def shareTextsSpec : ChangeSpec := { name := "shareTexts", fn := fun _ => fun
  | [d1, d2] => { results := [.lit (.bool true)], args := [d1, d2] }
  | _ => none }
def shareTextsRow : OpenClaim := { program := "ytlkbcjhemhmfoaagreatdoor", sum := "99230c29c4d847e74cf22e2a08a78b0f6554f4051d0f608b0d4347440be0158c", func := "snowline/snowlinelaw08.ShareTexts", spec := "shareTexts", inPlace := ["internal/bytealg.CountString", "internal/bytealg.IndexByteString", "internal/bytealg.IndexString"], unfollowed := true, recurses := true, named := ["internal/strconv.uint64pow10", "math/bits.deBruijn32tab", "math/bits.deBruijn64tab", "unicode/utf8.first", "unicode/utf8.acceptRanges", "internal/bytealg.MaxLen", "strconv.ErrSyntax", "strconv.ErrRange"], apart := false, laid := [("math/bits.deBruijn32tab", laid_math_bits_deBruijn32tab), ("math/bits.deBruijn64tab", laid_math_bits_deBruijn64tab), ("internal/strconv.uint64pow10", laid_internal_strconv_uint64pow10), ("unicode/utf8.acceptRanges", laid_unicode_utf8_acceptRanges), ("strconv.ErrRange", laid_strconv_ErrRange), ("strconv.ErrSyntax", laid_strconv_ErrSyntax), ("unicode/utf8.first", laid_unicode_utf8_first)] }
def ShareTextsSaid : Prop := shareTextsRow.holds Tryz.pinned (OpenSpec.ofChange shareTextsSpec)

/-- ITS FALSE NEIGHBOUR: 'it returns false'. Refute it at one input. -/
def shareTextsWrong : ChangeSpec := { name := "shareTexts", fn := fun _ => fun
  | [d1, d2] => { results := [.lit (.bool false)], args := [d1, d2] }
  | _ => none }
def ShareTextsWrongFalsely : Prop := shareTextsRow.holds Tryz.pinned (OpenSpec.ofChange shareTextsWrong)

/- THE SECOND FORM. 'bulk': how many values and letters a reading holds, each counted each time it is reached (what is shared counts as often as it is met; a slice's spare places count too). A statement '..UptoSaid' is the law's where the arguments, and the package variables that the reading takes, are together of bulk at most 1048576: NARROWER than '..Said'. Prove '..Said' where nothing that the law and all that it calls make is longer than what came in: it says more and counts as full. Else prove '..UptoSaid'. A law counts once. -/
mutual
def uptoBulk {H : Type} : DataW H → Nat
  | .lit (.string bytes) => bytes.length + 1
  | .lit _ => 1
  | .nil => 1
  | .ptr d => uptoBulk d + 1
  | .slice elems spare => uptoBulkAll elems + uptoBulkAll spare + 1
  | .agg parts => uptoBulkAll parts + 1
  | .iface _ d => uptoBulk d + 1
  | .map entries => uptoBulkEntries entries + 1
  | .held _ => 1
def uptoBulkAll {H : Type} : List (DataW H) → Nat
  | [] => 0
  | d :: r => uptoBulk d + uptoBulkAll r
def uptoBulkEntries {H : Type} : List (Lit × DataW H) → Nat
  | [] => 0
  | x :: r => uptoBulkEntry x + uptoBulkEntries r
def uptoBulkEntry {H : Type} : Lit × DataW H → Nat
  | (.string bytes, d) => bytes.length + uptoBulk d + 1
  | (_, d) => uptoBulk d + 1
 end
def uptoSmall : (H : Type) → List (DataW H) → Bool := fun _ ds => decide (uptoBulkAll ds ≤ 1048576)
def OpenSpec.upto (s : _root_.Go.ChangeSpec) : _root_.Go.OpenSpec := { _root_.Go.OpenSpec.ofChange s with cond := some uptoSmall }

/-- 'snowlinelaw08.SharePlans', WHERE WHAT IT READS IS OF BULK AT MOST 1048576: true; the input reads as it did. -/
def sharePlansUptoRow : OpenClaim := { program := "ytlkbcjhemhmfoaagreatdoor", sum := "99230c29c4d847e74cf22e2a08a78b0f6554f4051d0f608b0d4347440be0158c", func := "snowline/snowlinelaw08.SharePlans", spec := "sharePlans", unfollowed := true, recurses := true, named := ["internal/strconv.uint64pow10", "math/bits.deBruijn32tab", "math/bits.deBruijn64tab"], apart := false, laid := [("math/bits.deBruijn32tab", laid_math_bits_deBruijn32tab), ("math/bits.deBruijn64tab", laid_math_bits_deBruijn64tab), ("internal/strconv.uint64pow10", laid_internal_strconv_uint64pow10)], narrowed := true }
def SharePlansUptoSaid : Prop := sharePlansUptoRow.holds Tryz.pinned (OpenSpec.upto sharePlansSpec)

/-- 'snowlinelaw08.ShareCuts', WHERE WHAT IT READS IS OF BULK AT MOST 1048576: true; the input reads as it did. -/
def shareCutsUptoRow : OpenClaim := { program := "ytlkbcjhemhmfoaagreatdoor", sum := "99230c29c4d847e74cf22e2a08a78b0f6554f4051d0f608b0d4347440be0158c", func := "snowline/snowlinelaw08.ShareCuts", spec := "shareCuts", unfollowed := true, recurses := true, named := ["internal/strconv.uint64pow10", "math/bits.deBruijn32tab", "math/bits.deBruijn64tab"], apart := false, laid := [("math/bits.deBruijn32tab", laid_math_bits_deBruijn32tab), ("math/bits.deBruijn64tab", laid_math_bits_deBruijn64tab), ("internal/strconv.uint64pow10", laid_internal_strconv_uint64pow10)], narrowed := true }
def ShareCutsUptoSaid : Prop := shareCutsUptoRow.holds Tryz.pinned (OpenSpec.upto shareCutsSpec)

/-- 'snowlinelaw08.ShareNeeds', WHERE WHAT IT READS IS OF BULK AT MOST 1048576: true; the input reads as it did. -/
def shareNeedsUptoRow : OpenClaim := { program := "ytlkbcjhemhmfoaagreatdoor", sum := "99230c29c4d847e74cf22e2a08a78b0f6554f4051d0f608b0d4347440be0158c", func := "snowline/snowlinelaw08.ShareNeeds", spec := "shareNeeds", unfollowed := true, recurses := true, named := ["internal/strconv.uint64pow10", "math/bits.deBruijn32tab", "math/bits.deBruijn64tab"], apart := false, laid := [("math/bits.deBruijn32tab", laid_math_bits_deBruijn32tab), ("math/bits.deBruijn64tab", laid_math_bits_deBruijn64tab), ("internal/strconv.uint64pow10", laid_internal_strconv_uint64pow10)], narrowed := true }
def ShareNeedsUptoSaid : Prop := shareNeedsUptoRow.holds Tryz.pinned (OpenSpec.upto shareNeedsSpec)

/-- 'snowlinelaw08.ShareNeeded', WHERE WHAT IT READS IS OF BULK AT MOST 1048576: true; the input reads as it did. -/
def shareNeededUptoRow : OpenClaim := { program := "ytlkbcjhemhmfoaagreatdoor", sum := "99230c29c4d847e74cf22e2a08a78b0f6554f4051d0f608b0d4347440be0158c", func := "snowline/snowlinelaw08.ShareNeeded", spec := "shareNeeded", unfollowed := true, recurses := true, named := ["internal/strconv.uint64pow10", "math/bits.deBruijn32tab", "math/bits.deBruijn64tab"], apart := false, laid := [("math/bits.deBruijn32tab", laid_math_bits_deBruijn32tab), ("math/bits.deBruijn64tab", laid_math_bits_deBruijn64tab), ("internal/strconv.uint64pow10", laid_internal_strconv_uint64pow10)], narrowed := true }
def ShareNeededUptoSaid : Prop := shareNeededUptoRow.holds Tryz.pinned (OpenSpec.upto shareNeededSpec)

/-- 'snowlinelaw08.ShareStands', WHERE WHAT IT READS IS OF BULK AT MOST 1048576: true; the input reads as it did. -/
def shareStandsUptoRow : OpenClaim := { program := "ytlkbcjhemhmfoaagreatdoor", sum := "99230c29c4d847e74cf22e2a08a78b0f6554f4051d0f608b0d4347440be0158c", func := "snowline/snowlinelaw08.ShareStands", spec := "shareStands", unfollowed := true, recurses := true, named := ["internal/strconv.uint64pow10", "math/bits.deBruijn32tab", "math/bits.deBruijn64tab"], apart := false, laid := [("math/bits.deBruijn32tab", laid_math_bits_deBruijn32tab), ("math/bits.deBruijn64tab", laid_math_bits_deBruijn64tab), ("internal/strconv.uint64pow10", laid_internal_strconv_uint64pow10)], narrowed := true }
def ShareStandsUptoSaid : Prop := shareStandsUptoRow.holds Tryz.pinned (OpenSpec.upto shareStandsSpec)

/-- 'snowlinelaw08.SharePromises', WHERE WHAT IT READS IS OF BULK AT MOST 1048576: true; the input reads as it did. -/
def sharePromisesUptoRow : OpenClaim := { program := "ytlkbcjhemhmfoaagreatdoor", sum := "99230c29c4d847e74cf22e2a08a78b0f6554f4051d0f608b0d4347440be0158c", func := "snowline/snowlinelaw08.SharePromises", spec := "sharePromises", unfollowed := true, recurses := true, named := ["internal/strconv.uint64pow10", "math/bits.deBruijn32tab", "math/bits.deBruijn64tab"], apart := false, laid := [("math/bits.deBruijn32tab", laid_math_bits_deBruijn32tab), ("math/bits.deBruijn64tab", laid_math_bits_deBruijn64tab), ("internal/strconv.uint64pow10", laid_internal_strconv_uint64pow10)], narrowed := true }
def SharePromisesUptoSaid : Prop := sharePromisesUptoRow.holds Tryz.pinned (OpenSpec.upto sharePromisesSpec)

/-- 'snowlinelaw08.ShareEither', WHERE WHAT IT READS IS OF BULK AT MOST 1048576: true; the input reads as it did. -/
def shareEitherUptoRow : OpenClaim := { program := "ytlkbcjhemhmfoaagreatdoor", sum := "99230c29c4d847e74cf22e2a08a78b0f6554f4051d0f608b0d4347440be0158c", func := "snowline/snowlinelaw08.ShareEither", spec := "shareEither", unfollowed := true, recurses := true, named := ["internal/strconv.uint64pow10", "math/bits.deBruijn32tab", "math/bits.deBruijn64tab"], apart := false, laid := [("math/bits.deBruijn32tab", laid_math_bits_deBruijn32tab), ("math/bits.deBruijn64tab", laid_math_bits_deBruijn64tab), ("internal/strconv.uint64pow10", laid_internal_strconv_uint64pow10)], narrowed := true }
def ShareEitherUptoSaid : Prop := shareEitherUptoRow.holds Tryz.pinned (OpenSpec.upto shareEitherSpec)

/-- 'snowlinelaw08.ShareElder', WHERE WHAT IT READS IS OF BULK AT MOST 1048576: true; the input reads as it did. -/
def shareElderUptoRow : OpenClaim := { program := "ytlkbcjhemhmfoaagreatdoor", sum := "99230c29c4d847e74cf22e2a08a78b0f6554f4051d0f608b0d4347440be0158c", func := "snowline/snowlinelaw08.ShareElder", spec := "shareElder", unfollowed := true, recurses := true, named := ["internal/strconv.uint64pow10", "math/bits.deBruijn32tab", "math/bits.deBruijn64tab"], apart := false, laid := [("math/bits.deBruijn32tab", laid_math_bits_deBruijn32tab), ("math/bits.deBruijn64tab", laid_math_bits_deBruijn64tab), ("internal/strconv.uint64pow10", laid_internal_strconv_uint64pow10)], narrowed := true }
def ShareElderUptoSaid : Prop := shareElderUptoRow.holds Tryz.pinned (OpenSpec.upto shareElderSpec)

/-- 'snowlinelaw08.ShareMore', WHERE WHAT IT READS IS OF BULK AT MOST 1048576: true; the input reads as it did. -/
def shareMoreUptoRow : OpenClaim := { program := "ytlkbcjhemhmfoaagreatdoor", sum := "99230c29c4d847e74cf22e2a08a78b0f6554f4051d0f608b0d4347440be0158c", func := "snowline/snowlinelaw08.ShareMore", spec := "shareMore", unfollowed := true, recurses := true, named := ["internal/strconv.uint64pow10", "math/bits.deBruijn32tab", "math/bits.deBruijn64tab"], apart := false, laid := [("math/bits.deBruijn32tab", laid_math_bits_deBruijn32tab), ("math/bits.deBruijn64tab", laid_math_bits_deBruijn64tab), ("internal/strconv.uint64pow10", laid_internal_strconv_uint64pow10)], narrowed := true }
def ShareMoreUptoSaid : Prop := shareMoreUptoRow.holds Tryz.pinned (OpenSpec.upto shareMoreSpec)

/-- 'snowlinelaw08.ShareLess', WHERE WHAT IT READS IS OF BULK AT MOST 1048576: true; the input reads as it did. -/
def shareLessUptoRow : OpenClaim := { program := "ytlkbcjhemhmfoaagreatdoor", sum := "99230c29c4d847e74cf22e2a08a78b0f6554f4051d0f608b0d4347440be0158c", func := "snowline/snowlinelaw08.ShareLess", spec := "shareLess", unfollowed := true, recurses := true, named := ["internal/strconv.uint64pow10", "math/bits.deBruijn32tab", "math/bits.deBruijn64tab"], apart := false, laid := [("math/bits.deBruijn32tab", laid_math_bits_deBruijn32tab), ("math/bits.deBruijn64tab", laid_math_bits_deBruijn64tab), ("internal/strconv.uint64pow10", laid_internal_strconv_uint64pow10)], narrowed := true }
def ShareLessUptoSaid : Prop := shareLessUptoRow.holds Tryz.pinned (OpenSpec.upto shareLessSpec)

/-- 'snowlinelaw08.ShareHistories', WHERE WHAT IT READS IS OF BULK AT MOST 1048576: true; the input reads as it did. -/
def shareHistoriesUptoRow : OpenClaim := { program := "ytlkbcjhemhmfoaagreatdoor", sum := "99230c29c4d847e74cf22e2a08a78b0f6554f4051d0f608b0d4347440be0158c", func := "snowline/snowlinelaw08.ShareHistories", spec := "shareHistories", unfollowed := true, recurses := true, named := ["internal/strconv.uint64pow10", "math/bits.deBruijn32tab", "math/bits.deBruijn64tab"], apart := false, laid := [("math/bits.deBruijn32tab", laid_math_bits_deBruijn32tab), ("math/bits.deBruijn64tab", laid_math_bits_deBruijn64tab), ("internal/strconv.uint64pow10", laid_internal_strconv_uint64pow10)], narrowed := true }
def ShareHistoriesUptoSaid : Prop := shareHistoriesUptoRow.holds Tryz.pinned (OpenSpec.upto shareHistoriesSpec)

/-- 'snowlinelaw08.ShareEnters', WHERE WHAT IT READS IS OF BULK AT MOST 1048576: true; the input reads as it did. -/
def shareEntersUptoRow : OpenClaim := { program := "ytlkbcjhemhmfoaagreatdoor", sum := "99230c29c4d847e74cf22e2a08a78b0f6554f4051d0f608b0d4347440be0158c", func := "snowline/snowlinelaw08.ShareEnters", spec := "shareEnters", unfollowed := true, recurses := true, named := ["internal/strconv.uint64pow10", "math/bits.deBruijn32tab", "math/bits.deBruijn64tab"], apart := false, laid := [("math/bits.deBruijn32tab", laid_math_bits_deBruijn32tab), ("math/bits.deBruijn64tab", laid_math_bits_deBruijn64tab), ("internal/strconv.uint64pow10", laid_internal_strconv_uint64pow10)], narrowed := true }
def ShareEntersUptoSaid : Prop := shareEntersUptoRow.holds Tryz.pinned (OpenSpec.upto shareEntersSpec)

/-- 'snowlinelaw08.ShareKnown', WHERE WHAT IT READS IS OF BULK AT MOST 1048576: true; the input reads as it did. -/
def shareKnownUptoRow : OpenClaim := { program := "ytlkbcjhemhmfoaagreatdoor", sum := "99230c29c4d847e74cf22e2a08a78b0f6554f4051d0f608b0d4347440be0158c", func := "snowline/snowlinelaw08.ShareKnown", spec := "shareKnown", unfollowed := true, recurses := true, named := ["internal/strconv.uint64pow10", "math/bits.deBruijn32tab", "math/bits.deBruijn64tab"], apart := false, laid := [("math/bits.deBruijn32tab", laid_math_bits_deBruijn32tab), ("math/bits.deBruijn64tab", laid_math_bits_deBruijn64tab), ("internal/strconv.uint64pow10", laid_internal_strconv_uint64pow10)], narrowed := true }
def ShareKnownUptoSaid : Prop := shareKnownUptoRow.holds Tryz.pinned (OpenSpec.upto shareKnownSpec)

/-- 'snowlinelaw08.ShareTexts', WHERE WHAT IT READS IS OF BULK AT MOST 1048576: true; the input reads as it did. -/
def shareTextsUptoRow : OpenClaim := { program := "ytlkbcjhemhmfoaagreatdoor", sum := "99230c29c4d847e74cf22e2a08a78b0f6554f4051d0f608b0d4347440be0158c", func := "snowline/snowlinelaw08.ShareTexts", spec := "shareTexts", inPlace := ["internal/bytealg.CountString", "internal/bytealg.IndexByteString", "internal/bytealg.IndexString"], unfollowed := true, recurses := true, named := ["internal/strconv.uint64pow10", "math/bits.deBruijn32tab", "math/bits.deBruijn64tab", "unicode/utf8.first", "unicode/utf8.acceptRanges", "internal/bytealg.MaxLen", "strconv.ErrSyntax", "strconv.ErrRange"], apart := false, laid := [("math/bits.deBruijn32tab", laid_math_bits_deBruijn32tab), ("math/bits.deBruijn64tab", laid_math_bits_deBruijn64tab), ("internal/strconv.uint64pow10", laid_internal_strconv_uint64pow10), ("unicode/utf8.acceptRanges", laid_unicode_utf8_acceptRanges), ("strconv.ErrRange", laid_strconv_ErrRange), ("strconv.ErrSyntax", laid_strconv_ErrSyntax), ("unicode/utf8.first", laid_unicode_utf8_first)], narrowed := true }
def ShareTextsUptoSaid : Prop := shareTextsUptoRow.holds Tryz.pinned (OpenSpec.upto shareTextsSpec)

end Rows
end Go.Proofs.YtlkbcjhemhmfoaaGreatDoor
