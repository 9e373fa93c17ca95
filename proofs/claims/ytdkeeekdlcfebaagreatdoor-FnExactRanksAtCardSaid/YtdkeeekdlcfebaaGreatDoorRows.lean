/-
  NARROWER THAN 'FOR EVERY INPUT', by the rows' own cells (each row's printed sentence says how): FnExactCountEffective: laid · FnExactRankOf: laid · FnExactHasRank: laid · FnExactRankWitness: laid · FnExactEffectiveIn: laid · FnExactAnswerTo: laid · FnExactBasePoints: laid · FnExactRiemannRoch: laid · FnExactIsSpecial: laid · FnExactRankFromResidual: laid · FnExactCliffordGap: laid · FnExactRanksAt: laid.
  DERIVED. THE GIVEN ROWS OF THIS SEAT. 12 by the template 'for every input the law returns true; each argument reads behind the call as it read before'; 0 by the template 'total and deterministic' (their statements: YtdkeeekdlcfebaaGreatDoorTotals.lean).
  GIVEN WITH THE SEED: the statements are not yours to turn. If you find one false, say at which input.
  Laid BY PROGRAM, IN A SANDBOX (cutbox-rows.mjs): the forced cells as the released guide's own fill.sh prints them over the translation f85a55858ccac214… (all of the seat's roots in one cut). By AI agents, Wed Nov 11 2026. No macro, syntax, notation, axiom, sorry.
-/
import Derived.Test.YtdkeeekdlcfebaaGreatDoorChecked
import GoSem.Claim
import GoSem.ClaimJoined
import GoSem.ClaimMapViews
import Derived.JoinedTies
import Derived.KernelRfl
namespace Go.Proofs.YtdkeeekdlcfebaaGreatDoor
/- THE CELL 'sum', in the pinned program and in every row, IS THE sha256 OF THE DUMP (.gsa) THAT YtdkeeekdlcfebaaGreatDoorProg.lean LOADS. Nothing in Lean hashes anything: it is a label: what it is worth is what the hold of that sum in a sandbox is worth. -/
noncomputable def Tryz.pinned : Pinned := { name := "ytdkeeekdlcfebaagreatdoor", sum := "f85a55858ccac214a6ef56dcd3195a410f08947a4541ef64fd1c513b5e356535", checked := Tryz.checked }
namespace Rows
def none {H : Type} : Left H := { results := [], args := [] }

/- WHAT THE LISTED PACKAGE-LEVEL VARIABLES READ AS WHEN THE CALL BEGINS. Each datum BY PROGRAM (the guide's laid-datum.mjs) off the statement by which the dump's own 'gosem.cut.vars' lays the variable. In a bare row this is a premise. The card (YtdkeeekdlcfebaaGreatDoorCards.lean) ties it to the program's text. -/
def laid_math_bits_deBruijn32tab {H : Type} : DataW H := .agg [.lit (.int .u8 0), .lit (.int .u8 1), .lit (.int .u8 28), .lit (.int .u8 2), .lit (.int .u8 29), .lit (.int .u8 14), .lit (.int .u8 24), .lit (.int .u8 3), .lit (.int .u8 30), .lit (.int .u8 22), .lit (.int .u8 20), .lit (.int .u8 15), .lit (.int .u8 25), .lit (.int .u8 17), .lit (.int .u8 4), .lit (.int .u8 8), .lit (.int .u8 31), .lit (.int .u8 27), .lit (.int .u8 13), .lit (.int .u8 23), .lit (.int .u8 21), .lit (.int .u8 19), .lit (.int .u8 16), .lit (.int .u8 7), .lit (.int .u8 26), .lit (.int .u8 12), .lit (.int .u8 18), .lit (.int .u8 6), .lit (.int .u8 11), .lit (.int .u8 5), .lit (.int .u8 10), .lit (.int .u8 9)]
def laid_math_bits_deBruijn64tab {H : Type} : DataW H := .agg [.lit (.int .u8 0), .lit (.int .u8 1), .lit (.int .u8 56), .lit (.int .u8 2), .lit (.int .u8 57), .lit (.int .u8 49), .lit (.int .u8 28), .lit (.int .u8 3), .lit (.int .u8 61), .lit (.int .u8 58), .lit (.int .u8 42), .lit (.int .u8 50), .lit (.int .u8 38), .lit (.int .u8 29), .lit (.int .u8 17), .lit (.int .u8 4), .lit (.int .u8 62), .lit (.int .u8 47), .lit (.int .u8 59), .lit (.int .u8 36), .lit (.int .u8 45), .lit (.int .u8 43), .lit (.int .u8 51), .lit (.int .u8 22), .lit (.int .u8 53), .lit (.int .u8 39), .lit (.int .u8 33), .lit (.int .u8 30), .lit (.int .u8 24), .lit (.int .u8 18), .lit (.int .u8 12), .lit (.int .u8 5), .lit (.int .u8 63), .lit (.int .u8 55), .lit (.int .u8 48), .lit (.int .u8 27), .lit (.int .u8 60), .lit (.int .u8 41), .lit (.int .u8 37), .lit (.int .u8 16), .lit (.int .u8 46), .lit (.int .u8 35), .lit (.int .u8 44), .lit (.int .u8 21), .lit (.int .u8 52), .lit (.int .u8 32), .lit (.int .u8 23), .lit (.int .u8 11), .lit (.int .u8 54), .lit (.int .u8 26), .lit (.int .u8 40), .lit (.int .u8 15), .lit (.int .u8 34), .lit (.int .u8 20), .lit (.int .u8 31), .lit (.int .u8 10), .lit (.int .u8 25), .lit (.int .u8 14), .lit (.int .u8 19), .lit (.int .u8 9), .lit (.int .u8 13), .lit (.int .u8 8), .lit (.int .u8 7), .lit (.int .u8 6)]
def laid_internal_strconv_uint64pow10 {H : Type} : DataW H := .agg [.lit (.int .u64 1), .lit (.int .u64 10), .lit (.int .u64 100), .lit (.int .u64 1000), .lit (.int .u64 10000), .lit (.int .u64 100000), .lit (.int .u64 1000000), .lit (.int .u64 10000000), .lit (.int .u64 100000000), .lit (.int .u64 1000000000), .lit (.int .u64 10000000000), .lit (.int .u64 100000000000), .lit (.int .u64 1000000000000), .lit (.int .u64 10000000000000), .lit (.int .u64 100000000000000), .lit (.int .u64 1000000000000000), .lit (.int .u64 10000000000000000), .lit (.int .u64 100000000000000000), .lit (.int .u64 1000000000000000000), .lit (.int .u64 10000000000000000000)]

/-- 'laws.FnExactCountEffective': WHATEVER THE INPUT: true; the input reads as it did. -/
def fnExactCountEffectiveSpec : ChangeSpec := { name := "fnExactCountEffective", fn := fun _ => fun
  | [d1, d2] => { results := [.lit (.bool true)], args := [d1, d2] }
  | _ => none }
def fnExactCountEffectiveRow : OpenClaim := { program := "ytdkeeekdlcfebaagreatdoor", sum := "f85a55858ccac214a6ef56dcd3195a410f08947a4541ef64fd1c513b5e356535", func := "loop.example/g00841/laws.FnExactCountEffective", spec := "fnExactCountEffective", inPlace := ["internal/abi.NoEscape", "internal/bytealg.MakeNoZero"], unfollowed := true, recurses := true, named := ["internal/strconv.uint64pow10", "math/bits.deBruijn32tab", "math/bits.deBruijn64tab"], apart := false, laid := [("math/bits.deBruijn32tab", laid_math_bits_deBruijn32tab), ("math/bits.deBruijn64tab", laid_math_bits_deBruijn64tab), ("internal/strconv.uint64pow10", laid_internal_strconv_uint64pow10)] }
def FnExactCountEffectiveSaid : Prop := fnExactCountEffectiveRow.holds Tryz.pinned (OpenSpec.ofChange fnExactCountEffectiveSpec)

/-- ITS FALSE NEIGHBOUR: 'it returns false'. Refute it at one input. -/
def fnExactCountEffectiveWrong : ChangeSpec := { name := "fnExactCountEffective", fn := fun _ => fun
  | [d1, d2] => { results := [.lit (.bool false)], args := [d1, d2] }
  | _ => none }
def FnExactCountEffectiveWrongFalsely : Prop := fnExactCountEffectiveRow.holds Tryz.pinned (OpenSpec.ofChange fnExactCountEffectiveWrong)

/-- 'laws.FnExactRankOf': WHATEVER THE INPUT: true; the input reads as it did. -/
def fnExactRankOfSpec : ChangeSpec := { name := "fnExactRankOf", fn := fun _ => fun
  | [d1, d2] => { results := [.lit (.bool true)], args := [d1, d2] }
  | _ => none }
def fnExactRankOfRow : OpenClaim := { program := "ytdkeeekdlcfebaagreatdoor", sum := "f85a55858ccac214a6ef56dcd3195a410f08947a4541ef64fd1c513b5e356535", func := "loop.example/g00841/laws.FnExactRankOf", spec := "fnExactRankOf", inPlace := ["internal/abi.NoEscape", "internal/bytealg.MakeNoZero"], unfollowed := true, recurses := true, named := ["internal/strconv.uint64pow10", "math/bits.deBruijn32tab", "math/bits.deBruijn64tab"], apart := false, laid := [("math/bits.deBruijn32tab", laid_math_bits_deBruijn32tab), ("math/bits.deBruijn64tab", laid_math_bits_deBruijn64tab), ("internal/strconv.uint64pow10", laid_internal_strconv_uint64pow10)] }
def FnExactRankOfSaid : Prop := fnExactRankOfRow.holds Tryz.pinned (OpenSpec.ofChange fnExactRankOfSpec)

/-- ITS FALSE NEIGHBOUR: 'it returns false'. Refute it at one input. -/
def fnExactRankOfWrong : ChangeSpec := { name := "fnExactRankOf", fn := fun _ => fun
  | [d1, d2] => { results := [.lit (.bool false)], args := [d1, d2] }
  | _ => none }
def FnExactRankOfWrongFalsely : Prop := fnExactRankOfRow.holds Tryz.pinned (OpenSpec.ofChange fnExactRankOfWrong)

/-- 'laws.FnExactHasRank': WHATEVER THE INPUT: true; the input reads as it did. -/
def fnExactHasRankSpec : ChangeSpec := { name := "fnExactHasRank", fn := fun _ => fun
  | [d1, d2, d3] => { results := [.lit (.bool true)], args := [d1, d2, d3] }
  | _ => none }
def fnExactHasRankRow : OpenClaim := { program := "ytdkeeekdlcfebaagreatdoor", sum := "f85a55858ccac214a6ef56dcd3195a410f08947a4541ef64fd1c513b5e356535", func := "loop.example/g00841/laws.FnExactHasRank", spec := "fnExactHasRank", inPlace := ["internal/abi.NoEscape", "internal/bytealg.MakeNoZero"], unfollowed := true, recurses := true, named := ["internal/strconv.uint64pow10", "math/bits.deBruijn32tab", "math/bits.deBruijn64tab"], apart := false, laid := [("math/bits.deBruijn32tab", laid_math_bits_deBruijn32tab), ("math/bits.deBruijn64tab", laid_math_bits_deBruijn64tab), ("internal/strconv.uint64pow10", laid_internal_strconv_uint64pow10)] }
def FnExactHasRankSaid : Prop := fnExactHasRankRow.holds Tryz.pinned (OpenSpec.ofChange fnExactHasRankSpec)

/-- ITS FALSE NEIGHBOUR: 'it returns false'. Refute it at one input. -/
def fnExactHasRankWrong : ChangeSpec := { name := "fnExactHasRank", fn := fun _ => fun
  | [d1, d2, d3] => { results := [.lit (.bool false)], args := [d1, d2, d3] }
  | _ => none }
def FnExactHasRankWrongFalsely : Prop := fnExactHasRankRow.holds Tryz.pinned (OpenSpec.ofChange fnExactHasRankWrong)

/-- 'laws.FnExactRankWitness': WHATEVER THE INPUT: true; the input reads as it did. -/
def fnExactRankWitnessSpec : ChangeSpec := { name := "fnExactRankWitness", fn := fun _ => fun
  | [d1, d2] => { results := [.lit (.bool true)], args := [d1, d2] }
  | _ => none }
def fnExactRankWitnessRow : OpenClaim := { program := "ytdkeeekdlcfebaagreatdoor", sum := "f85a55858ccac214a6ef56dcd3195a410f08947a4541ef64fd1c513b5e356535", func := "loop.example/g00841/laws.FnExactRankWitness", spec := "fnExactRankWitness", inPlace := ["internal/abi.NoEscape", "internal/bytealg.MakeNoZero"], unfollowed := true, recurses := true, named := ["internal/strconv.uint64pow10", "math/bits.deBruijn32tab", "math/bits.deBruijn64tab"], apart := false, laid := [("math/bits.deBruijn32tab", laid_math_bits_deBruijn32tab), ("math/bits.deBruijn64tab", laid_math_bits_deBruijn64tab), ("internal/strconv.uint64pow10", laid_internal_strconv_uint64pow10)] }
def FnExactRankWitnessSaid : Prop := fnExactRankWitnessRow.holds Tryz.pinned (OpenSpec.ofChange fnExactRankWitnessSpec)

/-- ITS FALSE NEIGHBOUR: 'it returns false'. Refute it at one input. -/
def fnExactRankWitnessWrong : ChangeSpec := { name := "fnExactRankWitness", fn := fun _ => fun
  | [d1, d2] => { results := [.lit (.bool false)], args := [d1, d2] }
  | _ => none }
def FnExactRankWitnessWrongFalsely : Prop := fnExactRankWitnessRow.holds Tryz.pinned (OpenSpec.ofChange fnExactRankWitnessWrong)

/-- 'laws.FnExactEffectiveIn': WHATEVER THE INPUT: true; the input reads as it did. -/
def fnExactEffectiveInSpec : ChangeSpec := { name := "fnExactEffectiveIn", fn := fun _ => fun
  | [d1, d2] => { results := [.lit (.bool true)], args := [d1, d2] }
  | _ => none }
def fnExactEffectiveInRow : OpenClaim := { program := "ytdkeeekdlcfebaagreatdoor", sum := "f85a55858ccac214a6ef56dcd3195a410f08947a4541ef64fd1c513b5e356535", func := "loop.example/g00841/laws.FnExactEffectiveIn", spec := "fnExactEffectiveIn", inPlace := ["internal/abi.NoEscape", "internal/bytealg.MakeNoZero"], unfollowed := true, recurses := true, named := ["internal/strconv.uint64pow10", "math/bits.deBruijn32tab", "math/bits.deBruijn64tab"], apart := false, laid := [("math/bits.deBruijn32tab", laid_math_bits_deBruijn32tab), ("math/bits.deBruijn64tab", laid_math_bits_deBruijn64tab), ("internal/strconv.uint64pow10", laid_internal_strconv_uint64pow10)] }
def FnExactEffectiveInSaid : Prop := fnExactEffectiveInRow.holds Tryz.pinned (OpenSpec.ofChange fnExactEffectiveInSpec)

/-- ITS FALSE NEIGHBOUR: 'it returns false'. Refute it at one input. -/
def fnExactEffectiveInWrong : ChangeSpec := { name := "fnExactEffectiveIn", fn := fun _ => fun
  | [d1, d2] => { results := [.lit (.bool false)], args := [d1, d2] }
  | _ => none }
def FnExactEffectiveInWrongFalsely : Prop := fnExactEffectiveInRow.holds Tryz.pinned (OpenSpec.ofChange fnExactEffectiveInWrong)

/-- 'laws.FnExactAnswerTo': WHATEVER THE INPUT: true; the input reads as it did. -/
def fnExactAnswerToSpec : ChangeSpec := { name := "fnExactAnswerTo", fn := fun _ => fun
  | [d1, d2, d3] => { results := [.lit (.bool true)], args := [d1, d2, d3] }
  | _ => none }
def fnExactAnswerToRow : OpenClaim := { program := "ytdkeeekdlcfebaagreatdoor", sum := "f85a55858ccac214a6ef56dcd3195a410f08947a4541ef64fd1c513b5e356535", func := "loop.example/g00841/laws.FnExactAnswerTo", spec := "fnExactAnswerTo", inPlace := ["internal/abi.NoEscape", "internal/bytealg.MakeNoZero"], unfollowed := true, recurses := true, named := ["internal/strconv.uint64pow10", "math/bits.deBruijn32tab", "math/bits.deBruijn64tab"], apart := false, laid := [("math/bits.deBruijn32tab", laid_math_bits_deBruijn32tab), ("math/bits.deBruijn64tab", laid_math_bits_deBruijn64tab), ("internal/strconv.uint64pow10", laid_internal_strconv_uint64pow10)] }
def FnExactAnswerToSaid : Prop := fnExactAnswerToRow.holds Tryz.pinned (OpenSpec.ofChange fnExactAnswerToSpec)

/-- ITS FALSE NEIGHBOUR: 'it returns false'. Refute it at one input. -/
def fnExactAnswerToWrong : ChangeSpec := { name := "fnExactAnswerTo", fn := fun _ => fun
  | [d1, d2, d3] => { results := [.lit (.bool false)], args := [d1, d2, d3] }
  | _ => none }
def FnExactAnswerToWrongFalsely : Prop := fnExactAnswerToRow.holds Tryz.pinned (OpenSpec.ofChange fnExactAnswerToWrong)

/-- 'laws.FnExactBasePoints': WHATEVER THE INPUT: true; the input reads as it did. -/
def fnExactBasePointsSpec : ChangeSpec := { name := "fnExactBasePoints", fn := fun _ => fun
  | [d1, d2] => { results := [.lit (.bool true)], args := [d1, d2] }
  | _ => none }
def fnExactBasePointsRow : OpenClaim := { program := "ytdkeeekdlcfebaagreatdoor", sum := "f85a55858ccac214a6ef56dcd3195a410f08947a4541ef64fd1c513b5e356535", func := "loop.example/g00841/laws.FnExactBasePoints", spec := "fnExactBasePoints", inPlace := ["internal/abi.NoEscape", "internal/bytealg.MakeNoZero"], unfollowed := true, recurses := true, named := ["internal/strconv.uint64pow10", "math/bits.deBruijn32tab", "math/bits.deBruijn64tab"], apart := false, laid := [("math/bits.deBruijn32tab", laid_math_bits_deBruijn32tab), ("math/bits.deBruijn64tab", laid_math_bits_deBruijn64tab), ("internal/strconv.uint64pow10", laid_internal_strconv_uint64pow10)] }
def FnExactBasePointsSaid : Prop := fnExactBasePointsRow.holds Tryz.pinned (OpenSpec.ofChange fnExactBasePointsSpec)

/-- ITS FALSE NEIGHBOUR: 'it returns false'. Refute it at one input. -/
def fnExactBasePointsWrong : ChangeSpec := { name := "fnExactBasePoints", fn := fun _ => fun
  | [d1, d2] => { results := [.lit (.bool false)], args := [d1, d2] }
  | _ => none }
def FnExactBasePointsWrongFalsely : Prop := fnExactBasePointsRow.holds Tryz.pinned (OpenSpec.ofChange fnExactBasePointsWrong)

/-- 'laws.FnExactRiemannRoch': WHATEVER THE INPUT: true; the input reads as it did. -/
def fnExactRiemannRochSpec : ChangeSpec := { name := "fnExactRiemannRoch", fn := fun _ => fun
  | [d1, d2] => { results := [.lit (.bool true)], args := [d1, d2] }
  | _ => none }
def fnExactRiemannRochRow : OpenClaim := { program := "ytdkeeekdlcfebaagreatdoor", sum := "f85a55858ccac214a6ef56dcd3195a410f08947a4541ef64fd1c513b5e356535", func := "loop.example/g00841/laws.FnExactRiemannRoch", spec := "fnExactRiemannRoch", inPlace := ["internal/abi.NoEscape", "internal/bytealg.MakeNoZero"], unfollowed := true, recurses := true, named := ["internal/strconv.uint64pow10", "math/bits.deBruijn32tab", "math/bits.deBruijn64tab"], apart := false, laid := [("math/bits.deBruijn32tab", laid_math_bits_deBruijn32tab), ("math/bits.deBruijn64tab", laid_math_bits_deBruijn64tab), ("internal/strconv.uint64pow10", laid_internal_strconv_uint64pow10)] }
def FnExactRiemannRochSaid : Prop := fnExactRiemannRochRow.holds Tryz.pinned (OpenSpec.ofChange fnExactRiemannRochSpec)

/-- ITS FALSE NEIGHBOUR: 'it returns false'. Refute it at one input. -/
def fnExactRiemannRochWrong : ChangeSpec := { name := "fnExactRiemannRoch", fn := fun _ => fun
  | [d1, d2] => { results := [.lit (.bool false)], args := [d1, d2] }
  | _ => none }
def FnExactRiemannRochWrongFalsely : Prop := fnExactRiemannRochRow.holds Tryz.pinned (OpenSpec.ofChange fnExactRiemannRochWrong)

/-- 'laws.FnExactIsSpecial': WHATEVER THE INPUT: true; the input reads as it did. -/
def fnExactIsSpecialSpec : ChangeSpec := { name := "fnExactIsSpecial", fn := fun _ => fun
  | [d1, d2] => { results := [.lit (.bool true)], args := [d1, d2] }
  | _ => none }
def fnExactIsSpecialRow : OpenClaim := { program := "ytdkeeekdlcfebaagreatdoor", sum := "f85a55858ccac214a6ef56dcd3195a410f08947a4541ef64fd1c513b5e356535", func := "loop.example/g00841/laws.FnExactIsSpecial", spec := "fnExactIsSpecial", inPlace := ["internal/abi.NoEscape", "internal/bytealg.MakeNoZero"], unfollowed := true, recurses := true, named := ["internal/strconv.uint64pow10", "math/bits.deBruijn32tab", "math/bits.deBruijn64tab"], apart := false, laid := [("math/bits.deBruijn32tab", laid_math_bits_deBruijn32tab), ("math/bits.deBruijn64tab", laid_math_bits_deBruijn64tab), ("internal/strconv.uint64pow10", laid_internal_strconv_uint64pow10)] }
def FnExactIsSpecialSaid : Prop := fnExactIsSpecialRow.holds Tryz.pinned (OpenSpec.ofChange fnExactIsSpecialSpec)

/-- ITS FALSE NEIGHBOUR: 'it returns false'. Refute it at one input. -/
def fnExactIsSpecialWrong : ChangeSpec := { name := "fnExactIsSpecial", fn := fun _ => fun
  | [d1, d2] => { results := [.lit (.bool false)], args := [d1, d2] }
  | _ => none }
def FnExactIsSpecialWrongFalsely : Prop := fnExactIsSpecialRow.holds Tryz.pinned (OpenSpec.ofChange fnExactIsSpecialWrong)

/-- 'laws.FnExactRankFromResidual': WHATEVER THE INPUT: true; the input reads as it did. -/
def fnExactRankFromResidualSpec : ChangeSpec := { name := "fnExactRankFromResidual", fn := fun _ => fun
  | [d1, d2] => { results := [.lit (.bool true)], args := [d1, d2] }
  | _ => none }
def fnExactRankFromResidualRow : OpenClaim := { program := "ytdkeeekdlcfebaagreatdoor", sum := "f85a55858ccac214a6ef56dcd3195a410f08947a4541ef64fd1c513b5e356535", func := "loop.example/g00841/laws.FnExactRankFromResidual", spec := "fnExactRankFromResidual", inPlace := ["internal/abi.NoEscape", "internal/bytealg.MakeNoZero"], unfollowed := true, recurses := true, named := ["internal/strconv.uint64pow10", "math/bits.deBruijn32tab", "math/bits.deBruijn64tab"], apart := false, laid := [("math/bits.deBruijn32tab", laid_math_bits_deBruijn32tab), ("math/bits.deBruijn64tab", laid_math_bits_deBruijn64tab), ("internal/strconv.uint64pow10", laid_internal_strconv_uint64pow10)] }
def FnExactRankFromResidualSaid : Prop := fnExactRankFromResidualRow.holds Tryz.pinned (OpenSpec.ofChange fnExactRankFromResidualSpec)

/-- ITS FALSE NEIGHBOUR: 'it returns false'. Refute it at one input. -/
def fnExactRankFromResidualWrong : ChangeSpec := { name := "fnExactRankFromResidual", fn := fun _ => fun
  | [d1, d2] => { results := [.lit (.bool false)], args := [d1, d2] }
  | _ => none }
def FnExactRankFromResidualWrongFalsely : Prop := fnExactRankFromResidualRow.holds Tryz.pinned (OpenSpec.ofChange fnExactRankFromResidualWrong)

/-- 'laws.FnExactCliffordGap': WHATEVER THE INPUT: true; the input reads as it did. -/
def fnExactCliffordGapSpec : ChangeSpec := { name := "fnExactCliffordGap", fn := fun _ => fun
  | [d1, d2] => { results := [.lit (.bool true)], args := [d1, d2] }
  | _ => none }
def fnExactCliffordGapRow : OpenClaim := { program := "ytdkeeekdlcfebaagreatdoor", sum := "f85a55858ccac214a6ef56dcd3195a410f08947a4541ef64fd1c513b5e356535", func := "loop.example/g00841/laws.FnExactCliffordGap", spec := "fnExactCliffordGap", inPlace := ["internal/abi.NoEscape", "internal/bytealg.MakeNoZero"], unfollowed := true, recurses := true, named := ["internal/strconv.uint64pow10", "math/bits.deBruijn32tab", "math/bits.deBruijn64tab"], apart := false, laid := [("math/bits.deBruijn32tab", laid_math_bits_deBruijn32tab), ("math/bits.deBruijn64tab", laid_math_bits_deBruijn64tab), ("internal/strconv.uint64pow10", laid_internal_strconv_uint64pow10)] }
def FnExactCliffordGapSaid : Prop := fnExactCliffordGapRow.holds Tryz.pinned (OpenSpec.ofChange fnExactCliffordGapSpec)

/-- ITS FALSE NEIGHBOUR: 'it returns false'. Refute it at one input. -/
def fnExactCliffordGapWrong : ChangeSpec := { name := "fnExactCliffordGap", fn := fun _ => fun
  | [d1, d2] => { results := [.lit (.bool false)], args := [d1, d2] }
  | _ => none }
def FnExactCliffordGapWrongFalsely : Prop := fnExactCliffordGapRow.holds Tryz.pinned (OpenSpec.ofChange fnExactCliffordGapWrong)

/-- 'laws.FnExactRanksAt': WHATEVER THE INPUT: true; the input reads as it did. -/
def fnExactRanksAtSpec : ChangeSpec := { name := "fnExactRanksAt", fn := fun _ => fun
  | [d1, d2] => { results := [.lit (.bool true)], args := [d1, d2] }
  | _ => none }
def fnExactRanksAtRow : OpenClaim := { program := "ytdkeeekdlcfebaagreatdoor", sum := "f85a55858ccac214a6ef56dcd3195a410f08947a4541ef64fd1c513b5e356535", func := "loop.example/g00841/laws.FnExactRanksAt", spec := "fnExactRanksAt", inPlace := ["internal/abi.NoEscape", "internal/bytealg.MakeNoZero"], unfollowed := true, recurses := true, named := ["internal/strconv.uint64pow10", "math/bits.deBruijn32tab", "math/bits.deBruijn64tab"], apart := false, laid := [("math/bits.deBruijn32tab", laid_math_bits_deBruijn32tab), ("math/bits.deBruijn64tab", laid_math_bits_deBruijn64tab), ("internal/strconv.uint64pow10", laid_internal_strconv_uint64pow10)] }
def FnExactRanksAtSaid : Prop := fnExactRanksAtRow.holds Tryz.pinned (OpenSpec.ofChange fnExactRanksAtSpec)

/-- ITS FALSE NEIGHBOUR: 'it returns false'. Refute it at one input. -/
def fnExactRanksAtWrong : ChangeSpec := { name := "fnExactRanksAt", fn := fun _ => fun
  | [d1, d2] => { results := [.lit (.bool false)], args := [d1, d2] }
  | _ => none }
def FnExactRanksAtWrongFalsely : Prop := fnExactRanksAtRow.holds Tryz.pinned (OpenSpec.ofChange fnExactRanksAtWrong)

/- THE SECOND FORM. 'bulk': how many values and letters a reading holds, each counted each time it is reached (what is shared counts as often as it is met; a slice's spare places count too). A statement '..UptoSaid' is the law's where the arguments, and the package variables that the reading takes, are together of bulk at most 1048576: NARROWER than '..Said'. Prove '..Said' where nothing that the law and all that it calls make is longer than what came in: it says more and counts as full. Else prove '..UptoSaid'. A law counts once. -/
mutual
def uptoBulk {H : Type} : DataW H → Nat
  | .lit (.string bytes) => bytes.length + 1
  | .lit _ => 1
  | .nil => 1
  | .ptr d => uptoBulk d + 1
  | .slice elems spare => uptoBulkAll elems + uptoBulkAll spare + 1
  | .agg parts => uptoBulkAll parts + 1
  | .iface _ d => uptoBulk d + 1
  | .map entries => uptoBulkEntries entries + 1
  | .held _ => 1
def uptoBulkAll {H : Type} : List (DataW H) → Nat
  | [] => 0
  | d :: r => uptoBulk d + uptoBulkAll r
def uptoBulkEntries {H : Type} : List (Lit × DataW H) → Nat
  | [] => 0
  | x :: r => uptoBulkEntry x + uptoBulkEntries r
def uptoBulkEntry {H : Type} : Lit × DataW H → Nat
  | (.string bytes, d) => bytes.length + uptoBulk d + 1
  | (_, d) => uptoBulk d + 1
 end
def uptoSmall : (H : Type) → List (DataW H) → Bool := fun _ ds => decide (uptoBulkAll ds ≤ 1048576)
def OpenSpec.upto (s : _root_.Go.ChangeSpec) : _root_.Go.OpenSpec := { _root_.Go.OpenSpec.ofChange s with cond := some uptoSmall }

/-- 'laws.FnExactCountEffective', WHERE WHAT IT READS IS OF BULK AT MOST 1048576: true; the input reads as it did. -/
def fnExactCountEffectiveUptoRow : OpenClaim := { program := "ytdkeeekdlcfebaagreatdoor", sum := "f85a55858ccac214a6ef56dcd3195a410f08947a4541ef64fd1c513b5e356535", func := "loop.example/g00841/laws.FnExactCountEffective", spec := "fnExactCountEffective", inPlace := ["internal/abi.NoEscape", "internal/bytealg.MakeNoZero"], unfollowed := true, recurses := true, named := ["internal/strconv.uint64pow10", "math/bits.deBruijn32tab", "math/bits.deBruijn64tab"], apart := false, laid := [("math/bits.deBruijn32tab", laid_math_bits_deBruijn32tab), ("math/bits.deBruijn64tab", laid_math_bits_deBruijn64tab), ("internal/strconv.uint64pow10", laid_internal_strconv_uint64pow10)], narrowed := true }
def FnExactCountEffectiveUptoSaid : Prop := fnExactCountEffectiveUptoRow.holds Tryz.pinned (OpenSpec.upto fnExactCountEffectiveSpec)

/-- 'laws.FnExactRankOf', WHERE WHAT IT READS IS OF BULK AT MOST 1048576: true; the input reads as it did. -/
def fnExactRankOfUptoRow : OpenClaim := { program := "ytdkeeekdlcfebaagreatdoor", sum := "f85a55858ccac214a6ef56dcd3195a410f08947a4541ef64fd1c513b5e356535", func := "loop.example/g00841/laws.FnExactRankOf", spec := "fnExactRankOf", inPlace := ["internal/abi.NoEscape", "internal/bytealg.MakeNoZero"], unfollowed := true, recurses := true, named := ["internal/strconv.uint64pow10", "math/bits.deBruijn32tab", "math/bits.deBruijn64tab"], apart := false, laid := [("math/bits.deBruijn32tab", laid_math_bits_deBruijn32tab), ("math/bits.deBruijn64tab", laid_math_bits_deBruijn64tab), ("internal/strconv.uint64pow10", laid_internal_strconv_uint64pow10)], narrowed := true }
def FnExactRankOfUptoSaid : Prop := fnExactRankOfUptoRow.holds Tryz.pinned (OpenSpec.upto fnExactRankOfSpec)

/-- 'laws.FnExactHasRank', WHERE WHAT IT READS IS OF BULK AT MOST 1048576: true; the input reads as it did. -/
def fnExactHasRankUptoRow : OpenClaim := { program := "ytdkeeekdlcfebaagreatdoor", sum := "f85a55858ccac214a6ef56dcd3195a410f08947a4541ef64fd1c513b5e356535", func := "loop.example/g00841/laws.FnExactHasRank", spec := "fnExactHasRank", inPlace := ["internal/abi.NoEscape", "internal/bytealg.MakeNoZero"], unfollowed := true, recurses := true, named := ["internal/strconv.uint64pow10", "math/bits.deBruijn32tab", "math/bits.deBruijn64tab"], apart := false, laid := [("math/bits.deBruijn32tab", laid_math_bits_deBruijn32tab), ("math/bits.deBruijn64tab", laid_math_bits_deBruijn64tab), ("internal/strconv.uint64pow10", laid_internal_strconv_uint64pow10)], narrowed := true }
def FnExactHasRankUptoSaid : Prop := fnExactHasRankUptoRow.holds Tryz.pinned (OpenSpec.upto fnExactHasRankSpec)

/-- 'laws.FnExactRankWitness', WHERE WHAT IT READS IS OF BULK AT MOST 1048576: true; the input reads as it did. -/
def fnExactRankWitnessUptoRow : OpenClaim := { program := "ytdkeeekdlcfebaagreatdoor", sum := "f85a55858ccac214a6ef56dcd3195a410f08947a4541ef64fd1c513b5e356535", func := "loop.example/g00841/laws.FnExactRankWitness", spec := "fnExactRankWitness", inPlace := ["internal/abi.NoEscape", "internal/bytealg.MakeNoZero"], unfollowed := true, recurses := true, named := ["internal/strconv.uint64pow10", "math/bits.deBruijn32tab", "math/bits.deBruijn64tab"], apart := false, laid := [("math/bits.deBruijn32tab", laid_math_bits_deBruijn32tab), ("math/bits.deBruijn64tab", laid_math_bits_deBruijn64tab), ("internal/strconv.uint64pow10", laid_internal_strconv_uint64pow10)], narrowed := true }
def FnExactRankWitnessUptoSaid : Prop := fnExactRankWitnessUptoRow.holds Tryz.pinned (OpenSpec.upto fnExactRankWitnessSpec)

/-- 'laws.FnExactEffectiveIn', WHERE WHAT IT READS IS OF BULK AT MOST 1048576: true; the input reads as it did. -/
def fnExactEffectiveInUptoRow : OpenClaim := { program := "ytdkeeekdlcfebaagreatdoor", sum := "f85a55858ccac214a6ef56dcd3195a410f08947a4541ef64fd1c513b5e356535", func := "loop.example/g00841/laws.FnExactEffectiveIn", spec := "fnExactEffectiveIn", inPlace := ["internal/abi.NoEscape", "internal/bytealg.MakeNoZero"], unfollowed := true, recurses := true, named := ["internal/strconv.uint64pow10", "math/bits.deBruijn32tab", "math/bits.deBruijn64tab"], apart := false, laid := [("math/bits.deBruijn32tab", laid_math_bits_deBruijn32tab), ("math/bits.deBruijn64tab", laid_math_bits_deBruijn64tab), ("internal/strconv.uint64pow10", laid_internal_strconv_uint64pow10)], narrowed := true }
def FnExactEffectiveInUptoSaid : Prop := fnExactEffectiveInUptoRow.holds Tryz.pinned (OpenSpec.upto fnExactEffectiveInSpec)

/-- 'laws.FnExactAnswerTo', WHERE WHAT IT READS IS OF BULK AT MOST 1048576: true; the input reads as it did. -/
def fnExactAnswerToUptoRow : OpenClaim := { program := "ytdkeeekdlcfebaagreatdoor", sum := "f85a55858ccac214a6ef56dcd3195a410f08947a4541ef64fd1c513b5e356535", func := "loop.example/g00841/laws.FnExactAnswerTo", spec := "fnExactAnswerTo", inPlace := ["internal/abi.NoEscape", "internal/bytealg.MakeNoZero"], unfollowed := true, recurses := true, named := ["internal/strconv.uint64pow10", "math/bits.deBruijn32tab", "math/bits.deBruijn64tab"], apart := false, laid := [("math/bits.deBruijn32tab", laid_math_bits_deBruijn32tab), ("math/bits.deBruijn64tab", laid_math_bits_deBruijn64tab), ("internal/strconv.uint64pow10", laid_internal_strconv_uint64pow10)], narrowed := true }
def FnExactAnswerToUptoSaid : Prop := fnExactAnswerToUptoRow.holds Tryz.pinned (OpenSpec.upto fnExactAnswerToSpec)

/-- 'laws.FnExactBasePoints', WHERE WHAT IT READS IS OF BULK AT MOST 1048576: true; the input reads as it did. -/
def fnExactBasePointsUptoRow : OpenClaim := { program := "ytdkeeekdlcfebaagreatdoor", sum := "f85a55858ccac214a6ef56dcd3195a410f08947a4541ef64fd1c513b5e356535", func := "loop.example/g00841/laws.FnExactBasePoints", spec := "fnExactBasePoints", inPlace := ["internal/abi.NoEscape", "internal/bytealg.MakeNoZero"], unfollowed := true, recurses := true, named := ["internal/strconv.uint64pow10", "math/bits.deBruijn32tab", "math/bits.deBruijn64tab"], apart := false, laid := [("math/bits.deBruijn32tab", laid_math_bits_deBruijn32tab), ("math/bits.deBruijn64tab", laid_math_bits_deBruijn64tab), ("internal/strconv.uint64pow10", laid_internal_strconv_uint64pow10)], narrowed := true }
def FnExactBasePointsUptoSaid : Prop := fnExactBasePointsUptoRow.holds Tryz.pinned (OpenSpec.upto fnExactBasePointsSpec)

/-- 'laws.FnExactRiemannRoch', WHERE WHAT IT READS IS OF BULK AT MOST 1048576: true; the input reads as it did. -/
def fnExactRiemannRochUptoRow : OpenClaim := { program := "ytdkeeekdlcfebaagreatdoor", sum := "f85a55858ccac214a6ef56dcd3195a410f08947a4541ef64fd1c513b5e356535", func := "loop.example/g00841/laws.FnExactRiemannRoch", spec := "fnExactRiemannRoch", inPlace := ["internal/abi.NoEscape", "internal/bytealg.MakeNoZero"], unfollowed := true, recurses := true, named := ["internal/strconv.uint64pow10", "math/bits.deBruijn32tab", "math/bits.deBruijn64tab"], apart := false, laid := [("math/bits.deBruijn32tab", laid_math_bits_deBruijn32tab), ("math/bits.deBruijn64tab", laid_math_bits_deBruijn64tab), ("internal/strconv.uint64pow10", laid_internal_strconv_uint64pow10)], narrowed := true }
def FnExactRiemannRochUptoSaid : Prop := fnExactRiemannRochUptoRow.holds Tryz.pinned (OpenSpec.upto fnExactRiemannRochSpec)

/-- 'laws.FnExactIsSpecial', WHERE WHAT IT READS IS OF BULK AT MOST 1048576: true; the input reads as it did. -/
def fnExactIsSpecialUptoRow : OpenClaim := { program := "ytdkeeekdlcfebaagreatdoor", sum := "f85a55858ccac214a6ef56dcd3195a410f08947a4541ef64fd1c513b5e356535", func := "loop.example/g00841/laws.FnExactIsSpecial", spec := "fnExactIsSpecial", inPlace := ["internal/abi.NoEscape", "internal/bytealg.MakeNoZero"], unfollowed := true, recurses := true, named := ["internal/strconv.uint64pow10", "math/bits.deBruijn32tab", "math/bits.deBruijn64tab"], apart := false, laid := [("math/bits.deBruijn32tab", laid_math_bits_deBruijn32tab), ("math/bits.deBruijn64tab", laid_math_bits_deBruijn64tab), ("internal/strconv.uint64pow10", laid_internal_strconv_uint64pow10)], narrowed := true }
def FnExactIsSpecialUptoSaid : Prop := fnExactIsSpecialUptoRow.holds Tryz.pinned (OpenSpec.upto fnExactIsSpecialSpec)

/-- 'laws.FnExactRankFromResidual', WHERE WHAT IT READS IS OF BULK AT MOST 1048576: true; the input reads as it did. -/
def fnExactRankFromResidualUptoRow : OpenClaim := { program := "ytdkeeekdlcfebaagreatdoor", sum := "f85a55858ccac214a6ef56dcd3195a410f08947a4541ef64fd1c513b5e356535", func := "loop.example/g00841/laws.FnExactRankFromResidual", spec := "fnExactRankFromResidual", inPlace := ["internal/abi.NoEscape", "internal/bytealg.MakeNoZero"], unfollowed := true, recurses := true, named := ["internal/strconv.uint64pow10", "math/bits.deBruijn32tab", "math/bits.deBruijn64tab"], apart := false, laid := [("math/bits.deBruijn32tab", laid_math_bits_deBruijn32tab), ("math/bits.deBruijn64tab", laid_math_bits_deBruijn64tab), ("internal/strconv.uint64pow10", laid_internal_strconv_uint64pow10)], narrowed := true }
def FnExactRankFromResidualUptoSaid : Prop := fnExactRankFromResidualUptoRow.holds Tryz.pinned (OpenSpec.upto fnExactRankFromResidualSpec)

/-- 'laws.FnExactCliffordGap', WHERE WHAT IT READS IS OF BULK AT MOST 1048576: true; the input reads as it did. -/
def fnExactCliffordGapUptoRow : OpenClaim := { program := "ytdkeeekdlcfebaagreatdoor", sum := "f85a55858ccac214a6ef56dcd3195a410f08947a4541ef64fd1c513b5e356535", func := "loop.example/g00841/laws.FnExactCliffordGap", spec := "fnExactCliffordGap", inPlace := ["internal/abi.NoEscape", "internal/bytealg.MakeNoZero"], unfollowed := true, recurses := true, named := ["internal/strconv.uint64pow10", "math/bits.deBruijn32tab", "math/bits.deBruijn64tab"], apart := false, laid := [("math/bits.deBruijn32tab", laid_math_bits_deBruijn32tab), ("math/bits.deBruijn64tab", laid_math_bits_deBruijn64tab), ("internal/strconv.uint64pow10", laid_internal_strconv_uint64pow10)], narrowed := true }
def FnExactCliffordGapUptoSaid : Prop := fnExactCliffordGapUptoRow.holds Tryz.pinned (OpenSpec.upto fnExactCliffordGapSpec)

/-- 'laws.FnExactRanksAt', WHERE WHAT IT READS IS OF BULK AT MOST 1048576: true; the input reads as it did. -/
def fnExactRanksAtUptoRow : OpenClaim := { program := "ytdkeeekdlcfebaagreatdoor", sum := "f85a55858ccac214a6ef56dcd3195a410f08947a4541ef64fd1c513b5e356535", func := "loop.example/g00841/laws.FnExactRanksAt", spec := "fnExactRanksAt", inPlace := ["internal/abi.NoEscape", "internal/bytealg.MakeNoZero"], unfollowed := true, recurses := true, named := ["internal/strconv.uint64pow10", "math/bits.deBruijn32tab", "math/bits.deBruijn64tab"], apart := false, laid := [("math/bits.deBruijn32tab", laid_math_bits_deBruijn32tab), ("math/bits.deBruijn64tab", laid_math_bits_deBruijn64tab), ("internal/strconv.uint64pow10", laid_internal_strconv_uint64pow10)], narrowed := true }
def FnExactRanksAtUptoSaid : Prop := fnExactRanksAtUptoRow.holds Tryz.pinned (OpenSpec.upto fnExactRanksAtSpec)

end Rows
end Go.Proofs.YtdkeeekdlcfebaaGreatDoor
