/-
  No cell of these rows narrows 'for every input' (looked for: loops, veiled, ifaces, maps, wideKeys, modest, calm, conditions, laid).
  DERIVED. THE GIVEN ROWS OF THIS SEAT. 10 by the template 'for every input the law returns true; each argument reads behind the call as it read before'; 0 by the template 'total and deterministic' (their statements: YtkedbhndiokegaaTotals.lean).
  GIVEN WITH THE SEED: the statements are not yours to turn. If you find one false, say at which input.
  Laid BY PROGRAM, IN A SANDBOX (cutbox-rows.mjs): the forced cells as the released guide's own fill.sh prints them over the translation d270d8648511f452… (all of the seat's roots in one cut). By AI agents, Wed Nov 11 2026. No macro, syntax, notation, axiom, sorry.
-/
import Derived.Test.YtkedbhndiokegaaChecked
import GoSem.Claim
import GoSem.ClaimJoined
import GoSem.ClaimMapViews
import Derived.JoinedTies
import Derived.KernelRfl
namespace Go.Proofs.Ytkedbhndiokegaa
/- THE CELL 'sum', in the pinned program and in every row, IS THE sha256 OF THE DUMP (.gsa) THAT YtkedbhndiokegaaProg.lean LOADS. Nothing in Lean hashes anything: it is a label: what it is worth is what the hold of that sum in a sandbox is worth. -/
noncomputable def Try.pinned : Pinned := { name := "ytkedbhndiokegaa", sum := "d270d8648511f4523463513bc5e4ad543c98b55a1da1be6391bd8523edfc7735", checked := Try.checked }
namespace Rows
def none {H : Type} : Left H := { results := [], args := [] }

/-- 'laws.FnExactIdentityMorphism': WHATEVER THE INPUT: true; the input reads as it did. -/
def fnExactIdentityMorphismSpec : ChangeSpec := { name := "fnExactIdentityMorphism", fn := fun _ => fun
  | [d] => { results := [.lit (.bool true)], args := [d] }
  | _ => none }
def fnExactIdentityMorphismRow : OpenClaim := { program := "ytkedbhndiokegaa", sum := "d270d8648511f4523463513bc5e4ad543c98b55a1da1be6391bd8523edfc7735", func := "loop.example/g00841/laws.FnExactIdentityMorphism", spec := "fnExactIdentityMorphism", unfollowed := true, recurses := true, apart := false }
def FnExactIdentityMorphismSaid : Prop := fnExactIdentityMorphismRow.holds Try.pinned (OpenSpec.ofChange fnExactIdentityMorphismSpec)

/-- ITS FALSE NEIGHBOUR: 'it returns false'. Refute it at one input. -/
def fnExactIdentityMorphismWrong : ChangeSpec := { name := "fnExactIdentityMorphism", fn := fun _ => fun
  | [d] => { results := [.lit (.bool false)], args := [d] }
  | _ => none }
def FnExactIdentityMorphismWrongFalsely : Prop := fnExactIdentityMorphismRow.holds Try.pinned (OpenSpec.ofChange fnExactIdentityMorphismWrong)

/-- 'laws.FnExactMorphismOk': WHATEVER THE INPUT: true; the input reads as it did. -/
def fnExactMorphismOkSpec : ChangeSpec := { name := "fnExactMorphismOk", fn := fun _ => fun
  | [d1, d2, d3] => { results := [.lit (.bool true)], args := [d1, d2, d3] }
  | _ => none }
def fnExactMorphismOkRow : OpenClaim := { program := "ytkedbhndiokegaa", sum := "d270d8648511f4523463513bc5e4ad543c98b55a1da1be6391bd8523edfc7735", func := "loop.example/g00841/laws.FnExactMorphismOk", spec := "fnExactMorphismOk", unfollowed := true, recurses := true, apart := false }
def FnExactMorphismOkSaid : Prop := fnExactMorphismOkRow.holds Try.pinned (OpenSpec.ofChange fnExactMorphismOkSpec)

/-- ITS FALSE NEIGHBOUR: 'it returns false'. Refute it at one input. -/
def fnExactMorphismOkWrong : ChangeSpec := { name := "fnExactMorphismOk", fn := fun _ => fun
  | [d1, d2, d3] => { results := [.lit (.bool false)], args := [d1, d2, d3] }
  | _ => none }
def FnExactMorphismOkWrongFalsely : Prop := fnExactMorphismOkRow.holds Try.pinned (OpenSpec.ofChange fnExactMorphismOkWrong)

/-- 'laws.FnExactIsHarmonic': WHATEVER THE INPUT: true; the input reads as it did. -/
def fnExactIsHarmonicSpec : ChangeSpec := { name := "fnExactIsHarmonic", fn := fun _ => fun
  | [d1, d2, d3] => { results := [.lit (.bool true)], args := [d1, d2, d3] }
  | _ => none }
def fnExactIsHarmonicRow : OpenClaim := { program := "ytkedbhndiokegaa", sum := "d270d8648511f4523463513bc5e4ad543c98b55a1da1be6391bd8523edfc7735", func := "loop.example/g00841/laws.FnExactIsHarmonic", spec := "fnExactIsHarmonic", unfollowed := true, recurses := true, apart := false }
def FnExactIsHarmonicSaid : Prop := fnExactIsHarmonicRow.holds Try.pinned (OpenSpec.ofChange fnExactIsHarmonicSpec)

/-- ITS FALSE NEIGHBOUR: 'it returns false'. Refute it at one input. -/
def fnExactIsHarmonicWrong : ChangeSpec := { name := "fnExactIsHarmonic", fn := fun _ => fun
  | [d1, d2, d3] => { results := [.lit (.bool false)], args := [d1, d2, d3] }
  | _ => none }
def FnExactIsHarmonicWrongFalsely : Prop := fnExactIsHarmonicRow.holds Try.pinned (OpenSpec.ofChange fnExactIsHarmonicWrong)

/-- 'laws.FnExactHorizontalOf': WHATEVER THE INPUT: true; the input reads as it did. -/
def fnExactHorizontalOfSpec : ChangeSpec := { name := "fnExactHorizontalOf", fn := fun _ => fun
  | [d1, d2, d3, d4] => { results := [.lit (.bool true)], args := [d1, d2, d3, d4] }
  | _ => none }
def fnExactHorizontalOfRow : OpenClaim := { program := "ytkedbhndiokegaa", sum := "d270d8648511f4523463513bc5e4ad543c98b55a1da1be6391bd8523edfc7735", func := "loop.example/g00841/laws.FnExactHorizontalOf", spec := "fnExactHorizontalOf", unfollowed := true, recurses := true, apart := false }
def FnExactHorizontalOfSaid : Prop := fnExactHorizontalOfRow.holds Try.pinned (OpenSpec.ofChange fnExactHorizontalOfSpec)

/-- ITS FALSE NEIGHBOUR: 'it returns false'. Refute it at one input. -/
def fnExactHorizontalOfWrong : ChangeSpec := { name := "fnExactHorizontalOf", fn := fun _ => fun
  | [d1, d2, d3, d4] => { results := [.lit (.bool false)], args := [d1, d2, d3, d4] }
  | _ => none }
def FnExactHorizontalOfWrongFalsely : Prop := fnExactHorizontalOfRow.holds Try.pinned (OpenSpec.ofChange fnExactHorizontalOfWrong)

/-- 'laws.FnExactDegreeOfMorphism': WHATEVER THE INPUT: true; the input reads as it did. -/
def fnExactDegreeOfMorphismSpec : ChangeSpec := { name := "fnExactDegreeOfMorphism", fn := fun _ => fun
  | [d1, d2, d3] => { results := [.lit (.bool true)], args := [d1, d2, d3] }
  | _ => none }
def fnExactDegreeOfMorphismRow : OpenClaim := { program := "ytkedbhndiokegaa", sum := "d270d8648511f4523463513bc5e4ad543c98b55a1da1be6391bd8523edfc7735", func := "loop.example/g00841/laws.FnExactDegreeOfMorphism", spec := "fnExactDegreeOfMorphism", unfollowed := true, recurses := true, apart := false }
def FnExactDegreeOfMorphismSaid : Prop := fnExactDegreeOfMorphismRow.holds Try.pinned (OpenSpec.ofChange fnExactDegreeOfMorphismSpec)

/-- ITS FALSE NEIGHBOUR: 'it returns false'. Refute it at one input. -/
def fnExactDegreeOfMorphismWrong : ChangeSpec := { name := "fnExactDegreeOfMorphism", fn := fun _ => fun
  | [d1, d2, d3] => { results := [.lit (.bool false)], args := [d1, d2, d3] }
  | _ => none }
def FnExactDegreeOfMorphismWrongFalsely : Prop := fnExactDegreeOfMorphismRow.holds Try.pinned (OpenSpec.ofChange fnExactDegreeOfMorphismWrong)

/-- 'laws.FnExactCountMorphisms': WHATEVER THE INPUT: true; the input reads as it did. -/
def fnExactCountMorphismsSpec : ChangeSpec := { name := "fnExactCountMorphisms", fn := fun _ => fun
  | [d1, d2] => { results := [.lit (.bool true)], args := [d1, d2] }
  | _ => none }
def fnExactCountMorphismsRow : OpenClaim := { program := "ytkedbhndiokegaa", sum := "d270d8648511f4523463513bc5e4ad543c98b55a1da1be6391bd8523edfc7735", func := "loop.example/g00841/laws.FnExactCountMorphisms", spec := "fnExactCountMorphisms", unfollowed := true, recurses := true, apart := false }
def FnExactCountMorphismsSaid : Prop := fnExactCountMorphismsRow.holds Try.pinned (OpenSpec.ofChange fnExactCountMorphismsSpec)

/-- ITS FALSE NEIGHBOUR: 'it returns false'. Refute it at one input. -/
def fnExactCountMorphismsWrong : ChangeSpec := { name := "fnExactCountMorphisms", fn := fun _ => fun
  | [d1, d2] => { results := [.lit (.bool false)], args := [d1, d2] }
  | _ => none }
def FnExactCountMorphismsWrongFalsely : Prop := fnExactCountMorphismsRow.holds Try.pinned (OpenSpec.ofChange fnExactCountMorphismsWrong)

/-- 'laws.FnIdentity': WHATEVER THE INPUT: true; the input reads as it did. -/
def fnIdentitySpec : ChangeSpec := { name := "fnIdentity", fn := fun _ => fun
  | [d] => { results := [.lit (.bool true)], args := [d] }
  | _ => none }
def fnIdentityRow : OpenClaim := { program := "ytkedbhndiokegaa", sum := "d270d8648511f4523463513bc5e4ad543c98b55a1da1be6391bd8523edfc7735", func := "loop.example/g00841/laws.FnIdentity", spec := "fnIdentity", unfollowed := true, recurses := true, apart := false }
def FnIdentitySaid : Prop := fnIdentityRow.holds Try.pinned (OpenSpec.ofChange fnIdentitySpec)

/-- ITS FALSE NEIGHBOUR: 'it returns false'. Refute it at one input. -/
def fnIdentityWrong : ChangeSpec := { name := "fnIdentity", fn := fun _ => fun
  | [d] => { results := [.lit (.bool false)], args := [d] }
  | _ => none }
def FnIdentityWrongFalsely : Prop := fnIdentityRow.holds Try.pinned (OpenSpec.ofChange fnIdentityWrong)

/-- 'laws.FnExactPushForward': WHATEVER THE INPUT: true; the input reads as it did. -/
def fnExactPushForwardSpec : ChangeSpec := { name := "fnExactPushForward", fn := fun _ => fun
  | [d1, d2, d3, d4] => { results := [.lit (.bool true)], args := [d1, d2, d3, d4] }
  | _ => none }
def fnExactPushForwardRow : OpenClaim := { program := "ytkedbhndiokegaa", sum := "d270d8648511f4523463513bc5e4ad543c98b55a1da1be6391bd8523edfc7735", func := "loop.example/g00841/laws.FnExactPushForward", spec := "fnExactPushForward", unfollowed := true, recurses := true, apart := false }
def FnExactPushForwardSaid : Prop := fnExactPushForwardRow.holds Try.pinned (OpenSpec.ofChange fnExactPushForwardSpec)

/-- ITS FALSE NEIGHBOUR: 'it returns false'. Refute it at one input. -/
def fnExactPushForwardWrong : ChangeSpec := { name := "fnExactPushForward", fn := fun _ => fun
  | [d1, d2, d3, d4] => { results := [.lit (.bool false)], args := [d1, d2, d3, d4] }
  | _ => none }
def FnExactPushForwardWrongFalsely : Prop := fnExactPushForwardRow.holds Try.pinned (OpenSpec.ofChange fnExactPushForwardWrong)

/-- 'laws.FnExactPullBack': WHATEVER THE INPUT: true; the input reads as it did. -/
def fnExactPullBackSpec : ChangeSpec := { name := "fnExactPullBack", fn := fun _ => fun
  | [d1, d2, d3, d4] => { results := [.lit (.bool true)], args := [d1, d2, d3, d4] }
  | _ => none }
def fnExactPullBackRow : OpenClaim := { program := "ytkedbhndiokegaa", sum := "d270d8648511f4523463513bc5e4ad543c98b55a1da1be6391bd8523edfc7735", func := "loop.example/g00841/laws.FnExactPullBack", spec := "fnExactPullBack", unfollowed := true, recurses := true, apart := false }
def FnExactPullBackSaid : Prop := fnExactPullBackRow.holds Try.pinned (OpenSpec.ofChange fnExactPullBackSpec)

/-- ITS FALSE NEIGHBOUR: 'it returns false'. Refute it at one input. -/
def fnExactPullBackWrong : ChangeSpec := { name := "fnExactPullBack", fn := fun _ => fun
  | [d1, d2, d3, d4] => { results := [.lit (.bool false)], args := [d1, d2, d3, d4] }
  | _ => none }
def FnExactPullBackWrongFalsely : Prop := fnExactPullBackRow.holds Try.pinned (OpenSpec.ofChange fnExactPullBackWrong)

/-- 'laws.FnMorphisms': WHATEVER THE INPUT: true; the input reads as it did. -/
def fnMorphismsSpec : ChangeSpec := { name := "fnMorphisms", fn := fun _ => fun
  | [d] => { results := [.lit (.bool true)], args := [d] }
  | _ => none }
def fnMorphismsRow : OpenClaim := { program := "ytkedbhndiokegaa", sum := "d270d8648511f4523463513bc5e4ad543c98b55a1da1be6391bd8523edfc7735", func := "loop.example/g00841/laws.FnMorphisms", spec := "fnMorphisms", unfollowed := true, recurses := true, apart := false }
def FnMorphismsSaid : Prop := fnMorphismsRow.holds Try.pinned (OpenSpec.ofChange fnMorphismsSpec)

/-- ITS FALSE NEIGHBOUR: 'it returns false'. Refute it at one input. -/
def fnMorphismsWrong : ChangeSpec := { name := "fnMorphisms", fn := fun _ => fun
  | [d] => { results := [.lit (.bool false)], args := [d] }
  | _ => none }
def FnMorphismsWrongFalsely : Prop := fnMorphismsRow.holds Try.pinned (OpenSpec.ofChange fnMorphismsWrong)

/- THE SECOND FORM. 'bulk': how many values and letters a reading holds, each counted each time it is reached (what is shared counts as often as it is met; a slice's spare places count too). A statement '..UptoSaid' is the law's where the arguments, and the package variables that the reading takes, are together of bulk at most 1048576: NARROWER than '..Said'. Prove '..Said' where nothing that the law and all that it calls make is longer than what came in: it says more and counts as full. Else prove '..UptoSaid'. A law counts once. -/
mutual
def uptoBulk {H : Type} : DataW H → Nat
  | .lit (.string bytes) => bytes.length + 1
  | .lit _ => 1
  | .nil => 1
  | .ptr d => uptoBulk d + 1
  | .slice elems spare => uptoBulkAll elems + uptoBulkAll spare + 1
  | .agg parts => uptoBulkAll parts + 1
  | .iface _ d => uptoBulk d + 1
  | .map entries => uptoBulkEntries entries + 1
  | .held _ => 1
def uptoBulkAll {H : Type} : List (DataW H) → Nat
  | [] => 0
  | d :: r => uptoBulk d + uptoBulkAll r
def uptoBulkEntries {H : Type} : List (Lit × DataW H) → Nat
  | [] => 0
  | x :: r => uptoBulkEntry x + uptoBulkEntries r
def uptoBulkEntry {H : Type} : Lit × DataW H → Nat
  | (.string bytes, d) => bytes.length + uptoBulk d + 1
  | (_, d) => uptoBulk d + 1
 end
def uptoSmall : (H : Type) → List (DataW H) → Bool := fun _ ds => decide (uptoBulkAll ds ≤ 1048576)
def OpenSpec.upto (s : _root_.Go.ChangeSpec) : _root_.Go.OpenSpec := { _root_.Go.OpenSpec.ofChange s with cond := some uptoSmall }

/-- 'laws.FnExactIdentityMorphism', WHERE WHAT IT READS IS OF BULK AT MOST 1048576: true; the input reads as it did. -/
def fnExactIdentityMorphismUptoRow : OpenClaim := { program := "ytkedbhndiokegaa", sum := "d270d8648511f4523463513bc5e4ad543c98b55a1da1be6391bd8523edfc7735", func := "loop.example/g00841/laws.FnExactIdentityMorphism", spec := "fnExactIdentityMorphism", unfollowed := true, recurses := true, apart := false, narrowed := true }
def FnExactIdentityMorphismUptoSaid : Prop := fnExactIdentityMorphismUptoRow.holds Try.pinned (OpenSpec.upto fnExactIdentityMorphismSpec)

/-- 'laws.FnExactMorphismOk', WHERE WHAT IT READS IS OF BULK AT MOST 1048576: true; the input reads as it did. -/
def fnExactMorphismOkUptoRow : OpenClaim := { program := "ytkedbhndiokegaa", sum := "d270d8648511f4523463513bc5e4ad543c98b55a1da1be6391bd8523edfc7735", func := "loop.example/g00841/laws.FnExactMorphismOk", spec := "fnExactMorphismOk", unfollowed := true, recurses := true, apart := false, narrowed := true }
def FnExactMorphismOkUptoSaid : Prop := fnExactMorphismOkUptoRow.holds Try.pinned (OpenSpec.upto fnExactMorphismOkSpec)

/-- 'laws.FnExactIsHarmonic', WHERE WHAT IT READS IS OF BULK AT MOST 1048576: true; the input reads as it did. -/
def fnExactIsHarmonicUptoRow : OpenClaim := { program := "ytkedbhndiokegaa", sum := "d270d8648511f4523463513bc5e4ad543c98b55a1da1be6391bd8523edfc7735", func := "loop.example/g00841/laws.FnExactIsHarmonic", spec := "fnExactIsHarmonic", unfollowed := true, recurses := true, apart := false, narrowed := true }
def FnExactIsHarmonicUptoSaid : Prop := fnExactIsHarmonicUptoRow.holds Try.pinned (OpenSpec.upto fnExactIsHarmonicSpec)

/-- 'laws.FnExactHorizontalOf', WHERE WHAT IT READS IS OF BULK AT MOST 1048576: true; the input reads as it did. -/
def fnExactHorizontalOfUptoRow : OpenClaim := { program := "ytkedbhndiokegaa", sum := "d270d8648511f4523463513bc5e4ad543c98b55a1da1be6391bd8523edfc7735", func := "loop.example/g00841/laws.FnExactHorizontalOf", spec := "fnExactHorizontalOf", unfollowed := true, recurses := true, apart := false, narrowed := true }
def FnExactHorizontalOfUptoSaid : Prop := fnExactHorizontalOfUptoRow.holds Try.pinned (OpenSpec.upto fnExactHorizontalOfSpec)

/-- 'laws.FnExactDegreeOfMorphism', WHERE WHAT IT READS IS OF BULK AT MOST 1048576: true; the input reads as it did. -/
def fnExactDegreeOfMorphismUptoRow : OpenClaim := { program := "ytkedbhndiokegaa", sum := "d270d8648511f4523463513bc5e4ad543c98b55a1da1be6391bd8523edfc7735", func := "loop.example/g00841/laws.FnExactDegreeOfMorphism", spec := "fnExactDegreeOfMorphism", unfollowed := true, recurses := true, apart := false, narrowed := true }
def FnExactDegreeOfMorphismUptoSaid : Prop := fnExactDegreeOfMorphismUptoRow.holds Try.pinned (OpenSpec.upto fnExactDegreeOfMorphismSpec)

/-- 'laws.FnExactCountMorphisms', WHERE WHAT IT READS IS OF BULK AT MOST 1048576: true; the input reads as it did. -/
def fnExactCountMorphismsUptoRow : OpenClaim := { program := "ytkedbhndiokegaa", sum := "d270d8648511f4523463513bc5e4ad543c98b55a1da1be6391bd8523edfc7735", func := "loop.example/g00841/laws.FnExactCountMorphisms", spec := "fnExactCountMorphisms", unfollowed := true, recurses := true, apart := false, narrowed := true }
def FnExactCountMorphismsUptoSaid : Prop := fnExactCountMorphismsUptoRow.holds Try.pinned (OpenSpec.upto fnExactCountMorphismsSpec)

/-- 'laws.FnIdentity', WHERE WHAT IT READS IS OF BULK AT MOST 1048576: true; the input reads as it did. -/
def fnIdentityUptoRow : OpenClaim := { program := "ytkedbhndiokegaa", sum := "d270d8648511f4523463513bc5e4ad543c98b55a1da1be6391bd8523edfc7735", func := "loop.example/g00841/laws.FnIdentity", spec := "fnIdentity", unfollowed := true, recurses := true, apart := false, narrowed := true }
def FnIdentityUptoSaid : Prop := fnIdentityUptoRow.holds Try.pinned (OpenSpec.upto fnIdentitySpec)

/-- 'laws.FnExactPushForward', WHERE WHAT IT READS IS OF BULK AT MOST 1048576: true; the input reads as it did. -/
def fnExactPushForwardUptoRow : OpenClaim := { program := "ytkedbhndiokegaa", sum := "d270d8648511f4523463513bc5e4ad543c98b55a1da1be6391bd8523edfc7735", func := "loop.example/g00841/laws.FnExactPushForward", spec := "fnExactPushForward", unfollowed := true, recurses := true, apart := false, narrowed := true }
def FnExactPushForwardUptoSaid : Prop := fnExactPushForwardUptoRow.holds Try.pinned (OpenSpec.upto fnExactPushForwardSpec)

/-- 'laws.FnExactPullBack', WHERE WHAT IT READS IS OF BULK AT MOST 1048576: true; the input reads as it did. -/
def fnExactPullBackUptoRow : OpenClaim := { program := "ytkedbhndiokegaa", sum := "d270d8648511f4523463513bc5e4ad543c98b55a1da1be6391bd8523edfc7735", func := "loop.example/g00841/laws.FnExactPullBack", spec := "fnExactPullBack", unfollowed := true, recurses := true, apart := false, narrowed := true }
def FnExactPullBackUptoSaid : Prop := fnExactPullBackUptoRow.holds Try.pinned (OpenSpec.upto fnExactPullBackSpec)

/-- 'laws.FnMorphisms', WHERE WHAT IT READS IS OF BULK AT MOST 1048576: true; the input reads as it did. -/
def fnMorphismsUptoRow : OpenClaim := { program := "ytkedbhndiokegaa", sum := "d270d8648511f4523463513bc5e4ad543c98b55a1da1be6391bd8523edfc7735", func := "loop.example/g00841/laws.FnMorphisms", spec := "fnMorphisms", unfollowed := true, recurses := true, apart := false, narrowed := true }
def FnMorphismsUptoSaid : Prop := fnMorphismsUptoRow.holds Try.pinned (OpenSpec.upto fnMorphismsSpec)

end Rows
end Go.Proofs.Ytkedbhndiokegaa
