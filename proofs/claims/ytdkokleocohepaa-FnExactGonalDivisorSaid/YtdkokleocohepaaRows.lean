/-
  No cell of these rows narrows 'for every input' (looked for: loops, veiled, ifaces, maps, wideKeys, modest, calm, conditions, laid).
  DERIVED. THE GIVEN ROWS OF THIS SEAT. 3 by the template 'for every input the law returns true; each argument reads behind the call as it read before'; 0 by the template 'total and deterministic' (their statements: YtdkokleocohepaaTotals.lean).
  GIVEN WITH THE SEED: the statements are not yours to turn. If you find one false, say at which input.
  Laid BY PROGRAM, IN A SANDBOX (cutbox-rows.mjs): the forced cells as the released guide's own fill.sh prints them over the translation c080376bca032d62… (all of the seat's roots in one cut). By AI agents, Wed Nov 11 2026. No macro, syntax, notation, axiom, sorry.
-/
import Derived.Test.YtdkokleocohepaaChecked
import GoSem.Claim
import GoSem.ClaimJoined
import GoSem.ClaimMapViews
import Derived.JoinedTies
import Derived.KernelRfl
namespace Go.Proofs.Ytdkokleocohepaa
/- THE CELL 'sum', in the pinned program and in every row, IS THE sha256 OF THE DUMP (.gsa) THAT YtdkokleocohepaaProg.lean LOADS. Nothing in Lean hashes anything: it is a label: what it is worth is what the hold of that sum in a sandbox is worth. -/
noncomputable def Try.pinned : Pinned := { name := "ytdkokleocohepaa", sum := "c080376bca032d627ecac85a6c239f7042af67cc5077b2ec003e295fb923e0cb", checked := Try.checked }
namespace Rows
def none {H : Type} : Left H := { results := [], args := [] }

/-- 'laws.FnExactGonalityOf': WHATEVER THE INPUT: true; the input reads as it did. -/
def fnExactGonalityOfSpec : ChangeSpec := { name := "fnExactGonalityOf", fn := fun _ => fun
  | [d] => { results := [.lit (.bool true)], args := [d] }
  | _ => none }
def fnExactGonalityOfRow : OpenClaim := { program := "ytdkokleocohepaa", sum := "c080376bca032d627ecac85a6c239f7042af67cc5077b2ec003e295fb923e0cb", func := "loop.example/g00841/laws.FnExactGonalityOf", spec := "fnExactGonalityOf", unfollowed := true, recurses := true, apart := false }
def FnExactGonalityOfSaid : Prop := fnExactGonalityOfRow.holds Try.pinned (OpenSpec.ofChange fnExactGonalityOfSpec)

/-- ITS FALSE NEIGHBOUR: 'it returns false'. Refute it at one input. -/
def fnExactGonalityOfWrong : ChangeSpec := { name := "fnExactGonalityOf", fn := fun _ => fun
  | [d] => { results := [.lit (.bool false)], args := [d] }
  | _ => none }
def FnExactGonalityOfWrongFalsely : Prop := fnExactGonalityOfRow.holds Try.pinned (OpenSpec.ofChange fnExactGonalityOfWrong)

/-- 'laws.FnExactIsHyperelliptic': WHATEVER THE INPUT: true; the input reads as it did. -/
def fnExactIsHyperellipticSpec : ChangeSpec := { name := "fnExactIsHyperelliptic", fn := fun _ => fun
  | [d] => { results := [.lit (.bool true)], args := [d] }
  | _ => none }
def fnExactIsHyperellipticRow : OpenClaim := { program := "ytdkokleocohepaa", sum := "c080376bca032d627ecac85a6c239f7042af67cc5077b2ec003e295fb923e0cb", func := "loop.example/g00841/laws.FnExactIsHyperelliptic", spec := "fnExactIsHyperelliptic", unfollowed := true, recurses := true, apart := false }
def FnExactIsHyperellipticSaid : Prop := fnExactIsHyperellipticRow.holds Try.pinned (OpenSpec.ofChange fnExactIsHyperellipticSpec)

/-- ITS FALSE NEIGHBOUR: 'it returns false'. Refute it at one input. -/
def fnExactIsHyperellipticWrong : ChangeSpec := { name := "fnExactIsHyperelliptic", fn := fun _ => fun
  | [d] => { results := [.lit (.bool false)], args := [d] }
  | _ => none }
def FnExactIsHyperellipticWrongFalsely : Prop := fnExactIsHyperellipticRow.holds Try.pinned (OpenSpec.ofChange fnExactIsHyperellipticWrong)

/-- 'laws.FnExactGonalDivisor': WHATEVER THE INPUT: true; the input reads as it did. -/
def fnExactGonalDivisorSpec : ChangeSpec := { name := "fnExactGonalDivisor", fn := fun _ => fun
  | [d] => { results := [.lit (.bool true)], args := [d] }
  | _ => none }
def fnExactGonalDivisorRow : OpenClaim := { program := "ytdkokleocohepaa", sum := "c080376bca032d627ecac85a6c239f7042af67cc5077b2ec003e295fb923e0cb", func := "loop.example/g00841/laws.FnExactGonalDivisor", spec := "fnExactGonalDivisor", unfollowed := true, recurses := true, apart := false }
def FnExactGonalDivisorSaid : Prop := fnExactGonalDivisorRow.holds Try.pinned (OpenSpec.ofChange fnExactGonalDivisorSpec)

/-- ITS FALSE NEIGHBOUR: 'it returns false'. Refute it at one input. -/
def fnExactGonalDivisorWrong : ChangeSpec := { name := "fnExactGonalDivisor", fn := fun _ => fun
  | [d] => { results := [.lit (.bool false)], args := [d] }
  | _ => none }
def FnExactGonalDivisorWrongFalsely : Prop := fnExactGonalDivisorRow.holds Try.pinned (OpenSpec.ofChange fnExactGonalDivisorWrong)

/- THE SECOND FORM. 'bulk': how many values and letters a reading holds, each counted each time it is reached (what is shared counts as often as it is met; a slice's spare places count too). A statement '..UptoSaid' is the law's where the arguments, and the package variables that the reading takes, are together of bulk at most 1048576: NARROWER than '..Said'. Prove '..Said' where nothing that the law and all that it calls make is longer than what came in: it says more and counts as full. Else prove '..UptoSaid'. A law counts once. -/
mutual
def uptoBulk {H : Type} : DataW H → Nat
  | .lit (.string bytes) => bytes.length + 1
  | .lit _ => 1
  | .nil => 1
  | .ptr d => uptoBulk d + 1
  | .slice elems spare => uptoBulkAll elems + uptoBulkAll spare + 1
  | .agg parts => uptoBulkAll parts + 1
  | .iface _ d => uptoBulk d + 1
  | .map entries => uptoBulkEntries entries + 1
  | .held _ => 1
def uptoBulkAll {H : Type} : List (DataW H) → Nat
  | [] => 0
  | d :: r => uptoBulk d + uptoBulkAll r
def uptoBulkEntries {H : Type} : List (Lit × DataW H) → Nat
  | [] => 0
  | x :: r => uptoBulkEntry x + uptoBulkEntries r
def uptoBulkEntry {H : Type} : Lit × DataW H → Nat
  | (.string bytes, d) => bytes.length + uptoBulk d + 1
  | (_, d) => uptoBulk d + 1
 end
def uptoSmall : (H : Type) → List (DataW H) → Bool := fun _ ds => decide (uptoBulkAll ds ≤ 1048576)
def OpenSpec.upto (s : _root_.Go.ChangeSpec) : _root_.Go.OpenSpec := { _root_.Go.OpenSpec.ofChange s with cond := some uptoSmall }

/-- 'laws.FnExactGonalityOf', WHERE WHAT IT READS IS OF BULK AT MOST 1048576: true; the input reads as it did. -/
def fnExactGonalityOfUptoRow : OpenClaim := { program := "ytdkokleocohepaa", sum := "c080376bca032d627ecac85a6c239f7042af67cc5077b2ec003e295fb923e0cb", func := "loop.example/g00841/laws.FnExactGonalityOf", spec := "fnExactGonalityOf", unfollowed := true, recurses := true, apart := false, narrowed := true }
def FnExactGonalityOfUptoSaid : Prop := fnExactGonalityOfUptoRow.holds Try.pinned (OpenSpec.upto fnExactGonalityOfSpec)

/-- 'laws.FnExactIsHyperelliptic', WHERE WHAT IT READS IS OF BULK AT MOST 1048576: true; the input reads as it did. -/
def fnExactIsHyperellipticUptoRow : OpenClaim := { program := "ytdkokleocohepaa", sum := "c080376bca032d627ecac85a6c239f7042af67cc5077b2ec003e295fb923e0cb", func := "loop.example/g00841/laws.FnExactIsHyperelliptic", spec := "fnExactIsHyperelliptic", unfollowed := true, recurses := true, apart := false, narrowed := true }
def FnExactIsHyperellipticUptoSaid : Prop := fnExactIsHyperellipticUptoRow.holds Try.pinned (OpenSpec.upto fnExactIsHyperellipticSpec)

/-- 'laws.FnExactGonalDivisor', WHERE WHAT IT READS IS OF BULK AT MOST 1048576: true; the input reads as it did. -/
def fnExactGonalDivisorUptoRow : OpenClaim := { program := "ytdkokleocohepaa", sum := "c080376bca032d627ecac85a6c239f7042af67cc5077b2ec003e295fb923e0cb", func := "loop.example/g00841/laws.FnExactGonalDivisor", spec := "fnExactGonalDivisor", unfollowed := true, recurses := true, apart := false, narrowed := true }
def FnExactGonalDivisorUptoSaid : Prop := fnExactGonalDivisorUptoRow.holds Try.pinned (OpenSpec.upto fnExactGonalDivisorSpec)

end Rows
end Go.Proofs.Ytdkokleocohepaa
