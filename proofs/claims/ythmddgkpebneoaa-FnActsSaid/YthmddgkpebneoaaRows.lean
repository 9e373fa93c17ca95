/-
  No cell of these rows narrows 'for every input' (looked for: loops, veiled, ifaces, maps, wideKeys, modest, calm, conditions, laid).
  DERIVED. THE GIVEN ROWS OF THIS SEAT. 4 by the template 'for every input the law returns true; each argument reads behind the call as it read before'; 0 by the template 'total and deterministic' (their statements: YthmddgkpebneoaaTotals.lean).
  GIVEN WITH THE SEED: the statements are not yours to turn. If you find one false, say at which input.
  Laid BY PROGRAM, IN A SANDBOX (cutbox-rows.mjs): the forced cells as the released guide's own fill.sh prints them over the translation 9bd0c704e6d564a3… (all of the seat's roots in one cut). By AI agents, Wed Nov 11 2026. No macro, syntax, notation, axiom, sorry.
-/
import Derived.Test.YthmddgkpebneoaaChecked
import GoSem.Claim
import GoSem.ClaimJoined
import GoSem.ClaimMapViews
import Derived.JoinedTies
import Derived.KernelRfl
namespace Go.Proofs.Ythmddgkpebneoaa
/- THE CELL 'sum', in the pinned program and in every row, IS THE sha256 OF THE DUMP (.gsa) THAT YthmddgkpebneoaaProg.lean LOADS. Nothing in Lean hashes anything: it is a label: what it is worth is what the hold of that sum in a sandbox is worth. -/
noncomputable def Try.pinned : Pinned := { name := "ythmddgkpebneoaa", sum := "9bd0c704e6d564a3b1befe90cd1dd838a79289287ba85687685ea9788ed78014", checked := Try.checked }
namespace Rows
def none {H : Type} : Left H := { results := [], args := [] }

/-- 'laws.FnExactTreeOfState': WHATEVER THE INPUT: true; the input reads as it did. -/
def fnExactTreeOfStateSpec : ChangeSpec := { name := "fnExactTreeOfState", fn := fun _ => fun
  | [d1, d2, d3] => { results := [.lit (.bool true)], args := [d1, d2, d3] }
  | _ => none }
def fnExactTreeOfStateRow : OpenClaim := { program := "ythmddgkpebneoaa", sum := "9bd0c704e6d564a3b1befe90cd1dd838a79289287ba85687685ea9788ed78014", func := "loop.example/g00841/laws.FnExactTreeOfState", spec := "fnExactTreeOfState", unfollowed := true, recurses := true, apart := false }
def FnExactTreeOfStateSaid : Prop := fnExactTreeOfStateRow.holds Try.pinned (OpenSpec.ofChange fnExactTreeOfStateSpec)

/-- ITS FALSE NEIGHBOUR: 'it returns false'. Refute it at one input. -/
def fnExactTreeOfStateWrong : ChangeSpec := { name := "fnExactTreeOfState", fn := fun _ => fun
  | [d1, d2, d3] => { results := [.lit (.bool false)], args := [d1, d2, d3] }
  | _ => none }
def FnExactTreeOfStateWrongFalsely : Prop := fnExactTreeOfStateRow.holds Try.pinned (OpenSpec.ofChange fnExactTreeOfStateWrong)

/-- 'laws.FnExactActOnTree': WHATEVER THE INPUT: true; the input reads as it did. -/
def fnExactActOnTreeSpec : ChangeSpec := { name := "fnExactActOnTree", fn := fun _ => fun
  | [d1, d2, d3, d4] => { results := [.lit (.bool true)], args := [d1, d2, d3, d4] }
  | _ => none }
def fnExactActOnTreeRow : OpenClaim := { program := "ythmddgkpebneoaa", sum := "9bd0c704e6d564a3b1befe90cd1dd838a79289287ba85687685ea9788ed78014", func := "loop.example/g00841/laws.FnExactActOnTree", spec := "fnExactActOnTree", unfollowed := true, recurses := true, apart := false }
def FnExactActOnTreeSaid : Prop := fnExactActOnTreeRow.holds Try.pinned (OpenSpec.ofChange fnExactActOnTreeSpec)

/-- ITS FALSE NEIGHBOUR: 'it returns false'. Refute it at one input. -/
def fnExactActOnTreeWrong : ChangeSpec := { name := "fnExactActOnTree", fn := fun _ => fun
  | [d1, d2, d3, d4] => { results := [.lit (.bool false)], args := [d1, d2, d3, d4] }
  | _ => none }
def FnExactActOnTreeWrongFalsely : Prop := fnExactActOnTreeRow.holds Try.pinned (OpenSpec.ofChange fnExactActOnTreeWrong)

/-- 'laws.FnRotors': WHATEVER THE INPUT: true; the input reads as it did. -/
def fnRotorsSpec : ChangeSpec := { name := "fnRotors", fn := fun _ => fun
  | [d] => { results := [.lit (.bool true)], args := [d] }
  | _ => none }
def fnRotorsRow : OpenClaim := { program := "ythmddgkpebneoaa", sum := "9bd0c704e6d564a3b1befe90cd1dd838a79289287ba85687685ea9788ed78014", func := "loop.example/g00841/laws.FnRotors", spec := "fnRotors", unfollowed := true, recurses := true, apart := false }
def FnRotorsSaid : Prop := fnRotorsRow.holds Try.pinned (OpenSpec.ofChange fnRotorsSpec)

/-- ITS FALSE NEIGHBOUR: 'it returns false'. Refute it at one input. -/
def fnRotorsWrong : ChangeSpec := { name := "fnRotors", fn := fun _ => fun
  | [d] => { results := [.lit (.bool false)], args := [d] }
  | _ => none }
def FnRotorsWrongFalsely : Prop := fnRotorsRow.holds Try.pinned (OpenSpec.ofChange fnRotorsWrong)

/-- 'laws.FnActs': WHATEVER THE INPUT: true; the input reads as it did. -/
def fnActsSpec : ChangeSpec := { name := "fnActs", fn := fun _ => fun
  | [d] => { results := [.lit (.bool true)], args := [d] }
  | _ => none }
def fnActsRow : OpenClaim := { program := "ythmddgkpebneoaa", sum := "9bd0c704e6d564a3b1befe90cd1dd838a79289287ba85687685ea9788ed78014", func := "loop.example/g00841/laws.FnActs", spec := "fnActs", unfollowed := true, recurses := true, apart := false }
def FnActsSaid : Prop := fnActsRow.holds Try.pinned (OpenSpec.ofChange fnActsSpec)

/-- ITS FALSE NEIGHBOUR: 'it returns false'. Refute it at one input. -/
def fnActsWrong : ChangeSpec := { name := "fnActs", fn := fun _ => fun
  | [d] => { results := [.lit (.bool false)], args := [d] }
  | _ => none }
def FnActsWrongFalsely : Prop := fnActsRow.holds Try.pinned (OpenSpec.ofChange fnActsWrong)

/- THE SECOND FORM. 'bulk': how many values and letters a reading holds, each counted each time it is reached (what is shared counts as often as it is met; a slice's spare places count too). A statement '..UptoSaid' is the law's where the arguments, and the package variables that the reading takes, are together of bulk at most 1048576: NARROWER than '..Said'. Prove '..Said' where nothing that the law and all that it calls make is longer than what came in: it says more and counts as full. Else prove '..UptoSaid'. A law counts once. -/
mutual
def uptoBulk {H : Type} : DataW H → Nat
  | .lit (.string bytes) => bytes.length + 1
  | .lit _ => 1
  | .nil => 1
  | .ptr d => uptoBulk d + 1
  | .slice elems spare => uptoBulkAll elems + uptoBulkAll spare + 1
  | .agg parts => uptoBulkAll parts + 1
  | .iface _ d => uptoBulk d + 1
  | .map entries => uptoBulkEntries entries + 1
  | .held _ => 1
def uptoBulkAll {H : Type} : List (DataW H) → Nat
  | [] => 0
  | d :: r => uptoBulk d + uptoBulkAll r
def uptoBulkEntries {H : Type} : List (Lit × DataW H) → Nat
  | [] => 0
  | x :: r => uptoBulkEntry x + uptoBulkEntries r
def uptoBulkEntry {H : Type} : Lit × DataW H → Nat
  | (.string bytes, d) => bytes.length + uptoBulk d + 1
  | (_, d) => uptoBulk d + 1
 end
def uptoSmall : (H : Type) → List (DataW H) → Bool := fun _ ds => decide (uptoBulkAll ds ≤ 1048576)
def OpenSpec.upto (s : _root_.Go.ChangeSpec) : _root_.Go.OpenSpec := { _root_.Go.OpenSpec.ofChange s with cond := some uptoSmall }

/-- 'laws.FnExactTreeOfState', WHERE WHAT IT READS IS OF BULK AT MOST 1048576: true; the input reads as it did. -/
def fnExactTreeOfStateUptoRow : OpenClaim := { program := "ythmddgkpebneoaa", sum := "9bd0c704e6d564a3b1befe90cd1dd838a79289287ba85687685ea9788ed78014", func := "loop.example/g00841/laws.FnExactTreeOfState", spec := "fnExactTreeOfState", unfollowed := true, recurses := true, apart := false, narrowed := true }
def FnExactTreeOfStateUptoSaid : Prop := fnExactTreeOfStateUptoRow.holds Try.pinned (OpenSpec.upto fnExactTreeOfStateSpec)

/-- 'laws.FnExactActOnTree', WHERE WHAT IT READS IS OF BULK AT MOST 1048576: true; the input reads as it did. -/
def fnExactActOnTreeUptoRow : OpenClaim := { program := "ythmddgkpebneoaa", sum := "9bd0c704e6d564a3b1befe90cd1dd838a79289287ba85687685ea9788ed78014", func := "loop.example/g00841/laws.FnExactActOnTree", spec := "fnExactActOnTree", unfollowed := true, recurses := true, apart := false, narrowed := true }
def FnExactActOnTreeUptoSaid : Prop := fnExactActOnTreeUptoRow.holds Try.pinned (OpenSpec.upto fnExactActOnTreeSpec)

/-- 'laws.FnRotors', WHERE WHAT IT READS IS OF BULK AT MOST 1048576: true; the input reads as it did. -/
def fnRotorsUptoRow : OpenClaim := { program := "ythmddgkpebneoaa", sum := "9bd0c704e6d564a3b1befe90cd1dd838a79289287ba85687685ea9788ed78014", func := "loop.example/g00841/laws.FnRotors", spec := "fnRotors", unfollowed := true, recurses := true, apart := false, narrowed := true }
def FnRotorsUptoSaid : Prop := fnRotorsUptoRow.holds Try.pinned (OpenSpec.upto fnRotorsSpec)

/-- 'laws.FnActs', WHERE WHAT IT READS IS OF BULK AT MOST 1048576: true; the input reads as it did. -/
def fnActsUptoRow : OpenClaim := { program := "ythmddgkpebneoaa", sum := "9bd0c704e6d564a3b1befe90cd1dd838a79289287ba85687685ea9788ed78014", func := "loop.example/g00841/laws.FnActs", spec := "fnActs", unfollowed := true, recurses := true, apart := false, narrowed := true }
def FnActsUptoSaid : Prop := fnActsUptoRow.holds Try.pinned (OpenSpec.upto fnActsSpec)

end Rows
end Go.Proofs.Ythmddgkpebneoaa
