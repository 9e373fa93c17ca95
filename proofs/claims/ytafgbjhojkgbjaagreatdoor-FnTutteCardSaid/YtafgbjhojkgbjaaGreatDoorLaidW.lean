/-
  What the rows tell of the tables at the call's begin, for the evaluator; a world that meets it.
-/
import Derived.Test.YtafgbjhojkgbjaaGreatDoorRows
import Derived.Test.YtafgbjhojkgbjaaGreatDoorLbOk
import Derived.Lib.LaidTab
import Derived.LaidHandle
import Derived.LaidLaws
import Derived.Stop.LaidErr
namespace Go.Proofs.YtafgbjhojkgbjaaGreatDoor
open Go Go.Den Go.RowKit
set_option linter.unusedVariables false
set_option maxRecDepth 100000
theorem tabName : Tryz.prog.globalNamed "internal/strconv.uint64pow10" = some 0 := by kernel_rfl
theorem tabType : (Tryz.prog.globals[0]?).map (·.type) = some 138 := by kernel_rfl
theorem tab_keep (w w' : World) (hb : w'.heap[0]? = w.heap[0]?) (h : Lib.TabIs Tryz.prog w "internal/strconv.uint64pow10" .u64 Lib.pow10Tab) : Lib.TabIs Tryz.prog w' "internal/strconv.uint64pow10" .u64 Lib.pow10Tab := by
  unfold Lib.TabIs World.var? at h ⊢
  rw [tabName] at h ⊢
  simp only [Option.bind_some] at h ⊢
  rw [hb]
  exact h
theorem tab_lt (w : World) (h : Lib.TabIs Tryz.prog w "internal/strconv.uint64pow10" .u64 Lib.pow10Tab) : 0 < w.heap.size := by
  unfold Lib.TabIs World.var? at h
  rw [tabName] at h
  simp only [Option.bind_some] at h
  rcases Nat.lt_or_ge 0 w.heap.size with h1 | h1
  · exact h1
  · rw [Array.getElem?_eq_none h1] at h; cases h
def tau : Go.Den.Told := ⟨False, fun b => b = 0, fun w => Lib.TabIs Tryz.prog w "internal/strconv.uint64pow10" .u64 Lib.pow10Tab, fun w w' hb h => tab_keep w w' (hb 0 rfl) h⟩
theorem tab_known {w : World} (k : tau.K w) : Lib.TabIs Tryz.prog w "internal/strconv.uint64pow10" .u64 Lib.pow10Tab := k
def tables : List (String × DataW Unit) := [("math/bits.deBruijn32tab", Rows.laid_math_bits_deBruijn32tab), ("math/bits.deBruijn64tab", Rows.laid_math_bits_deBruijn64tab), ("internal/strconv.uint64pow10", Rows.laid_internal_strconv_uint64pow10)]
theorem tab_of_laid {W : World} {r : List (String × DataW Unit)} (h : laidMet Tryz.prog (tables ++ r) W) : Lib.TabIs Tryz.prog W "internal/strconv.uint64pow10" .u64 Lib.pow10Tab := by
  have h2 := laidMet.tail (laidMet.tail h)
  exact Lib.tabIs_of_head tabName tabType Tryz.underlying138 Tryz.underlying110 (by kernel_rfl) (by kernel_rfl) (show laidMet Tryz.prog (("internal/strconv.uint64pow10", Lib.tabData .u64 Lib.pow10Tab) :: r) W from h2)
theorem told_of_laid {W : World} {r : List (String × DataW Unit)} (h : laidMet Tryz.prog (tables ++ r) W) : TOk tau (fun b => W.heap.size ≤ b) W :=
  ⟨tab_of_laid h, fun b hb => by
    cases hb
    have := tab_lt W (tab_of_laid h)
    exact ⟨this, fun c => by omega⟩⟩
theorem laidH {W : World} {l : List (String × DataW Unit)} (h0 : (l.all fun x => x.2.handleName?.isNone) = true) (h : laidMetH Tryz.prog l W) : laidMet Tryz.prog l W := by
  have e : (l.filter fun x => x.2.handleName?.isSome) = [] := by
    rw [List.filter_eq_nil_iff]
    intro x hx hs
    have := List.all_eq_true.1 h0 x hx
    cases hn : x.2.handleName? with
    | none => rw [hn] at hs; cases hs
    | some s => rw [hn] at this; cases this
  unfold laidMetH at h
  rw [e] at h
  exact h
theorem told_of_laid3 {W : World} (h : laidMetH Tryz.prog tables W) : TOk tau (fun b => W.heap.size ≤ b) W := told_of_laid (r := []) (laidH (by kernel_rfl) h)
/-- the settled world, the tables as their initialisers lay them -/
noncomputable def laidWorld (os : Os) : World :=
  let w0 := World.holding Tryz.prog os ⟨#[], #[], []⟩
  { w0 with heap := ((w0.heap.modify 2 fun
      | .cells _ t frozen => .cells (match (Rows.laid_math_bits_deBruijn32tab : DataW Unit) with | .agg l => (l.map fun | .lit (.int k z) => Value.int k z | _ => undef).toArray | _ => #[]) t frozen
      | o => o).modify 3 fun
      | .cells _ t frozen => .cells (match (Rows.laid_math_bits_deBruijn64tab : DataW Unit) with | .agg l => (l.map fun | .lit (.int k z) => Value.int k z | _ => undef).toArray | _ => #[]) t frozen
      | o => o).modify 0 fun
      | .cells _ t frozen => .cells (Lib.pow10Tab.map fun z => Value.int .u64 z).toArray t frozen
      | o => o }
theorem laid_met3 (os : Os) (args : Array Value) : laidMetH Tryz.prog tables ((laidWorld os).forCall (fun _ _ => 0) ⟨#[], args, []⟩).memory :=
  laidMetH_of_parts (laidMet_of_run' 8 (by kernel_rfl) (by kernel_rfl)) (by kernel_rfl)
end Go.Proofs.YtafgbjhojkgbjaaGreatDoor
