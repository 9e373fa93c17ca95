/-
  What the rows tell of the package variables at the call's begin, for the evaluator; worlds that meet it.
-/
import Derived.Test.YthhogfhffpfkdaaGreatDoorRows
import Derived.Test.YthhogfhffpfkdaaGreatDoorLbOk
import Derived.Lib.LaidTab
import Derived.LaidHandle
import Derived.LaidLaws
import Derived.Stop.LaidErr
import Derived.Shelf.Vars
namespace Go.Proofs.YthhogfhffpfkdaaGreatDoor
open Go Go.Den Go.RowKit
set_option linter.unusedVariables false
set_option maxRecDepth 100000
theorem tabName : Tryz.prog.globalNamed "internal/strconv.uint64pow10" = some 0 := by kernel_rfl
theorem tabType : (Tryz.prog.globals[0]?).map (·.type) = some 228 := by kernel_rfl
theorem maxName : Tryz.prog.globalNamed "internal/bytealg.MaxLen" = some 1 := by kernel_rfl
theorem synName : Tryz.prog.globalNamed "strconv.ErrSyntax" = some 2 := by kernel_rfl
theorem synType : (Tryz.prog.globals[2]?).map (·.type) = some 114 := by kernel_rfl
theorem ranName : Tryz.prog.globalNamed "strconv.ErrRange" = some 3 := by kernel_rfl
theorem ranType : (Tryz.prog.globals[3]?).map (·.type) = some 114 := by kernel_rfl
def Known (w : World) : Prop := Lib.TabIs Tryz.prog w "internal/strconv.uint64pow10" .u64 Lib.pow10Tab ∧ (∃ m, w.cell? ⟨1, 0, none⟩ = some (.int .i64 m)) ∧ (∃ t p, w.cell? ⟨2, 0, none⟩ = some (.iface t p)) ∧ ∃ t p, w.cell? ⟨3, 0, none⟩ = some (.iface t p)
theorem cell_keep {w w' : World} {b : Nat} (hb : w'.heap[b]? = w.heap[b]?) : w'.cell? ⟨b, 0, none⟩ = w.cell? ⟨b, 0, none⟩ := by unfold World.cell?; simp only [hb]
theorem tab_keep (w w' : World) (hb : w'.heap[0]? = w.heap[0]?) (h : Lib.TabIs Tryz.prog w "internal/strconv.uint64pow10" .u64 Lib.pow10Tab) : Lib.TabIs Tryz.prog w' "internal/strconv.uint64pow10" .u64 Lib.pow10Tab := by
  unfold Lib.TabIs World.var? at h ⊢
  rw [tabName] at h ⊢
  simp only [Option.bind_some] at h ⊢
  rw [hb]
  exact h
theorem tab_lt (w : World) (h : Lib.TabIs Tryz.prog w "internal/strconv.uint64pow10" .u64 Lib.pow10Tab) : 0 < w.heap.size := by
  unfold Lib.TabIs World.var? at h
  rw [tabName] at h
  simp only [Option.bind_some] at h
  rcases Nat.lt_or_ge 0 w.heap.size with h1 | h1
  · exact h1
  · rw [Array.getElem?_eq_none h1] at h; cases h
theorem cell_lt {w : World} {b : Nat} {v : Value} (h : w.cell? ⟨b, 0, none⟩ = some v) : b < w.heap.size := by
  unfold World.cell? at h
  rcases Nat.lt_or_ge b w.heap.size with h1 | h1
  · exact h1
  · simp only [Array.getElem?_eq_none h1] at h; cases h
theorem known_keep (w w' : World) (hb : ∀ b, b < 4 → w'.heap[b]? = w.heap[b]?) (h : Known w) : Known w' := by
  obtain ⟨h1, h2, h3, h4⟩ := h
  refine ⟨tab_keep w w' (hb 0 (by omega)) h1, ?_, ?_, ?_⟩
  · rw [cell_keep (hb 1 (by omega))]; exact h2
  · rw [cell_keep (hb 2 (by omega))]; exact h3
  · rw [cell_keep (hb 3 (by omega))]; exact h4
def tau : Go.Den.Told := ⟨False, fun b => b < 4, Known, known_keep⟩
theorem tab_known {w : World} (k : tau.K w) : Lib.TabIs Tryz.prog w "internal/strconv.uint64pow10" .u64 Lib.pow10Tab := k.1
def tables : List (String × DataW Unit) := [("math/bits.deBruijn32tab", Rows.laid_math_bits_deBruijn32tab), ("math/bits.deBruijn64tab", Rows.laid_math_bits_deBruijn64tab), ("internal/strconv.uint64pow10", Rows.laid_internal_strconv_uint64pow10), ("strconv.ErrRange", Rows.laid_strconv_ErrRange), ("strconv.ErrSyntax", Rows.laid_strconv_ErrSyntax)]
theorem tab_of_laid {W : World} (h : laidMet Tryz.prog tables W) : Lib.TabIs Tryz.prog W "internal/strconv.uint64pow10" .u64 Lib.pow10Tab := by
  have h2 := laidMet.tail (laidMet.tail h)
  exact Lib.tabIs_of_head tabName tabType Tryz.underlying228 Tryz.underlying189 (by kernel_rfl) (by kernel_rfl) (show laidMet Tryz.prog (("internal/strconv.uint64pow10", Lib.tabData .u64 Lib.pow10Tab) :: [("strconv.ErrRange", Rows.laid_strconv_ErrRange), ("strconv.ErrSyntax", Rows.laid_strconv_ErrSyntax)]) W from h2)
theorem star : "*" ++ "errors.errorString" = "*errors.errorString" := by decide
theorem rowE (u : TypeId) (h : Tryz.prog.typeName? 3 u = some "*errors.errorString") : u = 250 :=
  typeName_ptr_named (nm := "errors.errorString") (by rw [star]; kernel_rfl) (by kernel_rfl) (by decide) u (by rw [star]; exact h)
theorem ran_of_laid {W : World} (h : laidMet Tryz.prog tables W) : ∃ t p, W.cell? ⟨3, 0, none⟩ = some (.iface t p) := by
  obtain ⟨a1, s1, hv1, _⟩ := laid_sentinel (laidMet.tail (laidMet.tail (laidMet.tail h))) ranName ranType Tryz.underlying114 rowE Tryz.underlying250 Tryz.underlying252 rfl rfl Tryz.underlying9 (by kernel_rfl) (by kernel_rfl)
  exact ⟨_, _, by simpa using World.var?_cell ranName hv1 0⟩
theorem syn_of_laid {W : World} (h : laidMet Tryz.prog tables W) : ∃ t p, W.cell? ⟨2, 0, none⟩ = some (.iface t p) := by
  obtain ⟨a1, s1, hv1, _⟩ := laid_sentinel (laidMet.tail (laidMet.tail (laidMet.tail (laidMet.tail h)))) synName synType Tryz.underlying114 rowE Tryz.underlying250 Tryz.underlying252 rfl rfl Tryz.underlying9 (by kernel_rfl) (by kernel_rfl)
  exact ⟨_, _, by simpa using World.var?_cell synName hv1 0⟩
theorem max_of_shaped {W : World} (h : W.ShapedOpen Tryz.prog) : ∃ m, W.cell? ⟨1, 0, none⟩ = some (.int .i64 m) :=
  Go.Proofs.cell_of_shapedOpen_int (zero := #[.int .i64 0]) (t := 3) h (of_decide_eq_true (by kernel_rfl)) (by kernel_rfl) rfl (by kernel_rfl) (by kernel_rfl) Tryz.underlying3
theorem laidH {W : World} {l : List (String × DataW Unit)} (h0 : (l.all fun x => x.2.handleName?.isNone) = true) (h : laidMetH Tryz.prog l W) : laidMet Tryz.prog l W := by
  have e : (l.filter fun x => x.2.handleName?.isSome) = [] := by
    rw [List.filter_eq_nil_iff]
    intro x hx hs
    have := List.all_eq_true.1 h0 x hx
    cases hn : x.2.handleName? with
    | none => rw [hn] at hs; cases hs
    | some s => rw [hn] at this; cases this
  unfold laidMetH at h
  rw [e] at h
  exact h
theorem told_of_laid5 {W : World} (h : laidMetH Tryz.prog tables W) (hs : W.ShapedOpen Tryz.prog) : TOk tau (fun b => W.heap.size ≤ b) W := by
  have h1 := laidH (by kernel_rfl) h
  have ht := tab_of_laid h1
  refine ⟨⟨ht, max_of_shaped hs, syn_of_laid h1, ran_of_laid h1⟩, fun b hb => ?_⟩
  obtain ⟨t, p, hc⟩ := ran_of_laid h1
  obtain ⟨t', p', hc'⟩ := syn_of_laid h1
  have l1 := tab_lt W ht
  have l2 := cell_lt hc
  have l3 := cell_lt hc'
  have hb' : b < 4 := hb
  exact ⟨by omega, fun c => by omega⟩
noncomputable def low : Nat := (World.holding Tryz.prog default ⟨#[], #[], []⟩).heap.size
def errText : DataW Unit → ByteArray
  | .iface _ (.ptr (.agg [.lit (.string l)])) => ⟨l.toArray⟩
  | _ => ⟨#[]⟩
def tabCells : DataW Unit → Array Value
  | .agg l => (l.map fun | .lit (.int k z) => Value.int k z | _ => undef).toArray
  | _ => #[]
/-- the settled world, the variables as their initialisers lay them -/
noncomputable def laidWorld (os : Os) : World :=
  let w0 := World.holding Tryz.prog os ⟨#[.cells #[.string (errText Rows.laid_strconv_ErrSyntax)] 252, .cells #[.string (errText Rows.laid_strconv_ErrRange)] 252], #[], []⟩
  { w0 with heap := ((((w0.heap.modify 4 fun
      | .cells _ t frozen => .cells (tabCells Rows.laid_math_bits_deBruijn32tab) t frozen
      | o => o).modify 5 fun
      | .cells _ t frozen => .cells (tabCells Rows.laid_math_bits_deBruijn64tab) t frozen
      | o => o).modify 0 fun
      | .cells _ t frozen => .cells (Lib.pow10Tab.map fun z => Value.int .u64 z).toArray t frozen
      | o => o).modify 2 fun
      | .cells _ t frozen => .cells #[.iface 250 (.pointer (some ⟨low, 0, none⟩))] t frozen
      | o => o).modify 3 fun
      | .cells _ t frozen => .cells #[.iface 250 (.pointer (some ⟨low + 1, 0, none⟩))] t frozen
      | o => o }
theorem laid_met5 (os : Os) (args : Array Value) : laidMetH Tryz.prog tables ((laidWorld os).forCall (fun _ _ => 0) ⟨#[], args, []⟩).memory :=
  laidMetH_of_parts (laidMet_of_run' 8 (by kernel_rfl) (by kernel_rfl)) (by kernel_rfl)
end Go.Proofs.YthhogfhffpfkdaaGreatDoor
