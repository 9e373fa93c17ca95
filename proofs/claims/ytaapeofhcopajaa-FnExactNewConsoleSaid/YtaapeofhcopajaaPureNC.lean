/-
  A new console: both give the same one.
-/
import Derived.Test.YtaapeofhcopajaaEqs
namespace Go.Proofs.Ytaapeofhcopajaa.D
open Go Go.Den
theorem nc1 : laws_eqEdgeS [] [] = some true := by
  rw [laws_eqEdgeS_eq]
  show laws_eqEdgeS_l0 [] [] 0 = _
  rw [laws_eqEdgeS_l0_eq]; rfl
theorem nc2 : laws_eqIntS [0] [0] = some true := by
  rw [laws_eqIntS_eq]
  show laws_eqIntS_l0 [0] [0] 0 = _
  rw [laws_eqIntS_l0_eq]
  show laws_eqIntS_l0 [0] [0] (w64 (0 + 1)) = _
  rw [laws_eqIntS_l0_eq]; rfl
theorem nc3 : laws_markEdgeS [] 1 = some (1, []) := by
  rw [laws_markEdgeS_eq, laws_markEdgeS_l0_eq]; rfl
theorem nc4 : laws_markIntS [0] 1 = some (2, [1]) := by
  rw [laws_markIntS_eq, laws_markIntS_l0_eq]
  show laws_markIntS_l0 [1] (w64 (1 + 1)) (w64 (0 + 1)) = _
  rw [laws_markIntS_l0_eq]; rfl
theorem nc5 : laws_heldEdgeS [] 1 = some 1 := by
  rw [laws_heldEdgeS_eq, laws_heldEdgeS_l0_eq]; rfl
theorem nc6 : laws_heldIntS [1] 1 = some 2 := by
  rw [laws_heldIntS_eq, laws_heldIntS_l0_eq]
  show laws_heldIntS_l0 [1] (w64 (1 + 1)) (w64 (0 + 1)) = _
  rw [laws_heldIntS_l0_eq]; rfl
theorem nc7 : laws_eqConsole ((1, []), [0], 0) ((1, []), [0], 0) = some true := by
  rw [laws_eqConsole_eq, laws_eqGraph_eq]
  simp only
  rw [nc1, nc2]; rfl
theorem nc8 : laws_markConsole ((1, []), [0], 0) 1 = some (2, (1, []), [1], 0) := by
  rw [laws_markConsole_eq, laws_markGraph_eq]
  simp only
  rw [nc3]
  simp only [Option.bind_some]
  rw [nc4]; rfl
theorem nc9 : laws_heldConsole ((1, []), [1], 0) 1 = some 2 := by
  rw [laws_heldConsole_eq, laws_heldGraph_eq]
  simp only
  rw [nc5]
  simp only [Option.bind_some]
  show (laws_heldIntS [1] 1).bind _ = _
  rw [nc6]; rfl
theorem law_NewConsole : laws_FnExactNewConsole = some true := by
  rw [laws_FnExactNewConsole_eq, spec_NewConsole_eq, impl_NewConsole_eq]
  simp only [Option.bind_some]
  rw [nc7, nc8]
  simp only [Option.bind_some]
  rw [nc9]
  rfl
end Go.Proofs.Ytaapeofhcopajaa.D
