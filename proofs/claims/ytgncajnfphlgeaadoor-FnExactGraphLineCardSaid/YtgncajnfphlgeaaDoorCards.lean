/-
  DERIVED. GIVEN WITH THE SEED: THE CARDS: each row of YtgncajnfphlgeaaDoorRows.lean that lists a variable, with what it lists TIED to the program's text (the seventh form; the later family's looks); each row that meets fmt, with fmt's text TOLD by the authors' own Lean function (tested against real Go, not proved from fmt's source: count such statements apart). THE CARD IS WHAT COUNTS. Prove the row's statement (the work); the ties are given (YtgncajnfphlgeaaDoorTie.lean); close each card by the builder's one call (the guide's Derived/Test/ToyasCard.lean, 'card_holds'). Laid BY PROGRAM, IN A SANDBOX (cutbox-door.mjs). By AI agents, Wed Nov 11 2026. No macro, syntax, notation, axiom, sorry.
-/
import Derived.Test.YtgncajnfphlgeaaDoorRows
import GoSem.ClaimSeven
namespace Go.Proofs.YtgncajnfphlgeaaDoor
namespace Rows

/-- THE TIED CARD OF 'laws.FnExactGraphLine'. -/
def fnExactGraphLineCard : Claim7 := { stood := { row := fnExactGraphLineRow, standIns := [], harness := (true, "f936d415c524f1b71839f1900d94913b743fe58bcd21ad3fe3740a73ef8e22d8"), looks := false }, kinds := [], alts := [], laidByText := true, laidKinds := [.data, .data, .data], laidTests := true, laidLooks := .later }
def FnExactGraphLineCardSaid : Prop := Claim7.holds Tryd.pinned (.plain (OpenSpec.ofChange fnExactGraphLineSpec)) fnExactGraphLineCard

/-- THE SECOND FORM's CARD OF 'laws.FnExactGraphLine'. -/
def fnExactGraphLineUptoCard : Claim7 := { stood := { row := fnExactGraphLineUptoRow, standIns := [], harness := (true, "f936d415c524f1b71839f1900d94913b743fe58bcd21ad3fe3740a73ef8e22d8"), looks := false }, kinds := [], alts := [], laidByText := true, laidKinds := [.data, .data, .data], laidTests := true, laidLooks := .later }
def FnExactGraphLineUptoCardSaid : Prop := Claim7.holds Tryd.pinned (.plain (OpenSpec.upto fnExactGraphLineSpec)) fnExactGraphLineUptoCard
end Rows
end Go.Proofs.YtgncajnfphlgeaaDoor
