/-
  DERIVED. GIVEN WITH THE SEED: THE CARDS: each row of YtkedbhndiokegaaDoorRows.lean that lists a variable, with what it lists TIED to the program's text (the seventh form; the later family's looks); each row that meets fmt, with fmt's text TOLD by the authors' own Lean function (tested against real Go, not proved from fmt's source: count such statements apart). THE CARD IS WHAT COUNTS. Prove the row's statement (the work); the ties are given (YtkedbhndiokegaaDoorTie.lean); close each card by the builder's one call (the guide's Derived/Test/ToyasCard.lean, 'card_holds'). Laid BY PROGRAM, IN A SANDBOX (cutbox-door.mjs). By AI agents, Wed Nov 11 2026. No macro, syntax, notation, axiom, sorry.
-/
import Derived.Test.YtkedbhndiokegaaDoorRows
import GoSem.ClaimSeven
namespace Go.Proofs.YtkedbhndiokegaaDoor
namespace Rows

/-- THE TIED CARD OF 'laws.FnExactFormatGraph'. -/
def fnExactFormatGraphCard : Claim7 := { stood := { row := fnExactFormatGraphRow, standIns := [], harness := (true, "104e489b459beaaf7f45c0b21b368d992550f7655534c924b26353aaa8ed8911"), looks := true }, kinds := [], alts := [], laidByText := true, laidKinds := [.data, .data, .data], laidTests := true, laidLooks := .later }
def FnExactFormatGraphCardSaid : Prop := Claim7.holds Tryd.pinned (.plain (OpenSpec.ofChange fnExactFormatGraphSpec)) fnExactFormatGraphCard

/-- THE TIED CARD OF 'laws.FnExactParseGraph'. -/
def fnExactParseGraphCard : Claim7 := { stood := { row := fnExactParseGraphRow, standIns := [], harness := (true, "104e489b459beaaf7f45c0b21b368d992550f7655534c924b26353aaa8ed8911"), looks := true }, kinds := [], alts := [], laidByText := true, laidKinds := [.data, .data, .data, .sentinel, .sentinel], laidTests := true, laidLooks := .later }
def FnExactParseGraphCardSaid : Prop := Claim7.holds Tryd.pinned (.plain (OpenSpec.ofChange fnExactParseGraphSpec)) fnExactParseGraphCard

/-- THE SECOND FORM's CARD OF 'laws.FnExactFormatGraph'. -/
def fnExactFormatGraphUptoCard : Claim7 := { stood := { row := fnExactFormatGraphUptoRow, standIns := [], harness := (true, "104e489b459beaaf7f45c0b21b368d992550f7655534c924b26353aaa8ed8911"), looks := true }, kinds := [], alts := [], laidByText := true, laidKinds := [.data, .data, .data], laidTests := true, laidLooks := .later }
def FnExactFormatGraphUptoCardSaid : Prop := Claim7.holds Tryd.pinned (.plain (OpenSpec.upto fnExactFormatGraphSpec)) fnExactFormatGraphUptoCard

/-- THE SECOND FORM's CARD OF 'laws.FnExactParseGraph'. -/
def fnExactParseGraphUptoCard : Claim7 := { stood := { row := fnExactParseGraphUptoRow, standIns := [], harness := (true, "104e489b459beaaf7f45c0b21b368d992550f7655534c924b26353aaa8ed8911"), looks := true }, kinds := [], alts := [], laidByText := true, laidKinds := [.data, .data, .data, .sentinel, .sentinel], laidTests := true, laidLooks := .later }
def FnExactParseGraphUptoCardSaid : Prop := Claim7.holds Tryd.pinned (.plain (OpenSpec.upto fnExactParseGraphSpec)) fnExactParseGraphUptoCard
end Rows
end Go.Proofs.YtkedbhndiokegaaDoor
