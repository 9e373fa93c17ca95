/-
  DERIVED. GIVEN WITH THE SEED: THE CARDS: each row of YtfpccehboifkbaaDoorRows.lean that lists a variable, with what it lists TIED to the program's text (the seventh form; the later family's looks); each row that meets fmt, with fmt's text TOLD by the authors' own Lean function (tested against real Go, not proved from fmt's source: count such statements apart). THE CARD IS WHAT COUNTS. Prove the row's statement (the work); the ties are given (YtfpccehboifkbaaDoorTie.lean); close each card by the builder's one call (the guide's Derived/Test/ToyasCard.lean, 'card_holds'). Laid BY PROGRAM, IN A SANDBOX (cutbox-door.mjs). By AI agents, Wed Nov 11 2026. No macro, syntax, notation, axiom, sorry.
-/
import Derived.Test.YtfpccehboifkbaaDoorRows
import GoSem.ClaimSeven
namespace Go.Proofs.YtfpccehboifkbaaDoor
namespace Rows

/-- THE TIED CARD OF 'laws.FnGaps'. -/
def fnGapsCard : Claim7 := { stood := { row := fnGapsRow, standIns := [], harness := (true, "548c20769c3ff50f1cfda8ff6dd32ef2902e0f03e8281a6501edcefd98538f1b"), looks := false }, kinds := [], alts := [], laidByText := true, laidKinds := [.data, .data, .data], laidTests := true, laidLooks := .later }
def FnGapsCardSaid : Prop := Claim7.holds Tryd.pinned (.plain (OpenSpec.ofChange fnGapsSpec)) fnGapsCard

/-- THE TIED CARD OF 'laws.FnGonal'. -/
def fnGonalCard : Claim7 := { stood := { row := fnGonalRow, standIns := [], harness := (true, "548c20769c3ff50f1cfda8ff6dd32ef2902e0f03e8281a6501edcefd98538f1b"), looks := false }, kinds := [], alts := [], laidByText := true, laidKinds := [.data, .data, .data], laidTests := true, laidLooks := .later }
def FnGonalCardSaid : Prop := Claim7.holds Tryd.pinned (.plain (OpenSpec.ofChange fnGonalSpec)) fnGonalCard

/-- THE SECOND FORM's CARD OF 'laws.FnGaps'. -/
def fnGapsUptoCard : Claim7 := { stood := { row := fnGapsUptoRow, standIns := [], harness := (true, "548c20769c3ff50f1cfda8ff6dd32ef2902e0f03e8281a6501edcefd98538f1b"), looks := false }, kinds := [], alts := [], laidByText := true, laidKinds := [.data, .data, .data], laidTests := true, laidLooks := .later }
def FnGapsUptoCardSaid : Prop := Claim7.holds Tryd.pinned (.plain (OpenSpec.upto fnGapsSpec)) fnGapsUptoCard

/-- THE SECOND FORM's CARD OF 'laws.FnGonal'. -/
def fnGonalUptoCard : Claim7 := { stood := { row := fnGonalUptoRow, standIns := [], harness := (true, "548c20769c3ff50f1cfda8ff6dd32ef2902e0f03e8281a6501edcefd98538f1b"), looks := false }, kinds := [], alts := [], laidByText := true, laidKinds := [.data, .data, .data], laidTests := true, laidLooks := .later }
def FnGonalUptoCardSaid : Prop := Claim7.holds Tryd.pinned (.plain (OpenSpec.upto fnGonalSpec)) fnGonalUptoCard
end Rows
end Go.Proofs.YtfpccehboifkbaaDoor
