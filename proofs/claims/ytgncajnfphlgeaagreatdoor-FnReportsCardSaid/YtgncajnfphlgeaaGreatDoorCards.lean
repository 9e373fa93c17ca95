/-
  DERIVED. GIVEN WITH THE SEED: THE CARDS: each row of YtgncajnfphlgeaaGreatDoorRows.lean that lists a variable, with what it lists TIED to the program's text (the seventh form; the later family's looks); each row that meets fmt, with fmt's text TOLD by the authors' own Lean function (tested against real Go, not proved from fmt's source: count such statements apart). THE CARD IS WHAT COUNTS. Prove the row's statement (the work); the ties are given (YtgncajnfphlgeaaGreatDoorTie.lean); close each card by the builder's one call (the guide's Derived/Test/ToyasCard.lean, 'card_holds'). Laid BY PROGRAM, IN A SANDBOX (cutbox-door.mjs). By AI agents, Wed Nov 11 2026. No macro, syntax, notation, axiom, sorry.
-/
import Derived.Test.YtgncajnfphlgeaaGreatDoorRows
import GoSem.ClaimSeven
namespace Go.Proofs.YtgncajnfphlgeaaGreatDoor
namespace Rows

/-- THE TIED CARD OF 'laws.FnTutte'. -/
def fnTutteCard : Claim7 := { stood := { row := fnTutteRow, standIns := [], harness := (true, "e0f5dd366495c8a8923d95f30ffc21d5234ea25dcfe5c2d6167b9be8a1939cf7"), looks := false }, kinds := [], alts := [], laidByText := true, laidKinds := [.data, .data, .data], laidTests := true, laidLooks := .later }
def FnTutteCardSaid : Prop := Claim7.holds Tryz.pinned (.plain (OpenSpec.ofChange fnTutteSpec)) fnTutteCard

/-- THE TIED CARD OF 'laws.FnReports'. -/
def fnReportsCard : Claim7 := { stood := { row := fnReportsRow, standIns := [], harness := (true, "e0f5dd366495c8a8923d95f30ffc21d5234ea25dcfe5c2d6167b9be8a1939cf7"), looks := false }, kinds := [], alts := [], laidByText := true, laidKinds := [.data, .data, .data], laidTests := true, laidLooks := .later }
def FnReportsCardSaid : Prop := Claim7.holds Tryz.pinned (.plain (OpenSpec.ofChange fnReportsSpec)) fnReportsCard

/-- THE SECOND FORM's CARD OF 'laws.FnTutte'. -/
def fnTutteUptoCard : Claim7 := { stood := { row := fnTutteUptoRow, standIns := [], harness := (true, "e0f5dd366495c8a8923d95f30ffc21d5234ea25dcfe5c2d6167b9be8a1939cf7"), looks := false }, kinds := [], alts := [], laidByText := true, laidKinds := [.data, .data, .data], laidTests := true, laidLooks := .later }
def FnTutteUptoCardSaid : Prop := Claim7.holds Tryz.pinned (.plain (OpenSpec.upto fnTutteSpec)) fnTutteUptoCard

/-- THE SECOND FORM's CARD OF 'laws.FnReports'. -/
def fnReportsUptoCard : Claim7 := { stood := { row := fnReportsUptoRow, standIns := [], harness := (true, "e0f5dd366495c8a8923d95f30ffc21d5234ea25dcfe5c2d6167b9be8a1939cf7"), looks := false }, kinds := [], alts := [], laidByText := true, laidKinds := [.data, .data, .data], laidTests := true, laidLooks := .later }
def FnReportsUptoCardSaid : Prop := Claim7.holds Tryz.pinned (.plain (OpenSpec.upto fnReportsSpec)) fnReportsUptoCard
end Rows
end Go.Proofs.YtgncajnfphlgeaaGreatDoor
