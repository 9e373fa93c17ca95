/-
  DERIVED. GIVEN WITH THE SEED: THE CARDS: each row of YtaapeofhcopajaaDoorRows.lean that lists a variable, with what it lists TIED to the program's text (the seventh form; the later family's looks); each row that meets fmt, with fmt's text TOLD by the authors' own Lean function (tested against real Go, not proved from fmt's source: count such statements apart). THE CARD IS WHAT COUNTS. Prove the row's statement (the work); the ties are given (YtaapeofhcopajaaDoorTie.lean); close each card by the builder's one call (the guide's Derived/Test/ToyasCard.lean, 'card_holds'). Laid BY PROGRAM, IN A SANDBOX (cutbox-door.mjs). By AI agents, Wed Nov 11 2026. No macro, syntax, notation, axiom, sorry.
-/
import Derived.Test.YtaapeofhcopajaaDoorRows
import GoSem.ClaimSeven
namespace Go.Proofs.YtaapeofhcopajaaDoor
namespace Rows

/-- THE TIED CARD OF 'laws.FnExactFormatDivisor'. -/
def fnExactFormatDivisorCard : Claim7 := { stood := { row := fnExactFormatDivisorRow, standIns := [], harness := (true, "3a8dfcc70ff91cbd1bb8e94ae599033bd01e3cb7379a5ac5bafdc3b9f31778e0"), looks := true }, kinds := [], alts := [], laidByText := true, laidKinds := [.data, .data, .data], laidTests := true, laidLooks := .later }
def FnExactFormatDivisorCardSaid : Prop := Claim7.holds Tryd.pinned (.plain (OpenSpec.ofChange fnExactFormatDivisorSpec)) fnExactFormatDivisorCard

/-- THE TIED CARD OF 'laws.FnExactFormatMorphism'. -/
def fnExactFormatMorphismCard : Claim7 := { stood := { row := fnExactFormatMorphismRow, standIns := [], harness := (true, "3a8dfcc70ff91cbd1bb8e94ae599033bd01e3cb7379a5ac5bafdc3b9f31778e0"), looks := true }, kinds := [], alts := [], laidByText := true, laidKinds := [.data, .data, .data], laidTests := true, laidLooks := .later }
def FnExactFormatMorphismCardSaid : Prop := Claim7.holds Tryd.pinned (.plain (OpenSpec.ofChange fnExactFormatMorphismSpec)) fnExactFormatMorphismCard

/-- THE TIED CARD OF 'laws.FnExactFormatPolynomial'. -/
def fnExactFormatPolynomialCard : Claim7 := { stood := { row := fnExactFormatPolynomialRow, standIns := [], harness := (true, "3a8dfcc70ff91cbd1bb8e94ae599033bd01e3cb7379a5ac5bafdc3b9f31778e0"), looks := true }, kinds := [], alts := [], laidByText := true, laidKinds := [.data, .data, .data], laidTests := true, laidLooks := .later }
def FnExactFormatPolynomialCardSaid : Prop := Claim7.holds Tryd.pinned (.plain (OpenSpec.ofChange fnExactFormatPolynomialSpec)) fnExactFormatPolynomialCard

/-- THE TIED CARD OF 'laws.FnExactListLines'. -/
def fnExactListLinesCard : Claim7 := { stood := { row := fnExactListLinesRow, standIns := [], harness := (true, "3a8dfcc70ff91cbd1bb8e94ae599033bd01e3cb7379a5ac5bafdc3b9f31778e0"), looks := true }, kinds := [], alts := [], laidByText := true, laidKinds := [.data, .data, .data], laidTests := true, laidLooks := .later }
def FnExactListLinesCardSaid : Prop := Claim7.holds Tryd.pinned (.plain (OpenSpec.ofChange fnExactListLinesSpec)) fnExactListLinesCard

/-- THE TIED CARD OF 'laws.FnExactParseDivisor'. -/
def fnExactParseDivisorCard : Claim7 := { stood := { row := fnExactParseDivisorRow, standIns := [], harness := (true, "3a8dfcc70ff91cbd1bb8e94ae599033bd01e3cb7379a5ac5bafdc3b9f31778e0"), looks := true }, kinds := [], alts := [], laidByText := true, laidKinds := [.data, .data, .data, .sentinel, .sentinel], laidTests := true, laidLooks := .later }
def FnExactParseDivisorCardSaid : Prop := Claim7.holds Tryd.pinned (.plain (OpenSpec.ofChange fnExactParseDivisorSpec)) fnExactParseDivisorCard

/-- THE TIED CARD OF 'laws.FnExactParseMorphism'. -/
def fnExactParseMorphismCard : Claim7 := { stood := { row := fnExactParseMorphismRow, standIns := [], harness := (true, "3a8dfcc70ff91cbd1bb8e94ae599033bd01e3cb7379a5ac5bafdc3b9f31778e0"), looks := true }, kinds := [], alts := [], laidByText := true, laidKinds := [.data, .data, .data, .sentinel, .sentinel], laidTests := true, laidLooks := .later }
def FnExactParseMorphismCardSaid : Prop := Claim7.holds Tryd.pinned (.plain (OpenSpec.ofChange fnExactParseMorphismSpec)) fnExactParseMorphismCard

/-- THE SECOND FORM's CARD OF 'laws.FnExactFormatDivisor'. -/
def fnExactFormatDivisorUptoCard : Claim7 := { stood := { row := fnExactFormatDivisorUptoRow, standIns := [], harness := (true, "3a8dfcc70ff91cbd1bb8e94ae599033bd01e3cb7379a5ac5bafdc3b9f31778e0"), looks := true }, kinds := [], alts := [], laidByText := true, laidKinds := [.data, .data, .data], laidTests := true, laidLooks := .later }
def FnExactFormatDivisorUptoCardSaid : Prop := Claim7.holds Tryd.pinned (.plain (OpenSpec.upto fnExactFormatDivisorSpec)) fnExactFormatDivisorUptoCard

/-- THE SECOND FORM's CARD OF 'laws.FnExactFormatMorphism'. -/
def fnExactFormatMorphismUptoCard : Claim7 := { stood := { row := fnExactFormatMorphismUptoRow, standIns := [], harness := (true, "3a8dfcc70ff91cbd1bb8e94ae599033bd01e3cb7379a5ac5bafdc3b9f31778e0"), looks := true }, kinds := [], alts := [], laidByText := true, laidKinds := [.data, .data, .data], laidTests := true, laidLooks := .later }
def FnExactFormatMorphismUptoCardSaid : Prop := Claim7.holds Tryd.pinned (.plain (OpenSpec.upto fnExactFormatMorphismSpec)) fnExactFormatMorphismUptoCard

/-- THE SECOND FORM's CARD OF 'laws.FnExactFormatPolynomial'. -/
def fnExactFormatPolynomialUptoCard : Claim7 := { stood := { row := fnExactFormatPolynomialUptoRow, standIns := [], harness := (true, "3a8dfcc70ff91cbd1bb8e94ae599033bd01e3cb7379a5ac5bafdc3b9f31778e0"), looks := true }, kinds := [], alts := [], laidByText := true, laidKinds := [.data, .data, .data], laidTests := true, laidLooks := .later }
def FnExactFormatPolynomialUptoCardSaid : Prop := Claim7.holds Tryd.pinned (.plain (OpenSpec.upto fnExactFormatPolynomialSpec)) fnExactFormatPolynomialUptoCard

/-- THE SECOND FORM's CARD OF 'laws.FnExactListLines'. -/
def fnExactListLinesUptoCard : Claim7 := { stood := { row := fnExactListLinesUptoRow, standIns := [], harness := (true, "3a8dfcc70ff91cbd1bb8e94ae599033bd01e3cb7379a5ac5bafdc3b9f31778e0"), looks := true }, kinds := [], alts := [], laidByText := true, laidKinds := [.data, .data, .data], laidTests := true, laidLooks := .later }
def FnExactListLinesUptoCardSaid : Prop := Claim7.holds Tryd.pinned (.plain (OpenSpec.upto fnExactListLinesSpec)) fnExactListLinesUptoCard

/-- THE SECOND FORM's CARD OF 'laws.FnExactParseDivisor'. -/
def fnExactParseDivisorUptoCard : Claim7 := { stood := { row := fnExactParseDivisorUptoRow, standIns := [], harness := (true, "3a8dfcc70ff91cbd1bb8e94ae599033bd01e3cb7379a5ac5bafdc3b9f31778e0"), looks := true }, kinds := [], alts := [], laidByText := true, laidKinds := [.data, .data, .data, .sentinel, .sentinel], laidTests := true, laidLooks := .later }
def FnExactParseDivisorUptoCardSaid : Prop := Claim7.holds Tryd.pinned (.plain (OpenSpec.upto fnExactParseDivisorSpec)) fnExactParseDivisorUptoCard

/-- THE SECOND FORM's CARD OF 'laws.FnExactParseMorphism'. -/
def fnExactParseMorphismUptoCard : Claim7 := { stood := { row := fnExactParseMorphismUptoRow, standIns := [], harness := (true, "3a8dfcc70ff91cbd1bb8e94ae599033bd01e3cb7379a5ac5bafdc3b9f31778e0"), looks := true }, kinds := [], alts := [], laidByText := true, laidKinds := [.data, .data, .data, .sentinel, .sentinel], laidTests := true, laidLooks := .later }
def FnExactParseMorphismUptoCardSaid : Prop := Claim7.holds Tryd.pinned (.plain (OpenSpec.upto fnExactParseMorphismSpec)) fnExactParseMorphismUptoCard
end Rows
end Go.Proofs.YtaapeofhcopajaaDoor
