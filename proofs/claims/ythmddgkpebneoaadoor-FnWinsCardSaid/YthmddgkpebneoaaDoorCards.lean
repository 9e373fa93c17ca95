/-
  DERIVED. GIVEN WITH THE SEED: THE CARDS: each row of YthmddgkpebneoaaDoorRows.lean that lists a variable, with what it lists TIED to the program's text (the seventh form; the later family's looks); each row that meets fmt, with fmt's text TOLD by the authors' own Lean function (tested against real Go, not proved from fmt's source: count such statements apart). THE CARD IS WHAT COUNTS. Prove the row's statement (the work); the ties are given (YthmddgkpebneoaaDoorTie.lean); close each card by the builder's one call (the guide's Derived/Test/ToyasCard.lean, 'card_holds'). Laid BY PROGRAM, IN A SANDBOX (cutbox-door.mjs). By AI agents, Wed Nov 11 2026. No macro, syntax, notation, axiom, sorry.
-/
import Derived.Test.YthmddgkpebneoaaDoorRows
import GoSem.ClaimSeven
namespace Go.Proofs.YthmddgkpebneoaaDoor
namespace Rows

/-- THE TIED CARD OF 'laws.FnExactPileLine'. -/
def fnExactPileLineCard : Claim7 := { stood := { row := fnExactPileLineRow, standIns := [], harness := (true, "ccbad537f098a3f8aaff0b57d3299adcee0c9acc72cca3bb94a289647082773a"), looks := false }, kinds := [], alts := [], laidByText := true, laidKinds := [.data, .data, .data], laidTests := true, laidLooks := .later }
def FnExactPileLineCardSaid : Prop := Claim7.holds Tryd.pinned (.plain (OpenSpec.ofChange fnExactPileLineSpec)) fnExactPileLineCard

/-- THE TIED CARD OF 'laws.FnExactWinLine'. -/
def fnExactWinLineCard : Claim7 := { stood := { row := fnExactWinLineRow, standIns := [], harness := (true, "ccbad537f098a3f8aaff0b57d3299adcee0c9acc72cca3bb94a289647082773a"), looks := false }, kinds := [], alts := [], laidByText := true, laidKinds := [.data, .data, .data], laidTests := true, laidLooks := .later }
def FnExactWinLineCardSaid : Prop := Claim7.holds Tryd.pinned (.plain (OpenSpec.ofChange fnExactWinLineSpec)) fnExactWinLineCard

/-- THE TIED CARD OF 'laws.FnExactGraphLine'. -/
def fnExactGraphLineCard : Claim7 := { stood := { row := fnExactGraphLineRow, standIns := [], harness := (true, "ccbad537f098a3f8aaff0b57d3299adcee0c9acc72cca3bb94a289647082773a"), looks := false }, kinds := [], alts := [], laidByText := true, laidKinds := [.data, .data, .data], laidTests := true, laidLooks := .later }
def FnExactGraphLineCardSaid : Prop := Claim7.holds Tryd.pinned (.plain (OpenSpec.ofChange fnExactGraphLineSpec)) fnExactGraphLineCard

/-- THE TIED CARD OF 'laws.FnWins'. -/
def fnWinsCard : Claim7 := { stood := { row := fnWinsRow, standIns := [], harness := (true, "ccbad537f098a3f8aaff0b57d3299adcee0c9acc72cca3bb94a289647082773a"), looks := false }, kinds := [], alts := [], laidByText := true, laidKinds := [.data, .data, .data], laidTests := true, laidLooks := .later }
def FnWinsCardSaid : Prop := Claim7.holds Tryd.pinned (.plain (OpenSpec.ofChange fnWinsSpec)) fnWinsCard

/-- THE SECOND FORM's CARD OF 'laws.FnExactPileLine'. -/
def fnExactPileLineUptoCard : Claim7 := { stood := { row := fnExactPileLineUptoRow, standIns := [], harness := (true, "ccbad537f098a3f8aaff0b57d3299adcee0c9acc72cca3bb94a289647082773a"), looks := false }, kinds := [], alts := [], laidByText := true, laidKinds := [.data, .data, .data], laidTests := true, laidLooks := .later }
def FnExactPileLineUptoCardSaid : Prop := Claim7.holds Tryd.pinned (.plain (OpenSpec.upto fnExactPileLineSpec)) fnExactPileLineUptoCard

/-- THE SECOND FORM's CARD OF 'laws.FnExactWinLine'. -/
def fnExactWinLineUptoCard : Claim7 := { stood := { row := fnExactWinLineUptoRow, standIns := [], harness := (true, "ccbad537f098a3f8aaff0b57d3299adcee0c9acc72cca3bb94a289647082773a"), looks := false }, kinds := [], alts := [], laidByText := true, laidKinds := [.data, .data, .data], laidTests := true, laidLooks := .later }
def FnExactWinLineUptoCardSaid : Prop := Claim7.holds Tryd.pinned (.plain (OpenSpec.upto fnExactWinLineSpec)) fnExactWinLineUptoCard

/-- THE SECOND FORM's CARD OF 'laws.FnExactGraphLine'. -/
def fnExactGraphLineUptoCard : Claim7 := { stood := { row := fnExactGraphLineUptoRow, standIns := [], harness := (true, "ccbad537f098a3f8aaff0b57d3299adcee0c9acc72cca3bb94a289647082773a"), looks := false }, kinds := [], alts := [], laidByText := true, laidKinds := [.data, .data, .data], laidTests := true, laidLooks := .later }
def FnExactGraphLineUptoCardSaid : Prop := Claim7.holds Tryd.pinned (.plain (OpenSpec.upto fnExactGraphLineSpec)) fnExactGraphLineUptoCard

/-- THE SECOND FORM's CARD OF 'laws.FnWins'. -/
def fnWinsUptoCard : Claim7 := { stood := { row := fnWinsUptoRow, standIns := [], harness := (true, "ccbad537f098a3f8aaff0b57d3299adcee0c9acc72cca3bb94a289647082773a"), looks := false }, kinds := [], alts := [], laidByText := true, laidKinds := [.data, .data, .data], laidTests := true, laidLooks := .later }
def FnWinsUptoCardSaid : Prop := Claim7.holds Tryd.pinned (.plain (OpenSpec.upto fnWinsSpec)) fnWinsUptoCard
end Rows
end Go.Proofs.YthmddgkpebneoaaDoor
