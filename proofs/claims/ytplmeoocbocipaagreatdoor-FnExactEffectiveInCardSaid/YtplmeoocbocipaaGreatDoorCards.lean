/-
  DERIVED. GIVEN WITH THE SEED: THE CARDS: each row of YtplmeoocbocipaaGreatDoorRows.lean that lists a variable, with what it lists TIED to the program's text (the seventh form; the later family's looks); each row that meets fmt, with fmt's text TOLD by the authors' own Lean function (tested against real Go, not proved from fmt's source: count such statements apart). THE CARD IS WHAT COUNTS. Prove the row's statement (the work); the ties are given (YtplmeoocbocipaaGreatDoorTie.lean); close each card by the builder's one call (the guide's Derived/Test/ToyasCard.lean, 'card_holds'). Laid BY PROGRAM, IN A SANDBOX (cutbox-door.mjs). By AI agents, Wed Nov 11 2026. No macro, syntax, notation, axiom, sorry.
-/
import Derived.Test.YtplmeoocbocipaaGreatDoorRows
import GoSem.ClaimSeven
namespace Go.Proofs.YtplmeoocbocipaaGreatDoor
namespace Rows

/-- THE TIED CARD OF 'laws.FnExactRankWitness'. -/
def fnExactRankWitnessCard : Claim7 := { stood := { row := fnExactRankWitnessRow, standIns := [], harness := (true, "9daddf909d5885e01bab482d32aa23ecd8be9427fdd23660f98de5cf1d637613"), looks := false }, kinds := [], alts := [], laidByText := true, laidKinds := [.data, .data, .data], laidTests := true, laidLooks := .later }
def FnExactRankWitnessCardSaid : Prop := Claim7.holds Tryz.pinned (.plain (OpenSpec.ofChange fnExactRankWitnessSpec)) fnExactRankWitnessCard

/-- THE TIED CARD OF 'laws.FnExactEffectiveIn'. -/
def fnExactEffectiveInCard : Claim7 := { stood := { row := fnExactEffectiveInRow, standIns := [], harness := (true, "9daddf909d5885e01bab482d32aa23ecd8be9427fdd23660f98de5cf1d637613"), looks := false }, kinds := [], alts := [], laidByText := true, laidKinds := [.data, .data, .data], laidTests := true, laidLooks := .later }
def FnExactEffectiveInCardSaid : Prop := Claim7.holds Tryz.pinned (.plain (OpenSpec.ofChange fnExactEffectiveInSpec)) fnExactEffectiveInCard

/-- THE TIED CARD OF 'laws.FnExactAnswerTo'. -/
def fnExactAnswerToCard : Claim7 := { stood := { row := fnExactAnswerToRow, standIns := [], harness := (true, "9daddf909d5885e01bab482d32aa23ecd8be9427fdd23660f98de5cf1d637613"), looks := false }, kinds := [], alts := [], laidByText := true, laidKinds := [.data, .data, .data], laidTests := true, laidLooks := .later }
def FnExactAnswerToCardSaid : Prop := Claim7.holds Tryz.pinned (.plain (OpenSpec.ofChange fnExactAnswerToSpec)) fnExactAnswerToCard

/-- THE SECOND FORM's CARD OF 'laws.FnExactRankWitness'. -/
def fnExactRankWitnessUptoCard : Claim7 := { stood := { row := fnExactRankWitnessUptoRow, standIns := [], harness := (true, "9daddf909d5885e01bab482d32aa23ecd8be9427fdd23660f98de5cf1d637613"), looks := false }, kinds := [], alts := [], laidByText := true, laidKinds := [.data, .data, .data], laidTests := true, laidLooks := .later }
def FnExactRankWitnessUptoCardSaid : Prop := Claim7.holds Tryz.pinned (.plain (OpenSpec.upto fnExactRankWitnessSpec)) fnExactRankWitnessUptoCard

/-- THE SECOND FORM's CARD OF 'laws.FnExactEffectiveIn'. -/
def fnExactEffectiveInUptoCard : Claim7 := { stood := { row := fnExactEffectiveInUptoRow, standIns := [], harness := (true, "9daddf909d5885e01bab482d32aa23ecd8be9427fdd23660f98de5cf1d637613"), looks := false }, kinds := [], alts := [], laidByText := true, laidKinds := [.data, .data, .data], laidTests := true, laidLooks := .later }
def FnExactEffectiveInUptoCardSaid : Prop := Claim7.holds Tryz.pinned (.plain (OpenSpec.upto fnExactEffectiveInSpec)) fnExactEffectiveInUptoCard

/-- THE SECOND FORM's CARD OF 'laws.FnExactAnswerTo'. -/
def fnExactAnswerToUptoCard : Claim7 := { stood := { row := fnExactAnswerToUptoRow, standIns := [], harness := (true, "9daddf909d5885e01bab482d32aa23ecd8be9427fdd23660f98de5cf1d637613"), looks := false }, kinds := [], alts := [], laidByText := true, laidKinds := [.data, .data, .data], laidTests := true, laidLooks := .later }
def FnExactAnswerToUptoCardSaid : Prop := Claim7.holds Tryz.pinned (.plain (OpenSpec.upto fnExactAnswerToSpec)) fnExactAnswerToUptoCard
end Rows
end Go.Proofs.YtplmeoocbocipaaGreatDoor
