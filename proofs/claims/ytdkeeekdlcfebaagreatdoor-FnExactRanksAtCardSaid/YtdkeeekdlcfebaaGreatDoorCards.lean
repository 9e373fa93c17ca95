/-
  DERIVED. GIVEN WITH THE SEED: THE CARDS: each row of YtdkeeekdlcfebaaGreatDoorRows.lean that lists a variable, with what it lists TIED to the program's text (the seventh form; the later family's looks); each row that meets fmt, with fmt's text TOLD by the authors' own Lean function (tested against real Go, not proved from fmt's source: count such statements apart). THE CARD IS WHAT COUNTS. Prove the row's statement (the work); the ties are given (YtdkeeekdlcfebaaGreatDoorTie.lean); close each card by the builder's one call (the guide's Derived/Test/ToyasCard.lean, 'card_holds'). Laid BY PROGRAM, IN A SANDBOX (cutbox-door.mjs). By AI agents, Wed Nov 11 2026. No macro, syntax, notation, axiom, sorry.
-/
import Derived.Test.YtdkeeekdlcfebaaGreatDoorRows
import GoSem.ClaimSeven
namespace Go.Proofs.YtdkeeekdlcfebaaGreatDoor
namespace Rows

/-- THE TIED CARD OF 'laws.FnExactCountEffective'. -/
def fnExactCountEffectiveCard : Claim7 := { stood := { row := fnExactCountEffectiveRow, standIns := [], harness := (true, "51e0327ba513bd1210aef471290f1b9e62c52df3c1e37dafde4b62823872dc42"), looks := false }, kinds := [], alts := [], laidByText := true, laidKinds := [.data, .data, .data], laidTests := true, laidLooks := .later }
def FnExactCountEffectiveCardSaid : Prop := Claim7.holds Tryz.pinned (.plain (OpenSpec.ofChange fnExactCountEffectiveSpec)) fnExactCountEffectiveCard

/-- THE TIED CARD OF 'laws.FnExactRankOf'. -/
def fnExactRankOfCard : Claim7 := { stood := { row := fnExactRankOfRow, standIns := [], harness := (true, "51e0327ba513bd1210aef471290f1b9e62c52df3c1e37dafde4b62823872dc42"), looks := false }, kinds := [], alts := [], laidByText := true, laidKinds := [.data, .data, .data], laidTests := true, laidLooks := .later }
def FnExactRankOfCardSaid : Prop := Claim7.holds Tryz.pinned (.plain (OpenSpec.ofChange fnExactRankOfSpec)) fnExactRankOfCard

/-- THE TIED CARD OF 'laws.FnExactHasRank'. -/
def fnExactHasRankCard : Claim7 := { stood := { row := fnExactHasRankRow, standIns := [], harness := (true, "51e0327ba513bd1210aef471290f1b9e62c52df3c1e37dafde4b62823872dc42"), looks := false }, kinds := [], alts := [], laidByText := true, laidKinds := [.data, .data, .data], laidTests := true, laidLooks := .later }
def FnExactHasRankCardSaid : Prop := Claim7.holds Tryz.pinned (.plain (OpenSpec.ofChange fnExactHasRankSpec)) fnExactHasRankCard

/-- THE TIED CARD OF 'laws.FnExactRankWitness'. -/
def fnExactRankWitnessCard : Claim7 := { stood := { row := fnExactRankWitnessRow, standIns := [], harness := (true, "51e0327ba513bd1210aef471290f1b9e62c52df3c1e37dafde4b62823872dc42"), looks := false }, kinds := [], alts := [], laidByText := true, laidKinds := [.data, .data, .data], laidTests := true, laidLooks := .later }
def FnExactRankWitnessCardSaid : Prop := Claim7.holds Tryz.pinned (.plain (OpenSpec.ofChange fnExactRankWitnessSpec)) fnExactRankWitnessCard

/-- THE TIED CARD OF 'laws.FnExactEffectiveIn'. -/
def fnExactEffectiveInCard : Claim7 := { stood := { row := fnExactEffectiveInRow, standIns := [], harness := (true, "51e0327ba513bd1210aef471290f1b9e62c52df3c1e37dafde4b62823872dc42"), looks := false }, kinds := [], alts := [], laidByText := true, laidKinds := [.data, .data, .data], laidTests := true, laidLooks := .later }
def FnExactEffectiveInCardSaid : Prop := Claim7.holds Tryz.pinned (.plain (OpenSpec.ofChange fnExactEffectiveInSpec)) fnExactEffectiveInCard

/-- THE TIED CARD OF 'laws.FnExactAnswerTo'. -/
def fnExactAnswerToCard : Claim7 := { stood := { row := fnExactAnswerToRow, standIns := [], harness := (true, "51e0327ba513bd1210aef471290f1b9e62c52df3c1e37dafde4b62823872dc42"), looks := false }, kinds := [], alts := [], laidByText := true, laidKinds := [.data, .data, .data], laidTests := true, laidLooks := .later }
def FnExactAnswerToCardSaid : Prop := Claim7.holds Tryz.pinned (.plain (OpenSpec.ofChange fnExactAnswerToSpec)) fnExactAnswerToCard

/-- THE TIED CARD OF 'laws.FnExactBasePoints'. -/
def fnExactBasePointsCard : Claim7 := { stood := { row := fnExactBasePointsRow, standIns := [], harness := (true, "51e0327ba513bd1210aef471290f1b9e62c52df3c1e37dafde4b62823872dc42"), looks := false }, kinds := [], alts := [], laidByText := true, laidKinds := [.data, .data, .data], laidTests := true, laidLooks := .later }
def FnExactBasePointsCardSaid : Prop := Claim7.holds Tryz.pinned (.plain (OpenSpec.ofChange fnExactBasePointsSpec)) fnExactBasePointsCard

/-- THE TIED CARD OF 'laws.FnExactRiemannRoch'. -/
def fnExactRiemannRochCard : Claim7 := { stood := { row := fnExactRiemannRochRow, standIns := [], harness := (true, "51e0327ba513bd1210aef471290f1b9e62c52df3c1e37dafde4b62823872dc42"), looks := false }, kinds := [], alts := [], laidByText := true, laidKinds := [.data, .data, .data], laidTests := true, laidLooks := .later }
def FnExactRiemannRochCardSaid : Prop := Claim7.holds Tryz.pinned (.plain (OpenSpec.ofChange fnExactRiemannRochSpec)) fnExactRiemannRochCard

/-- THE TIED CARD OF 'laws.FnExactIsSpecial'. -/
def fnExactIsSpecialCard : Claim7 := { stood := { row := fnExactIsSpecialRow, standIns := [], harness := (true, "51e0327ba513bd1210aef471290f1b9e62c52df3c1e37dafde4b62823872dc42"), looks := false }, kinds := [], alts := [], laidByText := true, laidKinds := [.data, .data, .data], laidTests := true, laidLooks := .later }
def FnExactIsSpecialCardSaid : Prop := Claim7.holds Tryz.pinned (.plain (OpenSpec.ofChange fnExactIsSpecialSpec)) fnExactIsSpecialCard

/-- THE TIED CARD OF 'laws.FnExactRankFromResidual'. -/
def fnExactRankFromResidualCard : Claim7 := { stood := { row := fnExactRankFromResidualRow, standIns := [], harness := (true, "51e0327ba513bd1210aef471290f1b9e62c52df3c1e37dafde4b62823872dc42"), looks := false }, kinds := [], alts := [], laidByText := true, laidKinds := [.data, .data, .data], laidTests := true, laidLooks := .later }
def FnExactRankFromResidualCardSaid : Prop := Claim7.holds Tryz.pinned (.plain (OpenSpec.ofChange fnExactRankFromResidualSpec)) fnExactRankFromResidualCard

/-- THE TIED CARD OF 'laws.FnExactCliffordGap'. -/
def fnExactCliffordGapCard : Claim7 := { stood := { row := fnExactCliffordGapRow, standIns := [], harness := (true, "51e0327ba513bd1210aef471290f1b9e62c52df3c1e37dafde4b62823872dc42"), looks := false }, kinds := [], alts := [], laidByText := true, laidKinds := [.data, .data, .data], laidTests := true, laidLooks := .later }
def FnExactCliffordGapCardSaid : Prop := Claim7.holds Tryz.pinned (.plain (OpenSpec.ofChange fnExactCliffordGapSpec)) fnExactCliffordGapCard

/-- THE TIED CARD OF 'laws.FnExactRanksAt'. -/
def fnExactRanksAtCard : Claim7 := { stood := { row := fnExactRanksAtRow, standIns := [], harness := (true, "51e0327ba513bd1210aef471290f1b9e62c52df3c1e37dafde4b62823872dc42"), looks := false }, kinds := [], alts := [], laidByText := true, laidKinds := [.data, .data, .data], laidTests := true, laidLooks := .later }
def FnExactRanksAtCardSaid : Prop := Claim7.holds Tryz.pinned (.plain (OpenSpec.ofChange fnExactRanksAtSpec)) fnExactRanksAtCard

/-- THE SECOND FORM's CARD OF 'laws.FnExactCountEffective'. -/
def fnExactCountEffectiveUptoCard : Claim7 := { stood := { row := fnExactCountEffectiveUptoRow, standIns := [], harness := (true, "51e0327ba513bd1210aef471290f1b9e62c52df3c1e37dafde4b62823872dc42"), looks := false }, kinds := [], alts := [], laidByText := true, laidKinds := [.data, .data, .data], laidTests := true, laidLooks := .later }
def FnExactCountEffectiveUptoCardSaid : Prop := Claim7.holds Tryz.pinned (.plain (OpenSpec.upto fnExactCountEffectiveSpec)) fnExactCountEffectiveUptoCard

/-- THE SECOND FORM's CARD OF 'laws.FnExactRankOf'. -/
def fnExactRankOfUptoCard : Claim7 := { stood := { row := fnExactRankOfUptoRow, standIns := [], harness := (true, "51e0327ba513bd1210aef471290f1b9e62c52df3c1e37dafde4b62823872dc42"), looks := false }, kinds := [], alts := [], laidByText := true, laidKinds := [.data, .data, .data], laidTests := true, laidLooks := .later }
def FnExactRankOfUptoCardSaid : Prop := Claim7.holds Tryz.pinned (.plain (OpenSpec.upto fnExactRankOfSpec)) fnExactRankOfUptoCard

/-- THE SECOND FORM's CARD OF 'laws.FnExactHasRank'. -/
def fnExactHasRankUptoCard : Claim7 := { stood := { row := fnExactHasRankUptoRow, standIns := [], harness := (true, "51e0327ba513bd1210aef471290f1b9e62c52df3c1e37dafde4b62823872dc42"), looks := false }, kinds := [], alts := [], laidByText := true, laidKinds := [.data, .data, .data], laidTests := true, laidLooks := .later }
def FnExactHasRankUptoCardSaid : Prop := Claim7.holds Tryz.pinned (.plain (OpenSpec.upto fnExactHasRankSpec)) fnExactHasRankUptoCard

/-- THE SECOND FORM's CARD OF 'laws.FnExactRankWitness'. -/
def fnExactRankWitnessUptoCard : Claim7 := { stood := { row := fnExactRankWitnessUptoRow, standIns := [], harness := (true, "51e0327ba513bd1210aef471290f1b9e62c52df3c1e37dafde4b62823872dc42"), looks := false }, kinds := [], alts := [], laidByText := true, laidKinds := [.data, .data, .data], laidTests := true, laidLooks := .later }
def FnExactRankWitnessUptoCardSaid : Prop := Claim7.holds Tryz.pinned (.plain (OpenSpec.upto fnExactRankWitnessSpec)) fnExactRankWitnessUptoCard

/-- THE SECOND FORM's CARD OF 'laws.FnExactEffectiveIn'. -/
def fnExactEffectiveInUptoCard : Claim7 := { stood := { row := fnExactEffectiveInUptoRow, standIns := [], harness := (true, "51e0327ba513bd1210aef471290f1b9e62c52df3c1e37dafde4b62823872dc42"), looks := false }, kinds := [], alts := [], laidByText := true, laidKinds := [.data, .data, .data], laidTests := true, laidLooks := .later }
def FnExactEffectiveInUptoCardSaid : Prop := Claim7.holds Tryz.pinned (.plain (OpenSpec.upto fnExactEffectiveInSpec)) fnExactEffectiveInUptoCard

/-- THE SECOND FORM's CARD OF 'laws.FnExactAnswerTo'. -/
def fnExactAnswerToUptoCard : Claim7 := { stood := { row := fnExactAnswerToUptoRow, standIns := [], harness := (true, "51e0327ba513bd1210aef471290f1b9e62c52df3c1e37dafde4b62823872dc42"), looks := false }, kinds := [], alts := [], laidByText := true, laidKinds := [.data, .data, .data], laidTests := true, laidLooks := .later }
def FnExactAnswerToUptoCardSaid : Prop := Claim7.holds Tryz.pinned (.plain (OpenSpec.upto fnExactAnswerToSpec)) fnExactAnswerToUptoCard

/-- THE SECOND FORM's CARD OF 'laws.FnExactBasePoints'. -/
def fnExactBasePointsUptoCard : Claim7 := { stood := { row := fnExactBasePointsUptoRow, standIns := [], harness := (true, "51e0327ba513bd1210aef471290f1b9e62c52df3c1e37dafde4b62823872dc42"), looks := false }, kinds := [], alts := [], laidByText := true, laidKinds := [.data, .data, .data], laidTests := true, laidLooks := .later }
def FnExactBasePointsUptoCardSaid : Prop := Claim7.holds Tryz.pinned (.plain (OpenSpec.upto fnExactBasePointsSpec)) fnExactBasePointsUptoCard

/-- THE SECOND FORM's CARD OF 'laws.FnExactRiemannRoch'. -/
def fnExactRiemannRochUptoCard : Claim7 := { stood := { row := fnExactRiemannRochUptoRow, standIns := [], harness := (true, "51e0327ba513bd1210aef471290f1b9e62c52df3c1e37dafde4b62823872dc42"), looks := false }, kinds := [], alts := [], laidByText := true, laidKinds := [.data, .data, .data], laidTests := true, laidLooks := .later }
def FnExactRiemannRochUptoCardSaid : Prop := Claim7.holds Tryz.pinned (.plain (OpenSpec.upto fnExactRiemannRochSpec)) fnExactRiemannRochUptoCard

/-- THE SECOND FORM's CARD OF 'laws.FnExactIsSpecial'. -/
def fnExactIsSpecialUptoCard : Claim7 := { stood := { row := fnExactIsSpecialUptoRow, standIns := [], harness := (true, "51e0327ba513bd1210aef471290f1b9e62c52df3c1e37dafde4b62823872dc42"), looks := false }, kinds := [], alts := [], laidByText := true, laidKinds := [.data, .data, .data], laidTests := true, laidLooks := .later }
def FnExactIsSpecialUptoCardSaid : Prop := Claim7.holds Tryz.pinned (.plain (OpenSpec.upto fnExactIsSpecialSpec)) fnExactIsSpecialUptoCard

/-- THE SECOND FORM's CARD OF 'laws.FnExactRankFromResidual'. -/
def fnExactRankFromResidualUptoCard : Claim7 := { stood := { row := fnExactRankFromResidualUptoRow, standIns := [], harness := (true, "51e0327ba513bd1210aef471290f1b9e62c52df3c1e37dafde4b62823872dc42"), looks := false }, kinds := [], alts := [], laidByText := true, laidKinds := [.data, .data, .data], laidTests := true, laidLooks := .later }
def FnExactRankFromResidualUptoCardSaid : Prop := Claim7.holds Tryz.pinned (.plain (OpenSpec.upto fnExactRankFromResidualSpec)) fnExactRankFromResidualUptoCard

/-- THE SECOND FORM's CARD OF 'laws.FnExactCliffordGap'. -/
def fnExactCliffordGapUptoCard : Claim7 := { stood := { row := fnExactCliffordGapUptoRow, standIns := [], harness := (true, "51e0327ba513bd1210aef471290f1b9e62c52df3c1e37dafde4b62823872dc42"), looks := false }, kinds := [], alts := [], laidByText := true, laidKinds := [.data, .data, .data], laidTests := true, laidLooks := .later }
def FnExactCliffordGapUptoCardSaid : Prop := Claim7.holds Tryz.pinned (.plain (OpenSpec.upto fnExactCliffordGapSpec)) fnExactCliffordGapUptoCard

/-- THE SECOND FORM's CARD OF 'laws.FnExactRanksAt'. -/
def fnExactRanksAtUptoCard : Claim7 := { stood := { row := fnExactRanksAtUptoRow, standIns := [], harness := (true, "51e0327ba513bd1210aef471290f1b9e62c52df3c1e37dafde4b62823872dc42"), looks := false }, kinds := [], alts := [], laidByText := true, laidKinds := [.data, .data, .data], laidTests := true, laidLooks := .later }
def FnExactRanksAtUptoCardSaid : Prop := Claim7.holds Tryz.pinned (.plain (OpenSpec.upto fnExactRanksAtSpec)) fnExactRanksAtUptoCard
end Rows
end Go.Proofs.YtdkeeekdlcfebaaGreatDoor
