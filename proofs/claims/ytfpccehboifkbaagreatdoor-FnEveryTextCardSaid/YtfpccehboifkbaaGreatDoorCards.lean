/-
  DERIVED. GIVEN WITH THE SEED: THE CARDS: each row of YtfpccehboifkbaaGreatDoorRows.lean that lists a variable, with what it lists TIED to the program's text (the seventh form; the later family's looks); each row that meets fmt, with fmt's text TOLD by the authors' own Lean function (tested against real Go, not proved from fmt's source: count such statements apart). THE CARD IS WHAT COUNTS. Prove the row's statement (the work); the ties are given (YtfpccehboifkbaaGreatDoorTie.lean); close each card by the builder's one call (the guide's Derived/Test/ToyasCard.lean, 'card_holds'). Laid BY PROGRAM, IN A SANDBOX (cutbox-door.mjs). By AI agents, Wed Nov 11 2026. No macro, syntax, notation, axiom, sorry.
-/
import Derived.Test.YtfpccehboifkbaaGreatDoorRows
import GoSem.ClaimSeven
namespace Go.Proofs.YtfpccehboifkbaaGreatDoor
namespace Rows

/-- THE TIED CARD OF 'laws.FnExactGapsAt'. -/
def fnExactGapsAtCard : Claim7 := { stood := { row := fnExactGapsAtRow, standIns := [], harness := (true, "7d583681dadf18eff292ce4a8bd3029ecb51645a4fae16cfe30e914612dcfbd4"), looks := true }, kinds := [], alts := [], laidByText := true, laidKinds := [.data, .data, .data], laidTests := true, laidLooks := .later }
def FnExactGapsAtCardSaid : Prop := Claim7.holds Tryz.pinned (.plain (OpenSpec.ofChange fnExactGapsAtSpec)) fnExactGapsAtCard

/-- THE TIED CARD OF 'laws.FnExactIsWeierstrass'. -/
def fnExactIsWeierstrassCard : Claim7 := { stood := { row := fnExactIsWeierstrassRow, standIns := [], harness := (true, "7d583681dadf18eff292ce4a8bd3029ecb51645a4fae16cfe30e914612dcfbd4"), looks := true }, kinds := [], alts := [], laidByText := true, laidKinds := [.data, .data, .data], laidTests := true, laidLooks := .later }
def FnExactIsWeierstrassCardSaid : Prop := Claim7.holds Tryz.pinned (.plain (OpenSpec.ofChange fnExactIsWeierstrassSpec)) fnExactIsWeierstrassCard

/-- THE TIED CARD OF 'laws.FnExactRankLine'. -/
def fnExactRankLineCard : Claim7 := { stood := { row := fnExactRankLineRow, standIns := [], harness := (true, "7d583681dadf18eff292ce4a8bd3029ecb51645a4fae16cfe30e914612dcfbd4"), looks := true }, kinds := [], alts := [], laidByText := true, laidKinds := [.data, .data, .data], laidTests := true, laidLooks := .later }
def FnExactRankLineCardSaid : Prop := Claim7.holds Tryz.pinned (.plain (OpenSpec.ofChange fnExactRankLineSpec)) fnExactRankLineCard

/-- THE TIED CARD OF 'laws.FnExactRiemannLine'. -/
def fnExactRiemannLineCard : Claim7 := { stood := { row := fnExactRiemannLineRow, standIns := [], harness := (true, "7d583681dadf18eff292ce4a8bd3029ecb51645a4fae16cfe30e914612dcfbd4"), looks := true }, kinds := [], alts := [], laidByText := true, laidKinds := [.data, .data, .data], laidTests := true, laidLooks := .later }
def FnExactRiemannLineCardSaid : Prop := Claim7.holds Tryz.pinned (.plain (OpenSpec.ofChange fnExactRiemannLineSpec)) fnExactRiemannLineCard

/-- THE TIED CARD OF 'laws.FnRanks'. -/
def fnRanksCard : Claim7 := { stood := { row := fnRanksRow, standIns := [], harness := (true, "7d583681dadf18eff292ce4a8bd3029ecb51645a4fae16cfe30e914612dcfbd4"), looks := true }, kinds := [], alts := [], laidByText := true, laidKinds := [.data, .data, .data], laidTests := true, laidLooks := .later }
def FnRanksCardSaid : Prop := Claim7.holds Tryz.pinned (.plain (OpenSpec.ofChange fnRanksSpec)) fnRanksCard

/-- THE TIED CARD OF 'laws.FnClifford'. -/
def fnCliffordCard : Claim7 := { stood := { row := fnCliffordRow, standIns := [], harness := (true, "7d583681dadf18eff292ce4a8bd3029ecb51645a4fae16cfe30e914612dcfbd4"), looks := true }, kinds := [], alts := [], laidByText := true, laidKinds := [.data, .data, .data], laidTests := true, laidLooks := .later }
def FnCliffordCardSaid : Prop := Claim7.holds Tryz.pinned (.plain (OpenSpec.ofChange fnCliffordSpec)) fnCliffordCard

/-- THE TIED CARD OF 'laws.FnSystems'. -/
def fnSystemsCard : Claim7 := { stood := { row := fnSystemsRow, standIns := [], harness := (true, "7d583681dadf18eff292ce4a8bd3029ecb51645a4fae16cfe30e914612dcfbd4"), looks := true }, kinds := [], alts := [], laidByText := true, laidKinds := [.data, .data, .data], laidTests := true, laidLooks := .later }
def FnSystemsCardSaid : Prop := Claim7.holds Tryz.pinned (.plain (OpenSpec.ofChange fnSystemsSpec)) fnSystemsCard

/-- THE TIED CARD OF 'laws.FnTop'. -/
def fnTopCard : Claim7 := { stood := { row := fnTopRow, standIns := [], harness := (true, "7d583681dadf18eff292ce4a8bd3029ecb51645a4fae16cfe30e914612dcfbd4"), looks := true }, kinds := [], alts := [], laidByText := true, laidKinds := [.data, .data, .data], laidTests := true, laidLooks := .later }
def FnTopCardSaid : Prop := Claim7.holds Tryz.pinned (.plain (OpenSpec.ofChange fnTopSpec)) fnTopCard

/-- THE TIED CARD OF 'laws.FnReports'. -/
def fnReportsCard : Claim7 := { stood := { row := fnReportsRow, standIns := [], harness := (true, "7d583681dadf18eff292ce4a8bd3029ecb51645a4fae16cfe30e914612dcfbd4"), looks := true }, kinds := [], alts := [], laidByText := true, laidKinds := [.data, .data, .data], laidTests := true, laidLooks := .later }
def FnReportsCardSaid : Prop := Claim7.holds Tryz.pinned (.plain (OpenSpec.ofChange fnReportsSpec)) fnReportsCard

/-- THE TIED CARD OF 'laws.FnEveryText'. -/
def fnEveryTextCard : Claim7 := { stood := { row := fnEveryTextRow, standIns := [], harness := (true, "7d583681dadf18eff292ce4a8bd3029ecb51645a4fae16cfe30e914612dcfbd4"), looks := true }, kinds := [], alts := [], laidByText := true, laidKinds := [.data, .data, .data, .sentinel, .sentinel], laidTests := true, laidLooks := .later }
def FnEveryTextCardSaid : Prop := Claim7.holds Tryz.pinned (.plain (OpenSpec.ofChange fnEveryTextSpec)) fnEveryTextCard

/-- THE SECOND FORM's CARD OF 'laws.FnExactGapsAt'. -/
def fnExactGapsAtUptoCard : Claim7 := { stood := { row := fnExactGapsAtUptoRow, standIns := [], harness := (true, "7d583681dadf18eff292ce4a8bd3029ecb51645a4fae16cfe30e914612dcfbd4"), looks := true }, kinds := [], alts := [], laidByText := true, laidKinds := [.data, .data, .data], laidTests := true, laidLooks := .later }
def FnExactGapsAtUptoCardSaid : Prop := Claim7.holds Tryz.pinned (.plain (OpenSpec.upto fnExactGapsAtSpec)) fnExactGapsAtUptoCard

/-- THE SECOND FORM's CARD OF 'laws.FnExactIsWeierstrass'. -/
def fnExactIsWeierstrassUptoCard : Claim7 := { stood := { row := fnExactIsWeierstrassUptoRow, standIns := [], harness := (true, "7d583681dadf18eff292ce4a8bd3029ecb51645a4fae16cfe30e914612dcfbd4"), looks := true }, kinds := [], alts := [], laidByText := true, laidKinds := [.data, .data, .data], laidTests := true, laidLooks := .later }
def FnExactIsWeierstrassUptoCardSaid : Prop := Claim7.holds Tryz.pinned (.plain (OpenSpec.upto fnExactIsWeierstrassSpec)) fnExactIsWeierstrassUptoCard

/-- THE SECOND FORM's CARD OF 'laws.FnExactRankLine'. -/
def fnExactRankLineUptoCard : Claim7 := { stood := { row := fnExactRankLineUptoRow, standIns := [], harness := (true, "7d583681dadf18eff292ce4a8bd3029ecb51645a4fae16cfe30e914612dcfbd4"), looks := true }, kinds := [], alts := [], laidByText := true, laidKinds := [.data, .data, .data], laidTests := true, laidLooks := .later }
def FnExactRankLineUptoCardSaid : Prop := Claim7.holds Tryz.pinned (.plain (OpenSpec.upto fnExactRankLineSpec)) fnExactRankLineUptoCard

/-- THE SECOND FORM's CARD OF 'laws.FnExactRiemannLine'. -/
def fnExactRiemannLineUptoCard : Claim7 := { stood := { row := fnExactRiemannLineUptoRow, standIns := [], harness := (true, "7d583681dadf18eff292ce4a8bd3029ecb51645a4fae16cfe30e914612dcfbd4"), looks := true }, kinds := [], alts := [], laidByText := true, laidKinds := [.data, .data, .data], laidTests := true, laidLooks := .later }
def FnExactRiemannLineUptoCardSaid : Prop := Claim7.holds Tryz.pinned (.plain (OpenSpec.upto fnExactRiemannLineSpec)) fnExactRiemannLineUptoCard

/-- THE SECOND FORM's CARD OF 'laws.FnRanks'. -/
def fnRanksUptoCard : Claim7 := { stood := { row := fnRanksUptoRow, standIns := [], harness := (true, "7d583681dadf18eff292ce4a8bd3029ecb51645a4fae16cfe30e914612dcfbd4"), looks := true }, kinds := [], alts := [], laidByText := true, laidKinds := [.data, .data, .data], laidTests := true, laidLooks := .later }
def FnRanksUptoCardSaid : Prop := Claim7.holds Tryz.pinned (.plain (OpenSpec.upto fnRanksSpec)) fnRanksUptoCard

/-- THE SECOND FORM's CARD OF 'laws.FnClifford'. -/
def fnCliffordUptoCard : Claim7 := { stood := { row := fnCliffordUptoRow, standIns := [], harness := (true, "7d583681dadf18eff292ce4a8bd3029ecb51645a4fae16cfe30e914612dcfbd4"), looks := true }, kinds := [], alts := [], laidByText := true, laidKinds := [.data, .data, .data], laidTests := true, laidLooks := .later }
def FnCliffordUptoCardSaid : Prop := Claim7.holds Tryz.pinned (.plain (OpenSpec.upto fnCliffordSpec)) fnCliffordUptoCard

/-- THE SECOND FORM's CARD OF 'laws.FnSystems'. -/
def fnSystemsUptoCard : Claim7 := { stood := { row := fnSystemsUptoRow, standIns := [], harness := (true, "7d583681dadf18eff292ce4a8bd3029ecb51645a4fae16cfe30e914612dcfbd4"), looks := true }, kinds := [], alts := [], laidByText := true, laidKinds := [.data, .data, .data], laidTests := true, laidLooks := .later }
def FnSystemsUptoCardSaid : Prop := Claim7.holds Tryz.pinned (.plain (OpenSpec.upto fnSystemsSpec)) fnSystemsUptoCard

/-- THE SECOND FORM's CARD OF 'laws.FnTop'. -/
def fnTopUptoCard : Claim7 := { stood := { row := fnTopUptoRow, standIns := [], harness := (true, "7d583681dadf18eff292ce4a8bd3029ecb51645a4fae16cfe30e914612dcfbd4"), looks := true }, kinds := [], alts := [], laidByText := true, laidKinds := [.data, .data, .data], laidTests := true, laidLooks := .later }
def FnTopUptoCardSaid : Prop := Claim7.holds Tryz.pinned (.plain (OpenSpec.upto fnTopSpec)) fnTopUptoCard

/-- THE SECOND FORM's CARD OF 'laws.FnReports'. -/
def fnReportsUptoCard : Claim7 := { stood := { row := fnReportsUptoRow, standIns := [], harness := (true, "7d583681dadf18eff292ce4a8bd3029ecb51645a4fae16cfe30e914612dcfbd4"), looks := true }, kinds := [], alts := [], laidByText := true, laidKinds := [.data, .data, .data], laidTests := true, laidLooks := .later }
def FnReportsUptoCardSaid : Prop := Claim7.holds Tryz.pinned (.plain (OpenSpec.upto fnReportsSpec)) fnReportsUptoCard

/-- THE SECOND FORM's CARD OF 'laws.FnEveryText'. -/
def fnEveryTextUptoCard : Claim7 := { stood := { row := fnEveryTextUptoRow, standIns := [], harness := (true, "7d583681dadf18eff292ce4a8bd3029ecb51645a4fae16cfe30e914612dcfbd4"), looks := true }, kinds := [], alts := [], laidByText := true, laidKinds := [.data, .data, .data, .sentinel, .sentinel], laidTests := true, laidLooks := .later }
def FnEveryTextUptoCardSaid : Prop := Claim7.holds Tryz.pinned (.plain (OpenSpec.upto fnEveryTextSpec)) fnEveryTextUptoCard
end Rows
end Go.Proofs.YtfpccehboifkbaaGreatDoor
