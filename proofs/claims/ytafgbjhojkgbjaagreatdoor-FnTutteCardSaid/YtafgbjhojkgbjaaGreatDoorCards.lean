/-
  DERIVED. GIVEN WITH THE SEED: THE CARDS: each row of YtafgbjhojkgbjaaGreatDoorRows.lean that lists a variable, with what it lists TIED to the program's text (the seventh form; the later family's looks); each row that meets fmt, with fmt's text TOLD by the authors' own Lean function (tested against real Go, not proved from fmt's source: count such statements apart). THE CARD IS WHAT COUNTS. Prove the row's statement (the work); the ties are given (YtafgbjhojkgbjaaGreatDoorTie.lean); close each card by the builder's one call (the guide's Derived/Test/ToyasCard.lean, 'card_holds'). Laid BY PROGRAM, IN A SANDBOX (cutbox-door.mjs). By AI agents, Wed Nov 11 2026. No macro, syntax, notation, axiom, sorry.
-/
import Derived.Test.YtafgbjhojkgbjaaGreatDoorRows
import GoSem.ClaimSeven
namespace Go.Proofs.YtafgbjhojkgbjaaGreatDoor
namespace Rows

/-- THE TIED CARD OF 'laws.FnTutte'. -/
def fnTutteCard : Claim7 := { stood := { row := fnTutteRow, standIns := [], harness := (true, "5d8c2fc3720e5c06a2cc936616655eb8b425df29795c4e0250ff82e46301146b"), looks := false }, kinds := [], alts := [], laidByText := true, laidKinds := [.data, .data, .data], laidTests := true, laidLooks := .later }
def FnTutteCardSaid : Prop := Claim7.holds Tryz.pinned (.plain (OpenSpec.ofChange fnTutteSpec)) fnTutteCard

/-- THE SECOND FORM's CARD OF 'laws.FnTutte'. -/
def fnTutteUptoCard : Claim7 := { stood := { row := fnTutteUptoRow, standIns := [], harness := (true, "5d8c2fc3720e5c06a2cc936616655eb8b425df29795c4e0250ff82e46301146b"), looks := false }, kinds := [], alts := [], laidByText := true, laidKinds := [.data, .data, .data], laidTests := true, laidLooks := .later }
def FnTutteUptoCardSaid : Prop := Claim7.holds Tryz.pinned (.plain (OpenSpec.upto fnTutteSpec)) fnTutteUptoCard
end Rows
end Go.Proofs.YtafgbjhojkgbjaaGreatDoor
