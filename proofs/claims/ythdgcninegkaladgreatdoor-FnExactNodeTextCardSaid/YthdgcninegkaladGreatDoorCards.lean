/-
  DERIVED. GIVEN WITH THE SEED: THE CARDS: each row of YthdgcninegkaladGreatDoorRows.lean that lists a variable, with what it lists TIED to the program's text (the seventh form; the later family's looks); each row that meets fmt, with fmt's text TOLD by the authors' own Lean function (tested against real Go, not proved from fmt's source: count such statements apart). THE CARD IS WHAT COUNTS. Prove the row's statement (the work); the ties are given (YthdgcninegkaladGreatDoorTie.lean); close each card by the builder's one call (the guide's Derived/Test/ToyasCard.lean, 'card_holds'). Laid BY PROGRAM, IN A SANDBOX (cutbox-door.mjs). By AI agents, Wed Nov 11 2026. No macro, syntax, notation, axiom, sorry.
-/
import Derived.Test.YthdgcninegkaladGreatDoorRows
import GoSem.ClaimSeven
namespace Go.Proofs.YthdgcninegkaladGreatDoor
namespace Rows

/-- THE TIED CARD OF 'laws.FnExactNodeText'. -/
def fnExactNodeTextCard : Claim7 := { stood := { row := fnExactNodeTextRow, standIns := [], harness := (true, "5de384f723fd7d31b467227049621c664e685ab1b7a338d9456d09a54f3d438a"), looks := false }, kinds := [], alts := [], laidByText := true, laidKinds := [.data, .data, .data], laidTests := true, laidLooks := .later }
def FnExactNodeTextCardSaid : Prop := Claim7.holds Tryz.pinned (.plain (OpenSpec.ofChange fnExactNodeTextSpec)) fnExactNodeTextCard

/-- THE SECOND FORM's CARD OF 'laws.FnExactNodeText'. -/
def fnExactNodeTextUptoCard : Claim7 := { stood := { row := fnExactNodeTextUptoRow, standIns := [], harness := (true, "5de384f723fd7d31b467227049621c664e685ab1b7a338d9456d09a54f3d438a"), looks := false }, kinds := [], alts := [], laidByText := true, laidKinds := [.data, .data, .data], laidTests := true, laidLooks := .later }
def FnExactNodeTextUptoCardSaid : Prop := Claim7.holds Tryz.pinned (.plain (OpenSpec.upto fnExactNodeTextSpec)) fnExactNodeTextUptoCard
end Rows
end Go.Proofs.YthdgcninegkaladGreatDoor
