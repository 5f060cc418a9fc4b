/-
  DERIVED. GIVEN WITH THE SEED: THE CARDS: each row of YthdgcninegkalabDoorRows.lean that lists a variable, with what it lists TIED to the program's text (the seventh form; the later family's looks); each row that meets fmt, with fmt's text TOLD by the authors' own Lean function (tested against real Go, not proved from fmt's source: count such statements apart). THE CARD IS WHAT COUNTS. Prove the row's statement (the work); the ties are given (YthdgcninegkalabDoorTie.lean); close each card by the builder's one call (the guide's Derived/Test/ToyasCard.lean, 'card_holds'). Laid BY PROGRAM, IN A SANDBOX (cutbox-door.mjs). By AI agents, Wed Nov 11 2026. No macro, syntax, notation, axiom, sorry.
-/
import Derived.Test.YthdgcninegkalabDoorRows
import GoSem.ClaimSeven
namespace Go.Proofs.YthdgcninegkalabDoor
namespace Rows

/-- THE TIED CARD OF 'laws.FnExactObjectText'. -/
def fnExactObjectTextCard : Claim7 := { stood := { row := fnExactObjectTextRow, standIns := [], harness := (true, "cba37d671ab309ff7d8ec6b84a3e42ef219784888a4be3dfdd53a7aaad5a0d44"), looks := false }, kinds := [], alts := [], laidByText := true, laidKinds := [.data, .data, .data], laidTests := true, laidLooks := .later }
def FnExactObjectTextCardSaid : Prop := Claim7.holds Tryd.pinned (.plain (OpenSpec.ofChange fnExactObjectTextSpec)) fnExactObjectTextCard

/-- THE SECOND FORM's CARD OF 'laws.FnExactObjectText'. -/
def fnExactObjectTextUptoCard : Claim7 := { stood := { row := fnExactObjectTextUptoRow, standIns := [], harness := (true, "cba37d671ab309ff7d8ec6b84a3e42ef219784888a4be3dfdd53a7aaad5a0d44"), looks := false }, kinds := [], alts := [], laidByText := true, laidKinds := [.data, .data, .data], laidTests := true, laidLooks := .later }
def FnExactObjectTextUptoCardSaid : Prop := Claim7.holds Tryd.pinned (.plain (OpenSpec.upto fnExactObjectTextSpec)) fnExactObjectTextUptoCard
end Rows
end Go.Proofs.YthdgcninegkalabDoor
