/-
  DERIVED. GIVEN WITH THE SEED: THE CARDS: each row of YthdgcninegkalacDoorRows.lean that lists a variable, with what it lists TIED to the program's text (the seventh form; the later family's looks); each row that meets fmt, with fmt's text TOLD by the authors' own Lean function (tested against real Go, not proved from fmt's source: count such statements apart). THE CARD IS WHAT COUNTS. Prove the row's statement (the work); the ties are given (YthdgcninegkalacDoorTie.lean); close each card by the builder's one call (the guide's Derived/Test/ToyasCard.lean, 'card_holds'). Laid BY PROGRAM, IN A SANDBOX (cutbox-door.mjs). By AI agents, Wed Nov 11 2026. No macro, syntax, notation, axiom, sorry.
-/
import Derived.Test.YthdgcninegkalacDoorRows
import GoSem.ClaimSeven
namespace Go.Proofs.YthdgcninegkalacDoor
namespace Rows

/-- THE TIED CARD OF 'laws.FnExactThreadText'. -/
def fnExactThreadTextCard : Claim7 := { stood := { row := fnExactThreadTextRow, standIns := [], harness := (true, "bc73c838fa7b793d09845309d6610fea9e329490c74c040ed2c18c0abab44ef8"), looks := false }, kinds := [], alts := [], laidByText := true, laidKinds := [.data, .data, .data], laidTests := true, laidLooks := .later }
def FnExactThreadTextCardSaid : Prop := Claim7.holds Tryd.pinned (.plain (OpenSpec.ofChange fnExactThreadTextSpec)) fnExactThreadTextCard

/-- THE SECOND FORM's CARD OF 'laws.FnExactThreadText'. -/
def fnExactThreadTextUptoCard : Claim7 := { stood := { row := fnExactThreadTextUptoRow, standIns := [], harness := (true, "bc73c838fa7b793d09845309d6610fea9e329490c74c040ed2c18c0abab44ef8"), looks := false }, kinds := [], alts := [], laidByText := true, laidKinds := [.data, .data, .data], laidTests := true, laidLooks := .later }
def FnExactThreadTextUptoCardSaid : Prop := Claim7.holds Tryd.pinned (.plain (OpenSpec.upto fnExactThreadTextSpec)) fnExactThreadTextUptoCard
end Rows
end Go.Proofs.YthdgcninegkalacDoor
