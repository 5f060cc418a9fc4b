/-
  Closed facts of the program and of the row of FnExactObjectText, one by one. No condition.
-/
import Derived.Test.YthdgcninegkalabDoorEvU
import Derived.Test.YthdgcninegkalabDoorRows
namespace Go.Proofs.YthdgcninegkalabDoor
set_option maxRecDepth 100000
theorem fnExactObjectText_j0 : (Rows.fnExactObjectTextRow.wf (OpenSpec.ofChange Rows.fnExactObjectTextSpec)) = true := by kernel_rfl
theorem fnExactObjectText_j4 : (namedTie Tryd.prog Rows.fnExactObjectTextRow.named Rows.fnExactObjectTextSpec.vars) = true := by kernel_rfl
theorem fnExactObjectText_j8 : ((Tryd.prog.stopKnobs == [])) = true := by kernel_rfl
theorem fnExactObjectText_j12 : ((Rows.fnExactObjectTextRow.named == Tryd.prog.varsNamed 3)) = true := by kernel_rfl
theorem fnExactObjectText_j16 : ((Rows.fnExactObjectTextRow.loops == (Tryd.f3.params.toList ++ Rows.fnExactObjectTextSpec.plain.varTypes Tryd.prog).any (Tryd.prog.loopsFrom ·))) = true := by kernel_rfl
theorem fnExactObjectText_j20 : ((Rows.fnExactObjectTextRow.ifacesOut == Tryd.f3.resultTypes.toList.any (Tryd.prog.ifacesRec ·))) = true := by kernel_rfl
theorem fnExactObjectText_j24 : (Tryd.prog.stopsHeard) = true := by kernel_rfl
theorem fnExactObjectText_j28 : ((Rows.fnExactObjectTextRow.kinds == (if Rows.fnExactObjectTextRow.domain.isEmpty then [] else Tryd.f3.params.toList.map fun t => match Tryd.prog.underlying t with | some (.int k) => some k | _ => none))) = true := by kernel_rfl
end Go.Proofs.YthdgcninegkalabDoor
