/-
  Closed facts of the program and of the row of FnExactNodeText, one by one. No condition.
-/
import Derived.Test.YthdgcninegkaladGreatDoorEvU
import Derived.Test.YthdgcninegkaladGreatDoorRows
namespace Go.Proofs.YthdgcninegkaladGreatDoor
set_option maxRecDepth 100000
theorem fnExactNodeText_j0 : (Rows.fnExactNodeTextRow.wf (OpenSpec.ofChange Rows.fnExactNodeTextSpec)) = true := by kernel_rfl
theorem fnExactNodeText_j4 : (namedTie Tryz.prog Rows.fnExactNodeTextRow.named Rows.fnExactNodeTextSpec.vars) = true := by kernel_rfl
theorem fnExactNodeText_j8 : ((Tryz.prog.stopKnobs == [])) = true := by kernel_rfl
theorem fnExactNodeText_j12 : ((Rows.fnExactNodeTextRow.named == Tryz.prog.varsNamed 3)) = true := by kernel_rfl
theorem fnExactNodeText_j16 : ((Rows.fnExactNodeTextRow.loops == (Tryz.f3.params.toList ++ Rows.fnExactNodeTextSpec.plain.varTypes Tryz.prog).any (Tryz.prog.loopsFrom ·))) = true := by kernel_rfl
theorem fnExactNodeText_j20 : ((Rows.fnExactNodeTextRow.ifacesOut == Tryz.f3.resultTypes.toList.any (Tryz.prog.ifacesRec ·))) = true := by kernel_rfl
theorem fnExactNodeText_j24 : (Tryz.prog.stopsHeard) = true := by kernel_rfl
theorem fnExactNodeText_j28 : ((Rows.fnExactNodeTextRow.kinds == (if Rows.fnExactNodeTextRow.domain.isEmpty then [] else Tryz.f3.params.toList.map fun t => match Tryz.prog.underlying t with | some (.int k) => some k | _ => none))) = true := by kernel_rfl
end Go.Proofs.YthdgcninegkaladGreatDoor
