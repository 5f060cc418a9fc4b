/-
  Closed facts of the program and of the row of FnExactThreadText, one by one. No condition.
-/
import Derived.Test.YthdgcninegkalacDoorEvU
import Derived.Test.YthdgcninegkalacDoorRows
namespace Go.Proofs.YthdgcninegkalacDoor
set_option maxRecDepth 100000
theorem fnExactThreadText_j0 : (Rows.fnExactThreadTextRow.wf (OpenSpec.ofChange Rows.fnExactThreadTextSpec)) = true := by kernel_rfl
theorem fnExactThreadText_j4 : (namedTie Tryd.prog Rows.fnExactThreadTextRow.named Rows.fnExactThreadTextSpec.vars) = true := by kernel_rfl
theorem fnExactThreadText_j8 : ((Tryd.prog.stopKnobs == [])) = true := by kernel_rfl
theorem fnExactThreadText_j12 : ((Rows.fnExactThreadTextRow.named == Tryd.prog.varsNamed 3)) = true := by kernel_rfl
theorem fnExactThreadText_j16 : ((Rows.fnExactThreadTextRow.loops == (Tryd.f3.params.toList ++ Rows.fnExactThreadTextSpec.plain.varTypes Tryd.prog).any (Tryd.prog.loopsFrom ·))) = true := by kernel_rfl
theorem fnExactThreadText_j20 : ((Rows.fnExactThreadTextRow.ifacesOut == Tryd.f3.resultTypes.toList.any (Tryd.prog.ifacesRec ·))) = true := by kernel_rfl
theorem fnExactThreadText_j24 : (Tryd.prog.stopsHeard) = true := by kernel_rfl
theorem fnExactThreadText_j28 : ((Rows.fnExactThreadTextRow.kinds == (if Rows.fnExactThreadTextRow.domain.isEmpty then [] else Tryd.f3.params.toList.map fun t => match Tryd.prog.underlying t with | some (.int k) => some k | _ => none))) = true := by kernel_rfl
end Go.Proofs.YthdgcninegkalacDoor
