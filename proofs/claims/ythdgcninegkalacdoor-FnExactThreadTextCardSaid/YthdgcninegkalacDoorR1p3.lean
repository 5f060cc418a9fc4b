/-
  Closed facts of the program and of the row of FnExactThreadText, one by one. No condition.
-/
import Derived.Test.YthdgcninegkalacDoorEvU
import Derived.Test.YthdgcninegkalacDoorRows
namespace Go.Proofs.YthdgcninegkalacDoor
set_option maxRecDepth 100000
theorem fnExactThreadText_j3 : (Tryd.f3.params.all (Tryd.prog.readableRec ·)) = true := by kernel_rfl
theorem fnExactThreadText_j7 : ((Rows.fnExactThreadTextRow.knobs == [])) = true := by kernel_rfl
theorem fnExactThreadText_j11 : ((Rows.fnExactThreadTextRow.recurses == Tryd.prog.recurses 3)) = true := by kernel_rfl
theorem fnExactThreadText_j15 : ((Rows.fnExactThreadTextRow.mapsOut == Tryd.prog.mapsAmong Tryd.f3.resultTypes.toList)) = true := by kernel_rfl
theorem fnExactThreadText_j19 : (Tryd.f3.resultTypes.all (fun t => Tryd.prog.readableRec t && decide (t < Tryd.prog.types.size))) = true := by kernel_rfl
theorem fnExactThreadText_j23 : (Rows.fnExactThreadTextRow.shortTexts.isNone) = true := by kernel_rfl
theorem fnExactThreadText_j27 : ((Tryd.prog.make == some Rows.fnExactThreadTextRow.make)) = true := by kernel_rfl
theorem fnExactThreadText_j31 : (Rows.fnExactThreadTextRow.veiledFits Tryd.prog Tryd.f3.params.toList (Tryd.f3.params.toList ++ Rows.fnExactThreadTextSpec.plain.varTypes Tryd.prog ++ Tryd.f3.resultTypes.toList)) = true := by kernel_rfl
end Go.Proofs.YthdgcninegkalacDoor
