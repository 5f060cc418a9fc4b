/-
  Closed facts of the program and of the row of FnExactNodeText, one by one. No condition.
-/
import Derived.Test.YthdgcninegkaladGreatDoorEvU
import Derived.Test.YthdgcninegkaladGreatDoorRows
namespace Go.Proofs.YthdgcninegkaladGreatDoor
set_option maxRecDepth 100000
theorem fnExactNodeText_j3 : (Tryz.f3.params.all (Tryz.prog.readableRec ·)) = true := by kernel_rfl
theorem fnExactNodeText_j7 : ((Rows.fnExactNodeTextRow.knobs == [])) = true := by kernel_rfl
theorem fnExactNodeText_j11 : ((Rows.fnExactNodeTextRow.recurses == Tryz.prog.recurses 3)) = true := by kernel_rfl
theorem fnExactNodeText_j15 : ((Rows.fnExactNodeTextRow.mapsOut == Tryz.prog.mapsAmong Tryz.f3.resultTypes.toList)) = true := by kernel_rfl
theorem fnExactNodeText_j19 : (Tryz.f3.resultTypes.all (fun t => Tryz.prog.readableRec t && decide (t < Tryz.prog.types.size))) = true := by kernel_rfl
theorem fnExactNodeText_j23 : (Rows.fnExactNodeTextRow.shortTexts.isNone) = true := by kernel_rfl
theorem fnExactNodeText_j27 : ((Tryz.prog.make == some Rows.fnExactNodeTextRow.make)) = true := by kernel_rfl
theorem fnExactNodeText_j31 : (Rows.fnExactNodeTextRow.veiledFits Tryz.prog Tryz.f3.params.toList (Tryz.f3.params.toList ++ Rows.fnExactNodeTextSpec.plain.varTypes Tryz.prog ++ Tryz.f3.resultTypes.toList)) = true := by kernel_rfl
end Go.Proofs.YthdgcninegkaladGreatDoor
