/-
  Closed facts of the program and of the row of FnExactObjectText, one by one. No condition.
-/
import Derived.Test.YthdgcninegkalabDoorEvU
import Derived.Test.YthdgcninegkalabDoorRows
namespace Go.Proofs.YthdgcninegkalabDoor
set_option maxRecDepth 100000
theorem fnExactObjectText_j3 : (Tryd.f3.params.all (Tryd.prog.readableRec ·)) = true := by kernel_rfl
theorem fnExactObjectText_j7 : ((Rows.fnExactObjectTextRow.knobs == [])) = true := by kernel_rfl
theorem fnExactObjectText_j11 : ((Rows.fnExactObjectTextRow.recurses == Tryd.prog.recurses 3)) = true := by kernel_rfl
theorem fnExactObjectText_j15 : ((Rows.fnExactObjectTextRow.mapsOut == Tryd.prog.mapsAmong Tryd.f3.resultTypes.toList)) = true := by kernel_rfl
theorem fnExactObjectText_j19 : (Tryd.f3.resultTypes.all (fun t => Tryd.prog.readableRec t && decide (t < Tryd.prog.types.size))) = true := by kernel_rfl
theorem fnExactObjectText_j23 : (Rows.fnExactObjectTextRow.shortTexts.isNone) = true := by kernel_rfl
theorem fnExactObjectText_j27 : ((Tryd.prog.make == some Rows.fnExactObjectTextRow.make)) = true := by kernel_rfl
theorem fnExactObjectText_j31 : (Rows.fnExactObjectTextRow.veiledFits Tryd.prog Tryd.f3.params.toList (Tryd.f3.params.toList ++ Rows.fnExactObjectTextSpec.plain.varTypes Tryd.prog ++ Tryd.f3.resultTypes.toList)) = true := by kernel_rfl
end Go.Proofs.YthdgcninegkalabDoor
