/-
  Closed facts of the program and of the row of FnExactObjectText, one by one. No condition.
-/
import Derived.Test.YthdgcninegkalabDoorEvU
import Derived.Test.YthdgcninegkalabDoorRows
namespace Go.Proofs.YthdgcninegkalabDoor
set_option maxRecDepth 100000
theorem fnExactObjectText_j1 : (laidOutB Tryd.prog) = true := by kernel_rfl
theorem fnExactObjectText_j5 : ((Rows.fnExactObjectTextRow.stops == [])) = true := by kernel_rfl
theorem fnExactObjectText_j9 : ((Rows.fnExactObjectTextRow.inPlace == Tryd.prog.inPlace 3)) = true := by kernel_rfl
theorem fnExactObjectText_j13 : ((Rows.fnExactObjectTextRow.maps == (Tryd.f3.params.toList ++ Rows.fnExactObjectTextSpec.plain.varTypes Tryd.prog).any (Tryd.prog.mapsRec ·))) = true := by kernel_rfl
theorem fnExactObjectText_j17 : ((Rows.fnExactObjectTextRow.wideKeys == (Tryd.f3.params.toList ++ Rows.fnExactObjectTextSpec.plain.varTypes Tryd.prog ++ Tryd.f3.resultTypes.toList).any (Tryd.prog.wideKeysFrom ·))) = true := by kernel_rfl
theorem fnExactObjectText_j21 : ((Rows.fnExactObjectTextRow.loopsOut == Tryd.f3.resultTypes.toList.any (Tryd.prog.loopsFrom ·))) = true := by kernel_rfl
theorem fnExactObjectText_j25 : (Tryd.prog.mayEnter) = true := by kernel_rfl
theorem fnExactObjectText_j29 : ((Rows.fnExactObjectTextRow.pinned == Rows.fnExactObjectTextRow.pinnedBy)) = true := by kernel_rfl
end Go.Proofs.YthdgcninegkalabDoor
