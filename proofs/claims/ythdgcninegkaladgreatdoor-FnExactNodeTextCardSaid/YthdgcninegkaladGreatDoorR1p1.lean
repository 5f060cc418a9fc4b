/-
  Closed facts of the program and of the row of FnExactNodeText, one by one. No condition.
-/
import Derived.Test.YthdgcninegkaladGreatDoorEvU
import Derived.Test.YthdgcninegkaladGreatDoorRows
namespace Go.Proofs.YthdgcninegkaladGreatDoor
set_option maxRecDepth 100000
theorem fnExactNodeText_j1 : (laidOutB Tryz.prog) = true := by kernel_rfl
theorem fnExactNodeText_j5 : ((Rows.fnExactNodeTextRow.stops == [])) = true := by kernel_rfl
theorem fnExactNodeText_j9 : ((Rows.fnExactNodeTextRow.inPlace == Tryz.prog.inPlace 3)) = true := by kernel_rfl
theorem fnExactNodeText_j13 : ((Rows.fnExactNodeTextRow.maps == (Tryz.f3.params.toList ++ Rows.fnExactNodeTextSpec.plain.varTypes Tryz.prog).any (Tryz.prog.mapsRec ·))) = true := by kernel_rfl
theorem fnExactNodeText_j17 : ((Rows.fnExactNodeTextRow.wideKeys == (Tryz.f3.params.toList ++ Rows.fnExactNodeTextSpec.plain.varTypes Tryz.prog ++ Tryz.f3.resultTypes.toList).any (Tryz.prog.wideKeysFrom ·))) = true := by kernel_rfl
theorem fnExactNodeText_j21 : ((Rows.fnExactNodeTextRow.loopsOut == Tryz.f3.resultTypes.toList.any (Tryz.prog.loopsFrom ·))) = true := by kernel_rfl
theorem fnExactNodeText_j25 : (Tryz.prog.mayEnter) = true := by kernel_rfl
theorem fnExactNodeText_j29 : ((Rows.fnExactNodeTextRow.pinned == Rows.fnExactNodeTextRow.pinnedBy)) = true := by kernel_rfl
end Go.Proofs.YthdgcninegkaladGreatDoor
