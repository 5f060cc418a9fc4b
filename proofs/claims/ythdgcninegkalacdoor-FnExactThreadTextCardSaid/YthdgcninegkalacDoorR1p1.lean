/-
  Closed facts of the program and of the row of FnExactThreadText, one by one. No condition.
-/
import Derived.Test.YthdgcninegkalacDoorEvU
import Derived.Test.YthdgcninegkalacDoorRows
namespace Go.Proofs.YthdgcninegkalacDoor
set_option maxRecDepth 100000
theorem fnExactThreadText_j1 : (laidOutB Tryd.prog) = true := by kernel_rfl
theorem fnExactThreadText_j5 : ((Rows.fnExactThreadTextRow.stops == [])) = true := by kernel_rfl
theorem fnExactThreadText_j9 : ((Rows.fnExactThreadTextRow.inPlace == Tryd.prog.inPlace 3)) = true := by kernel_rfl
theorem fnExactThreadText_j13 : ((Rows.fnExactThreadTextRow.maps == (Tryd.f3.params.toList ++ Rows.fnExactThreadTextSpec.plain.varTypes Tryd.prog).any (Tryd.prog.mapsRec ·))) = true := by kernel_rfl
theorem fnExactThreadText_j17 : ((Rows.fnExactThreadTextRow.wideKeys == (Tryd.f3.params.toList ++ Rows.fnExactThreadTextSpec.plain.varTypes Tryd.prog ++ Tryd.f3.resultTypes.toList).any (Tryd.prog.wideKeysFrom ·))) = true := by kernel_rfl
theorem fnExactThreadText_j21 : ((Rows.fnExactThreadTextRow.loopsOut == Tryd.f3.resultTypes.toList.any (Tryd.prog.loopsFrom ·))) = true := by kernel_rfl
theorem fnExactThreadText_j25 : (Tryd.prog.mayEnter) = true := by kernel_rfl
theorem fnExactThreadText_j29 : ((Rows.fnExactThreadTextRow.pinned == Rows.fnExactThreadTextRow.pinnedBy)) = true := by kernel_rfl
end Go.Proofs.YthdgcninegkalacDoor
