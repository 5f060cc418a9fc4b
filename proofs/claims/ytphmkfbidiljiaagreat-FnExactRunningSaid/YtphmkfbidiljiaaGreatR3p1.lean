/-
  Closed facts of the program and of the row of FnExactRunning, one by one. No condition.
-/
import Derived.Test.YtphmkfbidiljiaaGreatEvU
import Derived.Test.YtphmkfbidiljiaaGreatRows
namespace Go.Proofs.YtphmkfbidiljiaaGreat
set_option maxRecDepth 100000
theorem fnExactRunning_j1 : (laidOutB Tryz.prog) = true := by kernel_rfl
theorem fnExactRunning_j5 : ((Rows.fnExactRunningRow.stops == [])) = true := by kernel_rfl
theorem fnExactRunning_j9 : ((Rows.fnExactRunningRow.inPlace == Tryz.prog.inPlace 3)) = true := by kernel_rfl
theorem fnExactRunning_j13 : ((Rows.fnExactRunningRow.maps == (Tryz.f3.params.toList ++ Rows.fnExactRunningSpec.plain.varTypes Tryz.prog).any (Tryz.prog.mapsRec ·))) = true := by kernel_rfl
theorem fnExactRunning_j17 : ((Rows.fnExactRunningRow.wideKeys == (Tryz.f3.params.toList ++ Rows.fnExactRunningSpec.plain.varTypes Tryz.prog ++ Tryz.f3.resultTypes.toList).any (Tryz.prog.wideKeysFrom ·))) = true := by kernel_rfl
theorem fnExactRunning_j21 : ((Rows.fnExactRunningRow.loopsOut == Tryz.f3.resultTypes.toList.any (Tryz.prog.loopsFrom ·))) = true := by kernel_rfl
theorem fnExactRunning_j25 : (Tryz.prog.mayEnter) = true := by kernel_rfl
theorem fnExactRunning_j29 : ((Rows.fnExactRunningRow.pinned == Rows.fnExactRunningRow.pinnedBy)) = true := by kernel_rfl
end Go.Proofs.YtphmkfbidiljiaaGreat
