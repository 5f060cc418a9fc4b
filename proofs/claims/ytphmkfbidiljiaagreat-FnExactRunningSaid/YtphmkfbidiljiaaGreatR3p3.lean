/-
  Closed facts of the program and of the row of FnExactRunning, one by one. No condition.
-/
import Derived.Test.YtphmkfbidiljiaaGreatEvU
import Derived.Test.YtphmkfbidiljiaaGreatRows
namespace Go.Proofs.YtphmkfbidiljiaaGreat
set_option maxRecDepth 100000
theorem fnExactRunning_j3 : (Tryz.f3.params.all (Tryz.prog.readableRec ·)) = true := by kernel_rfl
theorem fnExactRunning_j7 : ((Rows.fnExactRunningRow.knobs == [])) = true := by kernel_rfl
theorem fnExactRunning_j11 : ((Rows.fnExactRunningRow.recurses == Tryz.prog.recurses 3)) = true := by kernel_rfl
theorem fnExactRunning_j15 : ((Rows.fnExactRunningRow.mapsOut == Tryz.prog.mapsAmong Tryz.f3.resultTypes.toList)) = true := by kernel_rfl
theorem fnExactRunning_j19 : (Tryz.f3.resultTypes.all (fun t => Tryz.prog.readableRec t && decide (t < Tryz.prog.types.size))) = true := by kernel_rfl
theorem fnExactRunning_j23 : (Rows.fnExactRunningRow.shortTexts.isNone) = true := by kernel_rfl
theorem fnExactRunning_j27 : ((Tryz.prog.make == some Rows.fnExactRunningRow.make)) = true := by kernel_rfl
theorem fnExactRunning_j31 : (Rows.fnExactRunningRow.veiledFits Tryz.prog Tryz.f3.params.toList (Tryz.f3.params.toList ++ Rows.fnExactRunningSpec.plain.varTypes Tryz.prog ++ Tryz.f3.resultTypes.toList)) = true := by kernel_rfl
end Go.Proofs.YtphmkfbidiljiaaGreat
