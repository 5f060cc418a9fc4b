/-
  Closed facts of the program and of the row of FnExactRunning, one by one. No condition.
-/
import Derived.Test.YtphmkfbidiljiaaGreatEvU
import Derived.Test.YtphmkfbidiljiaaGreatRows
namespace Go.Proofs.YtphmkfbidiljiaaGreat
set_option maxRecDepth 100000
theorem fnExactRunning_j2 : (mapsRowed Tryz.prog) = true := by kernel_rfl
theorem fnExactRunning_j6 : ((Tryz.prog.stops == [])) = true := by kernel_rfl
theorem fnExactRunning_j10 : ((Rows.fnExactRunningRow.unfollowed == Tryz.prog.unfollowed 3)) = true := by kernel_rfl
theorem fnExactRunning_j14 : ((Rows.fnExactRunningRow.ifaces == (Tryz.f3.params.toList ++ Rows.fnExactRunningSpec.plain.varTypes Tryz.prog).any (Tryz.prog.ifacesRec ·))) = true := by kernel_rfl
theorem fnExactRunning_j18 : (Rows.fnExactRunningSpec.vars.all (Tryz.prog.varReadable ·)) = true := by kernel_rfl
theorem fnExactRunning_j22 : ((Rows.fnExactRunningRow.plainKeys == Tryz.prog.plainKeys)) = true := by kernel_rfl
theorem fnExactRunning_j26 : ((Rows.fnExactRunningRow.lifted == Tryz.prog.liftsFinal)) = true := by kernel_rfl
theorem fnExactRunning_j30 : ((Rows.fnExactRunningRow.veiled == (Tryz.f3.params.toList ++ Rows.fnExactRunningSpec.plain.varTypes Tryz.prog ++ Tryz.f3.resultTypes.toList).any (Tryz.prog.veiledRec ·))) = true := by kernel_rfl
end Go.Proofs.YtphmkfbidiljiaaGreat
