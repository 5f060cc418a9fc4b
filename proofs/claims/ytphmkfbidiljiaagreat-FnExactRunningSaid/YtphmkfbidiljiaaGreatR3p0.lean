/-
  Closed facts of the program and of the row of FnExactRunning, one by one. No condition.
-/
import Derived.Test.YtphmkfbidiljiaaGreatEvU
import Derived.Test.YtphmkfbidiljiaaGreatRows
namespace Go.Proofs.YtphmkfbidiljiaaGreat
set_option maxRecDepth 100000
theorem fnExactRunning_j0 : (Rows.fnExactRunningRow.wf (OpenSpec.ofChange Rows.fnExactRunningSpec)) = true := by kernel_rfl
theorem fnExactRunning_j4 : (namedTie Tryz.prog Rows.fnExactRunningRow.named Rows.fnExactRunningSpec.vars) = true := by kernel_rfl
theorem fnExactRunning_j8 : ((Tryz.prog.stopKnobs == [])) = true := by kernel_rfl
theorem fnExactRunning_j12 : ((Rows.fnExactRunningRow.named == Tryz.prog.varsNamed 3)) = true := by kernel_rfl
theorem fnExactRunning_j16 : ((Rows.fnExactRunningRow.loops == (Tryz.f3.params.toList ++ Rows.fnExactRunningSpec.plain.varTypes Tryz.prog).any (Tryz.prog.loopsFrom ·))) = true := by kernel_rfl
theorem fnExactRunning_j20 : ((Rows.fnExactRunningRow.ifacesOut == Tryz.f3.resultTypes.toList.any (Tryz.prog.ifacesRec ·))) = true := by kernel_rfl
theorem fnExactRunning_j24 : (Tryz.prog.stopsHeard) = true := by kernel_rfl
theorem fnExactRunning_j28 : ((Rows.fnExactRunningRow.kinds == (if Rows.fnExactRunningRow.domain.isEmpty then [] else Tryz.f3.params.toList.map fun t => match Tryz.prog.underlying t with | some (.int k) => some k | _ => none))) = true := by kernel_rfl
end Go.Proofs.YtphmkfbidiljiaaGreat
