/-
  Closed facts of the program and of the row of FnExactThreadText, one by one. No condition.
-/
import Derived.Test.YthdgcninegkalacDoorEvU
import Derived.Test.YthdgcninegkalacDoorRows
namespace Go.Proofs.YthdgcninegkalacDoor
set_option maxRecDepth 100000
theorem fnExactThreadText_j2 : (mapsRowed Tryd.prog) = true := by kernel_rfl
theorem fnExactThreadText_j6 : ((Tryd.prog.stops == [])) = true := by kernel_rfl
theorem fnExactThreadText_j10 : ((Rows.fnExactThreadTextRow.unfollowed == Tryd.prog.unfollowed 3)) = true := by kernel_rfl
theorem fnExactThreadText_j14 : ((Rows.fnExactThreadTextRow.ifaces == (Tryd.f3.params.toList ++ Rows.fnExactThreadTextSpec.plain.varTypes Tryd.prog).any (Tryd.prog.ifacesRec ·))) = true := by kernel_rfl
theorem fnExactThreadText_j18 : (Rows.fnExactThreadTextSpec.vars.all (Tryd.prog.varReadable ·)) = true := by kernel_rfl
theorem fnExactThreadText_j22 : ((Rows.fnExactThreadTextRow.plainKeys == Tryd.prog.plainKeys)) = true := by kernel_rfl
theorem fnExactThreadText_j26 : ((Rows.fnExactThreadTextRow.lifted == Tryd.prog.liftsFinal)) = true := by kernel_rfl
theorem fnExactThreadText_j30 : ((Rows.fnExactThreadTextRow.veiled == (Tryd.f3.params.toList ++ Rows.fnExactThreadTextSpec.plain.varTypes Tryd.prog ++ Tryd.f3.resultTypes.toList).any (Tryd.prog.veiledRec ·))) = true := by kernel_rfl
end Go.Proofs.YthdgcninegkalacDoor
