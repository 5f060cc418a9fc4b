/-
  Closed facts of the program and of the row of FnExactObjectText, one by one. No condition.
-/
import Derived.Test.YthdgcninegkalabDoorEvU
import Derived.Test.YthdgcninegkalabDoorRows
namespace Go.Proofs.YthdgcninegkalabDoor
set_option maxRecDepth 100000
theorem fnExactObjectText_j2 : (mapsRowed Tryd.prog) = true := by kernel_rfl
theorem fnExactObjectText_j6 : ((Tryd.prog.stops == [])) = true := by kernel_rfl
theorem fnExactObjectText_j10 : ((Rows.fnExactObjectTextRow.unfollowed == Tryd.prog.unfollowed 3)) = true := by kernel_rfl
theorem fnExactObjectText_j14 : ((Rows.fnExactObjectTextRow.ifaces == (Tryd.f3.params.toList ++ Rows.fnExactObjectTextSpec.plain.varTypes Tryd.prog).any (Tryd.prog.ifacesRec ·))) = true := by kernel_rfl
theorem fnExactObjectText_j18 : (Rows.fnExactObjectTextSpec.vars.all (Tryd.prog.varReadable ·)) = true := by kernel_rfl
theorem fnExactObjectText_j22 : ((Rows.fnExactObjectTextRow.plainKeys == Tryd.prog.plainKeys)) = true := by kernel_rfl
theorem fnExactObjectText_j26 : ((Rows.fnExactObjectTextRow.lifted == Tryd.prog.liftsFinal)) = true := by kernel_rfl
theorem fnExactObjectText_j30 : ((Rows.fnExactObjectTextRow.veiled == (Tryd.f3.params.toList ++ Rows.fnExactObjectTextSpec.plain.varTypes Tryd.prog ++ Tryd.f3.resultTypes.toList).any (Tryd.prog.veiledRec ·))) = true := by kernel_rfl
end Go.Proofs.YthdgcninegkalabDoor
