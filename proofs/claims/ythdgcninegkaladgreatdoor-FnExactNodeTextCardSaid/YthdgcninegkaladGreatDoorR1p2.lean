/-
  Closed facts of the program and of the row of FnExactNodeText, one by one. No condition.
-/
import Derived.Test.YthdgcninegkaladGreatDoorEvU
import Derived.Test.YthdgcninegkaladGreatDoorRows
namespace Go.Proofs.YthdgcninegkaladGreatDoor
set_option maxRecDepth 100000
theorem fnExactNodeText_j2 : (mapsRowed Tryz.prog) = true := by kernel_rfl
theorem fnExactNodeText_j6 : ((Tryz.prog.stops == [])) = true := by kernel_rfl
theorem fnExactNodeText_j10 : ((Rows.fnExactNodeTextRow.unfollowed == Tryz.prog.unfollowed 3)) = true := by kernel_rfl
theorem fnExactNodeText_j14 : ((Rows.fnExactNodeTextRow.ifaces == (Tryz.f3.params.toList ++ Rows.fnExactNodeTextSpec.plain.varTypes Tryz.prog).any (Tryz.prog.ifacesRec ·))) = true := by kernel_rfl
theorem fnExactNodeText_j18 : (Rows.fnExactNodeTextSpec.vars.all (Tryz.prog.varReadable ·)) = true := by kernel_rfl
theorem fnExactNodeText_j22 : ((Rows.fnExactNodeTextRow.plainKeys == Tryz.prog.plainKeys)) = true := by kernel_rfl
theorem fnExactNodeText_j26 : ((Rows.fnExactNodeTextRow.lifted == Tryz.prog.liftsFinal)) = true := by kernel_rfl
theorem fnExactNodeText_j30 : ((Rows.fnExactNodeTextRow.veiled == (Tryz.f3.params.toList ++ Rows.fnExactNodeTextSpec.plain.varTypes Tryz.prog ++ Tryz.f3.resultTypes.toList).any (Tryz.prog.veiledRec ·))) = true := by kernel_rfl
end Go.Proofs.YthdgcninegkaladGreatDoor
