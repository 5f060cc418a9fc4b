/-
  PROVED: the law FnExactSameThread answers true at every argument. No condition.
-/
import Derived.Test.YtbagccfjdehgbaaEvU
import Derived.Test.YtbagccfjdehgbaaF1
import Derived.Test.YtbagccfjdehgbaaRows
namespace Go.Proofs.Ytbagccfjdehgbaa
open Go.ChangeShapes Go.WideShapes Go.ChangeAt Go.RowKit

theorem Try.own4 : ownKnob Try.prog.godebug = none := by kernel_rfl
theorem Try.laidOut4 : laidOutB Try.prog = true := by kernel_rfl

set_option maxRecDepth 100000 in
theorem fnExactSameThread_lifted (os : Os) (started : os.Started) (H : Type) (enc : TypeId × Value → H) :
    ReturnsInHanded {} Try.checked os 4 .any (Rows.fnExactSameThreadSpec.pre6 enc Try.prog Try.f4 Rows.fnExactSameThreadRow.domain false) (Rows.fnExactSameThreadSpec.post enc Try.prog Try.f4 false true false false) := by
  refine returnsInHanded_of_change (C := Try.checked) Try.own4 started (by kernel_rfl) Try.func4
    (ChangeSpec.witness6 (enc := enc) (C := Try.checked) false ⟨#[], #[.agg #[.int .i64 0, .slice none 0 0, .int .i64 0, .int .i64 0], .agg #[.int .i64 0, .slice none 0 0, .int .i64 0, .int .i64 0]], []⟩ 8 (by kernel_rfl) (by kernel_rfl) (by kernel_rfl) (by kernel_rfl)) ?_
  intro W base args ds gs before hval hW hcnd _
  exact Ev.law_row (P := Try.prog) (fn := Try.f4) (tys := [Go.F1.s4, Go.F1.s4]) Go.F1.con4 (Ev.allOk_tab Go.F1.hT (by kernel_rfl)) Try.laidOut4 (by kernel_rfl) rfl rfl (by kernel_rfl) (fun ds h => by
    match ds, h with
    | [a, b], _ => rfl) hval hW

theorem fnExactSameThread_holds : Rows.FnExactSameThreadSaid :=
  OpenClaim.holds_of_wide 4 Try.f4 rfl rfl rfl rfl rfl rfl rfl ⟨rfl, rfl, rfl, rfl, rfl⟩ rfl rfl rfl rfl rfl (by kernel_rfl) Try.func4 (by kernel_rfl)
    (of_decide_eq_true (by kernel_rfl)) (by unfold Func.isWrapper; first | (rw [if_pos (by decide +kernel)]; kernel_rfl) | (rw [if_neg (by decide +kernel)]; exact ⟨rfl, rfl⟩))
    (fun os started H enc _ => fnExactSameThread_lifted os started H enc)
#print axioms fnExactSameThread_holds
end Go.Proofs.Ytbagccfjdehgbaa
