/-
  PROVED: the law FnExactSameObjects answers true at every argument. No condition.
-/
import Derived.Test.YtbagccfjdehgbaaEvU
import Derived.Test.YtbagccfjdehgbaaF1
import Derived.Test.YtbagccfjdehgbaaRows
namespace Go.Proofs.Ytbagccfjdehgbaa
open Go.ChangeShapes Go.WideShapes Go.ChangeAt Go.RowKit

theorem Try.own3 : ownKnob Try.prog.godebug = none := by kernel_rfl
theorem Try.laidOut3 : laidOutB Try.prog = true := by kernel_rfl

set_option maxRecDepth 100000 in
theorem fnExactSameObjects_lifted (os : Os) (started : os.Started) (H : Type) (enc : TypeId × Value → H) :
    ReturnsInHanded {} Try.checked os 3 .any (Rows.fnExactSameObjectsSpec.pre6 enc Try.prog Try.f3 Rows.fnExactSameObjectsRow.domain false) (Rows.fnExactSameObjectsSpec.post enc Try.prog Try.f3 false true false false) := by
  refine returnsInHanded_of_change (C := Try.checked) Try.own3 started (by kernel_rfl) Try.func3
    (ChangeSpec.witness6 (enc := enc) (C := Try.checked) false ⟨#[], #[.slice none 0 0, .slice none 0 0], []⟩ 8 (by kernel_rfl) (by kernel_rfl) (by kernel_rfl) (by kernel_rfl)) ?_
  intro W base args ds gs before hval hW hcnd _
  exact Ev.law_row (P := Try.prog) (fn := Try.f3) (tys := [.sl Go.F1.s2, .sl Go.F1.s2]) Go.F1.con3 (Ev.allOk_tab Go.F1.hT (by kernel_rfl)) Try.laidOut3 (by kernel_rfl) rfl rfl (by kernel_rfl) (fun ds h => by
    match ds, h with
    | [a, b], _ => rfl) hval hW

theorem fnExactSameObjects_holds : Rows.FnExactSameObjectsSaid :=
  OpenClaim.holds_of_wide 3 Try.f3 rfl rfl rfl rfl rfl rfl rfl ⟨rfl, rfl, rfl, rfl, rfl⟩ rfl rfl rfl rfl rfl (by kernel_rfl) Try.func3 (by kernel_rfl)
    (of_decide_eq_true (by kernel_rfl)) (by unfold Func.isWrapper; first | (rw [if_pos (by decide +kernel)]; kernel_rfl) | (rw [if_neg (by decide +kernel)]; exact ⟨rfl, rfl⟩))
    (fun os started H enc _ => fnExactSameObjects_lifted os started H enc)
#print axioms fnExactSameObjects_holds
end Go.Proofs.Ytbagccfjdehgbaa
