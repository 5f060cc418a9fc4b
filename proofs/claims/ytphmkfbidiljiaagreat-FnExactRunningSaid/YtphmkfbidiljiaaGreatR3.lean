/-
  PROVED: the law FnExactRunning answers true at every argument. No condition.
-/
import Derived.Test.YtphmkfbidiljiaaGreatEvY
import Derived.Test.YtphmkfbidiljiaaGreatF2c
import Derived.Test.YtphmkfbidiljiaaGreatR3p0
import Derived.Test.YtphmkfbidiljiaaGreatR3p1
import Derived.Test.YtphmkfbidiljiaaGreatR3p2
import Derived.Test.YtphmkfbidiljiaaGreatR3p3
import Derived.Test.YtphmkfbidiljiaaGreatRows
namespace Go.Proofs.YtphmkfbidiljiaaGreat
open Go.ChangeShapes Go.WideShapes Go.ChangeAt Go.RowKit

theorem Tryz.own3 : ownKnob Tryz.prog.godebug = none := by kernel_rfl
theorem Tryz.laidOut3 : laidOutB Tryz.prog = true := by kernel_rfl

set_option maxRecDepth 100000 in
theorem fnExactRunning_lifted (os : Os) (started : os.Started) (H : Type) (enc : TypeId × Value → H) :
    ReturnsInHanded {} Tryz.checked os 3 .any (Rows.fnExactRunningSpec.pre6 enc Tryz.prog Tryz.f3 Rows.fnExactRunningRow.domain false) (Rows.fnExactRunningSpec.post enc Tryz.prog Tryz.f3 false true false false) := by
  refine returnsInHanded_of_change (C := Tryz.checked) Tryz.own3 started (by kernel_rfl) Tryz.func3
    (ChangeSpec.witness6 (enc := enc) (C := Tryz.checked) false ⟨#[], #[.agg #[.slice none 0 0, .int .i64 0, .slice none 0 0, .int .i64 0, .slice none 0 0, .slice none 0 0, .slice none 0 0]], []⟩ 8 (by kernel_rfl) (by kernel_rfl) (by kernel_rfl) (by kernel_rfl)) ?_
  intro W base args ds gs before hval hW hcnd _
  exact Ev.law_row (P := Tryz.prog) (fn := Tryz.f3) (tys := [Go.F2.s23]) Go.F2.con3 (Ev.allOk_tab Go.F2.hT (by kernel_rfl)) Tryz.laidOut3 (by kernel_rfl) rfl rfl (by kernel_rfl) (fun ds h => by
    match ds, h with
    | [a], _ => rfl) hval hW

set_option maxRecDepth 100000 in
theorem fnExactRunning_closed : joinedFacts Tryz.prog 3 Tryz.f3 Rows.fnExactRunningSpec Rows.fnExactRunningRow = true :=
  @Ev.joined_of Tryz.prog 3 Tryz.f3 Rows.fnExactRunningSpec Rows.fnExactRunningRow fnExactRunning_j0 fnExactRunning_j1 fnExactRunning_j2 fnExactRunning_j3 fnExactRunning_j4 fnExactRunning_j5 fnExactRunning_j6 fnExactRunning_j7 fnExactRunning_j8 fnExactRunning_j9 fnExactRunning_j10 fnExactRunning_j11 fnExactRunning_j12 fnExactRunning_j13 fnExactRunning_j14 fnExactRunning_j15 fnExactRunning_j16 fnExactRunning_j17 fnExactRunning_j18 fnExactRunning_j19 fnExactRunning_j20 fnExactRunning_j21 fnExactRunning_j22 fnExactRunning_j23 fnExactRunning_j24 fnExactRunning_j25 fnExactRunning_j26 fnExactRunning_j27 fnExactRunning_j28 fnExactRunning_j29 fnExactRunning_j30 fnExactRunning_j31
theorem fnExactRunning_named : Tryz.prog.funcNamed Rows.fnExactRunningRow.func = some 3 := by kernel_rfl
theorem fnExactRunning_inst : Tryz.f3.isInstance Tryz.prog Rows.fnExactRunningRow.origin Rows.fnExactRunningRow.targs := of_decide_eq_true (by kernel_rfl)
theorem fnExactRunning_wrap : Tryz.f3.isWrapper Tryz.prog Rows.fnExactRunningRow.wrapper Rows.fnExactRunningRow.mainSum := by
  unfold Func.isWrapper; first | (rw [if_pos (by decide +kernel)]; kernel_rfl) | (rw [if_neg (by decide +kernel)]; exact ⟨rfl, rfl⟩)

theorem fnExactRunning_holds : Rows.FnExactRunningSaid :=
  OpenClaim.holds_of_wide 3 Tryz.f3 rfl rfl rfl rfl rfl rfl rfl ⟨rfl, rfl, rfl, rfl, rfl⟩ rfl rfl rfl rfl rfl fnExactRunning_named Tryz.func3 fnExactRunning_closed
    fnExactRunning_inst fnExactRunning_wrap
    (fun os started H enc _ => fnExactRunning_lifted os started H enc)
#print axioms fnExactRunning_holds
end Go.Proofs.YtphmkfbidiljiaaGreat
