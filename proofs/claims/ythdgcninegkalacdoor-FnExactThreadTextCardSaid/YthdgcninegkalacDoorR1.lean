/-
  PROVED: the law FnExactThreadText answers true at every argument (its tied card). No condition of its own; the three tables of the library's that the row lists stand as the program's text lays them.
-/
import Derived.Test.YthdgcninegkalacDoorEvY
import Derived.Test.YthdgcninegkalacDoorF1
import Derived.Test.YthdgcninegkalacDoorR1p0
import Derived.Test.YthdgcninegkalacDoorR1p1
import Derived.Test.YthdgcninegkalacDoorR1p2
import Derived.Test.YthdgcninegkalacDoorR1p3
import Derived.Test.YthdgcninegkalacDoorRows
import Derived.Test.YthdgcninegkalacDoorCards
import Derived.Test.YthdgcninegkalacDoorTie
import Derived.LaidLaws
import Derived.Stop.LaidErr
import Derived.SevenTiedAt
namespace Go.Proofs.YthdgcninegkalacDoor
open Go.ChangeShapes Go.WideShapes Go.ChangeAt Go.RowKit

theorem Tryd.own3 : ownKnob Tryd.prog.godebug = none := by kernel_rfl
theorem Tryd.laidOut3 : laidOutB Tryd.prog = true := by kernel_rfl

/-- A world in which the listed tables stand. -/
def setCells (cs : Array Value) : Obj → Obj
  | .cells _ t frozen => .cells cs t frozen
  | o => o
noncomputable def laidWorld (os : Os) : World :=
  let w0 := World.holding Tryd.prog os ⟨#[], #[], []⟩
  { w0 with heap := ((((((w0.heap).modify 2 (setCells #[.int .u8 0, .int .u8 1, .int .u8 28, .int .u8 2, .int .u8 29, .int .u8 14, .int .u8 24, .int .u8 3, .int .u8 30, .int .u8 22, .int .u8 20, .int .u8 15, .int .u8 25, .int .u8 17, .int .u8 4, .int .u8 8, .int .u8 31, .int .u8 27, .int .u8 13, .int .u8 23, .int .u8 21, .int .u8 19, .int .u8 16, .int .u8 7, .int .u8 26, .int .u8 12, .int .u8 18, .int .u8 6, .int .u8 11, .int .u8 5, .int .u8 10, .int .u8 9]))).modify 3 (setCells #[.int .u8 0, .int .u8 1, .int .u8 56, .int .u8 2, .int .u8 57, .int .u8 49, .int .u8 28, .int .u8 3, .int .u8 61, .int .u8 58, .int .u8 42, .int .u8 50, .int .u8 38, .int .u8 29, .int .u8 17, .int .u8 4, .int .u8 62, .int .u8 47, .int .u8 59, .int .u8 36, .int .u8 45, .int .u8 43, .int .u8 51, .int .u8 22, .int .u8 53, .int .u8 39, .int .u8 33, .int .u8 30, .int .u8 24, .int .u8 18, .int .u8 12, .int .u8 5, .int .u8 63, .int .u8 55, .int .u8 48, .int .u8 27, .int .u8 60, .int .u8 41, .int .u8 37, .int .u8 16, .int .u8 46, .int .u8 35, .int .u8 44, .int .u8 21, .int .u8 52, .int .u8 32, .int .u8 23, .int .u8 11, .int .u8 54, .int .u8 26, .int .u8 40, .int .u8 15, .int .u8 34, .int .u8 20, .int .u8 31, .int .u8 10, .int .u8 25, .int .u8 14, .int .u8 19, .int .u8 9, .int .u8 13, .int .u8 8, .int .u8 7, .int .u8 6]))).modify 0 (setCells #[.int .u64 1, .int .u64 10, .int .u64 100, .int .u64 1000, .int .u64 10000, .int .u64 100000, .int .u64 1000000, .int .u64 10000000, .int .u64 100000000, .int .u64 1000000000, .int .u64 10000000000, .int .u64 100000000000, .int .u64 1000000000000, .int .u64 10000000000000, .int .u64 100000000000000, .int .u64 1000000000000000, .int .u64 10000000000000000, .int .u64 100000000000000000, .int .u64 1000000000000000000, .int .u64 10000000000000000000])) }
abbrev wArgs : Array Value := #[.agg #[.slice none 0 0], .agg #[.int .i64 0, .slice none 0 0, .int .i64 0, .int .i64 0]]
set_option maxRecDepth 100000 in
theorem laidWorld_met (os : Os) : laidMetH Tryd.prog Rows.fnExactThreadTextRow.laid ((laidWorld os).forCall (fun _ _ => 0) ⟨#[], wArgs, []⟩).memory :=
  show laidMet Tryd.prog Rows.fnExactThreadTextRow.laid _ from laidMet_of_run' 8 (by kernel_rfl) (by kernel_rfl)
noncomputable def tabT : TypeId := ((Tryd.prog.globals[0]?).map (·.type)).getD 0
set_option maxRecDepth 100000 in
theorem tab_of {W : World} (hL : laidMetH Tryd.prog Rows.fnExactThreadTextRow.laid W) : Go.F1.E.inv W := by
  have hL' : laidMet Tryd.prog Rows.fnExactThreadTextRow.laid W := hL
  exact Lib.tabIs_of_head (k := .u64) (zs := Lib.pow10Tab) (t := tabT) (e := Ev.arrE Tryd.prog tabT) (n := 20) Go.F1.tabG (by kernel_rfl) (by kernel_rfl) (by kernel_rfl) (by kernel_rfl) (by kernel_rfl) (laidMet.tail (laidMet.tail hL'))

set_option maxRecDepth 100000 in
theorem fnExactThreadText_lifted (os : Os) (started : os.Started) (H : Type) (enc : TypeId × Value → H) :
    ReturnsInHanded {} Tryd.checked os 3 .any (fun w args => (Rows.fnExactThreadTextSpec.pre enc Tryd.prog Tryd.f3 [] false w args ∧ laidMetH Tryd.prog Rows.fnExactThreadTextRow.laid w) ∧ sizedMet enc Tryd.prog Tryd.f3 (OpenSpec.ofChange Rows.fnExactThreadTextSpec) false w args) (Rows.fnExactThreadTextSpec.post enc Tryd.prog Tryd.f3 false true false false) := by
  refine returnsInHanded_of_change_and (C := Tryd.checked) (X := fun w _ => laidMetH Tryd.prog Rows.fnExactThreadTextRow.laid w) (fun _ _ _ hh h => h.of_heap hh) Tryd.own3 started (by kernel_rfl) Tryd.func3
    (ChangeSpec.witness_at (enc := enc) (C := Tryd.checked) (os := os) (X := fun w _ => laidMetH Tryd.prog Rows.fnExactThreadTextRow.laid w) false (laidWorld os) wArgs 8 rfl (by kernel_rfl) (by kernel_rfl) (by kernel_rfl) (by kernel_rfl) (by kernel_rfl) (laidWorld_met os)) ?_
  intro W base args ds gs before hval hW _ _ hL _
  exact Ev.law_row (P := Tryd.prog) (fn := Tryd.f3) (tys := [Go.F1.s6, Go.F1.s9]) Go.F1.con3 (Ev.allOk_tab Go.F1.hT (by kernel_rfl)) Tryd.laidOut3 (by kernel_rfl) rfl rfl (by kernel_rfl) (fun ds h => by
    match ds, h with
    | [a, b], _ => rfl) hval hW (tab_of hL)

set_option maxRecDepth 100000 in
theorem fnExactThreadText_closed : joinedFacts Tryd.prog 3 Tryd.f3 Rows.fnExactThreadTextSpec Rows.fnExactThreadTextRow = true :=
  @Ev.joined_of Tryd.prog 3 Tryd.f3 Rows.fnExactThreadTextSpec Rows.fnExactThreadTextRow fnExactThreadText_j0 fnExactThreadText_j1 fnExactThreadText_j2 fnExactThreadText_j3 fnExactThreadText_j4 fnExactThreadText_j5 fnExactThreadText_j6 fnExactThreadText_j7 fnExactThreadText_j8 fnExactThreadText_j9 fnExactThreadText_j10 fnExactThreadText_j11 fnExactThreadText_j12 fnExactThreadText_j13 fnExactThreadText_j14 fnExactThreadText_j15 fnExactThreadText_j16 fnExactThreadText_j17 fnExactThreadText_j18 fnExactThreadText_j19 fnExactThreadText_j20 fnExactThreadText_j21 fnExactThreadText_j22 fnExactThreadText_j23 fnExactThreadText_j24 fnExactThreadText_j25 fnExactThreadText_j26 fnExactThreadText_j27 fnExactThreadText_j28 fnExactThreadText_j29 fnExactThreadText_j30 fnExactThreadText_j31
theorem fnExactThreadText_named : Tryd.prog.funcNamed Rows.fnExactThreadTextRow.func = some 3 := by kernel_rfl
theorem fnExactThreadText_inst : Tryd.f3.isInstance Tryd.prog Rows.fnExactThreadTextRow.origin Rows.fnExactThreadTextRow.targs := of_decide_eq_true (by kernel_rfl)
theorem fnExactThreadText_wrap : Tryd.f3.isWrapper Tryd.prog Rows.fnExactThreadTextRow.wrapper Rows.fnExactThreadTextRow.mainSum := by
  unfold Func.isWrapper; first | (rw [if_pos (by decide +kernel)]; kernel_rfl) | (rw [if_neg (by decide +kernel)]; exact ⟨rfl, rfl⟩)

theorem fnExactThreadText_row : Rows.fnExactThreadTextRow.holds Tryd.pinned (OpenSpec.ofChange Rows.fnExactThreadTextSpec) :=
  OpenClaim.holds_of_wide 3 Tryd.f3 rfl rfl rfl rfl rfl rfl rfl ⟨rfl, rfl, rfl, rfl, rfl⟩ rfl rfl rfl rfl rfl fnExactThreadText_named Tryd.func3 fnExactThreadText_closed fnExactThreadText_inst fnExactThreadText_wrap
    (fun os started H enc _ => fnExactThreadText_lifted os started H enc)
theorem fnExactThreadText_plain : (Tryd.f3.params.toList.all fun t => !Tryd.prog.wantsStandIn t) = true := by kernel_rfl
theorem fnExactThreadText_holds : Rows.FnExactThreadTextCardSaid :=
  Claim7.holds_tied_plain_at .later [] [.data, .data, .data] true (true, "bc73c838fa7b793d09845309d6610fea9e329490c74c040ed2c18c0abab44ef8") false
    fnExactThreadText_row (fun _ h => by cases h) (by kernel_rfl) (fun _ h => by cases h) fnExactThreadText_row_tie rfl ⟨rfl, rfl⟩ (by kernel_rfl) rfl
    (fun f fn hf hfn => by
      obtain rfl : f = 3 := Option.some.inj (fnExactThreadText_named.symm.trans hf) |>.symm
      obtain rfl : fn = Tryd.f3 := (Option.some.inj (Tryd.func3.symm.trans hfn)).symm
      exact ⟨by kernel_rfl, fun j t ht => by
        have h := List.all_eq_true.1 fnExactThreadText_plain t (by rw [← Array.getElem?_toList] at ht; exact List.mem_of_getElem? ht)
        show Tryd.prog.wantsStandIn t = false
        simpa using h⟩)
    (by kernel_rfl)
#print axioms fnExactThreadText_holds
end Go.Proofs.YthdgcninegkalacDoor
