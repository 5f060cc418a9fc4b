/-
  PROVED: the law FnExactNodeText answers true at every argument (its tied card). No condition of its own; the three tables of the library's that the row lists stand as the program's text lays them.
-/
import Derived.Test.YthdgcninegkaladGreatDoorEvY
import Derived.Test.YthdgcninegkaladGreatDoorF1
import Derived.Test.YthdgcninegkaladGreatDoorR1p0
import Derived.Test.YthdgcninegkaladGreatDoorR1p1
import Derived.Test.YthdgcninegkaladGreatDoorR1p2
import Derived.Test.YthdgcninegkaladGreatDoorR1p3
import Derived.Test.YthdgcninegkaladGreatDoorRows
import Derived.Test.YthdgcninegkaladGreatDoorCards
import Derived.Test.YthdgcninegkaladGreatDoorTie
import Derived.LaidLaws
import Derived.Stop.LaidErr
import Derived.SevenTiedAt
namespace Go.Proofs.YthdgcninegkaladGreatDoor
open Go.ChangeShapes Go.WideShapes Go.ChangeAt Go.RowKit

theorem Tryz.own3 : ownKnob Tryz.prog.godebug = none := by kernel_rfl
theorem Tryz.laidOut3 : laidOutB Tryz.prog = true := by kernel_rfl

/-- A world in which the listed tables stand. -/
def setCells (cs : Array Value) : Obj → Obj
  | .cells _ t frozen => .cells cs t frozen
  | o => o
noncomputable def laidWorld (os : Os) : World :=
  let w0 := World.holding Tryz.prog os ⟨#[], #[], []⟩
  { w0 with heap := ((((((w0.heap).modify 1 (setCells #[.int .u8 0, .int .u8 1, .int .u8 28, .int .u8 2, .int .u8 29, .int .u8 14, .int .u8 24, .int .u8 3, .int .u8 30, .int .u8 22, .int .u8 20, .int .u8 15, .int .u8 25, .int .u8 17, .int .u8 4, .int .u8 8, .int .u8 31, .int .u8 27, .int .u8 13, .int .u8 23, .int .u8 21, .int .u8 19, .int .u8 16, .int .u8 7, .int .u8 26, .int .u8 12, .int .u8 18, .int .u8 6, .int .u8 11, .int .u8 5, .int .u8 10, .int .u8 9]))).modify 2 (setCells #[.int .u8 0, .int .u8 1, .int .u8 56, .int .u8 2, .int .u8 57, .int .u8 49, .int .u8 28, .int .u8 3, .int .u8 61, .int .u8 58, .int .u8 42, .int .u8 50, .int .u8 38, .int .u8 29, .int .u8 17, .int .u8 4, .int .u8 62, .int .u8 47, .int .u8 59, .int .u8 36, .int .u8 45, .int .u8 43, .int .u8 51, .int .u8 22, .int .u8 53, .int .u8 39, .int .u8 33, .int .u8 30, .int .u8 24, .int .u8 18, .int .u8 12, .int .u8 5, .int .u8 63, .int .u8 55, .int .u8 48, .int .u8 27, .int .u8 60, .int .u8 41, .int .u8 37, .int .u8 16, .int .u8 46, .int .u8 35, .int .u8 44, .int .u8 21, .int .u8 52, .int .u8 32, .int .u8 23, .int .u8 11, .int .u8 54, .int .u8 26, .int .u8 40, .int .u8 15, .int .u8 34, .int .u8 20, .int .u8 31, .int .u8 10, .int .u8 25, .int .u8 14, .int .u8 19, .int .u8 9, .int .u8 13, .int .u8 8, .int .u8 7, .int .u8 6]))).modify 0 (setCells #[.int .u64 1, .int .u64 10, .int .u64 100, .int .u64 1000, .int .u64 10000, .int .u64 100000, .int .u64 1000000, .int .u64 10000000, .int .u64 100000000, .int .u64 1000000000, .int .u64 10000000000, .int .u64 100000000000, .int .u64 1000000000000, .int .u64 10000000000000, .int .u64 100000000000000, .int .u64 1000000000000000, .int .u64 10000000000000000, .int .u64 100000000000000000, .int .u64 1000000000000000000, .int .u64 10000000000000000000])) }
abbrev wArgs : Array Value := #[.agg #[.int .i64 0, .slice none 0 0, .slice none 0 0, .slice none 0 0, .slice none 0 0, .slice none 0 0, .slice none 0 0, .slice none 0 0, .slice none 0 0, .slice none 0 0]]
set_option maxRecDepth 100000 in
theorem laidWorld_met (os : Os) : laidMetH Tryz.prog Rows.fnExactNodeTextRow.laid ((laidWorld os).forCall (fun _ _ => 0) ⟨#[], wArgs, []⟩).memory :=
  show laidMet Tryz.prog Rows.fnExactNodeTextRow.laid _ from laidMet_of_run' 8 (by kernel_rfl) (by kernel_rfl)
noncomputable def tabT : TypeId := ((Tryz.prog.globals[0]?).map (·.type)).getD 0
set_option maxRecDepth 100000 in
theorem tab_of {W : World} (hL : laidMetH Tryz.prog Rows.fnExactNodeTextRow.laid W) : Go.F1.E.inv W := by
  have hL' : laidMet Tryz.prog Rows.fnExactNodeTextRow.laid W := hL
  exact Lib.tabIs_of_head (k := .u64) (zs := Lib.pow10Tab) (t := tabT) (e := Ev.arrE Tryz.prog tabT) (n := 20) Go.F1.tabG (by kernel_rfl) (by kernel_rfl) (by kernel_rfl) (by kernel_rfl) (by kernel_rfl) (laidMet.tail (laidMet.tail hL'))

set_option maxRecDepth 100000 in
theorem fnExactNodeText_lifted (os : Os) (started : os.Started) (H : Type) (enc : TypeId × Value → H) :
    ReturnsInHanded {} Tryz.checked os 3 .any (fun w args => (Rows.fnExactNodeTextSpec.pre enc Tryz.prog Tryz.f3 [] false w args ∧ laidMetH Tryz.prog Rows.fnExactNodeTextRow.laid w) ∧ sizedMet enc Tryz.prog Tryz.f3 (OpenSpec.ofChange Rows.fnExactNodeTextSpec) false w args) (Rows.fnExactNodeTextSpec.post enc Tryz.prog Tryz.f3 false true false false) := by
  refine returnsInHanded_of_change_and (C := Tryz.checked) (X := fun w _ => laidMetH Tryz.prog Rows.fnExactNodeTextRow.laid w) (fun _ _ _ hh h => h.of_heap hh) Tryz.own3 started (by kernel_rfl) Tryz.func3
    (ChangeSpec.witness_at (enc := enc) (C := Tryz.checked) (os := os) (X := fun w _ => laidMetH Tryz.prog Rows.fnExactNodeTextRow.laid w) false (laidWorld os) wArgs 8 rfl (by kernel_rfl) (by kernel_rfl) (by kernel_rfl) (by kernel_rfl) (by kernel_rfl) (laidWorld_met os)) ?_
  intro W base args ds gs before hval hW _ _ hL _
  exact Ev.law_row (P := Tryz.prog) (fn := Tryz.f3) (tys := [Go.F1.s15]) Go.F1.con3 (Ev.allOk_tab Go.F1.hT (by kernel_rfl)) Tryz.laidOut3 (by kernel_rfl) rfl rfl (by kernel_rfl) (fun ds h => by
    match ds, h with
    | [a], _ => rfl) hval hW (tab_of hL)

set_option maxRecDepth 100000 in
theorem fnExactNodeText_closed : joinedFacts Tryz.prog 3 Tryz.f3 Rows.fnExactNodeTextSpec Rows.fnExactNodeTextRow = true :=
  @Ev.joined_of Tryz.prog 3 Tryz.f3 Rows.fnExactNodeTextSpec Rows.fnExactNodeTextRow fnExactNodeText_j0 fnExactNodeText_j1 fnExactNodeText_j2 fnExactNodeText_j3 fnExactNodeText_j4 fnExactNodeText_j5 fnExactNodeText_j6 fnExactNodeText_j7 fnExactNodeText_j8 fnExactNodeText_j9 fnExactNodeText_j10 fnExactNodeText_j11 fnExactNodeText_j12 fnExactNodeText_j13 fnExactNodeText_j14 fnExactNodeText_j15 fnExactNodeText_j16 fnExactNodeText_j17 fnExactNodeText_j18 fnExactNodeText_j19 fnExactNodeText_j20 fnExactNodeText_j21 fnExactNodeText_j22 fnExactNodeText_j23 fnExactNodeText_j24 fnExactNodeText_j25 fnExactNodeText_j26 fnExactNodeText_j27 fnExactNodeText_j28 fnExactNodeText_j29 fnExactNodeText_j30 fnExactNodeText_j31
theorem fnExactNodeText_named : Tryz.prog.funcNamed Rows.fnExactNodeTextRow.func = some 3 := by kernel_rfl
theorem fnExactNodeText_inst : Tryz.f3.isInstance Tryz.prog Rows.fnExactNodeTextRow.origin Rows.fnExactNodeTextRow.targs := of_decide_eq_true (by kernel_rfl)
theorem fnExactNodeText_wrap : Tryz.f3.isWrapper Tryz.prog Rows.fnExactNodeTextRow.wrapper Rows.fnExactNodeTextRow.mainSum := by
  unfold Func.isWrapper; first | (rw [if_pos (by decide +kernel)]; kernel_rfl) | (rw [if_neg (by decide +kernel)]; exact ⟨rfl, rfl⟩)

theorem fnExactNodeText_row : Rows.fnExactNodeTextRow.holds Tryz.pinned (OpenSpec.ofChange Rows.fnExactNodeTextSpec) :=
  OpenClaim.holds_of_wide 3 Tryz.f3 rfl rfl rfl rfl rfl rfl rfl ⟨rfl, rfl, rfl, rfl, rfl⟩ rfl rfl rfl rfl rfl fnExactNodeText_named Tryz.func3 fnExactNodeText_closed fnExactNodeText_inst fnExactNodeText_wrap
    (fun os started H enc _ => fnExactNodeText_lifted os started H enc)
theorem fnExactNodeText_plain : (Tryz.f3.params.toList.all fun t => !Tryz.prog.wantsStandIn t) = true := by kernel_rfl
theorem fnExactNodeText_holds : Rows.FnExactNodeTextCardSaid :=
  Claim7.holds_tied_plain_at .later [] [.data, .data, .data] true (true, "5de384f723fd7d31b467227049621c664e685ab1b7a338d9456d09a54f3d438a") false
    fnExactNodeText_row (fun _ h => by cases h) (by kernel_rfl) (fun _ h => by cases h) fnExactNodeText_row_tie rfl ⟨rfl, rfl⟩ (by kernel_rfl) rfl
    (fun f fn hf hfn => by
      obtain rfl : f = 3 := Option.some.inj (fnExactNodeText_named.symm.trans hf) |>.symm
      obtain rfl : fn = Tryz.f3 := (Option.some.inj (Tryz.func3.symm.trans hfn)).symm
      exact ⟨by kernel_rfl, fun j t ht => by
        have h := List.all_eq_true.1 fnExactNodeText_plain t (by rw [← Array.getElem?_toList] at ht; exact List.mem_of_getElem? ht)
        show Tryz.prog.wantsStandIn t = false
        simpa using h⟩)
    (by kernel_rfl)
#print axioms fnExactNodeText_holds
end Go.Proofs.YthdgcninegkaladGreatDoor
