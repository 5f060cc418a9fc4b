/-
  PROVED: the law FnExactObjectText answers true at every argument (its tied card). No condition of its own; the three tables of the library's that the row lists stand as the program's text lays them.
-/
import Derived.Test.YthdgcninegkalabDoorEvY
import Derived.Test.YthdgcninegkalabDoorF1
import Derived.Test.YthdgcninegkalabDoorR1p0
import Derived.Test.YthdgcninegkalabDoorR1p1
import Derived.Test.YthdgcninegkalabDoorR1p2
import Derived.Test.YthdgcninegkalabDoorR1p3
import Derived.Test.YthdgcninegkalabDoorRows
import Derived.Test.YthdgcninegkalabDoorCards
import Derived.Test.YthdgcninegkalabDoorTie
import Derived.LaidLaws
import Derived.Stop.LaidErr
import Derived.SevenTiedAt
namespace Go.Proofs.YthdgcninegkalabDoor
open Go.ChangeShapes Go.WideShapes Go.ChangeAt Go.RowKit

theorem Tryd.own3 : ownKnob Tryd.prog.godebug = none := by kernel_rfl
theorem Tryd.laidOut3 : laidOutB Tryd.prog = true := by kernel_rfl

/-- A world in which the listed tables stand. -/
def setCells (cs : Array Value) : Obj → Obj
  | .cells _ t frozen => .cells cs t frozen
  | o => o
noncomputable def laidWorld (os : Os) : World :=
  let w0 := World.holding Tryd.prog os ⟨#[], #[], []⟩
  { w0 with heap := ((((((w0.heap).modify 2 (setCells #[.int .u8 0, .int .u8 1, .int .u8 28, .int .u8 2, .int .u8 29, .int .u8 14, .int .u8 24, .int .u8 3, .int .u8 30, .int .u8 22, .int .u8 20, .int .u8 15, .int .u8 25, .int .u8 17, .int .u8 4, .int .u8 8, .int .u8 31, .int .u8 27, .int .u8 13, .int .u8 23, .int .u8 21, .int .u8 19, .int .u8 16, .int .u8 7, .int .u8 26, .int .u8 12, .int .u8 18, .int .u8 6, .int .u8 11, .int .u8 5, .int .u8 10, .int .u8 9]))).modify 3 (setCells #[.int .u8 0, .int .u8 1, .int .u8 56, .int .u8 2, .int .u8 57, .int .u8 49, .int .u8 28, .int .u8 3, .int .u8 61, .int .u8 58, .int .u8 42, .int .u8 50, .int .u8 38, .int .u8 29, .int .u8 17, .int .u8 4, .int .u8 62, .int .u8 47, .int .u8 59, .int .u8 36, .int .u8 45, .int .u8 43, .int .u8 51, .int .u8 22, .int .u8 53, .int .u8 39, .int .u8 33, .int .u8 30, .int .u8 24, .int .u8 18, .int .u8 12, .int .u8 5, .int .u8 63, .int .u8 55, .int .u8 48, .int .u8 27, .int .u8 60, .int .u8 41, .int .u8 37, .int .u8 16, .int .u8 46, .int .u8 35, .int .u8 44, .int .u8 21, .int .u8 52, .int .u8 32, .int .u8 23, .int .u8 11, .int .u8 54, .int .u8 26, .int .u8 40, .int .u8 15, .int .u8 34, .int .u8 20, .int .u8 31, .int .u8 10, .int .u8 25, .int .u8 14, .int .u8 19, .int .u8 9, .int .u8 13, .int .u8 8, .int .u8 7, .int .u8 6]))).modify 1 (setCells #[.int .u64 1, .int .u64 10, .int .u64 100, .int .u64 1000, .int .u64 10000, .int .u64 100000, .int .u64 1000000, .int .u64 10000000, .int .u64 100000000, .int .u64 1000000000, .int .u64 10000000000, .int .u64 100000000000, .int .u64 1000000000000, .int .u64 10000000000000, .int .u64 100000000000000, .int .u64 1000000000000000, .int .u64 10000000000000000, .int .u64 100000000000000000, .int .u64 1000000000000000000, .int .u64 10000000000000000000])) }
abbrev wArgs : Array Value := #[.agg #[.slice none 0 0], .agg #[.int .i64 0, .int .i64 0, .slice none 0 0]]
set_option maxRecDepth 100000 in
theorem laidWorld_met (os : Os) : laidMetH Tryd.prog Rows.fnExactObjectTextRow.laid ((laidWorld os).forCall (fun _ _ => 0) ⟨#[], wArgs, []⟩).memory :=
  show laidMet Tryd.prog Rows.fnExactObjectTextRow.laid _ from laidMet_of_run' 8 (by kernel_rfl) (by kernel_rfl)
noncomputable def tabT : TypeId := ((Tryd.prog.globals[1]?).map (·.type)).getD 0
set_option maxRecDepth 100000 in
theorem tab_of {W : World} (hL : laidMetH Tryd.prog Rows.fnExactObjectTextRow.laid W) : Go.F1.E.inv W := by
  have hL' : laidMet Tryd.prog Rows.fnExactObjectTextRow.laid W := hL
  exact Lib.tabIs_of_head (k := .u64) (zs := Lib.pow10Tab) (t := tabT) (e := Ev.arrE Tryd.prog tabT) (n := 20) Go.F1.tabG (by kernel_rfl) (by kernel_rfl) (by kernel_rfl) (by kernel_rfl) (by kernel_rfl) (laidMet.tail (laidMet.tail hL'))

set_option maxRecDepth 100000 in
theorem fnExactObjectText_lifted (os : Os) (started : os.Started) (H : Type) (enc : TypeId × Value → H) :
    ReturnsInHanded {} Tryd.checked os 3 .any (fun w args => (Rows.fnExactObjectTextSpec.pre enc Tryd.prog Tryd.f3 [] false w args ∧ laidMetH Tryd.prog Rows.fnExactObjectTextRow.laid w) ∧ sizedMet enc Tryd.prog Tryd.f3 (OpenSpec.ofChange Rows.fnExactObjectTextSpec) false w args) (Rows.fnExactObjectTextSpec.post enc Tryd.prog Tryd.f3 false true false false) := by
  refine returnsInHanded_of_change_and (C := Tryd.checked) (X := fun w _ => laidMetH Tryd.prog Rows.fnExactObjectTextRow.laid w) (fun _ _ _ hh h => h.of_heap hh) Tryd.own3 started (by kernel_rfl) Tryd.func3
    (ChangeSpec.witness_at (enc := enc) (C := Tryd.checked) (os := os) (X := fun w _ => laidMetH Tryd.prog Rows.fnExactObjectTextRow.laid w) false (laidWorld os) wArgs 8 rfl (by kernel_rfl) (by kernel_rfl) (by kernel_rfl) (by kernel_rfl) (by kernel_rfl) (laidWorld_met os)) ?_
  intro W base args ds gs before hval hW _ _ hL _
  exact Ev.law_row (P := Tryd.prog) (fn := Tryd.f3) (tys := [Go.F1.s6, Go.F1.s8]) Go.F1.con3 (Ev.allOk_tab Go.F1.hT (by kernel_rfl)) Tryd.laidOut3 (by kernel_rfl) rfl rfl (by kernel_rfl) (fun ds h => by
    match ds, h with
    | [a, b], _ => rfl) hval hW (tab_of hL)

set_option maxRecDepth 100000 in
theorem fnExactObjectText_closed : joinedFacts Tryd.prog 3 Tryd.f3 Rows.fnExactObjectTextSpec Rows.fnExactObjectTextRow = true :=
  @Ev.joined_of Tryd.prog 3 Tryd.f3 Rows.fnExactObjectTextSpec Rows.fnExactObjectTextRow fnExactObjectText_j0 fnExactObjectText_j1 fnExactObjectText_j2 fnExactObjectText_j3 fnExactObjectText_j4 fnExactObjectText_j5 fnExactObjectText_j6 fnExactObjectText_j7 fnExactObjectText_j8 fnExactObjectText_j9 fnExactObjectText_j10 fnExactObjectText_j11 fnExactObjectText_j12 fnExactObjectText_j13 fnExactObjectText_j14 fnExactObjectText_j15 fnExactObjectText_j16 fnExactObjectText_j17 fnExactObjectText_j18 fnExactObjectText_j19 fnExactObjectText_j20 fnExactObjectText_j21 fnExactObjectText_j22 fnExactObjectText_j23 fnExactObjectText_j24 fnExactObjectText_j25 fnExactObjectText_j26 fnExactObjectText_j27 fnExactObjectText_j28 fnExactObjectText_j29 fnExactObjectText_j30 fnExactObjectText_j31
theorem fnExactObjectText_named : Tryd.prog.funcNamed Rows.fnExactObjectTextRow.func = some 3 := by kernel_rfl
theorem fnExactObjectText_inst : Tryd.f3.isInstance Tryd.prog Rows.fnExactObjectTextRow.origin Rows.fnExactObjectTextRow.targs := of_decide_eq_true (by kernel_rfl)
theorem fnExactObjectText_wrap : Tryd.f3.isWrapper Tryd.prog Rows.fnExactObjectTextRow.wrapper Rows.fnExactObjectTextRow.mainSum := by
  unfold Func.isWrapper; first | (rw [if_pos (by decide +kernel)]; kernel_rfl) | (rw [if_neg (by decide +kernel)]; exact ⟨rfl, rfl⟩)

theorem fnExactObjectText_row : Rows.fnExactObjectTextRow.holds Tryd.pinned (OpenSpec.ofChange Rows.fnExactObjectTextSpec) :=
  OpenClaim.holds_of_wide 3 Tryd.f3 rfl rfl rfl rfl rfl rfl rfl ⟨rfl, rfl, rfl, rfl, rfl⟩ rfl rfl rfl rfl rfl fnExactObjectText_named Tryd.func3 fnExactObjectText_closed fnExactObjectText_inst fnExactObjectText_wrap
    (fun os started H enc _ => fnExactObjectText_lifted os started H enc)
theorem fnExactObjectText_plain : (Tryd.f3.params.toList.all fun t => !Tryd.prog.wantsStandIn t) = true := by kernel_rfl
theorem fnExactObjectText_holds : Rows.FnExactObjectTextCardSaid :=
  Claim7.holds_tied_plain_at .later [] [.data, .data, .data] true (true, "cba37d671ab309ff7d8ec6b84a3e42ef219784888a4be3dfdd53a7aaad5a0d44") false
    fnExactObjectText_row (fun _ h => by cases h) (by kernel_rfl) (fun _ h => by cases h) fnExactObjectText_row_tie rfl ⟨rfl, rfl⟩ (by kernel_rfl) rfl
    (fun f fn hf hfn => by
      obtain rfl : f = 3 := Option.some.inj (fnExactObjectText_named.symm.trans hf) |>.symm
      obtain rfl : fn = Tryd.f3 := (Option.some.inj (Tryd.func3.symm.trans hfn)).symm
      exact ⟨by kernel_rfl, fun j t ht => by
        have h := List.all_eq_true.1 fnExactObjectText_plain t (by rw [← Array.getElem?_toList] at ht; exact List.mem_of_getElem? ht)
        show Tryd.prog.wantsStandIn t = false
        simpa using h⟩)
    (by kernel_rfl)
#print axioms fnExactObjectText_holds
end Go.Proofs.YthdgcninegkalabDoor
