/-
  PROVED: the law FnExactValText answers true at every argument (its tied card). No condition of its own; the three tables of the library's that the row lists stand as the program's text lays them.
-/
import Derived.Test.YthdgcninegkalaaDoorEvY
import Derived.Test.YthdgcninegkalaaDoorF1
import Derived.Test.YthdgcninegkalaaDoorRows
import Derived.Test.YthdgcninegkalaaDoorCards
import Derived.Test.YthdgcninegkalaaDoorTie
import Derived.LaidLaws
import Derived.Stop.LaidErr
import Derived.SevenTiedAt
namespace Go.Proofs.YthdgcninegkalaaDoor
open Go.ChangeShapes Go.WideShapes Go.ChangeAt Go.RowKit

theorem Tryd.own3 : ownKnob Tryd.prog.godebug = none := by kernel_rfl
theorem Tryd.laidOut3 : laidOutB Tryd.prog = true := by kernel_rfl

/-- A world in which the listed tables stand. -/
def setCells (cs : Array Value) : Obj → Obj
  | .cells _ t frozen => .cells cs t frozen
  | o => o
noncomputable def laidWorld (os : Os) : World :=
  let w0 := World.holding Tryd.prog os ⟨#[], #[], []⟩
  { w0 with heap := ((((((w0.heap).modify 1 (setCells #[.int .u8 0, .int .u8 1, .int .u8 28, .int .u8 2, .int .u8 29, .int .u8 14, .int .u8 24, .int .u8 3, .int .u8 30, .int .u8 22, .int .u8 20, .int .u8 15, .int .u8 25, .int .u8 17, .int .u8 4, .int .u8 8, .int .u8 31, .int .u8 27, .int .u8 13, .int .u8 23, .int .u8 21, .int .u8 19, .int .u8 16, .int .u8 7, .int .u8 26, .int .u8 12, .int .u8 18, .int .u8 6, .int .u8 11, .int .u8 5, .int .u8 10, .int .u8 9]))).modify 2 (setCells #[.int .u8 0, .int .u8 1, .int .u8 56, .int .u8 2, .int .u8 57, .int .u8 49, .int .u8 28, .int .u8 3, .int .u8 61, .int .u8 58, .int .u8 42, .int .u8 50, .int .u8 38, .int .u8 29, .int .u8 17, .int .u8 4, .int .u8 62, .int .u8 47, .int .u8 59, .int .u8 36, .int .u8 45, .int .u8 43, .int .u8 51, .int .u8 22, .int .u8 53, .int .u8 39, .int .u8 33, .int .u8 30, .int .u8 24, .int .u8 18, .int .u8 12, .int .u8 5, .int .u8 63, .int .u8 55, .int .u8 48, .int .u8 27, .int .u8 60, .int .u8 41, .int .u8 37, .int .u8 16, .int .u8 46, .int .u8 35, .int .u8 44, .int .u8 21, .int .u8 52, .int .u8 32, .int .u8 23, .int .u8 11, .int .u8 54, .int .u8 26, .int .u8 40, .int .u8 15, .int .u8 34, .int .u8 20, .int .u8 31, .int .u8 10, .int .u8 25, .int .u8 14, .int .u8 19, .int .u8 9, .int .u8 13, .int .u8 8, .int .u8 7, .int .u8 6]))).modify 0 (setCells #[.int .u64 1, .int .u64 10, .int .u64 100, .int .u64 1000, .int .u64 10000, .int .u64 100000, .int .u64 1000000, .int .u64 10000000, .int .u64 100000000, .int .u64 1000000000, .int .u64 10000000000, .int .u64 100000000000, .int .u64 1000000000000, .int .u64 10000000000000, .int .u64 100000000000000, .int .u64 1000000000000000, .int .u64 10000000000000000, .int .u64 100000000000000000, .int .u64 1000000000000000000, .int .u64 10000000000000000000])) }
abbrev wArgs : Array Value := #[.agg #[.bool false, .int .i64 0]]
set_option maxRecDepth 100000 in
theorem laidWorld_met (os : Os) : laidMetH Tryd.prog Rows.fnExactValTextRow.laid ((laidWorld os).forCall (fun _ _ => 0) ⟨#[], wArgs, []⟩).memory :=
  show laidMet Tryd.prog Rows.fnExactValTextRow.laid _ from laidMet_of_run' 8 (by kernel_rfl) (by kernel_rfl)
noncomputable def tabT : TypeId := ((Tryd.prog.globals[0]?).map (·.type)).getD 0
set_option maxRecDepth 100000 in
theorem tab_of {W : World} (hL : laidMetH Tryd.prog Rows.fnExactValTextRow.laid W) : Go.F1.E.inv W := by
  have hL' : laidMet Tryd.prog Rows.fnExactValTextRow.laid W := hL
  exact Lib.tabIs_of_head (k := .u64) (zs := Lib.pow10Tab) (t := tabT) (e := Ev.arrE Tryd.prog tabT) (n := 20) Go.F1.tabG (by kernel_rfl) (by kernel_rfl) (by kernel_rfl) (by kernel_rfl) (by kernel_rfl) (laidMet.tail (laidMet.tail hL'))

set_option maxRecDepth 100000 in
theorem fnExactValText_lifted (os : Os) (started : os.Started) (H : Type) (enc : TypeId × Value → H) :
    ReturnsInHanded {} Tryd.checked os 3 .any (fun w args => (Rows.fnExactValTextSpec.pre enc Tryd.prog Tryd.f3 [] false w args ∧ laidMetH Tryd.prog Rows.fnExactValTextRow.laid w) ∧ sizedMet enc Tryd.prog Tryd.f3 (OpenSpec.ofChange Rows.fnExactValTextSpec) false w args) (Rows.fnExactValTextSpec.post enc Tryd.prog Tryd.f3 false true false false) := by
  refine returnsInHanded_of_change_and (C := Tryd.checked) (X := fun w _ => laidMetH Tryd.prog Rows.fnExactValTextRow.laid w) (fun _ _ _ hh h => h.of_heap hh) Tryd.own3 started (by kernel_rfl) Tryd.func3
    (ChangeSpec.witness_at (enc := enc) (C := Tryd.checked) (os := os) (X := fun w _ => laidMetH Tryd.prog Rows.fnExactValTextRow.laid w) false (laidWorld os) wArgs 8 rfl (by kernel_rfl) (by kernel_rfl) (by kernel_rfl) (by kernel_rfl) (by kernel_rfl) (laidWorld_met os)) ?_
  intro W base args ds gs before hval hW _ _ hL _
  exact Ev.law_row (P := Tryd.prog) (fn := Tryd.f3) (tys := [Go.F1.s1]) Go.F1.con3 (Ev.allOk_tab Go.F1.hT (by kernel_rfl)) Tryd.laidOut3 (by kernel_rfl) rfl rfl (by kernel_rfl) (fun ds h => by
    match ds, h with
    | [a], _ => rfl) hval hW (tab_of hL)

theorem fnExactValText_j0 : (Rows.fnExactValTextRow.wf (OpenSpec.ofChange Rows.fnExactValTextSpec)) = true := by kernel_rfl
theorem fnExactValText_j1 : (laidOutB Tryd.prog) = true := by kernel_rfl
theorem fnExactValText_j2 : (mapsRowed Tryd.prog) = true := by kernel_rfl
theorem fnExactValText_j3 : (Tryd.f3.params.all (Tryd.prog.readableRec ·)) = true := by kernel_rfl
theorem fnExactValText_j4 : (namedTie Tryd.prog Rows.fnExactValTextRow.named Rows.fnExactValTextSpec.vars) = true := by kernel_rfl
theorem fnExactValText_j5 : ((Rows.fnExactValTextRow.stops == [])) = true := by kernel_rfl
theorem fnExactValText_j6 : ((Tryd.prog.stops == [])) = true := by kernel_rfl
theorem fnExactValText_j7 : ((Rows.fnExactValTextRow.knobs == [])) = true := by kernel_rfl
theorem fnExactValText_j8 : ((Tryd.prog.stopKnobs == [])) = true := by kernel_rfl
theorem fnExactValText_j9 : ((Rows.fnExactValTextRow.inPlace == Tryd.prog.inPlace 3)) = true := by kernel_rfl
theorem fnExactValText_j10 : ((Rows.fnExactValTextRow.unfollowed == Tryd.prog.unfollowed 3)) = true := by kernel_rfl
theorem fnExactValText_j11 : ((Rows.fnExactValTextRow.recurses == Tryd.prog.recurses 3)) = true := by kernel_rfl
theorem fnExactValText_j12 : ((Rows.fnExactValTextRow.named == Tryd.prog.varsNamed 3)) = true := by kernel_rfl
theorem fnExactValText_j13 : ((Rows.fnExactValTextRow.maps == (Tryd.f3.params.toList ++ Rows.fnExactValTextSpec.plain.varTypes Tryd.prog).any (Tryd.prog.mapsRec ·))) = true := by kernel_rfl
theorem fnExactValText_j14 : ((Rows.fnExactValTextRow.ifaces == (Tryd.f3.params.toList ++ Rows.fnExactValTextSpec.plain.varTypes Tryd.prog).any (Tryd.prog.ifacesRec ·))) = true := by kernel_rfl
theorem fnExactValText_j15 : ((Rows.fnExactValTextRow.mapsOut == Tryd.prog.mapsAmong Tryd.f3.resultTypes.toList)) = true := by kernel_rfl
theorem fnExactValText_j16 : ((Rows.fnExactValTextRow.loops == (Tryd.f3.params.toList ++ Rows.fnExactValTextSpec.plain.varTypes Tryd.prog).any (Tryd.prog.loopsFrom ·))) = true := by kernel_rfl
theorem fnExactValText_j17 : ((Rows.fnExactValTextRow.wideKeys == (Tryd.f3.params.toList ++ Rows.fnExactValTextSpec.plain.varTypes Tryd.prog ++ Tryd.f3.resultTypes.toList).any (Tryd.prog.wideKeysFrom ·))) = true := by kernel_rfl
theorem fnExactValText_j18 : (Rows.fnExactValTextSpec.vars.all (Tryd.prog.varReadable ·)) = true := by kernel_rfl
theorem fnExactValText_j19 : (Tryd.f3.resultTypes.all (fun t => Tryd.prog.readableRec t && decide (t < Tryd.prog.types.size))) = true := by kernel_rfl
theorem fnExactValText_j20 : ((Rows.fnExactValTextRow.ifacesOut == Tryd.f3.resultTypes.toList.any (Tryd.prog.ifacesRec ·))) = true := by kernel_rfl
theorem fnExactValText_j21 : ((Rows.fnExactValTextRow.loopsOut == Tryd.f3.resultTypes.toList.any (Tryd.prog.loopsFrom ·))) = true := by kernel_rfl
theorem fnExactValText_j22 : ((Rows.fnExactValTextRow.plainKeys == Tryd.prog.plainKeys)) = true := by kernel_rfl
theorem fnExactValText_j23 : (Rows.fnExactValTextRow.shortTexts.isNone) = true := by kernel_rfl
theorem fnExactValText_j24 : (Tryd.prog.stopsHeard) = true := by kernel_rfl
theorem fnExactValText_j25 : (Tryd.prog.mayEnter) = true := by kernel_rfl
theorem fnExactValText_j26 : ((Rows.fnExactValTextRow.lifted == Tryd.prog.liftsFinal)) = true := by kernel_rfl
theorem fnExactValText_j27 : ((Tryd.prog.make == some Rows.fnExactValTextRow.make)) = true := by kernel_rfl
theorem fnExactValText_j28 : ((Rows.fnExactValTextRow.kinds == (if Rows.fnExactValTextRow.domain.isEmpty then [] else Tryd.f3.params.toList.map fun t => match Tryd.prog.underlying t with | some (.int k) => some k | _ => none))) = true := by kernel_rfl
theorem fnExactValText_j29 : ((Rows.fnExactValTextRow.pinned == Rows.fnExactValTextRow.pinnedBy)) = true := by kernel_rfl
theorem fnExactValText_j30 : ((Rows.fnExactValTextRow.veiled == (Tryd.f3.params.toList ++ Rows.fnExactValTextSpec.plain.varTypes Tryd.prog ++ Tryd.f3.resultTypes.toList).any (Tryd.prog.veiledRec ·))) = true := by kernel_rfl
theorem fnExactValText_j31 : (Rows.fnExactValTextRow.veiledFits Tryd.prog Tryd.f3.params.toList (Tryd.f3.params.toList ++ Rows.fnExactValTextSpec.plain.varTypes Tryd.prog ++ Tryd.f3.resultTypes.toList)) = true := by kernel_rfl
set_option maxRecDepth 100000 in
theorem fnExactValText_closed : joinedFacts Tryd.prog 3 Tryd.f3 Rows.fnExactValTextSpec Rows.fnExactValTextRow = true :=
  @Ev.joined_of Tryd.prog 3 Tryd.f3 Rows.fnExactValTextSpec Rows.fnExactValTextRow fnExactValText_j0 fnExactValText_j1 fnExactValText_j2 fnExactValText_j3 fnExactValText_j4 fnExactValText_j5 fnExactValText_j6 fnExactValText_j7 fnExactValText_j8 fnExactValText_j9 fnExactValText_j10 fnExactValText_j11 fnExactValText_j12 fnExactValText_j13 fnExactValText_j14 fnExactValText_j15 fnExactValText_j16 fnExactValText_j17 fnExactValText_j18 fnExactValText_j19 fnExactValText_j20 fnExactValText_j21 fnExactValText_j22 fnExactValText_j23 fnExactValText_j24 fnExactValText_j25 fnExactValText_j26 fnExactValText_j27 fnExactValText_j28 fnExactValText_j29 fnExactValText_j30 fnExactValText_j31
theorem fnExactValText_named : Tryd.prog.funcNamed Rows.fnExactValTextRow.func = some 3 := by kernel_rfl
theorem fnExactValText_inst : Tryd.f3.isInstance Tryd.prog Rows.fnExactValTextRow.origin Rows.fnExactValTextRow.targs := of_decide_eq_true (by kernel_rfl)
theorem fnExactValText_wrap : Tryd.f3.isWrapper Tryd.prog Rows.fnExactValTextRow.wrapper Rows.fnExactValTextRow.mainSum := by
  unfold Func.isWrapper; first | (rw [if_pos (by decide +kernel)]; kernel_rfl) | (rw [if_neg (by decide +kernel)]; exact ⟨rfl, rfl⟩)

theorem fnExactValText_row : Rows.fnExactValTextRow.holds Tryd.pinned (OpenSpec.ofChange Rows.fnExactValTextSpec) :=
  OpenClaim.holds_of_wide 3 Tryd.f3 rfl rfl rfl rfl rfl rfl rfl ⟨rfl, rfl, rfl, rfl, rfl⟩ rfl rfl rfl rfl rfl fnExactValText_named Tryd.func3 fnExactValText_closed fnExactValText_inst fnExactValText_wrap
    (fun os started H enc _ => fnExactValText_lifted os started H enc)
theorem fnExactValText_plain : (Tryd.f3.params.toList.all fun t => !Tryd.prog.wantsStandIn t) = true := by kernel_rfl
theorem fnExactValText_holds : Rows.FnExactValTextCardSaid :=
  Claim7.holds_tied_plain_at .later [] [.data, .data, .data] true (true, "28ce9df139baf3efafae926037ec099bd86733ca09b524fa148bcc8116807179") false
    fnExactValText_row (fun _ h => by cases h) (by kernel_rfl) (fun _ h => by cases h) fnExactValText_row_tie rfl ⟨rfl, rfl⟩ (by kernel_rfl) rfl
    (fun f fn hf hfn => by
      obtain rfl : f = 3 := Option.some.inj (fnExactValText_named.symm.trans hf) |>.symm
      obtain rfl : fn = Tryd.f3 := (Option.some.inj (Tryd.func3.symm.trans hfn)).symm
      exact ⟨by kernel_rfl, fun j t ht => by
        have h := List.all_eq_true.1 fnExactValText_plain t (by rw [← Array.getElem?_toList] at ht; exact List.mem_of_getElem? ht)
        show Tryd.prog.wantsStandIn t = false
        simpa using h⟩)
    (by kernel_rfl)
#print axioms fnExactValText_holds
end Go.Proofs.YthdgcninegkalaaDoor
