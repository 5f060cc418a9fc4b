/-
  The closed facts of a row, one by one.
-/
import Derived.Test.YthdgcninegkalacDoorEvU
import Derived.JoinedOf
namespace Go.Ev
theorem joined_of {P : Program} {N : FuncId} {F : Func} {S : ChangeSpec} {C : OpenClaim}
    (h0 : (C.wf (OpenSpec.ofChange S)) = true)
    (h1 : (laidOutB P) = true)
    (h2 : (mapsRowed P) = true)
    (h3 : (F.params.all (P.readableRec ·)) = true)
    (h4 : (namedTie P C.named S.vars) = true)
    (h5 : ((C.stops == [])) = true)
    (h6 : ((P.stops == [])) = true)
    (h7 : ((C.knobs == [])) = true)
    (h8 : ((P.stopKnobs == [])) = true)
    (h9 : ((C.inPlace == P.inPlace N)) = true)
    (h10 : ((C.unfollowed == P.unfollowed N)) = true)
    (h11 : ((C.recurses == P.recurses N)) = true)
    (h12 : ((C.named == P.varsNamed N)) = true)
    (h13 : ((C.maps == (F.params.toList ++ S.plain.varTypes P).any (P.mapsRec ·))) = true)
    (h14 : ((C.ifaces == (F.params.toList ++ S.plain.varTypes P).any (P.ifacesRec ·))) = true)
    (h15 : ((C.mapsOut == P.mapsAmong F.resultTypes.toList)) = true)
    (h16 : ((C.loops == (F.params.toList ++ S.plain.varTypes P).any (P.loopsFrom ·))) = true)
    (h17 : ((C.wideKeys == (F.params.toList ++ S.plain.varTypes P ++ F.resultTypes.toList).any (P.wideKeysFrom ·))) = true)
    (h18 : (S.vars.all (P.varReadable ·)) = true)
    (h19 : (F.resultTypes.all (fun t => P.readableRec t && decide (t < P.types.size))) = true)
    (h20 : ((C.ifacesOut == F.resultTypes.toList.any (P.ifacesRec ·))) = true)
    (h21 : ((C.loopsOut == F.resultTypes.toList.any (P.loopsFrom ·))) = true)
    (h22 : ((C.plainKeys == P.plainKeys)) = true)
    (h23 : (C.shortTexts.isNone) = true)
    (h24 : (P.stopsHeard) = true)
    (h25 : (P.mayEnter) = true)
    (h26 : ((C.lifted == P.liftsFinal)) = true)
    (h27 : ((P.make == some C.make)) = true)
    (h28 : ((C.kinds == (if C.domain.isEmpty then [] else F.params.toList.map fun t => match P.underlying t with | some (.int k) => some k | _ => none))) = true)
    (h29 : ((C.pinned == C.pinnedBy)) = true)
    (h30 : ((C.veiled == (F.params.toList ++ S.plain.varTypes P ++ F.resultTypes.toList).any (P.veiledRec ·))) = true)
    (h31 : (C.veiledFits P F.params.toList (F.params.toList ++ S.plain.varTypes P ++ F.resultTypes.toList)) = true) :
    joinedFacts P N F S C = true := by
  unfold joinedFacts
  simp only [Bool.and_eq_true]
  exact ⟨⟨⟨⟨⟨⟨⟨⟨⟨⟨⟨⟨⟨⟨⟨⟨⟨⟨⟨⟨⟨⟨⟨⟨⟨⟨⟨⟨⟨⟨⟨h0, h1⟩, h2⟩, h3⟩, h4⟩, h5⟩, h6⟩, h7⟩, h8⟩, h9⟩, h10⟩, h11⟩, h12⟩, h13⟩, h14⟩, h15⟩, h16⟩, h17⟩, h18⟩, h19⟩, h20⟩, h21⟩, h22⟩, h23⟩, h24⟩, h25⟩, h26⟩, h27⟩, h28⟩, h29⟩, h30⟩, h31⟩
end Go.Ev
