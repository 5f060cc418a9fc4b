/-
  From a row's reading of its arguments to data, and back to what the row asks behind the call.
-/
import Derived.Test.YthdgcninegkalacDoorEvS
import Derived.ProofKit
namespace Go.Ev
open Go.ChangeShapes Go.WideShapes Go.ChangeAt Go.RowKit

section
variable {H : Type} {enc : TypeId × Value → H} {P : Program} {w : World} {base : Nat} {sp : Nat → Bool} {held : Bool}

theorem cellsOf_row {t : TypeId} {ty : Ty} (h : TyRow P t ty) : P.cellsOf t = ty.sz := by
  obtain ⟨i, hi, _, hs, _⟩ := h
  simp [Program.cellsOf, hi, hs]

/-- Cells that are there, one by one. -/
theorem cells_read {a : Addr} {n : Nat} {cs : List Value} (h : w.cells? base a n = some cs) : cs.length = n ∧ ∀ j, j < n → w.cell? (a.add j) = cs[j]? ∧ w.cell? (a.add j) ≠ none := by
  unfold World.cells? at h
  split at h <;> try (simp only [reduceCtorEq] at h; done)
  have hl := mapM_some_length h
  simp only [List.length_range] at hl
  refine ⟨hl, fun j hj => ?_⟩
  have := mapM_some_get h j j (by simp [hj])
  refine ⟨this, ?_⟩
  rw [this, List.getElem?_eq_getElem (by omega)]
  simp

theorem spot_none {a : Addr} (h : w.cell? a ≠ none) : a = ⟨a.block, a.off, none⟩ ∧ a.block < w.heap.size := by
  obtain ⟨B, o, sp⟩ := a
  have hs : sp = none := by
    cases sp with
    | none => rfl
    | some x =>
      exfalso; apply h
      unfold World.cell?
      split <;> rfl
  subst hs
  refine ⟨rfl, ?_⟩
  rcases Nat.lt_or_ge B w.heap.size with hB | hB
  · exact hB
  · exfalso; apply h
    unfold World.cell?
    simp only [Array.getElem?_eq_none hB]

theorem take_drop_parts {cs : List Value} {o n : Nat} : cs.drop o = (cs.drop o).take n ++ cs.drop (o + n) := by
  rw [← List.drop_drop, List.take_append_drop]

mutual
theorem trod_RO : ∀ (fuel : Nat) {t : TypeId} {ty : Ty} {cs : List Value} {x : DataW H × List MemPlace}, TyOk P t ty → DataW.trod enc P w base sp held fuel t cs = some x → ∃ D, RO w (fun _ => True) ty D cs ∧ fit M ty D = true
  | 0, t, ty, cs, x, _, h => by simp [DataW.trod] at h
  | fuel + 1, t, .int k, cs, x, hT, h => by
    simp only [TyOk] at hT
    unfold DataW.trod at h
    rw [hT.2] at h
    split at h <;> first | (rename_i e _; cases e; done) | skip
    all_goals try (simp only [reduceCtorEq, Option.some.injEq] at *; done)
    rename_i k0 k' n e0
    split at h <;> try (simp only [reduceCtorEq] at h; done)
    rename_i hc
    simp only [Option.some.injEq, TypeDesc.int.injEq] at e0
    subst e0
    obtain ⟨rfl, hw⟩ := hc
    exact ⟨.i n, by simp [RO, Dat.int], hw⟩
  | fuel + 1, t, .bool, cs, x, hT, h => by
    simp only [TyOk] at hT
    unfold DataW.trod at h
    rw [hT.2] at h
    split at h <;> first | (rename_i e _; cases e; done) | skip
    all_goals try (simp only [reduceCtorEq, Option.some.injEq] at *; done)
    rename_i b _
    exact ⟨.b b, by simp [RO, Dat.bool], rfl⟩
  | fuel + 1, t, .str, cs, x, hT, h => by
    simp only [TyOk] at hT
    unfold DataW.trod at h
    rw [hT.2] at h
    split at h <;> first | (rename_i e _; cases e; done) | skip
    all_goals try (simp only [reduceCtorEq, Option.some.injEq] at *; done)
    rename_i s _
    split at h <;> try (simp only [reduceCtorEq] at h; done)
    rename_i hc
    exact ⟨.s s, by simp [RO, Dat.str], by simp only [fit]; exact Nat.ble_eq_true_of_le (by simpa [Dat.str, maxLen, M] using hc)⟩
  | fuel + 1, t, .sl e, cs, x, hT, h => by
    simp only [TyOk] at hT
    obtain ⟨_, te, hu, hsz, hte⟩ := hT
    have hcell := cellsOf_row hte.row
    unfold DataW.trod at h
    rw [hu] at h
    split at h <;> first | (rename_i e _; cases e; done) | skip
    all_goals try (simp only [reduceCtorEq, Option.some.injEq] at *; done)
    · exact ⟨.n [], by simp only [RO]; exact ⟨none, 0, rfl, by simp [Dat.len, Dat.kids], fun i hi => by simp [Dat.len, Dat.kids] at hi⟩, by simp [fit, Dat.len, Dat.kids]⟩
    · rename_i te' a len cap e0
      simp only [Option.some.injEq, TypeDesc.slice.injEq] at e0
      subst e0
      split at h <;> try (simp only [reduceCtorEq] at h; done)
      rename_i hc
      obtain ⟨_, hlc, hcap⟩ := hc
      cases hm : (List.range len).mapM (fun i => (w.cells? base (a.add (i * P.cellsOf te)) (P.cellsOf te)).bind (DataW.trod enc P w base sp held fuel te)) with
      | none => simp [hm] at h
      | some elems =>
        have hel : ∀ i, i < len → ∃ D cs', w.cells? base (a.add (i * P.cellsOf te)) (P.cellsOf te) = some cs' ∧ RO w (fun _ => True) e D cs' ∧ fit M e D = true := by
          intro i hi
          have hl := mapM_some_length hm
          simp only [List.length_range] at hl
          have := mapM_some_get hm i i (by simp [hi])
          rw [List.getElem?_eq_getElem (by omega)] at this
          cases hcs : w.cells? base (a.add (i * P.cellsOf te)) (P.cellsOf te) with
          | none => simp [hcs] at this
          | some cs' =>
            simp only [hcs, Option.bind_some] at this
            obtain ⟨D, h1, h2⟩ := trod_RO fuel hte this
            exact ⟨D, cs', rfl, h1, h2⟩
        let f : Nat → Dat := fun i => if hi : i < len then Classical.choose (hel i hi) else .n []
        have hf : ∀ i, i < len → ∃ cs', w.cells? base (a.add (i * P.cellsOf te)) (P.cellsOf te) = some cs' ∧ RO w (fun _ => True) e (f i) cs' ∧ fit M e (f i) = true := by
          intro i hi
          have := Classical.choose_spec (hel i hi)
          simp only [f, dif_pos hi]
          exact this
        have hlen : (Dat.n ((List.range len).map f)).len = len := by simp [Dat.len, Dat.kids]
        have hfld : ∀ i, i < len → (Dat.n ((List.range len).map f)).fld i = f i := fun i hi => by simp [Dat.fld, Dat.kids, List.getD_eq_getElem?_getD, hi]
        refine ⟨.n ((List.range len).map f), ?_, ?_⟩
        · simp only [RO]
          refine ⟨some a, cap, by rw [hlen], by rw [hlen]; exact hlc, fun i hi => ?_⟩
          rw [hlen] at hi
          obtain ⟨cs', h1, h2, _⟩ := hf i hi
          obtain ⟨h3, h4⟩ := cells_read h1
          rw [hcell] at h3 h4
          obtain ⟨cs0, g1, _, _⟩ := hf 0 (by omega)
          obtain ⟨_, g4⟩ := cells_read g1
          rw [hcell] at g4
          obtain ⟨_, g6⟩ := g4 0 (by omega)
          have e0 : (a.add (0 * e.sz)).add 0 = a := by rw [Nat.zero_mul]; simp [Addr.add]
          rw [e0] at g6
          obtain ⟨ea, hB⟩ := spot_none g6
          refine ⟨a.block, a.off, by rw [← ea], trivial, hB, cs', h3, fun j hj => ?_, by rw [hfld i hi]; exact h2⟩
          rw [← (h4 j hj).1, ea, addr_add, addr_add]
        · simp only [fit, Bool.and_eq_true, List.all_eq_true, List.mem_range]
          rw [hlen]
          exact ⟨Nat.ble_eq_true_of_le (by unfold maxLen at hcap; unfold M; omega), fun i hi => by rw [hfld i hi]; exact (hf i hi).choose_spec.2.2⟩
  | fuel + 1, t, .st fs, cs, x, hT, h => by
    simp only [TyOk] at hT
    obtain ⟨hrow, _, l, hu, hfs⟩ := hT
    have hcell := cellsOf_row hrow
    unfold DataW.trod at h
    simp only [hu] at h
    split at h <;> try (simp only [reduceCtorEq] at h; done)
    rename_i hlen
    cases hm : l.toList.mapM (fun f => DataW.trod enc P w base sp held fuel f.type ((cs.drop f.offset).take (P.cellsOf f.type))) with
    | none => simp [hm] at h
    | some xs =>
      obtain ⟨ds, h1, h2⟩ := trods_RO fuel (pre := []) hfs hm (by rw [hlen, hcell, Nat.zero_add]; rfl)
      exact ⟨.n ds, by simp only [RO]; simpa using h1, by simp only [fit]; simpa using h2⟩
theorem trods_RO : ∀ (fuel : Nat) {l : List Field} {ts : List Ty} {o : Nat} {cs : List Value} {xs : List (DataW H × List MemPlace)} {pre : List Dat}, TysOk P l o ts →
    l.mapM (fun f => DataW.trod enc P w base sp held fuel f.type ((cs.drop f.offset).take (P.cellsOf f.type))) = some xs → cs.length = o + Ty.szs ts →
    ∃ ds, ROs w (fun _ => True) ts pre.length (.n (pre ++ ds)) (cs.drop o) ∧ fits M ts pre.length (.n (pre ++ ds)) = true
  | fuel, [], [], o, cs, xs, pre, _, _, hl => ⟨[], by simp only [ROs]; exact List.drop_eq_nil_of_le (by simp [Ty.szs] at hl; omega), rfl⟩
  | fuel, [], _ :: _, _, _, _, _, hT, _, _ => by simp [TysOk] at hT
  | fuel, _ :: _, [], _, _, _, _, hT, _, _ => by simp [TysOk] at hT
  | fuel, f :: l, ty :: ts, o, cs, xs, pre, hT, hm, hl => by
    simp only [TysOk] at hT
    obtain ⟨ho, h1, _, hty, hts⟩ := hT
    have hcell := cellsOf_row hty.row
    rw [List.mapM_cons] at hm
    cases hx : DataW.trod enc P w base sp held fuel f.type ((cs.drop f.offset).take (P.cellsOf f.type)) with
    | none => simp [hx] at hm
    | some x =>
      cases hr : l.mapM (fun f => DataW.trod enc P w base sp held fuel f.type ((cs.drop f.offset).take (P.cellsOf f.type))) with
      | none => simp [hx, hr] at hm
      | some xs' =>
        obtain ⟨D, d1, d2⟩ := trod_RO fuel hty hx
        obtain ⟨ds, e1, e2⟩ := trods_RO fuel (pre := pre ++ [D]) (o := o + ty.sz) hts hr (by rw [hl, Ty.szs_cons]; omega)
        have hfld : (Dat.n (pre ++ D :: ds)).fld pre.length = D := by simp [Dat.fld, Dat.kids, List.getD_eq_getElem?_getD]
        refine ⟨D :: ds, ?_, ?_⟩
        · simp only [ROs]
          refine ⟨(cs.drop o).take ty.sz, cs.drop (o + ty.sz), take_drop_parts, by rw [hfld, ← ho, ← hcell]; exact d1, by simpa using e1⟩
        · simp only [fits, Bool.and_eq_true]
          exact ⟨by rw [hfld]; exact d2, by simpa using e2⟩
end

theorem cv_of_okWide {r : Reach} {b0 : Nat} {t : TypeId} {ty : Ty} {v : Value} (hT : TyOk P t ty) (h : Value.okWide P w r b0 t v) : v = cv ty v.cells.toList := by
  cases ty with
  | st fs =>
    simp only [TyOk] at hT
    obtain ⟨_, _, l, hu, _⟩ := hT
    simp only [Value.okWide, hu] at h
    obtain ⟨cs, rfl, _⟩ := h
    simp [cv, Ty.isSt, Value.cells]
  | int k =>
    simp only [TyOk] at hT
    simp only [Value.okWide, hT.2, Cell.okWide, Cell.ok] at h
    cases v <;> simp_all [cv, Ty.isSt, Value.cells]
  | bool =>
    simp only [TyOk] at hT
    simp only [Value.okWide, hT.2, Cell.okWide, Cell.ok] at h
    cases v <;> simp_all [cv, Ty.isSt, Value.cells]
  | str =>
    simp only [TyOk] at hT
    simp only [Value.okWide, hT.2, Cell.okWide, Cell.ok] at h
    cases v <;> simp_all [cv, Ty.isSt, Value.cells]
  | sl e =>
    simp only [TyOk] at hT
    obtain ⟨_, te, hu, _⟩ := hT
    simp only [Value.okWide, hu, Cell.okWide, Cell.ok] at h
    cases v <;> simp_all [cv, Ty.isSt, Value.cells]

/-- The parameters' types. -/
def AllOk (P : Program) : List TypeId → List Ty → Prop
  | [], [] => True
  | t :: ts, ty :: tys => TyOk P t ty ∧ AllOk P ts tys
  | _, _ => False
theorem allOk_tab {T : TypeId → Option Ty} (hT : ∀ t ty, T t = some ty → TyOk P t ty) : ∀ {ts : List TypeId} {tys : List Ty}, ts.map T = tys.map some → AllOk P ts tys
  | [], [], _ => trivial
  | [], _ :: _, h | _ :: _, [], h => by simp at h
  | t :: ts, ty :: tys, h => by
    simp only [List.map_cons, List.cons.injEq] at h
    exact ⟨hT t ty h.1, allOk_tab hT h.2⟩
def preFit : List Ty → List Dat → Bool
  | [], _ => true
  | t :: ts, l => fit M t (l.getD 0 (.n [])) && preFit ts (l.drop 1)
/-- The contract of a law: it answers true. -/
abbrev lawSig (tys : List Ty) : Sig := ⟨tys, [.bool], preFit tys, fun _ => [.b true]⟩

theorem argsR_of : ∀ {ts : List TypeId} {tys : List Ty} {vs : List Value} {ds : List (DataW H)} {p : List MemPlace}, AllOk P ts tys → DataW.TrodAll enc P w base sp held ts vs ds p →
    (∀ (j : Nat) (t : TypeId) (v : Value), ts[j]? = some t → vs[j]? = some v → ∃ r b0, Value.okWide P w r b0 t v) → ∃ Ds, ArgsR w (fun _ => True) tys Ds vs ∧ preFit tys Ds = true
  | [], [], [], [], _, _, _, _ => ⟨[], by simp [ArgsR], rfl⟩
  | [], [], _ :: _, _, _, _, h, _ | [], [], [], _ :: _, _, _, h, _ => by simp [DataW.TrodAll] at h
  | [], _ :: _, _, _, _, h, _, _ | _ :: _, [], _, _, _, h, _, _ => by simp [AllOk] at h
  | t :: ts, ty :: tys, [], _, _, _, h, _ | t :: ts, ty :: tys, _ :: _, [], _, _, h, _ => by simp [DataW.TrodAll] at h
  | t :: ts, ty :: tys, v :: vs, d :: ds, p, hT, h, hok => by
    simp only [AllOk] at hT
    simp only [DataW.TrodAll] at h
    obtain ⟨p1, q1, ⟨fuel, h1⟩, h2, _⟩ := h
    obtain ⟨D, r1, r2⟩ := trod_RO fuel hT.1 h1
    obtain ⟨Ds, r3, r4⟩ := argsR_of hT.2 h2 (fun j t' v' e1 e2 => hok (j + 1) t' v' (by simpa using e1) (by simpa using e2))
    obtain ⟨r, b0, hw⟩ := hok 0 t v rfl rfl
    refine ⟨D :: Ds, ?_, ?_⟩
    · simp only [ArgsR]
      exact ⟨D, Ds, v, vs, rfl, rfl, ⟨_, cv_of_okWide hT.1 hw, r1⟩, r3⟩
    · simp only [preFit, List.getD_cons_zero, List.drop_succ_cons, List.drop_zero, r2, r4, Bool.and_self]

theorem trodAll_below (hl : laidOutB P = true) {W W' : World} (hb : Below W.heap.size W W') : ∀ {ts : List TypeId} {vs : List Value} {ds : List (DataW H)} {p : List MemPlace}, (∀ t ∈ ts, P.readableRec t = true ∧ t < P.types.size) →
    DataW.TrodAll enc P W 0 (fun _ => true) true ts vs ds p → (∀ x ∈ p, x.block < W.heap.size) → DataW.TrodAll enc P W' 0 (fun b => decide (b < W.heap.size)) true ts vs ds p
  | [], [], [], p, _, h, _ => h
  | [], [], _ :: _, _, _, h, _ | [], _ :: _, _, _, _, h, _ => by simp [DataW.TrodAll] at h
  | _ :: _, [], _, _, _, h, _ | _ :: _, _ :: _, [], _, _, h, _ => by simp [DataW.TrodAll] at h
  | t :: ts, v :: vs, d :: ds, p, hr, h, hlt => by
    simp only [DataW.TrodAll] at h ⊢
    obtain ⟨p1, q1, h1, h2, rfl⟩ := h
    obtain ⟨r1, r2⟩ := hr t (by simp)
    exact ⟨p1, q1, Below.trod hl r1 r2 h1 hb (fun x hx => hlt x (by simp [hx])), trodAll_below hl hb (fun t' ht' => hr t' (by simp [ht'])) h2 (fun x hx => hlt x (by simp [hx])), rfl⟩

/-- **The row of a law**, out of the law's contract. -/
theorem law_row {E : Env} {P : Program} {f : FuncId} {fn : Func} {s : ChangeSpec} {tys : List Ty} (hcon : ConOk E P f (lawSig tys)) (hT : AllOk P fn.params.toList tys) (hl : laidOutB P = true)
    (hread : (fn.params.toList.all fun t => P.readableRec t && decide (t < P.types.size)) = true) (hvs : s.vars = []) {tb : TypeId} (hrt : fn.resultTypes = #[tb]) (htb : P.underlying tb = some .bool)
    {H : Type} {enc : TypeId × Value → H} (hs : ∀ ds : List (DataW H), ds.length = fn.params.size → s.fn H ds = { results := [.lit (.bool true)], args := ds })
    {W : World} {base : Nat} {args : Array Value} {ds gs : List (DataW H)} {before : List MemPlace}
    (hval : ∀ (j : Nat) t v, fn.params[j]? = some t → args[j]? = some v → Value.okWide P W .any base t v)
    (hW : DataW.Whole enc P fn.params.toList s.vars false W args.toList ds gs before) (hE : E.inv W) :
    Calls P f args W fun e W' => ∃ v, e = .returned v ∧ s.post enc P fn false true false false W args v W' := by
  have hW' := hW
  obtain ⟨p, q, hA, hV, rfl, _, _⟩ := hW
  obtain ⟨Ds, h1, h2⟩ := argsR_of (tys := tys) hT hA (fun j t v e1 e2 => ⟨.any, base, hval j t v (by simpa using e1) (by simpa using e2)⟩)
  refine (hcon.calls W Ds args hE h1 h2).mono ?_
  rintro e W' ⟨v, rfl, hk, vs, F, _, _, ht, ev⟩
  have hb : Below W.heap.size W W' := ⟨hk.os, hk.tape, hk.output, hk.size, hk.block⟩
  refine ⟨v, rfl, ?_⟩
  have hgs : gs = [] ∧ q = [] := by
    rw [hvs] at hV
    cases gs with
    | nil => simp only [DataW.TrodVars] at hV; exact ⟨rfl, hV⟩
    | cons _ _ => simp [DataW.TrodVars] at hV
  obtain ⟨rfl, rfl⟩ := hgs
  have hv : v = .bool true := by
    simp only [TupR] at ht
    obtain ⟨x, r, F1, F2, rfl, _, ⟨cs, rfl, how⟩, rfl, _⟩ := ht
    simp only [OW, Dat.fld, Dat.kids, List.getD_cons_zero, Dat.bool] at how
    rw [ev, how.1]
    rfl
  subst hv
  have hlen : ds.length = fn.params.size := by
    have : ∀ {ts : List TypeId} {vs : List Value} {ds : List (DataW H)} {p : List MemPlace}, DataW.TrodAll enc P W 0 (fun _ => true) true ts vs ds p → ds.length = ts.length := by
      intro ts
      induction ts with
      | nil => intro vs ds p h; cases vs <;> cases ds <;> simp_all [DataW.TrodAll]
      | cons t ts ih =>
        intro vs ds p h
        cases vs <;> cases ds <;> simp only [DataW.TrodAll] at h
        obtain ⟨_, _, _, h2, _⟩ := h
        simp [ih h2]
    simpa using this hA
  have hsf := hs ds hlen
  refine ⟨ds, [], p ++ [], [], p, [], hW', ?_, ?_, ?_, Below.frame hb _, fun h => by cases h⟩
  · rw [List.append_nil, hsf, hrt]
    exact ⟨[], [], shut_bool htb true, rfl, rfl⟩
  · rw [List.append_nil, hsf]
    exact trodAll_below hl hb (fun t ht => by have := List.all_eq_true.1 hread t ht; simpa using this) hA (fun x hx => hW'.lt x (by simpa using hx))
  · rw [List.append_nil, hsf, hvs]
    simp only [DataW.TrodVars]
end
end Go.Ev
