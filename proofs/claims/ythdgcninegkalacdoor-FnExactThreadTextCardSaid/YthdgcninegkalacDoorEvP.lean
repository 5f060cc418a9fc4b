/-
  Whole functions: what the evaluator says of a body is the function's contract.
-/
import Derived.Test.YthdgcninegkalacDoorEvO
namespace Go.Ev
open List (nodup_iff_count)

section
variable {P : Program} {E : Env} {w0 : World} {ok : Nat → Prop} {pl : List (Option Pl)} {FS : List (List Nat)} {s : St} {a : Act} {w : World} {T : TypeId → Option Ty}

theorem grabs_tup : ∀ {ts : List Ty} {l : List V} {xs : List Value} {ds : List Dat} {hp' : List Blk} {FS : List (List Nat)} {s : St} {pre : List Dat}, Core E w0 ok pl FS s a w → VRs w0 ok s.hp pl l xs → grabs ts l s.hp = some (ds, hp') →
    Grabbed E w0 ok pl FS s a w hp' (fun G => TupR w ts pre.length (.n (pre ++ ds)) xs G)
  | [], l, xs, ds, hp', FS, s, pre, hc, hv, h => by
    cases l <;> simp only [grabs, reduceCtorEq, Option.some.injEq, Prod.mk.injEq] at h
    obtain ⟨rfl, rfl⟩ := h
    simp only [VRs] at hv
    exact ⟨FS, [], hc, Hle.refl _, fun B => by simp, by simp [TupR, hv]⟩
  | t :: ts, l, xs, ds, hp', FS, s, pre, hc, hv, h => by
    cases l with
    | nil => simp only [grabs, reduceCtorEq] at h
    | cons v l =>
      simp only [grabs] at h
      cases h1 : grab t v s.hp with
      | none => simp [h1] at h
      | some x =>
        obtain ⟨d1, hp1⟩ := x
        simp only [h1] at h
        cases h2 : grabs ts l hp1 with
        | none => simp [h2] at h
        | some y =>
          obtain ⟨ds1, hp2⟩ := y
          simp only [h2, Option.some.injEq, Prod.mk.injEq] at h
          obtain ⟨rfl, rfl⟩ := h
          simp only [VRs] at hv
          obtain ⟨x, r, rfl, hv1, hv2⟩ := hv
          obtain ⟨cs, ex, hvc⟩ := grab_cv hv1 h1
          obtain ⟨FS1, G1, k1, k2, k3, k4⟩ := grab_sound hc hvc h1
          obtain ⟨FS2, G2, m1, m2, m3, m4⟩ := grabs_tup (s := ⟨s.tm, hp1⟩) (pre := pre ++ [d1]) k1 (VRs.mono k2 (fun _ _ => rfl) hv2) h2
          refine ⟨FS2, G1 ++ G2, m1, k2.trans m2, fun B => ?_, ?_⟩
          · have := k3 B; have := m3 B
            simp only [List.count_append]; omega
          · simp only [TupR]
            refine ⟨x, r, G1, G2, rfl, rfl, ⟨cs, ex, ?_⟩, by simpa using m4⟩
            have : (Dat.n (pre ++ d1 :: ds1)).fld pre.length = d1 := by simp [Dat.fld, Dat.kids, List.getD_eq_getElem?_getD]
            rw [this]; exact k4

/-- Where the results lie. -/
def resStep (tmps : Array Value) : ResultVar → Sem Value
  | .tmp t => pure (tmps.getD t undef)
  | .cell a t => do loadVar t (← asAddr (tmps.getD a undef))

theorem results_eq (fn : Func) (tmps : Array Value) : results fn tmps = (do let vs ← fn.results.mapM (resStep tmps); pure (if h : vs.size = 1 then vs[0] else .tuple vs)) := by
  unfold results
  congr 1

theorem evRes_sound (hT : ∀ t ty, T t = some ty → TyOk P t ty) (hc : Core E w0 ok pl FS s a w) : ∀ {l : List ResultVar} {vs : List V}, evRes T s l = some vs →
    ∃ xs, (l.mapM (resStep a.tmps)).run P w = .ok xs w ∧ VRs w0 ok s.hp pl vs xs
  | [], vs, h => by
    simp only [evRes, Option.some.injEq] at h; subst h
    exact ⟨[], by simp, by simp [VRs]⟩
  | .tmp t :: r, vs, h => by
    simp only [evRes] at h
    cases hr : evRes T s r with
    | none => simp [hr] at h
    | some l =>
      simp only [hr, Option.some.injEq] at h
      subst h
      obtain ⟨xs, h1, h2⟩ := evRes_sound hT hc hr
      have hl := look_VR hc (ctx := none) (by simp) none (.tmp t)
      refine ⟨a.tmps.getD t undef :: xs, ?_, ?_⟩
      · simp [List.mapM_cons, resStep, h1]
      · simp only [VRs]
        refine ⟨_, xs, rfl, ?_, h2⟩
        exact hc.tm t
  | .cell t ty :: r, vs, h => by
    simp only [evRes] at h
    cases hTt : T ty with
    | none => simp [hTt] at h
    | some tt =>
      have hty := hT ty tt hTt
      simp only [hTt] at h
      have hl := hc.tm t
      generalize s.tm.getD t .u = vx at h hl
      cases vx <;> simp only [reduceCtorEq] at h
      rename_i b p off
      simp only [TR, VR, VC] at hl
      obtain ⟨_, hlt, hpt⟩ := hl
      cases hb : getB s.hp b with
      | dead => simp [hb] at h
      | arr _ _ => simp [hb] at h
      | box v =>
        simp only [hb] at h hpt
        obtain ⟨p', hp', e⟩ := hpt
        simp only [List.cons.injEq, and_true] at e
        cases hv : vat p v with
        | none => simp [hv] at h
        | some x0 =>
          simp only [hv] at h
          split at h <;> try (simp only [reduceCtorEq] at h; done)
          rename_i hcond
          obtain ⟨hsz, hst, hoff⟩ := hcond
          cases hr : evRes T s r with
          | none => simp [hr] at h
          | some l =>
            simp only [hr, Option.some.injEq] at h
            subst h
            obtain ⟨xs, h1, h2⟩ := evRes_sound hT hc hr
            obtain ⟨ho, hB, cs, hlen, hcell, hvc⟩ := hc.box hb hlt hp'
            obtain ⟨c1, c2, c3, rfl, hl1, hv2, _⟩ := hvc.at p hv
            have hlen2 := hv2.len
            have hld : (loadVar ty ⟨p'.B, p'.o + off, none⟩).run P w = _ := run_loadVar' (cs := c2) hty (by omega) (fun j hj => by
              rw [ho, ← hoff, ← hl1]
              simp only [Nat.zero_add]
              rw [hcell _ (by rw [← hlen]; simp only [List.length_append]; omega), get_mid (by omega)])
            refine ⟨(if tt.isSt = true then Value.agg c2.toArray else c2.getD 0 undef) :: xs, ?_, ?_⟩
            rotate_left
            · simp only [VRs]
              exact ⟨_, xs, rfl, hv2.toVR' hst, h2⟩
            · simp [List.mapM_cons, resStep, e, asAddr, hld, h1]

theorem ofRos_length : ∀ (ts : List Ty) (j : Nat) (d : Dat), (ofRos ts j d).length = ts.length
  | [], _, _ => rfl
  | t :: ts, j, d => by simp [ofRos, ofRos_length ts (j + 1) d]

theorem noG_ofRo (t : Ty) (d : Dat) {tv : Array Value} {hp : List Blk} {x : Value} (h : VR w0 ok hp pl (ofRo t d) x) : TR w0 ok hp pl tv (ofRo t d) x := by
  exact h

/-- The slots that hold the arguments. -/
theorem args_TR {tv : Array Value} : ∀ {ps : List Ty} {ds pre : List Dat} {vs : List Value} (t : Nat), ArgsR w ok ps ds vs → TR w ok [] [] tv ((ofRos ps pre.length (.n (pre ++ ds))).getD t .u) (vs.getD t undef)
  | [], ds, pre, vs, t, h => by simp [ofRos, TR, VR]
  | p :: ps, ds, pre, vs, t, h => by
    simp only [ArgsR] at h
    obtain ⟨d, ds', v, vs', rfl, rfl, ⟨cs, rfl, hr⟩, h'⟩ := h
    have e : (Dat.n (pre ++ d :: ds')).fld pre.length = d := by simp [Dat.fld, Dat.kids, List.getD_eq_getElem?_getD]
    cases t with
    | zero =>
      simp only [ofRos, List.getD_cons_zero, e]
      exact noG_ofRo p d ((ofRo_VC hr).toVR (ofRo_isSt p d))
    | succ t =>
      simp only [ofRos, List.getD_cons_succ]
      have := args_TR (tv := tv) (pre := pre ++ [d]) t h'
      simpa using this

theorem ArgsR.lengths : ∀ {ps : List Ty} {ds : List Dat} {vs : List Value}, ArgsR w ok ps ds vs → ds.length = ps.length ∧ vs.length = ps.length
  | [], ds, vs, h => by simp only [ArgsR] at h; simp [h.1, h.2]
  | p :: ps, ds, vs, h => by
    simp only [ArgsR] at h
    obtain ⟨d, ds', v, vs', rfl, rfl, _, h'⟩ := h
    have := h'.lengths
    simp [this.1, this.2]

/-- **The contract of a function**, out of what the evaluator says of its body. -/
theorem conOk_of (hM : P.follows .mixedOrders = true) (hD : 16 ≤ P.depth) {C : FuncId → Option Sig} (hT : ∀ t ty, T t = some ty → TyOk P t ty) (hC : ∀ f sg, C f = some sg → ConOk E P f sg)
    {f : FuncId} {fn : Func} {c : Code} {sg : Sig} {L : Nat → Option LoopSum} {keep : Nat → List Nat} (hf : P.funcs[f]? = some fn) (hb : fn.body = some c) (hn : (fn.name == "runtime.NumGoroutine") = false)
    (h : ∀ ds, ds.length = sg.ps.length → sg.pre ds = true → ∃ K, evBody T C L K keep fn sg.ps sg.rs ds = some (sg.res ds) ∧ LoopsOk T C L K keep (loopsOf 0 c)) : ConOk E P f sg where
  enter := enter_of hf hn (by rw [hb]; rfl)
  calls := by
    intro w ds args hinv hargs hpre
    obtain ⟨hl1, hl2⟩ := hargs.lengths
    obtain ⟨K, hev, hLs⟩ := h ds hl1 hpre
    unfold evBody at hev
    simp only [hb] at hev
    split at hev <;> try (simp only [reduceCtorEq] at hev; done)
    rename_i hcond
    have hasz : args.size = sg.ps.length := by simpa using hl2
    have hcore : Core E w (fun _ => True) [] [] ⟨ofRos sg.ps 0 (.n ds) ++ List.replicate (fn.ntmps - sg.ps.length) .u, []⟩ { tmps := args ++ Array.replicate (fn.ntmps - args.size) undef, defers := [] } w := by
      refine ⟨hinv, fun _ _ => trivial, Ext.refl _ _, rfl, rfl, fun b hb => absurd hb (by simp), by simp, by simp, rfl, ?_, fun t => ?_⟩
      · simp [ofRos_length, hasz]
      · by_cases ht : t < sg.ps.length
        · have e1 : (ofRos sg.ps 0 (.n ds) ++ List.replicate (fn.ntmps - sg.ps.length) V.u).getD t .u = (ofRos sg.ps 0 (.n ds)).getD t .u := by
            simp [List.getD_eq_getElem?_getD, List.getElem?_append_left, ofRos_length, ht]
          have e2 : (args ++ Array.replicate (fn.ntmps - args.size) undef).getD t undef = args.toList.getD t undef := by
            simp [Array.getD_eq_getD_getElem?, List.getD_eq_getElem?_getD, Array.getElem?_append_left (show t < args.size by omega)]
          simp only [e1, e2]
          exact args_TR (pre := []) t hargs
        · have e1 : (ofRos sg.ps 0 (.n ds) ++ List.replicate (fn.ntmps - sg.ps.length) V.u).getD t .u = .u := by
            simp only [List.getD_eq_getElem?_getD]
            rw [List.getElem?_append_right (by rw [ofRos_length]; omega), List.getElem?_replicate]
            split <;> rfl
          simp only [e1]
          simp [TR, VR]
    refine calls_of_wp hf hb (evC_sound hM hT hC hD c 0 hLs hcore hev fun e pl' FS' s' a' w' hc' hk => ?_)
    have key : ∀ x, (match evRes T s' fn.results.toList with | some vs => (match grabs sg.rs vs s'.hp with | some (ds, _) => some ds | none => none) | none => none) = some x → x = sg.res ds →
        a'.defers = [] ∧ ∃ v, (results fn a'.tmps).run P w' = .ok v w' ∧ ∃ v_1, Ending.returned v = .returned v_1 ∧ Cl w w' ∧ ResR w w' sg.rs (sg.res ds) v_1 := by
      intro x hk hx
      subst hx
      refine ⟨hc'.defs, ?_⟩
      cases hvs : evRes T s' fn.results.toList with
      | none => simp [hvs] at hk
      | some vs =>
        simp only [hvs] at hk
        cases hg : grabs sg.rs vs s'.hp with
        | none => simp [hg] at hk
        | some y =>
          obtain ⟨ds', hp'⟩ := y
          simp only [hg, Option.some.injEq] at hk
          subst hk
          obtain ⟨xs, h1, h2⟩ := evRes_sound hT hc' hvs
          obtain ⟨FS2, G, k1, k2, k3, k4⟩ := grabs_tup (pre := []) hc' h2 hg
          have hrun : (fn.results.mapM (resStep a'.tmps)).run P w' = .ok xs.toArray w' := by
            rw [Array.mapM_eq_mapM_toList]; simp [h1]
          refine ⟨_, by rw [results_eq]; simp only [Sem.run_bind, hrun, Result.andThen_ok, Sem.run_pure]; rfl, _, rfl, ⟨hc'.ext.os, hc'.ext.tape, hc'.ext.output, hc'.ext.size, fun B hB => hc'.ext.block B hB trivial⟩,
            xs, G, nodup_iff_count.2 fun B => ?_, fun B hB => ?_, by simpa using k4, ?_⟩
          · have := k3 B; have := nodup_iff_count.1 hc'.nd B; omega
          · have h3 := List.one_le_count_iff.2 hB
            have h4 := k3 B
            have := hc'.own B (List.one_le_count_iff.1 (by omega))
            exact ⟨this.1.resolve_right (by simp), this.2⟩
          · match xs with
            | [] => simp
            | [x] => simp
            | x :: y :: r => simp
    cases e with
    | normal => exact key _ hk rfl
    | ret => exact key _ hk rfl
    | exit id => simp at hk
end
end Go.Ev
