/-
  Calls of functions that have a contract.
-/
import Derived.Test.YthdgcninegkalacDoorEvL
namespace Go.Ev
open List (nodup_iff_count)

/-- Arguments that read as data. -/
def ArgsR (w : World) (ok : Nat → Prop) : List Ty → List Dat → List Value → Prop
  | [], ds, vs => ds = [] ∧ vs = []
  | t :: ts, ds, vs => ∃ d ds' v vs', ds = d :: ds' ∧ vs = v :: vs' ∧ (∃ cs, v = cv t cs ∧ RO w ok t d cs) ∧ ArgsR w ok ts ds' vs'

/-- Results, of memory that is nobody else's: the blocks 'F'. -/
def TupR (w : World) : List Ty → Nat → Dat → List Value → List Nat → Prop
  | [], _, _, vs, F => vs = [] ∧ F = []
  | t :: ts, j, d, vs, F => ∃ x r F1 F2, vs = x :: r ∧ F = F1 ++ F2 ∧ (∃ cs, x = cv t cs ∧ OW w t (d.fld j) cs F1) ∧ TupR w ts (j + 1) d r F2

def ResR (w w' : World) (rs : List Ty) (ds : List Dat) (v : Value) : Prop :=
  ∃ vs F, F.Nodup ∧ (∀ B ∈ F, w.heap.size ≤ B ∧ B < w'.heap.size) ∧ TupR w' rs 0 (.n ds) vs F ∧ v = (match vs with | [x] => x | _ => .tuple vs.toArray)

/-- A function answers as its contract says. -/
structure ConOk (E : Env) (P : Program) (f : FuncId) (sg : Sig) : Prop where
  enter : ∀ (args : Array Value) (w : World), (callFunc f args).run P w = .ok (.enter f args) w
  calls : ∀ (w : World) (ds : List Dat) (args : Array Value), E.inv w → ArgsR w (fun _ => True) sg.ps ds args.toList → sg.pre ds = true →
    Calls P f args w fun e w' => ∃ v, e = .returned v ∧ Cl w w' ∧ ResR w w' sg.rs (sg.res ds) v

theorem enter_of {P : Program} {f : FuncId} {fn : Func} (hf : P.funcs[f]? = some fn) (hn : (fn.name == "runtime.NumGoroutine") = false) (hb : fn.body.isSome = true) (args : Array Value) (w : World) :
    (callFunc f args).run P w = .ok (.enter f args) w := by
  have hb' : fn.body ≠ none := by intro h; rw [h] at hb; cases hb
  have hn' : ¬ fn.name = "runtime.NumGoroutine" := by simpa using hn
  simp [callFunc, go_sem, hf, hn', hb']

section
variable {P : Program} {E : Env} {w0 : World} {ok : Nat → Prop} {pl : List (Option Pl)} {FS : List (List Nat)} {s : St} {a : Act} {w : World}

theorem VC.cvR {v : V} {cs : List Value} {hp : List Blk} {pl : List (Option Pl)} (h : VC w0 ok hp pl v cs) {t : Ty} (hb : v.isSt = t.isSt) : VR w0 ok hp pl v (cv t cs) := h.toVR hb

theorem mkRes_isSt (t : Ty) (d : Dat) (h : List Blk) : (mkRes t d h).1.isSt = t.isSt := by cases t <;> rfl

/-- The same of a tuple of results. -/
theorem tupRes_sound : ∀ {ts : List Ty} {j : Nat} {d : Dat} {vs : List Value} {F : List Nat} {pl : List (Option Pl)} {FS : List (List Nat)} {s : St}, Core E w0 ok pl FS s a w → TupR w ts j d vs F →
    (∀ B, FS.flatten.count B + F.count B ≤ 1) → (∀ B ∈ F, (w0.heap.size ≤ B ∨ ¬ ok B) ∧ B < w.heap.size) →
    Made E w0 ok pl FS s a w (mkRess ts j d s.hp).2 F (fun pl' => VRs w0 ok (mkRess ts j d s.hp).2 pl' (mkRess ts j d s.hp).1 vs)
  | [], j, d, cs, F, pl, FS, s, hc, h, _, _ => by
    simp only [TupR] at h; obtain ⟨rfl, rfl⟩ := h
    exact ⟨pl, FS, hc, Hle.refl _, fun _ _ => rfl, fun B => by simp, by simp [mkRess, VRs]⟩
  | t :: ts, j, d, cs, F, pl, FS, s, hc, h, hn, hF => by
    simp only [TupR] at h
    obtain ⟨x, r, F1, F2, rfl, rfl, ⟨c1, rfl, h1⟩, h2⟩ := h
    obtain ⟨pl1, FS1, k1, k2, k3, k4, k5⟩ := mkRes_sound hc h1 (fun B => by have := hn B; simp only [List.count_append] at this; omega) (fun B hB => hF B (by simp [hB]))
    obtain ⟨pl2, FS2, m1, m2, m3, m4, m5⟩ := tupRes_sound (s := ⟨s.tm, (mkRes t (d.fld j) s.hp).2⟩) k1 h2 (fun B => by have := hn B; have := k4 B; simp only [List.count_append] at *; omega) (fun B hB => hF B (by simp [hB]))
    refine ⟨pl2, FS2, m1, k2.trans m2, k3.trans m3 k2.len, fun B => by have := k4 B; have := m4 B; simp only [List.count_append] at *; omega, ?_⟩
    simp only [mkRess, VRs]
    exact ⟨_, r, rfl, VR.mono m2 m3 (k5.cvR (mkRes_isSt _ _ _)), m5⟩

/-! ### Arguments -/
theorem args_sound (hc : Core E w0 ok pl FS s a w) {ctx : Option (Nat × Bool)} (hx : ∀ t b, ctx = some (t, b) → a.tmps.getD t undef = .bool b) :
    ∀ {ps : List Ty} {xs : List Operand} {ds : List Dat}, xs.length = ps.length → argDs s.hp ps ((xs.zip ps).map fun x => look ctx s.tm (some x.2) x.1) = some ds → ArgsR w (fun _ => True) ps ds (xs.map a.eval)
  | [], xs, ds, hl, h => by
    cases xs with
    | nil => simp [argDs] at h; simp [ArgsR, h]
    | cons _ _ => simp at hl
  | t :: ps, xs, ds, hl, h => by
    cases xs with
    | nil => simp at hl
    | cons x xs =>
      simp only [List.zip_cons_cons, List.map_cons, argDs] at h
      cases h1 : argD s.hp t (look ctx s.tm (some t) x) with
      | none => simp [h1] at h
      | some d =>
        simp only [h1] at h
        cases h2 : argDs s.hp ps ((xs.zip ps).map fun x => look ctx s.tm (some x.2) x.1) with
        | none => simp [h2] at h
        | some ds' =>
          simp only [h2, Option.some.injEq] at h
          subst h
          obtain ⟨cs, e, hvc⟩ := argD_cv (look_VR hc hx (some t) x) h1
          simp only [ArgsR, List.map_cons]
          exact ⟨d, ds', _, _, rfl, rfl, ⟨cs, e, argD_sound hc hvc h1⟩, args_sound hc hx (by simpa using hl) h2⟩

theorem ArgsR.cl {w' : World} (hk : Cl w w') : ∀ {ps : List Ty} {ds : List Dat} {vs : List Value}, ArgsR w (fun _ => True) ps ds vs → ArgsR w' (fun _ => True) ps ds vs
  | [], _, _, h => by simpa [ArgsR] using h
  | t :: ps, ds, vs, h => by
    simp only [ArgsR] at h ⊢
    obtain ⟨d, ds', v, vs', e1, e2, ⟨cs, e3, hr⟩, h'⟩ := h
    exact ⟨d, ds', v, vs', e1, e2, ⟨cs, e3, RO.kept ⟨hk.size, fun B _ hB => hk.block B hB⟩ (fun _ _ _ => trivial) hr⟩, ArgsR.cl hk h'⟩

/-! ### The call -/
theorem run_callOp {o : Oper} {c : Call} {f : FuncId} (ho : o.op = .call c) (hcal : c.callee = .value (.func f)) (he : ∀ (args : Array Value) (w : World), (callFunc f args).run P w = .ok (.enter f args) w) (w : World) :
    (execOp a.eval o).run P w = .ok (.enter f (c.args.map a.eval)) w := by
  simp [execOp, ho, resolve, hcal, Act.eval, Deferred.ofValue, invoke, he]

/-- What 'evCall' asks and says. -/
theorem evCall_spec {C : FuncId → Option Sig} {ctx : Option (Nat × Bool)} {tm : List V} {hp : List Blk} {op : Op} {r : R} (h : evCall C ctx tm hp op = some r) :
    ∃ c f sg ds, op = .call c ∧ c.callee = .value (.func f) ∧ C f = some sg ∧ c.args.toList.length = sg.ps.length ∧
      argDs hp sg.ps ((c.args.toList.zip sg.ps).map fun x => look ctx tm (some x.2) x.1) = some ds ∧ r.c = sg.pre ds ∧
      ((∃ t, sg.rs = [t] ∧ (r.v, r.h) = mkRes t ((sg.res ds).getD 0 (.n [])) hp) ∨ ((∀ t, sg.rs ≠ [t]) ∧ r.v = .tup (mkRess sg.rs 0 (.n (sg.res ds)) hp).1 ∧ r.h = (mkRess sg.rs 0 (.n (sg.res ds)) hp).2)) := by
  cases op <;> simp only [evCall, reduceCtorEq] at h
  rename_i c
  split at h <;> try (simp only [reduceCtorEq] at h; done)
  rename_i f hf
  cases hC : C f with
  | none => simp [hC] at h
  | some sg =>
    simp only [hC] at h
    split at h <;> try (simp only [reduceCtorEq] at h; done)
    rename_i hsz
    split at h <;> try (simp only [reduceCtorEq] at h; done)
    rename_i ds hds
    refine ⟨c, f, sg, ds, rfl, hf, hC, by simpa using hsz, hds, ?_⟩
    split at h
    · rename_i t ht
      simp only [Option.some.injEq] at h
      subst h
      exact ⟨rfl, .inl ⟨t, ht, rfl⟩⟩
    · rename_i hne
      simp only [Option.some.injEq] at h
      subst h
      exact ⟨rfl, .inr ⟨hne, rfl, rfl⟩⟩

theorem TupR.length {d : Dat} : ∀ {ts : List Ty} {j : Nat} {vs : List Value} {F : List Nat}, TupR w ts j d vs F → vs.length = ts.length
  | [], _, _, _, h => by simp only [TupR] at h; simp [h.1]
  | t :: ts, _, _, _, h => by
    simp only [TupR] at h
    obtain ⟨x, r, _, _, rfl, _, _, h2⟩ := h
    simp [TupR.length h2]

/-- The results of a call, in the world behind it. -/
theorem res_sound (hc : Core E w0 ok pl FS s a w) {w' : World} (hk : Cl w w') {rs : List Ty} {ds : List Dat} {v : Value} (hr : ResR w w' rs ds v) :
    (∀ t, rs = [t] → ∃ F, Made E w0 ok pl FS s a w' (mkRes t (ds.getD 0 (.n [])) s.hp).2 F (fun pl' => VR w0 ok (mkRes t (ds.getD 0 (.n [])) s.hp).2 pl' (mkRes t (ds.getD 0 (.n [])) s.hp).1 v)) ∧
    ((∀ t, rs ≠ [t]) → ∃ F, Made E w0 ok pl FS s a w' (mkRess rs 0 (.n ds) s.hp).2 F (fun pl' => VR w0 ok (mkRess rs 0 (.n ds) s.hp).2 pl' (.tup (mkRess rs 0 (.n ds) s.hp).1) v)) := by
  obtain ⟨vs, F, hn, hF, ht, ev⟩ := hr
  have hc' := hc.cl hk
  have hcnt : ∀ B, FS.flatten.count B + F.count B ≤ 1 := fun B => by
    have h1 := nodup_iff_count.1 hc.nd B
    have h2 := nodup_iff_count.1 hn B
    by_cases h3 : B ∈ F
    · have : FS.flatten.count B = 0 := List.count_eq_zero.2 fun hm => by have := (hc.own B hm).2; have := (hF B h3).1; omega
      omega
    · have := List.count_eq_zero.2 h3; omega
  have hown : ∀ B ∈ F, (w0.heap.size ≤ B ∨ ¬ ok B) ∧ B < w'.heap.size := fun B hB => ⟨.inl (Nat.le_trans hc.ext.size (hF B hB).1), (hF B hB).2⟩
  refine ⟨fun t e => ?_, fun hne => ?_⟩
  · subst e
    simp only [TupR] at ht
    obtain ⟨x, r, F1, F2, rfl, rfl, ⟨cs, rfl, how⟩, rfl, rfl⟩ := ht
    simp only at ev
    subst ev
    have hfl : (Dat.n ds).fld 0 = ds.getD 0 (.n []) := rfl
    rw [hfl] at how
    simp only [List.append_nil] at hcnt hown
    obtain ⟨pl', FS', k1, k2, k3, k4, k5⟩ := mkRes_sound hc' how hcnt hown
    exact ⟨F1, pl', FS', k1, k2, k3, k4, k5.cvR (mkRes_isSt _ _ _)⟩
  · obtain ⟨pl', FS', k1, k2, k3, k4, k5⟩ := tupRes_sound hc' ht hcnt hown
    have hlen := ht.length
    have hv : v = .tuple vs.toArray := by
      subst ev
      match vs, rs, hlen, hne with
      | [], _, _, _ => rfl
      | [x], [t], _, hne => exact absurd rfl (hne t)
      | x :: y :: r, _, _, _ => rfl
    exact ⟨F, pl', FS', k1, k2, k3, k4, by simp only [VR]; exact ⟨_, hv, by simpa using k5⟩⟩

theorem evCall_sound {C : FuncId → Option Sig} (hC : ∀ f sg, C f = some sg → ConOk E P f sg) (hc : Core E w0 ok pl FS s a w) {o : Oper}
    {r : R} (h : evCall C none s.tm s.hp o.op = some r) (hr : r.c = true) : Goes P E w0 ok pl s a w o r.v r.h := by
  obtain ⟨c, f, sg, ds, ho, hcal, hCf, hlen, hds, erc, hres⟩ := evCall_spec h
  have hcon := hC f sg hCf
  have hargs := args_sound hc (ctx := none) (by simp) hlen hds
  rw [erc] at hr
  intro K Q hK
  simp only [Oper.wp, run_callOp ho hcal hcon.enter, Oper.upon]
  refine (hcon.calls w ds (c.args.map a.eval) hc.inv (by simpa using hargs) hr).mono ?_
  rintro e w' ⟨v, rfl, hk, hres'⟩
  obtain ⟨g1, g2⟩ := res_sound hc hk hres'
  rcases hres with ⟨t, ht, er⟩ | ⟨hne, e1, e2⟩
  · obtain ⟨F, pl', FS', k1, _, k3, _, k5⟩ := g1 t ht
    have e1 : r.v = (mkRes t ((sg.res ds).getD 0 (.n [])) s.hp).1 := by rw [← er]
    have e2 : r.h = (mkRes t ((sg.res ds).getD 0 (.n [])) s.hp).2 := by rw [← er]
    rw [← e2] at k1
    rw [← e1, ← e2] at k5
    exact hK pl' FS' v w' k3 k1 k5
  · obtain ⟨F, pl', FS', k1, _, k3, _, k5⟩ := g2 hne
    rw [← e2] at k1
    rw [← e1, ← e2] at k5
    exact hK pl' FS' v w' k3 k1 k5

mutual
/-- The value that a flat value stands for. -/
theorem flat_cells : ∀ {v : V} {hp1 hp2 : List Blk} {pl1 pl2 : List (Option Pl)} {c1 c2 : List Value}, v.flat = true → VC w0 ok hp1 pl1 v c1 → VC w0 ok hp2 pl2 v c2 → c1 = c2 := by
  intro v hp1 hp2 pl1 pl2 c1 c2 hf h1 h2
  cases v <;> simp only [V.flat, Bool.false_eq_true] at hf <;> simp only [VC] at h1 h2
  case st l => exact flats_cells hf h1 h2
  all_goals rw [h1, h2]
theorem flats_cells : ∀ {l : List V} {hp1 hp2 : List Blk} {pl1 pl2 : List (Option Pl)} {c1 c2 : List Value}, V.flats l = true → VCs w0 ok hp1 pl1 l c1 → VCs w0 ok hp2 pl2 l c2 → c1 = c2
  | [], _, _, _, _, _, _, _, h1, h2 => by simp only [VCs] at h1 h2; rw [h1, h2]
  | v :: l, _, _, _, _, _, _, hf, h1, h2 => by
    simp only [V.flats, Bool.and_eq_true] at hf
    simp only [VCs] at h1 h2
    obtain ⟨a1, b1, rfl, x1, y1⟩ := h1
    obtain ⟨a2, b2, rfl, x2, y2⟩ := h2
    rw [flat_cells hf.1 x1 x2, flats_cells hf.2 y1 y2]
end
end
end Go.Ev
