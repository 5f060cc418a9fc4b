/-
  The operations that leave memory alone: what the evaluator says is what the machine does.
-/
import Derived.Test.YthdgcninegkalacDoorEvE
namespace Go.Ev

theorem get_mid {α : Type} {c1 c2 c3 : List α} {j : Nat} (h : j < c2.length) : (c1 ++ (c2 ++ c3))[c1.length + j]? = c2[j]? := by
  rw [List.getElem?_append_right (by omega), List.getElem?_append_left (by omega)]
  congr 1; omega

section
variable {P : Program} {E : Env} {w0 : World} {ok : Nat → Prop} {pl : List (Option Pl)} {FS : List (List Nat)} {s : St} {a : Act} {w : World}

theorem look_VR (hc : Core E w0 ok pl FS s a w) {ctx : Option (Nat × Bool)} (_hx : ∀ t b, ctx = some (t, b) → a.tmps.getD t undef = .bool b) (t : Option Ty) (x : Operand) :
    VR w0 ok s.hp pl (look ctx s.tm t x) (a.eval x) := by
  cases x with
  | tmp n =>
    simp only [look, Act.eval]
    exact hc.tm n
  | const v => exact ofVal_VR t v
  | global g => simp [look, VR]
  | func f => simp [look, VR]

theorem Core.ro_block (hc : Core E w0 ok pl FS s a w) {w' : World} (hw : Cl w w') {B : Nat} (ho : ok B) (hB : B < w0.heap.size) : w'.heap[B]? = w0.heap[B]? :=
  (hw.block B (Nat.lt_of_lt_of_le hB hc.ext.size)).trans (hc.ext.block B hB ho)

/-- Where a box lies, and its cells. -/
theorem Core.box (hc : Core E w0 ok pl FS s a w) {b : Nat} {v : V} (hb : getB s.hp b = .box v) (hlt : b < s.hp.length) {p' : Pl} (hp : pl.getD b none = some p') :
    p'.o = 0 ∧ p'.B < w.heap.size ∧ ∃ cs, cs.length = v.sz ∧ (∀ j, j < v.sz → cel w p'.B j = cs[j]?) ∧ VC w0 ok s.hp pl v cs := by
  have h := hc.blk b hlt
  rw [hb, hp] at h
  simp only [BR] at h
  rcases h with ⟨e, _⟩ | ⟨p, e, hF, ho, _, ⟨c, t, fr, hr, _⟩, cs, hl, hcell, hv⟩
  · cases e
  cases e
  refine ⟨ho, ?_, cs, hl, hcell, hv⟩
  rcases Nat.lt_or_ge p'.B w.heap.size with h | h
  · exact h
  · rw [Array.getElem?_eq_none h] at hr; cases hr

/-- Where a row lies, and its elements. -/
theorem Core.arr (hc : Core E w0 ok pl FS s a w) {b : Nat} {e : Ty} {l : List Dat} (hb : getB s.hp b = .arr e l) (hlt : b < s.hp.length) {p' : Pl} (hp : pl.getD b none = some p') :
    p'.B < w.heap.size ∧ ∃ F', Rows w e l p'.B p'.o F' := by
  have h := hc.blk b hlt
  rw [hb, hp] at h
  simp only [BR] at h
  rcases h with ⟨e0, _⟩ | ⟨p, F', e0, _, ⟨c, t, fr, hr, _⟩, _, hrows⟩
  · cases e0
  · cases e0
    refine ⟨?_, F', hrows⟩
    rcases Nat.lt_or_ge p'.B w.heap.size with h | h
    · exact h
    · rw [Array.getElem?_eq_none h] at hr; cases hr

theorem VC.toVR' {v : V} {cs : List Value} (h : VC w0 ok s.hp pl v cs) {ty : Ty} (hb : v.isSt = ty.isSt) : VR w0 ok s.hp pl v (if ty.isSt then .agg cs.toArray else cs.getD 0 undef) := h.toVR hb

theorem ofRo_isSt : ∀ (t : Ty) (d : Dat), (ofRo t d).isSt = t.isSt
  | .int _, _ | .bool, _ | .str, _ | .sl _, _ | .st _, _ => rfl
theorem ofOw_isSt : ∀ (t : Ty) (d : Dat), (ofOw t d).isSt = t.isSt
  | .int _, _ | .bool, _ | .str, _ | .sl _, _ | .st _, _ => rfl

/-- A load. -/
theorem load_sound {T : TypeId → Option Ty} (hT : ∀ t ty, T t = some ty → TyOk P t ty) (hc : Core E w0 ok pl FS s a w) {ctx : Option (Nat × Bool)}
    (hx : ∀ t b, ctx = some (t, b) → a.tmps.getD t undef = .bool b) {ty : TypeId} {t : TypeId} {x : Operand} {r : Bool × V} (h : evPure T ctx s.tm s.hp ty (.load t x) = some r) :
    ∃ val, VR w0 ok s.hp pl r.2 val ∧ ∀ w', Cl w w' → (Instr.loadAt t (a.eval x)).run P w' = .ok val w' := by
  have hl := look_VR hc hx none x
  simp only [evPure] at h
  cases hTt : T t with
  | none => simp [hTt] at h
  | some tt =>
    have hty := hT t tt hTt
    simp only [hTt] at h
    generalize look ctx s.tm none x = vx at h hl
    cases vx <;> simp only [reduceCtorEq] at h
    case rp t' d =>
      split at h <;> simp only [reduceCtorEq, Option.some.injEq] at h
      rename_i hbeq
      have := Ty.eq_of_beq _ _ hbeq
      subst this
      subst h
      simp only [VR, VC] at hl
      obtain ⟨B, o, e, hok, hB, cs, hlen, hcell, hro⟩ := hl
      simp only [List.cons.injEq, and_true] at e
      refine ⟨_, (ofRo_VC hro).toVR' (ofRo_isSt tt d), fun w' hw => ?_⟩
      rw [e]
      have hblk := hc.ro_block hw hok hB
      simp only [Instr.loadAt, Instr.sureAddr, Sem.run_bind, Sem.run_pure, Result.andThen]
      exact run_loadVar' hty hlen (fun j hj => (cel_of_block hblk _).trans (hcell j hj))
    case pt b p off =>
      simp only [VR, VC] at hl
      obtain ⟨_, hlt, hpt⟩ := hl
      cases hb : getB s.hp b with
      | dead => simp [hb] at h
      | arr _ _ => simp [hb] at h
      | box v =>
        simp only [hb] at h hpt
        obtain ⟨p', hp', e⟩ := hpt
        simp only [List.cons.injEq, and_true] at e
        cases hv : vat p v with
        | none => simp [hv] at h
        | some x0 =>
          simp only [hv] at h
          split at h <;> simp only [reduceCtorEq, Option.some.injEq] at h
          rename_i hcond
          obtain ⟨hsz, hst, hoff⟩ := hcond
          subst h
          obtain ⟨ho, hB, cs, hlen, hcell, hvc⟩ := hc.box hb hlt hp'
          obtain ⟨c1, c2, c3, rfl, hl1, hv2, _⟩ := hvc.at p hv
          refine ⟨_, hv2.toVR' hst, fun w' hw => ?_⟩
          rw [e]
          simp only [Instr.loadAt, Instr.sureAddr, Sem.run_bind, Sem.run_pure, Result.andThen]
          have hlen2 := hv2.len
          refine run_loadVar' hty (by omega) (fun j hj => ?_)
          rw [cel_of_block (hw.block _ hB), ho, ← hoff, ← hl1]
          simp only [Nat.zero_add]
          rw [hcell _ (by rw [← hlen]; simp only [List.length_append]; omega), get_mid (by omega)]
    case ap b i p off =>
      simp only [VR, VC] at hl
      obtain ⟨_, hlt, hpt⟩ := hl
      cases hb : getB s.hp b with
      | dead => simp [hb] at h
      | box _ => simp [hb] at h
      | arr e l =>
        simp only [hb] at h hpt
        cases hv : tat p e with
        | none => simp [hv] at h
        | some t' =>
          simp only [hv] at h
          split at h <;> simp only [reduceCtorEq, Option.some.injEq] at h
          rename_i hcond
          obtain ⟨hbeq, hoff⟩ := hcond
          have := Ty.eq_of_beq _ _ hbeq
          subst this
          subst h
          obtain ⟨hi, p', hp', e'⟩ := hpt
          simp only [List.cons.injEq, and_true] at e'
          obtain ⟨hB, F', Fs, _, _, hrows⟩ := hc.arr hb hlt hp'
          obtain ⟨cs, hlen, hcell, how⟩ := hrows i hi
          obtain ⟨c1, c2, c3, F1, F2, F3, rfl, _, hl1, hv2⟩ := how.at p hv
          refine ⟨_, (ofOw_VC hv2).toVR' (ofOw_isSt tt _), fun w' hw => ?_⟩
          rw [e']
          simp only [Instr.loadAt, Instr.sureAddr, Sem.run_bind, Sem.run_pure, Result.andThen]
          have hlen2 := hv2.len
          refine run_loadVar' hty hlen2 (fun j hj => ?_)
          rw [cel_of_block (hw.block _ hB), ← hoff, ← hl1, Nat.add_assoc _ c1.length j,
            hcell _ (by rw [← hlen]; simp only [List.length_append]; omega), get_mid (by omega)]
end
end Go.Ev
