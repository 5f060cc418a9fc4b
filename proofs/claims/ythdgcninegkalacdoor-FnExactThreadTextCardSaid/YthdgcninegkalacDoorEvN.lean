/-
  The operations of a region, one behind the other.
-/
import Derived.Test.YthdgcninegkalacDoorEvM
import Derived.Tactics
namespace Go.Ev
open List (nodup_iff_count)

theorem agetD_set_self {l : Array Value} {d : Nat} (h : d < l.size) (x y : Value) : (l.setIfInBounds d x).getD d y = x := by
  simp [Array.getD_eq_getD_getElem?, h]
theorem agetD_set_ne {l : Array Value} {d t : Nat} (h : d ≠ t) (x y : Value) : (l.setIfInBounds d x).getD t y = l.getD t y := by
  simp [Array.getD_eq_getD_getElem?, Array.getElem?_setIfInBounds_ne h]

section
variable {P : Program} {E : Env} {w0 : World} {ok : Nat → Prop} {hp : List Blk} {pl : List (Option Pl)} {FS : List (List Nat)} {tm : List V} {a : Act} {w : World}

theorem Core.put (hc : Core E w0 ok pl FS ⟨tm, hp⟩ a w) {dst : Option Tmp} {v : V} {val : Value} (hv : VR w0 ok hp pl v val) :
    Core E w0 ok pl FS ⟨Ev.putT tm dst v, hp⟩ (a.put dst val) w := by
  cases dst with
  | none => simpa [Ev.putT, Act.put] using hc
  | some d =>
    simp only [Ev.putT, Act.put] at *
    refine hc.tms' hc.defs (by simp only [List.length_set, Array.size_setIfInBounds]; exact hc.tms) (fun t => ?_)
    have hsz : a.tmps.size = tm.length := hc.tms
    by_cases e : d = t
    · subst e
      by_cases hlt : d < tm.length
      · rw [getD_set_self' hlt, agetD_set_self (show d < a.tmps.size by rw [hsz]; exact hlt)]
        exact hv
      · have : (tm.set d v).getD d .u = .u := by
          rw [List.getD_eq_getElem?_getD, List.getElem?_eq_none (by simpa using hlt)]; rfl
        rw [this]; simp [TR, VR]
    · rw [getD_set_ne' e, agetD_set_ne e]
      exact hc.tm t

/-! ### Flat values -/
theorem flat_VR {v : V} {hp2 : List Blk} {pl2 : List (Option Pl)} (hf : v.flat = true) : ∀ {x : Value}, VR w0 ok hp pl v x → VR w0 ok hp2 pl2 v x := by
  have key : (∀ (v : V), v.flat = true → (∀ cs, VC w0 ok hp pl v cs → VC w0 ok hp2 pl2 v cs) ∧ (∀ x, VR w0 ok hp pl v x → VR w0 ok hp2 pl2 v x)) := by
    intro v
    refine V.rec (motive_1 := fun v => v.flat = true → (∀ cs, VC w0 ok hp pl v cs → VC w0 ok hp2 pl2 v cs) ∧ (∀ x, VR w0 ok hp pl v x → VR w0 ok hp2 pl2 v x))
      (motive_2 := fun l => V.flats l = true → (∀ cs, VCs w0 ok hp pl l cs → VCs w0 ok hp2 pl2 l cs) ∧ (∀ xs, VRs w0 ok hp pl l xs → VRs w0 ok hp2 pl2 l xs))
      ?_ ?_ ?_ ?_ ?_ ?_ ?_ ?_ ?_ ?_ ?_ ?_ ?_ ?_ ?_ v
    all_goals try (intros; rename_i h; simp [V.flat] at h; done)
    · intro k n _; exact ⟨fun cs h => by simpa [VC] using h, fun x h => by simpa [VR, VC] using h⟩
    · intro k _; exact ⟨fun cs h => by simpa [VC] using h, fun x h => by simpa [VR, VC] using h⟩
    · intro k _; exact ⟨fun cs h => by simpa [VC] using h, fun x h => by simpa [VR, VC] using h⟩
    · intro l ih hf
      have := ih hf
      refine ⟨fun cs h => ?_, fun x h => ?_⟩
      · simp only [VC] at h ⊢; exact this.1 _ h
      · simp only [VR] at h ⊢; obtain ⟨cs, e, h⟩ := h; exact ⟨cs, e, this.1 _ h⟩
    · intro l ih hf
      have := ih hf
      refine ⟨fun cs h => ?_, fun x h => ?_⟩
      · simp only [VC] at h
      · simp only [VR] at h ⊢; obtain ⟨cs, e, h⟩ := h; exact ⟨cs, e, this.2 _ h⟩
    · intro _; exact ⟨fun cs h => by simpa [VCs] using h, fun xs h => by simpa [VRs] using h⟩
    · intro v l ih1 ih2 hf
      simp only [V.flats, Bool.and_eq_true] at hf
      have h1 := ih1 hf.1
      have h2 := ih2 hf.2
      refine ⟨fun cs h => ?_, fun x h => ?_⟩
      · simp only [VCs] at h ⊢; obtain ⟨c1, c2, e, x1, x2⟩ := h; exact ⟨c1, c2, e, h1.1 _ x1, h2.1 _ x2⟩
      · simp only [VRs] at h ⊢; obtain ⟨c1, c2, e, x1, x2⟩ := h; exact ⟨c1, c2, e, h1.2 _ x1, h2.2 _ x2⟩
  intro x h
  exact (key v hf).2 _ h

theorem flat_eq {v : V} (hf : v.flat = true) : ∀ {x y : Value}, VR w0 ok hp pl v x → VR w0 ok hp pl v y → x = y := by
  have key : (∀ (v : V), v.flat = true → (∀ c1 c2, VC w0 ok hp pl v c1 → VC w0 ok hp pl v c2 → c1 = c2) ∧ (∀ x y, VR w0 ok hp pl v x → VR w0 ok hp pl v y → x = y)) := by
    intro v
    refine V.rec (motive_1 := fun v => v.flat = true → (∀ c1 c2, VC w0 ok hp pl v c1 → VC w0 ok hp pl v c2 → c1 = c2) ∧ (∀ x y, VR w0 ok hp pl v x → VR w0 ok hp pl v y → x = y))
      (motive_2 := fun l => V.flats l = true → (∀ c1 c2, VCs w0 ok hp pl l c1 → VCs w0 ok hp pl l c2 → c1 = c2) ∧ (∀ x y, VRs w0 ok hp pl l x → VRs w0 ok hp pl l y → x = y))
      ?_ ?_ ?_ ?_ ?_ ?_ ?_ ?_ ?_ ?_ ?_ ?_ ?_ ?_ ?_ v
    all_goals try (intros; rename_i h; simp [V.flat] at h; done)
    · intro k n _; exact ⟨fun c1 c2 h h' => by simp only [VC] at h h'; rw [h, h'], fun x y h h' => by simp only [VR, VC, List.cons.injEq, and_true] at h h'; rw [h, h']⟩
    · intro k _; exact ⟨fun c1 c2 h h' => by simp only [VC] at h h'; rw [h, h'], fun x y h h' => by simp only [VR, VC, List.cons.injEq, and_true] at h h'; rw [h, h']⟩
    · intro k _; exact ⟨fun c1 c2 h h' => by simp only [VC] at h h'; rw [h, h'], fun x y h h' => by simp only [VR, VC, List.cons.injEq, and_true] at h h'; rw [h, h']⟩
    · intro l ih hf
      have := ih hf
      refine ⟨fun c1 c2 h h' => ?_, fun x y h h' => ?_⟩
      · simp only [VC] at h h'; exact this.1 _ _ h h'
      · simp only [VR] at h h'
        obtain ⟨c1, rfl, h⟩ := h
        obtain ⟨c2, rfl, h'⟩ := h'
        rw [Array.ext' (this.1 _ _ h h')]
    · intro l ih hf
      have := ih hf
      refine ⟨fun c1 c2 h h' => ?_, fun x y h h' => ?_⟩
      · simp only [VC] at h
      · simp only [VR] at h h'
        obtain ⟨c1, rfl, h⟩ := h
        obtain ⟨c2, rfl, h'⟩ := h'
        rw [Array.ext' (this.2 _ _ h h')]
    · intro _; exact ⟨fun c1 c2 h h' => by simp only [VCs] at h h'; rw [h, h'], fun x y h h' => by simp only [VRs] at h h'; rw [h, h']⟩
    · intro v l ih1 ih2 hf
      simp only [V.flats, Bool.and_eq_true] at hf
      have h1 := ih1 hf.1
      have h2 := ih2 hf.2
      refine ⟨fun c1 c2 h h' => ?_, fun x y h h' => ?_⟩
      · simp only [VCs] at h h'
        obtain ⟨a1, b1, rfl, x1, x2⟩ := h
        obtain ⟨a2, b2, rfl, y1, y2⟩ := h'
        rw [h1.1 _ _ x1 y1, h2.1 _ _ x2 y2]
      · simp only [VRs] at h h'
        obtain ⟨a1, b1, rfl, x1, x2⟩ := h
        obtain ⟨a2, b2, rfl, y1, y2⟩ := h'
        rw [h1.2 _ _ x1 y1, h2.2 _ _ x2 y2]
  intro x y h h'
  exact (key v hf).2 _ _ h h'
end

section
variable {P : Program} {E : Env} {w0 : World} {ok : Nat → Prop} {pl : List (Option Pl)} {FS : List (List Nat)} {s : St} {a : Act} {w : World}
variable {T : TypeId → Option Ty} {C : FuncId → Option Sig}

/-- An operation that leaves memory alone: one value, in every world that has come out of this one. -/
theorem evStill_sound (hT : ∀ t ty, T t = some ty → TyOk P t ty) (hC : ∀ f sg, C f = some sg → ConOk E P f sg) (hD : 16 ≤ P.depth) (hc : Core E w0 ok pl FS s a w) {ctx : Option (Nat × Bool)}
    (hx : ∀ t b, ctx = some (t, b) → a.tmps.getD t undef = .bool b) {o : Oper} {r : Bool × V} (h : evStill T C ctx s.tm s.hp o.type o.op = some r) (hr : r.1 = true) :
    ∃ val, VR w0 ok s.hp pl r.2 val ∧ ∀ w', Cl w w' → o.quietAt P a (Cl w) w' val := by
  unfold evStill at h
  cases hp : evPure T ctx s.tm s.hp o.type o.op with
  | some r' =>
    simp only [hp, Option.some.injEq] at h
    subst h
    obtain ⟨val, h1, h2⟩ := evPure_sound hT hD hc hx hp hr
    refine ⟨val, h1, fun w' hw => ?_⟩
    simp only [Oper.quietAt, h2 w' hw, Oper.quietUpon, and_self]
  | none =>
    simp only [hp] at h
    cases hcl : evCall C ctx s.tm s.hp o.op with
    | none => simp [hcl] at h
    | some r' =>
      simp only [hcl] at h
      split at h <;> simp only [reduceCtorEq, Option.some.injEq] at h
      rename_i hfl
      subst h
      simp only at hr ⊢
      obtain ⟨c, f, sg, ds, ho, hcal, hCf, hlen, hds, erc, hres⟩ := evCall_spec hcl
      have hcon := hC f sg hCf
      have hargs := args_sound hc hx hlen hds
      rw [erc] at hr
      have hcall : ∀ w', Cl w w' → Calls P f (c.args.map a.eval) w' fun e w'' => ∃ v, e = .returned v ∧ Cl w' w'' ∧ ResR w' w'' sg.rs (sg.res ds) v :=
        fun w' hw => hcon.calls w' ds (c.args.map a.eval) (hc.cl hw).inv (by simpa using ArgsR.cl hw hargs) hr
      have hval : ∀ w' w'' v, Cl w w' → Cl w' w'' → ResR w' w'' sg.rs (sg.res ds) v → VR w0 ok s.hp pl r'.v v := by
        intro w' w'' v hw hw' hres'
        obtain ⟨g1, g2⟩ := res_sound (hc.cl hw) hw' hres'
        rcases hres with ⟨t, ht, er⟩ | ⟨hne, e1, e2⟩
        · obtain ⟨F, pl', FS', k1, _, _, _, k5⟩ := g1 t ht
          have e1 : r'.v = (mkRes t ((sg.res ds).getD 0 (.n [])) s.hp).1 := by rw [← er]
          rw [← e1] at k5
          exact flat_VR hfl k5
        · obtain ⟨F, pl', FS', k1, _, _, _, k5⟩ := g2 hne
          rw [← e1] at k5
          exact flat_VR hfl k5
      obtain ⟨e, w1, fr, ⟨val, _, hk1, hr1⟩, _⟩ := hcall w (Cl.refl w) []
      have hv1 := hval w w1 val (Cl.refl w) hk1 hr1
      refine ⟨val, hv1, fun w' hw => ?_⟩
      simp only [Oper.quietAt, run_callOp ho hcal hcon.enter, Oper.quietUpon]
      refine ⟨trivial, (hcall w' hw).mono ?_⟩
      rintro e w'' ⟨v, rfl, hk, hres'⟩
      exact ⟨by rw [flat_eq hfl (hval w' w'' v hw hk hres') hv1], hw.trans hk⟩

theorem evOp_sound (hT : ∀ t ty, T t = some ty → TyOk P t ty) (hC : ∀ f sg, C f = some sg → ConOk E P f sg) (hD : 16 ≤ P.depth) (hc : Core E w0 ok pl FS s a w) {o : Oper}
    {r : R} (h : evOp T C s.tm s.hp o.type o.op = some r) (hr : r.c = true) : Goes P E w0 ok pl s a w o r.v r.h := by
  unfold evOp at h
  cases hp : evPure T none s.tm s.hp o.type o.op with
  | some r' =>
    simp only [hp, Option.some.injEq] at h
    subst h
    obtain ⟨val, h1, h2⟩ := evPure_sound hT hD hc (by simp) hp hr
    exact goes_value (h2 w (Cl.refl w)) (fun _ _ => rfl) hc h1
  | none =>
    simp only [hp] at h
    cases hcl : evCall C none s.tm s.hp o.op with
    | some r' =>
      simp only [hcl, Option.some.injEq] at h
      subst h
      exact evCall_sound hC hc hcl hr
    | none =>
      simp only [hcl] at h
      exact evEff_sound hT hc h hr

/-- Is a guarded operation carried out? -/
theorem wanted_of {ops : Array Oper} {o : Oper} {j t : Nat} {b g : Bool} (hg : o.guard = some (j, g)) (ht : (ops[j]?).bind (·.dst) = some t) (hb : a.tmps.getD t undef = .bool b) :
    Region.wanted o (yielded ops a.tmps) = (b == g) := by
  have h1 : a.tmps[t]? = some (.bool b) := by
    rw [Array.getD_eq_getD_getElem?] at hb
    cases h : a.tmps[t]? with
    | none => rw [h] at hb; simp [undef] at hb
    | some x => rw [h] at hb; simp only [Option.getD_some] at hb; rw [hb]
  simp only [Region.wanted, hg, yielded, ht, Option.bind_some, h1]
  cases b <;> cases g <;> rfl

theorem slot_bool (hc : Core E w0 ok pl FS s a w) {t : Nat} {b : Bool} (h : s.tm.getD t .u = .bool b) : a.tmps.getD t undef = .bool b ∧ s.tm.set t (.bool b) = s.tm := by
  have hh := hc.tm t
  rw [h] at hh
  refine ⟨hh.bool, ?_⟩
  have hlt : t < s.tm.length := by
    rcases Nat.lt_or_ge t s.tm.length with h' | h'
    · exact h'
    · rw [List.getD_eq_getElem?_getD, List.getElem?_eq_none h'] at h; cases h
  rw [List.getD_eq_getElem?_getD, List.getElem?_eq_getElem hlt, Option.getD_some] at h
  rw [← h]; exact List.set_getElem_self hlt

theorem act_sound {α : Type} (hT : ∀ t ty, T t = some ty → TyOk P t ty) (hC : ∀ f sg, C f = some sg → ConOk E P f sg) (hD : 16 ≤ P.depth) (hc : Core E w0 ok pl FS s a w) {o : Oper} {k : St → Option α} {r : α}
    (h : evAct T C false o s k = some r) {K : Act → World → Prop} {Q : Exit → Act → World → Prop} (hK : ∀ pl' FS' s' a' w', Core E w0 ok pl' FS' s' a' w' → k s' = some r → K a' w') : o.wp P a w K Q := by
  simp only [evAct] at h
  cases hop : evOp T C s.tm s.hp o.type o.op with
  | none => simp [hop] at h
  | some r' =>
    simp only [hop] at h
    cases hrc : r'.c with
    | false => simp [hrc] at h
    | true =>
      simp only [hrc, cond_true] at h
      exact evOp_sound hT hC hD hc hop hrc _ _ fun pl' FS' val w' _ hc' hv => hK _ _ _ _ _ (Core.put hc' hv) h

theorem act_quiet {α : Type} (hT : ∀ t ty, T t = some ty → TyOk P t ty) (hC : ∀ f sg, C f = some sg → ConOk E P f sg) (hD : 16 ≤ P.depth) (hc : Core E w0 ok pl FS s a w) {o : Oper} {k : St → Option α} {r : α}
    (h : evAct T C true o s k = some r) {K : Act → Prop} (hK : ∀ s' a', Core E w0 ok pl FS s' a' w → k s' = some r → K a') : o.quiet P a (Cl w) K := by
  simp only [evAct] at h
  cases hop : evStill T C none s.tm s.hp o.type o.op with
  | none => simp [hop] at h
  | some r' =>
    simp only [hop] at h
    cases hrc : r'.1 with
    | false => simp [hrc] at h
    | true =>
      simp only [hrc, cond_true] at h
      obtain ⟨val, hv, hq⟩ := evStill_sound hT hC hD hc (by simp) hop hrc
      exact ⟨val, hq, hK _ _ (Core.put hc hv) h⟩

/-- A guard that was not carried out is not met. -/
theorem wanted_no (hc : Core E w0 ok pl FS s a w) {ops : Array Oper} {o : Oper} {j : Nat} {g : Bool} (hg : o.guard = some (j, g)) {t : Nat} (ht : (ops[j]?).bind (·.dst) = some t) {l : List V} (hl : s.tm.getD t .u = .tup l) :
    Region.wanted o (yielded ops a.tmps) = false := by
  have h := hc.tm t
  rw [hl] at h
  simp only [TR, VR] at h
  obtain ⟨vs, hv, _⟩ := h
  simp only [Region.wanted, hg, yielded, ht, Option.bind_some]
  have : a.tmps[t]? = some (.tuple vs) ∨ a.tmps[t]? = none := by
    rw [Array.getD_eq_getD_getElem?] at hv
    cases h : a.tmps[t]? with
    | none => exact .inr rfl
    | some x => rw [h] at hv; simp only [Option.getD_some] at hv; exact .inl (by rw [hv])
  rcases this with h | h <;> rw [h] <;> rfl

/-- What a guard comes to. -/
theorem guard_parts {α : Type} (hc : Core E w0 ok pl FS s a w) {ops : Array Oper} {o : Oper} {j : Nat} {g : Bool} (hg : o.guard = some (j, g)) {A : St → Option α} {B : List V → Option α} {r : α}
    (h : (match (ops[j]?).bind (·.dst) with
      | some t => (match s.tm.getD t .u with
        | .bool b => bif b then bif g then A ⟨s.tm.set t (.bool true), s.hp⟩ else B (s.tm.set t (.bool true)) else bif g then B (s.tm.set t (.bool false)) else A ⟨s.tm.set t (.bool false), s.hp⟩
        | .tup _ => B s.tm
        | _ => none)
      | none => none) = some r) :
    (Region.wanted o (yielded ops a.tmps) = true ∧ A s = some r) ∨ (Region.wanted o (yielded ops a.tmps) = false ∧ B s.tm = some r) := by
  cases ht : (ops[j]?).bind (·.dst) with
  | none => simp [ht] at h
  | some t =>
    simp only [ht] at h
    split at h <;> try (simp only [reduceCtorEq] at h; done)
    · rename_i b hb
      obtain ⟨hbt, hset⟩ := slot_bool hc hb
      rw [wanted_of hg ht hbt]
      cases b <;> cases g <;> simp only [cond_true, cond_false, hset] at h
      · exact .inl ⟨rfl, h⟩
      · exact .inr ⟨rfl, h⟩
      · exact .inr ⟨rfl, h⟩
      · exact .inl ⟨rfl, h⟩
    · rename_i l hl
      exact .inr ⟨wanted_no hc hg ht hl, h⟩

theorem evOps_sound {α : Type} (hT : ∀ t ty, T t = some ty → TyOk P t ty) (hC : ∀ f sg, C f = some sg → ConOk E P f sg) (hD : 16 ≤ P.depth) {ops : Array Oper} {k : St → Option α} {r : α} {Q : Exit → Act → World → Prop}
    (hQ : ∀ pl' FS' s' a' w', Core E w0 ok pl' FS' s' a' w' → k s' = some r → Q .normal a' w') :
    ∀ (l : List Oper) {pl : List (Option Pl)} {FS : List (List Nat)} {s : St} {a : Act} {w : World}, Core E w0 ok pl FS s a w → evOps T C false ops l s k = some r → wpList P ops Q l a w
  | [], pl, FS, s, a, w, hc, h => by
    simp only [evOps] at h
    exact hQ _ _ _ _ _ (hc) h
  | o :: rest, pl, FS, s, a, w, hc, h => by
    simp only [evOps] at h
    simp only [wpList]
    have ih : ∀ pl' FS' s' a' w', Core E w0 ok pl' FS' s' a' w' → evOps T C false ops rest s' k = some r → wpList P ops Q rest a' w' := fun pl' FS' s' a' w' hc' h' => evOps_sound hT hC hD hQ rest hc' h'
    cases hg : o.guard with
    | none =>
      simp only [hg] at h
      have hw : Region.wanted o (yielded ops a.tmps) = true := by simp [Region.wanted, hg]
      rw [if_pos hw]
      exact .inl (act_sound hT hC hD hc h ih)
    | some jw =>
      obtain ⟨j, g⟩ := jw
      simp only [hg] at h
      rcases guard_parts (A := fun s => evAct T C false o s fun s' => evOps T C false ops rest s' k) (B := fun tm => evOps T C false ops rest ⟨putT tm o.dst (.tup []), s.hp⟩ k) hc hg h with ⟨hw, h⟩ | ⟨hw, h⟩
      · rw [if_pos hw]
        exact .inl (act_sound hT hC hD hc h ih)
      · simp only [hw, Bool.false_eq_true, if_false]
        exact ih _ _ _ _ _ (Core.put hc (v := .tup []) (by simp [VR, VRs, undef])) h

theorem evOps_quiet {α : Type} (hT : ∀ t ty, T t = some ty → TyOk P t ty) (hC : ∀ f sg, C f = some sg → ConOk E P f sg) (hD : 16 ≤ P.depth) {ops : Array Oper} {k : St → Option α} {r : α} {Q : Exit → Act → World → Prop} {w : World}
    (hQ : ∀ pl' FS' s' a' w', Core E w0 ok pl' FS' s' a' w' → k s' = some r → Q .normal a' w') :
    ∀ (l : List Oper) {pl : List (Option Pl)} {FS : List (List Nat)} {s : St} {a : Act}, Core E w0 ok pl FS s a w → evOps T C true ops l s k = some r → wpQuiet P ops (Cl w) (fun a' => ∀ w', Cl w w' → Q .normal a' w') l a
  | [], pl, FS, s, a, hc, h => by
    simp only [evOps] at h
    exact wpQuiet_nil fun w' hw => hQ _ _ _ _ _ (hc.cl hw) h
  | o :: rest, pl, FS, s, a, hc, h => by
    simp only [evOps] at h
    simp only [wpQuiet]
    have ih : ∀ s' a', Core E w0 ok pl FS s' a' w → evOps T C true ops rest s' k = some r → wpQuiet P ops (Cl w) (fun a' => ∀ w', Cl w w' → Q .normal a' w') rest a' := fun s' a' hc' h' => evOps_quiet hT hC hD hQ rest hc' h'
    cases hg : o.guard with
    | none =>
      simp only [hg] at h
      have hw : Region.wanted o (yielded ops a.tmps) = true := by simp [Region.wanted, hg]
      rw [if_pos hw]
      exact act_quiet hT hC hD hc h ih
    | some jw =>
      obtain ⟨j, g⟩ := jw
      simp only [hg] at h
      rcases guard_parts (A := fun s => evAct T C true o s fun s' => evOps T C true ops rest s' k) (B := fun tm => evOps T C true ops rest ⟨putT tm o.dst (.tup []), s.hp⟩ k) hc hg h with ⟨hw, h⟩ | ⟨hw, h⟩
      · rw [if_pos hw]
        exact act_quiet hT hC hD hc h ih
      · simp only [hw, Bool.false_eq_true, if_false]
        exact ih _ _ (Core.put hc (v := .tup []) (by simp [VR, VRs, undef])) h
end
end Go.Ev
