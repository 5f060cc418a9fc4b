/-
  Go's '==' on structs without rows, and the operations on numbers, bools and strings.
-/
import Derived.Test.YthdgcninegkalacDoorEvG
import Derived.Laws.StructEq
namespace Go.Ev

/-- A value of a type, out of its cells. -/
def cv (t : Ty) (cs : List Value) : Value := if t.isSt then .agg cs.toArray else cs.getD 0 undef

section
variable {P : Program}

theorem run_part {t : TypeId} {ty : Ty} (h : TyOk P t ty) {pre c post : List Value} (hl : c.length = ty.sz) (w : World) :
    (part t (pre ++ (c ++ post)).toArray pre.length).run P w = .ok (cv ty c) w := by
  unfold cv
  by_cases hs : ty.isSt = true
  · simp only [part, Sem.run_bind, run_isAgg' h, Result.andThen_ok, hs, if_true, run_sizeOf' h.row, Sem.run_pure]
    congr 2
    apply Array.ext'
    simp [List.extract_eq_take_drop, hl.symm]
  · have hs' : ty.isSt = false := by simpa using hs
    have h1 : ty.sz = 1 := by cases ty <;> simp_all [Ty.isSt, Ty.sz]
    match c, hl with
    | [v], _ => simp [part, run_isAgg' h, hs']
    | [], hl => simp [h1] at hl
    | _ :: _ :: _, hl => simp [h1] at hl

mutual
theorem eqGuardType_false : ∀ {ty : Ty} {t : TypeId} (d : Nat), TyOk P t ty → ty.dep < d → P.eqGuardType d t = false
  | ty, t, 0, _, h => by omega
  | .int _, t, d + 1, h, _ => by simp only [TyOk] at h; simp [Program.eqGuardType, h.2]
  | .bool, t, d + 1, h, _ => by simp only [TyOk] at h; simp [Program.eqGuardType, h.2]
  | .str, t, d + 1, h, _ => by simp only [TyOk] at h; simp [Program.eqGuardType, h.2]
  | .sl _, t, d + 1, h, _ => by simp only [TyOk] at h; obtain ⟨_, te, hu, _⟩ := h; simp [Program.eqGuardType, hu]
  | .st fs, t, d + 1, h, hd => by
    simp only [TyOk] at h
    obtain ⟨_, _, l, hu, hfs⟩ := h
    simp only [Program.eqGuardType, hu]
    rw [← Array.any_toList]
    exact eqGuardTypes_false d hfs (by simp only [Ty.dep] at hd; omega)
theorem eqGuardTypes_false : ∀ {fs : List Ty} {l : List Field} {o : Nat} (d : Nat), TysOk P l o fs → Ty.deps fs < d → (l.any fun f => f.name != "_" && P.eqGuardType d f.type) = false
  | [], [], _, _, _, _ => rfl
  | [], _ :: _, _, _, h, _ => by simp [TysOk] at h
  | _ :: _, [], _, _, h, _ => by simp [TysOk] at h
  | t :: ts, f :: l, o, d, h, hd => by
    simp only [TysOk] at h
    simp only [Ty.deps] at hd
    simp only [List.any_cons, eqGuardType_false d h.2.2.2.1 (by omega), Bool.and_false, Bool.false_or]
    exact eqGuardTypes_false d h.2.2.2.2 (by omega)
end

section
variable {E : Env} {w0 : World} {ok : Nat → Prop} {hp : List Blk} {pl : List (Option Pl)}
mutual
theorem eqV_run : ∀ {ty : Ty} {t : TypeId} {v x : V} {c1 c2 : List Value} {b : Bool} (d : Nat) (w : World), TyOk P t ty → ty.dep < d → eqV ty v x = some b →
    VC w0 ok hp pl v c1 → VC w0 ok hp pl x c2 → (Op.equalIn d t (cv ty c1) (cv ty c2)).run P w = .ok b w
  | ty, t, v, x, c1, c2, b, 0, w, _, h, _, _, _ => by omega
  | .int k, t, v, x, c1, c2, b, d + 1, w, h, _, he, h1, h2 => by
    simp only [TyOk] at h
    cases v <;> cases x <;> simp only [eqV, reduceCtorEq] at he
    split at he <;> simp only [reduceCtorEq, Option.some.injEq] at he
    rename_i hk
    obtain ⟨rfl, rfl⟩ := hk
    simp only [VC] at h1 h2
    subst h1; subst h2; subst he
    simp [cv, Ty.isSt, run_equalIn_int _ _ _ _ _ _ _ h.2]
  | .bool, t, v, x, c1, c2, b, d + 1, w, h, _, he, h1, h2 => by
    simp only [TyOk] at h
    cases v <;> cases x <;> simp only [eqV, reduceCtorEq, Option.some.injEq] at he
    simp only [VC] at h1 h2
    subst h1; subst h2; subst he
    simp [cv, Ty.isSt, run_equalIn_bool' _ _ _ _ _ h.2]
  | .str, t, v, x, c1, c2, b, d + 1, w, h, _, he, h1, h2 => by
    simp only [TyOk] at h
    cases v <;> cases x <;> simp only [eqV, reduceCtorEq, Option.some.injEq] at he
    simp only [VC] at h1 h2
    subst h1; subst h2; subst he
    simp [cv, Ty.isSt, run_equalIn_string _ _ _ _ _ h.2, beq_toListBytes]
  | .sl _, t, v, x, c1, c2, b, d + 1, w, h, _, he, h1, h2 => by
    cases v <;> cases x <;> simp only [eqV, reduceCtorEq] at he
  | .st fs, t, v, x, c1, c2, b, d + 1, w, h, hd, he, h1, h2 => by
    cases v <;> cases x <;> simp only [eqV, reduceCtorEq] at he
    simp only [TyOk] at h
    obtain ⟨_, hsi, l, hu, hfs⟩ := h
    simp only [VC] at h1 h2
    simp only [cv, Ty.isSt, if_true]
    have hf : P.fieldsOf t = l := by simp [Program.fieldsOf, hu]
    rw [run_equalIn_struct w d t _ _ (by rw [hf]; exact hu) hsi, hf]
    have := eqVs_run (pre1 := []) (pre2 := []) d w hfs rfl rfl (by simp only [Ty.dep] at hd; omega) he h1 h2
    simpa using this
theorem eqVs_run : ∀ {fs : List Ty} {l : List Field} {o : Nat} {vs xs : List V} {c1 c2 : List Value} {pre1 pre2 : List Value} {b : Bool} (d : Nat) (w : World),
    TysOk P l o fs → pre1.length = o → pre2.length = o → Ty.deps fs < d → eqVs fs vs xs = some b →
    VCs w0 ok hp pl vs c1 → VCs w0 ok hp pl xs c2 → (Op.eqFields d (pre1 ++ c1).toArray (pre2 ++ c2).toArray l).run P w = .ok b w
  | [], [], o, vs, xs, c1, c2, pre1, pre2, b, d, w, _, _, _, _, he, _, _ => by
    cases vs <;> cases xs <;> simp only [eqVs, reduceCtorEq, Option.some.injEq] at he
    subst he
    simp [Op.eqFields]
  | [], _ :: _, _, _, _, _, _, _, _, _, _, _, h, _, _, _, _, _, _ => by simp [TysOk] at h
  | _ :: _, [], _, _, _, _, _, _, _, _, _, _, h, _, _, _, _, _, _ => by simp [TysOk] at h
  | t :: ts, f :: l, o, vs, xs, c1, c2, pre1, pre2, b, d, w, h, hp1, hp2, hd, he, h1, h2 => by
    simp only [TysOk] at h
    obtain ⟨hoff, _, hn, hty, hrest⟩ := h
    cases vs with
    | nil => cases xs <;> simp only [eqVs, reduceCtorEq] at he
    | cons v vs =>
      cases xs with
      | nil => simp only [eqVs, reduceCtorEq] at he
      | cons x xs =>
        simp only [eqVs] at he
        cases e1 : eqV t v x with
        | none => simp [e1] at he
        | some b1 =>
          simp only [e1] at he
          cases e2 : eqVs ts vs xs with
          | none => simp [e2] at he
          | some b2 =>
            simp only [e2, Option.some.injEq] at he
            subst he
            simp only [VCs] at h1 h2
            obtain ⟨d1, d2, rfl, hv1, hv2⟩ := h1
            obtain ⟨g1, g2, rfl, hx1, hx2⟩ := h2
            simp only [Ty.deps] at hd
            have hlen := eqV_len e1 hv1 hx1
            have hn' : f.name ≠ "_" := by simpa using hn
            rw [Op.eqFields, if_pos hn']
            have ha := run_part hty (pre := pre1) (c := d1) (post := d2) hlen.1 w
            have hb := run_part hty (pre := pre2) (c := g1) (post := g2) hlen.2 w
            rw [hp1] at ha
            rw [hp2] at hb
            have hq := eqV_run d w hty (by omega) e1 hv1 hx1
            simp only [Sem.run_bind, hoff, ha, hb, hq, Result.andThen_ok]
            cases b1
            · simp
            · have := eqVs_run (pre1 := pre1 ++ d1) (pre2 := pre2 ++ g1) d w hrest (by simp [hp1, hlen.1]) (by simp [hp2, hlen.2]) (by omega) e2 hv2 hx2
              simpa using this
theorem eqV_len : ∀ {ty : Ty} {v x : V} {b : Bool} {c1 c2 : List Value}, eqV ty v x = some b → VC w0 ok hp pl v c1 → VC w0 ok hp pl x c2 → c1.length = ty.sz ∧ c2.length = ty.sz
  | .int k, v, x, b, c1, c2, he, h1, h2 => by
    cases v <;> cases x <;> simp only [eqV, reduceCtorEq] at he
    simp only [VC] at h1 h2; subst h1; subst h2; simp [Ty.sz]
  | .bool, v, x, b, c1, c2, he, h1, h2 => by
    cases v <;> cases x <;> simp only [eqV, reduceCtorEq] at he
    simp only [VC] at h1 h2; subst h1; subst h2; simp [Ty.sz]
  | .str, v, x, b, c1, c2, he, h1, h2 => by
    cases v <;> cases x <;> simp only [eqV, reduceCtorEq] at he
    simp only [VC] at h1 h2; subst h1; subst h2; simp [Ty.sz]
  | .sl _, v, x, b, c1, c2, he, h1, h2 => by
    cases v <;> cases x <;> simp only [eqV, reduceCtorEq] at he
  | .st fs, v, x, b, c1, c2, he, h1, h2 => by
    cases v <;> cases x <;> simp only [eqV, reduceCtorEq] at he
    simp only [VC] at h1 h2
    simp only [Ty.sz]
    exact eqVs_len he h1 h2
theorem eqVs_len : ∀ {fs : List Ty} {vs xs : List V} {b : Bool} {c1 c2 : List Value}, eqVs fs vs xs = some b → VCs w0 ok hp pl vs c1 → VCs w0 ok hp pl xs c2 → c1.length = Ty.szs fs ∧ c2.length = Ty.szs fs
  | [], vs, xs, b, c1, c2, he, h1, h2 => by
    cases vs <;> cases xs <;> simp only [eqVs, reduceCtorEq] at he
    simp only [VCs] at h1 h2; subst h1; subst h2; simp [Ty.szs]
  | t :: ts, vs, xs, b, c1, c2, he, h1, h2 => by
    cases vs with
    | nil => cases xs <;> simp only [eqVs, reduceCtorEq] at he
    | cons v vs =>
      cases xs with
      | nil => simp only [eqVs, reduceCtorEq] at he
      | cons x xs =>
        simp only [eqVs] at he
        cases e1 : eqV t v x with
        | none => simp [e1] at he
        | some b1 =>
          simp only [e1] at he
          cases e2 : eqVs ts vs xs with
          | none => simp [e2] at he
          | some b2 =>
            simp only [VCs] at h1 h2
            obtain ⟨d1, d2, rfl, hv1, hv2⟩ := h1
            obtain ⟨g1, g2, rfl, hx1, hx2⟩ := h2
            have a1 := eqV_len e1 hv1 hx1
            have a2 := eqVs_len e2 hv2 hx2
            simp only [List.length_append, Ty.szs]
            omega
end
end
end
end Go.Ev
