/-
  The types of a loaded program, checked.
-/
import Derived.Test.YthdgcninegkalacDoorEvP
namespace Go.Ev

mutual
/-- Are these the cells of a zero value? What is left over. -/
def zcB : Ty → List Value → Option (List Value)
  | .int k, l => match l with | .int k' n :: r => if k = k' ∧ n = 0 then some r else none | _ => none
  | .bool, l => match l with | .bool b :: r => if b = false then some r else none | _ => none
  | .str, l => match l with | .string s :: r => if s.data.size = 0 then some r else none | _ => none
  | .sl _, l => match l with | .slice none 0 0 :: r => some r | _ => none
  | .st fs, l => zcsB fs l
def zcsB : List Ty → List Value → Option (List Value)
  | [], l => some l
  | t :: ts, l => match zcB t l with | some r => zcsB ts r | none => none
end

mutual
theorem zcB_sound : ∀ {t : Ty} {l r : List Value}, zcB t l = some r → l = zc t ++ r
  | .int k, l, r, h => by
    simp only [zcB] at h
    split at h <;> try (simp only [reduceCtorEq] at h; done)
    split at h <;> simp only [reduceCtorEq, Option.some.injEq] at h
    rename_i hc; subst h; obtain ⟨rfl, rfl⟩ := hc; rfl
  | .bool, l, r, h => by
    simp only [zcB] at h
    split at h <;> try (simp only [reduceCtorEq] at h; done)
    split at h <;> simp only [reduceCtorEq, Option.some.injEq] at h
    rename_i hc; subst h; subst hc; rfl
  | .str, l, r, h => by
    simp only [zcB] at h
    split at h <;> try (simp only [reduceCtorEq] at h; done)
    split at h <;> simp only [reduceCtorEq, Option.some.injEq] at h
    rename_i s _ hc
    subst h
    have : s = .empty := by
      cases s with
      | mk d => rw [show d = #[] from Array.eq_empty_of_size_eq_zero hc]; rfl
    rw [this]; rfl
  | .sl _, l, r, h => by
    simp only [zcB] at h
    split at h <;> try (simp only [reduceCtorEq] at h; done)
    simp only [Option.some.injEq] at h
    subst h; rfl
  | .st fs, l, r, h => by simp only [zcB] at h; simp only [zc]; exact zcsB_sound h
theorem zcsB_sound : ∀ {ts : List Ty} {l r : List Value}, zcsB ts l = some r → l = zcs ts ++ r
  | [], l, r, h => by simp only [zcsB, Option.some.injEq] at h; simp [zcs, h]
  | t :: ts, l, r, h => by
    simp only [zcsB] at h
    cases h1 : zcB t l with
    | none => simp [h1] at h
    | some r1 =>
      simp only [h1] at h
      simp only [zcs, List.append_assoc]
      rw [← zcsB_sound h]
      exact zcB_sound h1
end

def zvB (t : Ty) (v : Value) : Bool :=
  match t with
  | .st fs => match v with | .agg c => (match zcsB fs c.toList with | some [] => true | _ => false) | _ => false
  | t => match zcB t [v] with | some [] => true | _ => false
theorem zvB_sound {t : Ty} {v : Value} (h : zvB t v = true) : v = zv t := by
  cases t
  case st fs =>
    simp only [zvB] at h
    split at h <;> try (simp only [Bool.false_eq_true] at h; done)
    split at h <;> try (simp only [Bool.false_eq_true] at h; done)
    rename_i c hz
    have := zcsB_sound hz
    simp only [List.append_nil] at this
    simp only [zv]
    rw [← this]
  all_goals
    simp only [zvB] at h
    split at h <;> try (simp only [Bool.false_eq_true] at h; done)
    rename_i hz
    have := zcB_sound hz
    simp only [zc, List.append_nil, List.cons.injEq, and_true] at this
    rw [this]; rfl

def tyRowB (P : Program) (t : TypeId) (ty : Ty) : Bool :=
  match P.info? t with
  | some i => (match i.zero with | some z => zvB ty z | none => false) && (Nat.beq i.size ty.sz && Nat.ble i.bytes 16384)
  | none => false
theorem tyRowB_sound {P : Program} {t : TypeId} {ty : Ty} (h : tyRowB P t ty = true) : TyRow P t ty := by
  unfold tyRowB at h
  split at h <;> try (simp only [Bool.false_eq_true] at h; done)
  rename_i i hi
  simp only [Bool.and_eq_true] at h
  obtain ⟨h1, h2, h3⟩ := h
  split at h1 <;> try (simp only [Bool.false_eq_true] at h1; done)
  rename_i z hz
  exact ⟨i, hi, by rw [hz, zvB_sound h1], Nat.eq_of_beq_eq_true h2, Nat.le_of_ble_eq_true h3⟩

mutual
def tyOkB (P : Program) : TypeId → Ty → Bool
  | t, .int k => tyRowB P t (.int k) && (match P.underlying t with | some (.int k') => decide (k' = k) | _ => false)
  | t, .bool => tyRowB P t .bool && (match P.underlying t with | some .bool => true | _ => false)
  | t, .str => tyRowB P t .str && (match P.underlying t with | some .string => true | _ => false)
  | t, .sl e => tyRowB P t (.sl e) && (match P.underlying t with | some (.slice te) => Nat.ble 1 e.sz && tyOkB P te e | _ => false)
  | t, .st fs => tyRowB P t (.st fs) && ((match P.stoodInHeld t with | false => true | true => false) && (match P.underlying t with | some (.struct l) => tysOkB P l.toList 0 fs | _ => false))
def tysOkB (P : Program) : List Field → Nat → List Ty → Bool
  | [], _, [] => true
  | f :: l, o, t :: ts => Nat.beq f.offset o && (Nat.ble 1 t.sz && ((match f.name == "_" with | false => true | true => false) && (tyOkB P f.type t && tysOkB P l (o + t.sz) ts)))
  | _, _, _ => false
end

mutual
theorem tyOkB_sound {P : Program} : ∀ {t : TypeId} {ty : Ty}, tyOkB P t ty = true → TyOk P t ty
  | t, .int k, h => by
    simp only [tyOkB, Bool.and_eq_true] at h
    refine ⟨tyRowB_sound h.1, ?_⟩
    have h2 := h.2
    split at h2 <;> try (simp only [Bool.false_eq_true] at h2; done)
    rename_i k' hu
    rw [hu, of_decide_eq_true h2]
  | t, .bool, h => by
    simp only [tyOkB, Bool.and_eq_true] at h
    refine ⟨tyRowB_sound h.1, ?_⟩
    have h2 := h.2
    split at h2 <;> try (simp only [Bool.false_eq_true] at h2; done)
    rename_i hu
    exact hu
  | t, .str, h => by
    simp only [tyOkB, Bool.and_eq_true] at h
    refine ⟨tyRowB_sound h.1, ?_⟩
    have h2 := h.2
    split at h2 <;> try (simp only [Bool.false_eq_true] at h2; done)
    rename_i hu
    exact hu
  | t, .sl e, h => by
    simp only [tyOkB, Bool.and_eq_true] at h
    simp only [TyOk]
    refine ⟨tyRowB_sound h.1, ?_⟩
    have h2 := h.2
    split at h2 <;> try (simp only [Bool.false_eq_true] at h2; done)
    rename_i te hu
    simp only [Bool.and_eq_true] at h2
    exact ⟨te, hu, Nat.le_of_ble_eq_true h2.1, tyOkB_sound h2.2⟩
  | t, .st fs, h => by
    simp only [tyOkB, Bool.and_eq_true] at h
    simp only [TyOk]
    obtain ⟨h1, h2, h3⟩ := h
    refine ⟨tyRowB_sound h1, ?_, ?_⟩
    · split at h2 <;> first | assumption | simp only [Bool.false_eq_true] at h2
    · split at h3 <;> try (simp only [Bool.false_eq_true] at h3; done)
      rename_i l hu
      exact ⟨l, hu, tysOkB_sound h3⟩
theorem tysOkB_sound {P : Program} : ∀ {l : List Field} {o : Nat} {ts : List Ty}, tysOkB P l o ts = true → TysOk P l o ts
  | [], _, [], _ => by simp [TysOk]
  | [], _, _ :: _, h | _ :: _, _, [], h => by simp [tysOkB] at h
  | f :: l, o, t :: ts, h => by
    simp only [tysOkB, Bool.and_eq_true] at h
    obtain ⟨h1, h2, h3, h4, h5⟩ := h
    simp only [TysOk]
    refine ⟨Nat.eq_of_beq_eq_true h1, Nat.le_of_ble_eq_true h2, ?_, tyOkB_sound h4, tysOkB_sound h5⟩
    split at h3 <;> first | assumption | simp only [Bool.false_eq_true] at h3
end

/-- The types of a program, by number. -/
abbrev TyTab := List (Option Ty)
def TyTab.get (tab : TyTab) (t : TypeId) : Option Ty := List.getD tab t none
def tabOkB (P : Program) : Nat → TyTab → Bool
  | _, [] => true
  | t, none :: r => tabOkB P (t + 1) r
  | t, some ty :: r => tyOkB P t ty && tabOkB P (t + 1) r
theorem tabOkB_sound {P : Program} : ∀ {tab : TyTab} {o : Nat}, tabOkB P o tab = true → ∀ t ty, TyTab.get tab t = some ty → TyOk P (o + t) ty
  | [], o, _, t, ty, h => by simp [TyTab.get] at h
  | none :: r, o, h, 0, ty, ht => by simp [TyTab.get] at ht
  | some ty0 :: r, o, h, 0, ty, ht => by
    simp only [TyTab.get, List.getD_cons_zero, Option.some.injEq] at ht
    subst ht
    simp only [tabOkB, Bool.and_eq_true] at h
    exact tyOkB_sound h.1
  | none :: r, o, h, t + 1, ty, ht => by
    simp only [tabOkB] at h
    simp only [TyTab.get, List.getD_cons_succ] at ht
    have := tabOkB_sound h t ty ht
    rw [show o + (t + 1) = o + 1 + t by omega]; exact this
  | some ty0 :: r, o, h, t + 1, ty, ht => by
    simp only [tabOkB, Bool.and_eq_true] at h
    simp only [TyTab.get, List.getD_cons_succ] at ht
    have := tabOkB_sound h.2 t ty ht
    rw [show o + (t + 1) = o + 1 + t by omega]; exact this
theorem tab_ok {P : Program} {tab : TyTab} (h : tabOkB P 0 tab = true) : ∀ t ty, TyTab.get tab t = some ty → TyOk P t ty := fun t ty ht => by
  have := tabOkB_sound h t ty ht
  simpa using this
end Go.Ev
