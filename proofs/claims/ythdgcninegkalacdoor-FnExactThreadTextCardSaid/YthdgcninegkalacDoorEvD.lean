/-
  Type facts of the loaded program, and what single operations of the machine do.
-/
import Derived.Test.YthdgcninegkalacDoorEvC
import Derived.Laws.Entries
import Derived.Laws.Cells
namespace Go.Ev

mutual
/-- The zero value's cells. -/
def zc : Ty → List Value
  | .int k => [.int k 0] | .bool => [.bool false] | .str => [.string .empty] | .sl _ => [.slice none 0 0] | .st fs => zcs fs
def zcs : List Ty → List Value
  | [] => []
  | t :: ts => zc t ++ zcs ts
end
def zv : Ty → Value
  | .st fs => .agg (zcs fs).toArray
  | .int k => .int k 0 | .bool => .bool false | .str => .string .empty | .sl _ => .slice none 0 0

/-- What is asked of one type's own row. -/
def TyRow (P : Program) (t : TypeId) (ty : Ty) : Prop :=
  ∃ i, P.info? t = some i ∧ i.zero = some (zv ty) ∧ i.size = ty.sz ∧ i.bytes ≤ 16384

mutual
def TyOk (P : Program) : TypeId → Ty → Prop
  | t, .int k => TyRow P t (.int k) ∧ P.underlying t = some (.int k)
  | t, .bool => TyRow P t .bool ∧ P.underlying t = some .bool
  | t, .str => TyRow P t .str ∧ P.underlying t = some .string
  | t, .sl e => TyRow P t (.sl e) ∧ ∃ te, P.underlying t = some (.slice te) ∧ 1 ≤ e.sz ∧ TyOk P te e
  | t, .st fs => TyRow P t (.st fs) ∧ P.stoodInHeld t = false ∧ ∃ l, P.underlying t = some (.struct l) ∧ TysOk P l.toList 0 fs
def TysOk (P : Program) : List Field → Nat → List Ty → Prop
  | [], _, [] => True
  | f :: l, o, t :: ts => f.offset = o ∧ 1 ≤ t.sz ∧ (f.name == "_") = false ∧ TyOk P f.type t ∧ TysOk P l (o + t.sz) ts
  | _, _, _ => False
end

section
variable {P : Program}
theorem TyOk.row : ∀ {t : TypeId} {ty : Ty}, TyOk P t ty → TyRow P t ty
  | _, .int _, h => by simp only [TyOk] at h; exact h.1
  | _, .bool, h => by simp only [TyOk] at h; exact h.1
  | _, .str, h => by simp only [TyOk] at h; exact h.1
  | _, .sl _, h => by simp only [TyOk] at h; exact h.1
  | _, .st _, h => by simp only [TyOk] at h; exact h.1

theorem TysOk.get : ∀ {l : List Field} {o : Nat} {fs : List Ty}, TysOk P l o fs → ∀ (j : Nat) (tf : Ty), fs[j]? = some tf →
    ∃ f, l[j]? = some f ∧ f.offset = o + Ty.szs (fs.take j) ∧ 1 ≤ tf.sz ∧ TyOk P f.type tf
  | [], _, [], _, j, tf, h => by simp at h
  | [], _, _ :: _, h, _, _, _ => by simp [TysOk] at h
  | _ :: _, _, [], h, _, _, _ => by simp [TysOk] at h
  | f :: l, o, t :: ts, h, 0, tf, ht => by
    simp only [TysOk] at h
    simp only [List.getElem?_cons_zero, Option.some.injEq] at ht
    subst ht
    exact ⟨f, rfl, by simp [h.1, Ty.szs], h.2.1, h.2.2.2.1⟩
  | f :: l, o, t :: ts, h, j + 1, tf, ht => by
    simp only [TysOk] at h
    simp only [List.getElem?_cons_succ] at ht
    obtain ⟨g, hg, ho, h1, h2⟩ := TysOk.get h.2.2.2.2 j tf ht
    exact ⟨g, by simpa using hg, by rw [ho]; simp [Ty.szs]; omega, h1, h2⟩

theorem TyOk.desc : ∀ {t : TypeId} {ty : Ty}, TyOk P t ty → ∃ d, P.underlying t = some d
  | _, .int _, h => by simp only [TyOk] at h; exact ⟨_, h.2⟩
  | _, .bool, h => by simp only [TyOk] at h; exact ⟨_, h.2⟩
  | _, .str, h => by simp only [TyOk] at h; exact ⟨_, h.2⟩
  | _, .sl _, h => by simp only [TyOk] at h; obtain ⟨_, te, hu, _⟩ := h; exact ⟨_, hu⟩
  | _, .st _, h => by simp only [TyOk] at h; obtain ⟨_, _, l, hu, _⟩ := h; exact ⟨_, hu⟩

theorem run_sizeOf' {t : TypeId} {ty : Ty} (h : TyRow P t ty) (w : World) : (sizeOf t).run P w = .ok ty.sz w := by
  obtain ⟨i, hi, _, hs, _⟩ := h
  simp [sizeOf, typeInfo, hi, hs]

theorem run_isAgg' {t : TypeId} {ty : Ty} (h : TyOk P t ty) (w : World) : (isAgg t).run P w = .ok ty.isSt w := by
  cases ty <;> simp only [TyOk] at h
  case int => simp [isAgg, run_underlying h.2, Ty.isSt]
  case bool => simp [isAgg, run_underlying h.2, Ty.isSt]
  case str => simp [isAgg, run_underlying h.2, Ty.isSt]
  case sl => obtain ⟨_, te, hu, _⟩ := h; simp [isAgg, run_underlying hu, Ty.isSt]
  case st => obtain ⟨_, _, l, hu, _⟩ := h; simp [isAgg, run_underlying hu, Ty.isSt]

theorem addr_add (B o n : Nat) : (Addr.add ⟨B, o, none⟩ n) = ⟨B, o + n, none⟩ := by
  unfold Addr.add
  split
  · rename_i h; simp [h]
  · rfl

/-- A load of a value that lies at a place. -/
theorem run_loadVar' {t : TypeId} {ty : Ty} (h : TyOk P t ty) {w : World} {B o : Nat} {cs : List Value} (hl : cs.length = ty.sz) (hc : ∀ j, j < ty.sz → cel w B (o + j) = cs[j]?) :
    (loadVar t ⟨B, o, none⟩).run P w = .ok (if ty.isSt then .agg cs.toArray else cs.getD 0 undef) w := by
  by_cases hs : ty.isSt = true
  · have hcells : (loadCells ⟨B, o, none⟩ ty.sz).run P w = .ok cs.toArray w := by
      rw [← hl]
      refine run_loadCells_list w ⟨B, o, none⟩ cs (fun j v hj => ?_)
      have hj' : j < cs.length := by
        rcases Nat.lt_or_ge j cs.length with h | h
        · exact h
        · rw [List.getElem?_eq_none h] at hj; cases hj
      rw [addr_add]
      exact (hc j (by omega)).trans hj
    simp only [loadVar, Sem.run_bind, run_isAgg' h, Result.andThen, hs, if_true, run_sizeOf' h.row, hcells]
    rfl
  · have hs' : ty.isSt = false := by simpa using hs
    have h1 : ty.sz = 1 := by cases ty <;> simp_all [Ty.isSt, Ty.sz]
    obtain ⟨v, rfl⟩ : ∃ v, cs = [v] := by
      match cs, hl with
      | [v], _ => exact ⟨v, rfl⟩
      | [], hl => simp [h1] at hl
      | _ :: _ :: _, hl => simp [h1] at hl
    have h0 := hc 0 (by omega)
    simp only [Nat.add_zero] at h0
    have h0' : w.cell? ⟨B, o, none⟩ = some v := h0
    simp [loadVar, run_isAgg' h, hs', h0', load, Sem.run]
end
end Go.Ev
