/-
  Memory that is written: cells put into a block; rows that are handed on.
-/
import Derived.Test.YthdgcninegkalacDoorEvI
namespace Go.Ev
open List (nodup_iff_count)

/-! ### Counting blocks -/
theorem occ_set : ∀ (FS : List (List Nat)) (b : Nat) (F : List Nat) (B : Nat), b < FS.length → (FS.set b F).flatten.count B + (FS.getD b []).count B = FS.flatten.count B + F.count B
  | [], _, _, _, h => by simp at h
  | G :: FS, 0, F, B, _ => by simp [List.count_append]; omega
  | G :: FS, b + 1, F, B, h => by
    have := occ_set FS b F B (by simpa using h)
    simp only [List.set_cons_succ, List.flatten_cons, List.count_append, List.getD_cons_succ] at *
    omega

theorem disj {FS : List (List Nat)} (hn : FS.flatten.Nodup) {b b' : Nat} (hb : b < FS.length) (hne : b ≠ b') {B : Nat} (h : B ∈ FS.getD b []) : B ∉ FS.getD b' [] := by
  intro h'
  have h1 := occ_set FS b [] B hb
  have h2 := (nodup_iff_count.1 hn) B
  have h3 := List.one_le_count_iff.2 h
  have h4 : B ∈ (FS.set b []).getD b' [] := by
    rw [List.getD_eq_getElem?_getD, List.getElem?_set_ne hne, ← List.getD_eq_getElem?_getD]; exact h'
  have h5 := List.one_le_count_iff.2 (mem_flatten_getD h4)
  simp only [List.count_nil] at h1
  omega

/-! ### Cells put into a block -/
def putCells (w : World) (B o : Nat) : List Value → World
  | [] => w
  | v :: r => putCells (w.setCell ⟨B, o, none⟩ v) B (o + 1) r

structure Put (w w' : World) (B o : Nat) (cs : List Value) : Prop where
  os : w'.os = w.os
  tape : w'.tape = w.tape
  output : w'.output = w.output
  size : w'.heap.size = w.heap.size
  block : ∀ B', B' ≠ B → w'.heap[B']? = w.heap[B']?
  row : ∀ c t fr, w.heap[B]? = some (.cells c t fr) → o + cs.length ≤ c.size → ∃ c', w'.heap[B]? = some (.cells c' t fr) ∧ c'.size = c.size ∧
    ∀ j, c'[j]? = if o ≤ j ∧ j < o + cs.length then cs[j - o]? else c[j]?

theorem put_setCell (w : World) (B o : Nat) (v : Value) : Put w (w.setCell ⟨B, o, none⟩ v) B o [v] where
  os := rfl
  tape := rfl
  output := rfl
  size := by simp
  block := fun B' h => by simp only [World.setCell, Array.getElem?_modify]; rw [if_neg (by simpa using h.symm)]
  row := fun c t fr hc hlen => by
    refine ⟨c.setIfInBounds o v, ?_, by simp, fun j => ?_⟩
    · simp [World.setCell, Array.getElem?_modify, hc]
    · simp only [List.length_cons, List.length_nil] at hlen ⊢
      by_cases hj : j = o
      · subst hj; simp only [Array.getElem?_setIfInBounds_self, Nat.sub_self]; simp; omega
      · rw [Array.getElem?_setIfInBounds_ne (by omega), if_neg (by omega)]

theorem putCells_put : ∀ (cs : List Value) (w : World) (B o : Nat), Put w (putCells w B o cs) B o cs
  | [], w, B, o => ⟨rfl, rfl, rfl, rfl, fun _ _ => rfl, fun c t fr hc _ => ⟨c, hc, rfl, fun j => by rw [if_neg (by simp only [List.length_nil]; omega)]⟩⟩
  | v :: r, w, B, o => by
    have h1 := put_setCell w B o v
    have h2 := putCells_put r (w.setCell ⟨B, o, none⟩ v) B (o + 1)
    refine ⟨h2.os.trans h1.os, h2.tape.trans h1.tape, h2.output.trans h1.output, h2.size.trans h1.size, fun B' h => (h2.block B' h).trans (h1.block B' h), fun c t fr hc hlen => ?_⟩
    simp only [List.length_cons] at hlen
    obtain ⟨c1, hc1, hs1, hj1⟩ := h1.row c t fr hc (by simp; omega)
    obtain ⟨c2, hc2, hs2, hj2⟩ := h2.row c1 t fr hc1 (by omega)
    refine ⟨c2, hc2, hs2.trans hs1, fun j => ?_⟩
    rw [hj2 j, hj1 j]
    simp only [List.length_cons, List.length_nil]
    by_cases h0 : j = o
    · subst h0
      rw [if_neg (by omega), if_pos (by omega), if_pos (by omega)]
      simp
    · by_cases hin : o + 1 ≤ j ∧ j < o + 1 + r.length
      · rw [if_pos hin, if_pos (by omega)]
        rw [show j - o = (j - (o + 1)) + 1 by omega, List.getElem?_cons_succ]
      · rw [if_neg hin, if_neg (by omega), if_neg (by omega)]

theorem Plain.run_store {P : Program} {w : World} {B o : Nat} {v u : Value} (hp : Plain v) (hc : cel w B o = some u) (hf : w.frozen? ⟨B, o, none⟩ = false) :
    (store ⟨B, o, none⟩ v).run P w = .ok () (w.setCell ⟨B, o, none⟩ v) := by
  have hc' : w.cell? ⟨B, o, none⟩ = some u := hc
  cases v
  case agg c => exact absurd rfl (hp.1 c)
  case tuple c => exact absurd rfl (hp.2 c)
  all_goals simp [store, Sem.run, hc', hf]

theorem Room.cell {w : World} {B sz : Nat} (h : Room w B sz) {j : Nat} (hj : j < sz) : (∃ u, cel w B j = some u) ∧ w.frozen? ⟨B, j, none⟩ = false := by
  obtain ⟨c, t, fr, hc, hs, hf⟩ := h
  have hlt : j < c.size := by omega
  refine ⟨⟨c[j], ?_⟩, ?_⟩
  · simp [cel, World.cell?, hc, hlt]
  · have := hf j hj
    simp only [World.frozen?, hc]
    simpa using this

theorem Put.room {w w' : World} {B o sz : Nat} {cs : List Value} (hp : Put w w' B o cs) (h : Room w B sz) (hl : o + cs.length ≤ sz) : Room w' B sz := by
  obtain ⟨c, t, fr, hc, hs, hf⟩ := h
  obtain ⟨c', hc', hs', _⟩ := hp.row c t fr hc (by omega)
  exact ⟨c', t, fr, hc', by omega, hf⟩

theorem Put.cel {w w' : World} {B o sz : Nat} {cs : List Value} (hp : Put w w' B o cs) (h : Room w B sz) (hl : o + cs.length ≤ sz) (j : Nat) :
    Ev.cel w' B j = if o ≤ j ∧ j < o + cs.length then cs[j - o]? else Ev.cel w B j := by
  obtain ⟨c, t, fr, hc, hs, hf⟩ := h
  obtain ⟨c', hc', hs', hj⟩ := hp.row c t fr hc (by omega)
  have e1 : Ev.cel w' B j = c'[j]? := by simp [Ev.cel, World.cell?, hc']
  have e2 : Ev.cel w B j = c[j]? := by simp [Ev.cel, World.cell?, hc]
  rw [e1, e2, hj]

theorem run_storeCells {P : Program} : ∀ (cs : List Value) (w : World) (B o i sz : Nat), (∀ x ∈ cs, Plain x) → Room w B sz → o + i + cs.length ≤ sz →
    (storeCells ⟨B, o, none⟩ cs i).run P w = .ok () (putCells w B (o + i) cs)
  | [], w, B, o, i, sz, _, _, _ => by simp [storeCells, putCells]
  | v :: r, w, B, o, i, sz, hp, hr, hl => by
    simp only [List.length_cons] at hl
    obtain ⟨⟨u, hu⟩, hf⟩ := hr.cell (j := o + i) (by omega)
    have h1 := (hp v (by simp)).run_store (P := P) hu hf
    have hr' : Room (w.setCell ⟨B, o + i, none⟩ v) B sz := (put_setCell w B (o + i) v).room hr (by simp; omega)
    have ih := run_storeCells (P := P) r _ B o (i + 1) sz (fun x hx => hp x (by simp [hx])) hr' (by omega)
    simp only [storeCells, Sem.run_bind, addr_add, h1, Result.andThen_ok, putCells]
    exact ih

/-- A store of a whole value. -/
theorem run_storeVar' {P : Program} {t : TypeId} {ty : Ty} (h : TyRow P t ty) {w : World} {B o sz : Nat} {v : Value} {cs : List Value} (hv : v.cells.toList = cs) (hlen : cs.length = ty.sz)
    (hp : ∀ x ∈ cs, Plain x) (hr : Room w B sz) (hl : o + cs.length ≤ sz) : (storeVar t ⟨B, o, none⟩ v).run P w = .ok () (putCells w B o cs) := by
  have hs : v.cells.size = ty.sz := by rw [← hlen, ← hv]; simp
  have := run_storeCells (P := P) cs w B o 0 sz hp hr (by omega)
  simp only [Nat.add_zero] at this
  simp [storeVar, run_sizeOf' h, hs, hv, this]

end Go.Ev
