/-
  The data of the evaluator: types, trees of data, how they are read in memory, and that a reading stays where its blocks stay.
-/
import Derived.Calls
import Derived.Below
namespace Go.Ev

inductive Ty where
  | int (k : IntKind) | bool | str | sl (e : Ty) | st (fs : List Ty)

inductive Dat where
  | i (n : Int) | b (x : Bool) | s (x : ByteArray) | n (l : List Dat)

namespace Dat
def int : Dat → Int | .i x => x | _ => 0
def bool : Dat → Bool | .b x => x | _ => false
def str : Dat → ByteArray | .s x => x | _ => .empty
def kids : Dat → List Dat | .n l => l | _ => []
def fld (d : Dat) (j : Nat) : Dat := d.kids.getD j (.n [])
def len (d : Dat) : Nat := d.kids.length
end Dat

mutual
def Ty.sz : Ty → Nat
  | .int _ => 1 | .bool => 1 | .str => 1 | .sl _ => 1 | .st fs => Ty.szs fs
def Ty.szs : List Ty → Nat
  | [] => 0
  | t :: ts => t.sz + Ty.szs ts
end

mutual
def Ty.beq : Ty → Ty → Bool
  | .int k, .int k' => decide (k = k')
  | .bool, .bool => true
  | .str, .str => true
  | .sl e, .sl e' => Ty.beq e e'
  | .st l, .st l' => Ty.beqs l l'
  | _, _ => false
def Ty.beqs : List Ty → List Ty → Bool
  | [], [] => true
  | t :: ts, u :: us => Ty.beq t u && Ty.beqs ts us
  | _, _ => false
end

mutual
theorem Ty.eq_of_beq : ∀ (t u : Ty), Ty.beq t u = true → t = u
  | .int k, .int k', h => by simp [Ty.beq] at h; rw [h]
  | .bool, .bool, _ => rfl
  | .str, .str, _ => rfl
  | .sl e, .sl e', h => by simp only [Ty.beq] at h; rw [Ty.eq_of_beq e e' h]
  | .st l, .st l', h => by simp only [Ty.beq] at h; rw [Ty.eq_of_beqs l l' h]
  | .int _, .bool, h | .int _, .str, h | .int _, .sl _, h | .int _, .st _, h
  | .bool, .int _, h | .bool, .str, h | .bool, .sl _, h | .bool, .st _, h
  | .str, .int _, h | .str, .bool, h | .str, .sl _, h | .str, .st _, h
  | .sl _, .int _, h | .sl _, .bool, h | .sl _, .str, h | .sl _, .st _, h
  | .st _, .int _, h | .st _, .bool, h | .st _, .str, h | .st _, .sl _, h => by simp [Ty.beq] at h
theorem Ty.eq_of_beqs : ∀ (l m : List Ty), Ty.beqs l m = true → l = m
  | [], [], _ => rfl
  | t :: ts, u :: us, h => by
    simp only [Ty.beqs, Bool.and_eq_true] at h
    rw [Ty.eq_of_beq t u h.1, Ty.eq_of_beqs ts us h.2]
  | [], _ :: _, h | _ :: _, [], h => by simp [Ty.beqs] at h
end

/-- The cell at place 'o' of block 'B'. -/
abbrev cel (w : World) (B o : Nat) : Option Value := w.cell? ⟨B, o, none⟩

/-! ### Reading -/
mutual
/-- The cells 'cs' read as 'd' of a type, in blocks that are let by 'ok'. -/
def RO (w : World) (ok : Nat → Prop) : Ty → Dat → List Value → Prop
  | .int k, d, cs => cs = [.int k d.int]
  | .bool, d, cs => cs = [.bool d.bool]
  | .str, d, cs => cs = [.string d.str]
  | .sl e, d, cs => ∃ a cap, cs = [.slice a d.len cap] ∧ d.len ≤ cap ∧
      ∀ i, i < d.len → ∃ B o, a = some ⟨B, o, none⟩ ∧ ok B ∧ B < w.heap.size ∧
        ∃ cs', cs'.length = e.sz ∧ (∀ j, j < e.sz → cel w B (o + i * e.sz + j) = cs'[j]?) ∧ RO w ok e (d.fld i) cs'
  | .st fs, d, cs => ROs w ok fs 0 d cs
def ROs (w : World) (ok : Nat → Prop) : List Ty → Nat → Dat → List Value → Prop
  | [], _, _, cs => cs = []
  | t :: ts, j, d, cs => ∃ c1 c2, cs = c1 ++ c2 ∧ RO w ok t (d.fld j) c1 ∧ ROs w ok ts (j + 1) d c2
end

mutual
/-- The cells 'cs' are 'd' of a type, in memory that is nobody else's: the blocks 'F'. -/
def OW (w : World) : Ty → Dat → List Value → List Nat → Prop
  | .int k, d, cs, F => cs = [.int k d.int] ∧ F = []
  | .bool, d, cs, F => cs = [.bool d.bool] ∧ F = []
  | .str, d, cs, F => cs = [.string d.str] ∧ F = []
  | .sl e, d, cs, F => (∃ a, cs = [.slice a 0 0] ∧ d.len = 0 ∧ F = []) ∨
      ∃ B o cap sz F', cs = [.slice (some ⟨B, o, none⟩) d.len cap] ∧ d.len ≤ cap ∧ F = B :: F' ∧ o + cap * e.sz ≤ sz ∧
        (∃ c t fr, w.heap[B]? = some (.cells c t fr) ∧ c.size = sz ∧ ∀ i, i < sz → ¬ (fr.1 ≤ i ∧ i < fr.2)) ∧
        ∃ Fs : List (List Nat), Fs.length = d.len ∧ F' = Fs.flatten ∧
          ∀ i, i < d.len → ∃ cs', cs'.length = e.sz ∧ (∀ j, j < e.sz → cel w B (o + i * e.sz + j) = cs'[j]?) ∧ OW w e (d.fld i) cs' (Fs.getD i [])
  | .st fs, d, cs, F => OWs w fs 0 d cs F
def OWs (w : World) : List Ty → Nat → Dat → List Value → List Nat → Prop
  | [], _, _, cs, F => cs = [] ∧ F = []
  | t :: ts, j, d, cs, F => ∃ c1 c2 F1 F2, cs = c1 ++ c2 ∧ F = F1 ++ F2 ∧ OW w t (d.fld j) c1 F1 ∧ OWs w ts (j + 1) d c2 F2
end

/-- Block 'B' is cells, 'sz' of them, none of them frozen. -/
def Room (w : World) (B sz : Nat) : Prop := ∃ c t fr, w.heap[B]? = some (.cells c t fr) ∧ c.size = sz ∧ ∀ i, i < sz → ¬ (fr.1 ≤ i ∧ i < fr.2)

theorem cel_of_block {w w' : World} {B : Nat} (h : w'.heap[B]? = w.heap[B]?) (o : Nat) : cel w' B o = cel w B o := by
  unfold cel World.cell?
  simp only [h]

theorem Room.of_block {w w' : World} {B sz : Nat} (h : w'.heap[B]? = w.heap[B]?) (hr : Room w B sz) : Room w' B sz := by
  unfold Room at *; rw [h]; exact hr

mutual
theorem RO.len {w : World} {ok : Nat → Prop} : ∀ {t : Ty} {d : Dat} {cs : List Value}, RO w ok t d cs → cs.length = t.sz
  | .int _, _, _, h => by simp [RO] at h; simp [h, Ty.sz]
  | .bool, _, _, h => by simp [RO] at h; simp [h, Ty.sz]
  | .str, _, _, h => by simp [RO] at h; simp [h, Ty.sz]
  | .sl _, _, _, h => by simp only [RO] at h; obtain ⟨_, _, rfl, _⟩ := h; simp [Ty.sz]
  | .st fs, _, _, h => by simp only [RO] at h; simp only [Ty.sz]; exact ROs.len h
theorem ROs.len {w : World} {ok : Nat → Prop} : ∀ {ts : List Ty} {j : Nat} {d : Dat} {cs : List Value}, ROs w ok ts j d cs → cs.length = Ty.szs ts
  | [], _, _, _, h => by simp [ROs] at h; simp [h, Ty.szs]
  | t :: ts, j, d, cs, h => by
    simp only [ROs] at h
    obtain ⟨c1, c2, rfl, h1, h2⟩ := h
    simp only [List.length_append, Ty.szs, RO.len h1, ROs.len h2]
end

mutual
theorem OW.len {w : World} : ∀ {t : Ty} {d : Dat} {cs : List Value} {F : List Nat}, OW w t d cs F → cs.length = t.sz
  | .int _, _, _, _, h => by simp [OW] at h; simp [h, Ty.sz]
  | .bool, _, _, _, h => by simp [OW] at h; simp [h, Ty.sz]
  | .str, _, _, _, h => by simp [OW] at h; simp [h, Ty.sz]
  | .sl _, _, _, _, h => by
    simp only [OW] at h
    rcases h with ⟨_, rfl, _⟩ | ⟨_, _, _, _, _, rfl, _⟩ <;> simp [Ty.sz]
  | .st fs, _, _, _, h => by simp only [OW] at h; simp only [Ty.sz]; exact OWs.len h
theorem OWs.len {w : World} : ∀ {ts : List Ty} {j : Nat} {d : Dat} {cs : List Value} {F : List Nat}, OWs w ts j d cs F → cs.length = Ty.szs ts
  | [], _, _, _, _, h => by simp [OWs] at h; simp [h, Ty.szs]
  | t :: ts, j, d, cs, F, h => by
    simp only [OWs] at h
    obtain ⟨c1, c2, F1, F2, rfl, rfl, h1, h2⟩ := h
    simp only [List.length_append, Ty.szs, OW.len h1, OWs.len h2]
end

/-- A reading stays where its blocks stay. -/
structure Kept (ok : Nat → Prop) (w w' : World) : Prop where
  size : w.heap.size ≤ w'.heap.size
  block : ∀ B, ok B → B < w.heap.size → w'.heap[B]? = w.heap[B]?

mutual
theorem RO.kept {w w' : World} {ok ok' : Nat → Prop} (hk : Kept ok w w') (ho : ∀ B, ok B → B < w.heap.size → ok' B) : ∀ {t : Ty} {d : Dat} {cs : List Value}, RO w ok t d cs → RO w' ok' t d cs
  | .int _, _, _, h => by simpa [RO] using h
  | .bool, _, _, h => by simpa [RO] using h
  | .str, _, _, h => by simpa [RO] using h
  | .sl e, d, cs, h => by
    simp only [RO] at h ⊢
    obtain ⟨a, cap, rfl, hc, h⟩ := h
    refine ⟨a, cap, rfl, hc, fun i hi => ?_⟩
    obtain ⟨B, o, ea, hok, hB, cs', hl, hcell, hr⟩ := h i hi
    exact ⟨B, o, ea, ho B hok hB, Nat.lt_of_lt_of_le hB hk.size, cs', hl, fun j hj => (cel_of_block (hk.block B hok hB) _).trans (hcell j hj), RO.kept hk ho hr⟩
  | .st fs, _, _, h => by simp only [RO] at h ⊢; exact ROs.kept hk ho h
theorem ROs.kept {w w' : World} {ok ok' : Nat → Prop} (hk : Kept ok w w') (ho : ∀ B, ok B → B < w.heap.size → ok' B) : ∀ {ts : List Ty} {j : Nat} {d : Dat} {cs : List Value}, ROs w ok ts j d cs → ROs w' ok' ts j d cs
  | [], _, _, _, h => by simpa [ROs] using h
  | t :: ts, j, d, cs, h => by
    simp only [ROs] at h ⊢
    obtain ⟨c1, c2, rfl, h1, h2⟩ := h
    exact ⟨c1, c2, rfl, RO.kept hk ho h1, ROs.kept hk ho h2⟩
end

theorem mem_flatten_getD {Fs : List (List Nat)} {i : Nat} {B : Nat} (h : B ∈ Fs.getD i []) : B ∈ Fs.flatten := by
  by_cases hi : i < Fs.length
  · rw [List.getD_eq_getElem?_getD, List.getElem?_eq_getElem hi] at h
    exact List.mem_flatten.2 ⟨_, List.getElem_mem hi, h⟩
  · rw [List.getD_eq_getElem?_getD, List.getElem?_eq_none (by omega)] at h
    simp at h

mutual
theorem OW.kept {w w' : World} : ∀ {t : Ty} {d : Dat} {cs : List Value} {F : List Nat}, (∀ B ∈ F, w'.heap[B]? = w.heap[B]?) → OW w t d cs F → OW w' t d cs F
  | .int _, _, _, _, _, h => by simpa [OW] using h
  | .bool, _, _, _, _, h => by simpa [OW] using h
  | .str, _, _, _, _, h => by simpa [OW] using h
  | .sl e, d, cs, F, hk, h => by
    simp only [OW] at h ⊢
    rcases h with h | ⟨B, o, cap, sz, F', rfl, hc, rfl, hsz, hroom, Fs, hl, rfl, hel⟩
    · exact .inl h
    · refine .inr ⟨B, o, cap, sz, _, rfl, hc, rfl, hsz, ?_, Fs, hl, rfl, fun i hi => ?_⟩
      · rw [hk B (by simp)]; exact hroom
      · obtain ⟨cs', hl', hcell, hr⟩ := hel i hi
        exact ⟨cs', hl', fun j hj => (cel_of_block (hk B (by simp)) _).trans (hcell j hj), OW.kept (fun B' hB' => hk B' (by simp only [List.mem_cons]; exact .inr (mem_flatten_getD hB'))) hr⟩
  | .st fs, _, _, _, hk, h => by simp only [OW] at h ⊢; exact OWs.kept hk h
theorem OWs.kept {w w' : World} : ∀ {ts : List Ty} {j : Nat} {d : Dat} {cs : List Value} {F : List Nat}, (∀ B ∈ F, w'.heap[B]? = w.heap[B]?) → OWs w ts j d cs F → OWs w' ts j d cs F
  | [], _, _, _, _, _, h => by simpa [OWs] using h
  | t :: ts, j, d, cs, F, hk, h => by
    simp only [OWs] at h ⊢
    obtain ⟨c1, c2, F1, F2, rfl, rfl, h1, h2⟩ := h
    exact ⟨c1, c2, F1, F2, rfl, rfl, OW.kept (fun B hB => hk B (by simp [hB])) h1, OWs.kept (fun B hB => hk B (by simp [hB])) h2⟩
end

mutual
/-- What is one's own can be read. -/
theorem OW.toRO {w : World} {ok : Nat → Prop} : ∀ {t : Ty} {d : Dat} {cs : List Value} {F : List Nat}, (∀ B ∈ F, ok B) → OW w t d cs F → RO w ok t d cs
  | .int _, _, _, _, _, h => by simp only [OW, RO] at *; exact h.1
  | .bool, _, _, _, _, h => by simp only [OW, RO] at *; exact h.1
  | .str, _, _, _, _, h => by simp only [OW, RO] at *; exact h.1
  | .sl e, d, cs, F, hk, h => by
    simp only [OW, RO] at h ⊢
    rcases h with ⟨a, rfl, hd, _⟩ | ⟨B, o, cap, sz, F', rfl, hc, rfl, hsz, ⟨c, t, fr, hb, _⟩, Fs, hl, rfl, hel⟩
    · exact ⟨a, 0, by rw [hd], by omega, fun i hi => by omega⟩
    · refine ⟨_, _, rfl, hc, fun i hi => ?_⟩
      obtain ⟨cs', hl', hcell, hr⟩ := hel i hi
      have hB : B < w.heap.size := by
        rcases Nat.lt_or_ge B w.heap.size with h | h
        · exact h
        · rw [Array.getElem?_eq_none h] at hb; cases hb
      exact ⟨B, o, rfl, hk B (by simp), hB, cs', hl', hcell, OW.toRO (fun B' hB' => hk B' (by simp only [List.mem_cons]; exact .inr (mem_flatten_getD hB'))) hr⟩
  | .st fs, _, _, _, hk, h => by simp only [OW, RO] at h ⊢; exact OWs.toRO hk h
theorem OWs.toRO {w : World} {ok : Nat → Prop} : ∀ {ts : List Ty} {j : Nat} {d : Dat} {cs : List Value} {F : List Nat}, (∀ B ∈ F, ok B) → OWs w ts j d cs F → ROs w ok ts j d cs
  | [], _, _, _, _, _, h => by simp only [OWs, ROs] at *; exact h.1
  | t :: ts, j, d, cs, F, hk, h => by
    simp only [OWs, ROs] at h ⊢
    obtain ⟨c1, c2, F1, F2, rfl, rfl, h1, h2⟩ := h
    exact ⟨c1, c2, rfl, OW.toRO (fun B hB => hk B (by simp [hB])) h1, OWs.toRO (fun B hB => hk B (by simp [hB])) h2⟩
end

end Go.Ev
