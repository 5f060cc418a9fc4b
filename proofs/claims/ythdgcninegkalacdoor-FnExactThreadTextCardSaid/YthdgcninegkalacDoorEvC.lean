/-
  How abstract values stand to the machine's values, and that this stays where memory stays.
-/
import Derived.Test.YthdgcninegkalacDoorEvB
import Derived.Deep.Quiet
namespace Go.Ev

/-- Where a row or a box lies: block, place in it, how many cells the block has. -/
structure Pl where
  B : Nat
  o : Nat
  sz : Nat

structure Ext (ok : Nat → Prop) (w0 w : World) : Prop where
  os : w.os = w0.os
  tape : w.tape = w0.tape
  output : w.output = w0.output
  size : w0.heap.size ≤ w.heap.size
  block : ∀ B, B < w0.heap.size → ok B → w.heap[B]? = w0.heap[B]?

theorem Ext.refl (ok : Nat → Prop) (w : World) : Ext ok w w := ⟨rfl, rfl, rfl, Nat.le_refl _, fun _ _ _ => rfl⟩

/-- The header of a row of its own: from element 'lo', 'len' of them. -/
def HdR (pl : List (Option Pl)) (e : Ty) (b lo len : Nat) (cs : List Value) : Prop :=
  ∃ a cap, cs = [.slice a len cap] ∧ len ≤ cap ∧
    ((len = 0 ∧ cap = 0) ∨ ∃ p, pl.getD b none = some p ∧ a = some ⟨p.B, p.o + lo * e.sz, none⟩ ∧ p.o + (lo + cap) * e.sz ≤ p.sz)

/-- The cells of an object that is only read. -/
def At (w : World) (ok : Nat → Prop) (B o : Nat) (t : Ty) (d : Dat) : Prop :=
  ok B ∧ B < w.heap.size ∧ ∃ cs', cs'.length = t.sz ∧ (∀ j, j < t.sz → cel w B (o + j) = cs'[j]?) ∧ RO w ok t d cs'

/-- What may lie in one cell. -/
def Plain (x : Value) : Prop := (∀ c, x ≠ .agg c) ∧ ∀ c, x ≠ .tuple c

section
variable (w0 : World) (ok : Nat → Prop) (hp : List Blk) (pl : List (Option Pl))
mutual
def VC : V → List Value → Prop
  | .u, cs => ∃ x, cs = [x] ∧ Plain x
  | .int k n, cs => cs = [.int k n]
  | .bool b, cs => cs = [.bool b]
  | .str s, cs => cs = [.string s]
  | .nil, cs => cs = [.slice none 0 0]
  | .ro e d, cs => RO w0 ok (.sl e) d cs
  | .hd b, cs => (∃ a n cap, cs = [.slice a n cap]) ∧ b < hp.length ∧ (match getB hp b with | .arr e l => HdR pl e b 0 l.length cs | _ => True)
  | .hs b lo len, cs => (∃ a n cap, cs = [.slice a n cap]) ∧ b < hp.length ∧ (match getB hp b with | .arr e l => HdR pl e b lo len cs ∧ lo + len ≤ l.length | _ => True)
  | .pt b _ off, cs => (∃ ad, cs = [.pointer ad]) ∧ b < hp.length ∧ (match getB hp b with | .box _ => ∃ p', pl.getD b none = some p' ∧ cs = [.pointer (some ⟨p'.B, p'.o + off, none⟩)] | _ => True)
  | .ap b i _ off, cs => (∃ ad, cs = [.pointer ad]) ∧ b < hp.length ∧ (match getB hp b with | .arr e l => i < l.length ∧ ∃ p', pl.getD b none = some p' ∧ cs = [.pointer (some ⟨p'.B, p'.o + i * e.sz + off, none⟩)] | _ => True)
  | .rp t d, cs => ∃ B o, cs = [.pointer (some ⟨B, o, none⟩)] ∧ At w0 ok B o t d
  | .tup _, _ => False
  | .st l, cs => VCs l cs
def VCs : List V → List Value → Prop
  | [], cs => cs = []
  | v :: l, cs => ∃ c1 c2, cs = c1 ++ c2 ∧ VC v c1 ∧ VCs l c2
end

mutual
def VR : V → Value → Prop
  | .u, _ => True
  | .st l, v => ∃ cs, v = .agg cs ∧ VCs w0 ok hp pl l cs.toList
  | .tup l, v => ∃ vs, v = .tuple vs ∧ VRs l vs.toList
  | x, v => VC w0 ok hp pl x [v]
def VRs : List V → List Value → Prop
  | [], vs => vs = []
  | v :: l, vs => ∃ x r, vs = x :: r ∧ VR v x ∧ VRs l r
end

/-- A slot. -/
def TR (_ : Array Value) (x : V) (v : Value) : Prop := VR w0 ok hp pl x v
end

def Rows (w : World) (e : Ty) (l : List Dat) (B o : Nat) (F' : List Nat) : Prop :=
  ∃ Fs : List (List Nat), Fs.length = l.length ∧ F' = Fs.flatten ∧
    ∀ i, i < l.length → ∃ cs', cs'.length = e.sz ∧ (∀ j, j < e.sz → cel w B (o + i * e.sz + j) = cs'[j]?) ∧ OW w e (l.getD i (.n [])) cs' (Fs.getD i [])

def BR (w0 : World) (ok : Nat → Prop) (hp : List Blk) (pl : List (Option Pl)) (w : World) (blk : Blk) (pb : Option Pl) (F : List Nat) : Prop :=
  match blk with
  | .dead => F = []
  | .box v => (pb = none ∧ F = []) ∨ ∃ p, pb = some p ∧ F = [p.B] ∧ p.o = 0 ∧ p.sz = v.sz ∧ Room w p.B p.sz ∧ ∃ cs, cs.length = v.sz ∧ (∀ j, j < v.sz → cel w p.B j = cs[j]?) ∧ VC w0 ok hp pl v cs
  | .arr e l => (pb = none ∧ l = [] ∧ F = []) ∨ ∃ p F', pb = some p ∧ F = p.B :: F' ∧ Room w p.B p.sz ∧ p.o + l.length * e.sz ≤ p.sz ∧ Rows w e l p.B p.o F'

/-- What holds of the world all along: of its first blocks. -/
structure Env where
  n0 : Nat
  inv : World → Prop
  low : ∀ {w : World}, inv w → n0 ≤ w.heap.size
  stab : ∀ {w w' : World}, inv w → w.heap.size ≤ w'.heap.size → (∀ B, B < n0 → w'.heap[B]? = w.heap[B]?) → inv w'

/-- Nothing. -/
def Env.none : Env := ⟨0, fun _ => True, fun _ => Nat.zero_le _, fun _ _ _ => trivial⟩

structure Core (E : Env) (w0 : World) (ok : Nat → Prop) (pl : List (Option Pl)) (FS : List (List Nat)) (s : St) (a : Act) (w : World) : Prop where
  env : E.inv w0
  lok : ∀ B, B < E.n0 → ok B
  ext : Ext ok w0 w
  pll : pl.length = s.hp.length
  fsl : FS.length = s.hp.length
  blk : ∀ b, b < s.hp.length → BR w0 ok s.hp pl w (getB s.hp b) (pl.getD b none) (FS.getD b [])
  nd : FS.flatten.Nodup
  own : ∀ B ∈ FS.flatten, (w0.heap.size ≤ B ∨ ¬ ok B) ∧ B < w.heap.size
  defs : a.defers = []
  tms : a.tmps.size = s.tm.length
  tm : ∀ t, TR w0 ok s.hp pl a.tmps (s.tm.getD t .u) (a.tmps.getD t undef)

theorem Core.inv {E : Env} {w0 : World} {ok : Nat → Prop} {pl : List (Option Pl)} {FS : List (List Nat)} {s : St} {a : Act} {w : World} (hc : Core E w0 ok pl FS s a w) : E.inv w :=
  E.stab hc.env hc.ext.size fun B hB => hc.ext.block B (Nat.lt_of_lt_of_le hB (E.low hc.env)) (hc.lok B hB)

/-! ### Sizes -/
section
variable {E : Env} {w0 : World} {ok : Nat → Prop} {hp : List Blk} {pl : List (Option Pl)}
mutual
theorem VC.len : ∀ {v : V} {cs : List Value}, VC w0 ok hp pl v cs → cs.length = v.sz
  | .u, _, h => by simp only [VC] at h; obtain ⟨_, rfl, _⟩ := h; simp [V.sz]
  | .int _ _, _, h => by simp only [VC] at h; simp [h, V.sz]
  | .bool _, _, h => by simp only [VC] at h; simp [h, V.sz]
  | .str _, _, h => by simp only [VC] at h; simp [h, V.sz]
  | .nil, _, h => by simp only [VC] at h; simp [h, V.sz]
  | .ro _ _, _, h => by simp only [VC] at h; simpa [V.sz, Ty.sz] using h.len
  | .hd _, _, h => by simp only [VC] at h; obtain ⟨⟨_, _, _, rfl⟩, _⟩ := h; simp [V.sz]
  | .hs _ _ _, _, h => by simp only [VC] at h; obtain ⟨⟨_, _, _, rfl⟩, _⟩ := h; simp [V.sz]
  | .pt _ _ _, _, h => by simp only [VC] at h; obtain ⟨⟨_, rfl⟩, _⟩ := h; simp [V.sz]
  | .ap _ _ _ _, _, h => by simp only [VC] at h; obtain ⟨⟨_, rfl⟩, _⟩ := h; simp [V.sz]
  | .rp _ _, _, h => by simp only [VC] at h; obtain ⟨_, _, rfl, _⟩ := h; simp [V.sz]
  | .tup _, _, h => by simp [VC] at h
  | .st _, _, h => by simp only [VC] at h; simpa [V.sz] using VCs.len h
theorem VCs.len : ∀ {l : List V} {cs : List Value}, VCs w0 ok hp pl l cs → cs.length = V.szs l
  | [], _, h => by simp only [VCs] at h; simp [h, V.szs]
  | v :: l, _, h => by
    simp only [VCs] at h
    obtain ⟨c1, c2, rfl, h1, h2⟩ := h
    simp [V.szs, VC.len h1, VCs.len h2]
end

mutual
/-- Every cell of a value is one that may lie in memory. -/
theorem VC.plain : ∀ {v : V} {cs : List Value}, VC w0 ok hp pl v cs → ∀ x ∈ cs, Plain x
  | .u, _, h => by simp only [VC] at h; obtain ⟨y, rfl, hp⟩ := h; intro x hx; simp only [List.mem_singleton] at hx; subst hx; exact hp
  | .int _ _, _, h => by simp only [VC] at h; subst h; intro x hx; simp only [List.mem_singleton] at hx; subst hx; exact ⟨by simp, by simp⟩
  | .bool _, _, h => by simp only [VC] at h; subst h; intro x hx; simp only [List.mem_singleton] at hx; subst hx; exact ⟨by simp, by simp⟩
  | .str _, _, h => by simp only [VC] at h; subst h; intro x hx; simp only [List.mem_singleton] at hx; subst hx; exact ⟨by simp, by simp⟩
  | .nil, _, h => by simp only [VC] at h; subst h; intro x hx; simp only [List.mem_singleton] at hx; subst hx; exact ⟨by simp, by simp⟩
  | .ro _ _, _, h => by simp only [VC, RO] at h; obtain ⟨_, _, rfl, _⟩ := h; intro x hx; simp only [List.mem_singleton] at hx; subst hx; exact ⟨by simp, by simp⟩
  | .hd _, _, h => by simp only [VC] at h; obtain ⟨⟨_, _, _, rfl⟩, _⟩ := h; intro x hx; simp only [List.mem_singleton] at hx; subst hx; exact ⟨by simp, by simp⟩
  | .hs _ _ _, _, h => by simp only [VC] at h; obtain ⟨⟨_, _, _, rfl⟩, _⟩ := h; intro x hx; simp only [List.mem_singleton] at hx; subst hx; exact ⟨by simp, by simp⟩
  | .pt _ _ _, _, h => by simp only [VC] at h; obtain ⟨⟨_, rfl⟩, _⟩ := h; intro x hx; simp only [List.mem_singleton] at hx; subst hx; exact ⟨by simp, by simp⟩
  | .ap _ _ _ _, _, h => by simp only [VC] at h; obtain ⟨⟨_, rfl⟩, _⟩ := h; intro x hx; simp only [List.mem_singleton] at hx; subst hx; exact ⟨by simp, by simp⟩
  | .rp _ _, _, h => by simp only [VC] at h; obtain ⟨_, _, rfl, _⟩ := h; intro x hx; simp only [List.mem_singleton] at hx; subst hx; exact ⟨by simp, by simp⟩
  | .tup _, _, h => by simp [VC] at h
  | .st _, _, h => by simp only [VC] at h; exact VCs.plain h
theorem VCs.plain : ∀ {l : List V} {cs : List Value}, VCs w0 ok hp pl l cs → ∀ x ∈ cs, Plain x
  | [], _, h => by simp only [VCs] at h; subst h; simp
  | v :: l, _, h => by
    simp only [VCs] at h
    obtain ⟨c1, c2, rfl, h1, h2⟩ := h
    intro x hx
    rcases List.mem_append.1 hx with hx | hx
    · exact VC.plain h1 x hx
    · exact VCs.plain h2 x hx
end

/-- Cells of a value: one cell, or an aggregate's. -/
theorem VR.cells : ∀ {v : V} {x : Value}, VR w0 ok hp pl v x → v.isSt = true → ∃ cs, x = .agg cs ∧ VCs w0 ok hp pl (match v with | .st l => l | _ => []) cs.toList
  | .st l, x, h, _ => by simpa [VR] using h
end

/-! ### Rows that grow, that keep their lengths, or that are given up -/
structure Hle (hp hp' : List Blk) : Prop where
  len : hp.length ≤ hp'.length
  at_ : ∀ b, b < hp.length → match getB hp' b with
    | .dead => True
    | .box _ => ∃ v, getB hp b = .box v
    | .arr e l => ∃ l0, getB hp b = .arr e l0 ∧ l0.length = l.length

theorem Hle.refl (hp : List Blk) : Hle hp hp := ⟨Nat.le_refl _, fun b _ => by
  cases getB hp b with
  | dead => trivial
  | box v => exact ⟨v, rfl⟩
  | arr e l => exact ⟨l, rfl, rfl⟩⟩

def PlLe (n : Nat) (pl pl' : List (Option Pl)) : Prop := ∀ b, b < n → pl'.getD b none = pl.getD b none

section
variable {E : Env} {w0 : World} {ok : Nat → Prop} {hp hp' : List Blk} {pl pl' : List (Option Pl)}
theorem HdR.mono {e : Ty} {b lo len : Nat} {cs : List Value} (hb : pl'.getD b none = pl.getD b none) (h : HdR pl e b lo len cs) : HdR pl' e b lo len cs := by
  unfold HdR at *; rw [hb]; exact h

mutual
theorem VC.mono (hh : Hle hp hp') (hl : PlLe hp.length pl pl') : ∀ {v : V} {cs : List Value}, VC w0 ok hp pl v cs → VC w0 ok hp' pl' v cs
  | .u, _, h => by simpa [VC] using h
  | .int _ _, _, h => by simpa [VC] using h
  | .bool _, _, h => by simpa [VC] using h
  | .str _, _, h => by simpa [VC] using h
  | .nil, _, h => by simpa [VC] using h
  | .ro _ _, _, h => by simpa [VC] using h
  | .hd b, _, h => by
    simp only [VC] at h ⊢
    obtain ⟨h1, h2, h3⟩ := h
    refine ⟨h1, Nat.lt_of_lt_of_le h2 hh.len, ?_⟩
    have := hh.at_ b h2
    cases hb : getB hp' b with
    | dead => trivial
    | box _ => trivial
    | arr e l =>
      rw [hb] at this
      obtain ⟨l0, e0, el⟩ := this
      rw [e0] at h3
      show HdR pl' e b 0 l.length _
      rw [← el]; exact HdR.mono (hl b h2) h3
  | .hs b _ _, _, h => by
    simp only [VC] at h ⊢
    obtain ⟨h1, h2, h3⟩ := h
    refine ⟨h1, Nat.lt_of_lt_of_le h2 hh.len, ?_⟩
    have := hh.at_ b h2
    cases hb : getB hp' b with
    | dead => trivial
    | box _ => trivial
    | arr e l =>
      rw [hb] at this
      obtain ⟨l0, e0, el⟩ := this
      rw [e0] at h3
      show HdR pl' e b _ _ _ ∧ _ ≤ l.length
      rw [← el]; exact ⟨HdR.mono (hl b h2) h3.1, h3.2⟩
  | .pt b _ _, _, h => by
    simp only [VC] at h ⊢
    obtain ⟨h1, h2, h3⟩ := h
    refine ⟨h1, Nat.lt_of_lt_of_le h2 hh.len, ?_⟩
    have := hh.at_ b h2
    cases hb : getB hp' b with
    | dead => trivial
    | arr _ _ => trivial
    | box v =>
      rw [hb] at this
      obtain ⟨v0, e0⟩ := this
      rw [e0] at h3
      simp only at h3 ⊢
      rw [hl b h2]; exact h3
  | .ap b i _ _, _, h => by
    simp only [VC] at h ⊢
    obtain ⟨h1, h2, h3⟩ := h
    refine ⟨h1, Nat.lt_of_lt_of_le h2 hh.len, ?_⟩
    have := hh.at_ b h2
    cases hb : getB hp' b with
    | dead => trivial
    | box _ => trivial
    | arr e l =>
      rw [hb] at this
      obtain ⟨l0, e0, el⟩ := this
      rw [e0] at h3
      simp only at h3 ⊢
      rw [hl b h2, ← el]; exact h3
  | .rp _ _, _, h => by simpa [VC] using h
  | .tup _, _, h => by simp [VC] at h
  | .st _, _, h => by simp only [VC] at h ⊢; exact VCs.mono hh hl h
theorem VCs.mono (hh : Hle hp hp') (hl : PlLe hp.length pl pl') : ∀ {l : List V} {cs : List Value}, VCs w0 ok hp pl l cs → VCs w0 ok hp' pl' l cs
  | [], _, h => by simpa [VCs] using h
  | v :: l, _, h => by
    simp only [VCs] at h ⊢
    obtain ⟨c1, c2, rfl, h1, h2⟩ := h
    exact ⟨c1, c2, rfl, VC.mono hh hl h1, VCs.mono hh hl h2⟩
end
mutual
theorem VR.mono (hh : Hle hp hp') (hl : PlLe hp.length pl pl') : ∀ {v : V} {x : Value}, VR w0 ok hp pl v x → VR w0 ok hp' pl' v x
  | .u, _, _ => by simp [VR]
  | .st l, _, h => by simp only [VR] at h ⊢; obtain ⟨cs, e, h⟩ := h; exact ⟨cs, e, VCs.mono hh hl h⟩
  | .tup l, _, h => by simp only [VR] at h ⊢; obtain ⟨cs, e, h⟩ := h; exact ⟨cs, e, VRs.mono hh hl h⟩
  | .int _ _, _, h => by simp only [VR] at h ⊢; exact VC.mono hh hl h
  | .bool _, _, h => by simp only [VR] at h ⊢; exact VC.mono hh hl h
  | .str _, _, h => by simp only [VR] at h ⊢; exact VC.mono hh hl h
  | .nil, _, h => by simp only [VR] at h ⊢; exact VC.mono hh hl h
  | .ro _ _, _, h => by simp only [VR] at h ⊢; exact VC.mono hh hl h
  | .hd _, _, h => by simp only [VR] at h ⊢; exact VC.mono hh hl h
  | .hs _ _ _, _, h => by simp only [VR] at h ⊢; exact VC.mono hh hl h
  | .pt _ _ _, _, h => by simp only [VR] at h ⊢; exact VC.mono hh hl h
  | .ap _ _ _ _, _, h => by simp only [VR] at h ⊢; exact VC.mono hh hl h
  | .rp _ _, _, h => by simp only [VR] at h ⊢; exact VC.mono hh hl h
theorem VRs.mono (hh : Hle hp hp') (hl : PlLe hp.length pl pl') : ∀ {l : List V} {vs : List Value}, VRs w0 ok hp pl l vs → VRs w0 ok hp' pl' l vs
  | [], _, h => by simpa [VRs] using h
  | v :: l, _, h => by
    simp only [VRs] at h ⊢
    obtain ⟨x, r, e, h1, h2⟩ := h
    exact ⟨x, r, e, VR.mono hh hl h1, VRs.mono hh hl h2⟩
end
theorem TR.mono (hh : Hle hp hp') (hl : PlLe hp.length pl pl') {tv : Array Value} {v : V} {x : Value} (h : TR w0 ok hp pl tv v x) : TR w0 ok hp' pl' tv v x := VR.mono hh hl h

theorem Rows.kept {w w' : World} {e : Ty} {l : List Dat} {B o : Nat} {F' : List Nat} (hB : w'.heap[B]? = w.heap[B]?) (hk : ∀ B' ∈ F', w'.heap[B']? = w.heap[B']?) (h : Rows w e l B o F') : Rows w' e l B o F' := by
  obtain ⟨Fs, hl, rfl, h⟩ := h
  refine ⟨Fs, hl, rfl, fun i hi => ?_⟩
  obtain ⟨cs', hl', hcell, hr⟩ := h i hi
  exact ⟨cs', hl', fun j hj => (cel_of_block hB _).trans (hcell j hj), OW.kept (fun B' hB' => hk B' (mem_flatten_getD hB')) hr⟩

/-- A block's relation: other rows may grow or be given up, memory may turn elsewhere. -/
theorem BR.mono (hh : Hle hp hp') (hl : PlLe hp.length pl pl') {w w' : World} {blk : Blk} {pb : Option Pl} {F : List Nat} (hk : ∀ B ∈ F, w'.heap[B]? = w.heap[B]?) (h : BR w0 ok hp pl w blk pb F) : BR w0 ok hp' pl' w' blk pb F := by
  cases blk with
  | dead => simpa [BR] using h
  | box v =>
    simp only [BR] at h ⊢
    rcases h with h | ⟨p, rfl, rfl, ho, hz, hr, cs, hl1, hc, hv⟩
    · exact .inl h
    have hb : w'.heap[p.B]? = w.heap[p.B]? := hk _ (by simp)
    exact .inr ⟨p, rfl, rfl, ho, hz, Room.of_block hb hr, cs, hl1, fun j hj => (cel_of_block hb _).trans (hc j hj), VC.mono hh hl hv⟩
  | arr e l =>
    simp only [BR] at h ⊢
    rcases h with h | ⟨p, F', rfl, rfl, hr, hz, hrows⟩
    · exact .inl h
    · have hb : w'.heap[p.B]? = w.heap[p.B]? := hk _ (by simp)
      exact .inr ⟨p, F', rfl, rfl, Room.of_block hb hr, hz, Rows.kept hb (fun B' hB' => hk B' (by simp [hB'])) hrows⟩
end

/-- Memory that was there is as it was. -/
structure Cl (w w' : World) : Prop where
  os : w'.os = w.os
  tape : w'.tape = w.tape
  output : w'.output = w.output
  size : w.heap.size ≤ w'.heap.size
  block : ∀ B, B < w.heap.size → w'.heap[B]? = w.heap[B]?

theorem Cl.refl (w : World) : Cl w w := ⟨rfl, rfl, rfl, Nat.le_refl _, fun _ _ => rfl⟩
theorem Cl.trans {a b c : World} (h : Cl a b) (k : Cl b c) : Cl a c :=
  ⟨k.os.trans h.os, k.tape.trans h.tape, k.output.trans h.output, Nat.le_trans h.size k.size, fun B hB => (k.block B (Nat.lt_of_lt_of_le hB h.size)).trans (h.block B hB)⟩
theorem Cl.drew (w : World) : Cl w { w with drawn := w.drawn + 1 } := ⟨rfl, rfl, rfl, Nat.le_refl _, fun _ _ => rfl⟩
theorem Cl.cel {w w' : World} (h : Cl w w') {B o : Nat} {v : Value} (hc : cel w B o = some v) : cel w' B o = some v := by
  have hB : B < w.heap.size := by
    rcases Nat.lt_or_ge B w.heap.size with h | h
    · exact h
    · unfold Ev.cel World.cell? at hc
      simp only [Array.getElem?_eq_none h] at hc
      cases hc
  rw [cel_of_block (h.block B hB)]; exact hc
theorem Ext.cl {ok : Nat → Prop} {w0 w w' : World} (h : Ext ok w0 w) (k : Cl w w') : Ext ok w0 w' :=
  ⟨k.os.trans h.os, k.tape.trans h.tape, k.output.trans h.output, Nat.le_trans h.size k.size, fun B hB ho => (k.block B (Nat.lt_of_lt_of_le hB h.size)).trans (h.block B hB ho)⟩

theorem getD_mem_flatten {FS : List (List Nat)} {b B : Nat} (h : B ∈ FS.getD b []) : B ∈ FS.flatten := mem_flatten_getD h

theorem Core.cl {E : Env} {w0 : World} {ok : Nat → Prop} {pl : List (Option Pl)} {FS : List (List Nat)} {s : St} {a : Act} {w w' : World} (h : Core E w0 ok pl FS s a w) (k : Cl w w') : Core E w0 ok pl FS s a w' where
  env := h.env
  lok := h.lok
  ext := h.ext.cl k
  pll := h.pll
  fsl := h.fsl
  blk := fun b hb => BR.mono (Hle.refl _) (fun _ _ => rfl) (fun B hB => k.block B ((h.own B (getD_mem_flatten hB)).2)) (h.blk b hb)
  nd := h.nd
  own := fun B hB => ⟨(h.own B hB).1, Nat.lt_of_lt_of_le (h.own B hB).2 k.size⟩
  defs := h.defs
  tms := h.tms
  tm := h.tm

end Go.Ev
