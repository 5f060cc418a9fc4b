/-
  The operations that make or turn memory: what the evaluator says is what the machine does.
-/
import Derived.Test.YthdgcninegkalacDoorEvV
import Derived.IntWalk
namespace Go.Ev
open List (nodup_iff_count)

def Goes (P : Program) (E : Env) (w0 : World) (ok : Nat → Prop) (pl : List (Option Pl)) (s : St) (a : Act) (w : World) (o : Oper) (v : V) (hp' : List Blk) : Prop :=
  ∀ (K : Act → World → Prop) (Q : Exit → Act → World → Prop), (∀ pl' FS' val w', PlLe s.hp.length pl pl' → Core E w0 ok pl' FS' ⟨s.tm, hp'⟩ a w' → VR w0 ok hp' pl' v val → K (a.put o.dst val) w') → o.wp P a w K Q

section
variable {P : Program} {E : Env} {w0 : World} {ok : Nat → Prop} {pl pl' : List (Option Pl)} {FS FS' : List (List Nat)} {s : St} {a : Act} {w w' : World} {o : Oper}

theorem goes_value {v : V} {hp' : List Blk} {val : Value} (hr : (execOp a.eval o).run P w = .ok (.value val) w') (hl : PlLe s.hp.length pl pl') (hc : Core E w0 ok pl' FS' ⟨s.tm, hp'⟩ a w') (hv : VR w0 ok hp' pl' v val) : Goes P E w0 ok pl s a w o v hp' := by
  intro K Q h
  simp only [Oper.wp, hr, Oper.upon]
  exact h _ _ _ _ hl hc hv

theorem goes_skip {hp' : List Blk} (hr : (execOp a.eval o).run P w = .ok .skip w') (hl : PlLe s.hp.length pl pl') (hc : Core E w0 ok pl' FS' ⟨s.tm, hp'⟩ a w') : Goes P E w0 ok pl s a w o .u hp' := by
  intro K Q h
  simp only [Oper.wp, hr, Oper.upon]
  exact h _ _ _ _ hl hc (by simp [VR])

theorem run_newRow (e : TypeId) (c : Array Value) : (newRow e c).run P w = .ok ⟨w.heap.size, 0, none⟩ (w.alloc (.cells c e)) := by
  simp [newRow, newObj, Sem.run]

theorem cl_alloc (ob : Obj) : Cl w (w.alloc ob) :=
  ⟨rfl, rfl, rfl, by simp, fun B hB => by show (w.heap.push ob)[B]? = _; rw [Array.getElem?_push, if_neg (Nat.ne_of_lt hB)]⟩

theorem room_alloc (c : Array Value) (e : TypeId) : Room (w.alloc (.cells c e)) w.heap.size c.size :=
  ⟨c, e, (0, 0), by show (w.heap.push _)[w.heap.size]? = _; simp, rfl, fun i _ => by simp⟩

/-- A new box. -/
theorem box_goes (hc : Core E w0 ok pl FS s a w) {v : V} {cs : List Value} {e : TypeId} (hv : VC w0 ok s.hp pl v cs) :
    Core E w0 ok (pl ++ [some ⟨w.heap.size, 0, v.sz⟩]) (FS ++ [[w.heap.size]]) ⟨s.tm, s.hp ++ [.box v]⟩ a (w.alloc (.cells cs.toArray e)) ∧
      VR w0 ok (s.hp ++ [.box v]) (pl ++ [some ⟨w.heap.size, 0, v.sz⟩]) (.pt s.hp.length [] 0) (.pointer (some ⟨w.heap.size, 0, none⟩)) := by
  have hlen := hv.len
  refine ⟨hc.push (cl_alloc _) ?_ (by simp) (fun B hB => by simp only [List.mem_singleton] at hB; subst hB; simp), ?_⟩
  · simp only [BR]
    refine .inr ⟨_, rfl, rfl, rfl, rfl, ?_, cs, hlen, fun j hj => ?_, VC.mono (Hle.push _ _) (fun b hb => getD_push_lt (by rw [hc.pll]; exact hb)) hv⟩
    · have := room_alloc (w := w) cs.toArray e
      simp only [List.size_toArray] at this
      rw [hlen] at this; exact this
    · simp [cel]
  · simp only [VR, VC]
    refine ⟨⟨_, rfl⟩, by simp, ?_⟩
    rw [getB_push]
    exact ⟨_, by rw [← hc.pll]; exact getD_push, rfl⟩

mutual
theorem zc_len : ∀ (t : Ty), (zc t).length = t.sz
  | .int _ | .bool | .str | .sl _ => by simp [zc, Ty.sz]
  | .st fs => by simp only [zc, Ty.sz]; exact zcs_len fs
theorem zcs_len : ∀ (ts : List Ty), (zcs ts).length = Ty.szs ts
  | [] => by simp [zcs, Ty.szs]
  | t :: ts => by simp [zcs, Ty.szs, zc_len t, zcs_len ts]
end

theorem zv_cells (t : Ty) : (zv t).cells.toList = zc t := by
  cases t <;> simp [zv, zc, Value.cells]

theorem zeroDs_get : ∀ (ts : List Ty) (i : Nat) (t : Ty), ts[i]? = some t → (zeroDs ts).getD i (.n []) = zeroD t
  | [], i, t, h => by simp at h
  | t0 :: ts, 0, t, h => by simp only [List.getElem?_cons_zero, Option.some.injEq] at h; subst h; simp [zeroDs]
  | t0 :: ts, i + 1, t, h => by
    simp only [List.getElem?_cons_succ] at h
    simp only [zeroDs, List.getD_cons_succ]
    exact zeroDs_get ts i t h

mutual
/-- The zero value is one's own. -/
theorem zero_OW : ∀ (t : Ty), OW w t (zeroD t) (zc t) []
  | .int _ => by simp [OW, zeroD, zc, Dat.int]
  | .bool => by simp [OW, zeroD, zc, Dat.bool]
  | .str => by simp [OW, zeroD, zc, Dat.str]
  | .sl _ => by simp only [OW, zeroD, zc]; exact .inl ⟨none, rfl, by simp [Dat.len, Dat.kids], trivial⟩
  | .st fs => by
    simp only [OW, zeroD, zc]
    exact zeros_OWs fs 0 _ (fun i t h => by simp only [Dat.fld, Dat.kids, Nat.zero_add]; exact zeroDs_get fs i t h)
theorem zeros_OWs : ∀ (ts : List Ty) (j : Nat) (d : Dat), (∀ i t, ts[i]? = some t → d.fld (j + i) = zeroD t) → OWs w ts j d (zcs ts) []
  | [], _, _, _ => by simp [OWs, zcs]
  | t :: ts, j, d, h => by
    simp only [OWs, zcs]
    refine ⟨_, _, [], [], rfl, rfl, ?_, zeros_OWs ts (j + 1) d (fun i t' h' => ?_)⟩
    · have := h 0 t rfl
      simp only [Nat.add_zero] at this
      rw [this]; exact zero_OW t
    · have := h (i + 1) t' (by simpa using h')
      rw [show j + 1 + i = j + (i + 1) by omega]; exact this
end

/-- Rows of zero values. -/
theorem makeRow (e : Ty) (n : Nat) (te : TypeId) :
    Rows (w.alloc (.cells ((Array.range (n * e.sz)).map fun i => (zc e).toArray[i % (zc e).toArray.size]!) te)) e (List.replicate n (zeroD e)) w.heap.size 0 [] := by
  refine ⟨List.replicate n [], by simp, by simp, fun i hi => ?_⟩
  simp only [List.length_replicate] at hi
  refine ⟨zc e, zc_len e, fun j hj => ?_, ?_⟩
  · have h1 : i * e.sz + j < n * e.sz := by
      have := Nat.mul_le_mul_right e.sz (Nat.succ_le_of_lt hi)
      simp only [Nat.succ_mul] at this
      omega
    have hl := zc_len e
    simp only [cel, World.cell?_alloc_new, Nat.zero_add, Array.getElem?_map, Array.getElem?_range, h1, if_true, Option.map_some, List.size_toArray, hl]
    have hm : (i * e.sz + j) % e.sz = j := by
      rw [Nat.mul_comm, Nat.mul_add_mod]; exact Nat.mod_eq_of_lt hj
    rw [hm]
    have hj' : j < (zc e).length := by omega
    simp [hj']
  · have h1 : (List.replicate n (zeroD e)).getD i (.n []) = zeroD e := by simp [List.getD_eq_getElem?_getD, hi]
    have h2 : (List.replicate n ([] : List Nat)).getD i [] = [] := by simp [List.getD_eq_getElem?_getD, hi]
    rw [h1, h2]
    exact zero_OW e

theorem map0 (f : Nat → Value) : (Array.range 0).map f = #[] := by
  apply Array.ext
  · simp
  · intro i h; simp at h

theorem flds_get : ∀ (n j : Nat) (d : Dat) (i : Nat), i < n → (flds n j d)[i]? = some (d.fld (j + i))
  | 0, _, _, _, h => by omega
  | n + 1, j, d, 0, _ => by simp [flds]
  | n + 1, j, d, i + 1, h => by
    simp only [flds, List.getElem?_cons_succ]
    rw [flds_get n (j + 1) d i (by omega)]
    congr 2; omega
theorem flds_length : ∀ (n j : Nat) (d : Dat), (flds n j d).length = n
  | 0, _, _ => rfl
  | n + 1, j, d => by simp [flds, flds_length n (j + 1) d]

theorem OWs.congr {w : World} : ∀ {ts : List Ty} {j : Nat} {d d' : Dat} {cs : List Value} {F : List Nat}, (∀ k, k < ts.length → d'.fld (j + k) = d.fld (j + k)) → OWs w ts j d cs F → OWs w ts j d' cs F
  | [], _, _, _, _, _, _, h => by simpa [OWs] using h
  | t :: ts, j, d, d', cs, F, hd, h => by
    simp only [OWs] at h ⊢
    obtain ⟨c1, c2, F1, F2, rfl, rfl, h1, h2⟩ := h
    refine ⟨c1, c2, F1, F2, rfl, rfl, ?_, OWs.congr (fun k hk => ?_) h2⟩
    · have := hd 0 (by simp); simp only [Nat.add_zero] at this; rw [this]; exact h1
    · have := hd (k + 1) (by simpa using hk); rw [show j + 1 + k = j + (k + 1) by omega]; exact this

theorem OWs.put {w : World} : ∀ {ts : List Ty} {j : Nat} {d : Dat} {cs : List Value} {F : List Nat} (i : Nat) (t : Ty), OWs w ts j d cs F → ts[i]? = some t →
    ∃ c1 c2 c3 F1 F2 F3, cs = c1 ++ (c2 ++ c3) ∧ F = F1 ++ (F2 ++ F3) ∧ c1.length = Ty.szs (ts.take i) ∧ OW w t (d.fld (j + i)) c2 F2 ∧
      ∀ (w' : World) (d' : Dat) (c' : List Value) (F' : List Nat), (∀ B ∈ F, w'.heap[B]? = w.heap[B]?) → OW w' t (d'.fld (j + i)) c' F' → (∀ k, k < ts.length → k ≠ i → d'.fld (j + k) = d.fld (j + k)) →
        OWs w' ts j d' (c1 ++ (c' ++ c3)) (F1 ++ (F' ++ F3))
  | [], _, _, _, _, i, t, _, hx => by simp at hx
  | t0 :: ts, j, d, cs, F, 0, t, h, hx => by
    simp only [OWs] at h
    obtain ⟨c1, c2, F1, F2, rfl, rfl, h1, h2⟩ := h
    simp only [List.getElem?_cons_zero, Option.some.injEq] at hx
    subst hx
    refine ⟨[], c1, c2, [], F1, F2, rfl, rfl, by simp [Ty.szs], h1, fun w' d' c' F' hk ho hd => ?_⟩
    simp only [OWs]
    refine ⟨c', c2, F', F2, rfl, rfl, ho, OWs.congr (fun k hk' => ?_) (OWs.kept (fun B hB => hk B (by simp [hB])) h2)⟩
    have := hd (k + 1) (by simpa using hk') (by omega)
    rw [show j + 1 + k = j + (k + 1) by omega]; exact this
  | t0 :: ts, j, d, cs, F, i + 1, t, h, hx => by
    simp only [OWs] at h
    obtain ⟨c1, c2, F1, F2, rfl, rfl, h1, h2⟩ := h
    simp only [List.getElem?_cons_succ] at hx
    obtain ⟨d1, d2, d3, G1, G2, G3, rfl, rfl, hl, hv, hset⟩ := OWs.put i t h2 hx
    refine ⟨c1 ++ d1, d2, d3, F1 ++ G1, G2, G3, by simp, by simp, by simp [Ty.szs, hl, h1.len], ?_, fun w' d' c' F' hk ho hd => ?_⟩
    · rw [show j + (i + 1) = j + 1 + i by omega]; exact hv
    · simp only [OWs]
      refine ⟨c1, d1 ++ (c' ++ d3), F1, G1 ++ (F' ++ G3), by simp, by simp, ?_, ?_⟩
      · have := hd 0 (by simp) (by omega)
        simp only [Nat.add_zero] at this
        rw [this]
        exact OW.kept (fun B hB => hk B (by simp [hB])) h1
      · refine hset w' d' c' F' (fun B hB => hk B (List.mem_append.2 (.inr hB))) ?_ (fun k hk' hne => ?_)
        · rw [show j + 1 + i = j + (i + 1) by omega]; exact ho
        · have := hd (k + 1) (by simpa using hk') (by omega)
          rw [show j + 1 + k = j + (k + 1) by omega]; exact this

theorem OW.put {w : World} : ∀ (p : List Nat) {t : Ty} {d : Dat} {cs : List Value} {F : List Nat} {t' : Ty}, OW w t d cs F → tat p t = some t' →
    ∃ c1 c2 c3 F1 F2 F3, cs = c1 ++ (c2 ++ c3) ∧ F = F1 ++ (F2 ++ F3) ∧ c1.length = toff p t ∧ OW w t' (dat p d) c2 F2 ∧
      ∀ (w' : World) (x : Dat) (c' : List Value) (F' : List Nat), (∀ B ∈ F, w'.heap[B]? = w.heap[B]?) → OW w' t' x c' F' → OW w' t (dset p t d x) (c1 ++ (c' ++ c3)) (F1 ++ (F' ++ F3))
  | [], t, d, cs, F, t', h, hx => by
    simp only [tat, Option.some.injEq] at hx
    subst hx
    exact ⟨[], cs, [], [], F, [], by simp, by simp, rfl, h, fun w' x c' F' _ ho => by simpa [dset] using ho⟩
  | i :: p, .st l, d, cs, F, t', h, hx => by
    simp only [tat] at hx
    cases hi : l[i]? with
    | none => simp [hi] at hx
    | some z =>
      simp only [hi] at hx
      simp only [OW] at h
      obtain ⟨c1, c2, c3, F1, F2, F3, rfl, rfl, hl, hv, hset⟩ := OWs.put i z h hi
      simp only [Nat.zero_add] at hv hset
      obtain ⟨d1, d2, d3, G1, G2, G3, rfl, rfl, hl', hv', hset'⟩ := OW.put p hv hx
      have hz : l.getD i .bool = z := by simp [List.getD, hi]
      have hlt : i < l.length := by
        rcases Nat.lt_or_ge i l.length with h | h
        · exact h
        · rw [List.getElem?_eq_none h] at hi; cases hi
      refine ⟨c1 ++ d1, d2, d3 ++ c3, F1 ++ G1, G2, G3 ++ F3, by simp, by simp, by simp [toff, hl, hl', hi], hv', fun w' x c' F' hk ho => ?_⟩
      have h1 := hset' w' x c' F' (fun B hB => hk B (by simp only [List.mem_append] at hB ⊢; exact .inr (.inl hB))) ho
      simp only [dset, OW, hz]
      have := hset w' (.n ((flds l.length 0 d).set i (dset p z (d.fld i) x))) _ _ hk (by
        simp only [Dat.fld, Dat.kids]
        rw [getD_set_self' (by rw [flds_length]; exact hlt)]
        exact h1) (fun k hk' hne => by
        simp only [Dat.fld, Dat.kids]
        rw [getD_set_ne' (Ne.symm hne)]
        have := flds_get l.length 0 d k hk'
        rw [List.getD_eq_getElem?_getD, this]
        simp [Dat.fld, Dat.kids])
      simpa using this
  | i :: p, .int _, _, _, _, _, _, hx | i :: p, .bool, _, _, _, _, _, hx | i :: p, .str, _, _, _, _, _, hx | i :: p, .sl _, _, _, _, _, _, hx => by simp [tat] at hx

theorem grab_memT : ∀ {t : Ty} {v : V} {h : List Blk} {r : Dat × List Blk}, grab t v h = some r → v.memT = true := by
  have key : (∀ (t : Ty) (v : V) (h : List Blk) (r : Dat × List Blk), grab t v h = some r → v.mem = true ∧ v.memT = true) := by
    intro t
    exact Ty.rec (motive_1 := fun t => ∀ (v : V) (h : List Blk) (r : Dat × List Blk), grab t v h = some r → v.mem = true ∧ v.memT = true)
      (motive_2 := fun ts => ∀ (l : List V) (h : List Blk) (r : List Dat × List Blk), grabs ts l h = some r → V.mems l = true)
      (fun k v h r hg => by cases v <;> simp [grab] at hg <;> simp [V.mem, V.memT])
      (fun v h r hg => by cases v <;> simp [grab] at hg <;> simp [V.mem, V.memT])
      (fun v h r hg => by cases v <;> simp [grab] at hg <;> simp [V.mem, V.memT])
      (fun e _ v h r hg => by cases v <;> simp [grab] at hg <;> simp [V.mem, V.memT])
      (fun fs ih v h r hg => by
        cases v <;> simp only [grab, reduceCtorEq] at hg
        rename_i l
        cases hgs : grabs fs l h with
        | none => simp [hgs] at hg
        | some x => simp [V.mem, V.memT, ih l h x hgs])
      (fun l h r hg => by cases l <;> simp [grabs] at hg <;> simp [V.mems])
      (fun t ts ih1 ih2 l h r hg => by
        cases l with
        | nil => simp [grabs] at hg
        | cons v l =>
          simp only [grabs] at hg
          cases h1 : grab t v h with
          | none => simp [h1] at hg
          | some x =>
            obtain ⟨d1, hp1⟩ := x
            simp only [h1] at hg
            cases h2 : grabs ts l hp1 with
            | none => simp [h2] at hg
            | some y => simp [V.mems, (ih1 v h _ h1).1, ih2 l hp1 y h2])
      t
  intro t v h r hg
  exact (key t v h r hg).2

theorem Put.rows {B o i sz : Nat} {e : Ty} {l : List Dat} {F' : List Nat} {p : List Nat} {t' : Ty} {d : Dat} {cs : List Value} {G : List Nat} {w' : World}
    (hp : Put w w' B (o + i * e.sz + toff p e) cs) (hr : Room w B sz) (hsz : o + l.length * e.sz ≤ sz) (h : Rows w e l B o F') (hn : B ∉ F') (hi : i < l.length) (ht : tat p e = some t')
    (hg : OW w t' d cs G) (hG : B ∉ G) : ∃ F'', Rows w' e (l.set i (dset p e (l.getD i (.n [])) d)) B o F'' ∧ ∀ x, F''.count x ≤ F'.count x + G.count x := by
  obtain ⟨Fs, hl, rfl, h⟩ := h
  obtain ⟨cs0, hlen0, hcell0, how0⟩ := h i hi
  obtain ⟨c1, c2, c3, F1, F2, F3, rfl, eF, hl1, hv2, hput⟩ := how0.put p ht
  have hkeep : ∀ k, ∀ B' ∈ Fs.getD k [], w'.heap[B']? = w.heap[B']? := fun k B' hB' => hp.block B' (fun e => hn (e ▸ mem_flatten_getD hB'))
  have hlen2 := hv2.len
  have hlen := hg.len
  have hfit : c1.length + t'.sz ≤ e.sz := by rw [← hlen0]; simp only [List.length_append]; omega
  have hrow : (i + 1) * e.sz ≤ l.length * e.sz := Nat.mul_le_mul_right _ hi
  simp only [Nat.succ_mul] at hrow
  have hfit' : o + i * e.sz + toff p e + cs.length ≤ sz := by omega
  have hcel := fun j => hp.cel hr hfit' j
  refine ⟨(Fs.set i (F1 ++ (G ++ F3))).flatten, ⟨_, by simp [hl], rfl, fun k hk => ?_⟩, fun x => ?_⟩
  · simp only [List.length_set] at hk
    by_cases e1 : i = k
    · subst e1
      rw [getD_set_self' hk, getD_set_self' (by omega)]
      refine ⟨c1 ++ (cs ++ c3), by rw [← hlen0]; simp only [List.length_append]; omega, fun j hj => ?_, ?_⟩
      · rw [hcel]
        by_cases hin : c1.length ≤ j ∧ j < c1.length + cs.length
        · rw [if_pos (by omega), List.getElem?_append_right (by omega), List.getElem?_append_left (by omega)]
          congr 1; omega
        · rw [if_neg (by omega), hcell0 j hj]
          by_cases hlo : j < c1.length
          · rw [List.getElem?_append_left hlo, List.getElem?_append_left hlo]
          · rw [List.getElem?_append_right (by omega), List.getElem?_append_right (by omega), List.getElem?_append_right (by omega), List.getElem?_append_right (by omega)]
            congr 1; omega
      · exact hput w' d cs G (fun B' hB' => hkeep i B' (eF ▸ hB')) (OW.kept (fun B' hB' => hp.block B' (fun e => hG (e ▸ hB'))) hg)
    · rw [getD_set_ne' e1, getD_set_ne' e1]
      obtain ⟨ck, hlk, hck, hok⟩ := h k hk
      refine ⟨ck, hlk, fun j hj => ?_, OW.kept (hkeep k) hok⟩
      rw [hcel, if_neg ?_, hck j hj]
      rcases Nat.lt_or_gt_of_ne e1 with hlt | hgt
      · have : (i + 1) * e.sz ≤ k * e.sz := Nat.mul_le_mul_right _ hlt
        simp only [Nat.succ_mul] at this
        omega
      · have : (k + 1) * e.sz ≤ i * e.sz := Nat.mul_le_mul_right _ hgt
        simp only [Nat.succ_mul] at this
        omega
  · have h1 := occ_set Fs i (F1 ++ (G ++ F3)) x (by omega)
    rw [eF] at h1
    simp only [List.count_append] at h1
    omega

/-- A new row's elements. -/
theorem fillL_len {tm : List V} {e : Ty} : ∀ {parts : List (Nat × Operand)} {l l' : List Dat} {hp hp' : List Blk}, fillL tm e parts l hp = some (l', hp') → l'.length = l.length
  | [], l, l', hp, hp', h => by simp only [fillL, Option.some.injEq, Prod.mk.injEq] at h; rw [h.1]
  | (i, x) :: r, l, l', hp, hp', h => by
    simp only [fillL] at h
    split at h <;> try (simp only [reduceCtorEq] at h; done)
    split at h <;> try (simp only [reduceCtorEq] at h; done)
    have := fillL_len h
    simpa using this

theorem fillL_sound {e : Ty} {hp0 : List Blk} {tm : List V} (look : ∀ (t : Option Ty) (x : Operand), VR w0 ok hp0 pl (Ev.look none tm t x) (a.eval x)) :
    ∀ {parts : List (Nat × Operand)} {l l' : List Dat} {hp hp' : List Blk} {FS : List (List Nat)} {A : Array Value} {Fs : List (List Nat)}, Core E w0 ok pl FS ⟨tm, hp⟩ a w → Hle hp0 hp → Elems w e A.toList l Fs → fillL tm e parts l hp = some (l', hp') →
      ∃ FS' A' Fs', Core E w0 ok pl FS' ⟨tm, hp'⟩ a w ∧ Hle hp hp' ∧ Instr.fill (fun i => some (i * e.sz, e.sz)) A (parts.map fun x => (x.1, a.eval x.2)) = some A' ∧ Elems w e A'.toList l' Fs' ∧
        ∀ B, FS'.flatten.count B + Fs'.flatten.count B ≤ FS.flatten.count B + Fs.flatten.count B
  | [], l, l', hp, hp', FS, A, Fs, hc, hh, hA, h => by
    simp only [fillL, Option.some.injEq, Prod.mk.injEq] at h
    obtain ⟨rfl, rfl⟩ := h
    exact ⟨FS, A, Fs, hc, Hle.refl _, by simp [Instr.fill], hA, fun _ => Nat.le_refl _⟩
  | (i, x) :: r, l, l', hp, hp', FS, A, Fs, hc, hh, hA, h => by
    simp only [fillL] at h
    split at h <;> try (simp only [reduceCtorEq] at h; done)
    rename_i d hp1 hg
    split at h <;> try (simp only [reduceCtorEq] at h; done)
    rename_i hi
    have hvx := VC.mono hh (fun _ _ => rfl) ((look (some e) x).toVC (grab_memT hg))
    obtain ⟨FS1, G, k1, k2, k3, k4⟩ := grab_sound (s := ⟨tm, hp⟩) hc hvx hg
    have hlen := k4.len
    have hb := succ_le_mul (k := e.sz) hi
    have hAl := hA.2.1
    have hnew := hA.set hi k4
    have hfold := foldl_put (a.eval x).cells.toList 0 (i * e.sz) A (A.toList.take (i * e.sz)) ((A.toList.drop (i * e.sz)).take e.sz) (A.toList.drop (i * e.sz + e.sz))
      (by rw [← List.drop_drop, List.take_append_drop, List.take_append_drop]) (by rw [List.length_take]; omega) (by rw [hlen, take_drop_eq (by omega)])
    have hfold' : ((a.eval x).cells.zipIdx.foldl (fun (cs : Array Value) (x : Value × Nat) => cs.setIfInBounds (i * e.sz + x.2) x.1) A).toList = A.toList.take (i * e.sz) ++ ((a.eval x).cells.toList ++ A.toList.drop (i * e.sz + e.sz)) := by
      rw [← Array.foldl_toList, Array.toList_zipIdx]; exact hfold
    rw [← hfold'] at hnew
    obtain ⟨FS2, A', Fs', j1, j2, j3, j4, j5⟩ := fillL_sound look k1 (hh.trans k2) hnew h
    refine ⟨FS2, A', Fs', j1, k2.trans j2, ?_, j4, fun B => ?_⟩
    · have hz : (a.eval x).cells.size = e.sz := by rw [← Array.length_toList, hlen]
      have hAs : A.size = l.length * e.sz := by rw [← Array.length_toList, hAl]
      simp only [List.map_cons, Instr.fill]
      have hc1 : ((a.eval x).cells.size ≠ e.sz) = False := by simp [hz]
      have hc2 : (i * e.sz + (a.eval x).cells.size > A.size) = False := by simp [hz, hAs]; omega
      simp only [hc1, hc2, decide_false, Bool.or_self, Bool.false_eq_true, if_false, ne_eq, not_true, gt_iff_lt]
      simpa [hz] using j3
    · have h1 := k3 B
      have h2 := j5 B
      have h3 := occ_set Fs i G B (by rw [hA.1]; exact hi)
      omega

theorem OW.noF {w : World} : ∀ {t : Ty} {d : Dat} {cs : List Value} {F : List Nat}, t.noSl = true → OW w t d cs F → F = [] := by
  intro t
  exact Ty.rec (motive_1 := fun t => ∀ {d : Dat} {cs : List Value} {F : List Nat}, t.noSl = true → OW w t d cs F → F = [])
    (motive_2 := fun ts => ∀ {j : Nat} {d : Dat} {cs : List Value} {F : List Nat}, Ty.noSls ts = true → OWs w ts j d cs F → F = [])
    (fun k d cs F _ h => by simp only [OW] at h; exact h.2)
    (fun {d cs F} _ h => by simp only [OW] at h; exact h.2)
    (fun {d cs F} _ h => by simp only [OW] at h; exact h.2)
    (fun e _ d cs F hn _ => by simp [Ty.noSl] at hn)
    (fun fs ih d cs F hn h => by simp only [Ty.noSl] at hn; simp only [OW] at h; exact ih hn h)
    (fun {j d cs F} _ h => by simp only [OWs] at h; exact h.2)
    (fun t ts ih1 ih2 {j d cs F} hn h => by
      simp only [Ty.noSls, Bool.and_eq_true] at hn
      simp only [OWs] at h
      obtain ⟨c1, c2, F1, F2, rfl, rfl, h1, h2⟩ := h
      rw [ih1 hn.1 h1, ih2 hn.2 h2]; rfl) t

theorem Elems.noF {w : World} {e : Ty} {A : List Value} {l : List Dat} {Fs : List (List Nat)} (hn : e.noSl = true) (h : Elems w e A l Fs) : Fs.flatten = [] := by
  apply List.eq_nil_iff_forall_not_mem.2
  intro B hB
  obtain ⟨F, hF, hBF⟩ := List.mem_flatten.1 hB
  obtain ⟨i, hi, rfl⟩ := List.getElem_of_mem hF
  have := OW.noF hn (h.2.2 i (by rw [← h.1]; exact hi))
  rw [List.getD_eq_getElem?_getD, List.getElem?_eq_getElem hi] at this
  simp only [Option.getD_some] at this
  rw [this] at hBF; simp at hBF

theorem Elems.drop {w : World} {e : Ty} {A : List Value} {l : List Dat} {Fs : List (List Nat)} (h : Elems w e A l Fs) (n : Nat) (hn : n ≤ l.length) : Elems w e (A.drop (n * e.sz)) (l.drop n) (Fs.drop n) := by
  obtain ⟨a1, a2, a3⟩ := h
  refine ⟨by simp [a1], by rw [List.length_drop, List.length_drop, a2, Nat.sub_mul], fun i hi => ?_⟩
  rw [List.length_drop] at hi
  have := a3 (n + i) (by omega)
  have e1 : (l.drop n).getD i (.n []) = l.getD (n + i) (.n []) := by simp [List.getD_eq_getElem?_getD]
  have e2 : (Fs.drop n).getD i [] = Fs.getD (n + i) [] := by simp [List.getD_eq_getElem?_getD]
  rw [e1, e2, List.drop_drop, ← Nat.add_mul]; exact this

theorem copy_goes {c : Call} {x y : Operand} {t tx te : TypeId} {e : Ty} {i : TypeInfo} {b : Nat} {l m : List Dat} {A : List Value} {Fs : List (List Nat)} (hc : Core E w0 ok pl FS s a w) (hop : o.op = .call c)
    (hcal : c.callee = .builtin .copy) (hargs : c.args = #[x, y]) (hats : c.argTypes = #[t, tx]) (hu : P.underlying t = some (.slice te)) (hi : P.info? te = some i) (hsz : i.size = e.sz) (hns : e.noSl = true)
    (hb : getB s.hp b = .arr e l) (hx : VR w0 ok s.hp pl (.hd b) (a.eval x)) (hA : Elems w e A m Fs) (hs : Src P e.sz tx (a.eval y) m.length A w) (hm : m.length ≤ l.length) :
    Goes P E w0 ok pl s a w o (.int .i64 m.length) (s.hp.set b (.arr e (m ++ l.drop m.length))) := by
  have hF0 := hA.noF hns
  simp only [VR, VC, hb] at hx
  obtain ⟨_, hlt, ad, cap, ex, hcap, hhd⟩ := hx
  simp only [List.cons.injEq, and_true] at ex
  have hmin : Nat.min m.length l.length = m.length := Nat.min_eq_left hm
  have hll : (m ++ l.drop m.length).length = l.length := by simp; omega
  have hcells := hs.cells
  have hlen := hs.len
  have hbr := hc.blk b hlt
  rw [hb] at hbr
  have hh : Hle s.hp (s.hp.set b (.arr e (m ++ l.drop m.length))) := Hle.set_arr hb hll.symm
  have hnd := nodup_iff_count.1 hc.nd
  have run : ∀ w', (match ad with | some a' => storeCells a' A | none => pure ()).run P w = .ok () w' → (execOp a.eval o).run P w = .ok (.value (.int .i64 m.length)) w' := by
    intro w' hst
    cases ad with
    | none =>
      simp only [Sem.run_pure, Result.ok.injEq, true_and] at hst
      subst hst
      simp [execOp, hop, resolve, hcal, hargs, hats, invoke, builtin, Builtin.copy_, run_underlying hu, sizeOf, typeInfo, hi, hsz, ex, hlen, hcells, goInt, Nat.min_eq_left hm]
    | some a' =>
      simp only at hst
      simp [execOp, hop, resolve, hcal, hargs, hats, invoke, builtin, Builtin.copy_, run_underlying hu, sizeOf, typeInfo, hi, hsz, ex, hlen, hcells, goInt, Nat.min_eq_left hm, hst]
  simp only [BR] at hbr
  rcases hbr with ⟨hpb, hl0, hFb⟩ | ⟨p, F', hpb, hFb, hroom, hfit, hrows⟩
  · subst hl0
    have hm0 : m = [] := List.length_eq_zero_iff.1 (by simpa using hm)
    subst hm0
    have hA0 : A = [] := List.length_eq_zero_iff.1 (by have := hA.2.1; simpa using this)
    subst hA0
    refine goes_value (pl' := pl) (FS' := FS.set b []) (run w (by cases ad <;> simp [storeCells])) (fun _ _ => rfl) ?_ (by simp [VR, VC])
    exact hc.upd (G := []) hlt hh (by simp only [BR]; exact .inl ⟨hpb, rfl, trivial⟩) rfl rfl rfl rfl (fun _ _ => rfl) (by simp) (fun B => by simpa using hnd B) (by simp)
  · obtain ⟨A0, Fs0, eF, h0, hcell⟩ := hrows.elems
    rw [hpb] at hhd
    have had : (m.length = 0 ∧ A = []) ∨ ad = some ⟨p.B, p.o, none⟩ := by
      rcases hhd with ⟨q1, _⟩ | ⟨p', e1, ea, _⟩
      · left
        have : m.length = 0 := by omega
        exact ⟨this, List.length_eq_zero_iff.1 (by rw [hA.2.1, this]; simp)⟩
      · right
        cases e1
        simpa using ea
    have hput := putCells_put A w p.B p.o
    have hAl := hA.2.1
    have hfit2 : p.o + A.length ≤ p.sz := by
      have := Nat.mul_le_mul_right e.sz hm; omega
    have hst : (match ad with | some a' => storeCells a' A | none => pure ()).run P w = .ok () (putCells w p.B p.o A) := by
      rcases had with ⟨_, rfl⟩ | rfl
      · cases ad <;> simp [storeCells, putCells]
      · have hall : ∀ j, j < A.length → (∃ u, cel w p.B (p.o + 0 + j) = some u) ∧ w.frozen? ⟨p.B, p.o + 0 + j, none⟩ = false := fun j hj => hroom.cell (by omega)
        have := run_storeCells_cells (P := P) p.B p.o A 0 w (fun j hj => by obtain ⟨⟨u, hu⟩, _⟩ := hall j hj; simp only [cel, Nat.add_zero] at hu; simp [hu]) (fun j hj => by have := (hall j hj).2; simpa using this) hA.one
        simp only [Nat.add_zero] at this
        rw [setCells_put] at this
        exact this
    have hF'0 : F' = [] := by rw [eF]; exact h0.noF hns
    have hnew : Elems w e (A ++ A0.drop (m.length * e.sz)) (m ++ l.drop m.length) (Fs ++ Fs0.drop m.length) := hA.append (h0.drop m.length hm)
    have hFs : (Fs ++ Fs0.drop m.length).flatten = [] := hnew.noF hns
    refine goes_value (pl' := pl) (FS' := FS.set b [p.B]) (run _ hst) (fun _ _ => rfl) ?_ (by simp [VR, VC])
    refine hc.upd (G := []) hlt hh ?_ hput.size hput.os hput.tape hput.output (fun B hB => hput.block B (fun e0 => hB (by rw [hFb, e0]; simp))) (fun B => by rw [hFb, hF'0]; simp) (fun B => by simpa using hnd B) (by simp)
    simp only [BR]
    refine .inr ⟨p, [], hpb, rfl, hput.room hroom hfit2, by rw [hll]; exact hfit, ?_⟩
    have := (hnew.kept (w' := putCells w p.B p.o A) (fun B hB => by rw [hFs] at hB; simp at hB)).rows (B := p.B) (o := p.o) (fun j hj => by
      rw [hput.cel hroom hfit2]
      rw [hll] at hj
      by_cases hjl : j < A.length
      · rw [if_pos (by omega), List.getElem?_append_left hjl]; congr 1; omega
      · rw [if_neg (by omega), hcell j hj, List.getElem?_append_right (by omega), List.getElem?_drop]; congr 1; omega)
    rw [hFs] at this
    exact this

theorem evEff_sound {T : TypeId → Option Ty} (hT : ∀ t ty, T t = some ty → TyOk P t ty) (hc : Core E w0 ok pl FS s a w)
    {r : R} (h : evEff T s.tm s.hp o.op = some r) (hr : r.c = true) : Goes P E w0 ok pl s a w o r.v r.h := by
  have look := fun t x => look_VR hc (ctx := none) (by simp) t x
  generalize hop : o.op = op at h
  cases op with
  | box t x =>
    simp only [evEff] at h
    cases hTt : T t with
    | none => simp [hTt] at h
    | some ty =>
      have hty := hT t ty hTt
      simp only [hTt] at h
      split at h <;> simp only [reduceCtorEq, Option.some.injEq] at h
      rename_i hcond
      obtain ⟨hsz, hst, hm⟩ := hcond
      subst h
      have hl := (look (some ty) x).toVC hm
      obtain ⟨k1, k2⟩ := box_goes (e := t) hc hl
      refine goes_value ?_ (fun b hb => getD_push_lt (by rw [hc.pll]; exact hb)) k1 k2
      simp [execOp, hop, Instr.box, newVar, run_newRow]
  | alloc t =>
    simp only [evEff] at h
    cases hTt : T t with
    | none => simp [hTt] at h
    | some ty =>
      have hty := hT t ty hTt
      simp only [hTt, Option.some.injEq] at h
      subst h
      obtain ⟨i, hi, hz, _⟩ := hty.row
      obtain ⟨k1, k2⟩ := box_goes (e := t) hc (zeroV_VC (w0 := w0) (ok := ok) (hp := s.hp) (pl := pl) ty)
      refine goes_value ?_ (fun b hb => getD_push_lt (by rw [hc.pll]; exact hb)) k1 k2
      have hcells : (zv ty).cells = (zc ty).toArray := by rw [← zv_cells]
      simp [execOp, hop, Instr.alloc, zeroValue, typeInfo, hi, hz, newVar, run_newRow, hcells]
  | makeSlice t l c =>
    simp only [evEff] at h
    split at h <;> try (simp only [reduceCtorEq] at h; done)
    rename_i e hTt
    obtain ⟨te, hu, h1, hte⟩ := (hT t _ hTt).sl
    split at h <;> try (simp only [reduceCtorEq] at h; done)
    rename_i k n k' m hn hm
    simp only [Option.some.injEq] at h
    subst h
    have hl := look none l
    have hcp := look none c
    rw [hn] at hl
    rw [hm] at hcp
    simp only [Bool.and_eq_true, decide_eq_true_eq] at hr
    obtain ⟨h0, hN, rfl⟩ := hr
    obtain ⟨i, hi, hz, hsz, hby⟩ := hte.row
    have hwrap : IntKind.i64.wrap n = n := IntWalk.i64_in (by omega) (by omega)
    have hmul : ((i.bytes : Int) * n) ≤ 2 ^ 48 := by
      have : (i.bytes : Int) * n ≤ 16384 * 4294967296 := Int.mul_le_mul (by omega) hN h0 (by omega)
      omega
    have hrun : (Instr.makeSlice t (.int k n) (.int k' n)).run P w = .ok (.slice (some ⟨w.heap.size, 0, none⟩) n.toNat n.toNat)
        (w.alloc (.cells ((Array.range (n.toNat * e.sz)).map fun i => (zc e).toArray[i % (zc e).toArray.size]!) te)) := by
      have hask : ∀ w : World, (askRoom (n.toNat * i.bytes)).run P w = .ok () w := fun w => by
        unfold askRoom; split <;> simp [mark, Sem.run]
      have hcells : (zv e).cells = (zc e).toArray := by rw [← zv_cells]
      by_cases hn0 : n.toNat * e.sz = 0
      · have : n.toNat = 0 := by
          rcases Nat.mul_eq_zero.1 hn0 with h | h
          · exact h
          · omega
        have hnz : n = 0 := by omega
        subst hnz
        simp only [Instr.makeSlice, Sem.run_bind, run_underlying hu, Result.andThen_ok, asInt, asIntOf, Sem.run_pure, run_typeInfo_some' hi, hwrap]
        simp [askRoom, roomBytes, sizeOf, typeInfo, hi, run_newRow, map0]
      · simp only [Instr.makeSlice, Sem.run_bind, run_underlying hu, Result.andThen_ok, asInt, asIntOf, Sem.run_pure, run_typeInfo_some' hi, hwrap]
        have hno : ¬ (n < 0) := by omega
        have hnb : ¬ ((i.bytes : Int) * n > 2 ^ 48) := by omega
        simp only [hno, hnb, decide_false, Bool.or_self, Int.lt_irrefl, gt_iff_lt, Bool.false_eq_true, if_false, Sem.run_bind, hask, Result.andThen_ok]
        simp [sizeOf, typeInfo, hi, hsz, hn0, zeroValue, hz, hcells, run_newRow]
    have hrows := makeRow (w := w) e n.toNat te
    have hroom := room_alloc (w := w) ((Array.range (n.toNat * e.sz)).map fun i => (zc e).toArray[i % (zc e).toArray.size]!) te
    simp only [Array.size_map, Array.size_range] at hroom
    refine goes_value (pl' := pl ++ [some ⟨w.heap.size, 0, n.toNat * e.sz⟩]) (FS' := FS ++ [[w.heap.size]]) (w' := w.alloc (.cells ((Array.range (n.toNat * e.sz)).map fun i => (zc e).toArray[i % (zc e).toArray.size]!) te))
      (val := .slice (some ⟨w.heap.size, 0, none⟩) n.toNat n.toNat) ?_ (fun b hb => getD_push_lt (by rw [hc.pll]; exact hb)) (hc.push (cl_alloc _) ?_ (by simp) (fun B hB => by simp only [List.mem_singleton] at hB; subst hB; simp)) ?_
    · simp only [execOp, hop, hl.int, hcp.int]
      exact run_v hrun
    · simp only [BR]
      exact .inr ⟨_, [], rfl, rfl, hroom, by simp, hrows⟩
    · simp only [VR, VC]
      refine ⟨⟨_, _, _, rfl⟩, by simp, ?_⟩
      rw [getB_push]
      refine ⟨_, _, by rw [List.length_replicate], by simp, .inr ⟨_, by rw [← hc.pll]; exact getD_push, ?_, ?_⟩⟩
      · simp
      · simp
  | store t ad x =>
    simp only [evEff] at h
    cases hTt : T t with
    | none => simp [hTt] at h
    | some ty =>
      have hty := hT t ty hTt
      have hrow := hty.row
      have hl := look none ad
      have hx := look (some ty) x
      simp only [hTt] at h
      generalize hva : Ev.look none s.tm none ad = va at h hl
      cases va <;> simp only [reduceCtorEq] at h
      case pt b p off =>
        simp only [VR, VC] at hl
        obtain ⟨_, hlt, hpt⟩ := hl
        cases hb : getB s.hp b with
        | dead => simp [hb] at h
        | arr _ _ => simp [hb] at h
        | box v =>
          simp only [hb] at h hpt
          obtain ⟨p', hp', e⟩ := hpt
          simp only [List.cons.injEq, and_true] at e
          cases hv : vat p v with
          | none => simp [hv] at h
          | some x0 =>
            simp only [hv] at h
            split at h <;> simp only [reduceCtorEq, Option.some.injEq] at h
            rename_i hcond
            obtain ⟨hsz0, hsz, hst, hoff, hm⟩ := hcond
            subst h
            have hvx := hx.toVC hm
            have hbr := hc.blk b hlt
            rw [hb, hp'] at hbr
            simp only [BR] at hbr
            rcases hbr with ⟨e1, _⟩ | ⟨p1, e1, eF, ho, hpz, hroom, cs, hlen, hcell, hvc⟩
            · cases e1
            cases e1
            obtain ⟨c1, c2, c3, rfl, hl1, hv2, hput⟩ := hvc.at p hv
            have hlx := hvx.len
            have hl2 := hv2.len
            have hfit : off + (a.eval x).cells.toList.length ≤ p'.sz := by
              rw [hpz, ← hlen]; simp only [List.length_append]; omega
            have hput' := putCells_put (a.eval x).cells.toList w p'.B off
            have hh : Hle s.hp (s.hp.set b (.box (vset p v (Ev.look none s.tm (some ty) x)))) := Hle.set_box hb
            have hvs : (vset p v (Ev.look none s.tm (some ty) x)).sz = v.sz := by
              rw [← (hput _ _ hvx).len, ← hlen]; simp only [List.length_append]; omega
            refine goes_skip (w' := putCells w p'.B off (a.eval x).cells.toList) ?_ (fun _ _ => rfl)
              (hc.upd (F' := FS.getD b []) (G := []) hlt hh ?_ hput'.size hput'.os hput'.tape hput'.output (fun B hB => hput'.block B (fun e => hB (by rw [eF, e]; simp))) (by simp) (fun B => by simpa using (nodup_iff_count.1 hc.nd) B) (by simp))
            · have := run_storeVar' (P := P) hrow (w := w) (B := p'.B) (o := off) (sz := p'.sz) (v := a.eval x) rfl (by omega) hvx.plain hroom hfit
              simp [execOp, hop, Instr.storeAt, e, ho, Instr.sureAddr, this]
            · simp only [BR]
              refine .inr ⟨p', hp', eF, ho, by rw [hvs]; exact hpz, hput'.room hroom hfit, c1 ++ ((a.eval x).cells.toList ++ c3), ?_, fun j hj => ?_, VC.mono hh (fun _ _ => rfl) (hput _ _ hvx)⟩
              · rw [hvs, ← hlen]; simp only [List.length_append]; omega
              · rw [hvs] at hj
                rw [hput'.cel hroom hfit]
                by_cases hin : off ≤ j ∧ j < off + (a.eval x).cells.toList.length
                · rw [if_pos hin, List.getElem?_append_right (by omega), List.getElem?_append_left (by omega)]
                  congr 1; omega
                · rw [if_neg hin, hcell j hj]
                  by_cases hlo : j < c1.length
                  · rw [List.getElem?_append_left hlo, List.getElem?_append_left hlo]
                  · rw [List.getElem?_append_right (by omega), List.getElem?_append_right (by omega), List.getElem?_append_right (by omega), List.getElem?_append_right (by omega)]
                    congr 1; omega
      case ap b i p off =>
        cases hgr : grab ty (Ev.look none s.tm (some ty) x) s.hp with
        | none => simp [hgr] at h
        | some dh =>
          obtain ⟨d, hp1⟩ := dh
          simp only [hgr] at h
          cases hb : getB hp1 b with
          | dead => simp [hb] at h
          | box _ => simp [hb] at h
          | arr e l =>
            simp only [hb] at h
            cases hv : tat p e with
            | none => simp [hv] at h
            | some t' =>
              simp only [hv] at h
              split at h <;> simp only [reduceCtorEq, Option.some.injEq] at h
              rename_i hcond
              obtain ⟨hbeq, hoff⟩ := hcond
              have := Ty.eq_of_beq _ _ hbeq
              subst this
              subst h
              have hm : (Ev.look none s.tm (some ty) x).memT = true := grab_memT hgr
              have hvx := hx.toVC hm
              obtain ⟨FS1, G, k1, k2, k3, k4⟩ := grab_sound hc hvx hgr
              have hl' := VR.mono k2 (fun _ _ => rfl) hl
              simp only [VR, VC, hb] at hl'
              obtain ⟨_, hlt, hi, p', hp', e'⟩ := hl'
              simp only [List.cons.injEq, and_true] at e'
              have hbr := k1.blk b hlt
              rw [hb, hp'] at hbr
              simp only [BR] at hbr
              rcases hbr with ⟨e0, _⟩ | ⟨p1, F', e0, eF, hroom, hfit, hrows⟩
              · cases e0
              · cases e0
                have hnd1 : ∀ B, FS1.flatten.count B + G.count B ≤ 1 := fun B => Nat.le_trans (k3 B) (nodup_iff_count.1 hc.nd B)
                have hbF : b < FS1.length := by rw [k1.fsl]; exact hlt
                have hself : ∀ B, (FS1.getD b []).count B ≤ FS1.flatten.count B := fun B => by
                  have := occ_set FS1 b [] B hbF
                  simp only [List.count_nil] at this; omega
                have hB1 : p'.B ∉ F' := fun hm' => by
                  have h1 := hself p'.B
                  have h2 := hnd1 p'.B
                  rw [eF] at h1
                  simp only [List.count_cons_self] at h1
                  have := List.one_le_count_iff.2 hm'
                  omega
                have hB2 : p'.B ∉ G := fun hm' => by
                  have h1 := hself p'.B
                  have h2 := hnd1 p'.B
                  rw [eF] at h1
                  simp only [List.count_cons_self] at h1
                  have := List.one_le_count_iff.2 hm'
                  omega
                have hput' := putCells_put (a.eval x).cells.toList w p'.B (p'.o + i * e.sz + toff p e)
                obtain ⟨F'', hrows', hcnt⟩ := hput'.rows hroom hfit hrows hB1 hi hv k4 hB2
                have hlx := k4.len
                have hfit2 : p'.o + i * e.sz + toff p e + (a.eval x).cells.toList.length ≤ p'.sz := by
                  obtain ⟨Fs, _, _, hel⟩ := hrows
                  obtain ⟨cs0, hlen0, _, how0⟩ := hel i hi
                  obtain ⟨c1, c2, c3, F1, F2, F3, rfl, _, hl1, hv2⟩ := how0.at p hv
                  have hl2 := hv2.len
                  have hrow' : (i + 1) * e.sz ≤ l.length * e.sz := Nat.mul_le_mul_right _ hi
                  simp only [Nat.succ_mul, List.length_append] at hrow' hlen0
                  omega
                have hh : Hle hp1 (hp1.set b (.arr e (l.set i (dset p e (l.getD i (.n [])) d)))) := Hle.set_arr hb (by simp)
                refine goes_skip (w' := putCells w p'.B (p'.o + i * e.sz + toff p e) (a.eval x).cells.toList) (pl' := pl) (FS' := FS1.set b (p'.B :: F'')) ?_ (fun _ _ => rfl)
                  (k1.upd (G := G) hlt hh ?_ hput'.size hput'.os hput'.tape hput'.output (fun B hB => hput'.block B (fun e => hB (by rw [eF, e]; simp))) (fun B => ?_) hnd1 (fun B hB => ?_))
                · have := run_storeVar' (P := P) hrow (w := w) (B := p'.B) (o := p'.o + i * e.sz + toff p e) (sz := p'.sz) (v := a.eval x) rfl (by omega) hvx.plain hroom hfit2
                  simp [execOp, hop, Instr.storeAt, e', ← hoff, Instr.sureAddr, this]
                · simp only [BR]
                  exact .inr ⟨p', F'', hp', rfl, hput'.room hroom hfit2, by simpa using hfit, hrows'⟩
                · rw [eF]
                  have := hcnt B
                  simp only [List.count_cons]; omega
                · have h1 := List.one_le_count_iff.2 hB
                  have h2 := k3 B
                  exact hc.own B (List.one_le_count_iff.1 (by omega))
  | buildSlice t n parts =>
    simp only [evEff] at h
    split at h <;> try (simp only [reduceCtorEq] at h; done)
    rename_i e hTt
    split at h <;> try (simp only [reduceCtorEq] at h; done)
    rename_i hsmall
    split at h <;> simp only [reduceCtorEq, Option.some.injEq] at h
    rename_i l hp1 hfill
    subst h
    obtain ⟨te, hu, he1, hte⟩ := (hT t _ hTt).sl
    obtain ⟨i, hi, hz, hsz, hby, hzs⟩ := zv_info hte
    have hz0 : Elems w e (((Array.range (n * e.sz)).map fun k => (zv e).cells[k % (zv e).cells.size]!).toList) (List.replicate n (zeroD e)) (List.replicate n []) := by
      have hrow := makeRow (w := w) e n te
      refine ⟨by simp, by simp, fun j hj => ?_⟩
      simp only [List.length_replicate] at hj
      have e1 : (List.replicate n (zeroD e)).getD j (.n []) = zeroD e := by simp [List.getD_eq_getElem?_getD, hj]
      have e2 : (List.replicate n ([] : List Nat)).getD j [] = [] := by simp [List.getD_eq_getElem?_getD, hj]
      rw [e1, e2]
      have hb := succ_le_mul (k := e.sz) hj
      have : ((((Array.range (n * e.sz)).map fun k => (zv e).cells[k % (zv e).cells.size]!).toList.drop (j * e.sz)).take e.sz) = zc e := by
        apply List.ext_getElem?
        intro k
        rw [List.getElem?_take, List.getElem?_drop]
        by_cases hk : k < e.sz
        · rw [if_pos hk, Array.getElem?_toList]
          have h1 : j * e.sz + k < n * e.sz := by omega
          have hm : (j * e.sz + k) % e.sz = k := by
            rw [Nat.mul_comm, Nat.mul_add_mod]; exact Nat.mod_eq_of_lt hk
          have hcz : (zv e).cells.toList = zc e := zv_cells e
          have hk' : k < (zv e).cells.size := by omega
          simp only [Array.getElem?_map, Array.getElem?_range, h1, if_true, Option.map_some, hzs, hm]
          rw [← hcz, Array.getElem?_toList, Array.getElem?_eq_getElem hk', getElem!_pos (zv e).cells k hk']
        · rw [if_neg hk, List.getElem?_eq_none (by rw [zc_len]; omega)]
      rw [this]
      exact zero_OW e
    obtain ⟨FS1, A', Fs, k1, k2, k3, k4, k5⟩ := fillL_sound look hc (Hle.refl _) hz0 hfill
    rw [show (List.replicate n ([] : List Nat)).flatten = [] by simp] at k5
    simp only [List.count_nil, Nat.add_zero] at k5
    have hlen := fillL_len hfill
    simp only [List.length_replicate] at hlen
    have hAs : A'.size = n * e.sz := by rw [← Array.length_toList, k4.2.1, hlen]
    have hlt : ∀ B ∈ Fs.flatten, B < w.heap.size ∧ (w0.heap.size ≤ B ∨ ¬ ok B) := fun B hB => by
      have h1 := List.one_le_count_iff.2 hB
      have h2 := k5 B
      have := hc.own B (List.one_le_count_iff.1 (by omega))
      exact ⟨this.2, this.1⟩
    have hnew := grow_new (w := w) (wm := w) (te := te) (cap := n) #[] k4 (fun B hB => (hlt B hB).1) rfl (by omega) (by rw [hlen]; simp)
    simp only [Array.append_empty, hlen] at hnew
    have hc1 := k1.cl (cl_alloc (w := w) (.cells A'.toList.toArray te))
    obtain ⟨pl', FS', m1, m2, m3, m4, m5⟩ := mkRes_sound (t := .sl e) (d := .n l) hc1 hnew (fun B => by
      have := k5 B
      have := nodup_iff_count.1 hc.nd B
      simp only [List.count_cons]
      by_cases e0 : w.heap.size = B
      · subst e0
        have : FS.flatten.count w.heap.size = 0 := List.count_eq_zero.2 fun hm => by have := (hc.own _ hm).2; omega
        simp; omega
      · simp [e0]; omega) (fun B hB => by
      simp only [List.mem_cons] at hB
      rcases hB with rfl | hB
      · exact ⟨.inl hc.ext.size, by show _ < (w.heap.push _).size; simp⟩
      · exact ⟨(hlt B hB).2, by have := (hlt B hB).1; show _ < (w.heap.push _).size; simp; omega⟩)
    replace m1 : Core E w0 ok pl' FS' ⟨s.tm, hp1 ++ [.arr e l]⟩ a _ := m1
    replace m5 : VC w0 ok (hp1 ++ [.arr e l]) pl' (.hd hp1.length) _ := m5
    refine goes_value ?_ (fun b hb => m3 b (Nat.lt_of_lt_of_le hb k2.len)) m1 (by simp only [VR]; exact m5)
    have hszr : ¬ (n * i.size > 2 ^ 24) := by rw [hsz]; omega
    have hrun : (Instr.buildSlice t n (parts.map fun (i, x) => (i, a.eval x))).run P w = .ok (.slice (some ⟨w.heap.size, 0, none⟩) n n) (w.alloc (.cells A' te)) := by
      have k3' : Instr.fill (fun i => some (i * e.sz, e.sz)) ((Array.range (n * e.sz)).map fun k => (zv e).cells[k % (zv e).cells.size]!) (parts.map fun (i, x) => (i, a.eval x)).toList = some A' := by simpa using k3
      by_cases h0 : n * e.sz = 0
      · have hn0 : n = 0 := by
          rcases Nat.mul_eq_zero.1 h0 with h | h
          · exact h
          · omega
        subst hn0
        rw [Nat.zero_mul, map0] at k3
        simp only [Instr.buildSlice, Sem.run_bind, run_underlying hu, Result.andThen_ok]
        simp [sizeOf, typeInfo, hi, hsz]
        rw [map0 (fun _ => default), k3]
        simp [run_newRow]
      · simp only [Instr.buildSlice, Sem.run_bind, run_underlying hu, Result.andThen_ok]
        simp [sizeOf, typeInfo, hi, hsz, h0, zeroValue, hz, (show ¬ (16777216 < n * e.sz) by omega)]
        simp at k3'
        simp [k3', run_newRow]
    simp only [execOp, hop]
    have := run_v hrun
    simpa using this
  | call c =>
    simp only [evEff] at h
    split at h <;> try (simp only [reduceCtorEq] at h; done)
    · rename_i hcal
      split at h <;> try (simp only [reduceCtorEq] at h; done)
      rename_i x y t tx hargs hats
      have hargs' : c.args = #[x, y] := by rw [← Array.toArray_toList (xs := c.args), hargs]
      have hats' : c.argTypes = #[t, tx] := by rw [← Array.toArray_toList (xs := c.argTypes), hats]
      split at h <;> try (simp only [reduceCtorEq] at h; done)
      rename_i e hTt
      obtain ⟨te, hu, he1, hte⟩ := (hT t _ hTt).sl
      split at h <;> try (simp only [reduceCtorEq] at h; done)
      rename_i d hp1 hg
      split at h <;> simp only [reduceCtorEq, Option.some.injEq] at h
      rename_i m hp2 hsrc
      subst h
      simp only [decide_eq_true_eq] at hr
      have hx := look (some (.sl e)) x
      have hy := look (T tx) y
      obtain ⟨FS1, F, k1, k2, k3, k4⟩ := grab_sound hc (grab_sl hx hg) hg
      obtain ⟨FS2, A, Fs, j1, j2, j3, j4, j5⟩ := srcL_sound (s := ⟨s.tm, hp1⟩) hT k1 (VR.mono k2 (fun _ _ => rfl) hy) hsrc
      have hnd := nodup_iff_count.1 hc.nd
      have hmem : ∀ B, B ∈ F ∨ B ∈ Fs.flatten → (w0.heap.size ≤ B ∨ ¬ ok B) ∧ B < w.heap.size := fun B hB => by
        have h1 := k3 B
        have h2 := j5 B
        refine hc.own B (List.one_le_count_iff.1 ?_)
        rcases hB with hB | hB
        · have := List.one_le_count_iff.2 hB; omega
        · have := List.one_le_count_iff.2 hB; omega
      obtain ⟨v, w', F', hrun, how, hos, htp, hout, hwsz, hkeep, hcnt, hF'⟩ := append_run (ty := o.type) hu hte he1 k4 j3 j4 (fun B => by have := k3 B; have := j5 B; have := hnd B; omega)
        (fun B hB => (hmem B (List.mem_append.1 hB)).2) hr
      have hc3 := j1.free (G := F) hos htp hout hwsz hkeep (fun B hB => ⟨fun hm => by
        have h1 := k3 B; have h2 := j5 B; have := hnd B
        have := List.one_le_count_iff.2 hB; have := List.one_le_count_iff.2 hm; omega, (hmem B (.inl hB)).1⟩)
      have hc0 : ∀ B, w.heap.size ≤ B → FS.flatten.count B = 0 := fun B hB => List.count_eq_zero.2 fun hm => by have := (hc.own _ hm).2; omega
      obtain ⟨pl', FS', m1, m2, m3, m4, m5⟩ := mkRes_sound (t := .sl e) (d := .n (d.kids ++ m)) hc3 how (fun B => by
        have h1 := k3 B; have h2 := j5 B; have h3 := hnd B; have h4 := hcnt B
        by_cases e0 : B = w.heap.size
        · have h5 := hc0 B (by omega)
          have : [w.heap.size].count B = 1 := by rw [e0]; simp
          omega
        · have : [w.heap.size].count B = 0 := List.count_eq_zero.2 (by simpa using e0)
          omega) (fun B hB => ⟨by
          have h4 := hcnt B
          have h5 := List.one_le_count_iff.2 hB
          by_cases e0 : B = w.heap.size
          · left; rw [e0]; exact hc.ext.size
          · have : [w.heap.size].count B = 0 := List.count_eq_zero.2 (by simpa using e0)
            by_cases h6 : B ∈ F
            · exact (hmem B (.inl h6)).1
            · have := List.count_eq_zero.2 h6
              exact (hmem B (.inr (List.one_le_count_iff.1 (by omega)))).1, hF' B hB⟩)
      replace m1 : Core E w0 ok pl' FS' ⟨s.tm, hp2 ++ [.arr e (d.kids ++ m)]⟩ a w' := m1
      replace m5 : VC w0 ok (hp2 ++ [.arr e (d.kids ++ m)]) pl' (.hd hp2.length) [v] := m5
      refine goes_value ?_ (fun b hb => m3 b (Nat.lt_of_lt_of_le hb (k2.trans j2).len)) m1 (by simp only [VR]; exact m5)
      simp [execOp, hop, resolve, hcal, hargs', hats', invoke, builtin, hrun]
    · rename_i hcal
      split at h <;> try (simp only [reduceCtorEq] at h; done)
      rename_i x y t tx hargs hats
      have hargs' : c.args = #[x, y] := by rw [← Array.toArray_toList (xs := c.args), hargs]
      have hats' : c.argTypes = #[t, tx] := by rw [← Array.toArray_toList (xs := c.argTypes), hats]
      split at h <;> try (simp only [reduceCtorEq] at h; done)
      rename_i e hTt
      obtain ⟨te, hu, he1, hte⟩ := (hT t _ hTt).sl
      obtain ⟨i, hi, hz, hsz, hby, hzs⟩ := zv_info hte
      split at h <;> try (simp only [reduceCtorEq] at h; done)
      rename_i hns
      split at h <;> try (simp only [reduceCtorEq] at h; done)
      rename_i b hva
      split at h <;> try (simp only [reduceCtorEq] at h; done)
      rename_i e' l hb
      split at h <;> try (simp only [reduceCtorEq] at h; done)
      rename_i hbeq
      have := Ty.eq_of_beq _ _ hbeq
      subst this
      split at h <;> simp only [reduceCtorEq, Option.some.injEq] at h
      rename_i m hp2 hsrc
      subst h
      have hx := look (some (.sl e)) x
      have hy := look (T tx) y
      rw [hva] at hx
      obtain ⟨FS2, A, Fs, j1, j2, j3, j4, j5⟩ := srcL_sound hT hc hy hsrc
      simp only [decide_eq_true_eq] at hr
      exact copy_goes hc hop hcal hargs' hats' hu hi hsz hns hb hx j3 j4 hr
  | _ => simp [evEff] at h
  where
  run_typeInfo_some' {P : Program} {w : World} {t : TypeId} {i : TypeInfo} (h : P.info? t = some i) : (typeInfo t).run P w = .ok i w := by simp [typeInfo, h]
end
end Go.Ev
