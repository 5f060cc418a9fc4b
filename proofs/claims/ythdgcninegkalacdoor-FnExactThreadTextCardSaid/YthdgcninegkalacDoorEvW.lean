/-
  Regions whose order is open: whatever order comes up, it ends as the order of the text.
-/
import Derived.Test.YthdgcninegkalacDoorEvN
namespace Go.Ev
open List (nodup_iff_count)

/-! ### What an operation sees of the slots and the rows -/
section
variable {T : TypeId → Option Ty} {C : FuncId → Option Sig} {tm tm' : List V} {hp hp' : List Blk}

/-- The slots that an operation looks at are the same. -/
def SameT (tm tm' : List V) (l : List Nat) : Prop := ∀ t ∈ l, tm'.getD t .u = tm.getD t .u

theorem look_same {o : Op} (h : SameT tm tm' (opTmps o)) {x : Operand} (hx : x ∈ o.operands.toList) (c : Option (Nat × Bool)) (t : Option Ty) : look c tm' t x = look c tm t x := by
  cases x with
  | tmp n =>
    simp only [look]
    exact h n (by simp only [opTmps, List.mem_filterMap]; exact ⟨_, hx, rfl⟩)
  | _ => rfl

theorem opRefs_same {o : Op} (h : SameT tm tm' (opTmps o)) : opRefs tm' o = opRefs tm o := by
  unfold opRefs
  simp only [List.flatMap]
  congr 1
  exact List.map_congr_left fun t ht => by rw [h t ht]

theorem buildV_tm {fs : List Ty} : ∀ {parts : List (Nat × Operand)} {l : List V}, (∀ x ∈ parts.map (·.2), ∀ t, look none tm' t x = look none tm t x) → buildV none tm' fs parts l = buildV none tm fs parts l
  | [], _, _ => rfl
  | (i, x) :: r, l, h => by
    simp only [buildV]
    have h1 := h x (by simp)
    have h2 := fun l => buildV_tm (fs := fs) (parts := r) (l := l) fun y hy => h y (by simp only [List.map_cons, List.mem_cons]; exact .inr hy)
    simp only [h1, h2]
theorem fillL_tm {e : Ty} : ∀ {parts : List (Nat × Operand)} {l : List Dat} {hp : List Blk}, (∀ x ∈ parts.map (·.2), ∀ t, look none tm' t x = look none tm t x) → fillL tm' e parts l hp = fillL tm e parts l hp
  | [], _, _, _ => rfl
  | (i, x) :: r, l, hp, h => by
    simp only [fillL]
    have h1 := h x (by simp)
    have h2 := fun l hp => fillL_tm (e := e) (parts := r) (l := l) (hp := hp) fun y hy => h y (by simp only [List.map_cons, List.mem_cons]; exact .inr hy)
    simp only [h1, h2]

theorem evPure_tm {ty : TypeId} {o : Op} (h : SameT tm tm' (opTmps o)) : evPure T none tm' hp ty o = evPure T none tm hp ty o := by
  have L := fun (x : Operand) (hx : x ∈ o.operands.toList) (t : Option Ty) => look_same h hx none t
  cases o with
  | pick c a b =>
    have Lc := look_same h (x := c) (by simp [Op.operands])
    have La := look_same h (x := a) (by simp [Op.operands])
    have Lb := look_same h (x := b) (by simp [Op.operands])
    cases c with
    | tmp n =>
      have := Lc none none
      simp only [look] at this
      simp only [evPure, this, La, Lb]
    | _ => rfl
  | call c =>
    simp only [evPure]
    split
    · split
      · rename_i x hx
        have := L x (by simp [Op.operands, Call.operands, hx]) none
        simp only [this]
      · rfl
    · split
      · rename_i x y hx
        simp only [L x (by simp [Op.operands, Call.operands, hx]), L y (by simp [Op.operands, Call.operands, hx])]
      · rfl
    · split
      · rename_i x y hx
        simp only [L x (by simp [Op.operands, Call.operands, hx]), L y (by simp [Op.operands, Call.operands, hx])]
      · rfl
    · rfl
  | build t parts =>
    simp only [evPure]
    have hb : ∀ fs l, buildV none tm' fs parts.toList l = buildV none tm fs parts.toList l := fun fs l => buildV_tm (fun x hx t => L x (by
      simp only [Op.operands, Array.toList_map, List.mem_map]; simpa using hx) t)
    simp only [hb]
  | slice t x lo hi mx =>
    cases mx with
    | some _ => rfl
    | none =>
    have hb : ∀ (d : Int) (o : Option Operand), (o = lo ∨ o = hi) → bnd none tm' d o = bnd none tm d o := by
      intro d o ho
      cases o with
      | none => rfl
      | some z => simp only [bnd]; rw [L z (by rcases ho with e | e <;> simp [Op.operands, ← e])]
    simp only [evPure, L x (by simp [Op.operands]), hb _ lo (.inl rfl), hb _ hi (.inr rfl)]
  | move x => simp only [evPure, L x (by simp [Op.operands])]
  | assign x => simp only [evPure, L x (by simp [Op.operands])]
  | load t x => simp only [evPure, L x (by simp [Op.operands])]
  | nilCheck x => simp only [evPure, L x (by simp [Op.operands])]
  | fieldAddr s x f => simp only [evPure, L x (by simp [Op.operands])]
  | indexAddr t x i => simp only [evPure, L x (by simp [Op.operands]), L i (by simp [Op.operands])]
  | index t x i => simp only [evPure, L x (by simp [Op.operands]), L i (by simp [Op.operands])]
  | field t x f => simp only [evPure, L x (by simp [Op.operands])]
  | extract x i => simp only [evPure, L x (by simp [Op.operands])]
  | binOp op xt x y yt => simp only [evPure, L x (by simp [Op.operands]), L y (by simp [Op.operands])]
  | unOp op xt x => simp only [evPure, L x (by simp [Op.operands])]
  | convert a b x => simp only [evPure, L x (by simp [Op.operands])]
  | _ => rfl

theorem evCall_tm {o : Op} (h : SameT tm tm' (opTmps o)) : evCall C none tm' hp o = evCall C none tm hp o := by
  cases o with
  | call c =>
    simp only [evCall]
    split
    · split
      · rename_i f _ s _
        have : ((c.args.toList.zip s.ps).map fun x => look none tm' (some x.2) x.1) = (c.args.toList.zip s.ps).map fun x => look none tm (some x.2) x.1 :=
          List.map_congr_left fun x hx => look_same h (by
            have := (List.of_mem_zip hx).1
            simp only [Op.operands, Call.operands, Array.toList_append, List.mem_append]
            exact .inr this) none _
        rw [this]
      · rfl
    · rfl
  | _ => rfl

theorem evEff_tm {o : Op} (h : SameT tm tm' (opTmps o)) : evEff T tm' hp o = evEff T tm hp o := by
  have L := fun (x : Operand) (hx : x ∈ o.operands.toList) (t : Option Ty) => look_same h hx none t
  cases o with
  | store t a x => simp only [evEff, L a (by simp [Op.operands]), L x (by simp [Op.operands])]
  | box t x => simp only [evEff, L x (by simp [Op.operands])]
  | alloc t => rfl
  | makeSlice t l c => simp only [evEff, L l (by simp [Op.operands]), L c (by simp [Op.operands])]
  | buildSlice t n parts =>
    simp only [evEff]
    have hb : ∀ e l, fillL tm' e parts.toList l hp = fillL tm e parts.toList l hp := fun e l => fillL_tm (fun x hx t => L x (by
      simp only [Op.operands]; simpa using hx) t)
    simp only [hb]
  | call c =>
    simp only [evEff]
    split
    · split
      · rename_i x y t t' hx hy
        simp only [L x (by simp [Op.operands, Call.operands, hx]), L y (by simp [Op.operands, Call.operands, hx])]
      · rfl
    · split
      · rename_i x y t t' hx hy
        simp only [L x (by simp [Op.operands, Call.operands, hx]), L y (by simp [Op.operands, Call.operands, hx])]
      · rfl
    · rfl
  | _ => rfl

theorem evOp_tm {ty : TypeId} {o : Op} (h : SameT tm tm' (opTmps o)) : evOp T C tm' hp ty o = evOp T C tm hp ty o := by
  unfold evOp
  rw [evPure_tm h, evCall_tm h, evEff_tm h]

mutual
theorem argD_hp : ∀ {t : Ty} {v : V}, (∀ b ∈ V.refs v, getB hp' b = getB hp b) → argD hp' t v = argD hp t v
  | .int _, v, _ => by cases v <;> rfl
  | .bool, v, _ => by cases v <;> rfl
  | .str, v, _ => by cases v <;> rfl
  | .sl e, v, h => by
    cases v <;> try rfl
    all_goals (simp [V.refs, Ev.refs] at h; simp only [argD, h])
  | .st fs, v, h => by
    cases v <;> try rfl
    rename_i l
    simp only [V.refs] at h
    simp only [argD, argDs_hp (ts := fs) h]
theorem argDs_hp : ∀ {ts : List Ty} {l : List V}, (∀ b ∈ V.refss l, getB hp' b = getB hp b) → argDs hp' ts l = argDs hp ts l
  | [], l, _ => by cases l <;> rfl
  | t :: ts, [], _ => rfl
  | t :: ts, v :: l, h => by
    simp only [V.refss, List.mem_append] at h
    simp only [argDs, argD_hp (t := t) fun b hb => h b (.inl hb), argDs_hp (ts := ts) fun b hb => h b (.inr hb)]
end

/-- The rows that an operation reads are the same. -/
theorem evPure_hp {ty : TypeId} {o : Op} (h : ∀ b ∈ opRefs tm o, getB hp' b = getB hp b) : evPure T none tm hp' ty o = evPure T none tm hp ty o := by
  have key : ∀ (x : Operand) (t : Option Ty) (b : Nat), x ∈ o.operands.toList → b ∈ V.refs (look none tm t x) → t = none → getB hp' b = getB hp b := by
    intro x t b hx hb ht
    subst ht
    cases x with
    | tmp n =>
      simp only [look] at hb
      exact h b (by simp only [opRefs, opTmps, List.mem_flatMap, List.mem_filterMap]; exact ⟨n, ⟨_, hx, rfl⟩, hb⟩)
    | const v =>
      exfalso
      simp only [look] at hb
      cases v <;> simp only [ofVal] at hb <;> try (simp [V.refs, Ev.refs] at hb; done)
      split at hb <;> simp [V.refs, Ev.refs] at hb
    | _ => simp [look, V.refs, Ev.refs] at hb
  cases o with
  | load t x =>
    simp only [evPure]
    have hk := fun b => key x none b (by simp [Op.operands])
    generalize look none tm none x = v at hk ⊢
    cases v <;> try rfl
    all_goals (simp [V.refs, Ev.refs] at hk; simp only [hk])
  | nilCheck x =>
    simp only [evPure]
    have hk := fun b => key x none b (by simp [Op.operands])
    generalize look none tm none x = v at hk ⊢
    cases v <;> try rfl
    all_goals (simp [V.refs, Ev.refs] at hk; simp only [hk])
  | fieldAddr s x f =>
    simp only [evPure]
    have hk := fun b => key x none b (by simp [Op.operands])
    generalize look none tm none x = v at hk ⊢
    cases v <;> try rfl
    all_goals (simp [V.refs, Ev.refs] at hk; simp only [hk])
  | indexAddr t x i =>
    simp only [evPure]
    have hk := fun b => key x none b (by simp [Op.operands])
    generalize look none tm none x = v at hk ⊢
    cases v <;> try rfl
    all_goals (simp [V.refs, Ev.refs] at hk; simp only [hk])
  | call c =>
    simp only [evPure]
    split
    · split
      · rename_i x hx
        have hk := fun b => key x none b (by simp [Op.operands, Call.operands, hx])
        generalize look none tm none x = v at hk ⊢
        cases v <;> try rfl
        all_goals (simp [V.refs, Ev.refs] at hk; simp only [hk])
      · rfl
    all_goals rfl
  | convert a b x =>
    have hk := fun b => key x none b (by simp [Op.operands])
    have ha := argD_hp (hp := hp) (hp' := hp') (t := .sl (.int .u8)) (v := look none tm none x) fun b hb => hk b hb rfl
    simp only [evPure]
    generalize look none tm none x = v at ha ⊢
    split <;> first | rfl | rw [ha]
  | slice t x lo hi mx =>
    cases mx with
    | some _ => rfl
    | none =>
    simp only [evPure]
    have hk := fun b => key x none b (by simp [Op.operands])
    generalize look none tm none x = v at hk ⊢
    cases v <;> try rfl
    all_goals (simp [V.refs, Ev.refs] at hk; simp only [hk])
  | _ => rfl

/-! ### What an operation turns -/
mutual
theorem mkRes_h : ∀ (t : Ty) (d : Dat) (h : List Blk), ∃ l, (mkRes t d h).2 = h ++ l
  | .int _, _, h | .bool, _, h | .str, _, h => ⟨[], by simp [mkRes]⟩
  | .sl e, d, h => ⟨_, rfl⟩
  | .st fs, d, h => by simp only [mkRes]; exact mkRess_h fs 0 d h
theorem mkRess_h : ∀ (ts : List Ty) (j : Nat) (d : Dat) (h : List Blk), ∃ l, (mkRess ts j d h).2 = h ++ l
  | [], _, _, h => ⟨[], by simp [mkRess]⟩
  | t :: ts, j, d, h => by
    obtain ⟨l1, e1⟩ := mkRes_h t (d.fld j) h
    obtain ⟨l2, e2⟩ := mkRess_h ts (j + 1) d (mkRes t (d.fld j) h).2
    exact ⟨l1 ++ l2, by simp only [mkRess]; rw [e2, e1, List.append_assoc]⟩
end

/-- What handing on gives up: rows that are named. -/
def Kills (v : V) (h h' : List Blk) : Prop := h'.length = h.length ∧ ∀ b, getB h' b = getB h b ∨ (b ∈ V.refs v ∧ ∃ e l, getB h b = .arr e l)
def Killss (l : List V) (h h' : List Blk) : Prop := h'.length = h.length ∧ ∀ b, getB h' b = getB h b ∨ (b ∈ V.refss l ∧ ∃ e l, getB h b = .arr e l)
mutual
theorem grab_kills : ∀ {t : Ty} {v : V} {h : List Blk} {d : Dat} {h' : List Blk}, grab t v h = some (d, h') → Kills v h h'
  | .int k, v, h, d, h', hg => by
    cases v <;> simp only [grab, reduceCtorEq] at hg
    split at hg <;> simp only [reduceCtorEq, Option.some.injEq, Prod.mk.injEq] at hg
    obtain ⟨_, rfl⟩ := hg
    exact ⟨rfl, fun b => .inl rfl⟩
  | .bool, v, h, d, h', hg => by
    cases v <;> simp only [grab, reduceCtorEq, Option.some.injEq, Prod.mk.injEq] at hg
    obtain ⟨_, rfl⟩ := hg
    exact ⟨rfl, fun b => .inl rfl⟩
  | .str, v, h, d, h', hg => by
    cases v <;> simp only [grab, reduceCtorEq, Option.some.injEq, Prod.mk.injEq] at hg
    obtain ⟨_, rfl⟩ := hg
    exact ⟨rfl, fun b => .inl rfl⟩
  | .sl e, v, h, d, h', hg => by
    cases v <;> simp only [grab, reduceCtorEq] at hg
    case nil =>
      simp only [Option.some.injEq, Prod.mk.injEq] at hg
      obtain ⟨_, rfl⟩ := hg
      exact ⟨rfl, fun b => .inl rfl⟩
    case hd b =>
      cases hb : getB h b with
      | dead => simp [hb] at hg
      | box _ => simp [hb] at hg
      | arr e' l =>
        simp only [hb] at hg
        split at hg <;> simp only [reduceCtorEq, Option.some.injEq, Prod.mk.injEq] at hg
        obtain ⟨_, rfl⟩ := hg
        refine ⟨by simp, fun b' => ?_⟩
        by_cases e : b = b'
        · subst e; exact .inr ⟨by simp [V.refs, Ev.refs], e', l, hb⟩
        · exact .inl (getB_set_ne e _)
    case hs b lo len =>
      cases hb : getB h b with
      | dead => simp [hb] at hg
      | box _ => simp [hb] at hg
      | arr e' l =>
        simp only [hb] at hg
        split at hg <;> simp only [reduceCtorEq, Option.some.injEq, Prod.mk.injEq] at hg
        obtain ⟨_, rfl⟩ := hg
        refine ⟨by simp, fun b' => ?_⟩
        by_cases e : b = b'
        · subst e; exact .inr ⟨by simp [V.refs, Ev.refs], e', l, hb⟩
        · exact .inl (getB_set_ne e _)
  | .st fs, v, h, d, h', hg => by
    cases v <;> simp only [grab, reduceCtorEq] at hg
    rename_i l
    cases hgs : grabs fs l h with
    | none => simp [hgs] at hg
    | some x =>
      obtain ⟨ds, h2⟩ := x
      simp only [hgs, Option.some.injEq, Prod.mk.injEq] at hg
      obtain ⟨_, rfl⟩ := hg
      have := grabs_kills hgs
      simpa only [Kills, Killss, V.refs] using this
theorem grabs_kills : ∀ {ts : List Ty} {l : List V} {h : List Blk} {ds : List Dat} {h' : List Blk}, grabs ts l h = some (ds, h') → Killss l h h'
  | [], l, h, ds, h', hg => by
    cases l <;> simp only [grabs, reduceCtorEq, Option.some.injEq, Prod.mk.injEq] at hg
    obtain ⟨_, rfl⟩ := hg
    exact ⟨rfl, fun b => .inl rfl⟩
  | t :: ts, l, h, ds, h', hg => by
    cases l with
    | nil => simp only [grabs, reduceCtorEq] at hg
    | cons v l =>
      simp only [grabs] at hg
      cases h1 : grab t v h with
      | none => simp [h1] at hg
      | some x =>
        obtain ⟨d1, hp1⟩ := x
        simp only [h1] at hg
        cases h2 : grabs ts l hp1 with
        | none => simp [h2] at hg
        | some y =>
          obtain ⟨ds1, hp2⟩ := y
          simp only [h2, Option.some.injEq, Prod.mk.injEq] at hg
          obtain ⟨_, rfl⟩ := hg
          obtain ⟨l1, k1⟩ := grab_kills h1
          obtain ⟨l2, k2⟩ := grabs_kills h2
          refine ⟨l2.trans l1, fun b => ?_⟩
          rcases k2 b with e2 | ⟨m2, e', l', e2⟩
          · rcases k1 b with e1 | ⟨m1, e', l', e1⟩
            · exact .inl (e2.trans e1)
            · exact .inr ⟨by simp only [V.refss, List.mem_append]; exact .inl m1, e', l', e1⟩
          · rcases k1 b with e1 | ⟨m1, e'', l'', e1⟩
            · exact .inr ⟨by simp only [V.refss, List.mem_append]; exact .inr m2, e', l', e1 ▸ e2⟩
            · exact .inr ⟨by simp only [V.refss, List.mem_append]; exact .inl m1, e'', l'', e1⟩
end

theorem getB_append {h l : List Blk} {b : Nat} (hb : b < h.length) : getB (h ++ l) b = getB h b := by
  simp [getB, List.getD_eq_getElem?_getD, List.getElem?_append_left hb]
theorem getB_ge {h : List Blk} {b : Nat} (hb : h.length ≤ b) : getB h b = .dead := by
  rw [getB, List.getD_eq_getElem?_getD, List.getElem?_eq_none hb]; rfl
theorem getB_append_out {h l : List Blk} {b : Nat} (hb : b ∉ List.range' h.length ((h ++ l).length - h.length)) : getB (h ++ l) b = getB h b := by
  rcases Nat.lt_or_ge b h.length with h1 | h1
  · exact getB_append h1
  · have : (h ++ l).length ≤ b := by
      rcases Nat.lt_or_ge b (h ++ l).length with h2 | h2
      · exfalso; apply hb
        rw [List.mem_range'_1]; omega
      · exact h2
    rw [getB_ge h1, getB_ge this]

section
variable {T : TypeId → Option Ty} {C : FuncId → Option Sig} {tm : List V} {hp : List Blk}

theorem opRefs_of {o : Op} {x : Operand} (hx : x ∈ o.operands.toList) {t : Option Ty} {b : Nat} (hb : b ∈ V.refs (look none tm t x)) (hm : ∀ v, x = .const v → V.refs (ofVal t v) = []) : b ∈ opRefs tm o := by
  cases x with
  | tmp n =>
    simp only [look] at hb
    simp only [opRefs, opTmps, List.mem_flatMap, List.mem_filterMap]
    exact ⟨n, ⟨_, hx, rfl⟩, hb⟩
  | const v => simp only [look] at hb; rw [hm v rfl] at hb; cases hb
  | _ => simp [look, V.refs, Ev.refs] at hb

mutual
theorem cellsV_refs : ∀ (t : Ty) (r : List Value) {v : V} {r' : List Value}, cellsV t r = some (v, r') → V.refs v = []
  | .int k, r, v, r', h => by
    simp only [cellsV] at h
    split at h <;> try (simp only [reduceCtorEq] at h; done)
    split at h <;> simp only [reduceCtorEq, Option.some.injEq, Prod.mk.injEq] at h
    obtain ⟨rfl, _⟩ := h; rfl
  | .bool, r, v, r', h => by
    simp only [cellsV] at h
    split at h <;> simp only [reduceCtorEq, Option.some.injEq, Prod.mk.injEq] at h
    obtain ⟨rfl, _⟩ := h; rfl
  | .str, r, v, r', h => by
    simp only [cellsV] at h
    split at h <;> simp only [reduceCtorEq, Option.some.injEq, Prod.mk.injEq] at h
    obtain ⟨rfl, _⟩ := h; rfl
  | .sl _, r, v, r', h => by
    simp only [cellsV] at h
    split at h <;> simp only [reduceCtorEq, Option.some.injEq, Prod.mk.injEq] at h
    obtain ⟨rfl, _⟩ := h; rfl
  | .st fs, r, v, r', h => by
    simp only [cellsV] at h
    split at h <;> simp only [reduceCtorEq, Option.some.injEq, Prod.mk.injEq] at h
    rename_i l r'' hl
    obtain ⟨rfl, _⟩ := h
    simp only [V.refs]
    exact cellsVs_refs fs r hl
theorem cellsVs_refs : ∀ (ts : List Ty) (r : List Value) {l : List V} {r' : List Value}, cellsVs ts r = some (l, r') → V.refss l = []
  | [], r, l, r', h => by
    simp only [cellsVs, Option.some.injEq, Prod.mk.injEq] at h
    obtain ⟨rfl, _⟩ := h; rfl
  | t :: ts, r, l, r', h => by
    simp only [cellsVs] at h
    split at h <;> try (simp only [reduceCtorEq] at h; done)
    rename_i v r1 h1
    split at h <;> simp only [reduceCtorEq, Option.some.injEq, Prod.mk.injEq] at h
    rename_i l1 r2 h2
    obtain ⟨rfl, _⟩ := h
    simp only [V.refss, cellsV_refs t r h1, cellsVs_refs ts r1 h2, List.append_nil]
end
theorem ofVal_refs (t : Option Ty) (v : Value) : V.refs (ofVal t v) = [] := by
  unfold ofVal
  split <;> try rfl
  split <;> try rfl
  split <;> try rfl
  rename_i h
  exact cellsV_refs _ _ h

/-- Rows of a set may be given up. -/
def KillsIn (S : Nat → Prop) (h h' : List Blk) : Prop := h'.length = h.length ∧ ∀ b, getB h' b = getB h b ∨ (S b ∧ ∃ e l, getB h b = .arr e l)
theorem KillsIn.refl (S : Nat → Prop) (h : List Blk) : KillsIn S h h := ⟨rfl, fun _ => .inl rfl⟩
theorem KillsIn.trans {S : Nat → Prop} {h h' h'' : List Blk} (a : KillsIn S h h') (b : KillsIn S h' h'') : KillsIn S h h'' := by
  refine ⟨b.1.trans a.1, fun x => ?_⟩
  rcases b.2 x with e | ⟨hs, e, l, he⟩
  · rcases a.2 x with e1 | e1
    · exact .inl (e.trans e1)
    · exact .inr e1
  · rcases a.2 x with e1 | e1
    · exact .inr ⟨hs, e, l, by rw [← e1]; exact he⟩
    · exact .inr e1
theorem Kills.in {S : Nat → Prop} {v : V} {h h' : List Blk} (k : Kills v h h') (hs : ∀ b ∈ V.refs v, S b) : KillsIn S h h' :=
  ⟨k.1, fun b => (k.2 b).imp id fun ⟨h1, h2⟩ => ⟨hs b h1, h2⟩⟩
theorem fillL_kills {S : Nat → Prop} {e : Ty} : ∀ {parts : List (Nat × Operand)} {l l' : List Dat} {h h' : List Blk}, fillL tm e parts l h = some (l', h') → (∀ x ∈ parts.map (·.2), ∀ b ∈ V.refs (look none tm (some e) x), S b) → KillsIn S h h'
  | [], l, l', h, h', hf, _ => by simp only [fillL, Option.some.injEq, Prod.mk.injEq] at hf; rw [← hf.2]; exact KillsIn.refl S _
  | (i, x) :: r, l, l', h, h', hf, hs => by
    simp only [fillL] at hf
    split at hf <;> try (simp only [reduceCtorEq] at hf; done)
    rename_i d h1 hg
    split at hf <;> try (simp only [reduceCtorEq] at hf; done)
    exact ((grab_kills hg).in (hs x (by simp))).trans (fillL_kills hf fun y hy => hs y (by simp only [List.map_cons, List.mem_cons]; exact .inr hy))
theorem srcL_kills {S : Nat → Prop} {t : Option Ty} {e : Ty} {v : V} {m : List Dat} {h h' : List Blk} (hf : srcL t e v h = some (m, h')) (hs : ∀ b ∈ V.refs v, S b) : KillsIn S h h' := by
  unfold srcL at hf
  split at hf <;> try (simp only [reduceCtorEq] at hf; done)
  · split at hf <;> simp only [reduceCtorEq, Option.some.injEq, Prod.mk.injEq] at hf
    rw [← hf.2]; exact KillsIn.refl S _
  · split at hf
    · split at hf <;> simp only [reduceCtorEq, Option.some.injEq, Prod.mk.injEq] at hf
      rw [← hf.2]; exact KillsIn.refl S _
    · split at hf <;> simp only [reduceCtorEq, Option.some.injEq, Prod.mk.injEq] at hf
      rename_i d h1 hg
      rw [← hf.2]; exact (grab_kills hg).in hs

/-- What an operation turns. -/
theorem evOp_frame {ty : TypeId} {o : Op} {r : R} (h : evOp T C tm hp ty o = some r) (hp' : evPure T none tm hp ty o = none) :
    (∀ b, b ∉ wrOf tm hp.length o r.h.length → getB r.h b = getB hp b) ∧ (∀ b v, getB hp b = .box v → (∀ t a x, o = .store t a x → ∀ p off, look none tm none a ≠ .pt b p off) → getB r.h b = .box v) := by
  have app : ∀ l, r.h = hp ++ l → (∀ b, b ∉ wrOf tm hp.length o r.h.length → getB r.h b = getB hp b) ∧ (∀ b v, getB hp b = .box v → (∀ t a x, o = .store t a x → ∀ p off, look none tm none a ≠ .pt b p off) → getB r.h b = .box v) := by
    intro l e
    refine ⟨fun b hb => ?_, fun b v hv _ => ?_⟩
    · rw [e]
      refine getB_append_out fun hm => hb ?_
      rw [← e] at hm
      simp only [wrOf, List.mem_append]; exact .inr hm
    · rw [e, getB_append (getB_lt (by rw [hv]; simp))]; exact hv
  have kapp : ∀ (h1 : List Blk) (x : Blk), KillsIn (fun b => b ∈ wrOf tm hp.length o r.h.length) hp h1 → r.h = h1 ++ [x] →
      (∀ b, b ∉ wrOf tm hp.length o r.h.length → getB r.h b = getB hp b) ∧ (∀ b v, getB hp b = .box v → (∀ t a x, o = .store t a x → ∀ p off, look none tm none a ≠ .pt b p off) → getB r.h b = .box v) := by
    intro h1 x hk e
    refine ⟨fun b hb => ?_, fun b v hv _ => ?_⟩
    · rw [e, getB_append_out (l := [x]) (fun hm => hb ?_)]
      · rcases hk.2 b with e1 | ⟨h2, _⟩
        · exact e1
        · exact absurd h2 hb
      · rw [← e, hk.1] at hm
        simp only [wrOf, List.mem_append]; exact .inr hm
    · have hlt : b < h1.length := by rw [hk.1]; exact getB_lt (by rw [hv]; simp)
      rw [e, getB_append hlt]
      rcases hk.2 b with e1 | ⟨_, e', l', e1⟩
      · rw [e1]; exact hv
      · rw [hv] at e1; cases e1
  unfold evOp at h
  simp only [hp'] at h
  cases hc : evCall C none tm hp o with
  | some r' =>
    simp only [hc, Option.some.injEq] at h
    subst h
    obtain ⟨c, f, sg, ds, _, _, _, _, _, _, hres⟩ := evCall_spec hc
    rcases hres with ⟨t, _, er⟩ | ⟨_, _, eh⟩
    · obtain ⟨l, hl⟩ := mkRes_h t ((sg.res ds).getD 0 (.n [])) hp
      exact app l (by rw [← hl, ← er])
    · obtain ⟨l, hl⟩ := mkRess_h sg.rs 0 (.n (sg.res ds)) hp
      exact app l (by rw [eh, hl])
  | none =>
    simp only [hc] at h
    cases o with
    | box t x =>
      simp only [evEff] at h
      split at h <;> try (simp only [reduceCtorEq] at h; done)
      split at h <;> simp only [reduceCtorEq, Option.some.injEq] at h
      subst h
      exact app _ rfl
    | alloc t =>
      simp only [evEff] at h
      split at h <;> simp only [reduceCtorEq, Option.some.injEq] at h
      subst h
      exact app _ rfl
    | makeSlice t l c =>
      simp only [evEff] at h
      split at h <;> try (simp only [reduceCtorEq] at h; done)
      split at h <;> simp only [reduceCtorEq, Option.some.injEq] at h
      subst h
      exact app _ rfl
    | store t a x =>
      simp only [evEff] at h
      split at h <;> try (simp only [reduceCtorEq] at h; done)
      rename_i ty' _
      have hopa : ∀ b p off, look none tm none a = .pt b p off → b ∈ opRefs tm (.store t a x) := fun b p off e => opRefs_of (x := a) (t := none) (by simp [Op.operands]) (by rw [e]; simp [V.refs, Ev.refs]) (fun v _ => ofVal_refs _ v)
      have hopa2 : ∀ b i p off, look none tm none a = .ap b i p off → b ∈ opRefs tm (.store t a x) := fun b i p off e => opRefs_of (x := a) (t := none) (by simp [Op.operands]) (by rw [e]; simp [V.refs, Ev.refs]) (fun v _ => ofVal_refs _ v)
      have hopx : ∀ b, b ∈ V.refs (look none tm (some ty') x) → b ∈ opRefs tm (.store t a x) := fun b hb => opRefs_of (x := x) (by simp [Op.operands]) hb (fun v _ => ofVal_refs _ v)
      split at h
      · rename_i b0 p off ha
        split at h <;> try (simp only [reduceCtorEq] at h; done)
        split at h <;> try (simp only [reduceCtorEq] at h; done)
        split at h <;> simp only [reduceCtorEq, Option.some.injEq] at h
        subst h
        refine ⟨fun b hb => ?_, fun b v hv hne => ?_⟩
        · refine getB_set_ne (fun e => hb ?_) _
          subst e
          simp only [wrOf, List.mem_append]; exact .inl (hopa _ _ _ ha)
        · rw [getB_set_ne (fun e => hne t a x rfl p off (by rw [ha, e])) _]; exact hv
      · rename_i b0 i p off ha
        split at h <;> try (simp only [reduceCtorEq] at h; done)
        rename_i d hp1 hg
        obtain ⟨hlen, hk⟩ := grab_kills hg
        split at h <;> try (simp only [reduceCtorEq] at h; done)
        rename_i e l hb0
        split at h <;> try (simp only [reduceCtorEq] at h; done)
        split at h <;> simp only [reduceCtorEq, Option.some.injEq] at h
        subst h
        refine ⟨fun b hb => ?_, fun b v hv _ => ?_⟩
        · have hb1 : b ∉ opRefs tm (.store t a x) := fun hm => hb (by simp only [wrOf, List.mem_append]; exact .inl hm)
          rw [getB_set_ne (fun e => hb1 (by rw [← e]; exact hopa2 _ _ _ _ ha)) _]
          rcases hk b with e | ⟨hm, _⟩
          · exact e
          · exact absurd (hopx b hm) hb1
        · have hne : b0 ≠ b := by
            intro e; subst e
            rcases hk b0 with e1 | ⟨_, e', l', e1⟩
            · rw [e1, hv] at hb0; cases hb0
            · rw [hv] at e1; cases e1
          rw [getB_set_ne hne]
          rcases hk b with e1 | ⟨_, e', l', e1⟩
          · rw [e1]; exact hv
          · rw [hv] at e1; cases e1
      · simp only [reduceCtorEq] at h
    | buildSlice t n parts =>
      simp only [evEff] at h
      split at h <;> try (simp only [reduceCtorEq] at h; done)
      split at h <;> try (simp only [reduceCtorEq] at h; done)
      split at h <;> simp only [reduceCtorEq, Option.some.injEq] at h
      rename_i e _ _ _ l h1 hf
      subst h
      refine kapp h1 _ (fillL_kills hf fun x hx b hb => ?_) rfl
      simp only [wrOf, List.mem_append]
      exact .inl (opRefs_of (by simp only [Op.operands]; simpa using hx) hb (fun v _ => ofVal_refs _ v))
    | call c =>
      simp only [evEff] at h
      split at h <;> try (simp only [reduceCtorEq] at h; done)
      · rename_i hcal
        split at h <;> try (simp only [reduceCtorEq] at h; done)
        rename_i x y t t' hx hy
        split at h <;> try (simp only [reduceCtorEq] at h; done)
        split at h <;> try (simp only [reduceCtorEq] at h; done)
        rename_i e _ _ d h1 hg
        split at h <;> simp only [reduceCtorEq, Option.some.injEq] at h
        rename_i m h2 hs
        subst h
        have hop : ∀ (z : Operand) (tz : Option Ty) (b : Nat), (z = x ∨ z = y) → b ∈ V.refs (look none tm tz z) → b ∈ wrOf tm hp.length (.call c) (h2 ++ [Blk.arr e (d.kids ++ m)]).length := fun z tz b hz hb => by
          simp only [wrOf, List.mem_append, hcal]
          exact .inl (opRefs_of (by rcases hz with rfl | rfl <;> simp [Op.operands, Call.operands, hx]) hb (fun v _ => ofVal_refs _ v))
        exact kapp h2 _ (((grab_kills hg).in fun b hb => hop x _ b (.inl rfl) hb).trans (srcL_kills hs fun b hb => hop y _ b (.inr rfl) hb)) rfl
      · rename_i hcal
        split at h <;> try (simp only [reduceCtorEq] at h; done)
        rename_i x y t t' hx hy
        split at h <;> try (simp only [reduceCtorEq] at h; done)
        split at h <;> try (simp only [reduceCtorEq] at h; done)
        split at h <;> try (simp only [reduceCtorEq] at h; done)
        rename_i b0 hva
        split at h <;> try (simp only [reduceCtorEq] at h; done)
        rename_i e' l hb0
        split at h <;> try (simp only [reduceCtorEq] at h; done)
        split at h <;> simp only [reduceCtorEq, Option.some.injEq] at h
        subst h
        refine ⟨fun b hb => getB_set_ne (fun e0 => hb ?_) _, fun b v hv _ => ?_⟩
        · subst e0
          simp only [wrOf, List.mem_append, hcal]
          exact .inl (opRefs_of (x := x) (by simp [Op.operands, Call.operands, hx]) (by rw [hva]; simp [V.refs, Ev.refs]) (fun v _ => ofVal_refs _ v))
        · have hne : b0 ≠ b := by intro e0; subst e0; rw [hv] at hb0; cases hb0
          rw [getB_set_ne hne]; exact hv
    | _ => simp [evEff] at h
end

/-! ### One operation of an open order -/
section
variable (T : TypeId → Option Ty) (C : FuncId → Option Sig) (ops : Array Oper)

def wantedA (o : Oper) (s : St) : Option Bool :=
  match o.guard with
  | none => some true
  | some (j, w) =>
    match (ops[j]?).bind (·.dst) with
    | some t => match s.tm.getD t .u with | .bool b => some (b == w) | .tup _ => some false | _ => none
    | none => none

def Exec (res : Nat) (o : Oper) (s : St) (p : Bool) (rd wr : List Nat) (s' : St) : Prop :=
  (∃ t ty, isAlloc o = some t ∧ T t = some ty ∧ p = true ∧ rd = [] ∧ wr = [] ∧ s' = ⟨putT s.tm o.dst (.pt res [] 0), s.hp⟩) ∨
  (isAlloc o = none ∧ ∃ r, evPure T none s.tm s.hp o.type o.op = some r ∧ r.1 = true ∧ p = true ∧ rd = opRefs s.tm o.op ∧ wr = [] ∧ s' = ⟨putT s.tm o.dst r.2, s.hp⟩) ∨
  (isAlloc o = none ∧ evPure T none s.tm s.hp o.type o.op = none ∧ ∃ r, evOp T C s.tm s.hp o.type o.op = some r ∧ r.c = true ∧ p = false ∧ rd = [] ∧ wr = wrOf s.tm s.hp.length o.op r.h.length ∧ s' = ⟨putT s.tm o.dst r.v, r.h⟩)

def Stp (res : Nat) (o : Oper) (s : St) (p : Bool) (rd wr : List Nat) (s' : St) : Prop :=
  (wantedA ops o s = some true ∧ Exec T C res o s p rd wr s') ∨ (wantedA ops o s = some false ∧ p = true ∧ rd = [] ∧ wr = [] ∧ s' = ⟨putT s.tm o.dst (.tup []), s.hp⟩)
end

section
variable {T : TypeId → Option Ty} {C : FuncId → Option Sig} {ops : Array Oper}

theorem execC_exec {α : Type} {res : Nat} {o : Oper} {s : St} {K : Bool → List Nat → List Nat → St → Option α} {r : α} (h : execC T C res o s K = some r) :
    ∃ p rd wr s', Exec T C res o s p rd wr s' ∧ K p rd wr s' = some r := by
  unfold execC at h
  cases ha : isAlloc o with
  | some t =>
    simp only [ha] at h
    cases hT : T t with
    | none => simp [hT] at h
    | some ty =>
      simp only [hT] at h
      exact ⟨_, _, _, _, .inl ⟨t, ty, ha, hT, rfl, rfl, rfl, rfl⟩, h⟩
  | none =>
    simp only [ha] at h
    cases hp : evPure T none s.tm s.hp o.type o.op with
    | some r' =>
      simp only [hp] at h
      cases hc : r'.1 with
      | false => simp [hc] at h
      | true =>
        simp only [hc, cond_true] at h
        exact ⟨_, _, _, _, .inr (.inl ⟨ha, r', hp, hc, rfl, rfl, rfl, rfl⟩), h⟩
    | none =>
      simp only [hp] at h
      cases he : evOp T C s.tm s.hp o.type o.op with
      | none => simp [he] at h
      | some r' =>
        simp only [he] at h
        cases hc : r'.c with
        | false => simp [hc] at h
        | true =>
          simp only [hc, cond_true] at h
          exact ⟨_, _, _, _, .inr (.inr ⟨ha, hp, r', he, hc, rfl, rfl, rfl, rfl⟩), h⟩

theorem set_bool {tm : List V} {t : Nat} {b : Bool} (h : tm.getD t .u = .bool b) : tm.set t (.bool b) = tm := by
  have hlt : t < tm.length := by
    rcases Nat.lt_or_ge t tm.length with h' | h'
    · exact h'
    · rw [List.getD_eq_getElem?_getD, List.getElem?_eq_none h'] at h; cases h
  rw [List.getD_eq_getElem?_getD, List.getElem?_eq_getElem hlt, Option.getD_some] at h
  rw [← h]; exact List.set_getElem_self hlt

theorem stepC_stp {α : Type} {res : Nat} {o : Oper} {s : St} {K : Bool → List Nat → List Nat → St → Option α} {r : α} (h : stepC T C ops res o s K = some r) :
    ∃ p rd wr s', Stp T C ops res o s p rd wr s' ∧ K p rd wr s' = some r := by
  unfold stepC at h
  cases hg : o.guard with
  | none =>
    simp only [hg] at h
    obtain ⟨p, rd, wr, s', h1, h2⟩ := execC_exec h
    exact ⟨p, rd, wr, s', .inl ⟨by simp [wantedA, hg], h1⟩, h2⟩
  | some jw =>
    obtain ⟨j, w⟩ := jw
    simp only [hg] at h
    cases ht : (ops[j]?).bind (·.dst) with
    | none => simp [ht] at h
    | some t =>
      simp only [ht] at h
      split at h <;> try (simp only [reduceCtorEq] at h; done)
      · rename_i b hb
        have hset := set_bool hb
        have hw : wantedA ops o s = some (b == w) := by simp only [wantedA, hg, ht, hb]
        cases b <;> cases w <;> simp only [cond_true, cond_false, hset] at h
        · obtain ⟨p, rd, wr, s', h1, h2⟩ := execC_exec h
          exact ⟨p, rd, wr, s', .inl ⟨hw, h1⟩, h2⟩
        · exact ⟨_, _, _, _, .inr ⟨hw, rfl, rfl, rfl, rfl⟩, h⟩
        · exact ⟨_, _, _, _, .inr ⟨hw, rfl, rfl, rfl, rfl⟩, h⟩
        · obtain ⟨p, rd, wr, s', h1, h2⟩ := execC_exec h
          exact ⟨p, rd, wr, s', .inl ⟨hw, h1⟩, h2⟩
      · rename_i l hl
        have hw : wantedA ops o s = some false := by simp only [wantedA, hg, ht, hl]
        exact ⟨_, _, _, _, .inr ⟨hw, rfl, rfl, rfl, rfl⟩, h⟩

theorem looksAt_ops (o : Oper) : ∀ t ∈ opTmps o.op, t ∈ o.looksAt ops := fun t ht => by
  unfold Oper.looksAt
  exact List.mem_append.2 (.inl ht)
theorem looksAt_guard {o : Oper} {j : Nat} {w : Bool} {t : Nat} (hg : o.guard = some (j, w)) (ht : (ops[j]?).bind (·.dst) = some t) : t ∈ o.looksAt ops := by
  unfold Oper.looksAt
  simp [hg, ht]

theorem wantedA_same {o : Oper} {s s' : St} (h : SameT s.tm s'.tm (o.looksAt ops)) : wantedA ops o s' = wantedA ops o s := by
  unfold wantedA
  cases hg : o.guard with
  | none => rfl
  | some jw =>
    obtain ⟨j, w⟩ := jw
    simp only
    cases ht : (ops[j]?).bind (·.dst) with
    | none => rfl
    | some t => simp only [h t (looksAt_guard hg ht)]

/-- An operation that leaves the rows alone: wherever what it sees is the same. -/
theorem Stp.quiet {res : Nat} {o : Oper} {s s' : St} {rd wr : List Nat} (h : Stp T C ops res o s true rd wr s') : wr = [] ∧ s'.hp = s.hp ∧ ∃ v, s'.tm = putT s.tm o.dst v ∧
    ∀ s1 : St, SameT s.tm s1.tm (o.looksAt ops) → (∀ b ∈ rd, getB s1.hp b = getB s.hp b) → Stp T C ops res o s1 true rd wr ⟨putT s1.tm o.dst v, s1.hp⟩ := by
  rcases h with ⟨hw, h⟩ | ⟨hw, _, rfl, rfl, rfl⟩
  · rcases h with ⟨t, ty, ha, hT, _, rfl, rfl, rfl⟩ | ⟨ha, r, hp, hr, _, rfl, rfl, rfl⟩ | ⟨_, _, r, _, _, hf, _⟩
    · exact ⟨rfl, rfl, _, rfl, fun s1 h1 h2 => .inl ⟨by rw [wantedA_same h1]; exact hw, .inl ⟨t, ty, ha, hT, rfl, rfl, rfl, rfl⟩⟩⟩
    · refine ⟨rfl, rfl, _, rfl, fun s1 h1 h2 => .inl ⟨by rw [wantedA_same h1]; exact hw, .inr (.inl ⟨ha, r, ?_, hr, rfl, ?_, rfl, rfl⟩)⟩⟩
      · have ht : SameT s.tm s1.tm (opTmps o.op) := fun t ht => h1 t (looksAt_ops o t ht)
        rw [evPure_tm ht, evPure_hp h2]; exact hp
      · exact (opRefs_same fun t ht => h1 t (looksAt_ops o t ht)).symm
    · cases hf
  · exact ⟨rfl, rfl, _, rfl, fun s1 h1 h2 => .inr ⟨by rw [wantedA_same h1]; exact hw, rfl, rfl, rfl, rfl⟩⟩

/-- An operation that turns rows: what it turns, and that it does so wherever the slots that it sees are the same. -/
theorem Stp.loud {res : Nat} {o : Oper} {s s' : St} {rd wr : List Nat} (h : Stp T C ops res o s false rd wr s') : (∀ b, b ∉ wr → getB s'.hp b = getB s.hp b) ∧ ∃ v, s'.tm = putT s.tm o.dst v ∧
    ∀ s1 : St, s1.hp = s.hp → SameT s.tm s1.tm (o.looksAt ops) → Stp T C ops res o s1 false rd wr ⟨putT s1.tm o.dst v, s'.hp⟩ := by
  rcases h with ⟨hw, h⟩ | ⟨_, hf, _⟩
  · rcases h with ⟨_, _, _, _, hf, _⟩ | ⟨_, _, _, _, hf, _⟩ | ⟨ha, hn, r, he, hr, _, rfl, rfl, rfl⟩
    · cases hf
    · cases hf
    · refine ⟨(evOp_frame he hn).1, _, rfl, fun s1 e h1 => .inl ⟨by rw [wantedA_same h1]; exact hw, .inr (.inr ⟨ha, ?_, r, ?_, hr, rfl, rfl, ?_, rfl⟩)⟩⟩
      · rw [e, evPure_tm (fun t ht => h1 t (looksAt_ops o t ht))]; exact hn
      · rw [e, evOp_tm (fun t ht => h1 t (looksAt_ops o t ht))]; exact he
      · rw [e]
        unfold wrOf
        rw [opRefs_same (fun t ht => h1 t (looksAt_ops o t ht))]
  · cases hf

theorem putT_same {tm : List V} {dst : Option Tmp} {v : V} {l : List Nat} (h : ∀ d, dst = some d → d ∉ l) : SameT tm (putT tm dst v) l := fun t ht => by
  cases dst with
  | none => rfl
  | some d =>
    have : d ≠ t := by rintro rfl; exact h d rfl ht
    exact getD_set_ne' this _ _
theorem putT_comm {tm : List V} {d1 d2 : Option Tmp} {v1 v2 : V} (h : ∀ d, d1 = some d → d2 ≠ some d) : putT (putT tm d1 v1) d2 v2 = putT (putT tm d2 v2) d1 v1 := by
  cases d1 with
  | none => rfl
  | some a =>
    cases d2 with
    | none => rfl
    | some b =>
      have : a ≠ b := fun e => h a rfl (by rw [e])
      exact List.set_comm _ _ this

theorem SameT.symm {tm tm' : List V} {l : List Nat} (h : SameT tm tm' l) : SameT tm' tm l := fun t ht => (h t ht).symm

/-- Nothing keeps 'x' and 'y' in this order. -/
def Ind (ops : Array Oper) (x y : It) : Prop := x.o.apart ops y.o = true ∧
  match x.pure, y.pure with
  | true, true => True
  | true, false => disj2 x.rd y.wr = true
  | false, true => disj2 x.wr y.rd = true
  | false, false => False

theorem disj2_out {l m : List Nat} (h : disj2 l m = true) {b : Nat} (hb : b ∈ l) : b ∉ m := by
  unfold disj2 at h
  have := List.all_eq_true.1 h b hb
  simpa using this

def StpI (T : TypeId → Option Ty) (C : FuncId → Option Sig) (ops : Array Oper) (x : It) (s s' : St) : Prop := Stp T C ops x.res x.o s x.pure x.rd x.wr s'

theorem swap {x y : It} {s s1 s2 : St} (hi : Ind ops x y) (hx : StpI T C ops x s s1) (hy : StpI T C ops y s1 s2) : ∃ s1', StpI T C ops y s s1' ∧ StpI T C ops x s1' s2 := by
  obtain ⟨hap, hm⟩ := hi
  obtain ⟨a1, a2, a3⟩ := Oper.apart_spec hap
  unfold StpI at *
  cases hpx : x.pure with
  | true =>
    rw [hpx] at hx
    obtain ⟨_, x2, vx, x3, x4⟩ := hx.quiet
    cases hpy : y.pure with
    | true =>
      rw [hpy] at hy
      obtain ⟨_, y2, vy, y3, y4⟩ := hy.quiet
      have k1 := y4 s (by rw [x3]; exact (putT_same a1).symm) (fun b _ => by rw [x2])
      refine ⟨_, k1, ?_⟩
      have k2 := x4 ⟨putT s.tm y.o.dst vy, s.hp⟩ (putT_same a3) (fun _ _ => rfl)
      have : s2 = ⟨putT (putT s.tm y.o.dst vy) x.o.dst vx, s.hp⟩ := by
        cases s2; simp only at y2 y3; rw [y2, y3, x2, x3, putT_comm a2]
      rw [this]; exact k2
    | false =>
      rw [hpy] at hy
      simp only [hpx, hpy] at hm
      obtain ⟨y2, vy, y3, y4⟩ := hy.loud
      have k1 := y4 s x2.symm (by rw [x3]; exact (putT_same a1).symm)
      refine ⟨_, k1, ?_⟩
      have k2 := x4 ⟨putT s.tm y.o.dst vy, s2.hp⟩ (putT_same a3) (fun b hb => by rw [y2 b (disj2_out hm hb), x2])
      have : s2 = ⟨putT (putT s.tm y.o.dst vy) x.o.dst vx, s2.hp⟩ := by
        cases s2; simp only at y3; rw [y3, x3, putT_comm a2]
      rw [this]; exact k2
  | false =>
    rw [hpx] at hx
    obtain ⟨x2, vx, x3, x4⟩ := hx.loud
    cases hpy : y.pure with
    | true =>
      rw [hpy] at hy
      simp only [hpx, hpy] at hm
      obtain ⟨_, y2, vy, y3, y4⟩ := hy.quiet
      have k1 := y4 s (by rw [x3]; exact (putT_same a1).symm) (fun b hb => by
        rw [x2 b (fun hw => disj2_out hm hw hb)])
      refine ⟨_, k1, ?_⟩
      have k2 := x4 ⟨putT s.tm y.o.dst vy, s.hp⟩ rfl (putT_same a3)
      have : s2 = ⟨putT (putT s.tm y.o.dst vy) x.o.dst vx, s1.hp⟩ := by
        cases s2; simp only at y2 y3; rw [y2, y3, x3, putT_comm a2]
      rw [this]; exact k2
    | false => simp only [hpx, hpy] at hm

/-- The operations, one behind the other. -/
inductive Chain (T : TypeId → Option Ty) (C : FuncId → Option Sig) (ops : Array Oper) : List It → St → St → Prop where
  | nil (s : St) : Chain T C ops [] s s
  | cons {x : It} {l : List It} {s s1 s2 : St} (h : StpI T C ops x s s1) (t : Chain T C ops l s1 s2) : Chain T C ops (x :: l) s s2

theorem Chain.front {y : It} {l2 : List It} : ∀ {l1 : List It} {s sf : St}, Chain T C ops (l1 ++ y :: l2) s sf → (∀ x ∈ l1, Ind ops x y) → ∃ s1, StpI T C ops y s s1 ∧ Chain T C ops (l1 ++ l2) s1 sf
  | [], s, sf, h, _ => by
    cases h with
    | cons h t => exact ⟨_, h, t⟩
  | x :: l1, s, sf, h, hi => by
    cases h with
    | cons h t =>
      obtain ⟨s1, h1, h2⟩ := Chain.front t (fun z hz => hi z (by simp [hz]))
      obtain ⟨s1', k1, k2⟩ := swap (hi x (by simp)) h h1
      exact ⟨s1', k1, .cons k2 h2⟩
end
end
end Go.Ev
