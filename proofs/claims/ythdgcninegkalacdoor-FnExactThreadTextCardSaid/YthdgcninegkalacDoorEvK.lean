/-
  How the whole state stands behind a write, a new block, a row handed on.
-/
import Derived.Test.YthdgcninegkalacDoorEvJ
namespace Go.Ev
open List (nodup_iff_count)

theorem getB_lt {hp : List Blk} {b : Nat} (h : getB hp b ≠ .dead) : b < hp.length := by
  rcases Nat.lt_or_ge b hp.length with h' | h'
  · exact h'
  · exfalso; apply h; simp [getB, List.getD_eq_getElem?_getD, List.getElem?_eq_none h']

theorem getB_set_self {hp : List Blk} {b : Nat} (h : b < hp.length) (x : Blk) : getB (hp.set b x) b = x := by
  simp [getB, List.getD_eq_getElem?_getD, h]
theorem getB_set_ne {hp : List Blk} {b b' : Nat} (h : b ≠ b') (x : Blk) : getB (hp.set b x) b' = getB hp b' := by
  simp [getB, List.getD_eq_getElem?_getD, List.getElem?_set_ne h]
theorem getD_set_self' {α : Type} {l : List α} {b : Nat} (h : b < l.length) (x d : α) : (l.set b x).getD b d = x := by
  simp [List.getD_eq_getElem?_getD, h]
theorem getD_set_ne' {α : Type} {l : List α} {b b' : Nat} (h : b ≠ b') (x d : α) : (l.set b x).getD b' d = l.getD b' d := by
  simp [List.getD_eq_getElem?_getD, List.getElem?_set_ne h]
theorem getB_push {hp : List Blk} {x : Blk} : getB (hp ++ [x]) hp.length = x := by simp [getB, List.getD_eq_getElem?_getD]
theorem getB_push_lt {hp : List Blk} {x : Blk} {b : Nat} (h : b < hp.length) : getB (hp ++ [x]) b = getB hp b := by
  simp [getB, List.getD_eq_getElem?_getD, List.getElem?_append_left h]
theorem getD_push {α : Type} {l : List α} {x d : α} : (l ++ [x]).getD l.length d = x := by simp [List.getD_eq_getElem?_getD]
theorem getD_push_lt {α : Type} {l : List α} {x d : α} {b : Nat} (h : b < l.length) : (l ++ [x]).getD b d = l.getD b d := by
  simp [List.getD_eq_getElem?_getD, List.getElem?_append_left h]

theorem Hle.set_dead (hp : List Blk) (b : Nat) : Hle hp (hp.set b .dead) := by
  refine ⟨by simp, fun b' hb' => ?_⟩
  by_cases h : b = b'
  · subst h; rw [getB_set_self hb']; trivial
  · rw [getB_set_ne h]; exact (Hle.refl hp).at_ b' hb'
theorem Hle.set_box {hp : List Blk} {b : Nat} {v v' : V} (h : getB hp b = .box v) : Hle hp (hp.set b (.box v')) := by
  refine ⟨by simp, fun b' hb' => ?_⟩
  by_cases e : b = b'
  · subst e; rw [getB_set_self hb']; exact ⟨v, h⟩
  · rw [getB_set_ne e]; exact (Hle.refl hp).at_ b' hb'
theorem Hle.set_arr {hp : List Blk} {b : Nat} {e : Ty} {l l' : List Dat} (h : getB hp b = .arr e l) (hl : l.length = l'.length) : Hle hp (hp.set b (.arr e l')) := by
  refine ⟨by simp, fun b' hb' => ?_⟩
  by_cases ee : b = b'
  · subst ee; rw [getB_set_self hb']; exact ⟨l, h, hl⟩
  · rw [getB_set_ne ee]; exact (Hle.refl hp).at_ b' hb'
theorem Hle.push (hp : List Blk) (x : Blk) : Hle hp (hp ++ [x]) := by
  refine ⟨by simp, fun b hb => ?_⟩
  rw [getB_push_lt hb]; exact (Hle.refl hp).at_ b hb
theorem Hle.trans {a b c : List Blk} (h : Hle a b) (k : Hle b c) : Hle a c := by
  refine ⟨Nat.le_trans h.len k.len, fun x hx => ?_⟩
  have h1 := h.at_ x hx
  have h2 := k.at_ x (Nat.lt_of_lt_of_le hx h.len)
  cases hc : getB c x with
  | dead => trivial
  | box v =>
    rw [hc] at h2
    obtain ⟨v1, e1⟩ := h2
    rw [e1] at h1
    exact h1
  | arr e l =>
    rw [hc] at h2
    obtain ⟨l1, e1, el1⟩ := h2
    rw [e1] at h1
    obtain ⟨l0, e0, el0⟩ := h1
    exact ⟨l0, e0, el0.trans el1⟩

section
variable {P : Program} {E : Env} {w0 : World} {ok : Nat → Prop} {pl : List (Option Pl)} {FS : List (List Nat)} {s : St} {a : Act} {w : World}

/-- One block is turned: its memory may change, and only its. -/
theorem Core.upd (hc : Core E w0 ok pl FS s a w) {b : Nat} (hb : b < s.hp.length) {blk' : Blk} {F' G : List Nat} {w' : World} (hh : Hle s.hp (s.hp.set b blk'))
    (hblk : BR w0 ok (s.hp.set b blk') pl w' blk' (pl.getD b none) F')
    (hsz : w'.heap.size = w.heap.size) (hos : w'.os = w.os) (htp : w'.tape = w.tape) (hout : w'.output = w.output)
    (hw : ∀ B, B ∉ FS.getD b [] → w'.heap[B]? = w.heap[B]?)
    (hcnt : ∀ B, F'.count B ≤ (FS.getD b []).count B + G.count B) (hG : ∀ B, FS.flatten.count B + G.count B ≤ 1)
    (hGo : ∀ B ∈ G, (w0.heap.size ≤ B ∨ ¬ ok B) ∧ B < w.heap.size) :
    Core E w0 ok pl (FS.set b F') ⟨s.tm, s.hp.set b blk'⟩ a w' := by
  have hbF : b < FS.length := by rw [hc.fsl]; exact hb
  have hcount : ∀ B, (FS.set b F').flatten.count B ≤ FS.flatten.count B + G.count B := fun B => by
    have := occ_set FS b F' B hbF
    have := hcnt B
    omega
  have hmem : ∀ B ∈ (FS.set b F').flatten, B ∈ FS.flatten ∨ B ∈ G := fun B hB => by
    have h1 := List.one_le_count_iff.2 hB
    have h2 := hcount B
    by_cases h : B ∈ FS.flatten
    · exact .inl h
    · have := List.count_eq_zero.2 h
      exact .inr (List.one_le_count_iff.1 (by omega))
  refine ⟨hc.env, hc.lok, ⟨hos.trans hc.ext.os, htp.trans hc.ext.tape, hout.trans hc.ext.output, by rw [hsz]; exact hc.ext.size, fun B hB ho => ?_⟩, by simpa using hc.pll, by simpa using hc.fsl, fun b' hb' => ?_, ?_, fun B hB => ?_, hc.defs, hc.tms, fun t => ?_⟩
  · rw [hw B, hc.ext.block B hB ho]
    intro hm
    rcases (hc.own B (getD_mem_flatten hm)).1 with h | h
    · omega
    · exact h ho
  · simp only [List.length_set] at hb'
    by_cases e : b = b'
    · subst e
      rw [getB_set_self hb', getD_set_self' hbF]
      exact hblk
    · rw [getB_set_ne e, getD_set_ne' e]
      exact BR.mono hh (fun _ _ => rfl) (fun B hB => hw B (fun hm => disj hc.nd hbF e hm hB)) (hc.blk b' hb')
  · exact nodup_iff_count.2 fun B => by have := hcount B; have := hG B; omega
  · rw [hsz]
    rcases hmem B hB with h | h
    · exact hc.own B h
    · exact hGo B h
  · exact TR.mono hh (fun _ _ => rfl) (hc.tm t)

/-- A new block. -/
theorem Core.push (hc : Core E w0 ok pl FS s a w) {blk : Blk} {pb : Option Pl} {F : List Nat} {w' : World} (hw : Cl w w')
    (hblk : BR w0 ok (s.hp ++ [blk]) (pl ++ [pb]) w' blk pb F) (hn : F.Nodup) (hF : ∀ B ∈ F, w.heap.size ≤ B ∧ B < w'.heap.size) :
    Core E w0 ok (pl ++ [pb]) (FS ++ [F]) ⟨s.tm, s.hp ++ [blk]⟩ a w' := by
  have hh := Hle.push s.hp blk
  have hp : PlLe s.hp.length pl (pl ++ [pb]) := fun b hb => getD_push_lt (by rw [hc.pll]; exact hb)
  have hc' := hc.cl hw
  refine ⟨hc'.env, hc'.lok, hc'.ext, by simp [hc.pll], by simp [hc.fsl], fun b hb => ?_, ?_, fun B hB => ?_, hc.defs, hc.tms, fun t => TR.mono hh hp (hc.tm t)⟩
  · simp only [List.length_append, List.length_cons, List.length_nil] at hb
    by_cases e : b = s.hp.length
    · subst e
      rw [getB_push, show (pl ++ [pb]).getD s.hp.length none = pb by rw [← hc.pll]; exact getD_push, show (FS ++ [F]).getD s.hp.length [] = F by rw [← hc.fsl]; exact getD_push]
      exact hblk
    · have hb' : b < s.hp.length := by omega
      rw [getB_push_lt hb', getD_push_lt (by rw [hc.pll]; exact hb'), getD_push_lt (by rw [hc.fsl]; exact hb')]
      exact BR.mono hh hp (fun _ _ => rfl) (hc'.blk b hb')
  · rw [List.flatten_append, List.nodup_append]
    refine ⟨hc.nd, by simpa using hn, fun x hx y hy => ?_⟩
    have h1 := (hc.own x hx).2
    have h2 := (hF y (by simpa using hy)).1
    omega
  · rw [List.flatten_append, List.mem_append] at hB
    rcases hB with hB | hB
    · exact hc'.own B hB
    · have h2 := hF B (by simpa using hB)
      exact ⟨.inl (Nat.le_trans hc.ext.size h2.1), h2.2⟩

/-- The slots may turn. -/
theorem Core.tms' (hc : Core E w0 ok pl FS s a w) {tm' : List V} {a' : Act} (hd : a'.defers = []) (hs : a'.tmps.size = tm'.length)
    (ht : ∀ t, TR w0 ok s.hp pl a'.tmps (tm'.getD t .u) (a'.tmps.getD t undef)) : Core E w0 ok pl FS ⟨tm', s.hp⟩ a' w :=
  ⟨hc.env, hc.lok, hc.ext, hc.pll, hc.fsl, hc.blk, hc.nd, hc.own, hd, hs, ht⟩

/-- What is handed on: data, and the blocks that go with it. -/
def Grabbed (E : Env) (w0 : World) (ok : Nat → Prop) (pl : List (Option Pl)) (FS : List (List Nat)) (s : St) (a : Act) (w : World) (hp' : List Blk) (Q : List Nat → Prop) : Prop :=
  ∃ FS' G, Core E w0 ok pl FS' ⟨s.tm, hp'⟩ a w ∧ Hle s.hp hp' ∧ (∀ B, FS'.flatten.count B + G.count B ≤ FS.flatten.count B) ∧ Q G

theorem kill (hc : Core E w0 ok pl FS s a w) {b : Nat} (hb : b < s.hp.length) : Core E w0 ok pl (FS.set b []) ⟨s.tm, s.hp.set b .dead⟩ a w :=
  hc.upd (G := []) hb (Hle.set_dead _ _) (by simp [BR]) rfl rfl rfl rfl (fun _ _ => rfl) (by simp) (fun B => by simpa using (nodup_iff_count.1 hc.nd) B) (by simp)

theorem OW_of_rows {w : World} {e : Ty} {l : List Dat} {d : Dat} {B o cap sz : Nat} {F' : List Nat} (hk : d.kids = l) (hr : Room w B sz) (hcap : d.len ≤ cap) (hsz : o + cap * e.sz ≤ sz) (h : Rows w e l B o F') :
    OW w (.sl e) d [.slice (some ⟨B, o, none⟩) d.len cap] (B :: F') := by
  obtain ⟨Fs, hl, rfl, hel⟩ := h
  subst hk
  simp only [OW]
  refine .inr ⟨B, o, cap, sz, _, rfl, hcap, rfl, hsz, hr, Fs, hl, rfl, fun i hi => ?_⟩
  obtain ⟨cs', h1, h2, h3⟩ := hel i hi
  exact ⟨cs', h1, h2, h3⟩

theorem Rows.part {w : World} {e : Ty} {l : List Dat} {B o : Nat} {F' : List Nat} (h : Rows w e l B o F') (lo len : Nat) (hle : lo + len ≤ l.length) :
    ∃ F'', Rows w e ((l.drop lo).take len) B (o + lo * e.sz) F'' ∧ ∀ x, F''.count x ≤ F'.count x := by
  obtain ⟨Fs, hl, rfl, hel⟩ := h
  have hlen : ((l.drop lo).take len).length = len := by rw [List.length_take, List.length_drop]; omega
  refine ⟨((Fs.drop lo).take len).flatten, ⟨_, by rw [hlen, List.length_take, List.length_drop]; omega, rfl, fun i hi => ?_⟩, fun x => ?_⟩
  · rw [hlen] at hi
    obtain ⟨cs', h1, h2, h3⟩ := hel (lo + i) (by omega)
    refine ⟨cs', h1, fun j hj => ?_, ?_⟩
    · rw [← h2 j hj]; congr 1; rw [Nat.add_mul]; omega
    · have e1 : ((l.drop lo).take len).getD i (.n []) = l.getD (lo + i) (.n []) := by simp [List.getD_eq_getElem?_getD, hi]
      have e2 : ((Fs.drop lo).take len).getD i [] = Fs.getD (lo + i) [] := by simp [List.getD_eq_getElem?_getD, hi]
      rw [e1, e2]; exact h3
  · have h1 : Fs.flatten.count x = (Fs.take lo).flatten.count x + (Fs.drop lo).flatten.count x := by
      rw [← List.count_append, ← List.flatten_append, List.take_append_drop]
    have h2 : (Fs.drop lo).flatten.count x = ((Fs.drop lo).take len).flatten.count x + ((Fs.drop lo).drop len).flatten.count x := by
      rw [← List.count_append, ← List.flatten_append, List.take_append_drop]
    omega

mutual
theorem grab_sound : ∀ {t : Ty} {v : V} {cs : List Value} {d : Dat} {hp' : List Blk} {FS : List (List Nat)} {s : St}, Core E w0 ok pl FS s a w → VC w0 ok s.hp pl v cs → grab t v s.hp = some (d, hp') →
    Grabbed E w0 ok pl FS s a w hp' (fun G => OW w t d cs G)
  | .int k, v, cs, d, hp', FS, s, hc, hv, h => by
    cases v <;> simp only [grab, reduceCtorEq] at h
    split at h <;> simp only [reduceCtorEq, Option.some.injEq, Prod.mk.injEq] at h
    rename_i ek
    obtain ⟨rfl, rfl⟩ := h
    subst ek
    simp only [VC] at hv
    exact ⟨FS, [], hc, Hle.refl _, fun B => by simp, by simp [OW, hv, Dat.int]⟩
  | .bool, v, cs, d, hp', FS, s, hc, hv, h => by
    cases v <;> simp only [grab, reduceCtorEq, Option.some.injEq, Prod.mk.injEq] at h
    obtain ⟨rfl, rfl⟩ := h
    simp only [VC] at hv
    exact ⟨FS, [], hc, Hle.refl _, fun B => by simp, by simp [OW, hv, Dat.bool]⟩
  | .str, v, cs, d, hp', FS, s, hc, hv, h => by
    cases v <;> simp only [grab, reduceCtorEq, Option.some.injEq, Prod.mk.injEq] at h
    obtain ⟨rfl, rfl⟩ := h
    simp only [VC] at hv
    exact ⟨FS, [], hc, Hle.refl _, fun B => by simp, by simp [OW, hv, Dat.str]⟩
  | .sl e, v, cs, d, hp', FS, s, hc, hv, h => by
    cases v <;> simp only [grab, reduceCtorEq] at h
    case nil =>
      simp only [Option.some.injEq, Prod.mk.injEq] at h
      obtain ⟨rfl, rfl⟩ := h
      simp only [VC] at hv
      exact ⟨FS, [], hc, Hle.refl _, fun B => by simp, by simp only [OW]; exact .inl ⟨none, hv, rfl, trivial⟩⟩
    case hd b =>
      cases hb : getB s.hp b with
      | dead => simp [hb] at h
      | box _ => simp [hb] at h
      | arr e' l =>
        simp only [hb] at h
        split at h <;> simp only [reduceCtorEq, Option.some.injEq, Prod.mk.injEq] at h
        rename_i hbeq
        have := Ty.eq_of_beq _ _ hbeq
        subst this
        obtain ⟨rfl, rfl⟩ := h
        simp only [VC, hb] at hv
        obtain ⟨_, hlt, a', cap, ecs, hcap, hhd⟩ := hv
        have hk := kill hc hlt
        have hbF : b < FS.length := by rw [hc.fsl]; exact hlt
        rcases hhd with ⟨h0, hc0⟩ | ⟨p, hpb, ea, hroom⟩
        · refine ⟨_, [], hk, Hle.set_dead _ _, fun B => ?_, ?_⟩
          · have := occ_set FS b [] B hbF
            simp only [List.count_nil] at *
            omega
          · simp only [OW]
            exact .inl ⟨a', by rw [ecs, h0, hc0], by simpa [Dat.len, Dat.kids] using h0, trivial⟩
        · have hbr := hc.blk b hlt
          rw [hb, hpb] at hbr
          simp only [BR] at hbr
          rcases hbr with ⟨e0, _⟩ | ⟨p1, F', e1, eF, hr, _, hrows⟩
          · cases e0
          · cases e1
            refine ⟨_, FS.getD b [], hk, Hle.set_dead _ _, fun B => ?_, ?_⟩
            · have := occ_set FS b [] B hbF
              simp only [List.count_nil] at *
              omega
            · rw [eF, ecs, ea]
              simp only [Nat.zero_mul, Nat.add_zero, Nat.zero_add] at hroom ⊢
              exact OW_of_rows (d := .n l) rfl hr hcap hroom hrows
    case hs b lo len =>
      cases hb : getB s.hp b with
      | dead => simp [hb] at h
      | box _ => simp [hb] at h
      | arr e' l =>
        simp only [hb] at h
        split at h <;> simp only [reduceCtorEq, Option.some.injEq, Prod.mk.injEq] at h
        rename_i hbeq
        have := Ty.eq_of_beq _ _ hbeq
        subst this
        obtain ⟨rfl, rfl⟩ := h
        simp only [VC, hb] at hv
        obtain ⟨_, hlt, ⟨a', cap, ecs, hcap, hhd⟩, hle⟩ := hv
        have hk := kill hc hlt
        have hbF : b < FS.length := by rw [hc.fsl]; exact hlt
        have hdl : (Dat.n ((l.drop lo).take len)).len = len := by
          show (List.take _ _).length = _
          rw [List.length_take, List.length_drop]; omega
        rcases hhd with ⟨h0, hc0⟩ | ⟨p, hpb, ea, hroom⟩
        · refine ⟨_, [], hk, Hle.set_dead _ _, fun B => ?_, ?_⟩
          · have := occ_set FS b [] B hbF
            simp only [List.count_nil] at *
            omega
          · simp only [OW]
            exact .inl ⟨a', by rw [ecs, h0, hc0], by rw [hdl]; exact h0, trivial⟩
        · have hbr := hc.blk b hlt
          rw [hb, hpb] at hbr
          simp only [BR] at hbr
          rcases hbr with ⟨e0, _⟩ | ⟨p1, F', e1, eF, hr, _, hrows⟩
          · cases e0
          · cases e1
            obtain ⟨F'', hrows', hcnt⟩ := hrows.part lo len hle
            refine ⟨_, p.B :: F'', hk, Hle.set_dead _ _, fun B => ?_, ?_⟩
            · have := occ_set FS b [] B hbF
              have := hcnt B
              rw [eF] at *
              simp only [List.count_nil, List.count_cons] at *
              omega
            · have := OW_of_rows (d := .n ((l.drop lo).take len)) (cap := cap) rfl hr (by rw [hdl]; exact hcap) (by rw [Nat.add_mul] at hroom; omega) hrows'
              rw [hdl] at this
              rw [ecs, ea]; exact this
  | .st fs, v, cs, d, hp', FS, s, hc, hv, h => by
    cases v <;> simp only [grab, reduceCtorEq] at h
    rename_i l
    cases hg : grabs fs l s.hp with
    | none => simp [hg] at h
    | some x =>
      obtain ⟨ds, h2⟩ := x
      simp only [hg, Option.some.injEq, Prod.mk.injEq] at h
      obtain ⟨rfl, rfl⟩ := h
      simp only [VC] at hv
      obtain ⟨FS', G, k1, k2, k3, k4⟩ := grabs_sound (j := 0) (pre := []) hc hv hg rfl
      exact ⟨FS', G, k1, k2, k3, by simpa [OW] using k4⟩
theorem grabs_sound : ∀ {ts : List Ty} {l : List V} {cs : List Value} {ds : List Dat} {hp' : List Blk} {FS : List (List Nat)} {s : St} {j : Nat} {pre : List Dat}, Core E w0 ok pl FS s a w → VCs w0 ok s.hp pl l cs → grabs ts l s.hp = some (ds, hp') → pre.length = j →
    Grabbed E w0 ok pl FS s a w hp' (fun G => OWs w ts j (.n (pre ++ ds)) cs G)
  | [], l, cs, ds, hp', FS, s, j, pre, hc, hv, h, _ => by
    cases l <;> simp only [grabs, reduceCtorEq, Option.some.injEq, Prod.mk.injEq] at h
    obtain ⟨rfl, rfl⟩ := h
    simp only [VCs] at hv
    exact ⟨FS, [], hc, Hle.refl _, fun B => by simp, by simp [OWs, hv]⟩
  | t :: ts, l, cs, ds, hp', FS, s, j, pre, hc, hv, h, hj => by
    cases l with
    | nil => simp only [grabs, reduceCtorEq] at h
    | cons v l =>
      simp only [grabs] at h
      cases h1 : grab t v s.hp with
      | none => simp [h1] at h
      | some x =>
        obtain ⟨d1, hp1⟩ := x
        simp only [h1] at h
        cases h2 : grabs ts l hp1 with
        | none => simp [h2] at h
        | some y =>
          obtain ⟨ds1, hp2⟩ := y
          simp only [h2, Option.some.injEq, Prod.mk.injEq] at h
          obtain ⟨rfl, rfl⟩ := h
          simp only [VCs] at hv
          obtain ⟨c1, c2, rfl, hv1, hv2⟩ := hv
          obtain ⟨FS1, G1, k1, k2, k3, k4⟩ := grab_sound hc hv1 h1
          obtain ⟨FS2, G2, m1, m2, m3, m4⟩ := grabs_sound (s := ⟨s.tm, hp1⟩) (j := j + 1) (pre := pre ++ [d1]) k1 (VCs.mono k2 (fun _ _ => rfl) hv2) h2 (by simp [hj])
          refine ⟨FS2, G1 ++ G2, m1, k2.trans m2, fun B => ?_, ?_⟩
          · have := k3 B; have := m3 B
            simp only [List.count_append]; omega
          · simp only [OWs]
            refine ⟨c1, c2, G1, G2, rfl, rfl, ?_, by simpa using m4⟩
            have : (Dat.n (pre ++ d1 :: ds1)).fld j = d1 := by simp [Dat.fld, Dat.kids, ← hj, List.getD_eq_getElem?_getD]
            rw [this]; exact k4
end
end
end Go.Ev
