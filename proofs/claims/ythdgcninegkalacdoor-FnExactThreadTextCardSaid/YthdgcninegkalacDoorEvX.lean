/-
  Regions whose order is open: what is shown of the order of the text holds of every order.
-/
import Derived.Test.YthdgcninegkalacDoorEvW
namespace Go.Ev
open List (nodup_iff_count)

/-! ### A variable that is made -/
section
variable {E : Env} {w0 : World} {ok : Nat → Prop} {hp : List Blk} {pl pl' : List (Option Pl)}

def PlMore (pl pl' : List (Option Pl)) : Prop := ∀ b p, pl.getD b none = some p → pl'.getD b none = some p

mutual
theorem VC.more (hl : PlMore pl pl') : ∀ {v : V} {cs : List Value}, VC w0 ok hp pl v cs → VC w0 ok hp pl' v cs
  | .u, _, h => by simpa [VC] using h
  | .int _ _, _, h => by simpa [VC] using h
  | .bool _, _, h => by simpa [VC] using h
  | .str _, _, h => by simpa [VC] using h
  | .nil, _, h => by simpa [VC] using h
  | .ro _ _, _, h => by simpa [VC] using h
  | .rp _ _, _, h => by simpa [VC] using h
  | .hd b, _, h => by
    simp only [VC] at h ⊢
    obtain ⟨h1, h2, h3⟩ := h
    refine ⟨h1, h2, ?_⟩
    cases hb : getB hp b <;> simp only [hb] at h3 ⊢
    obtain ⟨a, cap, e1, e2, h⟩ := h3
    exact ⟨a, cap, e1, e2, h.imp id fun ⟨p, hp, h⟩ => ⟨p, hl _ _ hp, h⟩⟩
  | .hs b _ _, _, h => by
    simp only [VC] at h ⊢
    obtain ⟨h1, h2, h3⟩ := h
    refine ⟨h1, h2, ?_⟩
    cases hb : getB hp b <;> simp only [hb] at h3 ⊢
    obtain ⟨⟨a, cap, e1, e2, h⟩, h4⟩ := h3
    exact ⟨⟨a, cap, e1, e2, h.imp id fun ⟨p, hp, h⟩ => ⟨p, hl _ _ hp, h⟩⟩, h4⟩
  | .pt b _ _, _, h => by
    simp only [VC] at h ⊢
    obtain ⟨h1, h2, h3⟩ := h
    refine ⟨h1, h2, ?_⟩
    cases hb : getB hp b <;> simp only [hb] at h3 ⊢
    obtain ⟨p, hp, h⟩ := h3
    exact ⟨p, hl _ _ hp, h⟩
  | .ap b _ _ _, _, h => by
    simp only [VC] at h ⊢
    obtain ⟨h1, h2, h3⟩ := h
    refine ⟨h1, h2, ?_⟩
    cases hb : getB hp b <;> simp only [hb] at h3 ⊢
    obtain ⟨hi, p, hp, h⟩ := h3
    exact ⟨hi, p, hl _ _ hp, h⟩
  | .tup _, _, h => by simp [VC] at h
  | .st l, _, h => by simp only [VC] at h ⊢; exact VCs.more hl h
theorem VCs.more (hl : PlMore pl pl') : ∀ {l : List V} {cs : List Value}, VCs w0 ok hp pl l cs → VCs w0 ok hp pl' l cs
  | [], _, h => by simpa [VCs] using h
  | v :: l, _, h => by
    simp only [VCs] at h ⊢
    obtain ⟨c1, c2, rfl, h1, h2⟩ := h
    exact ⟨c1, c2, rfl, VC.more hl h1, VCs.more hl h2⟩
end
mutual
theorem VR.more (hl : PlMore pl pl') : ∀ {v : V} {x : Value}, VR w0 ok hp pl v x → VR w0 ok hp pl' v x
  | .u, _, _ => by simp [VR]
  | .st l, _, h => by simp only [VR] at h ⊢; obtain ⟨cs, e, h⟩ := h; exact ⟨cs, e, VCs.more hl h⟩
  | .tup l, _, h => by simp only [VR] at h ⊢; obtain ⟨cs, e, h⟩ := h; exact ⟨cs, e, VRs.more hl h⟩
  | .int _ _, _, h => by simp only [VR] at h ⊢; exact VC.more hl h
  | .bool _, _, h => by simp only [VR] at h ⊢; exact VC.more hl h
  | .str _, _, h => by simp only [VR] at h ⊢; exact VC.more hl h
  | .nil, _, h => by simp only [VR] at h ⊢; exact VC.more hl h
  | .ro _ _, _, h => by simp only [VR] at h ⊢; exact VC.more hl h
  | .hd _, _, h => by simp only [VR] at h ⊢; exact VC.more hl h
  | .hs _ _ _, _, h => by simp only [VR] at h ⊢; exact VC.more hl h
  | .pt _ _ _, _, h => by simp only [VR] at h ⊢; exact VC.more hl h
  | .ap _ _ _ _, _, h => by simp only [VR] at h ⊢; exact VC.more hl h
  | .rp _ _, _, h => by simp only [VR] at h ⊢; exact VC.more hl h
theorem VRs.more (hl : PlMore pl pl') : ∀ {l : List V} {vs : List Value}, VRs w0 ok hp pl l vs → VRs w0 ok hp pl' l vs
  | [], _, h => by simpa [VRs] using h
  | v :: l, _, h => by
    simp only [VRs] at h ⊢
    obtain ⟨x, r, e, h1, h2⟩ := h
    exact ⟨x, r, e, VR.more hl h1, VRs.more hl h2⟩
end

theorem BR.more (hl : PlMore pl pl') {w : World} {blk : Blk} {pb : Option Pl} {F : List Nat} (h : BR w0 ok hp pl w blk pb F) : BR w0 ok hp pl' w blk pb F := by
  cases blk with
  | dead => simpa [BR] using h
  | box v =>
    simp only [BR] at h ⊢
    rcases h with h | ⟨p, h1, h2, h3, h4, h5, cs, h6, h7, h8⟩
    · exact .inl h
    · exact .inr ⟨p, h1, h2, h3, h4, h5, cs, h6, h7, VC.more hl h8⟩
  | arr e l => simpa [BR] using h
end

section
variable {P : Program} {E : Env} {w0 : World} {ok : Nat → Prop} {pl : List (Option Pl)} {FS : List (List Nat)} {s : St} {a : Act} {w : World}
variable {T : TypeId → Option Ty} {C : FuncId → Option Sig} {ops : Array Oper}

/-- The variable of box 'b' is made: a new block of memory. -/
theorem Core.born (hc : Core E w0 ok pl FS s a w) {b : Nat} {ty : Ty} (hb : getB s.hp b = .box (zeroV ty)) (hpb : pl.getD b none = none) (te : TypeId) :
    Core E w0 ok (pl.set b (some ⟨w.heap.size, 0, ty.sz⟩)) (FS.set b [w.heap.size]) s a (w.alloc (.cells (zc ty).toArray te)) ∧
      VR w0 ok s.hp (pl.set b (some ⟨w.heap.size, 0, ty.sz⟩)) (.pt b [] 0) (.pointer (some ⟨w.heap.size, 0, none⟩)) := by
  have hlt : b < s.hp.length := getB_lt (by rw [hb]; simp)
  have hlp : b < pl.length := by rw [hc.pll]; exact hlt
  have hlf : b < FS.length := by rw [hc.fsl]; exact hlt
  have hmore : PlMore pl (pl.set b (some ⟨w.heap.size, 0, ty.sz⟩)) := fun b' p h => by
    by_cases e : b = b'
    · subst e; rw [hpb] at h; cases h
    · rw [getD_set_ne' e]; exact h
  have hF : FS.getD b [] = [] := by
    have := hc.blk b hlt
    rw [hb, hpb] at this
    simp only [BR] at this
    rcases this with ⟨_, h⟩ | ⟨p, h, _⟩
    · exact h
    · cases h
  have hc' := hc.cl (cl_alloc (w := w) (.cells (zc ty).toArray te))
  have hzs : (zeroV ty).sz = ty.sz := by
    have := (zeroV_VC (w0 := w0) (ok := ok) (hp := s.hp) (pl := pl) ty).len
    rw [← this, zc_len]
  have hcnt : ∀ B, (FS.set b [w.heap.size]).flatten.count B = FS.flatten.count B + [w.heap.size].count B := fun B => by
    have := occ_set FS b [w.heap.size] B hlf
    rw [hF] at this
    simp only [List.count_nil] at this
    omega
  refine ⟨⟨hc'.env, hc'.lok, hc'.ext, by simpa using hc.pll, by simpa using hc.fsl, fun b' hb' => ?_, ?_, fun B hB => ?_, hc.defs, hc.tms, fun t => VR.more hmore (hc.tm t)⟩, ?_⟩
  · by_cases e : b = b'
    · subst e
      rw [hb, getD_set_self' hlp, getD_set_self' hlf]
      simp only [BR]
      refine .inr ⟨_, rfl, rfl, rfl, hzs.symm, ?_, zc ty, by rw [hzs]; exact zc_len ty, fun j hj => ?_, VC.more hmore (zeroV_VC ty)⟩
      · have h := room_alloc (w := w) (zc ty).toArray te
        have e : (zc ty).toArray.size = ty.sz := by simp [zc_len]
        rw [e] at h; exact h
      · simp [cel]
    · rw [getD_set_ne' e, getD_set_ne' e]
      exact BR.more hmore (hc'.blk b' hb')
  · refine nodup_iff_count.2 fun B => ?_
    rw [hcnt B]
    have h1 := nodup_iff_count.1 hc.nd B
    by_cases e : B = w.heap.size
    · subst e
      have : FS.flatten.count w.heap.size = 0 := List.count_eq_zero.2 fun hm => by have := (hc.own _ hm).2; omega
      rw [this]; simp
    · have : [w.heap.size].count B = 0 := List.count_eq_zero.2 (by simpa using e)
      omega
  · have h1 := List.one_le_count_iff.2 hB
    rw [hcnt B] at h1
    by_cases e : B = w.heap.size
    · subst e; exact ⟨.inl hc.ext.size, by simp⟩
    · have : [w.heap.size].count B = 0 := List.count_eq_zero.2 (by simpa using e)
      exact hc'.own B (List.one_le_count_iff.1 (by omega))
  · simp only [VR, VC]
    refine ⟨⟨_, rfl⟩, hlt, ?_⟩
    rw [hb]
    exact ⟨_, getD_set_self' hlp _ _, rfl⟩

/-- Boxes of variables that are not made yet. -/
def Unborn (T : TypeId → Option Ty) (pl : List (Option Pl)) (hp : List Blk) (l : List It) : Prop :=
  ∀ x ∈ l, ∀ t ty, isAlloc x.o = some t → T t = some ty → pl.getD x.res none = none ∧ getB hp x.res = .box (zeroV ty)

theorem wantedA_sound (hc : Core E w0 ok pl FS s a w) {o : Oper} {b : Bool} (h : wantedA ops o s = some b) : Region.wanted o (yielded ops a.tmps) = b := by
  unfold wantedA at h
  cases hg : o.guard with
  | none => simp only [hg, Option.some.injEq] at h; subst h; simp [Region.wanted, hg]
  | some jw =>
    obtain ⟨j, g⟩ := jw
    simp only [hg] at h
    cases ht : (ops[j]?).bind (·.dst) with
    | none => simp [ht] at h
    | some t =>
      simp only [ht] at h
      split at h <;> simp only [reduceCtorEq, Option.some.injEq] at h
      · rename_i b' hb
        rw [wanted_of hg ht (slot_bool hc hb).1]
        exact h
      · rename_i l hl
        rw [wanted_no hc hg ht hl]; exact h

theorem alloc_op {o : Oper} {t : TypeId} (h : isAlloc o = some t) : o.op = .alloc t := by
  unfold isAlloc at h
  split at h <;> simp only [reduceCtorEq, Option.some.injEq] at h
  rename_i t' ht
  rw [ht, h]

theorem stp_sound (hT : ∀ t ty, T t = some ty → TyOk P t ty) (hC : ∀ f sg, C f = some sg → ConOk E P f sg) (hD : 16 ≤ P.depth) (hc : Core E w0 ok pl FS s a w) {x : It} {s' : St} (h : StpI T C ops x s s') (hx : ops[x.i]? = some x.o)
    {l : List It} (hu : Unborn T pl s.hp (x :: l)) (hne : ∀ y ∈ l, isAlloc x.o ≠ none → isAlloc y.o ≠ none → x.res ≠ y.res) {K : Act → World → Prop} {Q : Exit → Act → World → Prop}
    (hK : ∀ pl' FS' a' w', Core E w0 ok pl' FS' s' a' w' → Unborn T pl' s'.hp l → K a' w') : wpOp P ops Q x.i K a w := by
  have hul : Unborn T pl s.hp l := fun y hy => hu y (by simp [hy])
  unfold wpOp
  simp only [hx]
  rcases h with ⟨hw, h⟩ | ⟨hw, _, _, _, rfl⟩
  · rw [if_pos (wantedA_sound hc hw)]
    refine .inl ?_
    rcases h with ⟨t, ty, ha, hTt, _, _, _, rfl⟩ | ⟨ha, r, hp, hr, _, _, _, rfl⟩ | ⟨ha, hn, r, he, hr, _, _, _, rfl⟩
    · obtain ⟨hpl, hbox⟩ := hu x (by simp) t ty ha hTt
      have hty := hT t ty hTt
      obtain ⟨i, hi, hz, _⟩ := hty.row
      obtain ⟨k1, k2⟩ := hc.born hbox hpl t
      have hcells : (zv ty).cells = (zc ty).toArray := by rw [← zv_cells]
      have hrun : (execOp a.eval x.o).run P w = .ok (.value (.pointer (some ⟨w.heap.size, 0, none⟩))) (w.alloc (.cells (zc ty).toArray t)) := by
        simp [execOp, alloc_op ha, Instr.alloc, zeroValue, typeInfo, hi, hz, newVar, run_newRow, hcells]
      simp only [Oper.wp, hrun, Oper.upon]
      refine hK _ _ _ _ (Core.put k1 k2) fun y hy t' ty' ht' hT' => ?_
      obtain ⟨g2, g3⟩ := hul y hy t' ty' ht' hT'
      exact ⟨by rw [getD_set_ne' (hne y hy (by rw [ha]; simp) (by rw [ht']; simp))]; exact g2, g3⟩
    · obtain ⟨val, h1, h2⟩ := evPure_sound hT hD hc (by simp) hp hr
      simp only [Oper.wp, h2 w (Cl.refl w), Oper.upon]
      exact hK _ _ _ _ (Core.put hc h1) hul
    · refine evOp_sound hT hC hD hc he hr _ _ fun pl' FS' val w' hpl hc' hv => ?_
      refine hK _ _ _ _ (Core.put hc' hv) fun y hy t' ty' ht' hT' => ?_
      obtain ⟨g2, g3⟩ := hul y hy t' ty' ht' hT'
      refine ⟨by rw [hpl _ (getB_lt (by rw [g3]; simp))]; exact g2, (evOp_frame he hn).2 _ _ g3 fun t0 ad v0 eo p off hl => ?_⟩
      have := look_VR hc (ctx := none) (by simp) none ad
      rw [hl] at this
      simp only [VR, VC, g3] at this
      obtain ⟨_, _, p', hp', _⟩ := this
      rw [g2] at hp'; cases hp'
  · rw [if_neg (by rw [wantedA_sound hc hw]; simp)]
    exact hK _ _ _ _ (Core.put hc (v := .tup []) (by simp [VR, VRs, undef])) hul

/-! ### Every order -/
inductive Waits (ops : Array Oper) : Nat → Nat → Prop where
  | one {j i : Nat} {o : Oper} (h : ops[j]? = some o) (hi : i ∈ awaits o) : Waits ops j i
  | step {j m i : Nat} {o : Oper} (h : ops[j]? = some o) (hm : m ∈ awaits o) (t : Waits ops m i) : Waits ops j i

theorem mem_awaits {o : Oper} {i : Nat} : i ∈ awaits o ↔ ∃ e ∈ o.after, Region.binds .any e = true ∧ e.on = i := by
  simp [awaits, and_assoc]

structure Listed (ops : Array Oper) (l : List It) (listed : Array Bool) : Prop where
  size : listed.size = ops.size
  mem : ∀ i, i < ops.size → (listed.getD i true = false ↔ ∃ x ∈ l, x.i = i)
  op : ∀ x ∈ l, ops[x.i]? = some x.o
  sorted : l.Pairwise fun x y => x.i < y.i
  lt : ∀ x ∈ l, ∀ j ∈ awaits x.o, j < x.i
  anc : ∀ x ∈ l, ∀ i ∈ x.anc, Waits ops x.i i
  closed : ∀ j o, ops[j]? = some o → listed.getD j true = true → ∀ i ∈ awaits o, listed.getD i false = true

theorem getD_tf {listed : Array Bool} {i : Nat} (h : listed.getD i false = true) : listed.getD i true = true := by
  rcases Nat.lt_or_ge i listed.size with h' | h'
  · simp [h'] at h ⊢; exact h
  · simp [Array.getElem?_eq_none h']
theorem getD_ft {listed : Array Bool} {i : Nat} (hi : i < listed.size) (h : listed.getD i true = true) : listed.getD i false = true := by
  simp [hi] at h ⊢; exact h

theorem Listed.waits {l : List It} {listed : Array Bool} (L : Listed ops l listed) {j i : Nat} (hw : Waits ops j i) {o : Oper} (hj : ops[j]? = some o) (hall : ∀ m ∈ awaits o, listed.getD m false = true) : listed.getD i false = true := by
  induction hw generalizing o with
  | one h hi => rw [h] at hj; cases hj; exact hall _ hi
  | step h hm t ih =>
    rw [h] at hj; cases hj
    have h1 := hall _ hm
    cases t with
    | one h2 hi => exact L.closed _ _ h2 (getD_tf h1) _ hi
    | step h2 hm2 t2 => exact ih h2 (L.closed _ _ h2 (getD_tf h1))

theorem ops_lt {i : Nat} {o : Oper} (h : ops[i]? = some o) : i < ops.size := (Array.getElem?_eq_some_iff.1 h).1

/-- The first that has not come up may come up. -/
theorem Listed.head {x : It} {l : List It} {listed : Array Bool} (L : Listed ops (x :: l) listed) : x.i ∈ Region.ready .any ops listed := by
  have hx := L.op x (by simp)
  refine mem_ready.2 ⟨(L.mem x.i (ops_lt hx)).2 ⟨x, by simp, rfl⟩, x.o, hx, fun e he hb => ?_⟩
  have hj : e.on ∈ awaits x.o := mem_awaits.2 ⟨e, he, hb, rfl⟩
  have hlt := L.lt x (by simp) _ hj
  have hsz : e.on < ops.size := Nat.lt_trans hlt (ops_lt hx)
  refine getD_ft (by rw [L.size]; exact hsz) ?_
  cases hv : listed.getD e.on true with
  | true => rfl
  | false =>
    obtain ⟨y, hy, ey⟩ := (L.mem _ hsz).1 hv
    simp only [List.mem_cons] at hy
    rcases hy with rfl | hy
    · omega
    · have := (List.pairwise_cons.1 L.sorted).1 y hy
      omega

theorem setB_getD {listed : Array Bool} {i j : Nat} (hi : i < listed.size) : (listed.setIfInBounds i true).getD j true = (if i = j then true else listed.getD j true) := by
  by_cases e : i = j
  · subst e; simp [hi]
  · rw [if_neg e, getD_set_ne true e]

theorem Listed.remove {x : It} {l1 l2 : List It} {listed : Array Bool} (L : Listed ops (l1 ++ x :: l2) listed) (hr : ∀ m ∈ awaits x.o, listed.getD m false = true) : Listed ops (l1 ++ l2) (listed.setIfInBounds x.i true) := by
  have hx := L.op x (by simp)
  have hxs := ops_lt hx
  have hsub : ∀ y ∈ l1 ++ l2, y ∈ l1 ++ x :: l2 := fun y hy => by
    simp only [List.mem_append, List.mem_cons] at hy ⊢
    rcases hy with h | h
    · exact .inl h
    · exact .inr (.inr h)
  have hs := L.sorted
  rw [List.pairwise_append] at hs
  obtain ⟨s1, s2, s3⟩ := hs
  rw [List.pairwise_cons] at s2
  have hne : ∀ y ∈ l1 ++ l2, y.i ≠ x.i := fun y hy => by
    simp only [List.mem_append] at hy
    rcases hy with h | h
    · have := s3 y h x (by simp); omega
    · have := s2.1 y h; omega
  refine ⟨by simpa using L.size, fun i hi => ?_, fun y hy => L.op y (hsub y hy), ?_, fun y hy => L.lt y (hsub y hy), fun y hy => L.anc y (hsub y hy), fun j o hj hlj i hi => ?_⟩
  · rw [setB_getD (by rw [L.size]; exact hxs)]
    by_cases e : x.i = i
    · rw [if_pos e]
      exact ⟨fun h => (by cases h), fun ⟨y, hy, ey⟩ => absurd (ey.trans e.symm) (hne y hy)⟩
    · rw [if_neg e, L.mem i hi]
      refine ⟨fun ⟨y, hy, ey⟩ => ⟨y, ?_, ey⟩, fun ⟨y, hy, ey⟩ => ⟨y, hsub y hy, ey⟩⟩
      simp only [List.mem_append, List.mem_cons] at hy ⊢
      rcases hy with h | rfl | h
      · exact .inl h
      · exact absurd ey e
      · exact .inr h
  · rw [List.pairwise_append]
    exact ⟨s1, s2.2, fun y hy z hz => s3 y hy z (by simp [hz])⟩
  · by_cases e : x.i = j
    · subst e
      rw [hx] at hj; cases hj
      exact getD_set_true (hr i hi)
    · rw [setB_getD (by rw [L.size]; exact hxs), if_neg e] at hlj
      exact getD_set_true (L.closed j o hj hlj i hi)

/-- **Every order ends as the order of the text.** -/
theorem any_order (hT : ∀ t ty, T t = some ty → TyOk P t ty) (hC : ∀ f sg, C f = some sg → ConOk E P f sg) (hD : 16 ≤ P.depth) {Q : Exit → Act → World → Prop} {sf : St}
    (hQ : ∀ pl' FS' a' w', Core E w0 ok pl' FS' sf a' w' → Q .normal a' w') :
    ∀ (fuel : Nat) {l : List It} {listed : Array Bool} {pl : List (Option Pl)} {FS : List (List Nat)} {s : St} {a : Act} {w : World}, l.length ≤ fuel → Core E w0 ok pl FS s a w → Chain T C ops l s sf → Listed ops l listed →
      l.Pairwise (fun x y => x.i ∈ y.anc ∨ Ind ops x y) → l.Pairwise (fun x y => isAlloc x.o ≠ none → isAlloc y.o ≠ none → x.res ≠ y.res) → Unborn T pl s.hp l → wpAny P .any ops Q fuel listed a w
  | 0, l, listed, pl, FS, s, a, w, hlen, hc, hch, L, _, _, _ => by
    have : l = [] := List.length_eq_zero_iff.1 (by omega)
    subst this
    cases hch
    refine ⟨?_, hQ _ _ _ _ hc⟩
    refine List.eq_nil_iff_forall_not_mem.2 fun j hj => ?_
    obtain ⟨h1, o, ho, _⟩ := mem_ready.1 hj
    obtain ⟨y, hy, _⟩ := (L.mem j (ops_lt ho)).1 h1
    cases hy
  | fuel + 1, l, listed, pl, FS, s, a, w, hlen, hc, hch, L, hp, hr, hu => by
    refine ⟨fun hnil => ?_, fun j hj => ?_⟩
    · cases l with
      | nil => cases hch; exact hQ _ _ _ _ hc
      | cons x l => have := L.head; rw [hnil] at this; cases this
    · obtain ⟨h1, o, ho, hall⟩ := mem_ready.1 hj
      obtain ⟨y, hy, rfl⟩ := (L.mem j (ops_lt ho)).1 h1
      obtain ⟨l1, l2, rfl⟩ := List.append_of_mem hy
      have hyo := L.op y hy
      rw [hyo] at ho
      cases ho
      have hawait : ∀ m ∈ awaits y.o, listed.getD m false = true := fun m hm => by
        obtain ⟨e, he, hb, rfl⟩ := mem_awaits.1 hm
        exact hall e he hb
      rw [List.pairwise_append] at hp hr
      obtain ⟨p1, p2, p3⟩ := hp
      obtain ⟨r1, r2, r3⟩ := hr
      rw [List.pairwise_cons] at p2 r2
      have hind : ∀ x ∈ l1, Ind ops x y := fun x hx => by
        rcases p3 x hx y (by simp) with h | h
        · exfalso
          have h2 := L.waits (L.anc y hy _ h) hyo hawait
          have h3 := (L.mem x.i (ops_lt (L.op x (by simp [hx])))).2 ⟨x, by simp [hx], rfl⟩
          rw [getD_tf h2] at h3; cases h3
        · exact h
      obtain ⟨s1, k1, k2⟩ := hch.front hind
      refine stp_sound (l := l1 ++ l2) hT hC hD hc k1 hyo (fun z hz => hu z ?_) (fun z hz => ?_) fun pl' FS' a' w' hc' hu' => ?_
      · simp only [List.mem_cons, List.mem_append] at hz ⊢
        rcases hz with h | h | h
        · exact .inr (.inl h)
        · exact .inl h
        · exact .inr (.inr h)
      · simp only [List.mem_append] at hz
        rcases hz with h | h
        · exact fun e1 e2 => Ne.symm (r3 z h y (by simp) e2 e1)
        · exact r2.1 z h
      · refine any_order hT hC hD hQ fuel ?_ hc' k2 (L.remove hawait) ?_ ?_ hu'
        · simp only [List.length_append, List.length_cons] at hlen ⊢; omega
        · rw [List.pairwise_append]; exact ⟨p1, p2.2, fun x hx z hz => p3 x hx z (by simp [hz])⟩
        · rw [List.pairwise_append]; exact ⟨r1, r2.2, fun x hx z hz => r3 x hx z (by simp [hz])⟩

theorem okPair_spec {x y : It} (h : okPair ops x y = true) : x.i ∈ y.anc ∨ Ind ops x y := by
  unfold okPair at h
  rw [Bool.or_eq_true] at h
  rcases h with h | h
  · exact .inl (by simpa using h)
  · rw [Bool.and_eq_true] at h
    refine .inr ⟨h.1, ?_⟩
    have h2 := h.2
    cases hx : x.pure <;> cases hy : y.pure <;> simp only [hx, hy] at h2 ⊢ <;> first | exact h2 | (cases h2; done) | trivial

theorem resBlks_cons (T : TypeId → Option Ty) (o : Oper) (l : List Oper) : resBlks T (o :: l) = (match isAlloc o with | some t => [match T t with | some ty => Blk.box (zeroV ty) | none => .dead] | none => []) ++ resBlks T l := by
  unfold resBlks
  cases h : isAlloc o with
  | none => simp [h]
  | some t => cases hT : T t <;> simp [h, hT]

/-- What the evaluator says of a region in the order of the text. -/
theorem evDraw_items {α : Type} {k : St → Option α} {r : α} : ∀ (rest : List Oper) (i res : Nat) (log : List It) (s : St), evDraw T C ops rest i res log s k = some r → (∀ n, n < rest.length → rest[n]? = ops[i + n]?) →
    (∀ x ∈ log, ∀ j ∈ x.anc, Waits ops x.i j) → ∃ (l : List It) (sf : St), Chain T C ops l s sf ∧ k sf = some r ∧ l.length = rest.length ∧ (∀ n x, l[n]? = some x → x.i = i + n ∧ rest[n]? = some x.o) ∧
      l.Pairwise (fun x y => x.i ∈ y.anc ∨ Ind ops x y) ∧ (∀ x ∈ log, ∀ y ∈ l, x.i ∈ y.anc ∨ Ind ops x y) ∧ (∀ x ∈ l, ∀ j ∈ awaits x.o, j < x.i) ∧ (∀ x ∈ l, ∀ j ∈ x.anc, Waits ops x.i j) ∧
      (∀ x ∈ l, isAlloc x.o ≠ none → res ≤ x.res) ∧ l.Pairwise (fun x y => isAlloc x.o ≠ none → isAlloc y.o ≠ none → x.res ≠ y.res) ∧
      (∀ x ∈ l, ∀ t ty, isAlloc x.o = some t → T t = some ty → ∃ m, x.res = res + m ∧ (resBlks T rest)[m]? = some (.box (zeroV ty)))
  | [], i, res, log, s, h, _, _ => by
    simp only [evDraw] at h
    exact ⟨[], s, .nil s, h, rfl, by simp, .nil, by simp, by simp, by simp, by simp, .nil, by simp⟩
  | o :: rest, i, res, log, s, h, hops, hlog => by
    simp only [evDraw] at h
    cases hlt : (awaits o).all (fun j => Nat.blt j i) with
    | false => simp [hlt] at h
    | true =>
      simp only [hlt, cond_true] at h
      obtain ⟨p, rd, wr, s', hstp, h⟩ := stepC_stp h
      let it : It := ⟨i, o, res, p, ancOf log (awaits o), rd, wr⟩
      have hoi : ops[i]? = some o := by have := hops 0 (by simp); simpa using this.symm
      cases hok : log.all (fun x => okPair ops x it) with
      | false =>
        simp only [show (log.all fun x => okPair ops x ⟨i, o, res, p, ancOf log (awaits o), rd, wr⟩) = false from hok, cond_false, reduceCtorEq] at h
      | true =>
        have h' : evDraw T C ops rest (i + 1) (match isAlloc o with | some _ => res + 1 | none => res) (it :: log) s' k = some r := by
          have := h
          simp only [show (log.all fun x => okPair ops x ⟨i, o, res, p, ancOf log (awaits o), rd, wr⟩) = true from hok, cond_true] at this
          exact this
        have hanc : ∀ j ∈ it.anc, Waits ops i j := by
          intro j hj
          have hj' : j ∈ awaits o ∨ ∃ x ∈ log, j ∈ (bif (awaits o).contains x.i then x.anc else []) := by
            have : j ∈ awaits o ++ log.flatMap (fun x => bif (awaits o).contains x.i then x.anc else []) := hj
            rw [List.mem_append, List.mem_flatMap] at this
            exact this
          rcases hj' with hj | ⟨x, hx, hj⟩
          · exact .one hoi hj
          · cases hc : (awaits o).contains x.i with
            | false => rw [hc] at hj; simp at hj
            | true =>
              rw [hc] at hj
              simp only [cond_true] at hj
              exact .step hoi (by simpa using hc) (hlog x hx j hj)
        obtain ⟨l, sf, c1, c2, c3, c4, c5, c6, c7, c8, c9, c10, c11⟩ := evDraw_items rest (i + 1) _ (it :: log) s' h' (fun n hn => by
            have := hops (n + 1) (by simpa using hn)
            simpa [Nat.add_assoc, Nat.add_comm 1 n] using this) (fun x hx => by
            simp only [List.mem_cons] at hx
            rcases hx with rfl | hx
            · exact hanc
            · exact hlog x hx)
        have hres : res ≤ (match isAlloc o with | some _ => res + 1 | none => res) := by cases isAlloc o <;> simp
        refine ⟨it :: l, sf, .cons hstp c1, c2, by simp [c3], ?_, ?_, ?_, ?_, ?_, ?_, ?_, ?_⟩
        · intro n x hn
          cases n with
          | zero => simp only [List.getElem?_cons_zero, Option.some.injEq] at hn; subst hn; exact ⟨rfl, rfl⟩
          | succ n =>
            obtain ⟨e1, e2⟩ := c4 n x (by simpa using hn)
            exact ⟨by omega, by simpa using e2⟩
        · exact List.pairwise_cons.2 ⟨fun y hy => c6 it (by simp) y hy, c5⟩
        · intro x hx y hy
          simp only [List.mem_cons] at hy
          rcases hy with rfl | hy
          · exact okPair_spec (List.all_eq_true.1 hok x hx)
          · exact c6 x (by simp [hx]) y hy
        · intro x hx
          simp only [List.mem_cons] at hx
          rcases hx with rfl | hx
          · exact fun j hj => by have := List.all_eq_true.1 hlt j hj; simpa [it] using this
          · exact c7 x hx
        · intro x hx
          simp only [List.mem_cons] at hx
          rcases hx with rfl | hx
          · exact hanc
          · exact c8 x hx
        · intro x hx ha
          simp only [List.mem_cons] at hx
          rcases hx with rfl | hx
          · exact Nat.le_refl _
          · exact Nat.le_trans hres (c9 x hx ha)
        · refine List.pairwise_cons.2 ⟨fun y hy e1 e2 => ?_, c10⟩
          have := c9 y hy e2
          cases ha : isAlloc o with
          | none => exact absurd ha e1
          | some t => simp only [ha] at this; show res ≠ y.res; omega
        · intro x hx t ty ha hTt
          rw [resBlks_cons]
          simp only [List.mem_cons] at hx
          rcases hx with rfl | hx
          · refine ⟨0, rfl, ?_⟩
            have ha' : isAlloc o = some t := ha
            simp only [ha', hTt, List.cons_append, List.getElem?_cons_zero]
          · obtain ⟨m, e1, e2⟩ := c11 x hx t ty ha hTt
            cases hao : isAlloc o with
            | none => simp only [hao] at e1; exact ⟨m, e1, by simpa using e2⟩
            | some t' => simp only [hao] at e1; exact ⟨m + 1, by omega, by simpa using e2⟩

theorem Core.addNone : ∀ {l : List Blk} {pl : List (Option Pl)} {FS : List (List Nat)} {s : St}, (∀ b ∈ l, b = .dead ∨ ∃ v, b = .box v) → Core E w0 ok pl FS s a w →
    Core E w0 ok (pl ++ List.replicate l.length none) (FS ++ List.replicate l.length []) ⟨s.tm, s.hp ++ l⟩ a w
  | [], pl, FS, s, _, hc => by simpa using hc
  | b :: l, pl, FS, s, hb, hc => by
    have h1 := hc.add (blk := b) (pb := none) (F := []) (by
      rcases hb b (by simp) with rfl | ⟨v, rfl⟩
      · simp [BR]
      · simp only [BR]; exact .inl ⟨trivial, trivial⟩) (fun B => by simpa using nodup_iff_count.1 hc.nd B) (by simp)
    have h2 := Core.addNone (l := l) (fun c hc => hb c (by simp [hc])) h1
    simpa [List.replicate_succ, List.append_assoc] using h2

/-- A region whose order is open. -/
theorem evDraw_sound {α : Type} (hM : P.follows .mixedOrders = true) (hT : ∀ t ty, T t = some ty → TyOk P t ty) (hC : ∀ f sg, C f = some sg → ConOk E P f sg) (hD : 16 ≤ P.depth) (hc : Core E w0 ok pl FS s a w) {id : Nat} {k : St → Option α} {r : α}
    (h : evDraw T C ops ops.toList 0 s.hp.length [] ⟨s.tm, s.hp ++ resBlks T ops.toList⟩ k = some r) {Q : Exit → Act → World → Prop} (hQ : ∀ pl' FS' s' a' w', Core E w0 ok pl' FS' s' a' w' → k s' = some r → Q .normal a' w') :
    (Code.region id ops true).wp P Q a w := by
  obtain ⟨l, sf, c1, c2, c3, c4, c5, _, c7, c8, _, c10, c11⟩ := evDraw_items ops.toList 0 s.hp.length [] _ h (fun n hn => by simp) (by simp)
  have hblk : ∀ b ∈ resBlks T ops.toList, b = .dead ∨ ∃ v, b = .box v := by
    intro b hb
    simp only [resBlks, List.mem_filterMap] at hb
    obtain ⟨o, _, hb⟩ := hb
    split at hb <;> try (simp only [reduceCtorEq] at hb; done)
    split at hb <;> simp only [Option.some.injEq] at hb
    · exact .inr ⟨_, hb.symm⟩
    · exact .inl hb.symm
  have hc1 := (hc.cl (Cl.drew w)).addNone hblk
  have hlen : l.length = ops.size := by simpa using c3
  have hpl : ∀ m, (pl ++ List.replicate (resBlks T ops.toList).length none).getD (s.hp.length + m) none = none := fun m => by
    rw [List.getD_eq_getElem?_getD, List.getElem?_append_right (by rw [hc.pll]; omega), List.getElem?_replicate]
    split <;> rfl
  have hget : ∀ i, i < ops.size → ∃ x ∈ l, x.i = i := fun i hi => by
    obtain ⟨e1, _⟩ := c4 i l[i] (List.getElem?_eq_getElem (by omega))
    exact ⟨l[i], List.getElem_mem _, by omega⟩
  refine wp_region_any hM (any_order hT hC hD (fun pl' FS' a' w' hc' => hQ _ _ _ _ _ hc' c2) ops.size (by omega) hc1 c1 ?_ c5 c10 ?_)
  · refine ⟨by simp, fun i hi => ⟨fun _ => hget i hi, fun _ => ?_⟩, fun x hx => ?_, ?_, c7, c8, fun j o hj hl => ?_⟩
    · simp [hi]
    · obtain ⟨n, hn, e⟩ := List.getElem_of_mem hx
      obtain ⟨e1, e2⟩ := c4 n x (by rw [List.getElem?_eq_getElem hn, e])
      rw [e1, Nat.zero_add]; simpa using e2
    · rw [List.pairwise_iff_getElem]
      intro i j hi hj hij
      obtain ⟨e1, _⟩ := c4 i l[i] (List.getElem?_eq_getElem hi)
      obtain ⟨e2, _⟩ := c4 j l[j] (List.getElem?_eq_getElem hj)
      omega
    · exfalso
      have := ops_lt hj
      simp [this] at hl
  · intro x hx t ty ha hTt
    obtain ⟨m, e1, e2⟩ := c11 x hx t ty ha hTt
    rw [e1]
    refine ⟨hpl m, ?_⟩
    show getB (s.hp ++ resBlks T ops.toList) (s.hp.length + m) = _
    rw [getB, List.getD_eq_getElem?_getD, List.getElem?_append_right (by omega), Nat.add_sub_cancel_left, e2]
    rfl
end
end Go.Ev
