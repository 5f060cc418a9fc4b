/-
  Code, loops, whole functions.
-/
import Derived.Test.YthdgcninegkalacDoorEvX
import Derived.LoopN
namespace Go.Ev
open List (nodup_iff_count)

/-! ### Rows numbered anew -/
structure RenOk (f : Nat → Option Nat) (hp hp' : List Blk) (pl pl' : List (Option Pl)) : Prop where
  at_ : ∀ b b', f b = some b' → b' < hp'.length ∧ pl'.getD b' none = pl.getD b none ∧ getB hp' b' = renB f (getB hp b)

section
variable {E : Env} {w0 : World} {ok : Nat → Prop} {hp hp' : List Blk} {pl pl' : List (Option Pl)} {f : Nat → Option Nat}

theorem VCu {x : Value} (h : Plain x) : VC w0 ok hp' pl' .u [x] := by simp only [VC]; exact ⟨x, rfl, h⟩

mutual
theorem VC.ren (hf : RenOk f hp hp' pl pl') : ∀ {v : V} {cs : List Value}, VC w0 ok hp pl v cs → VC w0 ok hp' pl' (v.ren f) cs
  | .u, _, h => by simpa [V.ren, VC] using h
  | .int _ _, _, h => by simpa [V.ren, VC] using h
  | .bool _, _, h => by simpa [V.ren, VC] using h
  | .str _, _, h => by simpa [V.ren, VC] using h
  | .nil, _, h => by simpa [V.ren, VC] using h
  | .ro _ _, _, h => by simpa [V.ren, VC] using h
  | .rp _ _, _, h => by simpa [V.ren, VC] using h
  | .hd b, _, h => by
    have hp1 := h.plain
    simp only [VC] at h
    obtain ⟨⟨a, n, cap, rfl⟩, hlt, hm⟩ := h
    cases hb : f b with
    | none => simp only [V.ren, hb]; exact VCu (hp1 _ (by simp))
    | some b' =>
      obtain ⟨h1, h2, h3⟩ := hf.at_ b b' hb
      simp only [V.ren, hb, VC]
      refine ⟨⟨_, _, _, rfl⟩, h1, ?_⟩
      rw [h3]
      cases hg : getB hp b <;> simp only [renB]
      rw [hg] at hm
      unfold HdR at *; rw [h2]; exact hm
  | .hs b _ _, _, h => by
    have hp1 := h.plain
    simp only [VC] at h
    obtain ⟨⟨a, n, cap, rfl⟩, hlt, hm⟩ := h
    cases hb : f b with
    | none => simp only [V.ren, hb]; exact VCu (hp1 _ (by simp))
    | some b' =>
      obtain ⟨h1, h2, h3⟩ := hf.at_ b b' hb
      simp only [V.ren, hb, VC]
      refine ⟨⟨_, _, _, rfl⟩, h1, ?_⟩
      rw [h3]
      cases hg : getB hp b <;> simp only [renB]
      rw [hg] at hm
      unfold HdR at *; rw [h2]; exact hm
  | .pt b _ _, _, h => by
    have hp1 := h.plain
    simp only [VC] at h
    obtain ⟨⟨a, rfl⟩, hlt, hm⟩ := h
    cases hb : f b with
    | none => simp only [V.ren, hb]; exact VCu (hp1 _ (by simp))
    | some b' =>
      obtain ⟨h1, h2, h3⟩ := hf.at_ b b' hb
      simp only [V.ren, hb, VC]
      refine ⟨⟨_, rfl⟩, h1, ?_⟩
      rw [h3]
      cases hg : getB hp b <;> simp only [renB]
      rw [hg] at hm
      rw [h2]; exact hm
  | .ap b _ _ _, _, h => by
    have hp1 := h.plain
    simp only [VC] at h
    obtain ⟨⟨a, rfl⟩, hlt, hm⟩ := h
    cases hb : f b with
    | none => simp only [V.ren, hb]; exact VCu (hp1 _ (by simp))
    | some b' =>
      obtain ⟨h1, h2, h3⟩ := hf.at_ b b' hb
      simp only [V.ren, hb, VC]
      refine ⟨⟨_, rfl⟩, h1, ?_⟩
      rw [h3]
      cases hg : getB hp b <;> simp only [renB]
      rw [hg] at hm
      rw [h2]; exact hm
  | .tup _, _, h => by simp [VC] at h
  | .st l, _, h => by simp only [V.ren, VC] at h ⊢; exact VCs.ren hf h
theorem VCs.ren (hf : RenOk f hp hp' pl pl') : ∀ {l : List V} {cs : List Value}, VCs w0 ok hp pl l cs → VCs w0 ok hp' pl' (V.rens f l) cs
  | [], _, h => by simpa [V.rens, VCs] using h
  | v :: l, _, h => by
    simp only [V.rens, VCs] at h ⊢
    obtain ⟨c1, c2, rfl, h1, h2⟩ := h
    exact ⟨c1, c2, rfl, VC.ren hf h1, VCs.ren hf h2⟩
end

mutual
theorem VR.ren (hf : RenOk f hp hp' pl pl') : ∀ {v : V} {x : Value}, VR w0 ok hp pl v x → VR w0 ok hp' pl' (v.ren f) x
  | .u, _, _ => by simp [V.ren, VR]
  | .st l, _, h => by simp only [V.ren, VR] at h ⊢; obtain ⟨cs, e, h⟩ := h; exact ⟨cs, e, VCs.ren hf h⟩
  | .tup l, _, h => by simp only [V.ren, VR] at h ⊢; obtain ⟨cs, e, h⟩ := h; exact ⟨cs, e, VRs.ren hf h⟩
  | .int _ _, _, h => by simp only [V.ren, VR] at h ⊢; exact VC.ren (v := .int _ _) hf h
  | .bool _, _, h => by simp only [V.ren, VR] at h ⊢; exact VC.ren (v := .bool _) hf h
  | .str _, _, h => by simp only [V.ren, VR] at h ⊢; exact VC.ren (v := .str _) hf h
  | .nil, _, h => by simp only [V.ren, VR] at h ⊢; exact VC.ren (v := .nil) hf h
  | .ro _ _, _, h => by simp only [V.ren, VR] at h ⊢; exact VC.ren (v := .ro _ _) hf h
  | .rp _ _, _, h => by simp only [V.ren, VR] at h ⊢; exact VC.ren (v := .rp _ _) hf h
  | .hd b, _, h => by
    simp only [VR] at h
    have := VC.ren hf h
    simp only [V.ren] at this ⊢
    split at this <;> simp_all [VR]
  | .hs b _ _, _, h => by
    simp only [VR] at h
    have := VC.ren hf h
    simp only [V.ren] at this ⊢
    split at this <;> simp_all [VR]
  | .pt b _ _, _, h => by
    simp only [VR] at h
    have := VC.ren hf h
    simp only [V.ren] at this ⊢
    split at this <;> simp_all [VR]
  | .ap b _ _ _, _, h => by
    simp only [VR] at h
    have := VC.ren hf h
    simp only [V.ren] at this ⊢
    split at this <;> simp_all [VR]
theorem VRs.ren (hf : RenOk f hp hp' pl pl') : ∀ {l : List V} {xs : List Value}, VRs w0 ok hp pl l xs → VRs w0 ok hp' pl' (V.rens f l) xs
  | [], _, h => by simpa [V.rens, VRs] using h
  | v :: l, _, h => by
    simp only [V.rens, VRs] at h ⊢
    obtain ⟨x, r, e, h1, h2⟩ := h
    exact ⟨x, r, e, VR.ren hf h1, VRs.ren hf h2⟩
end

theorem TR.ren (hf : RenOk f hp hp' pl pl') {tv tv' : Array Value} {v : V} {x : Value} (h : TR w0 ok hp pl tv v x) : TR w0 ok hp' pl' tv' (v.ren f) x := VR.ren hf h
end

theorem addNew_nodup : ∀ (xs acc : List Nat), acc.Nodup → (addNew acc xs).Nodup
  | [], acc, h => by simpa [addNew] using h
  | b :: r, acc, h => by
    simp only [addNew]
    split
    · exact addNew_nodup r acc h
    · rename_i hn
      refine addNew_nodup r _ ?_
      rw [List.nodup_append]
      refine ⟨h, by simp, fun x hx y hy => ?_⟩
      simp only [List.mem_singleton] at hy
      subst hy
      intro e; subst e
      exact hn (by simpa using hx)

theorem close_nodup : ∀ (n : Nat) (h : List Blk) (acc : List Nat), acc.Nodup → (close n h acc).Nodup
  | 0, _, _, h => by simpa [close] using h
  | n + 1, hp, acc, h => by simp only [close]; exact close_nodup n hp _ (addNew_nodup _ _ h)

theorem keepT_getD (keep : List Nat) : ∀ (l : List V) (i t : Nat), (keepT keep i l).getD t .u = if keep.contains (i + t) then l.getD t .u else .u
  | [], i, t => by simp [keepT]
  | v :: l, i, 0 => by simp [keepT]
  | v :: l, i, t + 1 => by
    simp only [keepT, List.getD_cons_succ]
    rw [keepT_getD keep l (i + 1) t, show i + 1 + t = i + (t + 1) by omega]

theorem keepT_length (keep : List Nat) : ∀ (l : List V) (i : Nat), (keepT keep i l).length = l.length
  | [], i => rfl
  | v :: l, i => by simp [keepT, keepT_length keep l (i + 1)]
theorem rens_length (f : Nat → Option Nat) : ∀ (l : List V), (V.rens f l).length = l.length
  | [] => rfl
  | v :: l => by simp [V.rens, rens_length f l]
theorem rens_getD (f : Nat → Option Nat) : ∀ (l : List V) (t : Nat), (V.rens f l).getD t .u = (l.getD t .u).ren f
  | [], t => by simp [V.rens, V.ren]
  | v :: l, 0 => by simp [V.rens]
  | v :: l, t + 1 => by simp only [V.rens, List.getD_cons_succ]; exact rens_getD f l t

mutual
theorem ren_sz (f : Nat → Option Nat) : ∀ (v : V), (v.ren f).sz = v.sz
  | .st l => by simp only [V.ren, V.sz]; exact rens_sz f l
  | .hd b | .hs b _ _ | .pt b _ _ | .ap b _ _ _ => by simp only [V.ren]; split <;> rfl
  | .u | .int _ _ | .bool _ | .str _ | .nil | .ro _ _ | .rp _ _ | .tup _ => rfl
theorem rens_sz (f : Nat → Option Nat) : ∀ (l : List V), V.szs (V.rens f l) = V.szs l
  | [] => rfl
  | v :: l => by simp only [V.rens, V.szs, ren_sz f v, rens_sz f l]
end

theorem count_pick (B : Nat) : ∀ (l : List Nat) (FS : List (List Nat)), l.Nodup → (l.map fun b => FS.getD b []).flatten.count B ≤ FS.flatten.count B
  | [], FS, _ => by simp
  | b :: l, FS, hn => by
    rw [List.nodup_cons] at hn
    simp only [List.map_cons, List.flatten_cons, List.count_append]
    by_cases hb : b < FS.length
    · have h1 := occ_set FS b [] B hb
      have h2 := count_pick B l (FS.set b []) hn.2
      have h3 : (l.map fun b' => (FS.set b []).getD b' []) = l.map fun b' => FS.getD b' [] :=
        List.map_congr_left fun b' hb' => getD_set_ne' (by rintro rfl; exact hn.1 hb') _ _
      rw [h3] at h2
      simp only [List.count_nil] at h1
      omega
    · have h0 : FS.getD b [] = [] := by rw [List.getD_eq_getElem?_getD, List.getElem?_eq_none (by omega)]; rfl
      rw [h0]
      have := count_pick B l FS hn.2
      simpa using this

section
variable {P : Program} {E : Env} {w0 : World} {ok : Nat → Prop} {pl : List (Option Pl)} {FS : List (List Nat)} {s : St} {a : Act} {w : World}

theorem norm_sound (hc : Core E w0 ok pl FS s a w) (keep : List Nat) : ∃ pl' FS', Core E w0 ok pl' FS' (norm keep s) a w := by
  let tm := keepT keep 0 s.tm
  let l := close 4 s.hp (addNew [] (V.refss tm))
  have hl : l.Nodup := close_nodup _ _ _ (addNew_nodup _ _ (by simp))
  let f := idx l
  let hp' := l.map fun b => renB f (getB s.hp b)
  let pl' := l.map fun b => pl.getD b none
  let FS' := l.map fun b => FS.getD b []
  have hf : RenOk f s.hp hp' pl pl' := ⟨fun b b' e => by
    obtain ⟨h1, h2, _⟩ := List.findIdx?_eq_some_iff_getElem.1 e
    have h2 : l[b'] = b := by simpa using h2
    refine ⟨by simpa [hp'] using h1, ?_, ?_⟩
    · simp [pl', List.getD_eq_getElem?_getD, h1, h2]
    · simp [hp', getB, List.getD_eq_getElem?_getD, h1, h2]⟩
  have hcnt : ∀ B, FS'.flatten.count B ≤ FS.flatten.count B := fun B => count_pick B l FS hl
  refine ⟨pl', FS', hc.env, hc.lok, hc.ext, by simp [norm, pl', l, tm], by simp [norm, FS', l, tm], fun i hi => ?_, nodup_iff_count.2 fun B => Nat.le_trans (hcnt B) (nodup_iff_count.1 hc.nd B), fun B hB => ?_, hc.defs, ?_, fun t => ?_⟩
  · have hi' : i < l.length := by simpa [norm, l, tm] using hi
    have e1 : getB (norm keep s).hp i = renB f (getB s.hp l[i]) := by
      show getB hp' i = _
      simp [hp', getB, List.getD_eq_getElem?_getD, hi']
    have e2 : pl'.getD i none = pl.getD l[i] none := by simp [pl', List.getD_eq_getElem?_getD, hi']
    have e3 : FS'.getD i [] = FS.getD l[i] [] := by simp [FS', List.getD_eq_getElem?_getD, hi']
    rw [e1, e2, e3]
    by_cases hb : l[i] < s.hp.length
    · have := hc.blk l[i] hb
      generalize getB s.hp l[i] = blk at this
      cases blk with
      | dead => simpa [renB, BR] using this
      | box v =>
        simp only [BR, renB] at this ⊢
        rcases this with this | ⟨p, h1, h2, h3, h4, h5, cs, h6, h7, h8⟩
        · exact .inl this
        rw [ren_sz]
        exact .inr ⟨p, h1, h2, h3, h4, h5, cs, h6, h7, VC.ren hf h8⟩
      | arr e l' => simpa [renB, BR] using this
    · have h0 : getB s.hp l[i] = .dead := by rw [getB, List.getD_eq_getElem?_getD, List.getElem?_eq_none (by omega)]; rfl
      have h1 : FS.getD l[i] [] = [] := by rw [List.getD_eq_getElem?_getD, List.getElem?_eq_none (by rw [hc.fsl]; omega)]; rfl
      rw [h0, h1]
      simp [renB, BR]
  · have := List.one_le_count_iff.2 hB
    have := hcnt B
    exact hc.own B (List.one_le_count_iff.1 (by omega))
  · show a.tmps.size = (V.rens f tm).length
    rw [rens_length, keepT_length]; exact hc.tms
  · show TR w0 ok hp' pl' a.tmps ((V.rens f tm).getD t .u) _
    rw [rens_getD, keepT_getD]
    split
    · exact TR.ren hf (hc.tm t)
    · simp [V.ren, TR, VR]

/-! ### Code -/
def exOf : Ex → Exit
  | .normal => .normal
  | .exit id => .exit id
  | .ret => .ret

variable {T : TypeId → Option Ty} {C : FuncId → Option Sig}

/-- The loops of a code, with the blocks that they stand in. -/
def loopsOf : Nat → Code → List (Nat × Code)
  | b, .seq x y => loopsOf b x ++ loopsOf b y
  | b, .cond _ x y => loopsOf b x ++ loopsOf b y
  | _, .block id x => loopsOf id x
  | b, .loop x => (b, x) :: loopsOf b x
  | _, _ => []
def loopN (c : Code) (i : Nat) : Code := ((loopsOf 0 c).getD i (0, .skip)).2

/-- A loop does what is told of it. -/
def LoopOk (T : TypeId → Option Ty) (C : FuncId → Option Sig) (L : Nat → Option LoopSum) (K : Nat) (keep : Nat → List Nat) (bid : Nat) (x : Code) : Prop :=
  ∀ f, L bid = some f → ∀ (α : Type) (s : St) (k : Ex → St → Option α) (r : α), f α s k = some r → ∃ n, evLoop (fun s k => evC T C L K keep bid x s k) (norm (keep bid)) k n s = some r
def LoopsOk (T : TypeId → Option Ty) (C : FuncId → Option Sig) (L : Nat → Option LoopSum) (K : Nat) (keep : Nat → List Nat) (l : List (Nat × Code)) : Prop := ∀ p ∈ l, LoopOk T C L K keep p.1 p.2

theorem evC_sound {α : Type} (hM : P.follows .mixedOrders = true) (hT : ∀ t ty, T t = some ty → TyOk P t ty) (hC : ∀ f sg, C f = some sg → ConOk E P f sg) (hD : 16 ≤ P.depth) {L : Nat → Option LoopSum} {K : Nat} {keep : Nat → List Nat} {r : α} :
    ∀ (c : Code) (bid : Nat) {pl : List (Option Pl)} {FS : List (List Nat)} {s : St} {a : Act} {w : World} {k : Ex → St → Option α} {Q : Exit → Act → World → Prop}, LoopsOk T C L K keep (loopsOf bid c) → Core E w0 ok pl FS s a w →
      evC T C L K keep bid c s k = some r → (∀ e pl' FS' s' a' w', Core E w0 ok pl' FS' s' a' w' → k e s' = some r → Q (exOf e) a' w') → c.wp P Q a w := by
  intro c
  induction c with
  | skip => intro bid pl FS s a w k Q _ hc h hQ; exact wp_skip (hQ .normal _ _ _ _ _ hc h)
  | label l => intro bid pl FS s a w k Q _ hc h hQ; exact wp_label (hQ .normal _ _ _ _ _ hc h)
  | exit id => intro bid pl FS s a w k Q _ hc h hQ; exact wp_exit (hQ (.exit id) _ _ _ _ _ hc h)
  | ret => intro bid pl FS s a w k Q _ hc h hQ; exact wp_ret (hQ .ret _ _ _ _ _ hc h)
  | region id ops draw =>
    intro bid pl FS s a w k Q hL hc h hQ
    simp only [evC] at h
    cases draw with
    | false => exact wp_region_list (evOps_sound hT hC hD (fun pl' FS' s' a' w' hc' hk => hQ .normal pl' FS' s' a' w' hc' hk) ops.toList hc h)
    | true => exact evDraw_sound hM hT hC hD hc h (fun pl' FS' s' a' w' hc' hk => hQ .normal pl' FS' s' a' w' hc' hk)
  | seq x y ihx ihy =>
    intro bid pl FS s a w k Q hL hc h hQ
    simp only [evC] at h
    refine wp_seq (ihx bid (fun p hp => hL p (by simp only [loopsOf, List.mem_append]; exact .inl hp)) hc h fun e pl' FS' s' a' w' hc' hk => ?_)
    cases e with
    | normal => exact ihy bid (fun p hp => hL p (by simp only [loopsOf, List.mem_append]; exact .inr hp)) hc' hk hQ
    | exit id => exact hQ (.exit id) _ _ _ _ _ hc' hk
    | ret => exact hQ .ret _ _ _ _ _ hc' hk
  | cond x y z ihy ihz =>
    intro bid pl FS s a w k Q hL hc h hQ
    simp only [evC] at h
    have hl := look_VR hc (ctx := none) (by simp) none x
    split at h <;> try (simp only [reduceCtorEq] at h; done)
    rename_i t ht
    rw [ht] at hl
    cases t with
    | true => exact wp_cond_true hl.bool (ihy bid (fun p hp => hL p (by simp only [loopsOf, List.mem_append]; exact .inl hp)) hc h hQ)
    | false => exact wp_cond_false hl.bool (ihz bid (fun p hp => hL p (by simp only [loopsOf, List.mem_append]; exact .inr hp)) hc h hQ)
  | block id x ih =>
    intro bid pl FS s a w k Q hL hc h hQ
    simp only [evC] at h
    refine wp_block (ih id hL hc h fun e pl' FS' s' a' w' hc' hk => ?_)
    cases e with
    | normal => exact hQ .normal _ _ _ _ _ hc' hk
    | exit i =>
      simp only [exOf, Exit.inBlock]
      simp only at hk
      split
      · rename_i hi
        rw [if_pos hi] at hk
        exact hQ .normal _ _ _ _ _ hc' hk
      · rename_i hi
        rw [if_neg hi] at hk
        exact hQ (.exit i) _ _ _ _ _ hc' hk
    | ret => exact hQ .ret _ _ _ _ _ hc' hk
  | loop x ih =>
    intro bid pl FS s a w k Q hL hc h hQ
    simp only [evC] at h
    have hL1 := hL (bid, x) (by simp [loopsOf])
    have hL2 : LoopsOk T C L K keep (loopsOf bid x) := fun p hp => hL p (by simp only [loopsOf, List.mem_cons]; exact .inr hp)
    obtain ⟨pl1, FS1, hc1⟩ := norm_sound hc (keep bid)
    have hn : ∃ n, evLoop (fun s k => evC T C L K keep bid x s k) (norm (keep bid)) k n (norm (keep bid) s) = some r := by
      split at h
      · rename_i f hf
        exact hL1 f hf α _ _ _ h
      · exact ⟨K, h⟩
    obtain ⟨n, hn⟩ := hn
    refine wp_loop_rounds n ?_
    have key : ∀ (n : Nat) (pl1 : List (Option Pl)) (FS1 : List (List Nat)) (s1 : St) (a : Act) (w : World), Core E w0 ok pl1 FS1 s1 a w →
        evLoop (fun s k => evC T C L K keep bid x s k) (norm (keep bid)) k n s1 = some r → Code.rounds P x Q n a w := by
      intro n
      induction n with
      | zero => intro pl1 FS1 s1 a w _ h; simp [evLoop] at h
      | succ n ihn =>
        intro pl1 FS1 s1 a w hc1 h
        simp only [evLoop] at h
        simp only [Code.rounds]
        refine ih bid hL2 hc1 h fun e pl' FS' s' a' w' hc' hk => ?_
        obtain ⟨pl2, FS2, hc2⟩ := norm_sound hc' (keep bid)
        cases e with
        | normal => exact ihn pl2 FS2 _ _ _ hc2 hk
        | exit id => exact hQ (.exit id) _ _ _ _ _ hc2 hk
        | ret => exact hQ .ret _ _ _ _ _ hc2 hk
    exact key n _ _ _ _ _ hc1 hn
  | _ => intro bid pl FS s a w k Q _ hc h hQ; simp [evC] at h
end
end Go.Ev
