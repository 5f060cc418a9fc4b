/-
  Data of values that are read; bounds of slicings; structs of parts.
-/
import Derived.Test.YthdgcninegkalacDoorEvH
import Derived.Laws.Tables
import Derived.Laws.BytesArg
import Derived.IntWalk
namespace Go.Ev

section
variable {P : Program} {E : Env} {w0 : World} {ok : Nat → Prop} {pl : List (Option Pl)} {FS : List (List Nat)} {s : St} {a : Act} {w : World} {ctx : Option (Nat × Bool)}

/-! ### Arguments -/
theorem Rows.read {e : Ty} {l : List Dat} {B o : Nat} {F' : List Nat} (h : Rows w e l B o F') {i : Nat} (hi : i < l.length) :
    ∃ cs', cs'.length = e.sz ∧ (∀ j, j < e.sz → cel w B (o + i * e.sz + j) = cs'[j]?) ∧ RO w (fun _ => True) e (l.getD i (.n [])) cs' := by
  obtain ⟨Fs, _, _, hel⟩ := h
  obtain ⟨cs', h1, h2, h3⟩ := hel i hi
  exact ⟨cs', h1, h2, OW.toRO (fun _ _ => trivial) h3⟩

theorem RO.now (hc : Core E w0 ok pl FS s a w) {t : Ty} {d : Dat} {cs : List Value} (h : RO w0 ok t d cs) : RO w (fun _ => True) t d cs :=
  RO.kept ⟨hc.ext.size, fun B ho hB => hc.ext.block B hB ho⟩ (fun _ _ _ => trivial) h

mutual
theorem argD_sound (hc : Core E w0 ok pl FS s a w) : ∀ {t : Ty} {v : V} {cs : List Value} {d : Dat}, VC w0 ok s.hp pl v cs → argD s.hp t v = some d → RO w (fun _ => True) t d cs
  | .int k, v, cs, d, hv, h => by
    cases v <;> simp only [argD, reduceCtorEq] at h
    split at h <;> simp only [reduceCtorEq, Option.some.injEq] at h
    rename_i ek
    subst h; subst ek
    simpa [VC, RO, Dat.int] using hv
  | .bool, v, cs, d, hv, h => by
    cases v <;> simp only [argD, reduceCtorEq, Option.some.injEq] at h
    subst h
    simpa [VC, RO, Dat.bool] using hv
  | .str, v, cs, d, hv, h => by
    cases v <;> simp only [argD, reduceCtorEq, Option.some.injEq] at h
    subst h
    simpa [VC, RO, Dat.str] using hv
  | .sl e, v, cs, d, hv, h => by
    cases v <;> simp only [argD, reduceCtorEq] at h
    case nil =>
      simp only [Option.some.injEq] at h; subst h
      simp only [VC] at hv; subst hv
      simp only [RO]
      exact ⟨none, 0, rfl, by simp [Dat.len, Dat.kids], fun i hi => by simp [Dat.len, Dat.kids] at hi⟩
    case ro e' d' =>
      split at h <;> simp only [reduceCtorEq, Option.some.injEq] at h
      rename_i hbeq
      have := Ty.eq_of_beq _ _ hbeq
      subst this; subst h
      simp only [VC] at hv
      exact RO.now hc hv
    case hd b =>
      cases hb : getB s.hp b with
      | dead => simp [hb] at h
      | box _ => simp [hb] at h
      | arr e' l =>
        simp only [hb] at h
        split at h <;> simp only [reduceCtorEq, Option.some.injEq] at h
        rename_i hbeq
        have := Ty.eq_of_beq _ _ hbeq
        subst this; subst h
        simp only [VC, hb] at hv
        obtain ⟨_, hlt, a', cap, ecs, hcap, hhd⟩ := hv
        simp only [RO]
        refine ⟨a', cap, ecs, hcap, fun i hi => ?_⟩
        rcases hhd with ⟨h0, _⟩ | ⟨p, hpb, ea, hroom⟩
        · simp only [Dat.len, Dat.kids] at hi; omega
        · obtain ⟨hB, F', hrows⟩ := hc.arr hb hlt hpb
          obtain ⟨cs', h1, h2, h3⟩ := hrows.read hi
          exact ⟨p.B, p.o + 0 * e.sz, ea, trivial, hB, cs', h1, fun j hj => by rw [Nat.zero_mul, Nat.add_zero]; exact h2 j hj, h3⟩
    case hs b lo len =>
      cases hb : getB s.hp b with
      | dead => simp [hb] at h
      | box _ => simp [hb] at h
      | arr e' l =>
        simp only [hb] at h
        split at h <;> simp only [reduceCtorEq, Option.some.injEq] at h
        rename_i hbeq
        have := Ty.eq_of_beq _ _ hbeq
        subst this; subst h
        simp only [VC, hb] at hv
        obtain ⟨_, hlt, ⟨a', cap, ecs, hcap, hhd⟩, hlen⟩ := hv
        have hdl : (Dat.n ((l.drop lo).take len)).len = len := by simp [Dat.len, Dat.kids]; omega
        simp only [RO]
        refine ⟨a', cap, by rw [hdl]; exact ecs, by rw [hdl]; exact hcap, fun i hi => ?_⟩
        rw [hdl] at hi
        rcases hhd with ⟨h0, _⟩ | ⟨p, hpb, ea, hroom⟩
        · omega
        · obtain ⟨hB, F', hrows⟩ := hc.arr hb hlt hpb
          obtain ⟨cs', h1, h2, h3⟩ := hrows.read (i := lo + i) (by omega)
          refine ⟨p.B, p.o + lo * e.sz, ea, trivial, hB, cs', h1, fun j hj => ?_, ?_⟩
          · rw [← h2 j hj, Nat.add_mul]; congr 1; omega
          · have : (Dat.n ((l.drop lo).take len)).fld i = l.getD (lo + i) (.n []) := by
              simp [Dat.fld, Dat.kids, List.getD_eq_getElem?_getD, hi]
            rw [this]; exact h3
  | .st fs, v, cs, d, hv, h => by
    cases v <;> simp only [argD, reduceCtorEq] at h
    rename_i l
    cases hg : argDs s.hp fs l with
    | none => simp [hg] at h
    | some ds =>
      simp only [hg, Option.some.injEq] at h
      subst h
      simp only [VC] at hv
      simp only [RO]
      exact argDs_sound hc (pre := []) hv hg
theorem argDs_sound (hc : Core E w0 ok pl FS s a w) : ∀ {ts : List Ty} {l : List V} {cs : List Value} {ds pre : List Dat}, VCs w0 ok s.hp pl l cs → argDs s.hp ts l = some ds → ROs w (fun _ => True) ts pre.length (.n (pre ++ ds)) cs
  | [], l, cs, ds, pre, hv, h => by
    cases l <;> simp only [argDs, reduceCtorEq, Option.some.injEq] at h
    simp only [VCs] at hv
    simp [ROs, hv]
  | t :: ts, l, cs, ds, pre, hv, h => by
    cases l with
    | nil => simp only [argDs, reduceCtorEq] at h
    | cons v l =>
      simp only [argDs] at h
      cases h1 : argD s.hp t v with
      | none => simp [h1] at h
      | some d =>
        simp only [h1] at h
        cases h2 : argDs s.hp ts l with
        | none => simp [h2] at h
        | some ds' =>
          simp only [h2, Option.some.injEq] at h
          subst h
          simp only [VCs] at hv
          obtain ⟨c1, c2, rfl, hv1, hv2⟩ := hv
          simp only [ROs]
          refine ⟨c1, c2, rfl, ?_, ?_⟩
          · have : (Dat.n (pre ++ d :: ds')).fld pre.length = d := by simp [Dat.fld, Dat.kids, List.getD_eq_getElem?_getD]
            rw [this]; exact argD_sound hc hv1 h1
          · have := argDs_sound hc (pre := pre ++ [d]) hv2 h2
            simpa using this
end

theorem argD_cv {t : Ty} {v : V} {x : Value} {d : Dat} (hv : VR w0 ok s.hp pl v x) (h : argD s.hp t v = some d) : ∃ cs, x = cv t cs ∧ VC w0 ok s.hp pl v cs := by
  cases t <;> cases v <;> simp only [argD, reduceCtorEq] at h
  case st.st =>
    simp only [VR] at hv
    obtain ⟨cs, rfl, hv⟩ := hv
    exact ⟨cs.toList, by simp [cv, Ty.isSt], by simpa [VC] using hv⟩
  all_goals
    simp only [VR] at hv
    exact ⟨[x], by simp [cv, Ty.isSt], hv⟩


section
variable {hp : List Blk}
theorem VR.toVC {v : V} {x : Value} (h : VR w0 ok hp pl v x) (hm : v.memT = true) : VC w0 ok hp pl v x.cells.toList := by
  cases v
  case u => simp [V.memT] at hm
  case tup => simp [V.memT, V.mem] at hm
  case st l => simp only [VR] at h; obtain ⟨cs, rfl, h⟩ := h; simpa [VC, Value.cells] using h
  all_goals
    simp only [VR] at h
    have hpl := h.plain x (by simp)
    have hcells : x.cells.toList = [x] := by
      cases x <;> first | rfl | exact absurd rfl (hpl.1 _)
    rw [hcells]; exact h
end

/-! ### Bytes as a text -/
theorem bytes_run {src dst te : TypeId} (hs : P.underlying src = some (.slice te)) (he : P.underlying te = some (.int .u8)) (hd : P.underlying dst = some .string) {ok' : Nat → Prop} {d : Dat} {x : Value}
    (h : RO w ok' (.sl (.int .u8)) d [x]) : (convert src dst x).run P w = .ok (.string (bytesOf d.kids)) w := by
  simp only [RO] at h
  obtain ⟨a, cap, ex, hc, hel⟩ := h
  simp only [List.cons.injEq, and_true] at ex
  subst ex
  by_cases h0 : d.len = 0
  · have hk : d.kids = [] := List.length_eq_zero_iff.1 h0
    rw [run_convert_bytes_string w src dst te a d.len cap hs he hd, h0, hk]
    cases a with
    | none => simp [Conv.bytesToString, bytesOf]; rfl
    | some ad => simp [Conv.bytesToString, bytesOf, loadCells, loadCellsFrom]; rfl
  · obtain ⟨B, o, ea, _⟩ := hel 0 (by omega)
    subst ea
    have := run_convert_bytes_arg w src te hs he B o d.len cap (d.kids.map Dat.int) (by simp [Dat.len]) (fun i hi => by
      obtain ⟨B', o', ea, _, _, cs', hl, hcell, hr⟩ := hel i hi
      simp only [Option.some.injEq, Addr.mk.injEq] at ea
      obtain ⟨rfl, rfl, _⟩ := ea
      have h1 := hcell 0 (by simp [Ty.sz])
      rw [hr] at h1
      simp only [Ty.sz, Nat.mul_one, Nat.add_zero, List.getElem?_cons_zero] at h1
      have hi' : i < d.kids.length := hi
      have : (d.kids.map Dat.int).getD i 0 = (d.fld i).int := by simp [Dat.fld, List.getD_eq_getElem?_getD, hi']
      rw [this]; exact h1) dst hd
    rw [this]
    simp [bytesOf, strOfNums, Function.comp_def]

/-! ### Bounds -/
theorem bnd_val (look : ∀ (t : Option Ty) (x : Operand), VR w0 ok s.hp pl (Ev.look ctx s.tm t x) (a.eval x)) {d n : Int} {o : Option Operand} (h : bnd ctx s.tm d o = some n) :
    (o = none ∧ n = d) ∨ ∃ x k, o = some x ∧ a.eval x = .int k n := by
  cases o with
  | none => simp only [bnd, Option.some.injEq] at h; exact .inl ⟨rfl, h.symm⟩
  | some x =>
    simp only [bnd] at h
    have hl := look none x
    split at h <;> simp only [reduceCtorEq, Option.some.injEq] at h
    rename_i k m hm
    subst h
    rw [hm] at hl
    exact .inr ⟨x, k, rfl, by simpa [VR, VC] using hl⟩

theorem bounds_run {lo hi : Option Operand} {l h : Int} {len cap : Nat} {b : Bool} (hl : (lo = none ∧ l = 0) ∨ ∃ x k, lo = some x ∧ a.eval x = .int k l) (hh : (hi = none ∧ h = len) ∨ ∃ x k, hi = some x ∧ a.eval x = .int k h)
    (hb : bndB l h len = true) (hc : len ≤ cap) : (Instr.sliceBounds b len cap (lo.map a.eval) (hi.map a.eval) none).run P w = .ok (l.toNat, h.toNat, cap) w := by
  simp only [bndB, Bool.and_eq_true, decide_eq_true_eq] at hb
  obtain ⟨h1, h2, h3⟩ := hb
  have e1 : ∀ (x : Value) (k : IntKind) (n : Int) (y : Nat) (c : BoundsCode), x = .int k n → 0 ≤ n → n ≤ y → (Instr.sliceBound x y c).run P w = .ok n.toNat w := by
    rintro x k n y c rfl hn hy
    simp [Instr.sliceBound, asIntOf, hn, hy]
  have hcap : h ≤ (cap : Int) := by omega
  have hh' : ((h.toNat : Nat) : Int) = h := by omega
  rcases hl with ⟨rfl, rfl⟩ | ⟨x, k, rfl, ex⟩ <;> rcases hh with ⟨rfl, rfl⟩ | ⟨y, k', rfl, ey⟩
  · simp [Instr.sliceBounds]
  · simp [Instr.sliceBounds, e1 _ _ _ _ _ ey (by omega) hcap]
  · have := e1 _ _ _ len (if (none : Option Value).isSome then .slice3C else .sliceB) ex h1 h2
    simp only [Option.isSome_none, Bool.false_eq_true, if_false] at this
    simp [Instr.sliceBounds, this]
  · have := e1 _ _ _ h.toNat (if (none : Option Value).isSome then .slice3C else .sliceB) ex h1 (by omega)
    simp only [Option.isSome_none, Bool.false_eq_true, if_false] at this
    simp [Instr.sliceBounds, e1 _ _ _ _ _ ey (by omega) hcap, this]

/-! ### Structs of parts -/
theorem foldl_put (cs : List Value) : ∀ (k off : Nat) (A : Array Value) (c1 c2 c3 : List Value), A.toList = c1 ++ (c2 ++ c3) → c1.length = off + k → c2.length = cs.length →
    ((cs.zipIdx k).foldl (fun A (x : Value × Nat) => A.setIfInBounds (off + x.2) x.1) A).toList = c1 ++ (cs ++ c3) := by
  induction cs with
  | nil => intro k off A c1 c2 c3 h1 _ h3; have : c2 = [] := List.length_eq_zero_iff.1 h3; subst this; simpa using h1
  | cons x cs ih =>
    intro k off A c1 c2 c3 h1 h2 h3
    cases c2 with
    | nil => simp at h3
    | cons y c2 =>
      simp only [List.zipIdx_cons, List.foldl_cons]
      rw [ih (k + 1) off _ (c1 ++ [x]) c2 c3 ?_ (by simp [h2]; omega) (by simpa using h3)]
      · simp
      · rw [Array.toList_setIfInBounds, h1, ← h2, List.set_append_right _ _ (Nat.le_refl _)]
        simp

theorem V.szs_set {l : List V} {i : Nat} {v x : V} (hi : l[i]? = some x) (hs : v.sz = x.sz) : V.szs (l.set i v) = V.szs l := by
  induction l generalizing i with
  | nil => simp
  | cons y l ih =>
    cases i with
    | zero => simp only [List.getElem?_cons_zero, Option.some.injEq] at hi; subst hi; simp [V.szs, hs]
    | succ i => simp only [List.getElem?_cons_succ] at hi; simp [V.szs, ih hi]
theorem szs_take {l : List V} {fs : List Ty} (h : ∀ (j : Nat) x t, l[j]? = some x → fs[j]? = some t → x.sz = t.sz) (hl : l.length = fs.length) (i : Nat) : V.szs (l.take i) = Ty.szs (fs.take i) := by
  induction l generalizing fs i with
  | nil => cases fs with
    | nil => simp [V.szs, Ty.szs]
    | cons _ _ => simp at hl
  | cons x l ih =>
    cases fs with
    | nil => simp at hl
    | cons t fs =>
      cases i with
      | zero => simp [V.szs, Ty.szs]
      | succ i =>
        simp only [List.take_succ_cons, V.szs, Ty.szs]
        rw [h 0 x t rfl rfl, ih (fun j x t h1 h2 => h (j + 1) x t (by simpa using h1) (by simpa using h2)) (by simpa using hl) i]

theorem places_of : ∀ {l : List Field} {o : Nat} {fs : List Ty}, TysOk P l o fs → ∃ pls : List (Nat × Nat), l.mapM (fun f => (P.info? f.type).map fun i => (f.offset, i.size)) = some pls ∧ pls.length = fs.length ∧
    ∀ (j : Nat) t, fs[j]? = some t → pls[j]? = some (o + Ty.szs (fs.take j), t.sz)
  | [], o, fs, h => by
    cases fs with
    | nil => exact ⟨[], by simp, rfl, fun j t h => by simp at h⟩
    | cons _ _ => simp [TysOk] at h
  | f :: l, o, fs, h => by
    cases fs with
    | nil => simp [TysOk] at h
    | cons t fs =>
      simp only [TysOk] at h
      obtain ⟨ho, _, _, hty, hts⟩ := h
      obtain ⟨pls, h1, h2, h3⟩ := places_of hts
      obtain ⟨i, hi, _, hsz, _⟩ := hty.row
      refine ⟨(f.offset, t.sz) :: pls, by simp [List.mapM_cons, hi, hsz, h1], by simp [h2], fun j u hj => ?_⟩
      cases j with
      | zero => simp only [List.getElem?_cons_zero, Option.some.injEq] at hj; subst hj; simp [ho, Ty.szs]
      | succ j =>
        simp only [List.getElem?_cons_succ] at hj ⊢
        rw [h3 j u hj]
        simp [Ty.szs]; omega

theorem zeroVs_len : ∀ (fs : List Ty), (zeroVs fs).length = fs.length
  | [] => rfl
  | t :: ts => by simp [zeroVs, zeroVs_len ts]
mutual
theorem zeroV_sz : ∀ (t : Ty), (zeroV t).sz = t.sz
  | .int _ | .bool | .str | .sl _ => rfl
  | .st fs => by simp only [zeroV, V.sz, Ty.sz]; exact zeroVs_szs fs
theorem zeroVs_szs : ∀ (fs : List Ty), V.szs (zeroVs fs) = Ty.szs fs
  | [] => rfl
  | t :: ts => by simp only [zeroVs, V.szs, Ty.szs, zeroV_sz t, zeroVs_szs ts]
end
theorem zeroVs_sz : ∀ (fs : List Ty) (j : Nat) (x : V) (t : Ty), (zeroVs fs)[j]? = some x → fs[j]? = some t → x.sz = t.sz
  | [], j, x, t, _, h => by simp at h
  | u :: ts, 0, x, t, h1, h2 => by simp only [zeroVs, List.getElem?_cons_zero, Option.some.injEq] at h1 h2; subst h1; subst h2; exact zeroV_sz u
  | u :: ts, j + 1, x, t, h1, h2 => by simp only [zeroVs, List.getElem?_cons_succ] at h1 h2; exact zeroVs_sz ts j x t h1 h2

theorem buildV_sound (look : ∀ (t : Option Ty) (x : Operand), VR w0 ok s.hp pl (Ev.look ctx s.tm t x) (a.eval x)) {fs : List Ty} {place : Nat → Option (Nat × Nat)} (hp : ∀ (j : Nat) t, fs[j]? = some t → place j = some (Ty.szs (fs.take j), t.sz)) :
    ∀ {parts : List (Nat × Operand)} {l l' : List V} {A : Array Value}, buildV ctx s.tm fs parts l = some l' → l.length = fs.length → (∀ (j : Nat) x t, l[j]? = some x → fs[j]? = some t → x.sz = t.sz) → VCs w0 ok s.hp pl l A.toList →
      ∃ A', Instr.fill place A (parts.map fun x => (x.1, a.eval x.2)) = some A' ∧ VCs w0 ok s.hp pl l' A'.toList
  | [], l, l', A, h, _, _, hv => by
    simp only [buildV, Option.some.injEq] at h
    subst h
    exact ⟨A, by simp [Instr.fill], hv⟩
  | (i, x) :: r, l, l', A, h, hl, hs, hv => by
    simp only [buildV] at h
    cases hi : fs[i]? with
    | none => simp [hi] at h
    | some t =>
      simp only [hi] at h
      split at h <;> try (simp only [reduceCtorEq] at h; done)
      rename_i hcond
      obtain ⟨hsz, hst, hm⟩ := hcond
      have hlt : i < l.length := by
        rcases Nat.lt_or_ge i fs.length with h' | h'
        · omega
        · rw [List.getElem?_eq_none h'] at hi; cases hi
      have hli : l[i]? = some l[i] := List.getElem?_eq_getElem hlt
      have hvx := (look (some t) x).toVC hm
      have hlen := hvx.len
      obtain ⟨c1, c2, c3, e1, e2, e3, hput⟩ := (show VC w0 ok s.hp pl (.st l) A.toList by simpa [VC] using hv).at [i] (x := l[i]) (by simp [vat, hli])
      have hoff : c1.length = Ty.szs (fs.take i) := by
        rw [e2]; simp only [voff, Nat.add_zero]; exact szs_take hs hl i
      have h2 := e3.len
      have hs' : ∀ (j : Nat) y u, (l.set i (Ev.look ctx s.tm (some t) x))[j]? = some y → fs[j]? = some u → y.sz = u.sz := fun j y u h1 h2 => by
        by_cases e : i = j
        · subst e
          rw [List.getElem?_set_self hlt] at h1
          simp only [Option.some.injEq] at h1
          rw [hi] at h2
          simp only [Option.some.injEq] at h2
          rw [← h1, ← h2]; exact hsz
        · rw [List.getElem?_set_ne e] at h1; exact hs j y u h1 h2
      have hsz0 : (l[i]).sz = t.sz := hs i _ t hli hi
      have hfold := foldl_put (a.eval x).cells.toList 0 (Ty.szs (fs.take i)) A c1 c2 c3 e1 (by omega) (by rw [hlen, h2, hsz0, hsz])
      have hnew := hput _ _ hvx
      simp only [vset, List.getD_eq_getElem?_getD, hli, Option.getD_some, VC] at hnew
      have hAl : A.size = c1.length + (c2.length + c3.length) := by rw [← Array.length_toList, e1]; simp
      have hz : (a.eval x).cells.size = t.sz := by rw [← Array.length_toList, hlen, hsz]
      have hfold' : ((a.eval x).cells.zipIdx.foldl (fun (cs : Array Value) (x : Value × Nat) => cs.setIfInBounds (Ty.szs (fs.take i) + x.2) x.1) A).toList = c1 ++ ((a.eval x).cells.toList ++ c3) := by
        rw [← Array.foldl_toList, Array.toList_zipIdx]; exact hfold
      obtain ⟨A', h1, h3⟩ := buildV_sound look hp (A := (a.eval x).cells.zipIdx.foldl (fun (cs : Array Value) (x : Value × Nat) => cs.setIfInBounds (Ty.szs (fs.take i) + x.2) x.1) A) h (by simpa using hl) hs' (by rw [hfold']; exact hnew)
      refine ⟨A', ?_, h3⟩
      simp only [List.map_cons, Instr.fill, hp i t hi]
      have hc1 : ((a.eval x).cells.size ≠ t.sz) = False := by simp [hz]
      have hc2 : (Ty.szs (fs.take i) + (a.eval x).cells.size > A.size) = False := by simp [hz, hAl]; omega
      simp only [hc1, hc2, decide_false, bne_self_eq_false, Bool.or_self, Bool.false_eq_true, if_false, ne_eq, not_true, gt_iff_lt]
      simpa [hz] using h1
end
end Go.Ev
