/-
  Rows that grow: elements laid side by side, and appended.
-/
import Derived.Test.YthdgcninegkalacDoorEvK
import Derived.Deep.AppendSrc
import Derived.IntWalk
namespace Go.Ev
open List (nodup_iff_count)

/-- Elements side by side: their cells, data, blocks. -/
def Elems (w : World) (e : Ty) (A : List Value) (l : List Dat) (Fs : List (List Nat)) : Prop :=
  Fs.length = l.length ∧ A.length = l.length * e.sz ∧ ∀ i, i < l.length → OW w e (l.getD i (.n [])) ((A.drop (i * e.sz)).take e.sz) (Fs.getD i [])

section
variable {w w' : World} {e : Ty} {A A1 A2 : List Value} {l l1 l2 : List Dat} {Fs Fs1 Fs2 : List (List Nat)}

theorem succ_le_mul {i n k : Nat} (h : i < n) : i * k + k ≤ n * k := by
  have := Nat.mul_le_mul_right k (Nat.succ_le_of_lt h)
  simpa [Nat.succ_mul] using this

theorem Elems.nil : Elems w e [] [] [] := ⟨rfl, by simp, fun i h => by simp at h⟩

theorem Elems.kept (hk : ∀ B ∈ Fs.flatten, w'.heap[B]? = w.heap[B]?) (h : Elems w e A l Fs) : Elems w' e A l Fs :=
  ⟨h.1, h.2.1, fun i hi => OW.kept (fun B hB => hk B (mem_flatten_getD hB)) (h.2.2 i hi)⟩

theorem take_drop_eq {A : List Value} {i n : Nat} (h : i + n ≤ A.length) : ((A.drop i).take n).length = n := by
  rw [List.length_take, List.length_drop]; omega

theorem Elems.append (h1 : Elems w e A1 l1 Fs1) (h2 : Elems w e A2 l2 Fs2) : Elems w e (A1 ++ A2) (l1 ++ l2) (Fs1 ++ Fs2) := by
  obtain ⟨a1, a2, a3⟩ := h1
  obtain ⟨b1, b2, b3⟩ := h2
  refine ⟨by simp [a1, b1], by simp [a2, b2, Nat.add_mul], fun i hi => ?_⟩
  simp only [List.length_append] at hi
  by_cases hl : i < l1.length
  · have hb := succ_le_mul (k := e.sz) hl
    have e1 : (l1 ++ l2).getD i (.n []) = l1.getD i (.n []) := by simp [List.getD_eq_getElem?_getD, List.getElem?_append_left hl]
    have e2 : (Fs1 ++ Fs2).getD i [] = Fs1.getD i [] := by simp [List.getD_eq_getElem?_getD, List.getElem?_append_left (show i < Fs1.length by omega)]
    have e3 : ((A1 ++ A2).drop (i * e.sz)).take e.sz = (A1.drop (i * e.sz)).take e.sz := by
      rw [List.drop_append_of_le_length (by omega), List.take_append_of_le_length (by rw [List.length_drop]; omega)]
    rw [e1, e2, e3]; exact a3 i hl
  · have hj : i - l1.length < l2.length := by omega
    have e1 : (l1 ++ l2).getD i (.n []) = l2.getD (i - l1.length) (.n []) := by simp [List.getD_eq_getElem?_getD, List.getElem?_append_right (Nat.le_of_not_lt hl)]
    have e2 : (Fs1 ++ Fs2).getD i [] = Fs2.getD (i - l1.length) [] := by rw [← a1]; simp [List.getD_eq_getElem?_getD, List.getElem?_append_right (show Fs1.length ≤ i by omega)]
    have hm : i * e.sz = l1.length * e.sz + (i - l1.length) * e.sz := by rw [← Nat.add_mul]; congr 1; omega
    have e3 : (A1 ++ A2).drop (i * e.sz) = A2.drop ((i - l1.length) * e.sz) := by
      rw [hm, ← a2, List.drop_append]
      simp
    rw [e1, e2, e3]; exact b3 _ hj

theorem Elems.set (h : Elems w e A l Fs) {i : Nat} (hi : i < l.length) {d : Dat} {cs : List Value} {F : List Nat} (ho : OW w e d cs F) :
    Elems w e (A.take (i * e.sz) ++ (cs ++ A.drop (i * e.sz + e.sz))) (l.set i d) (Fs.set i F) := by
  obtain ⟨a1, a2, a3⟩ := h
  have hlen := ho.len
  have hb := succ_le_mul (k := e.sz) hi
  have hAl : (A.take (i * e.sz) ++ (cs ++ A.drop (i * e.sz + e.sz))).length = l.length * e.sz := by
    simp only [List.length_append, List.length_take, List.length_drop]; omega
  have hget : ∀ k, (A.take (i * e.sz) ++ (cs ++ A.drop (i * e.sz + e.sz)))[k]? = if i * e.sz ≤ k ∧ k < i * e.sz + e.sz then cs[k - i * e.sz]? else A[k]? := by
    intro k
    have hl1 : (A.take (i * e.sz)).length = i * e.sz := by rw [List.length_take]; omega
    by_cases h1 : k < i * e.sz
    · rw [List.getElem?_append_left (by omega), if_neg (by omega), List.getElem?_take, if_pos h1]
    · rw [List.getElem?_append_right (by omega), hl1]
      by_cases h2 : k < i * e.sz + e.sz
      · rw [List.getElem?_append_left (by omega), if_pos ⟨by omega, h2⟩]
      · rw [List.getElem?_append_right (by omega), if_neg (by omega), List.getElem?_drop]
        congr 1; omega
  refine ⟨by simp [a1], by rw [hAl]; simp, fun j hj => ?_⟩
  simp only [List.length_set] at hj
  have hbj := succ_le_mul (k := e.sz) hj
  by_cases e1 : i = j
  · subst e1
    rw [getD_set_self' hi, getD_set_self' (by omega)]
    have : ((A.take (i * e.sz) ++ (cs ++ A.drop (i * e.sz + e.sz))).drop (i * e.sz)).take e.sz = cs := by
      apply List.ext_getElem?
      intro k
      rw [List.getElem?_take, List.getElem?_drop, hget]
      by_cases hk : k < e.sz
      · rw [if_pos hk, if_pos ⟨by omega, by omega⟩]; congr 1; omega
      · rw [if_neg hk, List.getElem?_eq_none (by omega)]
    rw [this]; exact ho
  · rw [getD_set_ne' e1, getD_set_ne' e1]
    have : ((A.take (i * e.sz) ++ (cs ++ A.drop (i * e.sz + e.sz))).drop (j * e.sz)).take e.sz = (A.drop (j * e.sz)).take e.sz := by
      apply List.ext_getElem?
      intro k
      rw [List.getElem?_take, List.getElem?_drop, List.getElem?_take, List.getElem?_drop, hget]
      by_cases hk : k < e.sz
      · rw [if_pos hk, if_pos hk, if_neg]
        rcases Nat.lt_or_gt_of_ne e1 with h | h
        · have := succ_le_mul (k := e.sz) h; omega
        · have := succ_le_mul (k := e.sz) h; omega
      · rw [if_neg hk, if_neg hk]
    rw [this]; exact a3 j hj

/-- In a block. -/
theorem Elems.rows (h : Elems w e A l Fs) {B o : Nat} (hc : ∀ j, j < l.length * e.sz → cel w B (o + j) = A[j]?) : Rows w e l B o Fs.flatten := by
  obtain ⟨a1, a2, a3⟩ := h
  refine ⟨Fs, a1, rfl, fun i hi => ?_⟩
  have hb := succ_le_mul (k := e.sz) hi
  refine ⟨(A.drop (i * e.sz)).take e.sz, take_drop_eq (by omega), fun j hj => ?_, a3 i hi⟩
  rw [Nat.add_assoc, hc _ (by omega), List.getElem?_take, if_pos hj, List.getElem?_drop]

theorem Rows.elems {B o : Nat} {F' : List Nat} (h : Rows w e l B o F') : ∃ A Fs, F' = Fs.flatten ∧ Elems w e A l Fs ∧ ∀ j, j < l.length * e.sz → cel w B (o + j) = A[j]? := by
  obtain ⟨Fs, a1, rfl, hel⟩ := h
  by_cases h0 : e.sz = 0
  · refine ⟨[], Fs, rfl, ⟨a1, by simp [h0], fun i hi => ?_⟩, fun j hj => by simp [h0] at hj⟩
    obtain ⟨cs', h1, _, h3⟩ := hel i hi
    have : cs' = [] := List.length_eq_zero_iff.1 (by omega)
    subst this
    simpa [h0] using h3
  · have hcell : ∀ k, k < l.length * e.sz → ∃ v, cel w B (o + k) = some v := by
      intro k hk
      have hi : k / e.sz < l.length := Nat.div_lt_of_lt_mul (by rw [Nat.mul_comm]; exact hk)
      obtain ⟨cs', h1, h2, _⟩ := hel _ hi
      have hj : k % e.sz < e.sz := Nat.mod_lt _ (by omega)
      have := h2 _ hj
      have hk' : o + k / e.sz * e.sz + k % e.sz = o + k := by
        have := Nat.div_add_mod k e.sz
        rw [Nat.mul_comm] at this; omega
      rw [hk', List.getElem?_eq_getElem (by omega)] at this
      exact ⟨_, this⟩
    have hAl : ((List.range (l.length * e.sz)).map fun k => (cel w B (o + k)).getD undef).length = l.length * e.sz := by simp
    have hA : ∀ j, j < l.length * e.sz → cel w B (o + j) = ((List.range (l.length * e.sz)).map fun k => (cel w B (o + k)).getD undef)[j]? := by
      intro j hj
      obtain ⟨v, hv⟩ := hcell j hj
      simp [hj, hv]
    refine ⟨_, Fs, rfl, ⟨a1, hAl, fun i hi => ?_⟩, hA⟩
    obtain ⟨cs', h1, h2, h3⟩ := hel i hi
    have hb := succ_le_mul (k := e.sz) hi
    have : (((List.range (l.length * e.sz)).map fun k => (cel w B (o + k)).getD undef).drop (i * e.sz)).take e.sz = cs' := by
      apply List.ext_getElem?
      intro k
      rw [List.getElem?_take, List.getElem?_drop]
      by_cases hk : k < e.sz
      · rw [if_pos hk, ← hA _ (by omega), ← h2 k hk, Nat.add_assoc]
      · rw [if_neg hk, List.getElem?_eq_none (by omega)]
    rw [this]; exact h3
end

/-! ### What may be copied -/
mutual
theorem RO.flat {w w' : World} {ok : Nat → Prop} : ∀ {t : Ty} {d : Dat} {cs : List Value}, t.noSl = true → RO w ok t d cs → OW w' t d cs []
  | .int _, d, cs, _, h => by simp only [RO] at h; simp [OW, h]
  | .bool, d, cs, _, h => by simp only [RO] at h; simp [OW, h]
  | .str, d, cs, _, h => by simp only [RO] at h; simp [OW, h]
  | .sl _, _, _, hn, _ => by simp [Ty.noSl] at hn
  | .st fs, d, cs, hn, h => by simp only [Ty.noSl] at hn; simp only [RO] at h; simp only [OW]; exact ROs.flat hn h
theorem ROs.flat {w w' : World} {ok : Nat → Prop} : ∀ {ts : List Ty} {j : Nat} {d : Dat} {cs : List Value}, Ty.noSls ts = true → ROs w ok ts j d cs → OWs w' ts j d cs []
  | [], _, _, _, _, h => by simp only [ROs] at h; simp [OWs, h]
  | t :: ts, j, d, cs, hn, h => by
    simp only [Ty.noSls, Bool.and_eq_true] at hn
    simp only [ROs] at h
    obtain ⟨c1, c2, rfl, h1, h2⟩ := h
    simp only [OWs]
    exact ⟨c1, c2, [], [], rfl, rfl, RO.flat hn.1 h1, ROs.flat hn.2 h2⟩
end
mutual
theorem OW.one {w : World} : ∀ {t : Ty} {d : Dat} {cs : List Value} {F : List Nat}, OW w t d cs F → ∀ u ∈ cs, u.oneCell' = true
  | .int _, _, _, _, h => by simp only [OW] at h; rw [h.1]; intro u hu; simp only [List.mem_singleton] at hu; subst hu; rfl
  | .bool, _, _, _, h => by simp only [OW] at h; rw [h.1]; intro u hu; simp only [List.mem_singleton] at hu; subst hu; rfl
  | .str, _, _, _, h => by simp only [OW] at h; rw [h.1]; intro u hu; simp only [List.mem_singleton] at hu; subst hu; rfl
  | .sl _, _, _, _, h => by
    simp only [OW] at h
    rcases h with ⟨_, rfl, _⟩ | ⟨_, _, _, _, _, rfl, _⟩ <;> (intro u hu; simp only [List.mem_singleton] at hu; subst hu; rfl)
  | .st _, _, _, _, h => by simp only [OW] at h; exact OWs.one h
theorem OWs.one {w : World} : ∀ {ts : List Ty} {j : Nat} {d : Dat} {cs : List Value} {F : List Nat}, OWs w ts j d cs F → ∀ u ∈ cs, u.oneCell' = true
  | [], _, _, _, _, h => by simp only [OWs] at h; simp [h.1]
  | t :: ts, _, _, _, _, h => by
    simp only [OWs] at h
    obtain ⟨c1, c2, _, _, rfl, _, h1, h2⟩ := h
    intro u hu
    rcases List.mem_append.1 hu with hu | hu
    · exact OW.one h1 u hu
    · exact OWs.one h2 u hu
end

theorem Elems.one {w : World} {e : Ty} {A : List Value} {l : List Dat} {Fs : List (List Nat)} (h : Elems w e A l Fs) : ∀ u ∈ A, u.oneCell' = true := by
  intro u hu
  obtain ⟨k, hk, rfl⟩ := List.getElem_of_mem hu
  obtain ⟨a1, a2, a3⟩ := h
  have hsz : 0 < e.sz := by
    rcases Nat.eq_zero_or_pos e.sz with h | h
    · rw [h] at a2; omega
    · exact h
  have hi : k / e.sz < l.length := Nat.div_lt_of_lt_mul (by rw [Nat.mul_comm]; omega)
  have hj : k % e.sz < e.sz := Nat.mod_lt _ hsz
  have hk' : k / e.sz * e.sz + k % e.sz = k := by
    have := Nat.div_add_mod k e.sz
    rw [Nat.mul_comm] at this; exact this
  refine (a3 _ hi).one _ (List.mem_iff_getElem?.2 ⟨k % e.sz, ?_⟩)
  rw [List.getElem?_take, if_pos hj, List.getElem?_drop, hk', List.getElem?_eq_getElem hk]

theorem setCells_put : ∀ (cs : List Value) (w : World) (B o : Nat), w.setCells B o cs = putCells w B o cs
  | [], _, _, _ => rfl
  | v :: r, w, B, o => by simp only [World.setCells, putCells]; exact setCells_put r _ _ _

mutual
theorem zc_len' : ∀ (t : Ty), (zc t).length = t.sz
  | .int _ | .bool | .str | .sl _ => by simp [zc, Ty.sz]
  | .st fs => by simp only [zc, Ty.sz]; exact zcs_len' fs
theorem zcs_len' : ∀ (ts : List Ty), (zcs ts).length = Ty.szs ts
  | [] => by simp [zcs, Ty.szs]
  | t :: ts => by simp [zcs, Ty.szs, zc_len' t, zcs_len' ts]
end
theorem zv_cells' (t : Ty) : (zv t).cells.toList = zc t := by
  cases t <;> simp [zv, zc, Value.cells]

section
variable {P : Program} {E : Env} {w0 : World} {ok : Nat → Prop} {pl : List (Option Pl)} {FS : List (List Nat)} {s : St} {a : Act} {w w' : World} {T : TypeId → Option Ty}

/-- Memory that is nobody's may turn. -/
theorem Core.free (hc : Core E w0 ok pl FS s a w) {G : List Nat} (hos : w'.os = w.os) (htp : w'.tape = w.tape) (hout : w'.output = w.output) (hsz : w.heap.size ≤ w'.heap.size)
    (hk : ∀ B, B < w.heap.size → B ∉ G → w'.heap[B]? = w.heap[B]?) (hG : ∀ B ∈ G, B ∉ FS.flatten ∧ (w0.heap.size ≤ B ∨ ¬ ok B)) : Core E w0 ok pl FS s a w' where
  env := hc.env
  lok := hc.lok
  ext := ⟨hos.trans hc.ext.os, htp.trans hc.ext.tape, hout.trans hc.ext.output, Nat.le_trans hc.ext.size hsz, fun B hB ho => by
    rw [hk B (Nat.lt_of_lt_of_le hB hc.ext.size) (fun hm => by rcases (hG B hm).2 with h | h; omega; exact h ho), hc.ext.block B hB ho]⟩
  pll := hc.pll
  fsl := hc.fsl
  blk := fun b hb => BR.mono (Hle.refl _) (fun _ _ => rfl) (fun B hB => hk B (hc.own B (getD_mem_flatten hB)).2 (fun hm => (hG B hm).1 (getD_mem_flatten hB))) (hc.blk b hb)
  nd := hc.nd
  own := fun B hB => ⟨(hc.own B hB).1, Nat.lt_of_lt_of_le (hc.own B hB).2 hsz⟩
  defs := hc.defs
  tms := hc.tms
  tm := hc.tm

/-- What a growing row leaves: its value, its blocks, the world. -/
def Grew (P : Program) (w : World) (e : Ty) (l : List Dat) (F G : List Nat) (r : Result Value) : Prop :=
  ∃ v w' F', r = .ok v w' ∧ OW w' (.sl e) (.n l) [v] F' ∧ w'.os = w.os ∧ w'.tape = w.tape ∧ w'.output = w.output ∧ w.heap.size ≤ w'.heap.size ∧
    (∀ B, B < w.heap.size → B ∉ F → w'.heap[B]? = w.heap[B]?) ∧ (∀ B, F'.count B ≤ F.count B + G.count B + [w.heap.size].count B) ∧ ∀ B ∈ F', B < w'.heap.size

theorem zv_info {te : TypeId} {e : Ty} (h : TyOk P te e) : ∃ i, P.info? te = some i ∧ i.zero = some (zv e) ∧ i.size = e.sz ∧ i.bytes ≤ 16384 ∧ (zv e).cells.size = e.sz := by
  obtain ⟨i, hi, hz, hs, hb⟩ := h.row
  refine ⟨i, hi, hz, hs, hb, ?_⟩
  rw [← Array.length_toList, zv_cells', zc_len']

theorem grow_new {te : TypeId} {e : Ty} {A : List Value} {l : List Dat} {Fs : List (List Nat)} (z : Array Value) {wm : World} (h : Elems w e A l Fs) (hlt : ∀ B ∈ Fs.flatten, B < w.heap.size) (hm : wm.heap = w.heap) {cap : Nat} (hcap : l.length ≤ cap)
    (hz : z.size = (cap - l.length) * e.sz) :
    OW (wm.alloc (.cells (A.toArray ++ z) te)) (.sl e) (.n l) [.slice (some ⟨w.heap.size, 0, none⟩) l.length cap] (w.heap.size :: Fs.flatten) := by
  have hblk : ∀ B, B < w.heap.size → (wm.alloc (.cells (A.toArray ++ z) te)).heap[B]? = w.heap[B]? := fun B hB => by
    show (wm.heap.push _)[B]? = _
    rw [hm, Array.getElem?_push, if_neg (Nat.ne_of_lt hB)]
  have h2 := h.2.1
  have hcz : l.length * e.sz + (cap - l.length) * e.sz = cap * e.sz := by rw [← Nat.add_mul]; congr 1; omega
  have hrow : (wm.alloc (.cells (A.toArray ++ z) te)).heap[w.heap.size]? = some (.cells (A.toArray ++ z) te (0, 0)) := by
    show (wm.heap.push _)[w.heap.size]? = _
    rw [hm]; simp
  refine OW_of_rows (d := .n l) (o := 0) (sz := cap * e.sz) rfl ⟨_, _, _, hrow, ?_, fun i _ => by simp⟩ hcap (by simp) ((h.kept fun B hB => hblk B (hlt B hB)).rows fun j hj => ?_)
  · simp only [Array.size_append, List.size_toArray]; omega
  · simp only [cel, World.cell?, hrow, Nat.zero_add]
    rw [Array.getElem?_append_left (by simp only [List.size_toArray]; omega)]
    simp

theorem append_run {t tx ty te : TypeId} {e : Ty} (ht : P.underlying t = some (.slice te)) (hte : TyOk P te e) (he : 1 ≤ e.sz) {d : Dat} {x y : Value} {F : List Nat} (ho : OW w (.sl e) d [x] F)
    {A : List Value} {m : List Dat} {Fs : List (List Nat)} (hA : Elems w e A m Fs) (hs : Src P e.sz tx y m.length A w) (hnd : ∀ B, F.count B + Fs.flatten.count B ≤ 1) (hlt : ∀ B ∈ F ++ Fs.flatten, B < w.heap.size)
    (hb : d.len + m.length ≤ 4294967296) : Grew P w e (d.kids ++ m) F Fs.flatten ((Builtin.append_ #[t, tx] ty #[x, y]).run P w) := by
  obtain ⟨i, hi, hz, hsz, hby, hzs⟩ := zv_info hte
  have hkl : d.kids.length = d.len := rfl
  have hbytes : ∀ cap, cap < d.len + m.length → Builtin.nextslicecap (d.len + m.length) cap * i.bytes ≤ 281474976710656 := fun cap hg => growslice_fits hg (by
    have := Nat.mul_le_mul hb hby; omega)
  have hs' : Src P i.size tx y m.length A w := by rw [hsz]; exact hs
  have hgrow : ∀ (a : Option Addr) (cap : Nat) (A1 : List Value) (Fs1 : List (List Nat)), x = .slice a d.len cap → cap < d.len + m.length → Elems w e A1 d.kids Fs1 → (∀ B, Fs1.flatten.count B ≤ F.count B) → (∀ B ∈ Fs1.flatten, B < w.heap.size) →
      (Builtin.firstCells i.size d.len (.slice a d.len cap)).run P w.drew = .ok A1.toArray w.drew → Grew P w e (d.kids ++ m) F Fs.flatten ((Builtin.append_ #[t, tx] ty #[x, y]).run P w) := by
    intro a cap A1 Fs1 ex hg h1 hc1 hl1 hfc
    subst ex
    have hr := run_append_grow_src (P := P) w t tx ty te i (zv e) ht hi hz a d.len cap A1 hfc y m.length A hs' hg (by omega) (hbytes cap hg)
    have hge := grownCap_ge w (d.len + m.length) cap te
    have hzc : (Builtin.zeroCells (zv e).cells (grownCap w (d.len + m.length) cap te - (d.len + m.length))).size = (grownCap w (d.len + m.length) cap te - (d.kids ++ m).length) * e.sz := by
      rw [size_zeroCells, hzs]; simp [hkl]
    have hall := h1.append hA
    have hltall : ∀ B ∈ (Fs1 ++ Fs).flatten, B < w.heap.size := fun B hB => by
      rw [List.flatten_append, List.mem_append] at hB
      rcases hB with hB | hB
      · exact hl1 B hB
      · exact hlt B (by simp only [List.mem_append]; exact .inr hB)
    have hnew := grow_new (w := w) (wm := w.drew) (te := te) (cap := grownCap w (d.len + m.length) cap te) _ hall hltall rfl (by simpa [hkl] using hge) hzc
    rw [List.length_append, hkl] at hnew
    refine ⟨_, _, _, hr, hnew, rfl, rfl, rfl, ?_, fun B hB _ => ?_, fun B => ?_, fun B hB => ?_⟩
    · show w.heap.size ≤ (w.heap.push _).size; simp
    · show (w.heap.push _)[B]? = _; rw [Array.getElem?_push, if_neg (Nat.ne_of_lt hB)]
    · have := hc1 B
      rw [List.flatten_append]
      simp only [List.count_cons, List.count_append, List.count_nil]
      omega
    · show B < (w.heap.push _).size
      simp only [List.mem_cons] at hB
      rcases hB with rfl | hB
      · simp
      · have := hltall B hB; simp; omega
  simp only [OW] at ho
  rcases ho with ⟨ad, ex, hd0, rfl⟩ | ⟨B, o, cap, sz, F', ex, hcap, rfl, hosz, hroom, Fs0, hl0, rfl, hel⟩
  · simp only [List.cons.injEq, and_true] at ex
    have hk : d.kids = [] := List.length_eq_zero_iff.1 hd0
    by_cases hm : m.length = 0
    · have hm0 : m = [] := List.length_eq_zero_iff.1 hm
      subst hm0
      have hA0 : A = [] := List.length_eq_zero_iff.1 (by have := hA.2.1; simpa using this)
      subst hA0
      refine ⟨.slice ad 0 0, w, [], ?_, by simp only [OW]; exact .inl ⟨ad, rfl, by show (d.kids ++ []).length = 0; rw [hk]; rfl, trivial⟩, rfl, rfl, rfl, Nat.le_refl _, fun _ _ _ => rfl, fun B => by simp, fun B hB => by simp at hB⟩
      subst ex
      have h1 := hs'.len
      have h2 := hs'.cells
      simp only [List.length_nil] at h1 h2
      rcases hs'.kind with ⟨e', hk'⟩ | hk' <;> cases ad <;> simp [Builtin.append_, run_underlying ht, run_underlying hk', sizeOf, typeInfo, hi, h1, h2, storeCells]
    · refine hgrow ad 0 [] [] (by rw [hd0]; exact ex) (by omega) (by rw [hk]; exact Elems.nil) (fun B => by simp) (fun B hB => by simp at hB) ?_
      rw [hd0]
      cases ad <;> simp [Builtin.firstCells, loadCells, loadCellsFrom]
  · simp only [List.cons.injEq, and_true] at ex
    have hrows : Rows w e d.kids B o Fs0.flatten := ⟨Fs0, hl0, rfl, fun i hi => hel i hi⟩
    obtain ⟨A1, Fs1, eF, h1, hcell⟩ := hrows.elems
    rw [eF] at hnd hlt
    simp only [List.count_cons, List.mem_append, List.mem_cons] at hnd hlt
    have hB : B < w.heap.size := hlt B (.inl (.inl rfl))
    rw [hkl] at hcell
    by_cases hg : d.len + m.length ≤ cap
    · subst ex
      have hcells : ∀ j, j < A.length → (∃ u, cel w B (o + d.len * e.sz + j) = some u) ∧ w.frozen? ⟨B, o + d.len * e.sz + j, none⟩ = false := fun j hj => Room.cell (w := w) (sz := sz) hroom (by
        have h2 := hA.2.1
        have h3 : (d.len + m.length) * e.sz ≤ cap * e.sz := Nat.mul_le_mul_right _ hg
        rw [Nat.add_mul] at h3; omega)
      have hr := run_append_room_src (P := P) w t tx ty te i ht hi B o d.len cap y m.length A hs' hg (fun j hj => by
        obtain ⟨⟨u, hu⟩, _⟩ := hcells j hj
        rw [hsz]; simp only [cel] at hu; rw [hu]; rfl) (fun j hj => by rw [hsz]; exact (hcells j hj).2)
      rw [hsz, setCells_put] at hr
      have hp := putCells_put A w B (o + d.len * e.sz)
      have hfit : o + d.len * e.sz + A.length ≤ sz := by
        have h2 := hA.2.1
        have h3 : (d.len + m.length) * e.sz ≤ cap * e.sz := Nat.mul_le_mul_right _ hg
        rw [Nat.add_mul] at h3; omega
      have hall := (h1.append hA).kept (w' := putCells w B (o + d.len * e.sz) A) (fun B' hB' => hp.block B' (fun e0 => by
        subst e0
        rw [List.flatten_append, List.mem_append] at hB'
        have hq := hnd B'
        rw [if_pos (by simp)] at hq
        rcases hB' with hB' | hB'
        · have := List.one_le_count_iff.2 hB'; omega
        · have := List.one_le_count_iff.2 hB'; omega))
      have hnew := hall.rows (B := B) (o := o) (fun j hj => by
        rw [hp.cel hroom hfit]
        simp only [List.length_append, hkl, Nat.add_mul] at hj
        have h2 := hA.2.1
        have h3 := h1.2.1
        rw [hkl] at h3
        by_cases hjl : j < d.len * e.sz
        · rw [if_neg (by omega), hcell j hjl, List.getElem?_append_left (by omega)]
        · rw [if_pos (by omega), List.getElem?_append_right (by omega)]
          congr 1; omega)
      refine ⟨_, _, B :: (Fs1 ++ Fs).flatten, hr, ?_, hp.os, hp.tape, hp.output, by rw [hp.size]; exact Nat.le_refl _, fun B' _ hne => hp.block B' (fun e0 => hne (by rw [e0]; simp)), fun B' => ?_, fun B' hB' => ?_⟩
      · have := OW_of_rows (d := .n (d.kids ++ m)) (cap := cap) rfl (hp.room hroom hfit) (by simpa [Dat.len, Dat.kids] using hg) hosz hnew
        simp only [Dat.len, Dat.kids, List.length_append] at this
        exact this
      · rw [List.flatten_append, eF]
        simp only [List.count_cons, List.count_append]
        omega
      · rw [hp.size]
        rw [List.flatten_append] at hB'
        simp only [List.mem_cons, List.mem_append] at hB'
        rcases hB' with h | h | h
        · exact hlt B' (.inl (.inl h))
        · exact hlt B' (.inl (.inr h))
        · exact hlt B' (.inr h)
    · refine hgrow (some ⟨B, o, none⟩) cap A1 Fs1 ex (by omega) h1 (fun B' => by rw [eF]; simp only [List.count_cons]; omega) (fun B' hB' => hlt B' (.inl (.inr hB'))) ?_
      rw [show d.len = d.kids.length from rfl]
      refine run_firstCells_some (P := P) w.drew i.size d.kids.length ⟨B, o, none⟩ d.kids.length cap A1 (by rw [h1.2.1, hsz]) (fun j v hj => ?_)
      rw [addr_add]
      have hjl : j < A1.length := by
        rcases Nat.lt_or_ge j A1.length with h | h
        · exact h
        · rw [List.getElem?_eq_none h] at hj; cases hj
      have := hcell j (by rw [← hkl, ← h1.2.1]; exact hjl)
      rw [hj] at this
      exact this
/-- A new block, of memory that is there. -/
theorem Core.add (hc : Core E w0 ok pl FS s a w) {blk : Blk} {pb : Option Pl} {F : List Nat}
    (hblk : BR w0 ok (s.hp ++ [blk]) (pl ++ [pb]) w blk pb F) (hn : ∀ B, FS.flatten.count B + F.count B ≤ 1) (hF : ∀ B ∈ F, (w0.heap.size ≤ B ∨ ¬ ok B) ∧ B < w.heap.size) :
    Core E w0 ok (pl ++ [pb]) (FS ++ [F]) ⟨s.tm, s.hp ++ [blk]⟩ a w := by
  have hh := Hle.push s.hp blk
  have hp : PlLe s.hp.length pl (pl ++ [pb]) := fun b hb => getD_push_lt (by rw [hc.pll]; exact hb)
  refine ⟨hc.env, hc.lok, hc.ext, by simp [hc.pll], by simp [hc.fsl], fun b hb => ?_, ?_, fun B hB => ?_, hc.defs, hc.tms, fun t => TR.mono hh hp (hc.tm t)⟩
  · simp only [List.length_append, List.length_cons, List.length_nil] at hb
    by_cases e : b = s.hp.length
    · subst e
      rw [getB_push, show (pl ++ [pb]).getD s.hp.length none = pb by rw [← hc.pll]; exact getD_push, show (FS ++ [F]).getD s.hp.length [] = F by rw [← hc.fsl]; exact getD_push]
      exact hblk
    · have hb' : b < s.hp.length := by omega
      rw [getB_push_lt hb', getD_push_lt (by rw [hc.pll]; exact hb'), getD_push_lt (by rw [hc.fsl]; exact hb')]
      exact BR.mono hh hp (fun _ _ => rfl) (hc.blk b hb')
  · refine nodup_iff_count.2 fun B => ?_
    have := hn B
    simpa [List.count_append] using this
  · rw [List.flatten_append, List.mem_append] at hB
    rcases hB with hB | hB
    · exact hc.own B hB
    · exact hF B (by simpa using hB)

/-- What is made, in the state that a call leaves. -/
def Made (E : Env) (w0 : World) (ok : Nat → Prop) (pl : List (Option Pl)) (FS : List (List Nat)) (s : St) (a : Act) (w : World) (hp' : List Blk) (F : List Nat) (Q : List (Option Pl) → Prop) : Prop :=
  ∃ pl' FS', Core E w0 ok pl' FS' ⟨s.tm, hp'⟩ a w ∧ Hle s.hp hp' ∧ PlLe s.hp.length pl pl' ∧ (∀ B, FS'.flatten.count B = FS.flatten.count B + F.count B) ∧ Q pl'

theorem PlLe.trans {n m : Nat} {a b c : List (Option Pl)} (h : PlLe n a b) (k : PlLe m b c) (hm : n ≤ m) : PlLe n a c := fun x hx => (k x (Nat.lt_of_lt_of_le hx hm)).trans (h x hx)

mutual
theorem mkRes_sound : ∀ {t : Ty} {d : Dat} {cs : List Value} {F : List Nat} {pl : List (Option Pl)} {FS : List (List Nat)} {s : St}, Core E w0 ok pl FS s a w → OW w t d cs F →
    (∀ B, FS.flatten.count B + F.count B ≤ 1) → (∀ B ∈ F, (w0.heap.size ≤ B ∨ ¬ ok B) ∧ B < w.heap.size) →
    Made E w0 ok pl FS s a w (mkRes t d s.hp).2 F (fun pl' => VC w0 ok (mkRes t d s.hp).2 pl' (mkRes t d s.hp).1 cs)
  | .int k, d, cs, F, pl, FS, s, hc, h, _, _ => by
    simp only [OW] at h; obtain ⟨rfl, rfl⟩ := h
    exact ⟨pl, FS, hc, Hle.refl _, fun _ _ => rfl, fun B => by simp, by simp [mkRes, VC]⟩
  | .bool, d, cs, F, pl, FS, s, hc, h, _, _ => by
    simp only [OW] at h; obtain ⟨rfl, rfl⟩ := h
    exact ⟨pl, FS, hc, Hle.refl _, fun _ _ => rfl, fun B => by simp, by simp [mkRes, VC]⟩
  | .str, d, cs, F, pl, FS, s, hc, h, _, _ => by
    simp only [OW] at h; obtain ⟨rfl, rfl⟩ := h
    exact ⟨pl, FS, hc, Hle.refl _, fun _ _ => rfl, fun B => by simp, by simp [mkRes, VC]⟩
  | .sl e, d, cs, F, pl, FS, s, hc, h, hn, hF => by
    simp only [OW] at h
    rcases h with ⟨a', rfl, hd, rfl⟩ | ⟨B, o, cap, sz, F', rfl, hcap, rfl, hsz, hroom, Fs, hl, rfl, hel⟩
    · have hk : d.kids = [] := List.length_eq_zero_iff.1 hd
      refine ⟨pl ++ [none], FS ++ [[]], hc.add (blk := .arr e d.kids) ?_ hn hF, Hle.push _ _, fun b hb => getD_push_lt (by rw [hc.pll]; exact hb), fun B => by simp, ?_⟩
      · simp only [BR]; exact .inl ⟨trivial, hk, trivial⟩
      · simp only [mkRes, VC]
        refine ⟨⟨_, _, _, rfl⟩, by simp, ?_⟩
        rw [getB_push]
        exact ⟨a', 0, by rw [hk]; rfl, by rw [hk]; simp, .inl ⟨by rw [hk]; rfl, rfl⟩⟩
    · refine ⟨pl ++ [some ⟨B, o, sz⟩], FS ++ [B :: Fs.flatten], hc.add (blk := .arr e d.kids) ?_ hn hF, Hle.push _ _, fun b hb => getD_push_lt (by rw [hc.pll]; exact hb), fun B => by simp [List.count_append], ?_⟩
      · simp only [BR]
        refine .inr ⟨_, Fs.flatten, rfl, rfl, hroom, ?_, Fs, hl, rfl, fun i hi => ?_⟩
        · have : d.kids.length * e.sz ≤ cap * e.sz := Nat.mul_le_mul_right _ hcap
          show o + _ ≤ sz
          omega
        · obtain ⟨cs', h1, h2, h3⟩ := hel i hi
          exact ⟨cs', h1, h2, h3⟩
      · simp only [mkRes, VC]
        refine ⟨⟨_, _, _, rfl⟩, by simp, ?_⟩
        rw [getB_push]
        refine ⟨_, cap, rfl, hcap, .inr ⟨⟨B, o, sz⟩, by rw [← hc.pll]; exact getD_push, by simp, ?_⟩⟩
        simpa using hsz
  | .st fs, d, cs, F, pl, FS, s, hc, h, hn, hF => by
    simp only [OW] at h
    obtain ⟨pl', FS', k1, k2, k3, k4, k5⟩ := mkRess_sound hc h hn hF
    exact ⟨pl', FS', k1, k2, k3, k4, by simpa [mkRes, VC] using k5⟩
theorem mkRess_sound : ∀ {ts : List Ty} {j : Nat} {d : Dat} {cs : List Value} {F : List Nat} {pl : List (Option Pl)} {FS : List (List Nat)} {s : St}, Core E w0 ok pl FS s a w → OWs w ts j d cs F →
    (∀ B, FS.flatten.count B + F.count B ≤ 1) → (∀ B ∈ F, (w0.heap.size ≤ B ∨ ¬ ok B) ∧ B < w.heap.size) →
    Made E w0 ok pl FS s a w (mkRess ts j d s.hp).2 F (fun pl' => VCs w0 ok (mkRess ts j d s.hp).2 pl' (mkRess ts j d s.hp).1 cs)
  | [], j, d, cs, F, pl, FS, s, hc, h, _, _ => by
    simp only [OWs] at h; obtain ⟨rfl, rfl⟩ := h
    exact ⟨pl, FS, hc, Hle.refl _, fun _ _ => rfl, fun B => by simp, by simp [mkRess, VCs]⟩
  | t :: ts, j, d, cs, F, pl, FS, s, hc, h, hn, hF => by
    simp only [OWs] at h
    obtain ⟨c1, c2, F1, F2, rfl, rfl, h1, h2⟩ := h
    obtain ⟨pl1, FS1, k1, k2, k3, k4, k5⟩ := mkRes_sound hc h1 (fun B => by have := hn B; simp only [List.count_append] at this; omega) (fun B hB => hF B (by simp [hB]))
    obtain ⟨pl2, FS2, m1, m2, m3, m4, m5⟩ := mkRess_sound (s := ⟨s.tm, (mkRes t (d.fld j) s.hp).2⟩) k1 h2 (fun B => by have := hn B; have := k4 B; simp only [List.count_append] at *; omega) (fun B hB => hF B (by simp [hB]))
    refine ⟨pl2, FS2, m1, k2.trans m2, k3.trans m3 k2.len, fun B => by have := k4 B; have := m4 B; simp only [List.count_append] at *; omega, ?_⟩
    simp only [mkRess, VCs]
    exact ⟨c1, c2, rfl, VC.mono m2 m3 k5, m5⟩
end

theorem grab_cv {t : Ty} {v : V} {x : Value} {r : Dat × List Blk} {hp : List Blk} (hv : VR w0 ok hp pl v x) (h : grab t v hp = some r) : ∃ cs, x = cv t cs ∧ VC w0 ok hp pl v cs := by
  cases t <;> cases v <;> simp only [grab, reduceCtorEq] at h
  case st.st =>
    simp only [VR] at hv
    obtain ⟨cs, rfl, hv⟩ := hv
    exact ⟨cs.toList, by simp [cv, Ty.isSt], by simpa [VC] using hv⟩
  all_goals
    simp only [VR] at hv
    exact ⟨[x], by simp [cv, Ty.isSt], hv⟩


/-- A row that is copied from. -/
theorem src_row {te tx : TypeId} {e : Ty} (htx : P.underlying tx = some (.slice te)) {a : Option Addr} {n cap : Nat} {A : List Value} {l : List Dat} {Fs : List (List Nat)} (hA : Elems w e A l Fs) (hn : l.length = n)
    (hc : n = 0 ∧ a = none ∨ ∃ B o, a = some ⟨B, o, none⟩ ∧ ∀ j, j < n * e.sz → cel w B (o + j) = A[j]?) : Src P e.sz tx (.slice a n cap) l.length A w := by
  subst hn
  rcases hc with ⟨h0, rfl⟩ | ⟨B, o, rfl, hcell⟩
  · have hA0 : A = [] := List.length_eq_zero_iff.1 (by rw [hA.2.1, h0]; simp)
    rw [h0, hA0]
    exact Src.ofNil w htx cap
  · refine Src.ofSlice w htx ⟨B, o, none⟩ l.length cap A hA.2.1 (fun j u hj => ?_) hA.one
    have hjl : j < A.length := by
      rcases Nat.lt_or_ge j A.length with h | h
      · exact h
      · rw [List.getElem?_eq_none h] at hj; cases hj
    rw [addr_add, ← hj]
    exact hcell j (by rw [← hA.2.1]; exact hjl)

theorem RO.src {te tx : TypeId} {e : Ty} (htx : P.underlying tx = some (.slice te)) (hns : e.noSl = true) {ok' : Nat → Prop} {d : Dat} {y : Value} (h : RO w ok' (.sl e) d [y]) :
    ∃ A Fs, Elems w e A d.kids Fs ∧ Fs.flatten = [] ∧ Src P e.sz tx y d.kids.length A w := by
  simp only [RO] at h
  obtain ⟨a, cap, ey, hcap, hel⟩ := h
  simp only [List.cons.injEq, and_true] at ey
  subst ey
  have hkl : d.kids.length = d.len := rfl
  by_cases h0 : d.len = 0
  · have hk : d.kids = [] := List.length_eq_zero_iff.1 h0
    rw [hk, h0]
    refine ⟨[], [], Elems.nil, rfl, ?_⟩
    cases a with
    | none => exact Src.ofNil w htx cap
    | some ad => exact Src.ofSlice w htx ad 0 cap [] (by simp) (fun j u hj => by simp at hj) (fun u hu => by simp at hu)
  · obtain ⟨B, o, ea, _⟩ := hel 0 (by omega)
    subst ea
    have hrows : Rows w e d.kids B o [] := by
      refine ⟨List.replicate d.kids.length [], by simp, by simp, fun i hi => ?_⟩
      obtain ⟨B', o', ea, _, _, cs', h1, h2, h3⟩ := hel i hi
      simp only [Option.some.injEq, Addr.mk.injEq] at ea
      obtain ⟨rfl, rfl, _⟩ := ea
      refine ⟨cs', h1, h2, ?_⟩
      have e1 : (List.replicate d.kids.length ([] : List Nat)).getD i [] = [] := by simp [List.getD_eq_getElem?_getD, hi]
      rw [e1]; exact RO.flat hns h3
    obtain ⟨A, Fs, eF, hA, hcell⟩ := hrows.elems
    exact ⟨A, Fs, hA, eF.symm, src_row htx hA rfl (.inr ⟨B, o, rfl, hcell⟩)⟩

theorem OW.src {te tx : TypeId} {e : Ty} (htx : P.underlying tx = some (.slice te)) {d : Dat} {y : Value} {G : List Nat} (h : OW w (.sl e) d [y] G) :
    ∃ A Fs, Elems w e A d.kids Fs ∧ (∀ B, Fs.flatten.count B ≤ G.count B) ∧ Src P e.sz tx y d.kids.length A w := by
  simp only [OW] at h
  rcases h with ⟨a, ey, h0, rfl⟩ | ⟨B, o, cap, sz, F', ey, hcap, rfl, hsz, hroom, Fs0, hl0, rfl, hel⟩
  · simp only [List.cons.injEq, and_true] at ey
    subst ey
    have hk : d.kids = [] := List.length_eq_zero_iff.1 h0
    rw [hk]
    refine ⟨[], [], Elems.nil, fun B => by simp, ?_⟩
    cases a with
    | none => exact Src.ofNil w htx 0
    | some ad => exact Src.ofSlice w htx ad 0 0 [] (by simp) (fun j u hj => by simp at hj) (fun u hu => by simp at hu)
  · simp only [List.cons.injEq, and_true] at ey
    subst ey
    have hrows : Rows w e d.kids B o Fs0.flatten := ⟨Fs0, hl0, rfl, fun i hi => hel i hi⟩
    obtain ⟨A, Fs, eF, hA, hcell⟩ := hrows.elems
    exact ⟨A, Fs, hA, fun B' => by rw [eF]; simp only [List.count_cons]; omega, src_row htx hA rfl (.inr ⟨B, o, rfl, hcell⟩)⟩

theorem str_src {tx : TypeId} (htx : P.underlying tx = some .string) (b : ByteArray) : ∃ A Fs, Elems w (.int .u8) A (ofBytes b) Fs ∧ Fs.flatten = [] ∧ Src P (Ty.int .u8).sz tx (.string b) (ofBytes b).length A w := by
  have hl : (ofBytes b).length = b.size := by unfold ofBytes; rw [List.length_map, Array.length_toList]; rfl
  refine ⟨byteCells b, List.replicate (ofBytes b).length [], ⟨by simp, by simp [byteCells_length, hl, Ty.sz], fun i hi => ?_⟩, by simp, by rw [hl]; exact Src.ofString w htx b⟩
  have e1 : (List.replicate (ofBytes b).length ([] : List Nat)).getD i [] = [] := by simp [List.getD_eq_getElem?_getD, hi]
  rw [e1]
  rw [hl] at hi
  simp only [OW, Ty.sz, Nat.mul_one, and_true]
  have hb : i < b.data.toList.length := by rw [Array.length_toList]; exact hi
  have h1 : (byteCells b)[i]? = some (.int .u8 (((ofBytes b).getD i (.n [])).int)) := by
    simp [byteCells, ofBytes, List.getD_eq_getElem?_getD, List.getElem?_eq_getElem hb, Dat.int]
  have h2 : i < (byteCells b).length := by rw [byteCells_length]; exact hi
  rw [List.drop_eq_getElem_cons h2, List.take_succ_cons, List.take_zero]
  rw [List.getElem?_eq_getElem h2] at h1
  simp only [Option.some.injEq] at h1
  rw [h1]

theorem grab_sl {t : Ty} {v : V} {x : Value} {r : Dat × List Blk} {hp : List Blk} (hv : VR w0 ok hp pl v x) (h : grab (.sl t) v hp = some r) : VC w0 ok hp pl v [x] := by
  cases v <;> simp only [grab, reduceCtorEq] at h <;> simpa only [VR] using hv
theorem argD_sl {t : Ty} {v : V} {x : Value} {r : Dat} {hp : List Blk} (hv : VR w0 ok hp pl v x) (h : argD hp (.sl t) v = some r) : VC w0 ok hp pl v [x] := by
  cases v <;> simp only [argD, reduceCtorEq] at h <;> simpa only [VR] using hv

/-- What is appended, and what becomes of the rows. -/
theorem srcL_sound (hT : ∀ t ty, T t = some ty → TyOk P t ty) (hc : Core E w0 ok pl FS s a w) {tx : TypeId} {e : Ty} {v : V} {y : Value} (hv : VR w0 ok s.hp pl v y) {m : List Dat} {hp' : List Blk} (h : srcL (T tx) e v s.hp = some (m, hp')) :
    ∃ FS' A Fs, Core E w0 ok pl FS' ⟨s.tm, hp'⟩ a w ∧ Hle s.hp hp' ∧ Elems w e A m Fs ∧ Src P e.sz tx y m.length A w ∧ (∀ B, FS'.flatten.count B + Fs.flatten.count B ≤ FS.flatten.count B) := by
  unfold srcL at h
  split at h <;> try (simp only [reduceCtorEq] at h; done)
  · rename_i hTt
    have hty := hT _ _ hTt
    simp only [TyOk] at hty
    split at h <;> simp only [reduceCtorEq, Option.some.injEq, Prod.mk.injEq] at h
    obtain ⟨rfl, rfl⟩ := h
    obtain ⟨A, Fs, h1, h2, h3⟩ := str_src (P := P) (w := w) hty.2 (by assumption)
    have hv := hv.str
    subst hv
    exact ⟨FS, A, Fs, hc, Hle.refl _, h1, h3, fun B => by rw [h2]; simp⟩
  · rename_i e' hTt
    obtain ⟨te, hu, _, _⟩ := (hT _ _ hTt).sl
    split at h
    · rename_i hns
      split at h <;> simp only [reduceCtorEq, Option.some.injEq, Prod.mk.injEq] at h
      rename_i d hg
      obtain ⟨rfl, rfl⟩ := h
      obtain ⟨A, Fs, h1, h2, h3⟩ := RO.src (P := P) hu hns (argD_sound hc (argD_sl hv hg) hg)
      exact ⟨FS, A, Fs, hc, Hle.refl _, h1, h3, fun B => by rw [h2]; simp⟩
    · split at h <;> simp only [reduceCtorEq, Option.some.injEq, Prod.mk.injEq] at h
      rename_i d hp1 hg
      obtain ⟨rfl, rfl⟩ := h
      obtain ⟨FS', G, k1, k2, k3, k4⟩ := grab_sound hc (grab_sl hv hg) hg
      obtain ⟨A, Fs, h1, h2, h3⟩ := OW.src (P := P) hu k4
      exact ⟨FS', A, Fs, k1, k2, h1, h3, fun B => by have := k3 B; have := h2 B; omega⟩
end
end Go.Ev
