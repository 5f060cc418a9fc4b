/-
  Places inside values and data, and what is read there.
-/
import Derived.Test.YthdgcninegkalacDoorEvD
namespace Go.Ev

section
variable {E : Env} {w0 : World} {ok : Nat → Prop} {hp : List Blk} {pl : List (Option Pl)}

theorem V.szs_take_le : ∀ (l : List V) (i : Nat), V.szs (l.take i) ≤ V.szs l
  | [], i => by simp [V.szs]
  | v :: l, 0 => by simp [V.szs]
  | v :: l, i + 1 => by simp only [List.take_succ_cons, V.szs]; have := V.szs_take_le l i; omega

/-- The cells of one part of an aggregate. -/
theorem VCs.get : ∀ {l : List V} {cs : List Value} (i : Nat) (x : V), VCs w0 ok hp pl l cs → l[i]? = some x →
    ∃ c1 c2 c3, cs = c1 ++ (c2 ++ c3) ∧ c1.length = V.szs (l.take i) ∧ VC w0 ok hp pl x c2 ∧
      ∀ (y : V) (c : List Value), VC w0 ok hp pl y c → VCs w0 ok hp pl (l.set i y) (c1 ++ (c ++ c3))
  | [], _, i, x, _, hx => by simp at hx
  | v :: l, cs, 0, x, h, hx => by
    simp only [VCs] at h
    obtain ⟨c1, c2, rfl, h1, h2⟩ := h
    simp only [List.getElem?_cons_zero, Option.some.injEq] at hx
    subst hx
    refine ⟨[], c1, c2, rfl, by simp [V.szs], h1, fun y c hy => ?_⟩
    simp only [List.set_cons_zero, VCs]
    exact ⟨c, c2, by simp, hy, h2⟩
  | v :: l, cs, i + 1, x, h, hx => by
    simp only [VCs] at h
    obtain ⟨c1, c2, rfl, h1, h2⟩ := h
    simp only [List.getElem?_cons_succ] at hx
    obtain ⟨d1, d2, d3, rfl, hl, hv, hset⟩ := VCs.get i x h2 hx
    refine ⟨c1 ++ d1, d2, d3, by simp, by simp [V.szs, hl, VC.len h1], hv, fun y c hy => ?_⟩
    simp only [List.set_cons_succ, VCs]
    exact ⟨c1, d1 ++ (c ++ d3), by simp, h1, hset y c hy⟩

/-- The cells at a path; and a part put in its place. -/
theorem VC.at : ∀ (p : List Nat) {v : V} {cs : List Value} {x : V}, VC w0 ok hp pl v cs → vat p v = some x →
    ∃ c1 c2 c3, cs = c1 ++ (c2 ++ c3) ∧ c1.length = voff p v ∧ VC w0 ok hp pl x c2 ∧
      ∀ (y : V) (c : List Value), VC w0 ok hp pl y c → VC w0 ok hp pl (vset p v y) (c1 ++ (c ++ c3))
  | [], v, cs, x, h, hx => by
    simp only [vat, Option.some.injEq] at hx
    subst hx
    exact ⟨[], cs, [], by simp, rfl, h, fun y c hy => by simpa [vset] using hy⟩
  | i :: p, .st l, cs, x, h, hx => by
    simp only [vat] at hx
    cases hi : l[i]? with
    | none => simp [hi] at hx
    | some z =>
      simp only [hi] at hx
      simp only [VC] at h
      obtain ⟨c1, c2, c3, rfl, hl, hv, hset⟩ := VCs.get i z h hi
      obtain ⟨d1, d2, d3, rfl, hl', hv', hset'⟩ := VC.at p hv hx
      have hz : l.getD i .u = z := by simp [List.getD, hi]
      refine ⟨c1 ++ d1, d2, d3 ++ c3, by simp, by simp [voff, hl, hl', hi], hv', fun y c hy => ?_⟩
      simp only [vset, VC, hz]
      have := hset _ _ (hset' y c hy)
      simpa using this
  | i :: p, .u, _, _, _, hx | i :: p, .int _ _, _, _, _, hx | i :: p, .bool _, _, _, _, hx | i :: p, .str _, _, _, _, hx
  | i :: p, .nil, _, _, _, hx | i :: p, .ro _ _, _, _, _, hx | i :: p, .hd _, _, _, _, hx | i :: p, .hs _ _ _, _, _, _, hx
  | i :: p, .pt _ _ _, _, _, _, hx | i :: p, .ap _ _ _ _, _, _, _, hx | i :: p, .rp _ _, _, _, _, hx | i :: p, .tup _, _, _, _, hx => by simp [vat] at hx

mutual
/-- What is read of data. -/
theorem ofRo_VC : ∀ {t : Ty} {d : Dat} {cs : List Value}, RO w0 ok t d cs → VC w0 ok hp pl (ofRo t d) cs
  | .int _, _, _, h => by simp only [RO, ofRo, VC] at *; exact h
  | .bool, _, _, h => by simp only [RO, ofRo, VC] at *; exact h
  | .str, _, _, h => by simp only [RO, ofRo, VC] at *; exact h
  | .sl e, _, _, h => by simp only [ofRo, VC]; exact h
  | .st fs, _, _, h => by simp only [RO, ofRo, VC] at *; exact ofRos_VCs h
theorem ofRos_VCs : ∀ {ts : List Ty} {j : Nat} {d : Dat} {cs : List Value}, ROs w0 ok ts j d cs → VCs w0 ok hp pl (ofRos ts j d) cs
  | [], _, _, _, h => by simp only [ROs, ofRos, VCs] at *; exact h
  | t :: ts, j, d, _, h => by
    simp only [ROs, ofRos, VCs] at *
    obtain ⟨c1, c2, rfl, h1, h2⟩ := h
    exact ⟨c1, c2, rfl, ofRo_VC h1, ofRos_VCs h2⟩
end

mutual
theorem ofOw_VC {w : World} : ∀ {t : Ty} {d : Dat} {cs : List Value} {F : List Nat}, OW w t d cs F → VC w0 ok hp pl (ofOw t d) cs
  | .int _, _, _, _, h => by simp only [OW, ofOw, VC] at *; exact h.1
  | .bool, _, _, _, h => by simp only [OW, ofOw, VC] at *; exact h.1
  | .str, _, _, _, h => by simp only [OW, ofOw, VC] at *; exact h.1
  | .sl e, _, _, _, h => by
    simp only [ofOw, VC]
    simp only [OW] at h
    rcases h with ⟨a, rfl, _⟩ | ⟨B, o, cap, sz, F', rfl, _⟩ <;> exact ⟨_, rfl, by simp, by simp⟩
  | .st fs, _, _, _, h => by simp only [OW, ofOw, VC] at *; exact ofOws_VCs h
theorem ofOws_VCs {w : World} : ∀ {ts : List Ty} {j : Nat} {d : Dat} {cs : List Value} {F : List Nat}, OWs w ts j d cs F → VCs w0 ok hp pl (ofOws ts j d) cs
  | [], _, _, _, _, h => by simp only [OWs, ofOws, VCs] at *; exact h.1
  | t :: ts, j, d, _, _, h => by
    simp only [OWs, ofOws, VCs] at *
    obtain ⟨c1, c2, F1, F2, rfl, rfl, h1, h2⟩ := h
    exact ⟨c1, c2, rfl, ofOw_VC h1, ofOws_VCs h2⟩
end

theorem VRs_get : ∀ {l : List V} {vs : List Value} {i : Nat} {v : V}, VRs w0 ok hp pl l vs → l[i]? = some v → ∃ y, vs[i]? = some y ∧ VR w0 ok hp pl v y
  | [], _, i, v, _, h => by simp at h
  | x :: l, vs, 0, v, hv, h => by
    simp only [VRs] at hv
    obtain ⟨y, r, rfl, h1, h2⟩ := hv
    simp only [List.getElem?_cons_zero, Option.some.injEq] at h
    subst h
    exact ⟨y, rfl, h1⟩
  | x :: l, vs, i + 1, v, hv, h => by
    simp only [VRs] at hv
    obtain ⟨y, r, rfl, h1, h2⟩ := hv
    simp only [List.getElem?_cons_succ] at h
    obtain ⟨z, hz, hvz⟩ := VRs_get h2 h
    exact ⟨z, by simpa using hz, hvz⟩

/-- A value of cells, as a value. -/
theorem VC.toVR {v : V} {cs : List Value} (h : VC w0 ok hp pl v cs) {b : Bool} (hb : v.isSt = b) : VR w0 ok hp pl v (if b then .agg cs.toArray else cs.getD 0 undef) := by
  subst hb
  cases v
  case st l => simp only [V.isSt, if_true, VR]; simp only [VC] at h; exact ⟨_, rfl, by simpa using h⟩
  case u => simp [VR]
  case tup l => simp [VC] at h
  all_goals
    simp only [V.isSt, Bool.false_eq_true, if_false, VR]
    have hl := h.len
    simp only [V.sz] at hl
    match cs, hl with
    | [x], _ => simpa using h

/-! ### Paths in data of one's own -/
theorem Ty.szs_cons (t : Ty) (ts : List Ty) : Ty.szs (t :: ts) = t.sz + Ty.szs ts := rfl

theorem OWs.get {w : World} : ∀ {ts : List Ty} {j : Nat} {d : Dat} {cs : List Value} {F : List Nat} (i : Nat) (t : Ty), OWs w ts j d cs F → ts[i]? = some t →
    ∃ c1 c2 c3 F1 F2 F3, cs = c1 ++ (c2 ++ c3) ∧ F = F1 ++ (F2 ++ F3) ∧ c1.length = Ty.szs (ts.take i) ∧ OW w t (d.fld (j + i)) c2 F2
  | [], _, _, _, _, i, t, _, hx => by simp at hx
  | t0 :: ts, j, d, cs, F, 0, t, h, hx => by
    simp only [OWs] at h
    obtain ⟨c1, c2, F1, F2, rfl, rfl, h1, h2⟩ := h
    simp only [List.getElem?_cons_zero, Option.some.injEq] at hx
    subst hx
    exact ⟨[], c1, c2, [], F1, F2, rfl, rfl, by simp [Ty.szs], h1⟩
  | t0 :: ts, j, d, cs, F, i + 1, t, h, hx => by
    simp only [OWs] at h
    obtain ⟨c1, c2, F1, F2, rfl, rfl, h1, h2⟩ := h
    simp only [List.getElem?_cons_succ] at hx
    obtain ⟨d1, d2, d3, G1, G2, G3, rfl, rfl, hl, hv⟩ := OWs.get i t h2 hx
    refine ⟨c1 ++ d1, d2, d3, F1 ++ G1, G2, G3, by simp, by simp, by simp [Ty.szs, hl, h1.len], ?_⟩
    rw [show j + (i + 1) = j + 1 + i by omega]; exact hv

theorem OW.at {w : World} : ∀ (p : List Nat) {t : Ty} {d : Dat} {cs : List Value} {F : List Nat} {t' : Ty}, OW w t d cs F → tat p t = some t' →
    ∃ c1 c2 c3 F1 F2 F3, cs = c1 ++ (c2 ++ c3) ∧ F = F1 ++ (F2 ++ F3) ∧ c1.length = toff p t ∧ OW w t' (dat p d) c2 F2
  | [], t, d, cs, F, t', h, hx => by
    simp only [tat, Option.some.injEq] at hx
    subst hx
    exact ⟨[], cs, [], [], F, [], by simp, by simp, rfl, h⟩
  | i :: p, .st l, d, cs, F, t', h, hx => by
    simp only [tat] at hx
    cases hi : l[i]? with
    | none => simp [hi] at hx
    | some z =>
      simp only [hi] at hx
      simp only [OW] at h
      obtain ⟨c1, c2, c3, F1, F2, F3, rfl, rfl, hl, hv⟩ := OWs.get i z h hi
      obtain ⟨d1, d2, d3, G1, G2, G3, rfl, rfl, hl', hv'⟩ := OW.at p hv hx
      have hz : l.getD i .bool = z := by simp [List.getD, hi]
      refine ⟨c1 ++ d1, d2, d3 ++ c3, F1 ++ G1, G2, G3 ++ F3, by simp, by simp, by simp [toff, hl, hl', hi], ?_⟩
      simpa [dat] using hv'
  | i :: p, .int _, _, _, _, _, _, hx | i :: p, .bool, _, _, _, _, _, hx | i :: p, .str, _, _, _, _, _, hx | i :: p, .sl _, _, _, _, _, _, hx => by simp [tat] at hx

/-- Constants. -/
theorem zeroV_VC : ∀ (t : Ty), VC w0 ok hp pl (zeroV t) (zc t)
  | .int _ => by simp [zeroV, zc, VC]
  | .bool => by simp [zeroV, zc, VC]
  | .str => by simp [zeroV, zc, VC]
  | .sl _ => by simp [zeroV, zc, VC]
  | .st fs => by
    simp only [zeroV, zc, VC]
    exact go fs
where
  go : ∀ (ts : List Ty), VCs w0 ok hp pl (zeroVs ts) (zcs ts)
    | [] => by simp [zeroVs, zcs, VCs]
    | t :: ts => by
      simp only [zeroVs, zcs, VCs]
      exact ⟨_, _, rfl, zeroV_VC t, go ts⟩

mutual
theorem cellsV_VC : ∀ {t : Ty} {r r' : List Value} {v : V}, cellsV t r = some (v, r') → ∃ c, r = c ++ r' ∧ VC w0 ok hp pl v c
  | .int k, r, r', v, h => by
    simp only [cellsV] at h
    split at h
    · split at h
      · rename_i e
        simp only [Option.some.injEq, Prod.mk.injEq] at h
        obtain ⟨rfl, rfl⟩ := h
        subst e
        exact ⟨[_], rfl, by simp only [VC]⟩
      · cases h
    · cases h
  | .bool, r, r', v, h => by
    simp only [cellsV] at h
    split at h
    · simp only [Option.some.injEq, Prod.mk.injEq] at h
      obtain ⟨rfl, rfl⟩ := h
      exact ⟨[_], rfl, by simp only [VC]⟩
    · cases h
  | .str, r, r', v, h => by
    simp only [cellsV] at h
    split at h
    · simp only [Option.some.injEq, Prod.mk.injEq] at h
      obtain ⟨rfl, rfl⟩ := h
      exact ⟨[_], rfl, by simp only [VC]⟩
    · cases h
  | .sl _, r, r', v, h => by
    simp only [cellsV] at h
    split at h
    · simp only [Option.some.injEq, Prod.mk.injEq] at h
      obtain ⟨rfl, rfl⟩ := h
      exact ⟨[_], rfl, by simp only [VC]⟩
    · cases h
  | .st fs, r, r', v, h => by
    simp only [cellsV] at h
    cases hh : cellsVs fs r with
    | none => simp [hh] at h
    | some x =>
      obtain ⟨l, r2⟩ := x
      simp only [hh, Option.some.injEq, Prod.mk.injEq] at h
      obtain ⟨rfl, rfl⟩ := h
      obtain ⟨c, e, hc⟩ := cellsVs_VCs hh
      exact ⟨c, e, by simpa [VC] using hc⟩
theorem cellsVs_VCs : ∀ {ts : List Ty} {r r' : List Value} {l : List V}, cellsVs ts r = some (l, r') → ∃ c, r = c ++ r' ∧ VCs w0 ok hp pl l c
  | [], r, r', l, h => by
    simp only [cellsVs, Option.some.injEq, Prod.mk.injEq] at h
    obtain ⟨rfl, rfl⟩ := h
    exact ⟨[], rfl, by simp [VCs]⟩
  | t :: ts, r, r', l, h => by
    simp only [cellsVs] at h
    cases h1 : cellsV t r with
    | none => simp [h1] at h
    | some x =>
      obtain ⟨v, r1⟩ := x
      simp only [h1] at h
      cases h2 : cellsVs ts r1 with
      | none => simp [h2] at h
      | some y =>
        obtain ⟨l2, r2⟩ := y
        simp only [h2, Option.some.injEq, Prod.mk.injEq] at h
        obtain ⟨rfl, rfl⟩ := h
        obtain ⟨c, e, hc⟩ := cellsV_VC h1
        obtain ⟨c', e', hc'⟩ := cellsVs_VCs h2
        exact ⟨c ++ c', by rw [e, e']; simp, by simp only [VCs]; exact ⟨c, c', rfl, hc, hc'⟩⟩
end

theorem ofVal_VR (t : Option Ty) (x : Value) : VR w0 ok hp pl (ofVal t x) x := by
  unfold ofVal
  split
  · simp [VR, VC]
  · simp [VR, VC]
  · simp [VR, VC]
  · simp [VR, VC]
  · rename_i cs
    split
    · rename_i fs
      split
      · rename_i v hv
        obtain ⟨c, e, hc⟩ := cellsV_VC (w0 := w0) (ok := ok) (hp := hp) (pl := pl) hv
        simp only [List.append_nil] at e
        have hst : v.isSt = true := by
          simp only [cellsV] at hv
          cases hh : cellsVs fs cs.toList with
          | none => simp [hh] at hv
          | some y => obtain ⟨l, r⟩ := y; simp only [hh, Option.some.injEq, Prod.mk.injEq] at hv; obtain ⟨rfl, _⟩ := hv; rfl
        have := hc.toVR hst
        simpa [← e] using this
      · simp [VR]
    · simp [VR]
  · simp [VR]
end
end Go.Ev
