/-
  The operations that leave memory alone, all of them.
-/
import Derived.Test.YthdgcninegkalacDoorEvF
namespace Go.Ev

section
variable {P : Program} {E : Env} {w0 : World} {ok : Nat → Prop} {pl : List (Option Pl)} {FS : List (List Nat)} {s : St} {a : Act} {w : World}

theorem VR.int {k : IntKind} {n : Int} {v : Value} (h : VR w0 ok s.hp pl (.int k n) v) : v = .int k n := by simpa [VR, VC] using h
theorem VR.bool {b : Bool} {v : Value} (h : VR w0 ok s.hp pl (.bool b) v) : v = .bool b := by simpa [VR, VC] using h
theorem VR.str {b : ByteArray} {v : Value} (h : VR w0 ok s.hp pl (.str b) v) : v = .string b := by simpa [VR, VC] using h
theorem VR.mkInt (k : IntKind) (n : Int) : VR w0 ok s.hp pl (.int k n) (.int k n) := by simp [VR, VC]
theorem VR.mkBool (b : Bool) : VR w0 ok s.hp pl (.bool b) (.bool b) := by simp [VR, VC]
theorem VR.mkStr (b : ByteArray) : VR w0 ok s.hp pl (.str b) (.string b) := by simp [VR, VC]

theorem TyOk.sl {t : TypeId} {e : Ty} (h : TyOk P t (.sl e)) : ∃ te, P.underlying t = some (.slice te) ∧ 1 ≤ e.sz ∧ TyOk P te e := by
  simp only [TyOk] at h; exact h.2

/-- Addresses of fields. -/
theorem field_sound {T : TypeId → Option Ty} (hT : ∀ t ty, T t = some ty → TyOk P t ty) (hc : Core E w0 ok pl FS s a w) {ctx : Option (Nat × Bool)}
    (hx : ∀ t b, ctx = some (t, b) → a.tmps.getD t undef = .bool b) {ty : TypeId} {t : TypeId} {x : Operand} {f : Nat} {r : Bool × V} (h : evPure T ctx s.tm s.hp ty (.fieldAddr t x f) = some r) :
    ∃ val, VR w0 ok s.hp pl r.2 val ∧ ∀ w', Cl w w' → (Instr.fieldAt t (a.eval x) f).run P w' = .ok val w' := by
  have hl := look_VR hc hx none x
  simp only [evPure] at h
  split at h <;> try (simp only [reduceCtorEq] at h; done)
  rename_i fs hTt
  have hty := hT t _ hTt
  simp only [TyOk] at hty
  obtain ⟨_, _, l, hu, hfs⟩ := hty
  cases hf : fs[f]? with
  | none => simp [hf] at h
  | some tf =>
    simp only [hf] at h
    obtain ⟨g, hg, ho, h1, htf⟩ := hfs.get f tf hf
    simp only [Nat.zero_add] at ho
    have hg' : l[f]? = some g := by simpa using hg
    have hrun : ∀ (B o : Nat) (w' : World), (Instr.fieldAt t (.pointer (some ⟨B, o, none⟩)) f).run P w' = .ok (.pointer (some ⟨B, o + Ty.szs (fs.take f), none⟩)) w' := by
      intro B o w'
      have hne : ¬ tf.sz = 0 := by omega
      simp [Instr.fieldAt, run_underlying hu, hg', Instr.sureAddr, fieldPlace, run_sizeOf' htf.row, hne, addr_add, ho]
    generalize look ctx s.tm none x = vx at h hl
    cases vx <;> simp only [reduceCtorEq] at h
    case rp t' d =>
      split at h <;> simp only [reduceCtorEq, Option.some.injEq] at h
      rename_i hbeq
      have := Ty.eq_of_beq _ _ hbeq
      subst this
      subst h
      simp only [VR, VC] at hl
      obtain ⟨B, o, e, hok, hB, cs, hlen, hcell, hro⟩ := hl
      simp only [List.cons.injEq, and_true] at e
      refine ⟨_, ?_, fun w' _ => by rw [e]; exact hrun B o w'⟩
      simp only [VR, VC]
      refine ⟨B, _, rfl, hok, hB, ?_⟩
      simp only [RO] at hro
      obtain ⟨c1, c2, c3, rfl, hl1, hro2⟩ := ROs_get f tf hro hf
      refine ⟨c2, hro2.len, fun j hj => ?_, by simpa using hro2⟩
      have hlen2 := hro2.len
      rw [← hl1, Nat.add_assoc, hcell _ (by rw [← hlen]; simp only [List.length_append]; omega), get_mid (by omega)]
    case pt b p off =>
      simp only [VR, VC] at hl
      obtain ⟨_, hlt, hpt⟩ := hl
      cases hb : getB s.hp b with
      | dead => simp [hb] at h
      | arr _ _ => simp [hb] at h
      | box v =>
        simp only [hb, Option.some.injEq] at h hpt
        subst h
        obtain ⟨p', hp', e⟩ := hpt
        simp only [List.cons.injEq, and_true] at e
        refine ⟨_, ?_, fun w' _ => by rw [e]; exact hrun _ _ w'⟩
        simp only [VR, VC, hb]
        exact ⟨by simp, hlt, p', hp', by simp [Nat.add_assoc]⟩
    case ap b i p off =>
      simp only [VR, VC] at hl
      obtain ⟨_, hlt, hpt⟩ := hl
      cases hb : getB s.hp b with
      | dead => simp [hb] at h
      | box _ => simp [hb] at h
      | arr e l =>
        simp only [hb, Option.some.injEq] at h hpt
        subst h
        obtain ⟨hi, p', hp', e'⟩ := hpt
        simp only [List.cons.injEq, and_true] at e'
        refine ⟨_, ?_, fun w' _ => by rw [e']; exact hrun _ _ w'⟩
        simp only [VR, VC, hb]
        exact ⟨by simp, hlt, hi, p', hp', by simp [Nat.add_assoc]⟩
  where
  ROs_get {w0 : World} {ok : Nat → Prop} : ∀ {ts : List Ty} {j : Nat} {d : Dat} {cs : List Value} (i : Nat) (t : Ty), ROs w0 ok ts j d cs → ts[i]? = some t →
      ∃ c1 c2 c3, cs = c1 ++ (c2 ++ c3) ∧ c1.length = Ty.szs (ts.take i) ∧ RO w0 ok t (d.fld (j + i)) c2
    | [], _, _, _, i, t, _, hx => by simp at hx
    | t0 :: ts, j, d, cs, 0, t, h, hx => by
      simp only [ROs] at h
      obtain ⟨c1, c2, rfl, h1, h2⟩ := h
      simp only [List.getElem?_cons_zero, Option.some.injEq] at hx
      subst hx
      exact ⟨[], c1, c2, rfl, by simp [Ty.szs], h1⟩
    | t0 :: ts, j, d, cs, i + 1, t, h, hx => by
      simp only [ROs] at h
      obtain ⟨c1, c2, rfl, h1, h2⟩ := h
      simp only [List.getElem?_cons_succ] at hx
      obtain ⟨d1, d2, d3, rfl, hl, hv⟩ := ROs_get i t h2 hx
      refine ⟨c1 ++ d1, d2, d3, by simp, by simp [Ty.szs, hl, h1.len], ?_⟩
      rw [show j + (i + 1) = j + 1 + i by omega]; exact hv

/-- Addresses of elements. -/
theorem index_sound {T : TypeId → Option Ty} (hT : ∀ t ty, T t = some ty → TyOk P t ty) (hc : Core E w0 ok pl FS s a w) {ctx : Option (Nat × Bool)}
    (hx : ∀ t b, ctx = some (t, b) → a.tmps.getD t undef = .bool b) {ty : TypeId} {t : TypeId} {x ix : Operand} {r : Bool × V} (h : evPure T ctx s.tm s.hp ty (.indexAddr t x ix) = some r) (hr : r.1 = true) :
    ∃ val, VR w0 ok s.hp pl r.2 val ∧ ∀ w', Cl w w' → (Instr.indexAt t (a.eval x) (a.eval ix)).run P w' = .ok val w' := by
  have hl := look_VR hc hx none x
  have hi := look_VR hc hx none ix
  simp only [evPure] at h
  split at h <;> try (simp only [reduceCtorEq] at h; done)
  rename_i e hTt
  obtain ⟨te, hu, h1, hte⟩ := (hT t _ hTt).sl
  split at h <;> try (simp only [reduceCtorEq] at h; done)
  rename_i k n hix
  rw [hix] at hi
  have hi := hi.int
  have hrun : ∀ (B o len cap : Nat) (w' : World), 0 ≤ n → n < len → (Instr.indexAt t (.slice (some ⟨B, o, none⟩) len cap) (.int k n)).run P w' = .ok (.pointer (some ⟨B, o + n.toNat * e.sz, none⟩)) w' := by
    intro B o len cap w' h0 h2
    simp [Instr.indexAt, run_underlying hu, asIntOf, h0, h2, run_sizeOf' hte.row, addr_add]
  generalize look ctx s.tm none x = vx at h hl
  cases vx <;> simp only [reduceCtorEq] at h
  case ro e' d =>
    split at h <;> simp only [reduceCtorEq, Option.some.injEq] at h
    rename_i hbeq
    have := Ty.eq_of_beq _ _ hbeq
    subst this
    subst h
    simp only [Bool.and_eq_true, decide_eq_true_eq] at hr
    simp only [VR, VC, RO] at hl
    obtain ⟨a', cap, ev, hcap, hel⟩ := hl
    simp only [List.cons.injEq, and_true] at ev
    have hn : n.toNat < d.len := by omega
    obtain ⟨B, o, ea, hok, hB, cs, hlen, hcell, hro⟩ := hel n.toNat hn
    subst ea
    refine ⟨_, ?_, fun w' _ => by rw [ev, hi]; exact hrun B o d.len cap w' hr.1 hr.2⟩
    simp only [VR, VC]
    exact ⟨B, _, rfl, hok, hB, cs, hlen, hcell, hro⟩
  case hd b =>
    simp only [VR, VC] at hl
    obtain ⟨_, hlt, hh⟩ := hl
    cases hb : getB s.hp b with
    | dead => simp [hb] at h
    | box _ => simp [hb] at h
    | arr e' l =>
      simp only [hb] at h hh
      split at h <;> simp only [reduceCtorEq, Option.some.injEq] at h
      rename_i hbeq
      have := Ty.eq_of_beq _ _ hbeq
      subst this
      subst h
      simp only [Bool.and_eq_true, decide_eq_true_eq] at hr
      obtain ⟨a', cap, ev, hcap, hhd⟩ := hh
      simp only [List.cons.injEq, and_true] at ev
      rcases hhd with ⟨h0, _⟩ | ⟨p, hp, ea, _⟩
      · omega
      · subst ea
        refine ⟨_, ?_, fun w' _ => by rw [ev, hi]; exact hrun _ _ _ cap w' hr.1 hr.2⟩
        simp only [VR, VC, hb]
        exact ⟨by simp, hlt, by omega, p, hp, by simp⟩
  case hs b lo len =>
    simp only [VR, VC] at hl
    obtain ⟨_, hlt, hh⟩ := hl
    cases hb : getB s.hp b with
    | dead => simp [hb] at h
    | box _ => simp [hb] at h
    | arr e' l =>
      simp only [hb] at h hh
      split at h <;> simp only [reduceCtorEq, Option.some.injEq] at h
      rename_i hbeq
      have := Ty.eq_of_beq _ _ hbeq
      subst this
      subst h
      simp only [Bool.and_eq_true, decide_eq_true_eq] at hr
      obtain ⟨⟨a', cap, ev, hcap, hhd⟩, hle⟩ := hh
      simp only [List.cons.injEq, and_true] at ev
      rcases hhd with ⟨h0, _⟩ | ⟨p, hp, ea, _⟩
      · omega
      · subst ea
        refine ⟨_, ?_, fun w' _ => by rw [ev, hi]; exact hrun _ _ _ cap w' hr.1 hr.2⟩
        simp only [VR, VC, hb]
        exact ⟨by simp, hlt, by omega, p, hp, by simp [Nat.add_mul, Nat.add_assoc]⟩
end
end Go.Ev
