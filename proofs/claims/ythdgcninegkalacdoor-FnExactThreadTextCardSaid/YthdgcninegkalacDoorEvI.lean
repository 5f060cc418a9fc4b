/-
  Every operation that leaves memory alone does what the evaluator says.
-/
import Derived.Test.YthdgcninegkalacDoorEvZ
namespace Go.Ev

theorem run_v {P : Program} {q : Sem Value} {w w' : World} {x : Value} (h : q.run P w = .ok x w') : (do pure (Next.value (← q)) : Sem Next).run P w = .ok (.value x) w' := by
  simp [h]

section
variable {P : Program} {E : Env} {w0 : World} {ok : Nat → Prop} {pl : List (Option Pl)} {FS : List (List Nat)} {s : St} {a : Act} {w : World}

theorem binI_run {op : BinOp} {k : IntKind} {x y : Int} {r : Bool × V} (xt : TypeId) (h1 : op ≠ .shl) (h2 : op ≠ .shr) (h : binI op k x y = some r) (hr : r.1 = true) :
    ∃ val, VR w0 ok s.hp pl r.2 val ∧ ∀ w', (binOp op xt (.int k x) (.int k y)).run P w' = .ok val w' := by
  cases op <;> simp only [binI, reduceCtorEq, Option.some.injEq] at h
  case quo =>
    subst h
    have hy : y ≠ 0 := by simpa using hr
    exact ⟨_, VR.mkInt _ _, fun w' => by simp [binOp, Op.intDiv, hy]⟩
  case rem =>
    subst h
    have hy : y ≠ 0 := by simpa using hr
    exact ⟨_, VR.mkInt _ _, fun w' => by simp [binOp, Op.intDiv, hy]⟩
  case and => subst h; exact ⟨_, VR.mkInt _ _, fun w' => by simp only [binOp, Op.intBits, ne_eq, not_true, if_false, Sem.run_pure]⟩
  case or => subst h; exact ⟨_, VR.mkInt _ _, fun w' => by simp only [binOp, Op.intBits, ne_eq, not_true, if_false, Sem.run_pure]⟩
  case xor => subst h; exact ⟨_, VR.mkInt _ _, fun w' => by simp only [binOp, Op.intBits, ne_eq, not_true, if_false, Sem.run_pure]⟩
  case add => subst h; exact ⟨_, VR.mkInt _ _, fun w' => by simp [binOp, Op.intArith]⟩
  case sub => subst h; exact ⟨_, VR.mkInt _ _, fun w' => by simp [binOp, Op.intArith]⟩
  case mul => subst h; exact ⟨_, VR.mkInt _ _, fun w' => by simp [binOp, Op.intArith]⟩
  all_goals subst h; exact ⟨_, VR.mkBool _, fun w' => by simp [binOp, Op.intCmp]⟩

theorem binS_run {op : BinOp} {x y : ByteArray} {r : Bool × V} (xt : TypeId) (h : binS op x y = some r) (hr : r.1 = true) :
    ∃ val, VR w0 ok s.hp pl r.2 val ∧ ∀ w', (binOp op xt (.string x) (.string y)).run P w' = .ok val w' := by
  cases op <;> simp only [binS, reduceCtorEq, Option.some.injEq] at h
  case add =>
    subst h
    have hy : x.size + y.size ≤ 4611686018427387904 := by simpa using hr
    have : ¬ ((x.size + y.size : Nat) : Int) > IntKind.i64.max := by
      have e : IntKind.i64.max = 9223372036854775807 := by decide
      rw [e]; omega
    refine ⟨_, VR.mkStr _, fun w' => ?_⟩
    simp only [binOp, Op.stringOp]
    rw [if_neg this]
    simp
  all_goals subst h; exact ⟨_, VR.mkBool _, fun w' => by simp [binOp, Op.stringOp]⟩

theorem eqGuard_plain {op : BinOp} {t : TypeId} {x y : Operand} {u v : Value} (h1 : ∀ c, u ≠ .agg c) (h2 : u ≠ .nilIface) (w : World) : (eqGuard op t x y u v).run P w = .ok () w := by
  unfold eqGuard
  cases op <;> simp
  all_goals
    cases u <;> simp_all

theorem eqGuard_agg {op : BinOp} {t : TypeId} {x y : Operand} {c d : Array Value} (h : P.eqGuardType P.depth t = false) (w : World) : (eqGuard op t x y (.agg c) (.agg d)).run P w = .ok () w := by
  unfold eqGuard
  cases op <;> simp [h]

theorem VR.cv {v : V} {x : Value} (h : VR w0 ok s.hp pl v x) (hv : v.isSt = true ∨ ∃ b, v = .bool b) : ∃ cs, VC w0 ok s.hp pl v cs ∧ ∀ ty : Ty, ty.isSt = v.isSt → x = Ev.cv ty cs := by
  rcases hv with hv | ⟨b, rfl⟩
  · cases v <;> simp only [V.isSt, Bool.false_eq_true] at hv
    simp only [VR] at h
    obtain ⟨cs, rfl, h⟩ := h
    exact ⟨cs.toList, by simpa [VC] using h, fun ty ht => by simp only [V.isSt] at ht; simp [Ev.cv, ht]⟩
  · have := h.bool
    subst this
    exact ⟨[.bool b], by simp [VC], fun ty ht => by simp only [V.isSt] at ht; simp [Ev.cv, ht]⟩

theorem eqV_shape {ty : Ty} {v x : V} {q : Bool} (h : eqV ty v x = some q) (hni : ∀ k a k' b, v = .int k a → x = .int k' b → False) (hns : ∀ a b, v = .str a → x = .str b → False) :
    (v.isSt = true ∨ ∃ b, v = .bool b) ∧ (x.isSt = true ∨ ∃ b, x = .bool b) ∧ v.isSt = ty.isSt ∧ x.isSt = ty.isSt := by
  cases ty with
  | int k =>
    cases v <;> cases x <;> simp only [eqV, reduceCtorEq] at h
    exact (hni _ _ _ _ rfl rfl).elim
  | bool =>
    cases v <;> cases x <;> simp only [eqV, reduceCtorEq] at h
    exact ⟨.inr ⟨_, rfl⟩, .inr ⟨_, rfl⟩, rfl, rfl⟩
  | str =>
    cases v <;> cases x <;> simp only [eqV, reduceCtorEq] at h
    exact (hns _ _ rfl rfl).elim
  | sl e => cases v <;> cases x <;> simp only [eqV, reduceCtorEq] at h
  | st fs =>
    cases v <;> cases x <;> simp only [eqV, reduceCtorEq] at h
    exact ⟨.inl rfl, .inl rfl, rfl, rfl⟩

theorem evPure_sound {T : TypeId → Option Ty} (hT : ∀ t ty, T t = some ty → TyOk P t ty) (hD : 16 ≤ P.depth) (hc : Core E w0 ok pl FS s a w) {ctx : Option (Nat × Bool)}
    (hx : ∀ t b, ctx = some (t, b) → a.tmps.getD t undef = .bool b) {o : Oper} {r : Bool × V} (h : evPure T ctx s.tm s.hp o.type o.op = some r) (hr : r.1 = true) :
    ∃ val, VR w0 ok s.hp pl r.2 val ∧ ∀ w', Cl w w' → (execOp a.eval o).run P w' = .ok (.value val) w' := by
  have look := fun t x => look_VR hc hx t x
  generalize hop : o.op = op at h
  cases op with
  | move x =>
    simp only [evPure, Option.some.injEq] at h
    subst h
    exact ⟨_, look _ x, fun w' _ => by simp [execOp, hop]⟩
  | assign x =>
    simp only [evPure, Option.some.injEq] at h
    subst h
    exact ⟨_, look _ x, fun w' _ => by simp [execOp, hop]⟩
  | pick c p q =>
    simp only [evPure] at h
    split at h <;> try (simp only [reduceCtorEq] at h; done)
    rename_i n
    have hcv := look none (.tmp n)
    simp only [Ev.look] at hcv
    split at h <;> try (simp only [reduceCtorEq] at h; done)
    rename_i x hxv
    rw [hxv] at hcv
    have hcv := hcv.bool
    have hn : a.tmps.getD n undef = .bool x := by simpa [Act.eval] using hcv
    have fin : ∀ y, (x = true → Ev.look (some (n, true)) s.tm none p = .bool y) → (x = false → Ev.look (some (n, false)) s.tm none q = .bool y) →
        ∃ val, VR w0 ok s.hp pl (.bool y) val ∧ ∀ w', Cl w w' → (execOp a.eval o).run P w' = .ok (.value val) w' := by
      intro y h1 h2
      refine ⟨_, VR.mkBool _, fun w' _ => ?_⟩
      cases x
      · have := look_VR hc (ctx := some (n, false)) (by rintro t b e; cases e; exact hn) none q
        rw [h2 rfl] at this
        simp [execOp, hop, hcv, asBool, this.bool]
      · have := look_VR hc (ctx := some (n, true)) (by rintro t b e; cases e; exact hn) none p
        rw [h1 rfl] at this
        simp [execOp, hop, hcv, asBool, this.bool]
    split at h
    · rename_i y z hy hz
      simp only [Option.some.injEq] at h
      subst h
      exact fin _ (fun e => by rw [hy, e]; rfl) (fun e => by rw [hz, e]; rfl)
    · cases x
      · simp only [cond_false] at h
        split at h <;> simp only [reduceCtorEq, Option.some.injEq] at h
        rename_i hz
        subst h
        exact fin _ (fun e => by cases e) (fun _ => hz)
      · simp only [cond_true] at h
        split at h <;> simp only [reduceCtorEq, Option.some.injEq] at h
        rename_i hz
        subst h
        exact fin _ (fun _ => hz) (fun e => by cases e)
  | load t x =>
    obtain ⟨val, hv, hw⟩ := load_sound hT hc hx h
    exact ⟨val, hv, fun w' k => by simp only [execOp, hop]; exact run_v (hw w' k)⟩
  | fieldAddr t x f =>
    obtain ⟨val, hv, hw⟩ := field_sound hT hc hx h
    exact ⟨val, hv, fun w' k => by simp only [execOp, hop]; exact run_v (hw w' k)⟩
  | indexAddr t x ix =>
    obtain ⟨val, hv, hw⟩ := index_sound hT hc hx h hr
    exact ⟨val, hv, fun w' k => by simp only [execOp, hop]; exact run_v (hw w' k)⟩
  | nilCheck x =>
    have hl := look none x
    simp only [evPure] at h
    generalize Ev.look ctx s.tm none x = vx at h hl
    cases vx <;> simp only [reduceCtorEq] at h
    case pt b p off =>
      have hl' := hl
      simp only [VR, VC] at hl
      obtain ⟨_, _, hpt⟩ := hl
      cases hb : getB s.hp b with
      | dead => simp [hb] at h
      | arr _ _ => simp [hb] at h
      | box v =>
        simp only [hb, Option.some.injEq] at h hpt
        subst h
        obtain ⟨p', _, e⟩ := hpt
        simp only [List.cons.injEq, and_true] at e
        exact ⟨_, hl', fun w' _ => by simp only [execOp, hop, e]; rfl⟩
    case rp t d =>
      have hl' := hl
      simp only [Option.some.injEq] at h
      subst h
      simp only [VR, VC] at hl
      obtain ⟨B, off, e, _⟩ := hl
      simp only [List.cons.injEq, and_true] at e
      exact ⟨_, hl', fun w' _ => by simp only [execOp, hop, e]; rfl⟩
  | index t x ix =>
    have hl := look none x
    have hi := look none ix
    simp only [evPure] at h
    split at h <;> try (simp only [reduceCtorEq] at h; done)
    rename_i hTt
    have hty := hT t _ hTt
    simp only [TyOk] at hty
    split at h <;> try (simp only [reduceCtorEq] at h; done)
    rename_i k n hn
    rw [hn] at hi
    split at h <;> try (simp only [reduceCtorEq] at h; done)
    rename_i b hb
    rw [hb] at hl
    simp only [Option.some.injEq] at h
    subst h
    simp only [Bool.and_eq_true, decide_eq_true_eq] at hr
    refine ⟨_, VR.mkInt _ _, fun w' _ => ?_⟩
    have hlt : n.toNat < b.size := by omega
    have hlt' : n.toNat < b.data.size := hlt
    have hg : b[n.toNat]? = some (b.data.getD n.toNat 0) := by
      rw [getElem?_pos b n.toNat hlt]
      simp only [Array.getD, hlt', dif_pos]
      rfl
    simp only [execOp, hop]
    refine run_v ?_
    simp only [Instr.index, hi.int, hl.str, asIntOf, Sem.run_bind, Sem.run_pure, Result.andThen_ok, run_underlying hty.2, hr.1, if_true, hg]
  | field t x f =>
    simp only [evPure] at h
    split at h <;> try (simp only [reduceCtorEq] at h; done)
    rename_i fs hTt
    have hty := hT t _ hTt
    simp only [TyOk] at hty
    obtain ⟨_, _, l, hu, hfs⟩ := hty
    have hl := look (some (.st fs)) x
    split at h <;> try (simp only [reduceCtorEq] at h; done)
    rename_i vs hvs
    rw [hvs] at hl
    split at h <;> try (simp only [reduceCtorEq] at h; done)
    rename_i v tf hv htf
    split at h <;> simp only [reduceCtorEq, Option.some.injEq] at h
    rename_i hcond
    obtain ⟨hoff, hsz, hst⟩ := hcond
    subst h
    simp only [VR] at hl
    obtain ⟨cs, ex, hcs⟩ := hl
    obtain ⟨c1, c2, c3, ecs, hl1, hvc, _⟩ := VCs.get f v hcs hv
    obtain ⟨g, hg, ho, h1, hgt⟩ := hfs.get f tf htf
    simp only [Nat.zero_add] at ho
    have hg' : l[f]? = some g := by simpa using hg
    refine ⟨_, hvc.toVR' hst, fun w' _ => ?_⟩
    simp only [execOp, hop]
    refine run_v ?_
    have hcs' : cs = (c1 ++ (c2 ++ c3)).toArray := by rw [← ecs]
    have := run_part hgt (pre := c1) (c := c2) (post := c3) (by rw [hvc.len, hsz]) w'
    have ho' : g.offset = c1.length := by omega
    simp only [Instr.field, run_underlying hu, Sem.run_bind, Result.andThen_ok, hg', ex, asAgg, Sem.run_pure, hcs', ho']
    exact this
  | extract x i =>
    have hl := look none x
    simp only [evPure] at h
    split at h <;> try (simp only [reduceCtorEq] at h; done)
    rename_i vs hvs
    rw [hvs] at hl
    cases hi : vs[i]? with
    | none => simp [hi] at h
    | some v =>
      simp only [hi, Option.some.injEq] at h
      subst h
      simp only [VR] at hl
      obtain ⟨cs, ex, hcs⟩ := hl
      obtain ⟨y, hy, hvy⟩ := VRs_get hcs hi
      refine ⟨y, hvy, fun w' _ => ?_⟩
      simp only [execOp, hop]
      refine run_v ?_
      have : cs[i]? = some y := by simpa using hy
      simp [Instr.extract, ex, this]
  | binOp op xt x y yt =>
    have h1 := look (T xt) x
    have h2 := look (T xt) y
    simp only [evPure] at h
    have key : ∀ (u v : Value) (val : Value), a.eval x = u → a.eval y = v → (∀ c, u ≠ .agg c) → u ≠ .nilIface → (∀ w', (binOp op xt u v).run P w' = .ok val w') →
        ∀ w', Cl w w' → (execOp a.eval o).run P w' = .ok (.value val) w' := by
      intro u v val eu ev hna hnn hrun w' _
      simp only [execOp, hop, eu, ev]
      refine run_v ?_
      simp only [Sem.run_bind, eqGuard_plain hna hnn, Result.andThen_ok, hrun]
    split at h
    · rename_i k n k' m e1 e2
      rw [e1] at h1; rw [e2] at h2
      by_cases hs1 : op = .shl
      · subst hs1
        simp only [Option.some.injEq] at h
        subst h
        have hm : ¬ m < 0 := by have : 0 ≤ m := by simpa using hr
                                omega
        exact ⟨_, VR.mkInt _ _, key _ _ _ h1.int h2.int (by simp) (by simp) (fun w' => by simp [Go.binOp, Op.shift, hm])⟩
      · by_cases hs2 : op = .shr
        · subst hs2
          simp only [Option.some.injEq] at h
          subst h
          have hm : ¬ m < 0 := by have : 0 ≤ m := by simpa using hr
                                  omega
          exact ⟨_, VR.mkInt _ _, key _ _ _ h1.int h2.int (by simp) (by simp) (fun w' => by simp [Go.binOp, Op.shift, hm])⟩
        · have h' : (if k = k' then binI op k n m else none) = some r := by
            cases op <;> first | exact h | exact absurd rfl hs1 | exact absurd rfl hs2
          split at h' <;> try (simp only [reduceCtorEq] at h'; done)
          rename_i ek
          subst ek
          obtain ⟨val, hv, hrun⟩ := binI_run (P := P) (w0 := w0) (ok := ok) (s := s) (pl := pl) xt hs1 hs2 h' hr
          exact ⟨val, hv, key _ _ _ h1.int h2.int (by simp) (by simp) hrun⟩
    · rename_i b c e1 e2
      rw [e1] at h1; rw [e2] at h2
      obtain ⟨val, hv, hrun⟩ := binS_run (P := P) (w0 := w0) (ok := ok) (s := s) (pl := pl) xt h hr
      exact ⟨val, hv, key _ _ _ h1.str h2.str (by simp) (by simp) hrun⟩
    · rename_i va vb hni hns
      split at h <;> try (simp only [reduceCtorEq] at h; done)
      rename_i ty hTt
      have hty := hT xt _ hTt
      rw [hTt] at h h1 h2 hni hns
      cases he : eqV ty (Ev.look ctx s.tm (some ty) x) (Ev.look ctx s.tm (some ty) y) with
      | none => simp [he] at h
      | some q =>
        simp only [he] at h
        split at h <;> try (simp only [reduceCtorEq] at h; done)
        rename_i hdep
        have hshape := eqV_shape he hni hns
        obtain ⟨s1, s2, i1, i2⟩ := hshape
        obtain ⟨c1, hv1, hc1⟩ := h1.cv s1
        obtain ⟨c2, hv2, hc2⟩ := h2.cv s2
        have ex := hc1 ty i1.symm
        have ey := hc2 ty i2.symm
        have heq := fun w' => eqV_run (w0 := w0) (ok := ok) (hp := s.hp) (pl := pl) Op.maxDepth w' hty (by unfold Op.maxDepth; omega) he hv1 hv2
        have hrun : ∀ w', (do eqGuard op xt x y (a.eval x) (a.eval y) : Sem Unit).run P w' = .ok () w' := by
          intro w'
          rw [ex, ey]
          cases hst : ty.isSt
          · have hn : ∀ c, cv ty c1 ≠ .agg c := by
              rcases s1 with s1 | ⟨b, s1⟩
              · rw [i1, hst] at s1; cases s1
              · rw [s1] at h1
                rw [← ex, h1.bool]; simp
            have hn2 : cv ty c1 ≠ .nilIface := by
              rcases s1 with s1 | ⟨b, s1⟩
              · rw [i1, hst] at s1; cases s1
              · rw [s1] at h1
                rw [← ex, h1.bool]; simp
            exact eqGuard_plain hn hn2 w'
          · simp only [cv, hst, if_true]
            exact eqGuard_agg (eqGuardType_false _ hty (by omega)) w'
        have hnum : ∀ w', (Op.equal xt (a.eval x) (a.eval y)).run P w' = .ok q w' := fun w' => by rw [ex, ey]; exact heq w'
        have hbin1 : ∀ w', (Go.binOp .eql xt (a.eval x) (a.eval y)).run P w' = .ok (.bool q) w' := by
          intro w'
          rcases s1 with s1 | ⟨b, s1⟩
          · have h3 : ∃ d1, a.eval x = .agg d1 := ⟨c1.toArray, by rw [ex]; simp only [cv, ← i1, s1, if_true]⟩
            have h4 : ∃ d2, a.eval y = .agg d2 := ⟨c2.toArray, by rw [ey]; simp only [cv, ← i1, s1, if_true]⟩
            obtain ⟨d1, e1⟩ := h3
            obtain ⟨d2, e2⟩ := h4
            have := hnum w'
            rw [e1, e2] at this ⊢
            simp [Go.binOp, this]
          · rcases s2 with s2 | ⟨b', s2⟩
            · exfalso; rw [i2, ← i1, s1] at s2; simp [V.isSt] at s2
            · rw [s1] at h1; rw [s2] at h2
              have := hnum w'
              rw [h1.bool, h2.bool] at this ⊢
              simp [Go.binOp, this]
        have hbin2 : ∀ w', (Go.binOp .neq xt (a.eval x) (a.eval y)).run P w' = .ok (.bool (!q)) w' := by
          intro w'
          rcases s1 with s1 | ⟨b, s1⟩
          · have h3 : ∃ d1, a.eval x = .agg d1 := ⟨c1.toArray, by rw [ex]; simp only [cv, ← i1, s1, if_true]⟩
            have h4 : ∃ d2, a.eval y = .agg d2 := ⟨c2.toArray, by rw [ey]; simp only [cv, ← i1, s1, if_true]⟩
            obtain ⟨d1, e1⟩ := h3
            obtain ⟨d2, e2⟩ := h4
            have := hnum w'
            rw [e1, e2] at this ⊢
            simp [Go.binOp, this]
          · rcases s2 with s2 | ⟨b', s2⟩
            · exfalso; rw [i2, ← i1, s1] at s2; simp [V.isSt] at s2
            · rw [s1] at h1; rw [s2] at h2
              have := hnum w'
              rw [h1.bool, h2.bool] at this ⊢
              simp [Go.binOp, this]
        cases op <;> simp only [reduceCtorEq, Option.some.injEq] at h
        · subst h
          refine ⟨_, VR.mkBool _, fun w' _ => ?_⟩
          simp only [execOp, hop]
          refine run_v ?_
          simp only [Sem.run_bind, hrun w', Result.andThen_ok, hbin1 w']
        · subst h
          refine ⟨_, VR.mkBool _, fun w' _ => ?_⟩
          simp only [execOp, hop]
          refine run_v ?_
          simp only [Sem.run_bind, hrun w', Result.andThen_ok, hbin2 w']
  | unOp op t x =>
    have hl := look none x
    simp only [evPure] at h
    split at h <;> try (simp only [reduceCtorEq] at h; done)
    · rename_i b hb
      rw [hb] at hl
      simp only [Option.some.injEq] at h
      subst h
      exact ⟨_, VR.mkBool _, fun w' _ => by simp only [execOp, hop, hl.bool]; exact run_v (by simp [Op.unary])⟩
    · rename_i k n hb
      rw [hb] at hl
      simp only [Option.some.injEq] at h
      subst h
      exact ⟨_, VR.mkInt _ _, fun w' _ => by simp only [execOp, hop, hl.int]; exact run_v (by simp [Op.unary, Op.intArith])⟩
  | convert src dst x =>
    have hl := look none x
    simp only [evPure] at h
    split at h <;> try (simp only [reduceCtorEq] at h; done)
    · rename_i ts k k' n hs hd hb
      rw [hb] at hl
      simp only [Option.some.injEq] at h
      subst h
      have h1 := hT _ _ hs
      have h2 := hT _ _ hd
      simp only [TyOk] at h2
      obtain ⟨du, hdu⟩ := h1.desc
      exact ⟨_, VR.mkInt _ _, fun w' _ => by simp only [execOp, hop, hl.int]; exact run_v (by simp [convert, run_underlying hdu, run_underlying h2.2, Conv.intToInt])⟩
    · rename_i b hs hd hb
      rw [hb] at hl
      simp only [Option.some.injEq] at h
      subst h
      have h1 := hT _ _ hs
      have h2 := hT _ _ hd
      simp only [TyOk] at h1 h2
      exact ⟨_, VR.mkStr _, fun w' _ => by simp only [execOp, hop, hl.str]; exact run_v (by simp [convert, run_underlying h1.2, run_underlying h2.2])⟩
    · rename_i hs hd
      split at h <;> simp only [reduceCtorEq, Option.some.injEq] at h
      rename_i d hg
      subst h
      obtain ⟨te, hu, _, hte⟩ := (hT _ _ hs).sl
      have h2 := hT _ _ hd
      simp only [TyOk] at h2 hte
      obtain ⟨cs, e, hvc⟩ := argD_cv hl hg
      have hcs : [a.eval x] = cs := by
        have := hvc.len
        cases cs with
        | nil => generalize Ev.look ctx s.tm none x = vx at hg hvc; cases vx <;> simp [argD] at hg <;> simp [VC, RO] at hvc
        | cons y r => cases r with
          | nil => simp [cv, Ty.isSt] at e; rw [e]
          | cons _ _ => generalize Ev.look ctx s.tm none x = vx at hg hvc; cases vx <;> simp [argD] at hg <;> simp [VC, RO] at hvc
      subst hcs
      exact ⟨_, VR.mkStr _, fun w' hw => by simp only [execOp, hop]; exact run_v (bytes_run hu hte.2 h2.2 (argD_sound (hc.cl hw) hvc hg))⟩
  | build t parts =>
    simp only [evPure] at h
    split at h <;> try (simp only [reduceCtorEq] at h; done)
    rename_i fs hTt
    split at h <;> simp only [reduceCtorEq, Option.some.injEq] at h
    rename_i l hb
    subst h
    have hty := hT t _ hTt
    have hrow := hty.row
    simp only [TyOk] at hty
    obtain ⟨_, _, flds, hu, hfs⟩ := hty
    obtain ⟨pls, h1, h2, h3⟩ := places_of hfs
    obtain ⟨i, hi, hz, hsz, _⟩ := hrow
    obtain ⟨A', k1, k2⟩ := buildV_sound (A := (zc (.st fs)).toArray) look (place := (pls.toArray[·]?)) (fun j t' hj => by have := h3 j t' hj; simpa using this) hb (zeroVs_len fs) (fun j x t' hx' ht' => zeroVs_sz fs j x t' hx' ht')
      (by have := zeroV_VC (w0 := w0) (ok := ok) (hp := s.hp) (pl := pl) (.st fs); simpa [zeroV, VC] using this)
    refine ⟨.agg A', by simp only [VR]; exact ⟨_, rfl, k2⟩, fun w' _ => ?_⟩
    have hzc : (zv (.st fs)).cells = (zc (.st fs)).toArray := by simp [zv, Value.cells, zc]
    have hbt : P.built t (parts.map fun (i, x) => (i, a.eval x)).toList = some A' := by
      unfold Program.built
      simp only [hi, hu, hz, hzc, h1]
      simpa using k1
    simp only [execOp, hop]
    exact run_v (run_build w' t _ A' hbt)
  | slice t x lo hi mx =>
    have hl := look none x
    cases mx with
    | some _ => simp [evPure] at h
    | none =>
    simp only [evPure] at h
    split at h <;> try (simp only [reduceCtorEq] at h; done)
    · rename_i hTt
      have hty := hT _ _ hTt
      simp only [TyOk] at hty
      split at h <;> try (simp only [reduceCtorEq] at h; done)
      rename_i b hb
      split at h <;> simp only [reduceCtorEq, Option.some.injEq] at h
      rename_i l0 h0 hl0 hh0
      subst h
      rw [hb] at hl
      refine ⟨_, VR.mkStr _, fun w' _ => ?_⟩
      have hbr := bounds_run (P := P) (w := w') (b := false) (bnd_val look hl0) (bnd_val look hh0) hr (Nat.le_refl _)
      simp only [execOp, hop, hl.str]
      exact run_v (by simp [Instr.sliceAt, Instr.slice, run_underlying hty.2, hbr])
    · rename_i e hTt
      obtain ⟨te, hu, he1, hte⟩ := (hT _ _ hTt).sl
      obtain ⟨i, hi', _, hsz, _⟩ := hte.row
      have hrun : ∀ (ad : Option Addr) (len cap : Nat) (l0 h0 : Int) (w' : World), a.eval x = .slice ad len cap → len ≤ cap → bndB l0 h0 len = true → ((lo = none ∧ l0 = 0) ∨ ∃ x k, lo = some x ∧ a.eval x = .int k l0) →
          ((hi = none ∧ h0 = len) ∨ ∃ x k, hi = some x ∧ a.eval x = .int k h0) →
          (execOp a.eval o).run P w' = .ok (.value (.slice (if cap = l0.toNat then ad else ad.map (·.add (l0.toNat * e.sz))) (h0.toNat - l0.toNat) (cap - l0.toNat))) w' := by
        intro ad len cap l0 h0 w' ex hlc hb hlo hhi
        have hbr := bounds_run (P := P) (w := w') (b := true) hlo hhi hb hlc
        simp only [execOp, hop, ex]
        exact run_v (by simp [Instr.sliceAt, Instr.slice, run_underlying hu, hbr, sizeOf, typeInfo, hi', hsz])
      split at h <;> try (simp only [reduceCtorEq] at h; done)
      · rename_i hb
        split at h <;> simp only [reduceCtorEq, Option.some.injEq] at h
        rename_i l0 h0 hl0 hh0
        subst h
        rw [hb] at hl
        simp only [VR, VC, List.cons.injEq, and_true] at hl
        simp only at hr
        have hbv := hr
        simp only [bndB, Bool.and_eq_true, decide_eq_true_eq] at hbv
        refine ⟨.slice none 0 0, by simp [VR, VC], fun w' _ => ?_⟩
        have := hrun none 0 0 l0 h0 w' hl (Nat.le_refl _) hr (bnd_val look hl0) (bnd_val look hh0)
        have e1 : l0.toNat = 0 := by omega
        have e2 : h0.toNat = 0 := by omega
        simpa [e1, e2] using this
      · rename_i e' d hb
        split at h <;> try (simp only [reduceCtorEq] at h; done)
        rename_i l0 h0 hl0 hh0
        split at h <;> simp only [reduceCtorEq, Option.some.injEq] at h
        rename_i hbeq
        have := Ty.eq_of_beq _ _ hbeq
        subst this; subst h
        rw [hb] at hl
        simp only [VR, VC, RO] at hl
        obtain ⟨ad, cap, ev, hcap, hel⟩ := hl
        simp only [List.cons.injEq, and_true] at ev
        simp only at hr
        have hbv := hr
        simp only [bndB, Bool.and_eq_true, decide_eq_true_eq] at hbv
        have hlen : (Dat.n ((d.kids.drop l0.toNat).take (h0.toNat - l0.toNat))).len = h0.toNat - l0.toNat := by
          have hk : d.len = d.kids.length := rfl
          have h3 := hbv.2.2
          rw [hk] at h3
          show (List.take _ _).length = _
          rw [List.length_take, List.length_drop]; omega
        refine ⟨_, ?_, fun w' _ => hrun ad d.len cap l0 h0 w' ev hcap hr (bnd_val look hl0) (bnd_val look hh0)⟩
        simp only [VR, VC, RO]
        refine ⟨_, _, by rw [hlen], by rw [hlen]; omega, fun j hj => ?_⟩
        rw [hlen] at hj
        obtain ⟨B, o', ea, hok, hB, cs', h1, h2, h3⟩ := hel (l0.toNat + j) (by omega)
        refine ⟨B, o' + l0.toNat * e.sz, ?_, hok, hB, cs', h1, fun k hk => ?_, ?_⟩
        · rw [if_neg (by omega), ea]; simp [addr_add]
        · rw [← h2 k hk]; congr 1; rw [Nat.add_mul]; omega
        · have : (Dat.n ((d.kids.drop l0.toNat).take (h0.toNat - l0.toNat))).fld j = d.fld (l0.toNat + j) := by
            simp [Dat.fld, Dat.kids, List.getD_eq_getElem?_getD, hj]
          rw [this]; exact h3
      · rename_i b hb
        rw [hb] at hl
        simp only [VR, VC] at hl
        obtain ⟨_, hlt, hh⟩ := hl
        split at h <;> try (simp only [reduceCtorEq] at h; done)
        rename_i e' L hL
        split at h <;> try (simp only [reduceCtorEq] at h; done)
        rename_i l0 h0 hl0 hh0
        split at h <;> simp only [reduceCtorEq, Option.some.injEq] at h
        rename_i hbeq
        have := Ty.eq_of_beq _ _ hbeq
        subst this; subst h
        simp only [hL] at hh
        obtain ⟨ad, cap, ev, hcap, hhd⟩ := hh
        simp only [List.cons.injEq, and_true] at ev
        simp only at hr
        have hbv := hr
        simp only [bndB, Bool.and_eq_true, decide_eq_true_eq] at hbv
        refine ⟨_, ?_, fun w' _ => hrun ad L.length cap l0 h0 w' ev hcap hr (bnd_val look hl0) (bnd_val look hh0)⟩
        simp only [VR, VC, hL]
        refine ⟨⟨_, _, _, rfl⟩, hlt, ⟨_, _, rfl, by omega, ?_⟩, by omega⟩
        by_cases hcl : cap = l0.toNat
        · left; omega
        · rcases hhd with ⟨q1, q2⟩ | ⟨p, hp, ea, hroom⟩
          · left; omega
          · refine .inr ⟨p, hp, ?_, ?_⟩
            · rw [if_neg hcl, ea]; simp [addr_add]
            · have : l0.toNat + (cap - l0.toNat) = cap := by omega
              rw [this]; simpa using hroom
      · rename_i b lo0 n hb
        rw [hb] at hl
        simp only [VR, VC] at hl
        obtain ⟨_, hlt, hh⟩ := hl
        split at h <;> try (simp only [reduceCtorEq] at h; done)
        rename_i e' L hL
        split at h <;> try (simp only [reduceCtorEq] at h; done)
        rename_i l0 h0 hl0 hh0
        split at h <;> simp only [reduceCtorEq, Option.some.injEq] at h
        rename_i hbeq
        have := Ty.eq_of_beq _ _ hbeq
        subst this; subst h
        simp only [hL] at hh
        obtain ⟨⟨ad, cap, ev, hcap, hhd⟩, hle⟩ := hh
        simp only [List.cons.injEq, and_true] at ev
        simp only at hr
        have hbv := hr
        simp only [bndB, Bool.and_eq_true, decide_eq_true_eq] at hbv
        refine ⟨_, ?_, fun w' _ => hrun ad n cap l0 h0 w' ev hcap hr (bnd_val look hl0) (bnd_val look hh0)⟩
        simp only [VR, VC, hL]
        refine ⟨⟨_, _, _, rfl⟩, hlt, ⟨_, _, rfl, by omega, ?_⟩, by omega⟩
        by_cases hcl : cap = l0.toNat
        · left; omega
        · rcases hhd with ⟨q1, q2⟩ | ⟨p, hp, ea, hroom⟩
          · left; omega
          · refine .inr ⟨p, hp, ?_, ?_⟩
            · rw [if_neg hcl, ea]; simp [addr_add, Nat.add_mul]; omega
            · have : lo0 + l0.toNat + (cap - l0.toNat) = lo0 + cap := by omega
              rw [this]; exact hroom
  | call c =>
    simp only [evPure] at h
    split at h <;> try (simp only [reduceCtorEq] at h; done)
    rotate_left
    · rename_i hcal
      split at h <;> try (simp only [reduceCtorEq] at h; done)
      rename_i x y hargs
      have hargs' : c.args = #[x, y] := by rw [← Array.toArray_toList (xs := c.args), hargs]
      split at h <;> simp only [reduceCtorEq, Option.some.injEq] at h
      rename_i k n k' m hx' hy'
      subst h
      have h1 := look none x
      have h2 := look none y
      rw [hx'] at h1
      rw [hy'] at h2
      refine ⟨_, VR.mkInt _ _, fun w' _ => ?_⟩
      simp [execOp, hop, resolve, hcal, hargs', invoke, builtin, Builtin.min_, h1.int, h2.int, Builtin.min2]
    · rename_i hcal
      split at h <;> try (simp only [reduceCtorEq] at h; done)
      rename_i x y hargs
      have hargs' : c.args = #[x, y] := by rw [← Array.toArray_toList (xs := c.args), hargs]
      split at h <;> simp only [reduceCtorEq, Option.some.injEq] at h
      rename_i k n k' m hx' hy'
      subst h
      have h1 := look none x
      have h2 := look none y
      rw [hx'] at h1
      rw [hy'] at h2
      refine ⟨_, VR.mkInt _ _, fun w' _ => ?_⟩
      simp [execOp, hop, resolve, hcal, hargs', invoke, builtin, Builtin.max_, h1.int, h2.int, Builtin.max2]
    rename_i hcal
    split at h <;> try (simp only [reduceCtorEq] at h; done)
    rename_i x hargs
    split at h <;> try (simp only [reduceCtorEq] at h; done)
    rename_i t hat
    have hargs' : c.args = #[x] := by rw [← Array.toArray_toList (xs := c.args), hargs]
    have hat' : c.argTypes = #[t] := by rw [← Array.toArray_toList (xs := c.argTypes), hat]
    have hl := look none x
    have hexec : ∀ (n : Int), (∀ w', (Builtin.len_ #[t] o.type #[a.eval x]).run P w' = .ok (goInt n) w') → ∀ w', Cl w w' → (execOp a.eval o).run P w' = .ok (.value (.int .i64 n)) w' := by
      intro n hn w' _
      simp [execOp, hop, resolve, hcal, hargs', hat', invoke, builtin, hn, goInt]
    split at h <;> try (simp only [reduceCtorEq] at h; done)
    · rename_i hTt
      have hty := hT t _ hTt
      simp only [TyOk] at hty
      split at h <;> try (simp only [reduceCtorEq] at h; done)
      rename_i b hb
      rw [hb] at hl
      simp only [Option.some.injEq] at h
      subst h
      exact ⟨_, VR.mkInt _ _, hexec _ (fun w' => by simp [Builtin.len_, run_underlying hty.2, hl.str])⟩
    · rename_i e hTt
      obtain ⟨te, hu, _, _⟩ := (hT t _ hTt).sl
      have hlen : ∀ (b : Option Addr) (n cap : Nat), a.eval x = .slice b n cap → ∀ w', (Builtin.len_ #[t] o.type #[a.eval x]).run P w' = .ok (goInt n) w' := by
        intro b n cap e w'
        rw [e]; simp [Builtin.len_, run_underlying hu]
      generalize Ev.look ctx s.tm none x = vx at h hl
      cases vx <;> simp only [reduceCtorEq] at h
      case nil =>
        simp only [Option.some.injEq] at h
        subst h
        simp only [VR, VC, List.cons.injEq, and_true] at hl
        exact ⟨_, VR.mkInt _ _, hexec _ (hlen _ _ _ hl)⟩
      case ro e' d =>
        simp only [Option.some.injEq] at h
        subst h
        simp only [VR, VC, RO] at hl
        obtain ⟨b, cap, ev, _⟩ := hl
        simp only [List.cons.injEq, and_true] at ev
        exact ⟨_, VR.mkInt _ _, hexec _ (hlen _ _ _ ev)⟩
      case hd b =>
        simp only [VR, VC] at hl
        obtain ⟨_, hlt, hh⟩ := hl
        cases hb : getB s.hp b with
        | dead => simp [hb] at h
        | box _ => simp [hb] at h
        | arr e' l =>
          simp only [hb, Option.some.injEq] at h hh
          subst h
          obtain ⟨b', cap, ev, _⟩ := hh
          simp only [List.cons.injEq, and_true] at ev
          exact ⟨_, VR.mkInt _ _, hexec _ (hlen _ _ _ ev)⟩
      case hs b lo len =>
        simp only [VR, VC] at hl
        obtain ⟨_, hlt, hh⟩ := hl
        cases hb : getB s.hp b with
        | dead => simp [hb] at h
        | box _ => simp [hb] at h
        | arr e' l =>
          simp only [hb, Option.some.injEq] at h hh
          subst h
          obtain ⟨⟨b', cap, ev, _⟩, _⟩ := hh
          simp only [List.cons.injEq, and_true] at ev
          exact ⟨_, VR.mkInt _ _, hexec _ (hlen _ _ _ ev)⟩
  | _ => simp [evPure] at h
end
end Go.Ev
