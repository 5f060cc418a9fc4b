/-
  Loops that copy, compare and count; data by type.
-/
import Derived.Test.YthdgcninegkalacDoorEvR
namespace Go.Ev

/-! ### Contracts in a table -/
def tabC : List (FuncId × Sig) → FuncId → Option Sig
  | [], _ => none
  | (g, s) :: r, f => bif Nat.beq g f then some s else tabC r f
theorem tabC_nil {E : Env} {P : Program} : ∀ f sg, tabC [] f = some sg → ConOk E P f sg := fun f sg h => by cases h
theorem tabC_cons {E : Env} {P : Program} {g : FuncId} {s : Sig} {r : List (FuncId × Sig)} (h : ConOk E P g s) (hr : ∀ f sg, tabC r f = some sg → ConOk E P f sg) : ∀ f sg, tabC ((g, s) :: r) f = some sg → ConOk E P f sg := fun f sg h' => by
  simp only [tabC] at h'
  cases hb : Nat.beq g f with
  | true =>
    have := Nat.eq_of_beq_eq_true hb
    subst this
    simp only [hb, cond_true, Option.some.injEq] at h'
    subst h'; exact h
  | false => simp only [hb, cond_false] at h'; exact hr f sg h'

theorem ds_one {ds : List Dat} (h : ds.length = 1) : ∃ a, ds = [a] := by
  match ds, h with
  | [a], _ => exact ⟨a, rfl⟩
theorem ds_two {ds : List Dat} (h : ds.length = 2) : ∃ a b, ds = [a, b] := by
  match ds, h with
  | [a, b], _ => exact ⟨a, b, rfl⟩
theorem ds_three {ds : List Dat} (h : ds.length = 3) : ∃ a b c, ds = [a, b, c] := by
  match ds, h with
  | [a, b, c], _ => exact ⟨a, b, c, rfl⟩

abbrev us (n : Nat) : List V := List.replicate n .u

/-! ### Numbers -/
theorem wrap_i64 {n : Int} (h1 : -9223372036854775808 ≤ n) (h2 : n ≤ 9223372036854775807) : IntKind.i64.wrap n = n := IntWalk.i64_in n ⟨h1, h2⟩
theorem wrap_succ {j N : Nat} (h : j < N) (hN : N ≤ M) : IntKind.i64.wrap ((j : Int) + 1) = ((j + 1 : Nat) : Int) := by
  rw [wrap_i64 (by omega) (by unfold M at hN; omega)]; omega
theorem dlt {j N : Nat} (h : j < N) : decide ((j : Int) < (N : Int)) = true := by simp; omega
theorem dnlt {j N : Nat} (h : ¬ j < N) : decide ((j : Int) < (N : Int)) = false := by simp; omega
theorem dge (j : Nat) : decide ((0 : Int) ≤ (j : Int)) = true := by simp

/-! ### Data by type -/
theorem fit_sl {B : Nat} {e : Ty} {a : Dat} (h : fit B (.sl e) a = true) : a.len ≤ B ∧ ∀ i, i < a.len → fit B e (a.fld i) = true := by
  simp only [fit, Bool.and_eq_true, List.all_eq_true, List.mem_range] at h
  exact ⟨Nat.le_of_ble_eq_true h.1, h.2⟩

theorem kids_can (e : Ty) (a : Dat) : can (.sl e) a = .n ((List.range a.len).map fun i => can e (a.fld i)) := by simp [can]
theorem len_can (e : Ty) (a : Dat) : (can (.sl e) a).len = a.len := by simp [can, Dat.len, Dat.kids]
theorem fld_can {e : Ty} {a : Dat} {i : Nat} (h : i < a.len) : (can (.sl e) a).fld i = can e (a.fld i) := by
  simp [can, Dat.fld, Dat.kids, List.getD_eq_getElem?_getD, h]

theorem cans_get : ∀ (fs : List Ty) (j : Nat) (d : Dat) (i : Nat), (cans fs j d).getD i (.n []) = match fs[i]? with | some t => can t (d.fld (j + i)) | none => .n []
  | [], _, _, i => by simp [cans]
  | t :: ts, j, d, 0 => by simp [cans]
  | t :: ts, j, d, i + 1 => by
    simp only [cans, List.getD_cons_succ, List.getElem?_cons_succ]
    rw [cans_get ts (j + 1) d i, show j + 1 + i = j + (i + 1) by omega]

mutual
theorem fit_can (B : Nat) : ∀ (t : Ty) (d : Dat), fit B t (can t d) = fit B t d
  | .int _, d => rfl
  | .bool, d => rfl
  | .str, d => rfl
  | .sl e, d => by
    simp only [fit, len_can]
    congr 1
    rw [Bool.eq_iff_iff]
    simp only [List.all_eq_true, List.mem_range]
    exact ⟨fun h i hi => by rw [← fit_can B e, ← fld_can hi]; exact h i hi, fun h i hi => by rw [fld_can hi, fit_can B e]; exact h i hi⟩
  | .st fs, d => by
    simp only [fit, can]
    exact fits_can B fs 0 0 d (.n (cans fs 0 d)) (fun i t h => by show (cans fs 0 d).getD (0 + i) _ = _; rw [Nat.zero_add, cans_get, h]; simp)
theorem fits_can (B : Nat) : ∀ (fs : List Ty) (j k : Nat) (d d' : Dat), (∀ i t, fs[i]? = some t → d'.fld (j + i) = can t (d.fld (k + i))) → fits B fs j d' = fits B fs k d
  | [], _, _, _, _, _ => rfl
  | t :: ts, j, k, d, d', h => by
    simp only [fits]
    have := h 0 t rfl
    simp only [Nat.add_zero] at this
    rw [this, fit_can B t, fits_can B ts (j + 1) (k + 1) d d' (fun i t' h' => by rw [show j + 1 + i = j + (i + 1) by omega, show k + 1 + i = k + (i + 1) by omega]; exact h (i + 1) t' (by simpa using h'))]
end

mutual
theorem fit_mono {B B' : Nat} (hB : B ≤ B') : ∀ {t : Ty} {d : Dat}, fit B t d = true → fit B' t d = true
  | .int _, d, h => h
  | .bool, d, h => rfl
  | .str, d, h => by simp only [fit] at h ⊢; exact Nat.ble_eq_true_of_le (Nat.le_trans (Nat.le_of_ble_eq_true h) hB)
  | .sl e, d, h => by
    obtain ⟨h1, h2⟩ := fit_sl h
    simp only [fit, Bool.and_eq_true, List.all_eq_true, List.mem_range]
    exact ⟨Nat.ble_eq_true_of_le (Nat.le_trans h1 hB), fun i hi => fit_mono hB (h2 i hi)⟩
  | .st fs, d, h => by simp only [fit] at h ⊢; exact fits_mono hB h
theorem fits_mono {B B' : Nat} (hB : B ≤ B') : ∀ {fs : List Ty} {j : Nat} {d : Dat}, fits B fs j d = true → fits B' fs j d = true
  | [], _, _, _ => rfl
  | t :: ts, j, d, h => by
    simp only [fits, Bool.and_eq_true] at h ⊢
    exact ⟨fit_mono hB h.1, fits_mono hB h.2⟩
end

theorem byte_beq_refl (a : ByteArray) : (a == a) = true := by
  cases a with
  | mk d => show (d == d) = true; simp
mutual
theorem deq_refl : ∀ (t : Ty) (d : Dat), deq t d d = true
  | .int _, d => by simp [deq]
  | .bool, d => by simp [deq]
  | .str, d => by simp [deq]
  | .sl e, d => by
    simp only [deq, beq_self_eq_true, Bool.true_and, List.all_eq_true]
    exact fun i _ => deq_refl e _
  | .st fs, d => by simp only [deq]; exact deqs_refl fs 0 d
theorem deqs_refl : ∀ (fs : List Ty) (j : Nat) (d : Dat), deqs fs j d d = true
  | [], _, _ => rfl
  | t :: ts, j, d => by simp only [deqs, deq_refl t, deqs_refl ts (j + 1) d, Bool.and_self]
end

theorem sum_le_of_mem {l : List Nat} {x : Nat} (h : x ∈ l) : x ≤ l.sum := by
  induction l with
  | nil => simp at h
  | cons y l ih =>
    simp only [List.mem_cons, List.sum_cons] at *
    rcases h with rfl | h
    · omega
    · have := ih h; omega

mutual
/-- What weighs little is short. -/
theorem fit_of_wt {B B' : Nat} : ∀ {t : Ty} {d : Dat}, fit B t d = true → wt t d ≤ B' → fit B' t d = true
  | .int _, d, h, _ => h
  | .bool, d, _, _ => rfl
  | .str, d, _, hw => by simp only [wt] at hw; simp only [fit]; exact Nat.ble_eq_true_of_le hw
  | .sl e, d, h, hw => by
    obtain ⟨h1, h2⟩ := fit_sl h
    simp only [wt] at hw
    simp only [fit, Bool.and_eq_true, List.all_eq_true, List.mem_range]
    refine ⟨Nat.ble_eq_true_of_le (by omega), fun i hi => fit_of_wt (h2 i hi) ?_⟩
    have := sum_le_of_mem (x := wt e (d.fld i)) (l := (List.range d.len).map fun i => wt e (d.fld i)) (List.mem_map.2 ⟨i, List.mem_range.2 hi, rfl⟩)
    omega
  | .st fs, d, h, hw => by simp only [fit] at h ⊢; simp only [wt] at hw; exact fits_of_wt h hw
theorem fits_of_wt {B B' : Nat} : ∀ {fs : List Ty} {j : Nat} {d : Dat}, fits B fs j d = true → wts fs j d ≤ B' → fits B' fs j d = true
  | [], _, _, _, _ => rfl
  | t :: ts, j, d, h, hw => by
    simp only [fits, Bool.and_eq_true] at h ⊢
    simp only [wts] at hw
    exact ⟨fit_of_wt h.1 (by omega), fits_of_wt h.2 (by omega)⟩
end

/-! ### Loops -/
/-- A loop that goes through, round by round. -/
theorem through {β : Type} {A : Type} {E : Nat → Nat → A → Option β} {N : Nat} {I : Nat → A → Prop} {fin : A → Option β} (hs : ∀ n j x, j < N → I j x → ∃ x', E (n + 1) j x = E n (j + 1) x' ∧ I (j + 1) x')
    (he : ∀ n x, I N x → E (n + 1) N x = fin x) (x0 : A) (h0 : I 0 x0) : ∃ x, I N x ∧ E (N + 1) 0 x0 = fin x := by
  have key : ∀ m j x, j + m = N → I j x → ∃ x', I N x' ∧ E (m + 1) j x = fin x' := by
    intro m
    induction m with
    | zero => intro j x hj hI; simp only [Nat.add_zero] at hj; subst hj; exact ⟨x, hI, he 0 x hI⟩
    | succ m ih =>
      intro j x hj hI
      obtain ⟨x', h1, h2⟩ := hs (m + 1) j x (by omega) hI
      obtain ⟨x'', h3, h4⟩ := ih (j + 1) x' (by omega) h2
      exact ⟨x'', h3, h1.trans h4⟩
  exact key N 0 x0 (by omega) h0

/-- A loop that fills a row. -/
theorem fill_loop {β : Type} {E : Nat → Nat → List Dat → Option β} {N : Nat} {g : Nat → Dat} {fin : List Dat → Option β} (z : Dat) (hs : ∀ n j l, j < N → l.length = N → E (n + 1) j l = E n (j + 1) (l.set j (g j)))
    (he : ∀ n l, l.length = N → E (n + 1) N l = fin l) : E (N + 1) 0 (List.replicate N z) = fin ((List.range N).map g) := by
  obtain ⟨x, h1, h2⟩ := through (E := E) (N := N) (I := fun j l => l.length = N ∧ ∀ i, i < j → l[i]? = some (g i)) (fin := fin)
    (fun n j l hj hI => ⟨l.set j (g j), hs n j l hj hI.1, by simpa using hI.1, fun i hi => by
      by_cases e : j = i
      · subst e; simp [hI.1, hj]
      · rw [List.getElem?_set_ne e]; exact hI.2 i (by omega)⟩)
    (fun n l hI => he n l hI.1) (List.replicate N z) ⟨by simp, fun i hi => by omega⟩
  rw [h2]
  congr 1
  apply List.ext_getElem?
  intro i
  by_cases hi : i < N
  · rw [h1.2 i hi]; simp [hi]
  · rw [List.getElem?_eq_none (by omega), List.getElem?_eq_none (by simp; omega)]

/-- A loop that looks for what fails. -/
theorem all_loop {β : Type} {E : Nat → Nat → Option β} {N : Nat} {p : Nat → Bool} {kT kF : Option β} (hs : ∀ n j, j < N → E (n + 1) j = bif p j then E n (j + 1) else kF)
    (he : ∀ n, E (n + 1) N = kT) : E (N + 1) 0 = bif (List.range N).all p then kT else kF := by
  have key : ∀ m j, j + m = N → E (m + 1) j = bif (List.range' j m).all p then kT else kF := by
    intro m
    induction m with
    | zero => intro j hj; simp only [Nat.add_zero] at hj; subst hj; simpa using he 0
    | succ m ih =>
      intro j hj
      rw [hs (m + 1) j (by omega), ih (j + 1) (by omega)]
      simp only [List.range'_succ, List.all_cons]
      cases p j <;> simp
  rw [key N 0 (by omega), List.range_eq_range']

/-- A loop that counts down. -/
theorem sz_loop {E : Nat → Nat → Int → Option (List Dat)} {N : Nat} {g : Nat → Nat} (hs : ∀ n j l, j < N → 0 ≤ l → l ≤ 1048576 → E (n + 1) j l = bif decide ((if (g j : Int) ≤ l then l - g j else -1) < 0) then some [.i (-1)] else E n (j + 1) (if (g j : Int) ≤ l then l - g j else -1))
    (he : ∀ n l, E (n + 1) N l = some [.i l]) (l : Int) (h0 : 0 ≤ l) (h1 : l ≤ 1048576) : E (N + 1) 0 l = some [.i (if (((List.range N).map g).sum : Int) ≤ l then l - ((List.range N).map g).sum else -1)] := by
  have key : ∀ m j l, j + m = N → 0 ≤ l → l ≤ 1048576 → E (m + 1) j l = some [.i (if (((List.range' j m).map g).sum : Int) ≤ l then l - ((List.range' j m).map g).sum else -1)] := by
    intro m
    induction m with
    | zero => intro j l hj h0 _; simp only [Nat.add_zero] at hj; subst hj; rw [he 0]; simp [h0]
    | succ m ih =>
      intro j l hj h0 h1
      rw [hs (m + 1) j l (by omega) h0 h1]
      simp only [List.range'_succ, List.map_cons, List.sum_cons]
      by_cases hg : (g j : Int) ≤ l
      · simp only [if_pos hg]
        have : decide (l - (g j : Int) < 0) = false := by simp; omega
        rw [this, cond_false, ih (j + 1) _ (by omega) (by omega) (by omega)]
        congr 3
        by_cases h2 : (((List.range' (j + 1) m).map g).sum : Int) ≤ l - g j
        · rw [if_pos h2, if_pos (by omega)]; omega
        · rw [if_neg h2, if_neg (by omega)]
      · simp only [if_neg hg]
        rw [if_neg (by omega)]
        rfl
  rw [key N 0 l (by omega) h0 h1, List.range_eq_range']

/-! ### Steps of the families -/
theorem fits_get {B : Nat} : ∀ {fs : List Ty} {k : Nat} {a : Dat}, fits B fs k a = true → ∀ (j : Nat) {t : Ty}, fs[j]? = some t → fit B t (a.fld (k + j)) = true
  | [], _, _, _, j, t, h => by simp at h
  | t0 :: ts, k, a, hf, 0, t, h => by
    simp only [fits, Bool.and_eq_true] at hf
    simp only [List.getElem?_cons_zero, Option.some.injEq] at h
    subst h; exact hf.1
  | t0 :: ts, k, a, hf, j + 1, t, h => by
    simp only [fits, Bool.and_eq_true] at hf
    have := fits_get hf.2 j (by simpa using h)
    rw [show k + (j + 1) = k + 1 + j by omega]; exact this
theorem fit_fld {B : Nat} {fs : List Ty} {a : Dat} (h : fit B (.st fs) a = true) (j : Nat) {t : Ty} (ht : fs[j]? = some t) : fit B t (a.fld j) = true := by
  have := fits_get (k := 0) (show fits B fs 0 a = true from h) j ht
  rwa [Nat.zero_add] at this

theorem and_both {p q : Bool} (hp : p = true) (hq : q = true) : (p && q) = true := by rw [hp, hq]; rfl
theorem both {p q : Bool} (h : (p && q) = true) : p = true ∧ q = true := by simpa using h

theorem and_step {p r : Bool} {k : Option (List Dat)} (h : k = some [Dat.b r]) : (bif !p then some [Dat.b false] else k) = some [Dat.b (p && r)] := by
  subst h; cases p <;> rfl

/-- What is left of a count. -/
def szr (w : Nat) (l : Int) : Int := if (w : Int) ≤ l then l - w else -1
theorem szR_eq (t : Ty) (d : Dat) (l : Int) : szR t d l = szr (wt t d) l := rfl
theorem szr_zero {l : Int} (h : 0 ≤ l) : szr 0 l = l := by unfold szr; rw [if_pos (by omega)]; omega
theorem sz_step {w r : Nat} {l : Int} {k : Int → Option (List Dat)} (h0 : 0 ≤ l) (h1 : l ≤ 1048576) (hk : ∀ l', 0 ≤ l' → l' ≤ 1048576 → k l' = some [.i (szr r l')]) :
    (bif decide (szr w l < 0) then some [.i (-1)] else k (szr w l)) = some [.i (szr (w + r) l)] := by
  unfold szr
  by_cases h : (w : Int) ≤ l
  · rw [if_pos h]
    have : decide (l - (w : Int) < 0) = false := by simp; omega
    rw [this, cond_false, hk _ (by omega) (by omega)]
    unfold szr
    by_cases h2 : (r : Int) ≤ l - w
    · rw [if_pos h2, if_pos (by omega)]; congr 3; omega
    · rw [if_neg h2, if_neg (by omega)]
  · rw [if_neg h, if_neg (by omega)]; rfl
/-- A call that counts. -/
theorem sz_call {t : Ty} {d : Dat} {r : Nat} {l : Int} {k : Int → Option (List Dat)} (hf : fit M t d = true) (h0 : 0 ≤ l) (h1 : l ≤ 1048576) (hk : ∀ l', 0 ≤ l' → l' ≤ 1048576 → k l' = some [.i (szr r l')]) :
    (bif (fit M t d && (decide (0 ≤ l) && decide (l ≤ 1048576))) then (bif decide (szR t d l < 0) then some [.i (-1)] else k (szR t d l)) else none) = some [.i (szr (wt t d + r) l)] := by
  have e1 : decide (0 ≤ l) = true := by simpa using h0
  have e2 : decide (l ≤ 1048576) = true := by simpa using h1
  rw [hf, e1, e2]
  exact sz_step h0 h1 hk
/-- A length that is counted where it stands. -/
theorem sz_len {n r : Nat} {l : Int} {k : Int → Option (List Dat)} (hn : n ≤ M) (h0 : 0 ≤ l) (h1 : l ≤ 1048576) (hk : ∀ l', 0 ≤ l' → l' ≤ 1048576 → k l' = some [.i (szr r l')]) :
    (bif decide (IntKind.i64.wrap (l - (n : Int)) < 0) then some [.i (-1)] else k (IntKind.i64.wrap (l - (n : Int)))) = some [.i (szr (n + r) l)] := by
  unfold M at hn
  rw [wrap_i64 (by omega) (by omega)]
  by_cases h : (n : Int) ≤ l
  · have := sz_step (w := n) (r := r) h0 h1 hk
    unfold szr at this ⊢
    rw [if_pos h] at this
    exact this
  · have : decide (l - (n : Int) < 0) = true := by simp; omega
    rw [this, cond_true]
    unfold szr; rw [if_neg (by omega)]
theorem sum_zero {N : Nat} {g : Nat → Nat} (h : ∀ i, g i = 0) : ((List.range N).map g).sum = 0 := by
  have : (List.range N).map g = (List.range N).map fun _ => 0 := List.map_congr_left fun i _ => h i
  rw [this]
  induction List.range N with
  | nil => rfl
  | cons x l ih => simpa using ih
theorem wt_sl (e : Ty) (d : Dat) : wt (.sl e) d = d.len + ((List.range d.len).map fun i => wt e (d.fld i)).sum := by simp only [wt]
theorem deq_sl (e : Ty) (a b : Dat) : deq (.sl e) a b = (a.len == b.len && (List.range a.len).all fun i => deq e (a.fld i) (b.fld i)) := by simp only [deq]
theorem wt_st (fs : List Ty) (d : Dat) : wt (.st fs) d = wts fs 0 d := by simp only [wt]
theorem wts_cons (t : Ty) (ts : List Ty) (j : Nat) (d : Dat) : wts (t :: ts) j d = wt t (d.fld j) + wts ts (j + 1) d := by simp only [wts]
theorem wts_nil (j : Nat) (d : Dat) : wts [] j d = 0 := by simp only [wts]
theorem wt_int (k : IntKind) (d : Dat) : wt (.int k) d = 0 := by simp only [wt]
theorem wt_bool (d : Dat) : wt .bool d = 0 := by simp only [wt]
theorem wt_str (d : Dat) : wt .str d = d.str.size := by simp only [wt]
theorem deq_st (fs : List Ty) (a b : Dat) : deq (.st fs) a b = deqs fs 0 a b := by simp only [deq]
theorem deqs_cons (t : Ty) (ts : List Ty) (j : Nat) (a b : Dat) : deqs (t :: ts) j a b = (deq t (a.fld j) (b.fld j) && deqs ts (j + 1) a b) := by simp only [deqs]
theorem deqs_nil (j : Nat) (a b : Dat) : deqs [] j a b = true := by simp only [deqs]

/-- Numbers in range, of an argument that counts. -/
theorem sz_pre {t : Ty} {a l : Dat} (h : (fit M t a && (decide (0 ≤ l.int) && decide (l.int ≤ 1048576))) = true) : fit M t a = true ∧ 0 ≤ l.int ∧ l.int ≤ 1048576 := by
  simpa using h

theorem sz_ok {t : Ty} {d : Dat} {l : Int} (h : ¬ szR t d l < 0) : (wt t d : Int) ≤ l ∧ 0 ≤ szR t d l ∧ szR t d l ≤ l := by
  unfold szR at *
  by_cases hw : (wt t d : Int) ≤ l
  · rw [if_pos hw] at *; omega
  · rw [if_neg hw] at h; omega
theorem fit_of_sz {t : Ty} {d : Dat} {l : Int} (hf : fit M t d = true) (h : ¬ szR t d l < 0) (hl : l ≤ 1048576) : fit 1048576 t d = true :=
  fit_of_wt hf (by have := (sz_ok h).1; omega)
theorem fitM_can {t : Ty} {d : Dat} (hf : fit M t d = true) : fit M t (can t d) = true := by rw [fit_can]; exact hf
theorem sz_arg {t : Ty} {d : Dat} {l : Int} (hf : fit M t d = true) (h0 : 0 ≤ l) (h1 : l ≤ 1048576) : (fit M t d && (decide (0 ≤ l) && decide (l ≤ 1048576))) = true := by
  rw [hf, decide_eq_true h0, decide_eq_true h1]; rfl
theorem ne_step {β : Type} {p r : Bool} {k K F : β} (h : k = bif r then K else F) : (bif !p then F else k) = bif (p && r) then K else F := by
  subst h; cases p <;> rfl

theorem szl_step {β : Type} {n : Nat} {l : Int} {A : β} {E : Int → β} (hn : n ≤ M) (h0 : 0 ≤ l) (h1 : l ≤ 1048576) :
    (bif decide (IntKind.i64.wrap (l - (n : Int)) < 0) then A else E (IntKind.i64.wrap (l - (n : Int)))) = bif decide ((if (n : Int) ≤ l then l - n else -1) < 0) then A else E (if (n : Int) ≤ l then l - n else -1) := by
  unfold M at hn
  rw [wrap_i64 (by omega) (by omega)]
  by_cases h : (n : Int) ≤ l
  · rw [if_pos h]
  · rw [if_neg h]
    have : decide (l - (n : Int) < 0) = true := by simp; omega
    rw [this]; rfl
theorem fit_str {B : Nat} {d : Dat} (h : fit B .str d = true) : d.str.size ≤ B := Nat.le_of_ble_eq_true (show Nat.ble d.str.size B = true from h)

/-! ### Loops with more rounds than they need -/
/-- A loop that counts up. -/
theorem count_loop {β : Type} {E : Nat → Nat → Nat → Option β} {N B : Nat} {g : Nat → Nat} {fin : Nat → Option β} (hs : ∀ n j acc, j < N → acc + g j ≤ B → E (n + 1) j acc = E n (j + 1) (acc + g j))
    (he : ∀ n acc, acc ≤ B → E (n + 1) N acc = fin acc) {n : Nat} (hn : N < n) {acc : Nat} (hb : acc + ((List.range N).map g).sum ≤ B) : E n 0 acc = fin (acc + ((List.range N).map g).sum) := by
  have key : ∀ m j acc n, j + m = N → m < n → acc + ((List.range' j m).map g).sum ≤ B → E n j acc = fin (acc + ((List.range' j m).map g).sum) := by
    intro m
    induction m with
    | zero =>
      intro j acc n hj hm hb'
      obtain ⟨n', rfl⟩ : ∃ n', n = n' + 1 := ⟨n - 1, by omega⟩
      simp only [Nat.add_zero] at hj; subst hj
      simpa using he n' acc (by simpa using hb')
    | succ m ih =>
      intro j acc n hj hm hb'
      obtain ⟨n', rfl⟩ : ∃ n', n = n' + 1 := ⟨n - 1, by omega⟩
      simp only [List.range'_succ, List.map_cons, List.sum_cons] at hb' ⊢
      rw [hs n' j acc (by omega) (by omega), ih (j + 1) (acc + g j) n' (by omega) (by omega) (by omega)]
      congr 1; omega
  rw [List.range_eq_range'] at hb ⊢
  exact key N 0 acc n (by omega) hn hb
theorem sum_le {N B : Nat} {g : Nat → Nat} (h : ∀ i, i < N → g i ≤ B) : ((List.range N).map g).sum ≤ N * B := by
  induction N with
  | zero => simp
  | succ N ih =>
    rw [List.range_succ, List.map_append, List.sum_append]
    have := ih fun i hi => h i (by omega)
    have := h N (by omega)
    simp only [List.map_cons, List.map_nil, List.sum_cons, List.sum_nil, Nat.succ_mul]
    omega
theorem bigK : ∃ K, 1048576 < K := ⟨1048577, by omega⟩
theorem wrap_nat {n : Nat} (h : n ≤ M) : IntKind.i64.wrap (n : Int) = (n : Int) := wrap_i64 (by omega) (by unfold M at h; omega)
end Go.Ev
