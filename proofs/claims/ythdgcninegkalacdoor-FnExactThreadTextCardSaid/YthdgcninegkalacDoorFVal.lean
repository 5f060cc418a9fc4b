/-
  Numbers in a range, numerals digit by digit, and how values are shown: plain laws.
-/
import Derived.Test.YthdgcninegkalacDoorEvT
namespace Go.Ev

def inR (n lo hi : Int) : Bool := decide (lo ≤ n) && decide (n ≤ hi)
theorem inR_if (n lo hi : Int) : (bif decide (n ≥ lo) then some [Dat.b (decide (n ≤ hi))] else some [Dat.b false]) = some [Dat.b (inR n lo hi)] := by
  unfold inR
  by_cases h : lo ≤ n
  · simp [h]
  · simp [h]
abbrev inSig : Sig := ⟨[.int .i64, .int .i64, .int .i64], [.bool], fun _ => true, fun l => [.b (inR (l.getD 0 (.n [])).int (l.getD 1 (.n [])).int (l.getD 2 (.n [])).int)]⟩
abbrev oneSig (t r : Ty) (g : Dat → Dat) : Sig := ⟨[t], [r], fun _ => true, fun l => [g (l.getD 0 (.n []))]⟩

/-! ### Numerals -/
theorem byte_ext {a b : ByteArray} (h : a.data.toList = b.data.toList) : a = b := by
  cases a with
  | mk x => cases b with
    | mk y => simp only at h; congr 1; exact Array.toList_inj.1 h
theorem byte_app (a b : ByteArray) : (a ++ b).data.toList = a.data.toList ++ b.data.toList := by simp
theorem byte_size (a : ByteArray) : a.size = a.data.toList.length := by show a.data.size = _; simp
theorem app_size (a b : ByteArray) : (a ++ b).size = a.size + b.size := by rw [byte_size, byte_app, List.length_append, ← byte_size, ← byte_size]
theorem app_assoc (a b c : ByteArray) : a ++ b ++ c = a ++ (b ++ c) := byte_ext (by simp [byte_app])

def digB (m : Nat) : ByteArray := ⟨(Lib.decDigits m).toArray⟩
def dig1 (m : Nat) : ByteArray := ⟨#[UInt8.ofNat (48 + m % 10)]⟩
theorem digB_small {m : Nat} (h : m < 10) : digB m = dig1 m := by
  unfold digB dig1
  rw [Lib.decDigits, dif_pos h, Nat.mod_eq_of_lt h]
theorem digB_big {m : Nat} (h : ¬ m < 10) : digB m = digB (m / 10) ++ dig1 m := by
  refine byte_ext ?_
  rw [byte_app]
  unfold digB dig1
  rw [Lib.decDigits, dif_neg h]
theorem digB_len : ∀ (k m : Nat), m < 10 ^ k → (digB m).size ≤ max k 1
  | 0, m, h => by
    have h0 : m = 0 := by simpa using h
    subst h0; rw [digB_small (by omega)]; decide
  | k + 1, m, h => by
    by_cases hm : m < 10
    · rw [digB_small hm]; show 1 ≤ _; omega
    · rw [digB_big hm, app_size]
      have hk : m / 10 < 10 ^ k := by
        rw [Nat.pow_succ] at h
        exact Nat.div_lt_of_lt_mul (by omega)
      have h1 := digB_len k (m / 10) hk
      have h2 : (dig1 m).size = 1 := rfl
      have : 1 ≤ k := by
        rcases Nat.eq_zero_or_pos k with h0 | h0
        · subst h0; simp at h; omega
        · exact h0
      omega

theorem tdiv_abs (x : Int) : (x.tdiv 10).natAbs = x.natAbs / 10 := by
  rw [Int.natAbs_tdiv]; rfl
theorem tmod_abs (x : Int) : (x.tmod 10).natAbs = x.natAbs % 10 := by
  rw [Int.natAbs_tmod]; rfl
theorem i64_range {x : Int} (h : i64B x = true) : -9223372036854775808 ≤ x ∧ x ≤ 9223372036854775807 := by
  simpa [i64B] using h

theorem dig_char {d : Int} (h0 : 0 ≤ d) (h9 : d ≤ 9) : bytesOf [Dat.i (IntKind.u8.wrap (IntKind.i64.wrap (48 + d)))] = ⟨#[UInt8.ofNat (48 + d.toNat)]⟩ := by
  obtain ⟨n, rfl⟩ : ∃ n : Nat, d = n := ⟨d.toNat, by omega⟩
  have hn : n ≤ 9 := by omega
  match n, hn with
  | 0, _ => rfl
  | 1, _ => rfl
  | 2, _ => rfl
  | 3, _ => rfl
  | 4, _ => rfl
  | 5, _ => rfl
  | 6, _ => rfl
  | 7, _ => rfl
  | 8, _ => rfl
  | 9, _ => rfl
  | n + 10, h => omega

/-- One round of the numeral. -/
theorem l9_body {β : Type} {x : Int} {out : ByteArray} {k : Int → ByteArray → Option β} {z : Option β} (h0 : -9223372036854775808 ≤ x) (h1 : x ≤ 9223372036854775807) (hx : x ≠ 0) (hs : out.size ≤ 100) :
    (bif (x != (0 : Int)) then (bif decide ((10 : Int) ≠ 0) then (bif decide ((x.tmod (10 : Int)) < (0 : Int)) then (bif decide ((bytesOf ([(Dat.i (IntKind.u8.wrap (IntKind.i64.wrap ((48 : Int) + (IntKind.i64.wrap ((0 : Int) - (x.tmod (10 : Int))))))))])).size + out.size ≤ 4611686018427387904) then (bif decide ((10 : Int) ≠ 0) then k (IntKind.i64.wrap (x.tdiv (10 : Int))) ((bytesOf ([(Dat.i (IntKind.u8.wrap (IntKind.i64.wrap ((48 : Int) + (IntKind.i64.wrap ((0 : Int) - (x.tmod (10 : Int))))))))])) ++ out) else none) else none) else (bif decide ((bytesOf ([(Dat.i (IntKind.u8.wrap (IntKind.i64.wrap ((48 : Int) + (x.tmod (10 : Int))))))])).size + out.size ≤ 4611686018427387904) then (bif decide ((10 : Int) ≠ 0) then k (IntKind.i64.wrap (x.tdiv (10 : Int))) ((bytesOf ([(Dat.i (IntKind.u8.wrap (IntKind.i64.wrap ((48 : Int) + (x.tmod (10 : Int))))))])) ++ out) else none) else none)) else none) else z)
      = k (x.tdiv 10) (dig1 x.natAbs ++ out) := by
  have hd := tdiv_abs x
  have hm := tmod_abs x
  have e1 : (x != 0) = true := by simpa using hx
  have e2 : decide ((10 : Int) ≠ 0) = true := rfl
  have e3 : IntKind.i64.wrap (x.tdiv 10) = x.tdiv 10 := wrap_i64 (by omega) (by omega)
  have hmod : x.natAbs % 10 ≤ 9 := by omega
  rw [e1, cond_true, e2, cond_true, e3]
  by_cases hneg : x.tmod 10 < 0
  · have e4 : IntKind.i64.wrap (0 - x.tmod 10) = ((x.natAbs % 10 : Nat) : Int) := by rw [wrap_i64 (by omega) (by omega)]; omega
    rw [decide_eq_true hneg, cond_true, e4, dig_char (by omega) (by omega), Int.toNat_natCast]
    rw [decide_eq_true (show (⟨#[UInt8.ofNat (48 + x.natAbs % 10)]⟩ : ByteArray).size + out.size ≤ 4611686018427387904 by show 1 + out.size ≤ _; omega), cond_true, cond_true]
    rfl
  · have e4 : x.tmod 10 = ((x.natAbs % 10 : Nat) : Int) := by omega
    rw [decide_eq_false hneg, cond_false, e4, dig_char (by omega) (by omega), Int.toNat_natCast]
    rw [decide_eq_true (show (⟨#[UInt8.ofNat (48 + x.natAbs % 10)]⟩ : ByteArray).size + out.size ≤ 4611686018427387904 by show 1 + out.size ≤ _; omega), cond_true, cond_true]
    rfl

/-- The numeral, round by round. -/
theorem dig_loop {β : Type} {E : Nat → Int → ByteArray → Option β} {fin : ByteArray → Option β}
    (hs : ∀ n x out, -9223372036854775808 ≤ x → x ≤ 9223372036854775807 → x ≠ 0 → out.size ≤ 100 → E (n + 1) x out = E n (x.tdiv 10) (dig1 x.natAbs ++ out)) (he : ∀ n out, E (n + 1) 0 out = fin out) :
    ∀ (k n : Nat) (x : Int) (out : ByteArray), k < n → x.natAbs < 10 ^ k → -9223372036854775808 ≤ x → x ≤ 9223372036854775807 → out.size + k ≤ 100 →
      E n x out = fin (bif x == 0 then out else digB x.natAbs ++ out)
  | 0, n, x, out, hn, hx, _, _, _ => by
    obtain ⟨n, rfl⟩ : ∃ m, n = m + 1 := ⟨n - 1, by omega⟩
    have : x = 0 := by simpa using hx
    subst this
    rw [he]; rfl
  | k + 1, n, x, out, hn, hx, h0, h1, hsz => by
    obtain ⟨n, rfl⟩ : ∃ m, n = m + 1 := ⟨n - 1, by omega⟩
    by_cases hz : x = 0
    · subst hz; rw [he]; rfl
    · have hd := tdiv_abs x
      have hlt : x.natAbs / 10 < 10 ^ k := by
        rw [Nat.pow_succ] at hx
        exact Nat.div_lt_of_lt_mul (by omega)
      have hsz1 : (dig1 x.natAbs ++ out).size = 1 + out.size := by rw [app_size]; rfl
      rw [hs n x out h0 h1 hz (by omega), dig_loop hs he k n (x.tdiv 10) _ (by omega) (by rw [hd]; exact hlt) (by omega) (by omega) (by rw [hsz1]; omega)]
      have e0 : (x == 0) = false := by simpa using hz
      rw [e0, cond_false, hd]
      by_cases hm : x.natAbs < 10
      · have : x.tdiv 10 = 0 := by omega
        rw [this, digB_small hm]; rfl
      · have e1 : (x.tdiv 10 == 0) = false := by simp; omega
        rw [e1, cond_false, digB_big hm, app_assoc]

theorem itoaS_eq (n : Int) : itoaS n = bif decide (n < 0) then ByteArray.mk #[45] ++ digB n.natAbs else digB n.natAbs := by
  refine byte_ext ?_
  unfold itoaS Lib.itoa digB
  by_cases h : n < 0
  · rw [if_pos h, decide_eq_true h, cond_true, byte_app]; rfl
  · rw [if_neg h, decide_eq_false h, cond_false]
    have : n.toNat = n.natAbs := by omega
    rw [this]
theorem itoaS_size {n : Int} (h0 : -9223372036854775808 ≤ n) (h1 : n ≤ 9223372036854775807) : (itoaS n).size ≤ 20 := by
  have := digB_len 19 n.natAbs (by omega)
  rw [itoaS_eq]
  cases decide (n < 0)
  · rw [cond_false]; omega
  · rw [cond_true, app_size]
    have : (ByteArray.mk #[45]).size = 1 := rfl
    omega
theorem digB_size {n : Nat} (h : n ≤ 9223372036854775808) : (digB n).size ≤ 19 := by
  have := digB_len 19 n (by omega)
  omega

theorem mk_size (l : Array UInt8) : (ByteArray.mk l).size = l.size := rfl
theorem sz_bif {β : Type} {n : Nat} {k : Option β} (h : n ≤ 4611686018427387904) : (bif decide (n ≤ 4611686018427387904) then k else none) = k := by
  rw [decide_eq_true h]; rfl
theorem i64B_nat {n : Nat} (h : n ≤ 9223372036854775807) : i64B (n : Int) = true := by simp [i64B]; omega

/-- How a value is shown. -/
def valOk (v : Dat) : Bool := bif (v.fld 0).bool then inR (v.fld 1).int 0 1000000 else inR (v.fld 1).int (-2147483648) 2147483647
def valS (v : Dat) : ByteArray := bif valOk v then (bif (v.fld 0).bool then ByteArray.mk #[64] ++ itoaS (v.fld 1).int else itoaS (v.fld 1).int) else .empty
theorem valOk_range {v : Dat} (h : valOk v = true) : -2147483648 ≤ (v.fld 1).int ∧ (v.fld 1).int ≤ 2147483647 := by
  unfold valOk inR at h
  cases hb : (v.fld 0).bool <;> simp [hb] at h <;> omega
theorem valOk_i64 {v : Dat} (h : valOk v = true) : i64B (v.fld 1).int = true := by
  have := valOk_range h
  simp [i64B]; omega
theorem valS_size (v : Dat) : (valS v).size ≤ 21 := by
  unfold valS
  cases h : valOk v
  · rw [cond_false]; decide
  · have := valOk_range h
    have := itoaS_size (n := (v.fld 1).int) (by omega) (by omega)
    rw [cond_true]
    cases (v.fld 0).bool
    · rw [cond_false]; omega
    · rw [cond_true, app_size]
      have : (ByteArray.mk #[64]).size = 1 := rfl
      omega

/-! ### Words -/
theorem iter_loop {β A : Type} {E : Nat → Nat → A → Option β} {N : Nat} {acc : Nat → A} {fin : Option β} (hs : ∀ n j, j < N → E (n + 1) j (acc j) = E n (j + 1) (acc (j + 1))) (he : ∀ n, E (n + 1) N (acc N) = fin) :
    ∀ n, N < n → E n 0 (acc 0) = fin := by
  have key : ∀ m j n, j + m = N → m < n → E n j (acc j) = fin := by
    intro m
    induction m with
    | zero =>
      intro j n hj hn
      obtain ⟨n, rfl⟩ : ∃ k, n = k + 1 := ⟨n - 1, by omega⟩
      simp only [Nat.add_zero] at hj; subst hj; exact he n
    | succ m ih =>
      intro j n hj hn
      obtain ⟨n, rfl⟩ : ∃ k, n = k + 1 := ⟨n - 1, by omega⟩
      rw [hs n j (by omega)]; exact ih (j + 1) n (by omega) (by omega)
  exact fun n hn => key N 0 n (by omega) hn

theorem inR_true {n lo hi : Int} (h : inR n lo hi = true) : lo ≤ n ∧ n ≤ hi := by simpa [inR] using h
theorem inR_false {n lo hi : Int} (h : inR n lo hi = false) : ¬ (lo ≤ n ∧ n ≤ hi) := by
  intro ⟨h1, h2⟩; simp [inR] at h; omega
theorem inR_of {n lo hi : Int} (h1 : lo ≤ n) (h2 : n ≤ hi) : inR n lo hi = true := by simp [inR]; omega
/-- A place in a row. -/
theorem place {x : Int} {n : Nat} (h : inR x 0 ((n : Int) - 1) = true) : (decide (0 ≤ x) && decide (x < (n : Int))) = true ∧ x.toNat < n ∧ x = (x.toNat : Int) := by
  have := inR_true h
  exact ⟨by simp; omega, by omega, by omega⟩
theorem in_row {j n : Nat} (h : j < n) : (decide ((0 : Int) ≤ (j : Int)) && decide ((j : Int) < (n : Int))) = true := by simp; omega
theorem wrap_len {n : Nat} (h : n ≤ 9223372036854775807) : IntKind.i64.wrap ((n : Int) - 1) = (n : Int) - 1 := wrap_i64 (by omega) (by omega)

theorem joinS_nil (sep : ByteArray) : joinS [] sep = .empty := rfl
theorem joinS_one (x : Dat) (sep : ByteArray) : joinS [x] sep = x.str := byte_ext (by unfold joinS; simp [Lib.join_one])
theorem joinS_snoc {l : List Dat} (h : l ≠ []) (x : Dat) (sep : ByteArray) : joinS (l ++ [x]) sep = (joinS l sep ++ sep) ++ x.str := by
  refine byte_ext ?_
  rw [byte_app, byte_app]
  unfold joinS
  cases l with
  | nil => exact absurd rfl h
  | cons y r =>
    simp only [List.cons_append, List.map_cons, List.map_append, List.map_nil]
    rw [Lib.join_cons, Lib.join_cons]
    simp [Lib.joinTail]
theorem joinS_size' {sep : ByteArray} {B : Nat} : ∀ (n : Nat) (l : List Dat), l.length = n → (∀ x ∈ l, x.str.size ≤ B) → (joinS l sep).size ≤ n * (B + sep.size)
  | 0, l, hl, _ => by
    have : l = [] := List.length_eq_zero_iff.1 hl
    subst this; show 0 ≤ _; omega
  | n + 1, l, hl, h => by
    rcases List.eq_nil_or_concat l with rfl | ⟨r, x, rfl⟩
    · simp at hl
    · rw [List.concat_eq_append] at *
      have h2 := h x (by simp)
      rw [Nat.add_mul]
      by_cases hr : r = []
      · subst hr
        rw [List.nil_append, joinS_one]; omega
      · have h1 := joinS_size' (sep := sep) (B := B) n r (by rw [List.length_append] at hl; simpa using hl) fun y hy => h y (by simp [hy])
        rw [joinS_snoc hr, app_size, app_size]
        omega
theorem joinS_size {l : List Dat} {sep : ByteArray} {B : Nat} (h : ∀ x ∈ l, x.str.size ≤ B) : (joinS l sep).size ≤ l.length * (B + sep.size) := joinS_size' _ _ rfl h

/-- The words of an object, so many. -/
def objW (kind o : Dat) (i : Nat) : List Dat := .s (kind.fld 0).str :: (List.range i).map fun j => .s ((((kind.fld 3).fld j).fld 0).str ++ ByteArray.mk #[61] ++ valS ((o.fld 2).fld j))
theorem objW_succ (kind o : Dat) (i : Nat) : objW kind o (i + 1) = objW kind o i ++ [.s ((((kind.fld 3).fld i).fld 0).str ++ ByteArray.mk #[61] ++ valS ((o.fld 2).fld i))] := by
  unfold objW; rw [List.range_succ]; simp
theorem objW_length (kind o : Dat) (i : Nat) : (objW kind o i).length = i + 1 := by simp [objW]
/-- How an object is shown. -/
def objS (p o : Dat) : ByteArray :=
  bif inR (o.fld 1).int 0 (((p.fld 0).len : Int) - 1) then
    bif ((o.fld 2).len == (((p.fld 0).fld (o.fld 1).int.toNat).fld 3).len) then joinS (objW ((p.fld 0).fld (o.fld 1).int.toNat) o (o.fld 2).len) (ByteArray.mk #[32]) else .empty
  else .empty
theorem objW_size {kind o : Dat} {i : Nat} (h0 : (kind.fld 0).str.size ≤ 1048576) (h1 : ∀ j, j < i → (((kind.fld 3).fld j).fld 0).str.size ≤ 1048576) (hi : i ≤ 1048576) : (joinS (objW kind o i) (ByteArray.mk #[32])).size ≤ 1200000000000 := by
  have := joinS_size (l := objW kind o i) (sep := ByteArray.mk #[32]) (B := 1048598) (fun x hx => by
    unfold objW at hx
    simp only [List.mem_cons, List.mem_map, List.mem_range] at hx
    rcases hx with rfl | ⟨j, hj, rfl⟩
    · show (kind.fld 0).str.size ≤ _; omega
    · have h2 := h1 j hj
      have h3 := valS_size ((o.fld 2).fld j)
      show (_ ++ _ ++ _ : ByteArray).size ≤ _
      rw [app_size, app_size, show (ByteArray.mk #[61]).size = 1 from rfl]
      omega)
  rw [objW_length, show (ByteArray.mk #[32]).size = 1 from rfl] at this
  have h4 : (i + 1) * (1048598 + 1) ≤ 1048577 * (1048598 + 1) := Nat.mul_le_mul_right _ (by omega)
  omega

/-! ### Threads -/
def valsOk (l : Dat) : Bool := (List.range l.len).all fun i => valOk (l.fld i)
/-- Is there such a method? -/
def methIn (p : Dat) (k m : Int) : Bool := bif inR k 0 (((p.fld 0).len : Int) - 1) then inR m 0 (((((p.fld 0).fld k.toNat).fld 4).len : Int) - 1) else false
abbrev methAt (p : Dat) (k m : Int) : Dat := (((p.fld 0).fld k.toNat).fld 4).fld m.toNat
def frameOk (p f : Dat) : Bool :=
  bif methIn p (f.fld 0).int (f.fld 1).int then
    ((methAt p (f.fld 0).int (f.fld 1).int).fld 1).int == (f.fld 0).int && (inR (f.fld 2).int 0 ((((methAt p (f.fld 0).int (f.fld 1).int).fld 5).len : Int) - 1) &&
      ((((f.fld 3).len : Int) == ((methAt p (f.fld 0).int (f.fld 1).int).fld 4).int) && (decide (((f.fld 4).len : Int) ≤ 6) && (valsOk (f.fld 3) && valsOk (f.fld 4)))))
  else false
def threadOk (p t : Dat) : Bool :=
  inR (t.fld 0).int 1 1000000 && (decide (((t.fld 1).len : Int) ≤ 8) && ((decide (((t.fld 1).len : Int) > 0) || ((t.fld 2).int != 0)) && (inR (t.fld 2).int 0 5 && (inR (t.fld 3).int 0 15 && (List.range (t.fld 1).len).all fun i => frameOk p ((t.fld 1).fld i)))))

theorem s_str (x : ByteArray) : (Dat.s x).str = x := rfl
theorem methIn_place {p : Dat} {k m : Int} (h : methIn p k m = true) : (decide (0 ≤ k) && decide (k < ((p.fld 0).len : Int))) = true ∧ k.toNat < (p.fld 0).len ∧
    (decide (0 ≤ m) && decide (m < ((((p.fld 0).fld k.toNat).fld 4).len : Int))) = true ∧ m.toNat < (((p.fld 0).fld k.toNat).fld 4).len := by
  unfold methIn at h
  cases hk : inR k 0 (((p.fld 0).len : Int) - 1)
  · rw [hk] at h; cases h
  · rw [hk, cond_true] at h
    exact ⟨(place hk).1, (place hk).2.1, (place h).1, (place h).2.1⟩

def states : List Dat := [(Dat.s (ByteArray.mk #[114, 117, 110])), (Dat.s (ByteArray.mk #[101, 110, 100])), (Dat.s (ByteArray.mk #[110, 117, 108, 108])), (Dat.s (ByteArray.mk #[111, 119, 110, 101, 114])), (Dat.s (ByteArray.mk #[100, 101, 101, 112])), (Dat.s (ByteArray.mk #[114, 111, 111, 109]))]
abbrev lastF (t : Dat) : Dat := (t.fld 1).fld ((t.fld 1).len - 1)
abbrev kindOfF (p f : Dat) : Dat := (p.fld 0).fld (f.fld 0).int.toNat
/-- The words of a thread that runs, so many values. -/
def thrW (p f : Dat) (i : Nat) : List Dat :=
  .s (ByteArray.mk #[114, 117, 110]) :: .s ((((kindOfF p f).fld 0).str ++ ByteArray.mk #[46]) ++ ((methAt p (f.fld 0).int (f.fld 1).int).fld 0).str) :: .s (itoaS (f.fld 2).int) :: (List.range i).map fun j => .s (valS ((f.fld 4).fld j))
theorem thrW_succ (p f : Dat) (i : Nat) : thrW p f (i + 1) = thrW p f i ++ [.s (valS ((f.fld 4).fld i))] := by
  unfold thrW; rw [List.range_succ]; simp
theorem thrW_length (p f : Dat) (i : Nat) : (thrW p f i).length = i + 3 := by simp [thrW]
theorem thrW_zero (p f : Dat) : joinS (thrW p f 0) (ByteArray.mk #[32]) =
    ((((((ByteArray.mk #[114, 117, 110]) ++ (ByteArray.mk #[32])) ++ ((kindOfF p f).fld 0).str) ++ (ByteArray.mk #[46])) ++ ((methAt p (f.fld 0).int (f.fld 1).int).fld 0).str) ++ (ByteArray.mk #[32])) ++ itoaS (f.fld 2).int := by
  have e : thrW p f 0 = ([.s (ByteArray.mk #[114, 117, 110])] ++ [.s ((((kindOfF p f).fld 0).str ++ ByteArray.mk #[46]) ++ ((methAt p (f.fld 0).int (f.fld 1).int).fld 0).str)]) ++ [.s (itoaS (f.fld 2).int)] := rfl
  rw [e, joinS_snoc (by simp), joinS_snoc (by simp), joinS_one]
  simp only [app_assoc, Dat.str]
theorem thrW_size {p f : Dat} {i : Nat} (h0 : ((kindOfF p f).fld 0).str.size ≤ 1048576) (h1 : ((methAt p (f.fld 0).int (f.fld 1).int).fld 0).str.size ≤ 1048576) (h2 : (itoaS (f.fld 2).int).size ≤ 20) (hi : i ≤ 1048576) :
    (joinS (thrW p f i) (ByteArray.mk #[32])).size ≤ 4000000000000 := by
  have := joinS_size (l := thrW p f i) (sep := ByteArray.mk #[32]) (B := 2097153) (fun x hx => by
    unfold thrW at hx
    simp only [List.mem_cons, List.mem_map, List.mem_range] at hx
    rcases hx with rfl | rfl | rfl | ⟨j, hj, rfl⟩
    · show 3 ≤ _; omega
    · show (_ ++ _ ++ _ : ByteArray).size ≤ _
      rw [app_size, app_size, show (ByteArray.mk #[46]).size = 1 from rfl]; omega
    · show (itoaS _).size ≤ _; omega
    · have h3 := valS_size ((f.fld 4).fld j)
      show (valS _).size ≤ _; omega)
  rw [thrW_length, show (ByteArray.mk #[32]).size = 1 from rfl] at this
  have h4 : (i + 3) * (2097153 + 1) ≤ 1048579 * (2097153 + 1) := Nat.mul_le_mul_right _ (by omega)
  omega
/-- How a thread is shown. -/
def thrS (p t : Dat) : ByteArray :=
  bif threadOk p t then (bif (t.fld 2).int != 0 then (states.getD (t.fld 2).int.toNat (.n [])).str else joinS (thrW p (lastF t) ((lastF t).fld 4).len) (ByteArray.mk #[32])) else .empty
theorem threadOk_parts {p t : Dat} (h : threadOk p t = true) : inR (t.fld 2).int 0 5 = true ∧ ((t.fld 2).int = 0 → 0 < (t.fld 1).len) ∧ ∀ i, i < (t.fld 1).len → frameOk p ((t.fld 1).fld i) = true := by
  unfold threadOk at h
  simp only [Bool.and_eq_true, Bool.or_eq_true, bne_iff_ne, decide_eq_true_eq, List.all_eq_true, List.mem_range] at h
  obtain ⟨_, _, h3, h4, _, h6⟩ := h
  exact ⟨h4, fun h0 => by rcases h3 with h | h; omega; exact absurd h0 h, h6⟩
theorem frameOk_meth {p f : Dat} (h : frameOk p f = true) : methIn p (f.fld 0).int (f.fld 1).int = true := by
  unfold frameOk at h
  cases hm : methIn p (f.fld 0).int (f.fld 1).int
  · rw [hm] at h; cases h
  · rfl
theorem thr_spec (a b c d e f g : Bool) : (bif g then (bif a then (bif b then (bif c then (bif d then some [Dat.b e] else some [Dat.b false]) else (bif f then (bif d then some [Dat.b e] else some [Dat.b false]) else some [Dat.b false])) else some [Dat.b false]) else some [Dat.b false]) else some [Dat.b false]) =
    some [Dat.b (a && (b && ((c || f) && (d && (e && g)))))] := by cases a <;> cases b <;> cases c <;> cases d <;> cases e <;> cases f <;> cases g <;> rfl
theorem thr_impl (a b c d e f g : Bool) : (bif !a then some [Dat.b false] else (bif !b then some [Dat.b false] else (bif !f then (bif !c then some [Dat.b false] else (bif g then (bif d then some [Dat.b e] else some [Dat.b false]) else some [Dat.b false])) else (bif g then (bif d then some [Dat.b e] else some [Dat.b false]) else some [Dat.b false])))) =
    some [Dat.b (a && (b && ((c || f) && (d && (e && g)))))] := by cases a <;> cases b <;> cases c <;> cases d <;> cases e <;> cases f <;> cases g <;> rfl
theorem frm_spec (m a b c d e f : Bool) : (bif a then (bif b then (bif c then (bif d then (bif e then some [Dat.b f] else some [Dat.b false]) else some [Dat.b false]) else some [Dat.b false]) else some [Dat.b false]) else some [Dat.b false]) =
    some [Dat.b (bif true then (a && (b && (c && (d && (e && f))))) else false)] := by cases a <;> cases b <;> cases c <;> cases d <;> cases e <;> cases f <;> rfl
theorem frm_impl {β : Type} (a b c d e f : Bool) (k : β) (z : β) : (bif !a then z else (bif !b then z else (bif !c then z else (bif !d then z else (bif !e then z else (bif !f then z else k)))))) =
    bif (bif true then (a && (b && (c && (d && (e && f))))) else false) then k else z := by cases a <;> cases b <;> cases c <;> cases d <;> cases e <;> cases f <;> rfl
end Go.Ev
