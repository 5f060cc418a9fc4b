/- Contracts of functions, by program. -/
import Derived.Test.YtbagccfjdehgbaaEvU
import Derived.Test.YtbagccfjdehgbaaProg
namespace Go.F1
open Go Go.Ev Go.Proofs
set_option maxRecDepth 100000
theorem hM : Try.prog.follows .mixedOrders = true := by kernel_rfl
theorem hD : 16 ≤ Try.prog.depth := of_decide_eq_true (by kernel_rfl)
abbrev tInt : Ty := .int .i64
abbrev s0 : Ty := (.st [tInt, tInt, .bool, (.int .u8)])
abbrev s1 : Ty := (.st [.bool, tInt])
abbrev s2 : Ty := (.st [tInt, tInt, (.sl s1)])
abbrev s3 : Ty := (.st [tInt, tInt, tInt, (.sl s1), (.sl s1)])
abbrev s4 : Ty := (.st [tInt, (.sl s3), tInt, tInt])
def tab : TyTab := [none, none, none, some tInt, some (.bool)] ++ List.replicate 17 none ++ [some (.sl s2), none, none, some (.sl s2), none, none, some (.sl s3), none, some s4, none, none, some (.sl s3), none, some s4, none, none, none, some (.sl s1), none, some s2, some (.sl s1), none, some s2, none, none, none, some s1, none, none, none, some s3] ++ List.replicate 6 none ++ [some s3, none, none, none, some s1] ++ List.replicate 18 none
abbrev T : TypeId → Option Ty := TyTab.get tab
theorem hT : ∀ t ty, T t = some ty → TyOk Try.prog t ty := tab_ok (by kernel_rfl)

/-! laws.szValS -/
abbrev C23 : FuncId → Option Sig := tabC []
theorem hC23 : ∀ g sg, C23 g = some sg → ConOk Try.prog g sg := tabC_nil
abbrev keep23 : Nat → List Nat := fun _ => []
theorem f23_start (K : Nat) (a : Dat) (l : Dat) : evBody T C23 noL K keep23 Try.f23 [(.sl s1), tInt] [tInt] [a, l] =
      (bif decide ((IntKind.i64.wrap (l.int - (a.len : Int))) < (0 : Int)) then some [(Dat.i (-1 : Int))] else some [(Dat.i (IntKind.i64.wrap (l.int - (a.len : Int))))]) := by kernel_rfl
theorem con23 : ConOk Try.prog 23 (szSig (.sl s1)) := con hM hD hT hC23 keep23 Try.func23 (by kernel_rfl) (by kernel_rfl) fun ds hl hp => by
  obtain ⟨a, l, rfl⟩ := ds_two hl
  obtain ⟨ha, h0, h1⟩ := sz_pre (show (fit M (.sl s1) a && (decide (0 ≤ l.int) && decide (l.int ≤ 1048576))) = true from hp)
  obtain ⟨hn, he⟩ := fit_sl ha
  refine ⟨0, ?_⟩
  show _ = some [Dat.i (szr (wt (.sl s1) a) l.int)]
  rw [wt_sl, f23_start, sum_zero (fun i => show wt s1 (a.fld i) = 0 from rfl)]
  exact sz_len hn h0 h1 fun l' p0 _ => by rw [szr_zero p0]


/-! laws.szObject -/
abbrev C15 : FuncId → Option Sig := tabC [(23, szSig (.sl s1))]
theorem hC15 : ∀ g sg, C15 g = some sg → ConOk Try.prog g sg := (tabC_cons con23 tabC_nil)
abbrev keep15 : Nat → List Nat := fun _ => []
theorem f15_start (K : Nat) (a : Dat) (l : Dat) : evBody T C15 noL K keep15 Try.f15 [s2, tInt] [tInt] [a, l] =
      (bif (fit M (.sl s1) (a.fld 2) && (decide (0 ≤ l.int) && decide (l.int ≤ 1048576))) then (bif decide ((szR (.sl s1) (a.fld 2) l.int) < (0 : Int)) then some [(Dat.i (-1 : Int))] else some [(Dat.i (szR (.sl s1) (a.fld 2) l.int))]) else none) := by kernel_rfl
theorem con15 : ConOk Try.prog 15 (szSig s2) := con hM hD hT hC15 keep15 Try.func15 (by kernel_rfl) (by kernel_rfl) fun ds hl hp => by
  obtain ⟨a, l, rfl⟩ := ds_two hl
  obtain ⟨ha, h0, h1⟩ := sz_pre (show (fit M s2 a && (decide (0 ≤ l.int) && decide (l.int ≤ 1048576))) = true from hp)
  refine ⟨0, ?_⟩
  have k2 : fit M (.sl s1) (a.fld 2) = true := fit_fld ha 2 rfl
  have hw : wt s2 a = (wt (.sl s1) (a.fld 2) + 0) := by
    simp only [wt_st, wts_cons, wts_nil, wt_int, Nat.zero_add, Nat.add_zero]
  show _ = some [Dat.i (szr (wt s2 a) l.int)]
  rw [f15_start, hw]
  exact sz_call k2 h0 h1 (fun l0 p0 q0 => (by rw [szr_zero p0]))


/-! laws.szObjectS -/
abbrev C5 : FuncId → Option Sig := tabC [(15, szSig s2)]
theorem hC5 : ∀ g sg, C5 g = some sg → ConOk Try.prog g sg := (tabC_cons con15 tabC_nil)
abbrev keep5 : Nat → List Nat | 0 => [0, 1, 4, 5] | _ => []
def S5_0 (x0 : Dat) (x1 : Int) (x5 : Int) : St := ⟨[.ro s2 x0, .int .i64 x1, .u, .u, .int .i64 (0 : Int), .int .i64 x5] ++ us 21, []⟩
theorem f5_round0 (K n : Nat) (x0 : Dat) (x1 : Int) (x5 : Int) :
    loopE T C5 K keep5 Try.f5 0 0 (behind T C5 K keep5 Try.f5 [tInt] 0) (n + 1) (S5_0 x0 x1 x5) =
      (bif decide (x5 < (x0.len : Int)) then (bif (decide (0 ≤ x5) && decide (x5 < (x0.len : Int))) then (bif (fit M s2 (x0.fld x5.toNat) && (decide (0 ≤ x1) && decide (x1 ≤ 1048576))) then (bif decide ((szR s2 (x0.fld x5.toNat) x1) < (0 : Int)) then some [(Dat.i (-1 : Int))] else loopE T C5 K keep5 Try.f5 0 0 (behind T C5 K keep5 Try.f5 [tInt] 0) n (S5_0 x0 (szR s2 (x0.fld x5.toNat) x1) (IntKind.i64.wrap (x5 + (1 : Int))))) else none) else none) else some [(Dat.i x1)]) := by kernel_rfl
theorem f5_start (K : Nat) (a : Dat) (l : Dat) : evBody T C5 noL K keep5 Try.f5 [(.sl s2), tInt] [tInt] [a, l] =
      (bif decide ((IntKind.i64.wrap (l.int - (a.len : Int))) < (0 : Int)) then some [(Dat.i (-1 : Int))] else loopE T C5 K keep5 Try.f5 0 0 (behind T C5 K keep5 Try.f5 [tInt] 0) K (S5_0 a (IntKind.i64.wrap (l.int - (a.len : Int))) (0 : Int))) := by kernel_rfl
theorem con5 : ConOk Try.prog 5 (szSig (.sl s2)) := con hM hD hT hC5 keep5 Try.func5 (by kernel_rfl) (by kernel_rfl) fun ds hl hp => by
  obtain ⟨a, l, rfl⟩ := ds_two hl
  obtain ⟨ha, h0, h1⟩ := sz_pre (show (fit M (.sl s2) a && (decide (0 ≤ l.int) && decide (l.int ≤ 1048576))) = true from hp)
  obtain ⟨hn, he⟩ := fit_sl ha
  refine ⟨a.len + 1, ?_⟩
  show _ = some [Dat.i (szr (wt (.sl s2) a) l.int)]
  rw [wt_sl]
  rw [f5_start]
  refine sz_len (k := fun l' => loopE T C5 (a.len + 1) keep5 Try.f5 0 0 (behind T C5 (a.len + 1) keep5 Try.f5 [tInt] 0) (a.len + 1) (S5_0 a l' 0)) hn h0 h1 fun l' p0 p1 => ?_
  exact sz_loop (E := fun n j l => loopE T C5 (a.len + 1) keep5 Try.f5 0 0 (behind T C5 (a.len + 1) keep5 Try.f5 [tInt] 0) n (S5_0 a l (j : Int))) (N := a.len) (g := fun j => wt s2 (a.fld j)) (fun n j l hj q0 q1 => by
    have f1 := he j hj
    have e1 : decide (0 ≤ l) = true := by simpa using q0
    have e2 : decide (l ≤ 1048576) = true := by simpa using q1
    show loopE T C5 (a.len + 1) keep5 Try.f5 0 0 (behind T C5 (a.len + 1) keep5 Try.f5 [tInt] 0) (n + 1) (S5_0 a l (j : Int)) = _
    rw [f5_round0]
    simp only [dlt hj, dge, Int.toNat_natCast, f1, e1, e2, Bool.and_self, cond_true, wrap_succ hj hn]
    rfl)
    (fun n l => by
    show loopE T C5 (a.len + 1) keep5 Try.f5 0 0 (behind T C5 (a.len + 1) keep5 Try.f5 [tInt] 0) (n + 1) (S5_0 a l (a.len : Int)) = _
    rw [f5_round0, dnlt (Nat.lt_irrefl _)]; rfl) l' p0 p1


/-! laws.toVal -/
abbrev C29 : FuncId → Option Sig := tabC []
theorem hC29 : ∀ g sg, C29 g = some sg → ConOk Try.prog g sg := tabC_nil
abbrev keep29 : Nat → List Nat := fun _ => []
theorem f29_start (K : Nat) (a : Dat) : evBody T C29 noL K keep29 Try.f29 [s1] [s1] [a] =
      some [(Dat.n [(Dat.b ((a.fld 0).bool)), (Dat.i ((a.fld 1).int))])] := by kernel_rfl
theorem con29 : ConOk Try.prog 29 (toSig s1 s1) := con hM hD hT hC29 keep29 Try.func29 (by kernel_rfl) (by kernel_rfl) fun ds hl hp => by
  obtain ⟨a, rfl⟩ := ds_one hl
  replace hp : fit 1048576 s1 a = true := hp
  refine ⟨0, ?_⟩
  rw [f29_start]
  rfl


/-! laws.toValS -/
abbrev C24 : FuncId → Option Sig := tabC [(29, toSig s1 s1)]
theorem hC24 : ∀ g sg, C24 g = some sg → ConOk Try.prog g sg := (tabC_cons con29 tabC_nil)
abbrev keep24 : Nat → List Nat | 0 => [0, 3, 4] | _ => []
def S24_0 (x0 : Dat) (x4 : Int) (l0 : (List Dat)) : St := ⟨[.ro s1 x0, .u, .u, .hd 0, .int .i64 x4] ++ us 18, [.arr s1 l0]⟩
theorem f24_round0 (K n : Nat) (x0 : Dat) (x4 : Int) (l0 : (List Dat)) :
    loopE T C24 K keep24 Try.f24 0 0 (behind T C24 K keep24 Try.f24 [(.sl s1)] 0) (n + 1) (S24_0 x0 x4 l0) =
      (bif decide (x4 < (x0.len : Int)) then (bif (decide (0 ≤ x4) && decide (x4 < (x0.len : Int))) then (bif fit 1048576 s1 (x0.fld x4.toNat) then (bif (decide (0 ≤ x4) && decide (x4 < (l0.length : Int))) then loopE T C24 K keep24 Try.f24 0 0 (behind T C24 K keep24 Try.f24 [(.sl s1)] 0) n (S24_0 x0 (IntKind.i64.wrap (x4 + (1 : Int))) (l0.set x4.toNat (can s1 (x0.fld x4.toNat)))) else none) else none) else none) else some [(Dat.n l0)]) := by kernel_rfl
theorem f24_start (K : Nat) (a : Dat) : evBody T C24 noL K keep24 Try.f24 [(.sl s1)] [(.sl s1)] [a] =
      (bif (decide (0 ≤ (a.len : Int)) && (decide ((a.len : Int) ≤ 4294967296) && decide ((a.len : Int) = (a.len : Int)))) then loopE T C24 K keep24 Try.f24 0 0 (behind T C24 K keep24 Try.f24 [(.sl s1)] 0) K (S24_0 a (0 : Int) (List.replicate (a.len : Int).toNat (zeroD s1))) else none) := by kernel_rfl
theorem con24 : ConOk Try.prog 24 (toSig (.sl s1) (.sl s1)) := con hM hD hT hC24 keep24 Try.func24 (by kernel_rfl) (by kernel_rfl) fun ds hl hp => by
  obtain ⟨a, rfl⟩ := ds_one hl
  replace hp : fit 1048576 (.sl s1) a = true := hp
  obtain ⟨hn, he⟩ := fit_sl hp
  refine ⟨a.len + 1, ?_⟩
  have c1 : (decide (0 ≤ (a.len : Int)) && (decide ((a.len : Int) ≤ 4294967296) && decide ((a.len : Int) = (a.len : Int)))) = true := by simp; omega
  rw [f24_start, c1, cond_true, Int.toNat_natCast]
  refine (fill_loop (E := fun n j l => loopE T C24 (a.len + 1) keep24 Try.f24 0 0 (behind T C24 (a.len + 1) keep24 Try.f24 [(.sl s1)] 0) n (S24_0 a (j : Int) l)) (N := a.len) (g := fun j => can s1 (a.fld j)) (fin := fun l => some [Dat.n l]) (zeroD s1) (fun n j l hj hlen => ?_) (fun n l _ => ?_)).trans ?_
  · have f1 := he j hj
    have hj2 : j < l.length := by omega
    show loopE T C24 (a.len + 1) keep24 Try.f24 0 0 (behind T C24 (a.len + 1) keep24 Try.f24 [(.sl s1)] 0) (n + 1) (S24_0 a (j : Int) l) = _
    rw [f24_round0]
    simp only [dlt hj, dge, dlt hj2, Int.toNat_natCast, f1, Bool.and_self, cond_true, wrap_succ hj (by unfold M; omega)]
    try rfl
  · show loopE T C24 (a.len + 1) keep24 Try.f24 0 0 (behind T C24 (a.len + 1) keep24 Try.f24 [(.sl s1)] 0) (n + 1) (S24_0 a (a.len : Int) l) = _
    rw [f24_round0, dnlt (Nat.lt_irrefl _)]; rfl
  · show _ = some [can (.sl s1) a]
    rw [kids_can]


/-! laws.toObject -/
abbrev C17 : FuncId → Option Sig := tabC [(24, toSig (.sl s1) (.sl s1))]
theorem hC17 : ∀ g sg, C17 g = some sg → ConOk Try.prog g sg := (tabC_cons con24 tabC_nil)
abbrev keep17 : Nat → List Nat := fun _ => []
theorem f17_start (K : Nat) (a : Dat) : evBody T C17 noL K keep17 Try.f17 [s2] [s2] [a] =
      (bif fit 1048576 (.sl s1) (a.fld 2) then some [(Dat.n [(Dat.i ((a.fld 0).int)), (Dat.i ((a.fld 1).int)), (Dat.n ((can (.sl s1) (a.fld 2)).kids))])] else none) := by kernel_rfl
theorem con17 : ConOk Try.prog 17 (toSig s2 s2) := con hM hD hT hC17 keep17 Try.func17 (by kernel_rfl) (by kernel_rfl) fun ds hl hp => by
  obtain ⟨a, rfl⟩ := ds_one hl
  replace hp : fit 1048576 s2 a = true := hp
  refine ⟨0, ?_⟩
  have h2 : fit 1048576 (.sl s1) (a.fld 2) = true := fit_fld hp 2 rfl
  rw [f17_start]
  simp only [h2, cond_true]
  rfl


/-! laws.toObjectS -/
abbrev C7 : FuncId → Option Sig := tabC [(17, toSig s2 s2)]
theorem hC7 : ∀ g sg, C7 g = some sg → ConOk Try.prog g sg := (tabC_cons con17 tabC_nil)
abbrev keep7 : Nat → List Nat | 0 => [0, 3, 4] | _ => []
def S7_0 (x0 : Dat) (x4 : Int) (l0 : (List Dat)) : St := ⟨[.ro s2 x0, .u, .u, .hd 0, .int .i64 x4] ++ us 18, [.arr s2 l0]⟩
theorem f7_round0 (K n : Nat) (x0 : Dat) (x4 : Int) (l0 : (List Dat)) :
    loopE T C7 K keep7 Try.f7 0 0 (behind T C7 K keep7 Try.f7 [(.sl s2)] 0) (n + 1) (S7_0 x0 x4 l0) =
      (bif decide (x4 < (x0.len : Int)) then (bif (decide (0 ≤ x4) && decide (x4 < (x0.len : Int))) then (bif fit 1048576 s2 (x0.fld x4.toNat) then (bif (decide (0 ≤ x4) && decide (x4 < (l0.length : Int))) then loopE T C7 K keep7 Try.f7 0 0 (behind T C7 K keep7 Try.f7 [(.sl s2)] 0) n (S7_0 x0 (IntKind.i64.wrap (x4 + (1 : Int))) (l0.set x4.toNat (can s2 (x0.fld x4.toNat)))) else none) else none) else none) else some [(Dat.n l0)]) := by kernel_rfl
theorem f7_start (K : Nat) (a : Dat) : evBody T C7 noL K keep7 Try.f7 [(.sl s2)] [(.sl s2)] [a] =
      (bif (decide (0 ≤ (a.len : Int)) && (decide ((a.len : Int) ≤ 4294967296) && decide ((a.len : Int) = (a.len : Int)))) then loopE T C7 K keep7 Try.f7 0 0 (behind T C7 K keep7 Try.f7 [(.sl s2)] 0) K (S7_0 a (0 : Int) (List.replicate (a.len : Int).toNat (zeroD s2))) else none) := by kernel_rfl
theorem con7 : ConOk Try.prog 7 (toSig (.sl s2) (.sl s2)) := con hM hD hT hC7 keep7 Try.func7 (by kernel_rfl) (by kernel_rfl) fun ds hl hp => by
  obtain ⟨a, rfl⟩ := ds_one hl
  replace hp : fit 1048576 (.sl s2) a = true := hp
  obtain ⟨hn, he⟩ := fit_sl hp
  refine ⟨a.len + 1, ?_⟩
  have c1 : (decide (0 ≤ (a.len : Int)) && (decide ((a.len : Int) ≤ 4294967296) && decide ((a.len : Int) = (a.len : Int)))) = true := by simp; omega
  rw [f7_start, c1, cond_true, Int.toNat_natCast]
  refine (fill_loop (E := fun n j l => loopE T C7 (a.len + 1) keep7 Try.f7 0 0 (behind T C7 (a.len + 1) keep7 Try.f7 [(.sl s2)] 0) n (S7_0 a (j : Int) l)) (N := a.len) (g := fun j => can s2 (a.fld j)) (fin := fun l => some [Dat.n l]) (zeroD s2) (fun n j l hj hlen => ?_) (fun n l _ => ?_)).trans ?_
  · have f1 := he j hj
    have hj2 : j < l.length := by omega
    show loopE T C7 (a.len + 1) keep7 Try.f7 0 0 (behind T C7 (a.len + 1) keep7 Try.f7 [(.sl s2)] 0) (n + 1) (S7_0 a (j : Int) l) = _
    rw [f7_round0]
    simp only [dlt hj, dge, dlt hj2, Int.toNat_natCast, f1, Bool.and_self, cond_true, wrap_succ hj (by unfold M; omega)]
    try rfl
  · show loopE T C7 (a.len + 1) keep7 Try.f7 0 0 (behind T C7 (a.len + 1) keep7 Try.f7 [(.sl s2)] 0) (n + 1) (S7_0 a (a.len : Int) l) = _
    rw [f7_round0, dnlt (Nat.lt_irrefl _)]; rfl
  · show _ = some [can (.sl s2) a]
    rw [kids_can]


/-! spec.l29Vals -/
abbrev C16 : FuncId → Option Sig := tabC []
theorem hC16 : ∀ g sg, C16 g = some sg → ConOk Try.prog g sg := tabC_nil
abbrev keep16 : Nat → List Nat | 0 => [0, 1, 4, 5] | _ => []
def S16_0 (x0 : Dat) (x1 : Dat) (x5 : Int) : St := ⟨[.ro s1 x0, .ro s1 x1, .u, .u, .bool false, .int .i64 x5] ++ us 26, []⟩
theorem f16_round0 (K n : Nat) (x0 : Dat) (x1 : Dat) (x5 : Int) :
    loopE T C16 K keep16 Try.f16 0 0 (behind T C16 K keep16 Try.f16 [.bool] 0) (n + 1) (S16_0 x0 x1 x5) =
      (bif decide (x5 < (x0.len : Int)) then (bif decide (x5 < (x1.len : Int)) then (bif (decide (0 ≤ x5) && decide (x5 < (x0.len : Int))) then (bif (decide (0 ≤ x5) && decide (x5 < (x1.len : Int))) then (bif (!((((x0.fld x5.toNat).fld 0).bool == ((x1.fld x5.toNat).fld 0).bool) && ((((x0.fld x5.toNat).fld 1).int == ((x1.fld x5.toNat).fld 1).int) && true))) then some [(Dat.b false)] else loopE T C16 K keep16 Try.f16 0 0 (behind T C16 K keep16 Try.f16 [.bool] 0) n (S16_0 x0 x1 (IntKind.i64.wrap (x5 + (1 : Int))))) else none) else none) else some [(Dat.b ((x0.len : Int) == (x1.len : Int)))]) else some [(Dat.b ((x0.len : Int) == (x1.len : Int)))]) := by kernel_rfl
theorem f16_start (K : Nat) (a : Dat) (b : Dat) : evBody T C16 noL K keep16 Try.f16 [(.sl s1), (.sl s1)] [.bool] [a, b] =
      loopE T C16 K keep16 Try.f16 0 0 (behind T C16 K keep16 Try.f16 [.bool] 0) K (S16_0 a b (0 : Int)) := by kernel_rfl
theorem con16 : ConOk Try.prog 16 (eqSig (.sl s1)) := con hM hD hT hC16 keep16 Try.func16 (by kernel_rfl) (by kernel_rfl) fun ds hl hp => by
  obtain ⟨a, b, rfl⟩ := ds_two hl
  obtain ⟨ha, hb⟩ := both (show (fit M (.sl s1) a && fit M (.sl s1) b) = true from hp)
  obtain ⟨hn, he⟩ := fit_sl ha
  obtain ⟨hn2, he2⟩ := fit_sl hb
  refine ⟨(min a.len b.len) + 1, ?_⟩
  rw [f16_start]
  show _ = some [Dat.b (deq (.sl s1) a b)]
  rw [deq_sl]
  refine (all_loop (E := fun n j => loopE T C16 ((min a.len b.len) + 1) keep16 Try.f16 0 0 (behind T C16 ((min a.len b.len) + 1) keep16 Try.f16 [.bool] 0) n (S16_0 a b ((j : Nat) : Int))) (N := (min a.len b.len)) (p := fun j => deq s1 (a.fld j) (b.fld j)) (kT := some [.b (a.len == b.len)]) (kF := some [.b false]) (fun n j hj0 => ?_) (fun n => ?_)).trans ?_
  · have hj : j < a.len := by omega
    have hj2 : j < b.len := by omega
    show loopE T C16 ((min a.len b.len) + 1) keep16 Try.f16 0 0 (behind T C16 ((min a.len b.len) + 1) keep16 Try.f16 [.bool] 0) (n + 1) (S16_0 a b ((j : Nat) : Int)) = _
    rw [f16_round0]
    simp only [dlt hj, dlt hj2, dge, Int.toNat_natCast, Bool.and_self, cond_true, wrap_succ hj hn]
    show (bif !deq s1 (a.fld j) (b.fld j) then some [Dat.b false] else loopE T C16 ((min a.len b.len) + 1) keep16 Try.f16 0 0 (behind T C16 ((min a.len b.len) + 1) keep16 Try.f16 [.bool] 0) n (S16_0 a b (((j + 1 : Nat) : Nat) : Int))) = _
    cases deq s1 (a.fld j) (b.fld j) <;> rfl
  · have c : ((a.len : Int) == (b.len : Int)) = (a.len == b.len) := by rw [Bool.eq_iff_iff, beq_iff_eq, beq_iff_eq]; omega
    show loopE T C16 ((min a.len b.len) + 1) keep16 Try.f16 0 0 (behind T C16 ((min a.len b.len) + 1) keep16 Try.f16 [.bool] 0) (n + 1) (S16_0 a b (((min a.len b.len) : Nat) : Int)) = _
    rw [f16_round0]
    rcases Nat.lt_or_ge (min a.len b.len) a.len with h1 | h1
    · rw [dlt h1, cond_true, dnlt (by omega), cond_false, c]
    · rw [dnlt (by omega), cond_false, c]
  · by_cases hlen : a.len = b.len
    · have c2 : (a.len == b.len) = true := by simp [hlen]
      rw [c2, show (min a.len b.len) = a.len by omega]
      cases (List.range a.len).all fun j => deq s1 (a.fld j) (b.fld j) <;> rfl
    · have c2 : (a.len == b.len) = false := by simp [hlen]
      rw [c2]
      cases (List.range (min a.len b.len)).all fun j => deq s1 (a.fld j) (b.fld j) <;> rfl

/-! spec.SameObjects -/
abbrev C6 : FuncId → Option Sig := tabC [(16, eqSig (.sl s1))]
theorem hC6 : ∀ g sg, C6 g = some sg → ConOk Try.prog g sg := (tabC_cons con16 tabC_nil)
abbrev keep6 : Nat → List Nat | 0 => [0, 1, 4, 5] | _ => []
def S6_0 (x0 : Dat) (x1 : Dat) (x5 : Int) : St := ⟨[.ro s2 x0, .ro s2 x1, .u, .u, .bool false, .int .i64 x5] ++ us 55, []⟩
theorem f6_round0 (K n : Nat) (x0 : Dat) (x1 : Dat) (x5 : Int) :
    loopE T C6 K keep6 Try.f6 0 0 (behind T C6 K keep6 Try.f6 [.bool] 0) (n + 1) (S6_0 x0 x1 x5) =
      (bif decide (x5 < (x0.len : Int)) then (bif decide (x5 < (x1.len : Int)) then (bif (decide (0 ≤ x5) && decide (x5 < (x0.len : Int))) then (bif (decide (0 ≤ x5) && decide (x5 < (x1.len : Int))) then (bif (((x0.fld x5.toNat).fld 0).int != ((x1.fld x5.toNat).fld 0).int) then some [(Dat.b false)] else (bif (decide (0 ≤ x5) && decide (x5 < (x0.len : Int))) then (bif (decide (0 ≤ x5) && decide (x5 < (x1.len : Int))) then (bif (((x0.fld x5.toNat).fld 1).int != ((x1.fld x5.toNat).fld 1).int) then some [(Dat.b false)] else (bif (decide (0 ≤ x5) && decide (x5 < (x0.len : Int))) then (bif (decide (0 ≤ x5) && decide (x5 < (x1.len : Int))) then (bif (fit M (.sl s1) ((x0.fld x5.toNat).fld 2) && fit M (.sl s1) ((x1.fld x5.toNat).fld 2)) then (bif (!(deq (.sl s1) ((x0.fld x5.toNat).fld 2) ((x1.fld x5.toNat).fld 2))) then some [(Dat.b false)] else loopE T C6 K keep6 Try.f6 0 0 (behind T C6 K keep6 Try.f6 [.bool] 0) n (S6_0 x0 x1 (IntKind.i64.wrap (x5 + (1 : Int))))) else none) else none) else none)) else none) else none)) else none) else none) else some [(Dat.b ((x0.len : Int) == (x1.len : Int)))]) else some [(Dat.b ((x0.len : Int) == (x1.len : Int)))]) := by kernel_rfl
theorem f6_start (K : Nat) (a : Dat) (b : Dat) : evBody T C6 noL K keep6 Try.f6 [(.sl s2), (.sl s2)] [.bool] [a, b] =
      loopE T C6 K keep6 Try.f6 0 0 (behind T C6 K keep6 Try.f6 [.bool] 0) K (S6_0 a b (0 : Int)) := by kernel_rfl
theorem con6 : ConOk Try.prog 6 (eqSig (.sl s2)) := con hM hD hT hC6 keep6 Try.func6 (by kernel_rfl) (by kernel_rfl) fun ds hl hp => by
  obtain ⟨a, b, rfl⟩ := ds_two hl
  obtain ⟨ha, hb⟩ := both (show (fit M (.sl s2) a && fit M (.sl s2) b) = true from hp)
  obtain ⟨hn, he⟩ := fit_sl ha
  obtain ⟨hn2, he2⟩ := fit_sl hb
  refine ⟨(min a.len b.len) + 1, ?_⟩
  rw [f6_start]
  show _ = some [Dat.b (deq (.sl s2) a b)]
  rw [deq_sl]
  refine (all_loop (E := fun n j => loopE T C6 ((min a.len b.len) + 1) keep6 Try.f6 0 0 (behind T C6 ((min a.len b.len) + 1) keep6 Try.f6 [.bool] 0) n (S6_0 a b ((j : Nat) : Int))) (N := (min a.len b.len)) (p := fun j => deq s2 (a.fld j) (b.fld j)) (kT := some [.b (a.len == b.len)]) (kF := some [.b false]) (fun n j hj0 => ?_) (fun n => ?_)).trans ?_
  · have hj : j < a.len := by omega
    have hj2 : j < b.len := by omega
    have g2 : (fit M (.sl s1) ((a.fld j).fld 2) && fit M (.sl s1) ((b.fld j).fld 2)) = true := and_both (fit_fld (he j hj) 2 rfl) (fit_fld (he2 j hj2) 2 rfl)
    show loopE T C6 ((min a.len b.len) + 1) keep6 Try.f6 0 0 (behind T C6 ((min a.len b.len) + 1) keep6 Try.f6 [.bool] 0) (n + 1) (S6_0 a b ((j : Nat) : Int)) = _
    rw [f6_round0]
    simp only [dlt hj, dlt hj2, dge, Int.toNat_natCast, g2, Bool.and_self, cond_true, wrap_succ hj hn]
    show _ = bif ((((a.fld j).fld 0).int == ((b.fld j).fld 0).int) && ((((a.fld j).fld 1).int == ((b.fld j).fld 1).int) && (deq (.sl s1) ((a.fld j).fld 2) ((b.fld j).fld 2) && true))) then loopE T C6 ((min a.len b.len) + 1) keep6 Try.f6 0 0 (behind T C6 ((min a.len b.len) + 1) keep6 Try.f6 [.bool] 0) n (S6_0 a b (((j + 1 : Nat) : Nat) : Int)) else some [Dat.b false]
    exact (ne_step (ne_step (ne_step rfl)))
  · have c : ((a.len : Int) == (b.len : Int)) = (a.len == b.len) := by rw [Bool.eq_iff_iff, beq_iff_eq, beq_iff_eq]; omega
    show loopE T C6 ((min a.len b.len) + 1) keep6 Try.f6 0 0 (behind T C6 ((min a.len b.len) + 1) keep6 Try.f6 [.bool] 0) (n + 1) (S6_0 a b (((min a.len b.len) : Nat) : Int)) = _
    rw [f6_round0]
    rcases Nat.lt_or_ge (min a.len b.len) a.len with h1 | h1
    · rw [dlt h1, cond_true, dnlt (by omega), cond_false, c]
    · rw [dnlt (by omega), cond_false, c]
  · by_cases hlen : a.len = b.len
    · have c2 : (a.len == b.len) = true := by simp [hlen]
      rw [c2, show (min a.len b.len) = a.len by omega]
      cases (List.range a.len).all fun j => deq s2 (a.fld j) (b.fld j) <;> rfl
    · have c2 : (a.len == b.len) = false := by simp [hlen]
      rw [c2]
      cases (List.range (min a.len b.len)).all fun j => deq s2 (a.fld j) (b.fld j) <;> rfl

/-! impl.Val] -/
abbrev C18 : FuncId → Option Sig := tabC []
theorem hC18 : ∀ g sg, C18 g = some sg → ConOk Try.prog g sg := tabC_nil
abbrev keep18 : Nat → List Nat | 0 => [0, 1, 4, 12, 13] | _ => []
def S18_0 (x0 : Dat) (x1 : Dat) (x12 : Int) (x13 : Int) : St := ⟨[.ro s1 x0, .ro s1 x1, .u, .u, .bool false] ++ us 7 ++ [.int .i64 x12, .int .i64 x13] ++ us 12, []⟩
theorem f18_round0 (K n : Nat) (x0 : Dat) (x1 : Dat) (x12 : Int) (x13 : Int) :
    loopE T C18 K keep18 Try.f18 0 0 (behind T C18 K keep18 Try.f18 [.bool] 0) (n + 1) (S18_0 x0 x1 x12 x13) =
      (bif decide (x13 < x12) then (bif (decide (0 ≤ x13) && decide (x13 < (x0.len : Int))) then (bif (decide (0 ≤ x13) && decide (x13 < (x1.len : Int))) then (bif (!((((x0.fld x13.toNat).fld 0).bool == ((x1.fld x13.toNat).fld 0).bool) && ((((x0.fld x13.toNat).fld 1).int == ((x1.fld x13.toNat).fld 1).int) && true))) then some [(Dat.b false)] else loopE T C18 K keep18 Try.f18 0 0 (behind T C18 K keep18 Try.f18 [.bool] 0) n (S18_0 x0 x1 x12 (IntKind.i64.wrap (x13 + (1 : Int))))) else none) else none) else some [(Dat.b true)]) := by kernel_rfl
theorem f18_start (K : Nat) (a : Dat) (b : Dat) : evBody T C18 noL K keep18 Try.f18 [(.sl s1), (.sl s1)] [.bool] [a, b] =
      (bif ((a.len : Int) != (b.len : Int)) then some [(Dat.b false)] else loopE T C18 K keep18 Try.f18 0 0 (behind T C18 K keep18 Try.f18 [.bool] 0) K (S18_0 a b (a.len : Int) (0 : Int))) := by kernel_rfl
theorem con18 : ConOk Try.prog 18 (eqSig (.sl s1)) := con hM hD hT hC18 keep18 Try.func18 (by kernel_rfl) (by kernel_rfl) fun ds hl hp => by
  obtain ⟨a, b, rfl⟩ := ds_two hl
  obtain ⟨ha, hb⟩ := both (show (fit M (.sl s1) a && fit M (.sl s1) b) = true from hp)
  obtain ⟨hn, he⟩ := fit_sl ha
  obtain ⟨hn2, he2⟩ := fit_sl hb
  refine ⟨a.len + 1, ?_⟩
  rw [f18_start]
  show _ = some [Dat.b (deq (.sl s1) a b)]
  rw [deq_sl]
  by_cases hlen : a.len = b.len
  · have c1 : ((a.len : Int) != (b.len : Int)) = false := by simp [hlen]
    have c2 : (a.len == b.len) = true := by simp [hlen]
    rw [c1, cond_false, c2, Bool.true_and]
    refine (all_loop (E := fun n j => loopE T C18 (a.len + 1) keep18 Try.f18 0 0 (behind T C18 (a.len + 1) keep18 Try.f18 [.bool] 0) n (S18_0 a b (a.len : Int) ((j : Nat) : Int))) (N := a.len) (p := fun j => deq s1 (a.fld j) (b.fld j)) (kT := some [.b true]) (kF := some [.b false]) (fun n j hj => ?_) (fun n => ?_)).trans ?_
    · have hj2 : j < b.len := by omega
      show loopE T C18 (a.len + 1) keep18 Try.f18 0 0 (behind T C18 (a.len + 1) keep18 Try.f18 [.bool] 0) (n + 1) (S18_0 a b (a.len : Int) ((j : Nat) : Int)) = _
      rw [f18_round0]
      simp only [dlt hj, dlt hj2, dge, Int.toNat_natCast, Bool.and_self, cond_true, wrap_succ hj hn]
      show (bif !deq s1 (a.fld j) (b.fld j) then some [Dat.b false] else loopE T C18 (a.len + 1) keep18 Try.f18 0 0 (behind T C18 (a.len + 1) keep18 Try.f18 [.bool] 0) n (S18_0 a b (a.len : Int) (((j + 1 : Nat) : Nat) : Int))) = _
      cases deq s1 (a.fld j) (b.fld j) <;> rfl
    · show loopE T C18 (a.len + 1) keep18 Try.f18 0 0 (behind T C18 (a.len + 1) keep18 Try.f18 [.bool] 0) (n + 1) (S18_0 a b (a.len : Int) ((a.len : Nat) : Int)) = _
      rw [f18_round0, dnlt (Nat.lt_irrefl _)]; rfl
    · cases (List.range a.len).all fun j => deq s1 (a.fld j) (b.fld j) <;> rfl
  · have c1 : ((a.len : Int) != (b.len : Int)) = true := by simp; omega
    have c2 : (a.len == b.len) = false := by simp [hlen]
    rw [c1, cond_true, c2]; rfl

/-! impl.SameObjects -/
abbrev C8 : FuncId → Option Sig := tabC [(18, eqSig (.sl s1))]
theorem hC8 : ∀ g sg, C8 g = some sg → ConOk Try.prog g sg := (tabC_cons con18 tabC_nil)
abbrev keep8 : Nat → List Nat | 0 => [1, 4, 12, 13, 14] | _ => []
def S8_0 (x1 : Dat) (x12 : Dat) (x13 : Int) (x14 : Int) : St := ⟨[.u, .ro s2 x1, .u, .u, .bool false] ++ us 7 ++ [.ro s2 x12, .int .i64 x13, .int .i64 x14] ++ us 34, []⟩
theorem f8_round0 (K n : Nat) (x1 : Dat) (x12 : Dat) (x13 : Int) (x14 : Int) :
    loopE T C8 K keep8 Try.f8 0 0 (behind T C8 K keep8 Try.f8 [.bool] 0) (n + 1) (S8_0 x1 x12 x13 x14) =
      (bif decide (x14 < x13) then (bif (decide (0 ≤ x14) && decide (x14 < (x12.len : Int))) then (bif (decide (0 ≤ x14) && decide (x14 < (x1.len : Int))) then (bif (((x12.fld x14.toNat).fld 0).int != ((x1.fld x14.toNat).fld 0).int) then some [(Dat.b false)] else (bif (decide (0 ≤ x14) && decide (x14 < (x1.len : Int))) then (bif (((x12.fld x14.toNat).fld 1).int != ((x1.fld x14.toNat).fld 1).int) then some [(Dat.b false)] else (bif (decide (0 ≤ x14) && decide (x14 < (x1.len : Int))) then (bif (fit M (.sl s1) ((x12.fld x14.toNat).fld 2) && fit M (.sl s1) ((x1.fld x14.toNat).fld 2)) then (bif (!(deq (.sl s1) ((x12.fld x14.toNat).fld 2) ((x1.fld x14.toNat).fld 2))) then some [(Dat.b false)] else loopE T C8 K keep8 Try.f8 0 0 (behind T C8 K keep8 Try.f8 [.bool] 0) n (S8_0 x1 x12 x13 (IntKind.i64.wrap (x14 + (1 : Int))))) else none) else none)) else none)) else none) else none) else some [(Dat.b true)]) := by kernel_rfl
theorem f8_start (K : Nat) (a : Dat) (b : Dat) : evBody T C8 noL K keep8 Try.f8 [(.sl s2), (.sl s2)] [.bool] [a, b] =
      (bif ((a.len : Int) != (b.len : Int)) then some [(Dat.b false)] else loopE T C8 K keep8 Try.f8 0 0 (behind T C8 K keep8 Try.f8 [.bool] 0) K (S8_0 b a (a.len : Int) (0 : Int))) := by kernel_rfl
theorem con8 : ConOk Try.prog 8 (eqSig (.sl s2)) := con hM hD hT hC8 keep8 Try.func8 (by kernel_rfl) (by kernel_rfl) fun ds hl hp => by
  obtain ⟨a, b, rfl⟩ := ds_two hl
  obtain ⟨ha, hb⟩ := both (show (fit M (.sl s2) a && fit M (.sl s2) b) = true from hp)
  obtain ⟨hn, he⟩ := fit_sl ha
  obtain ⟨hn2, he2⟩ := fit_sl hb
  refine ⟨a.len + 1, ?_⟩
  rw [f8_start]
  show _ = some [Dat.b (deq (.sl s2) a b)]
  rw [deq_sl]
  by_cases hlen : a.len = b.len
  · have c1 : ((a.len : Int) != (b.len : Int)) = false := by simp [hlen]
    have c2 : (a.len == b.len) = true := by simp [hlen]
    rw [c1, cond_false, c2, Bool.true_and]
    refine (all_loop (E := fun n j => loopE T C8 (a.len + 1) keep8 Try.f8 0 0 (behind T C8 (a.len + 1) keep8 Try.f8 [.bool] 0) n (S8_0 b a (a.len : Int) ((j : Nat) : Int))) (N := a.len) (p := fun j => deq s2 (a.fld j) (b.fld j)) (kT := some [.b true]) (kF := some [.b false]) (fun n j hj => ?_) (fun n => ?_)).trans ?_
    · have hj2 : j < b.len := by omega
      have g2 : (fit M (.sl s1) ((a.fld j).fld 2) && fit M (.sl s1) ((b.fld j).fld 2)) = true := and_both (fit_fld (he j hj) 2 rfl) (fit_fld (he2 j hj2) 2 rfl)
      show loopE T C8 (a.len + 1) keep8 Try.f8 0 0 (behind T C8 (a.len + 1) keep8 Try.f8 [.bool] 0) (n + 1) (S8_0 b a (a.len : Int) ((j : Nat) : Int)) = _
      rw [f8_round0]
      simp only [dlt hj, dlt hj2, dge, Int.toNat_natCast, g2, Bool.and_self, cond_true, wrap_succ hj hn]
      show _ = bif ((((a.fld j).fld 0).int == ((b.fld j).fld 0).int) && ((((a.fld j).fld 1).int == ((b.fld j).fld 1).int) && (deq (.sl s1) ((a.fld j).fld 2) ((b.fld j).fld 2) && true))) then loopE T C8 (a.len + 1) keep8 Try.f8 0 0 (behind T C8 (a.len + 1) keep8 Try.f8 [.bool] 0) n (S8_0 b a (a.len : Int) (((j + 1 : Nat) : Nat) : Int)) else some [Dat.b false]
      exact (ne_step (ne_step (ne_step rfl)))
    · show loopE T C8 (a.len + 1) keep8 Try.f8 0 0 (behind T C8 (a.len + 1) keep8 Try.f8 [.bool] 0) (n + 1) (S8_0 b a (a.len : Int) ((a.len : Nat) : Int)) = _
      rw [f8_round0, dnlt (Nat.lt_irrefl _)]; rfl
    · cases (List.range a.len).all fun j => deq s2 (a.fld j) (b.fld j) <;> rfl
  · have c1 : ((a.len : Int) != (b.len : Int)) = true := by simp; omega
    have c2 : (a.len == b.len) = false := by simp [hlen]
    rw [c1, cond_true, c2]; rfl

/-! laws.eqVal -/
abbrev C30 : FuncId → Option Sig := tabC []
theorem hC30 : ∀ g sg, C30 g = some sg → ConOk Try.prog g sg := tabC_nil
abbrev keep30 : Nat → List Nat := fun _ => []
theorem f30_start (K : Nat) (a : Dat) (b : Dat) : evBody T C30 noL K keep30 Try.f30 [s1, s1] [.bool] [a, b] =
      (bif (!((a.fld 0).bool == (b.fld 0).bool)) then some [(Dat.b false)] else (bif ((a.fld 1).int != (b.fld 1).int) then some [(Dat.b false)] else some [(Dat.b true)])) := by kernel_rfl
theorem con30 : ConOk Try.prog 30 (eqSig s1) := con hM hD hT hC30 keep30 Try.func30 (by kernel_rfl) (by kernel_rfl) fun ds hl hp => by
  obtain ⟨a, b, rfl⟩ := ds_two hl
  obtain ⟨ha, hb⟩ := both (show (fit M s1 a && fit M s1 b) = true from hp)
  refine ⟨0, ?_⟩
  rw [f30_start]
  show _ = some [Dat.b (((a.fld 0).bool == (b.fld 0).bool) && (((a.fld 1).int == (b.fld 1).int) && true))]
  exact (and_step (and_step rfl))


/-! laws.eqValS -/
abbrev C25 : FuncId → Option Sig := tabC [(30, eqSig s1)]
theorem hC25 : ∀ g sg, C25 g = some sg → ConOk Try.prog g sg := (tabC_cons con30 tabC_nil)
abbrev keep25 : Nat → List Nat | 0 => [0, 1, 4, 5] | _ => []
def S25_0 (x0 : Dat) (x1 : Dat) (x5 : Int) : St := ⟨[.ro s1 x0, .ro s1 x1, .u, .u, .bool false, .int .i64 x5] ++ us 21, []⟩
theorem f25_round0 (K n : Nat) (x0 : Dat) (x1 : Dat) (x5 : Int) :
    loopE T C25 K keep25 Try.f25 0 0 (behind T C25 K keep25 Try.f25 [.bool] 0) (n + 1) (S25_0 x0 x1 x5) =
      (bif decide (x5 < (x0.len : Int)) then (bif (decide (0 ≤ x5) && decide (x5 < (x0.len : Int))) then (bif (decide (0 ≤ x5) && decide (x5 < (x1.len : Int))) then (bif (fit M s1 (x0.fld x5.toNat) && fit M s1 (x1.fld x5.toNat)) then (bif (!(deq s1 (x0.fld x5.toNat) (x1.fld x5.toNat))) then some [(Dat.b false)] else loopE T C25 K keep25 Try.f25 0 0 (behind T C25 K keep25 Try.f25 [.bool] 0) n (S25_0 x0 x1 (IntKind.i64.wrap (x5 + (1 : Int))))) else none) else none) else none) else some [(Dat.b true)]) := by kernel_rfl
theorem f25_start (K : Nat) (a : Dat) (b : Dat) : evBody T C25 noL K keep25 Try.f25 [(.sl s1), (.sl s1)] [.bool] [a, b] =
      (bif ((a.len : Int) != (b.len : Int)) then some [(Dat.b false)] else loopE T C25 K keep25 Try.f25 0 0 (behind T C25 K keep25 Try.f25 [.bool] 0) K (S25_0 a b (0 : Int))) := by kernel_rfl
theorem con25 : ConOk Try.prog 25 (eqSig (.sl s1)) := con hM hD hT hC25 keep25 Try.func25 (by kernel_rfl) (by kernel_rfl) fun ds hl hp => by
  obtain ⟨a, b, rfl⟩ := ds_two hl
  obtain ⟨ha, hb⟩ := both (show (fit M (.sl s1) a && fit M (.sl s1) b) = true from hp)
  obtain ⟨hn, he⟩ := fit_sl ha
  obtain ⟨hn2, he2⟩ := fit_sl hb
  refine ⟨a.len + 1, ?_⟩
  rw [f25_start]
  show _ = some [Dat.b (deq (.sl s1) a b)]
  rw [deq_sl]
  by_cases hlen : a.len = b.len
  · have c1 : ((a.len : Int) != (b.len : Int)) = false := by simp [hlen]
    have c2 : (a.len == b.len) = true := by simp [hlen]
    rw [c1, cond_false, c2, Bool.true_and]
    refine (all_loop (E := fun n j => loopE T C25 (a.len + 1) keep25 Try.f25 0 0 (behind T C25 (a.len + 1) keep25 Try.f25 [.bool] 0) n (S25_0 a b ((j : Nat) : Int))) (N := a.len) (p := fun j => deq s1 (a.fld j) (b.fld j)) (kT := some [.b true]) (kF := some [.b false]) (fun n j hj => ?_) (fun n => ?_)).trans ?_
    · have hj2 : j < b.len := by omega
      have f1 := he j hj
      have f2 := he2 j hj2
      show loopE T C25 (a.len + 1) keep25 Try.f25 0 0 (behind T C25 (a.len + 1) keep25 Try.f25 [.bool] 0) (n + 1) (S25_0 a b ((j : Nat) : Int)) = _
      rw [f25_round0]
      simp only [dlt hj, dge, dlt hj2, Int.toNat_natCast, f1, f2, Bool.and_self, cond_true, wrap_succ hj hn]
      cases deq s1 (a.fld j) (b.fld j) <;> rfl
    · show loopE T C25 (a.len + 1) keep25 Try.f25 0 0 (behind T C25 (a.len + 1) keep25 Try.f25 [.bool] 0) (n + 1) (S25_0 a b ((a.len : Nat) : Int)) = _
      rw [f25_round0, dnlt (Nat.lt_irrefl _)]; rfl
    · cases (List.range a.len).all fun j => deq s1 (a.fld j) (b.fld j) <;> rfl
  · have c1 : ((a.len : Int) != (b.len : Int)) = true := by simp; omega
    have c2 : (a.len == b.len) = false := by simp [hlen]
    rw [c1, cond_true, c2]; rfl


/-! laws.eqObject -/
abbrev C19 : FuncId → Option Sig := tabC [(25, eqSig (.sl s1))]
theorem hC19 : ∀ g sg, C19 g = some sg → ConOk Try.prog g sg := (tabC_cons con25 tabC_nil)
abbrev keep19 : Nat → List Nat := fun _ => []
theorem f19_start (K : Nat) (a : Dat) (b : Dat) : evBody T C19 noL K keep19 Try.f19 [s2, s2] [.bool] [a, b] =
      (bif ((a.fld 0).int != (b.fld 0).int) then some [(Dat.b false)] else (bif ((a.fld 1).int != (b.fld 1).int) then some [(Dat.b false)] else (bif (fit M (.sl s1) (a.fld 2) && fit M (.sl s1) (b.fld 2)) then (bif (!(deq (.sl s1) (a.fld 2) (b.fld 2))) then some [(Dat.b false)] else some [(Dat.b true)]) else none))) := by kernel_rfl
theorem con19 : ConOk Try.prog 19 (eqSig s2) := con hM hD hT hC19 keep19 Try.func19 (by kernel_rfl) (by kernel_rfl) fun ds hl hp => by
  obtain ⟨a, b, rfl⟩ := ds_two hl
  obtain ⟨ha, hb⟩ := both (show (fit M s2 a && fit M s2 b) = true from hp)
  refine ⟨0, ?_⟩
  have h2 : (fit M (.sl s1) (a.fld 2) && fit M (.sl s1) (b.fld 2)) = true := and_both (fit_fld ha 2 rfl) (fit_fld hb 2 rfl)
  rw [f19_start]
  simp only [h2, cond_true]
  show _ = some [Dat.b (((a.fld 0).int == (b.fld 0).int) && (((a.fld 1).int == (b.fld 1).int) && (deq (.sl s1) (a.fld 2) (b.fld 2) && true)))]
  exact (and_step (and_step (and_step rfl)))


/-! laws.eqObjectS -/
abbrev C9 : FuncId → Option Sig := tabC [(19, eqSig s2)]
theorem hC9 : ∀ g sg, C9 g = some sg → ConOk Try.prog g sg := (tabC_cons con19 tabC_nil)
abbrev keep9 : Nat → List Nat | 0 => [0, 1, 4, 5] | _ => []
def S9_0 (x0 : Dat) (x1 : Dat) (x5 : Int) : St := ⟨[.ro s2 x0, .ro s2 x1, .u, .u, .bool false, .int .i64 x5] ++ us 21, []⟩
theorem f9_round0 (K n : Nat) (x0 : Dat) (x1 : Dat) (x5 : Int) :
    loopE T C9 K keep9 Try.f9 0 0 (behind T C9 K keep9 Try.f9 [.bool] 0) (n + 1) (S9_0 x0 x1 x5) =
      (bif decide (x5 < (x0.len : Int)) then (bif (decide (0 ≤ x5) && decide (x5 < (x0.len : Int))) then (bif (decide (0 ≤ x5) && decide (x5 < (x1.len : Int))) then (bif (fit M s2 (x0.fld x5.toNat) && fit M s2 (x1.fld x5.toNat)) then (bif (!(deq s2 (x0.fld x5.toNat) (x1.fld x5.toNat))) then some [(Dat.b false)] else loopE T C9 K keep9 Try.f9 0 0 (behind T C9 K keep9 Try.f9 [.bool] 0) n (S9_0 x0 x1 (IntKind.i64.wrap (x5 + (1 : Int))))) else none) else none) else none) else some [(Dat.b true)]) := by kernel_rfl
theorem f9_start (K : Nat) (a : Dat) (b : Dat) : evBody T C9 noL K keep9 Try.f9 [(.sl s2), (.sl s2)] [.bool] [a, b] =
      (bif ((a.len : Int) != (b.len : Int)) then some [(Dat.b false)] else loopE T C9 K keep9 Try.f9 0 0 (behind T C9 K keep9 Try.f9 [.bool] 0) K (S9_0 a b (0 : Int))) := by kernel_rfl
theorem con9 : ConOk Try.prog 9 (eqSig (.sl s2)) := con hM hD hT hC9 keep9 Try.func9 (by kernel_rfl) (by kernel_rfl) fun ds hl hp => by
  obtain ⟨a, b, rfl⟩ := ds_two hl
  obtain ⟨ha, hb⟩ := both (show (fit M (.sl s2) a && fit M (.sl s2) b) = true from hp)
  obtain ⟨hn, he⟩ := fit_sl ha
  obtain ⟨hn2, he2⟩ := fit_sl hb
  refine ⟨a.len + 1, ?_⟩
  rw [f9_start]
  show _ = some [Dat.b (deq (.sl s2) a b)]
  rw [deq_sl]
  by_cases hlen : a.len = b.len
  · have c1 : ((a.len : Int) != (b.len : Int)) = false := by simp [hlen]
    have c2 : (a.len == b.len) = true := by simp [hlen]
    rw [c1, cond_false, c2, Bool.true_and]
    refine (all_loop (E := fun n j => loopE T C9 (a.len + 1) keep9 Try.f9 0 0 (behind T C9 (a.len + 1) keep9 Try.f9 [.bool] 0) n (S9_0 a b ((j : Nat) : Int))) (N := a.len) (p := fun j => deq s2 (a.fld j) (b.fld j)) (kT := some [.b true]) (kF := some [.b false]) (fun n j hj => ?_) (fun n => ?_)).trans ?_
    · have hj2 : j < b.len := by omega
      have f1 := he j hj
      have f2 := he2 j hj2
      show loopE T C9 (a.len + 1) keep9 Try.f9 0 0 (behind T C9 (a.len + 1) keep9 Try.f9 [.bool] 0) (n + 1) (S9_0 a b ((j : Nat) : Int)) = _
      rw [f9_round0]
      simp only [dlt hj, dge, dlt hj2, Int.toNat_natCast, f1, f2, Bool.and_self, cond_true, wrap_succ hj hn]
      cases deq s2 (a.fld j) (b.fld j) <;> rfl
    · show loopE T C9 (a.len + 1) keep9 Try.f9 0 0 (behind T C9 (a.len + 1) keep9 Try.f9 [.bool] 0) (n + 1) (S9_0 a b ((a.len : Nat) : Int)) = _
      rw [f9_round0, dnlt (Nat.lt_irrefl _)]; rfl
    · cases (List.range a.len).all fun j => deq s2 (a.fld j) (b.fld j) <;> rfl
  · have c1 : ((a.len : Int) != (b.len : Int)) = true := by simp; omega
    have c2 : (a.len == b.len) = false := by simp [hlen]
    rw [c1, cond_true, c2]; rfl


/-! laws.FnExactSameObjects -/
abbrev C3 : FuncId → Option Sig := tabC [(5, szSig (.sl s2)), (7, toSig (.sl s2) (.sl s2)), (6, eqSig (.sl s2)), (8, eqSig (.sl s2)), (9, eqSig (.sl s2))]
theorem hC3 : ∀ g sg, C3 g = some sg → ConOk Try.prog g sg := (tabC_cons con5 (tabC_cons con7 (tabC_cons con6 (tabC_cons con8 (tabC_cons con9 tabC_nil)))))
abbrev keep3 : Nat → List Nat := fun _ => []
theorem f3_start (K : Nat) (a : Dat) (b : Dat) : evBody T C3 noL K keep3 Try.f3 [(.sl s2), (.sl s2)] [.bool] [a, b] =
      (bif (fit M (.sl s2) a && (decide (0 ≤ (1048576 : Int)) && decide ((1048576 : Int) ≤ 1048576))) then (bif decide ((szR (.sl s2) a (1048576 : Int)) < (0 : Int)) then some [(Dat.b true)] else (bif (fit M (.sl s2) b && (decide (0 ≤ (szR (.sl s2) a (1048576 : Int))) && decide ((szR (.sl s2) a (1048576 : Int)) ≤ 1048576))) then (bif decide ((szR (.sl s2) b (szR (.sl s2) a (1048576 : Int))) < (0 : Int)) then some [(Dat.b true)] else (bif fit 1048576 (.sl s2) a then (bif fit 1048576 (.sl s2) b then (bif (fit M (.sl s2) (can (.sl s2) a) && fit M (.sl s2) (can (.sl s2) b)) then (bif fit 1048576 (.sl s2) a then (bif fit 1048576 (.sl s2) b then (bif (fit M (.sl s2) (can (.sl s2) a) && fit M (.sl s2) (can (.sl s2) b)) then (bif (!((deq (.sl s2) (can (.sl s2) a) (can (.sl s2) b)) == (deq (.sl s2) (can (.sl s2) a) (can (.sl s2) b)))) then some [(Dat.b false)] else (bif fit 1048576 (.sl s2) a then (bif (fit M (.sl s2) (can (.sl s2) a) && fit M (.sl s2) (can (.sl s2) a)) then (bif (!(deq (.sl s2) (can (.sl s2) a) (can (.sl s2) a))) then some [(Dat.b false)] else (bif fit 1048576 (.sl s2) b then (bif (fit M (.sl s2) (can (.sl s2) b) && fit M (.sl s2) (can (.sl s2) b)) then (bif (!(deq (.sl s2) (can (.sl s2) b) (can (.sl s2) b))) then some [(Dat.b false)] else some [(Dat.b true)]) else none) else none)) else none) else none)) else none) else none) else none) else none) else none) else none)) else none)) else none) := by kernel_rfl
theorem con3 : ConOk Try.prog 3 (lawSig [.sl s2, .sl s2]) := con hM hD hT hC3 keep3 Try.func3 (by kernel_rfl) (by kernel_rfl) fun ds hl hp => by
  obtain ⟨a, b, rfl⟩ := ds_two hl
  obtain ⟨ha, hb0⟩ := both (show (fit M (.sl s2) a && (fit M (.sl s2) b && true)) = true from hp)
  obtain ⟨hb, _⟩ := both hb0
  refine ⟨0, ?_⟩
  show _ = some [Dat.b true]
  rw [f3_start, sz_arg ha (by omega) (by omega), cond_true]
  by_cases n1 : szR (.sl s2) a 1048576 < 0
  · rw [decide_eq_true n1]; rfl
  · have q1 := sz_ok n1
    rw [decide_eq_false n1, cond_false, sz_arg hb q1.2.1 q1.2.2, cond_true]
    by_cases n2 : szR (.sl s2) b (szR (.sl s2) a 1048576) < 0
    · rw [decide_eq_true n2]; rfl
    · rw [decide_eq_false n2, cond_false]
      simp only [fit_of_sz ha n1 (by omega), fit_of_sz hb n2 q1.2.2, fitM_can ha, fitM_can hb, deq_refl, Bool.and_self, cond_true, beq_self_eq_true, Bool.not_true, cond_false]

/-! laws.szFrame -/
abbrev C26 : FuncId → Option Sig := tabC [(23, szSig (.sl s1))]
theorem hC26 : ∀ g sg, C26 g = some sg → ConOk Try.prog g sg := (tabC_cons con23 tabC_nil)
abbrev keep26 : Nat → List Nat := fun _ => []
theorem f26_start (K : Nat) (a : Dat) (l : Dat) : evBody T C26 noL K keep26 Try.f26 [s3, tInt] [tInt] [a, l] =
      (bif (fit M (.sl s1) (a.fld 3) && (decide (0 ≤ l.int) && decide (l.int ≤ 1048576))) then (bif decide ((szR (.sl s1) (a.fld 3) l.int) < (0 : Int)) then some [(Dat.i (-1 : Int))] else (bif (fit M (.sl s1) (a.fld 4) && (decide (0 ≤ (szR (.sl s1) (a.fld 3) l.int)) && decide ((szR (.sl s1) (a.fld 3) l.int) ≤ 1048576))) then (bif decide ((szR (.sl s1) (a.fld 4) (szR (.sl s1) (a.fld 3) l.int)) < (0 : Int)) then some [(Dat.i (-1 : Int))] else some [(Dat.i (szR (.sl s1) (a.fld 4) (szR (.sl s1) (a.fld 3) l.int)))]) else none)) else none) := by kernel_rfl
theorem con26 : ConOk Try.prog 26 (szSig s3) := con hM hD hT hC26 keep26 Try.func26 (by kernel_rfl) (by kernel_rfl) fun ds hl hp => by
  obtain ⟨a, l, rfl⟩ := ds_two hl
  obtain ⟨ha, h0, h1⟩ := sz_pre (show (fit M s3 a && (decide (0 ≤ l.int) && decide (l.int ≤ 1048576))) = true from hp)
  refine ⟨0, ?_⟩
  have k4 : fit M (.sl s1) (a.fld 4) = true := fit_fld ha 4 rfl
  have k3 : fit M (.sl s1) (a.fld 3) = true := fit_fld ha 3 rfl
  have hw : wt s3 a = (wt (.sl s1) (a.fld 3) + (wt (.sl s1) (a.fld 4) + 0)) := by
    simp only [wt_st, wts_cons, wts_nil, wt_int, Nat.zero_add, Nat.add_zero]
  show _ = some [Dat.i (szr (wt s3 a) l.int)]
  rw [f26_start, hw]
  exact sz_call k3 h0 h1 (fun l0 p0 q0 => sz_call k4 p0 q0 (fun l1 p1 q1 => (by rw [szr_zero p1])))


/-! laws.szFrameS -/
abbrev C20 : FuncId → Option Sig := tabC [(26, szSig s3)]
theorem hC20 : ∀ g sg, C20 g = some sg → ConOk Try.prog g sg := (tabC_cons con26 tabC_nil)
abbrev keep20 : Nat → List Nat | 0 => [0, 1, 4, 5] | _ => []
def S20_0 (x0 : Dat) (x1 : Int) (x5 : Int) : St := ⟨[.ro s3 x0, .int .i64 x1, .u, .u, .int .i64 (0 : Int), .int .i64 x5] ++ us 21, []⟩
theorem f20_round0 (K n : Nat) (x0 : Dat) (x1 : Int) (x5 : Int) :
    loopE T C20 K keep20 Try.f20 0 0 (behind T C20 K keep20 Try.f20 [tInt] 0) (n + 1) (S20_0 x0 x1 x5) =
      (bif decide (x5 < (x0.len : Int)) then (bif (decide (0 ≤ x5) && decide (x5 < (x0.len : Int))) then (bif (fit M s3 (x0.fld x5.toNat) && (decide (0 ≤ x1) && decide (x1 ≤ 1048576))) then (bif decide ((szR s3 (x0.fld x5.toNat) x1) < (0 : Int)) then some [(Dat.i (-1 : Int))] else loopE T C20 K keep20 Try.f20 0 0 (behind T C20 K keep20 Try.f20 [tInt] 0) n (S20_0 x0 (szR s3 (x0.fld x5.toNat) x1) (IntKind.i64.wrap (x5 + (1 : Int))))) else none) else none) else some [(Dat.i x1)]) := by kernel_rfl
theorem f20_start (K : Nat) (a : Dat) (l : Dat) : evBody T C20 noL K keep20 Try.f20 [(.sl s3), tInt] [tInt] [a, l] =
      (bif decide ((IntKind.i64.wrap (l.int - (a.len : Int))) < (0 : Int)) then some [(Dat.i (-1 : Int))] else loopE T C20 K keep20 Try.f20 0 0 (behind T C20 K keep20 Try.f20 [tInt] 0) K (S20_0 a (IntKind.i64.wrap (l.int - (a.len : Int))) (0 : Int))) := by kernel_rfl
theorem con20 : ConOk Try.prog 20 (szSig (.sl s3)) := con hM hD hT hC20 keep20 Try.func20 (by kernel_rfl) (by kernel_rfl) fun ds hl hp => by
  obtain ⟨a, l, rfl⟩ := ds_two hl
  obtain ⟨ha, h0, h1⟩ := sz_pre (show (fit M (.sl s3) a && (decide (0 ≤ l.int) && decide (l.int ≤ 1048576))) = true from hp)
  obtain ⟨hn, he⟩ := fit_sl ha
  refine ⟨a.len + 1, ?_⟩
  show _ = some [Dat.i (szr (wt (.sl s3) a) l.int)]
  rw [wt_sl]
  rw [f20_start]
  refine sz_len (k := fun l' => loopE T C20 (a.len + 1) keep20 Try.f20 0 0 (behind T C20 (a.len + 1) keep20 Try.f20 [tInt] 0) (a.len + 1) (S20_0 a l' 0)) hn h0 h1 fun l' p0 p1 => ?_
  exact sz_loop (E := fun n j l => loopE T C20 (a.len + 1) keep20 Try.f20 0 0 (behind T C20 (a.len + 1) keep20 Try.f20 [tInt] 0) n (S20_0 a l (j : Int))) (N := a.len) (g := fun j => wt s3 (a.fld j)) (fun n j l hj q0 q1 => by
    have f1 := he j hj
    have e1 : decide (0 ≤ l) = true := by simpa using q0
    have e2 : decide (l ≤ 1048576) = true := by simpa using q1
    show loopE T C20 (a.len + 1) keep20 Try.f20 0 0 (behind T C20 (a.len + 1) keep20 Try.f20 [tInt] 0) (n + 1) (S20_0 a l (j : Int)) = _
    rw [f20_round0]
    simp only [dlt hj, dge, Int.toNat_natCast, f1, e1, e2, Bool.and_self, cond_true, wrap_succ hj hn]
    rfl)
    (fun n l => by
    show loopE T C20 (a.len + 1) keep20 Try.f20 0 0 (behind T C20 (a.len + 1) keep20 Try.f20 [tInt] 0) (n + 1) (S20_0 a l (a.len : Int)) = _
    rw [f20_round0, dnlt (Nat.lt_irrefl _)]; rfl) l' p0 p1


/-! laws.szThread -/
abbrev C10 : FuncId → Option Sig := tabC [(20, szSig (.sl s3))]
theorem hC10 : ∀ g sg, C10 g = some sg → ConOk Try.prog g sg := (tabC_cons con20 tabC_nil)
abbrev keep10 : Nat → List Nat := fun _ => []
theorem f10_start (K : Nat) (a : Dat) (l : Dat) : evBody T C10 noL K keep10 Try.f10 [s4, tInt] [tInt] [a, l] =
      (bif (fit M (.sl s3) (a.fld 1) && (decide (0 ≤ l.int) && decide (l.int ≤ 1048576))) then (bif decide ((szR (.sl s3) (a.fld 1) l.int) < (0 : Int)) then some [(Dat.i (-1 : Int))] else some [(Dat.i (szR (.sl s3) (a.fld 1) l.int))]) else none) := by kernel_rfl
theorem con10 : ConOk Try.prog 10 (szSig s4) := con hM hD hT hC10 keep10 Try.func10 (by kernel_rfl) (by kernel_rfl) fun ds hl hp => by
  obtain ⟨a, l, rfl⟩ := ds_two hl
  obtain ⟨ha, h0, h1⟩ := sz_pre (show (fit M s4 a && (decide (0 ≤ l.int) && decide (l.int ≤ 1048576))) = true from hp)
  refine ⟨0, ?_⟩
  have k1 : fit M (.sl s3) (a.fld 1) = true := fit_fld ha 1 rfl
  have hw : wt s4 a = (wt (.sl s3) (a.fld 1) + 0) := by
    simp only [wt_st, wts_cons, wts_nil, wt_int, Nat.zero_add, Nat.add_zero]
  show _ = some [Dat.i (szr (wt s4 a) l.int)]
  rw [f10_start, hw]
  exact sz_call k1 h0 h1 (fun l0 p0 q0 => (by rw [szr_zero p0]))


/-! laws.toFrame -/
abbrev C27 : FuncId → Option Sig := tabC [(24, toSig (.sl s1) (.sl s1))]
theorem hC27 : ∀ g sg, C27 g = some sg → ConOk Try.prog g sg := (tabC_cons con24 tabC_nil)
abbrev keep27 : Nat → List Nat := fun _ => []
theorem f27_start (K : Nat) (a : Dat) : evBody T C27 noL K keep27 Try.f27 [s3] [s3] [a] =
      (bif fit 1048576 (.sl s1) (a.fld 3) then (bif fit 1048576 (.sl s1) (a.fld 4) then some [(Dat.n [(Dat.i ((a.fld 0).int)), (Dat.i ((a.fld 1).int)), (Dat.i ((a.fld 2).int)), (Dat.n ((can (.sl s1) (a.fld 3)).kids)), (Dat.n ((can (.sl s1) (a.fld 4)).kids))])] else none) else none) := by kernel_rfl
theorem con27 : ConOk Try.prog 27 (toSig s3 s3) := con hM hD hT hC27 keep27 Try.func27 (by kernel_rfl) (by kernel_rfl) fun ds hl hp => by
  obtain ⟨a, rfl⟩ := ds_one hl
  replace hp : fit 1048576 s3 a = true := hp
  refine ⟨0, ?_⟩
  have h3 : fit 1048576 (.sl s1) (a.fld 3) = true := fit_fld hp 3 rfl
  have h4 : fit 1048576 (.sl s1) (a.fld 4) = true := fit_fld hp 4 rfl
  rw [f27_start]
  simp only [h3, h4, cond_true]
  rfl


/-! laws.toFrameS -/
abbrev C21 : FuncId → Option Sig := tabC [(27, toSig s3 s3)]
theorem hC21 : ∀ g sg, C21 g = some sg → ConOk Try.prog g sg := (tabC_cons con27 tabC_nil)
abbrev keep21 : Nat → List Nat | 0 => [0, 3, 4] | _ => []
def S21_0 (x0 : Dat) (x4 : Int) (l0 : (List Dat)) : St := ⟨[.ro s3 x0, .u, .u, .hd 0, .int .i64 x4] ++ us 18, [.arr s3 l0]⟩
theorem f21_round0 (K n : Nat) (x0 : Dat) (x4 : Int) (l0 : (List Dat)) :
    loopE T C21 K keep21 Try.f21 0 0 (behind T C21 K keep21 Try.f21 [(.sl s3)] 0) (n + 1) (S21_0 x0 x4 l0) =
      (bif decide (x4 < (x0.len : Int)) then (bif (decide (0 ≤ x4) && decide (x4 < (x0.len : Int))) then (bif fit 1048576 s3 (x0.fld x4.toNat) then (bif (decide (0 ≤ x4) && decide (x4 < (l0.length : Int))) then loopE T C21 K keep21 Try.f21 0 0 (behind T C21 K keep21 Try.f21 [(.sl s3)] 0) n (S21_0 x0 (IntKind.i64.wrap (x4 + (1 : Int))) (l0.set x4.toNat (can s3 (x0.fld x4.toNat)))) else none) else none) else none) else some [(Dat.n l0)]) := by kernel_rfl
theorem f21_start (K : Nat) (a : Dat) : evBody T C21 noL K keep21 Try.f21 [(.sl s3)] [(.sl s3)] [a] =
      (bif (decide (0 ≤ (a.len : Int)) && (decide ((a.len : Int) ≤ 4294967296) && decide ((a.len : Int) = (a.len : Int)))) then loopE T C21 K keep21 Try.f21 0 0 (behind T C21 K keep21 Try.f21 [(.sl s3)] 0) K (S21_0 a (0 : Int) (List.replicate (a.len : Int).toNat (zeroD s3))) else none) := by kernel_rfl
theorem con21 : ConOk Try.prog 21 (toSig (.sl s3) (.sl s3)) := con hM hD hT hC21 keep21 Try.func21 (by kernel_rfl) (by kernel_rfl) fun ds hl hp => by
  obtain ⟨a, rfl⟩ := ds_one hl
  replace hp : fit 1048576 (.sl s3) a = true := hp
  obtain ⟨hn, he⟩ := fit_sl hp
  refine ⟨a.len + 1, ?_⟩
  have c1 : (decide (0 ≤ (a.len : Int)) && (decide ((a.len : Int) ≤ 4294967296) && decide ((a.len : Int) = (a.len : Int)))) = true := by simp; omega
  rw [f21_start, c1, cond_true, Int.toNat_natCast]
  refine (fill_loop (E := fun n j l => loopE T C21 (a.len + 1) keep21 Try.f21 0 0 (behind T C21 (a.len + 1) keep21 Try.f21 [(.sl s3)] 0) n (S21_0 a (j : Int) l)) (N := a.len) (g := fun j => can s3 (a.fld j)) (fin := fun l => some [Dat.n l]) (zeroD s3) (fun n j l hj hlen => ?_) (fun n l _ => ?_)).trans ?_
  · have f1 := he j hj
    have hj2 : j < l.length := by omega
    show loopE T C21 (a.len + 1) keep21 Try.f21 0 0 (behind T C21 (a.len + 1) keep21 Try.f21 [(.sl s3)] 0) (n + 1) (S21_0 a (j : Int) l) = _
    rw [f21_round0]
    simp only [dlt hj, dge, dlt hj2, Int.toNat_natCast, f1, Bool.and_self, cond_true, wrap_succ hj (by unfold M; omega)]
    try rfl
  · show loopE T C21 (a.len + 1) keep21 Try.f21 0 0 (behind T C21 (a.len + 1) keep21 Try.f21 [(.sl s3)] 0) (n + 1) (S21_0 a (a.len : Int) l) = _
    rw [f21_round0, dnlt (Nat.lt_irrefl _)]; rfl
  · show _ = some [can (.sl s3) a]
    rw [kids_can]


/-! laws.toThread -/
abbrev C12 : FuncId → Option Sig := tabC [(21, toSig (.sl s3) (.sl s3))]
theorem hC12 : ∀ g sg, C12 g = some sg → ConOk Try.prog g sg := (tabC_cons con21 tabC_nil)
abbrev keep12 : Nat → List Nat := fun _ => []
theorem f12_start (K : Nat) (a : Dat) : evBody T C12 noL K keep12 Try.f12 [s4] [s4] [a] =
      (bif fit 1048576 (.sl s3) (a.fld 1) then some [(Dat.n [(Dat.i ((a.fld 0).int)), (Dat.n ((can (.sl s3) (a.fld 1)).kids)), (Dat.i ((a.fld 2).int)), (Dat.i ((a.fld 3).int))])] else none) := by kernel_rfl
theorem con12 : ConOk Try.prog 12 (toSig s4 s4) := con hM hD hT hC12 keep12 Try.func12 (by kernel_rfl) (by kernel_rfl) fun ds hl hp => by
  obtain ⟨a, rfl⟩ := ds_one hl
  replace hp : fit 1048576 s4 a = true := hp
  refine ⟨0, ?_⟩
  have h1 : fit 1048576 (.sl s3) (a.fld 1) = true := fit_fld hp 1 rfl
  rw [f12_start]
  simp only [h1, cond_true]
  rfl


/-! spec.SameThread -/
abbrev C11 : FuncId → Option Sig := tabC [(16, eqSig (.sl s1))]
theorem hC11 : ∀ g sg, C11 g = some sg → ConOk Try.prog g sg := (tabC_cons con16 tabC_nil)
abbrev keep11 : Nat → List Nat | 0 => [2, 3, 4, 5] | _ => []
def S11_0 (x5 : Int) (y0_0 : Int) (y0_1 : Dat) (y0_2 : Int) (y0_3 : Int) (y1_0 : Int) (y1_1 : Dat) (y1_2 : Int) (y1_3 : Int) : St := ⟨[.u, .u, .pt 0 [] 0, .pt 1 [] 0, .bool false, .int .i64 x5] ++ us 82, [.box (.st [.int .i64 y0_0, .ro s3 y0_1, .int .i64 y0_2, .int .i64 y0_3]), .box (.st [.int .i64 y1_0, .ro s3 y1_1, .int .i64 y1_2, .int .i64 y1_3])]⟩
theorem f11_round0 (K n : Nat) (x5 : Int) (y0_0 : Int) (y0_1 : Dat) (y0_2 : Int) (y0_3 : Int) (y1_0 : Int) (y1_1 : Dat) (y1_2 : Int) (y1_3 : Int) :
    loopE T C11 K keep11 Try.f11 0 0 (behind T C11 K keep11 Try.f11 [.bool] 0) (n + 1) (S11_0 x5 y0_0 y0_1 y0_2 y0_3 y1_0 y1_1 y1_2 y1_3) =
      (bif decide (x5 < (y0_1.len : Int)) then (bif (decide (0 ≤ x5) && decide (x5 < (y0_1.len : Int))) then (bif (decide (0 ≤ x5) && decide (x5 < (y1_1.len : Int))) then (bif (((y0_1.fld x5.toNat).fld 0).int != ((y1_1.fld x5.toNat).fld 0).int) then some [(Dat.b false)] else (bif (((y0_1.fld x5.toNat).fld 1).int != ((y1_1.fld x5.toNat).fld 1).int) then some [(Dat.b false)] else (bif (((y0_1.fld x5.toNat).fld 2).int != ((y1_1.fld x5.toNat).fld 2).int) then some [(Dat.b false)] else (bif (fit M (.sl s1) ((y0_1.fld x5.toNat).fld 3) && fit M (.sl s1) ((y1_1.fld x5.toNat).fld 3)) then (bif (!(deq (.sl s1) ((y0_1.fld x5.toNat).fld 3) ((y1_1.fld x5.toNat).fld 3))) then some [(Dat.b false)] else (bif (fit M (.sl s1) ((y0_1.fld x5.toNat).fld 4) && fit M (.sl s1) ((y1_1.fld x5.toNat).fld 4)) then (bif (!(deq (.sl s1) ((y0_1.fld x5.toNat).fld 4) ((y1_1.fld x5.toNat).fld 4))) then some [(Dat.b false)] else loopE T C11 K keep11 Try.f11 0 0 (behind T C11 K keep11 Try.f11 [.bool] 0) n (S11_0 (IntKind.i64.wrap (x5 + (1 : Int))) y0_0 y0_1 y0_2 y0_3 y1_0 y1_1 y1_2 y1_3)) else none)) else none)))) else none) else none) else some [(Dat.b true)]) := by kernel_rfl
theorem f11_start (K : Nat) (a : Dat) (b : Dat) : evBody T C11 noL K keep11 Try.f11 [s4, s4] [.bool] [a, b] =
      (bif ((a.fld 0).int != (b.fld 0).int) then some [(Dat.b false)] else (bif ((a.fld 2).int != (b.fld 2).int) then some [(Dat.b false)] else (bif ((a.fld 3).int != (b.fld 3).int) then some [(Dat.b false)] else (bif (((a.fld 1).len : Int) != ((b.fld 1).len : Int)) then some [(Dat.b false)] else loopE T C11 K keep11 Try.f11 0 0 (behind T C11 K keep11 Try.f11 [.bool] 0) K (S11_0 (0 : Int) ((a.fld 0).int) (a.fld 1) ((a.fld 2).int) ((a.fld 3).int) ((b.fld 0).int) (b.fld 1) ((b.fld 2).int) ((b.fld 3).int)))))) := by kernel_rfl
theorem con11 : ConOk Try.prog 11 (eqSig s4) := con hM hD hT hC11 keep11 Try.func11 (by kernel_rfl) (by kernel_rfl) fun ds hl hp => by
  obtain ⟨a, b, rfl⟩ := ds_two hl
  obtain ⟨ha, hb⟩ := both (show (fit M s4 a && fit M s4 b) = true from hp)
  obtain ⟨hn, he⟩ := fit_sl (show fit M (.sl s3) (a.fld 1) = true from fit_fld ha 1 rfl)
  obtain ⟨hn2, he2⟩ := fit_sl (show fit M (.sl s3) (b.fld 1) = true from fit_fld hb 1 rfl)
  refine ⟨(a.fld 1).len + 1, ?_⟩
  rw [f11_start]
  show _ = some [Dat.b (((a.fld 0).int == (b.fld 0).int) && (deq (.sl s3) (a.fld 1) (b.fld 1) && (((a.fld 2).int == (b.fld 2).int) && (((a.fld 3).int == (b.fld 3).int) && true))))]
  rw [deq_sl]
  by_cases hlen : (a.fld 1).len = (b.fld 1).len
  · have c1 : (((a.fld 1).len : Int) != ((b.fld 1).len : Int)) = false := by simp [hlen]
    have c2 : ((a.fld 1).len == (b.fld 1).len) = true := by simp [hlen]
    have hloop : loopE T C11 ((a.fld 1).len + 1) keep11 Try.f11 0 0 (behind T C11 ((a.fld 1).len + 1) keep11 Try.f11 [.bool] 0) ((a.fld 1).len + 1) (S11_0 ((0 : Nat) : Int) ((a.fld 0).int) (a.fld 1) ((a.fld 2).int) ((a.fld 3).int) ((b.fld 0).int) (b.fld 1) ((b.fld 2).int) ((b.fld 3).int)) = bif (List.range (a.fld 1).len).all (fun j => deq s3 ((a.fld 1).fld j) ((b.fld 1).fld j)) then some [Dat.b true] else some [Dat.b false] := by
      refine (all_loop (E := fun n j => loopE T C11 ((a.fld 1).len + 1) keep11 Try.f11 0 0 (behind T C11 ((a.fld 1).len + 1) keep11 Try.f11 [.bool] 0) n (S11_0 ((j : Nat) : Int) ((a.fld 0).int) (a.fld 1) ((a.fld 2).int) ((a.fld 3).int) ((b.fld 0).int) (b.fld 1) ((b.fld 2).int) ((b.fld 3).int))) (N := (a.fld 1).len) (p := (fun j => deq s3 ((a.fld 1).fld j) ((b.fld 1).fld j))) (kT := some [.b true]) (kF := some [.b false]) (fun n j hj => ?_) (fun n => ?_))
      · have hj2 : j < (b.fld 1).len := by omega
        have g3 : (fit M (.sl s1) (((a.fld 1).fld j).fld 3) && fit M (.sl s1) (((b.fld 1).fld j).fld 3)) = true := and_both (fit_fld (he j hj) 3 rfl) (fit_fld (he2 j hj2) 3 rfl)
        have g4 : (fit M (.sl s1) (((a.fld 1).fld j).fld 4) && fit M (.sl s1) (((b.fld 1).fld j).fld 4)) = true := and_both (fit_fld (he j hj) 4 rfl) (fit_fld (he2 j hj2) 4 rfl)
        show loopE T C11 ((a.fld 1).len + 1) keep11 Try.f11 0 0 (behind T C11 ((a.fld 1).len + 1) keep11 Try.f11 [.bool] 0) (n + 1) (S11_0 ((j : Nat) : Int) ((a.fld 0).int) (a.fld 1) ((a.fld 2).int) ((a.fld 3).int) ((b.fld 0).int) (b.fld 1) ((b.fld 2).int) ((b.fld 3).int)) = _
        rw [f11_round0]
        simp only [dlt hj, dlt hj2, dge, Int.toNat_natCast, g3, g4, Bool.and_self, cond_true, wrap_succ hj hn]
        show _ = bif (((((a.fld 1).fld j).fld 0).int == (((b.fld 1).fld j).fld 0).int) && (((((a.fld 1).fld j).fld 1).int == (((b.fld 1).fld j).fld 1).int) && (((((a.fld 1).fld j).fld 2).int == (((b.fld 1).fld j).fld 2).int) && (deq (.sl s1) (((a.fld 1).fld j).fld 3) (((b.fld 1).fld j).fld 3) && (deq (.sl s1) (((a.fld 1).fld j).fld 4) (((b.fld 1).fld j).fld 4) && true))))) then loopE T C11 ((a.fld 1).len + 1) keep11 Try.f11 0 0 (behind T C11 ((a.fld 1).len + 1) keep11 Try.f11 [.bool] 0) n (S11_0 (((j + 1 : Nat) : Nat) : Int) ((a.fld 0).int) (a.fld 1) ((a.fld 2).int) ((a.fld 3).int) ((b.fld 0).int) (b.fld 1) ((b.fld 2).int) ((b.fld 3).int)) else some [Dat.b false]
        exact (ne_step (ne_step (ne_step (ne_step (ne_step rfl)))))
      · show loopE T C11 ((a.fld 1).len + 1) keep11 Try.f11 0 0 (behind T C11 ((a.fld 1).len + 1) keep11 Try.f11 [.bool] 0) (n + 1) (S11_0 (((a.fld 1).len : Nat) : Int) ((a.fld 0).int) (a.fld 1) ((a.fld 2).int) ((a.fld 3).int) ((b.fld 0).int) (b.fld 1) ((b.fld 2).int) ((b.fld 3).int)) = _
        rw [f11_round0, dnlt (Nat.lt_irrefl _)]; rfl
    rw [c1, cond_false, c2, Bool.true_and]
    refine (congrArg (fun z => bif (a.fld 0).int != (b.fld 0).int then some [Dat.b false] else bif (a.fld 2).int != (b.fld 2).int then some [Dat.b false] else bif (a.fld 3).int != (b.fld 3).int then some [Dat.b false] else z) hloop).trans ?_
    simp only [bne]
    cases (a.fld 0).int == (b.fld 0).int <;> cases (a.fld 2).int == (b.fld 2).int <;> cases (a.fld 3).int == (b.fld 3).int <;> cases (List.range (a.fld 1).len).all (fun j => deq s3 ((a.fld 1).fld j) ((b.fld 1).fld j)) <;> rfl
  · have c1 : (((a.fld 1).len : Int) != ((b.fld 1).len : Int)) = true := by simp; omega
    have c2 : ((a.fld 1).len == (b.fld 1).len) = false := by simp [hlen]
    rw [c1, cond_true, c2]
    simp only [bne]
    cases (a.fld 0).int == (b.fld 0).int <;> cases (a.fld 2).int == (b.fld 2).int <;> cases (a.fld 3).int == (b.fld 3).int <;> rfl

/-! impl.SameThread -/
abbrev C13 : FuncId → Option Sig := tabC [(18, eqSig (.sl s1))]
theorem hC13 : ∀ g sg, C13 g = some sg → ConOk Try.prog g sg := (tabC_cons con18 tabC_nil)
abbrev keep13 : Nat → List Nat | 0 => [3, 4, 37, 38, 39] | _ => []
def S13_0 (x37 : Dat) (x38 : Int) (x39 : Int) (y0_0 : Int) (y0_1 : Dat) (y0_2 : Int) (y0_3 : Int) : St := ⟨[.u, .u, .u, .pt 0 [] 0, .bool false] ++ us 32 ++ [.ro s3 x37, .int .i64 x38, .int .i64 x39] ++ us 45, [.box (.st [.int .i64 y0_0, .ro s3 y0_1, .int .i64 y0_2, .int .i64 y0_3])]⟩
theorem f13_round0 (K n : Nat) (x37 : Dat) (x38 : Int) (x39 : Int) (y0_0 : Int) (y0_1 : Dat) (y0_2 : Int) (y0_3 : Int) :
    loopE T C13 K keep13 Try.f13 0 0 (behind T C13 K keep13 Try.f13 [.bool] 0) (n + 1) (S13_0 x37 x38 x39 y0_0 y0_1 y0_2 y0_3) =
      (bif decide (x39 < x38) then (bif (decide (0 ≤ x39) && decide (x39 < (x37.len : Int))) then (bif (decide (0 ≤ x39) && decide (x39 < (y0_1.len : Int))) then (bif (((x37.fld x39.toNat).fld 0).int != ((y0_1.fld x39.toNat).fld 0).int) then some [(Dat.b false)] else (bif (((x37.fld x39.toNat).fld 1).int != ((y0_1.fld x39.toNat).fld 1).int) then some [(Dat.b false)] else (bif (((x37.fld x39.toNat).fld 2).int != ((y0_1.fld x39.toNat).fld 2).int) then some [(Dat.b false)] else (bif (fit M (.sl s1) ((x37.fld x39.toNat).fld 3) && fit M (.sl s1) ((y0_1.fld x39.toNat).fld 3)) then (bif (!(deq (.sl s1) ((x37.fld x39.toNat).fld 3) ((y0_1.fld x39.toNat).fld 3))) then some [(Dat.b false)] else (bif (fit M (.sl s1) ((x37.fld x39.toNat).fld 4) && fit M (.sl s1) ((y0_1.fld x39.toNat).fld 4)) then (bif (!(deq (.sl s1) ((x37.fld x39.toNat).fld 4) ((y0_1.fld x39.toNat).fld 4))) then some [(Dat.b false)] else loopE T C13 K keep13 Try.f13 0 0 (behind T C13 K keep13 Try.f13 [.bool] 0) n (S13_0 x37 x38 (IntKind.i64.wrap (x39 + (1 : Int))) y0_0 y0_1 y0_2 y0_3)) else none)) else none)))) else none) else none) else some [(Dat.b true)]) := by kernel_rfl
theorem f13_start (K : Nat) (a : Dat) (b : Dat) : evBody T C13 noL K keep13 Try.f13 [s4, s4] [.bool] [a, b] =
      (bif ((a.fld 0).int != (b.fld 0).int) then some [(Dat.b false)] else (bif ((a.fld 2).int != (b.fld 2).int) then some [(Dat.b false)] else (bif ((a.fld 3).int != (b.fld 3).int) then some [(Dat.b false)] else (bif (((a.fld 1).len : Int) != ((b.fld 1).len : Int)) then some [(Dat.b false)] else loopE T C13 K keep13 Try.f13 0 0 (behind T C13 K keep13 Try.f13 [.bool] 0) K (S13_0 (a.fld 1) ((a.fld 1).len : Int) (0 : Int) ((b.fld 0).int) (b.fld 1) ((b.fld 2).int) ((b.fld 3).int)))))) := by kernel_rfl
theorem con13 : ConOk Try.prog 13 (eqSig s4) := con hM hD hT hC13 keep13 Try.func13 (by kernel_rfl) (by kernel_rfl) fun ds hl hp => by
  obtain ⟨a, b, rfl⟩ := ds_two hl
  obtain ⟨ha, hb⟩ := both (show (fit M s4 a && fit M s4 b) = true from hp)
  obtain ⟨hn, he⟩ := fit_sl (show fit M (.sl s3) (a.fld 1) = true from fit_fld ha 1 rfl)
  obtain ⟨hn2, he2⟩ := fit_sl (show fit M (.sl s3) (b.fld 1) = true from fit_fld hb 1 rfl)
  refine ⟨(a.fld 1).len + 1, ?_⟩
  rw [f13_start]
  show _ = some [Dat.b (((a.fld 0).int == (b.fld 0).int) && (deq (.sl s3) (a.fld 1) (b.fld 1) && (((a.fld 2).int == (b.fld 2).int) && (((a.fld 3).int == (b.fld 3).int) && true))))]
  rw [deq_sl]
  by_cases hlen : (a.fld 1).len = (b.fld 1).len
  · have c1 : (((a.fld 1).len : Int) != ((b.fld 1).len : Int)) = false := by simp [hlen]
    have c2 : ((a.fld 1).len == (b.fld 1).len) = true := by simp [hlen]
    have hloop : loopE T C13 ((a.fld 1).len + 1) keep13 Try.f13 0 0 (behind T C13 ((a.fld 1).len + 1) keep13 Try.f13 [.bool] 0) ((a.fld 1).len + 1) (S13_0 (a.fld 1) ((a.fld 1).len : Int) ((0 : Nat) : Int) ((b.fld 0).int) (b.fld 1) ((b.fld 2).int) ((b.fld 3).int)) = bif (List.range (a.fld 1).len).all (fun j => deq s3 ((a.fld 1).fld j) ((b.fld 1).fld j)) then some [Dat.b true] else some [Dat.b false] := by
      refine (all_loop (E := fun n j => loopE T C13 ((a.fld 1).len + 1) keep13 Try.f13 0 0 (behind T C13 ((a.fld 1).len + 1) keep13 Try.f13 [.bool] 0) n (S13_0 (a.fld 1) ((a.fld 1).len : Int) ((j : Nat) : Int) ((b.fld 0).int) (b.fld 1) ((b.fld 2).int) ((b.fld 3).int))) (N := (a.fld 1).len) (p := (fun j => deq s3 ((a.fld 1).fld j) ((b.fld 1).fld j))) (kT := some [.b true]) (kF := some [.b false]) (fun n j hj => ?_) (fun n => ?_))
      · have hj2 : j < (b.fld 1).len := by omega
        have g3 : (fit M (.sl s1) (((a.fld 1).fld j).fld 3) && fit M (.sl s1) (((b.fld 1).fld j).fld 3)) = true := and_both (fit_fld (he j hj) 3 rfl) (fit_fld (he2 j hj2) 3 rfl)
        have g4 : (fit M (.sl s1) (((a.fld 1).fld j).fld 4) && fit M (.sl s1) (((b.fld 1).fld j).fld 4)) = true := and_both (fit_fld (he j hj) 4 rfl) (fit_fld (he2 j hj2) 4 rfl)
        show loopE T C13 ((a.fld 1).len + 1) keep13 Try.f13 0 0 (behind T C13 ((a.fld 1).len + 1) keep13 Try.f13 [.bool] 0) (n + 1) (S13_0 (a.fld 1) ((a.fld 1).len : Int) ((j : Nat) : Int) ((b.fld 0).int) (b.fld 1) ((b.fld 2).int) ((b.fld 3).int)) = _
        rw [f13_round0]
        simp only [dlt hj, dlt hj2, dge, Int.toNat_natCast, g3, g4, Bool.and_self, cond_true, wrap_succ hj hn]
        show _ = bif (((((a.fld 1).fld j).fld 0).int == (((b.fld 1).fld j).fld 0).int) && (((((a.fld 1).fld j).fld 1).int == (((b.fld 1).fld j).fld 1).int) && (((((a.fld 1).fld j).fld 2).int == (((b.fld 1).fld j).fld 2).int) && (deq (.sl s1) (((a.fld 1).fld j).fld 3) (((b.fld 1).fld j).fld 3) && (deq (.sl s1) (((a.fld 1).fld j).fld 4) (((b.fld 1).fld j).fld 4) && true))))) then loopE T C13 ((a.fld 1).len + 1) keep13 Try.f13 0 0 (behind T C13 ((a.fld 1).len + 1) keep13 Try.f13 [.bool] 0) n (S13_0 (a.fld 1) ((a.fld 1).len : Int) (((j + 1 : Nat) : Nat) : Int) ((b.fld 0).int) (b.fld 1) ((b.fld 2).int) ((b.fld 3).int)) else some [Dat.b false]
        exact (ne_step (ne_step (ne_step (ne_step (ne_step rfl)))))
      · show loopE T C13 ((a.fld 1).len + 1) keep13 Try.f13 0 0 (behind T C13 ((a.fld 1).len + 1) keep13 Try.f13 [.bool] 0) (n + 1) (S13_0 (a.fld 1) ((a.fld 1).len : Int) (((a.fld 1).len : Nat) : Int) ((b.fld 0).int) (b.fld 1) ((b.fld 2).int) ((b.fld 3).int)) = _
        rw [f13_round0, dnlt (Nat.lt_irrefl _)]; rfl
    rw [c1, cond_false, c2, Bool.true_and]
    refine (congrArg (fun z => bif (a.fld 0).int != (b.fld 0).int then some [Dat.b false] else bif (a.fld 2).int != (b.fld 2).int then some [Dat.b false] else bif (a.fld 3).int != (b.fld 3).int then some [Dat.b false] else z) hloop).trans ?_
    simp only [bne]
    cases (a.fld 0).int == (b.fld 0).int <;> cases (a.fld 2).int == (b.fld 2).int <;> cases (a.fld 3).int == (b.fld 3).int <;> cases (List.range (a.fld 1).len).all (fun j => deq s3 ((a.fld 1).fld j) ((b.fld 1).fld j)) <;> rfl
  · have c1 : (((a.fld 1).len : Int) != ((b.fld 1).len : Int)) = true := by simp; omega
    have c2 : ((a.fld 1).len == (b.fld 1).len) = false := by simp [hlen]
    rw [c1, cond_true, c2]
    simp only [bne]
    cases (a.fld 0).int == (b.fld 0).int <;> cases (a.fld 2).int == (b.fld 2).int <;> cases (a.fld 3).int == (b.fld 3).int <;> rfl

/-! laws.eqFrame -/
abbrev C28 : FuncId → Option Sig := tabC [(25, eqSig (.sl s1))]
theorem hC28 : ∀ g sg, C28 g = some sg → ConOk Try.prog g sg := (tabC_cons con25 tabC_nil)
abbrev keep28 : Nat → List Nat := fun _ => []
theorem f28_start (K : Nat) (a : Dat) (b : Dat) : evBody T C28 noL K keep28 Try.f28 [s3, s3] [.bool] [a, b] =
      (bif ((a.fld 0).int != (b.fld 0).int) then some [(Dat.b false)] else (bif ((a.fld 1).int != (b.fld 1).int) then some [(Dat.b false)] else (bif ((a.fld 2).int != (b.fld 2).int) then some [(Dat.b false)] else (bif (fit M (.sl s1) (a.fld 3) && fit M (.sl s1) (b.fld 3)) then (bif (!(deq (.sl s1) (a.fld 3) (b.fld 3))) then some [(Dat.b false)] else (bif (fit M (.sl s1) (a.fld 4) && fit M (.sl s1) (b.fld 4)) then (bif (!(deq (.sl s1) (a.fld 4) (b.fld 4))) then some [(Dat.b false)] else some [(Dat.b true)]) else none)) else none)))) := by kernel_rfl
theorem con28 : ConOk Try.prog 28 (eqSig s3) := con hM hD hT hC28 keep28 Try.func28 (by kernel_rfl) (by kernel_rfl) fun ds hl hp => by
  obtain ⟨a, b, rfl⟩ := ds_two hl
  obtain ⟨ha, hb⟩ := both (show (fit M s3 a && fit M s3 b) = true from hp)
  refine ⟨0, ?_⟩
  have h3 : (fit M (.sl s1) (a.fld 3) && fit M (.sl s1) (b.fld 3)) = true := and_both (fit_fld ha 3 rfl) (fit_fld hb 3 rfl)
  have h4 : (fit M (.sl s1) (a.fld 4) && fit M (.sl s1) (b.fld 4)) = true := and_both (fit_fld ha 4 rfl) (fit_fld hb 4 rfl)
  rw [f28_start]
  simp only [h3, h4, cond_true]
  show _ = some [Dat.b (((a.fld 0).int == (b.fld 0).int) && (((a.fld 1).int == (b.fld 1).int) && (((a.fld 2).int == (b.fld 2).int) && (deq (.sl s1) (a.fld 3) (b.fld 3) && (deq (.sl s1) (a.fld 4) (b.fld 4) && true)))))]
  exact (and_step (and_step (and_step (and_step (and_step rfl)))))


/-! laws.eqFrameS -/
abbrev C22 : FuncId → Option Sig := tabC [(28, eqSig s3)]
theorem hC22 : ∀ g sg, C22 g = some sg → ConOk Try.prog g sg := (tabC_cons con28 tabC_nil)
abbrev keep22 : Nat → List Nat | 0 => [0, 1, 4, 5] | _ => []
def S22_0 (x0 : Dat) (x1 : Dat) (x5 : Int) : St := ⟨[.ro s3 x0, .ro s3 x1, .u, .u, .bool false, .int .i64 x5] ++ us 21, []⟩
theorem f22_round0 (K n : Nat) (x0 : Dat) (x1 : Dat) (x5 : Int) :
    loopE T C22 K keep22 Try.f22 0 0 (behind T C22 K keep22 Try.f22 [.bool] 0) (n + 1) (S22_0 x0 x1 x5) =
      (bif decide (x5 < (x0.len : Int)) then (bif (decide (0 ≤ x5) && decide (x5 < (x0.len : Int))) then (bif (decide (0 ≤ x5) && decide (x5 < (x1.len : Int))) then (bif (fit M s3 (x0.fld x5.toNat) && fit M s3 (x1.fld x5.toNat)) then (bif (!(deq s3 (x0.fld x5.toNat) (x1.fld x5.toNat))) then some [(Dat.b false)] else loopE T C22 K keep22 Try.f22 0 0 (behind T C22 K keep22 Try.f22 [.bool] 0) n (S22_0 x0 x1 (IntKind.i64.wrap (x5 + (1 : Int))))) else none) else none) else none) else some [(Dat.b true)]) := by kernel_rfl
theorem f22_start (K : Nat) (a : Dat) (b : Dat) : evBody T C22 noL K keep22 Try.f22 [(.sl s3), (.sl s3)] [.bool] [a, b] =
      (bif ((a.len : Int) != (b.len : Int)) then some [(Dat.b false)] else loopE T C22 K keep22 Try.f22 0 0 (behind T C22 K keep22 Try.f22 [.bool] 0) K (S22_0 a b (0 : Int))) := by kernel_rfl
theorem con22 : ConOk Try.prog 22 (eqSig (.sl s3)) := con hM hD hT hC22 keep22 Try.func22 (by kernel_rfl) (by kernel_rfl) fun ds hl hp => by
  obtain ⟨a, b, rfl⟩ := ds_two hl
  obtain ⟨ha, hb⟩ := both (show (fit M (.sl s3) a && fit M (.sl s3) b) = true from hp)
  obtain ⟨hn, he⟩ := fit_sl ha
  obtain ⟨hn2, he2⟩ := fit_sl hb
  refine ⟨a.len + 1, ?_⟩
  rw [f22_start]
  show _ = some [Dat.b (deq (.sl s3) a b)]
  rw [deq_sl]
  by_cases hlen : a.len = b.len
  · have c1 : ((a.len : Int) != (b.len : Int)) = false := by simp [hlen]
    have c2 : (a.len == b.len) = true := by simp [hlen]
    rw [c1, cond_false, c2, Bool.true_and]
    refine (all_loop (E := fun n j => loopE T C22 (a.len + 1) keep22 Try.f22 0 0 (behind T C22 (a.len + 1) keep22 Try.f22 [.bool] 0) n (S22_0 a b ((j : Nat) : Int))) (N := a.len) (p := fun j => deq s3 (a.fld j) (b.fld j)) (kT := some [.b true]) (kF := some [.b false]) (fun n j hj => ?_) (fun n => ?_)).trans ?_
    · have hj2 : j < b.len := by omega
      have f1 := he j hj
      have f2 := he2 j hj2
      show loopE T C22 (a.len + 1) keep22 Try.f22 0 0 (behind T C22 (a.len + 1) keep22 Try.f22 [.bool] 0) (n + 1) (S22_0 a b ((j : Nat) : Int)) = _
      rw [f22_round0]
      simp only [dlt hj, dge, dlt hj2, Int.toNat_natCast, f1, f2, Bool.and_self, cond_true, wrap_succ hj hn]
      cases deq s3 (a.fld j) (b.fld j) <;> rfl
    · show loopE T C22 (a.len + 1) keep22 Try.f22 0 0 (behind T C22 (a.len + 1) keep22 Try.f22 [.bool] 0) (n + 1) (S22_0 a b ((a.len : Nat) : Int)) = _
      rw [f22_round0, dnlt (Nat.lt_irrefl _)]; rfl
    · cases (List.range a.len).all fun j => deq s3 (a.fld j) (b.fld j) <;> rfl
  · have c1 : ((a.len : Int) != (b.len : Int)) = true := by simp; omega
    have c2 : (a.len == b.len) = false := by simp [hlen]
    rw [c1, cond_true, c2]; rfl


/-! laws.eqThread -/
abbrev C14 : FuncId → Option Sig := tabC [(22, eqSig (.sl s3))]
theorem hC14 : ∀ g sg, C14 g = some sg → ConOk Try.prog g sg := (tabC_cons con22 tabC_nil)
abbrev keep14 : Nat → List Nat := fun _ => []
theorem f14_start (K : Nat) (a : Dat) (b : Dat) : evBody T C14 noL K keep14 Try.f14 [s4, s4] [.bool] [a, b] =
      (bif ((a.fld 0).int != (b.fld 0).int) then some [(Dat.b false)] else (bif (fit M (.sl s3) (a.fld 1) && fit M (.sl s3) (b.fld 1)) then (bif (!(deq (.sl s3) (a.fld 1) (b.fld 1))) then some [(Dat.b false)] else (bif ((a.fld 2).int != (b.fld 2).int) then some [(Dat.b false)] else (bif ((a.fld 3).int != (b.fld 3).int) then some [(Dat.b false)] else some [(Dat.b true)]))) else none)) := by kernel_rfl
theorem con14 : ConOk Try.prog 14 (eqSig s4) := con hM hD hT hC14 keep14 Try.func14 (by kernel_rfl) (by kernel_rfl) fun ds hl hp => by
  obtain ⟨a, b, rfl⟩ := ds_two hl
  obtain ⟨ha, hb⟩ := both (show (fit M s4 a && fit M s4 b) = true from hp)
  refine ⟨0, ?_⟩
  have h1 : (fit M (.sl s3) (a.fld 1) && fit M (.sl s3) (b.fld 1)) = true := and_both (fit_fld ha 1 rfl) (fit_fld hb 1 rfl)
  rw [f14_start]
  simp only [h1, cond_true]
  show _ = some [Dat.b (((a.fld 0).int == (b.fld 0).int) && (deq (.sl s3) (a.fld 1) (b.fld 1) && (((a.fld 2).int == (b.fld 2).int) && (((a.fld 3).int == (b.fld 3).int) && true))))]
  exact (and_step (and_step (and_step (and_step rfl))))


/-! laws.FnExactSameThread -/
abbrev C4 : FuncId → Option Sig := tabC [(10, szSig s4), (12, toSig s4 s4), (11, eqSig s4), (13, eqSig s4), (14, eqSig s4)]
theorem hC4 : ∀ g sg, C4 g = some sg → ConOk Try.prog g sg := (tabC_cons con10 (tabC_cons con12 (tabC_cons con11 (tabC_cons con13 (tabC_cons con14 tabC_nil)))))
abbrev keep4 : Nat → List Nat := fun _ => []
theorem f4_start (K : Nat) (a : Dat) (b : Dat) : evBody T C4 noL K keep4 Try.f4 [s4, s4] [.bool] [a, b] =
      (bif (fit M s4 a && (decide (0 ≤ (1048576 : Int)) && decide ((1048576 : Int) ≤ 1048576))) then (bif decide ((szR s4 a (1048576 : Int)) < (0 : Int)) then some [(Dat.b true)] else (bif (fit M s4 b && (decide (0 ≤ (szR s4 a (1048576 : Int))) && decide ((szR s4 a (1048576 : Int)) ≤ 1048576))) then (bif decide ((szR s4 b (szR s4 a (1048576 : Int))) < (0 : Int)) then some [(Dat.b true)] else (bif fit 1048576 s4 a then (bif fit 1048576 s4 b then (bif (fit M s4 (can s4 a) && fit M s4 (can s4 b)) then (bif fit 1048576 s4 a then (bif fit 1048576 s4 b then (bif (fit M s4 (can s4 a) && fit M s4 (can s4 b)) then (bif (!((deq s4 (can s4 a) (can s4 b)) == (deq s4 (can s4 a) (can s4 b)))) then some [(Dat.b false)] else (bif fit 1048576 s4 a then (bif (fit M s4 (can s4 a) && fit M s4 (can s4 a)) then (bif (!(deq s4 (can s4 a) (can s4 a))) then some [(Dat.b false)] else (bif fit 1048576 s4 b then (bif (fit M s4 (can s4 b) && fit M s4 (can s4 b)) then (bif (!(deq s4 (can s4 b) (can s4 b))) then some [(Dat.b false)] else some [(Dat.b true)]) else none) else none)) else none) else none)) else none) else none) else none) else none) else none) else none)) else none)) else none) := by kernel_rfl
theorem con4 : ConOk Try.prog 4 (lawSig [s4, s4]) := con hM hD hT hC4 keep4 Try.func4 (by kernel_rfl) (by kernel_rfl) fun ds hl hp => by
  obtain ⟨a, b, rfl⟩ := ds_two hl
  obtain ⟨ha, hb0⟩ := both (show (fit M s4 a && (fit M s4 b && true)) = true from hp)
  obtain ⟨hb, _⟩ := both hb0
  refine ⟨0, ?_⟩
  show _ = some [Dat.b true]
  rw [f4_start, sz_arg ha (by omega) (by omega), cond_true]
  by_cases n1 : szR s4 a 1048576 < 0
  · rw [decide_eq_true n1]; rfl
  · have q1 := sz_ok n1
    rw [decide_eq_false n1, cond_false, sz_arg hb q1.2.1 q1.2.2, cond_true]
    by_cases n2 : szR s4 b (szR s4 a 1048576) < 0
    · rw [decide_eq_true n2]; rfl
    · rw [decide_eq_false n2, cond_false]
      simp only [fit_of_sz ha n1 (by omega), fit_of_sz hb n2 q1.2.2, fitM_can ha, fitM_can hb, deq_refl, Bool.and_self, cond_true, beq_self_eq_true, Bool.not_true, cond_false]

end Go.F1
