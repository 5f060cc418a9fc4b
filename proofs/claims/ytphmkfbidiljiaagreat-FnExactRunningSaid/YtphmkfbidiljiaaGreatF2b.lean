import Derived.Test.YtphmkfbidiljiaaGreatF2
namespace Go.F2
open Go Go.Ev Go.Proofs
set_option maxRecDepth 100000
/-! spec.l1Bit -/
abbrev C13 : FuncId → Option Sig := tabC []
theorem hC13 : ∀ g sg, C13 g = some sg → ConOk Tryz.prog g sg := tabC_nil
abbrev keep13 : Nat → List Nat := fun _ => []
theorem f13_start (K : Nat) (x : Dat) : evBody T C13 noL K keep13 Tryz.f13 [.bool] [tInt] [x] =
      (bif x.bool then some [(Dat.i (1 : Int))] else some [(Dat.i (0 : Int))]) := by kernel_rfl
theorem con13 : ConOk Tryz.prog 13 ⟨[.bool], [tInt], fun _ => true, fun l => [.i (if (l.getD 0 (.n [])).bool then 1 else 0)]⟩ := con hM hD hT hC13 keep13 Tryz.func13 (by kernel_rfl) (by kernel_rfl) fun ds hl hp => by
  obtain ⟨x, rfl⟩ := ds_one hl
  refine ⟨0, ?_⟩
  rw [f13_start]
  show _ = some [Dat.i (if x.bool then 1 else 0)]
  cases x.bool <;> rfl

/-- How many tasks run. -/
def runT (t : Dat) : Nat := bif ((t.fld 0).fld 2).int == 0 then 1 else 0
def runN (n : Dat) : Nat := ((List.range (n.fld 6).len).map fun k => runT ((n.fld 6).fld k)).sum
def runC (c : Dat) : Nat := ((List.range (c.fld 2).len).map fun i => runN ((c.fld 2).fld i)).sum
theorem runT_le (t : Dat) : runT t ≤ 1 := by unfold runT; cases ((t.fld 0).fld 2).int == 0 <;> simp
theorem runN_le {n : Dat} (h : fit 1048576 s20 n = true) : runN n ≤ 1048576 := by
  have := (fit_sl (show fit 1048576 (.sl s14) (n.fld 6) = true from fit_fld h 6 rfl)).1
  have h2 : runN n ≤ (n.fld 6).len * 1 := sum_le fun i _ => runT_le _
  omega
theorem runC_le {c : Dat} (h : fit 1048576 s23 c = true) : runC c ≤ 1099511627776 := by
  obtain ⟨h1, h2⟩ := fit_sl (show fit 1048576 (.sl s20) (c.fld 2) = true from fit_fld h 2 rfl)
  have h3 : runC c ≤ (c.fld 2).len * 1048576 := sum_le fun i hi => runN_le (h2 i hi)
  omega

/-! spec.Running -/
abbrev C5 : FuncId → Option Sig := tabC [(13, ⟨[.bool], [tInt], fun _ => true, fun l => [.i (if (l.getD 0 (.n [])).bool then 1 else 0)]⟩)]
theorem hC5 : ∀ g sg, C5 g = some sg → ConOk Tryz.prog g sg := (tabC_cons con13 tabC_nil)
abbrev keep5 : Nat → List Nat | 0 => [1, 3, 4] | 2 => [1, 3, 4, 5] | _ => []
def S5_0 (x3 : Int) (x4 : Int) (y0_0_0 : Dat) (y0_1 : Int) (y0_2 : Dat) (y0_3_0 : Int) (y0_3_1 : Dat) (y0_4 : Dat) (y0_5 : Dat) : St := ⟨[.u, .pt 0 [] 0, .u, .int .i64 x3, .int .i64 x4] ++ us 35, [.box (.st [.st [.ro s5 y0_0_0], .int .i64 y0_1, .ro s20 y0_2, .st [.int .i64 y0_3_0, .ro s21 y0_3_1], .ro tInt y0_4, .ro tInt y0_5])]⟩
def S5_2 (x3 : Int) (x4 : Int) (x5 : Int) (y0_0_0 : Dat) (y0_1 : Int) (y0_2 : Dat) (y0_3_0 : Int) (y0_3_1 : Dat) (y0_4 : Dat) (y0_5 : Dat) : St := ⟨[.u, .pt 0 [] 0, .u, .int .i64 x3, .int .i64 x4, .int .i64 x5] ++ us 34, [.box (.st [.st [.ro s5 y0_0_0], .int .i64 y0_1, .ro s20 y0_2, .st [.int .i64 y0_3_0, .ro s21 y0_3_1], .ro tInt y0_4, .ro tInt y0_5])]⟩
theorem f5_round0 (K n : Nat) (x3 : Int) (x4 : Int) (y0_0_0 : Dat) (y0_1 : Int) (y0_2 : Dat) (y0_3_0 : Int) (y0_3_1 : Dat) (y0_4 : Dat) (y0_5 : Dat) :
    loopE T C5 K keep5 Tryz.f5 0 0 (behind T C5 K keep5 Tryz.f5 [tInt] 0) (n + 1) (S5_0 x3 x4 y0_0_0 y0_1 y0_2 y0_3_0 y0_3_1 y0_4 y0_5) =
      (bif decide (x4 < (y0_2.len : Int)) then loopE T C5 K keep5 Tryz.f5 1 2 (inside T C5 K keep5 Tryz.f5 0 0 (behind T C5 K keep5 Tryz.f5 [tInt] 0) n 2) K (S5_2 x3 x4 (0 : Int) y0_0_0 y0_1 y0_2 y0_3_0 y0_3_1 y0_4 y0_5) else some [(Dat.i x3)]) := by kernel_rfl
theorem f5_round2 (K n2 n : Nat) (x3 : Int) (x4 : Int) (x5 : Int) (y0_0_0 : Dat) (y0_1 : Int) (y0_2 : Dat) (y0_3_0 : Int) (y0_3_1 : Dat) (y0_4 : Dat) (y0_5 : Dat) :
    loopE T C5 K keep5 Tryz.f5 1 2 (inside T C5 K keep5 Tryz.f5 0 0 (behind T C5 K keep5 Tryz.f5 [tInt] 0) n 2) (n2 + 1) (S5_2 x3 x4 x5 y0_0_0 y0_1 y0_2 y0_3_0 y0_3_1 y0_4 y0_5) =
      (bif (decide (0 ≤ x4) && decide (x4 < (y0_2.len : Int))) then (bif decide (x5 < (((y0_2.fld x4.toNat).fld 6).len : Int)) then (bif (decide (0 ≤ x4) && decide (x4 < (y0_2.len : Int))) then (bif (decide (0 ≤ x5) && decide (x5 < (((y0_2.fld x4.toNat).fld 6).len : Int))) then loopE T C5 K keep5 Tryz.f5 1 2 (inside T C5 K keep5 Tryz.f5 0 0 (behind T C5 K keep5 Tryz.f5 [tInt] 0) n 2) n2 (S5_2 (IntKind.i64.wrap (x3 + (if ((((((y0_2.fld x4.toNat).fld 6).fld x5.toNat).fld 0).fld 2).int == (0 : Int)) = true then 1 else 0))) x4 (IntKind.i64.wrap (x5 + (1 : Int))) y0_0_0 y0_1 y0_2 y0_3_0 y0_3_1 y0_4 y0_5) else none) else none) else loopE T C5 K keep5 Tryz.f5 0 0 (behind T C5 K keep5 Tryz.f5 [tInt] 0) n (S5_0 x3 (IntKind.i64.wrap (x4 + (1 : Int))) y0_0_0 y0_1 y0_2 y0_3_0 y0_3_1 y0_4 y0_5)) else none) := by kernel_rfl
theorem f5_start (K : Nat) (c : Dat) : evBody T C5 noL K keep5 Tryz.f5 [s23] [tInt] [c] =
      loopE T C5 K keep5 Tryz.f5 0 0 (behind T C5 K keep5 Tryz.f5 [tInt] 0) K (S5_0 (0 : Int) (0 : Int) ((c.fld 0).fld 0) ((c.fld 1).int) (c.fld 2) (((c.fld 3).fld 0).int) ((c.fld 3).fld 1) (c.fld 4) (c.fld 5)) := by kernel_rfl
theorem con5 : ConOk Tryz.prog 5 ⟨[s23], [tInt], fun l => fit 1048576 s23 (l.getD 0 (.n [])), fun l => [.i ((runC (l.getD 0 (.n [])) : Nat) : Int)]⟩ := con hM hD hT hC5 keep5 Tryz.func5 (by kernel_rfl) (by kernel_rfl) fun ds hl hp => by
  obtain ⟨c, rfl⟩ := ds_one hl
  replace hp : fit 1048576 s23 c = true := hp
  obtain ⟨K, hK⟩ := bigK
  refine ⟨K, ?_⟩
  obtain ⟨hn, he⟩ := fit_sl (show fit 1048576 (.sl s20) (c.fld 2) = true from fit_fld hp 2 rfl)
  rw [f5_start]
  show _ = some [Dat.i ((runC c : Nat) : Int)]
  have inner : ∀ (n i acc : Nat), i < (c.fld 2).len → acc + runN ((c.fld 2).fld i) ≤ 1099511627776 →
      loopE T C5 K keep5 Tryz.f5 1 2 (inside T C5 K keep5 Tryz.f5 0 0 (behind T C5 K keep5 Tryz.f5 [tInt] 0) n 2) K (S5_2 ((acc : Nat) : Int) ((i : Nat) : Int) (0 : Int) ((c.fld 0).fld 0) ((c.fld 1).int) (c.fld 2) (((c.fld 3).fld 0).int) ((c.fld 3).fld 1) (c.fld 4) (c.fld 5)) = loopE T C5 K keep5 Tryz.f5 0 0 (behind T C5 K keep5 Tryz.f5 [tInt] 0) n (S5_0 ((acc + runN ((c.fld 2).fld i) : Nat) : Int) ((i + 1 : Nat) : Int) ((c.fld 0).fld 0) ((c.fld 1).int) (c.fld 2) (((c.fld 3).fld 0).int) ((c.fld 3).fld 1) (c.fld 4) (c.fld 5)) := by
    intro n i acc hi hacc
    have hM : (((c.fld 2).fld i).fld 6).len ≤ 1048576 := (fit_sl (show fit 1048576 (.sl s14) (((c.fld 2).fld i).fld 6) = true from fit_fld (he i hi) 6 rfl)).1
    refine count_loop (E := fun n2 k acc => loopE T C5 K keep5 Tryz.f5 1 2 (inside T C5 K keep5 Tryz.f5 0 0 (behind T C5 K keep5 Tryz.f5 [tInt] 0) n 2) n2 (S5_2 ((acc : Nat) : Int) ((i : Nat) : Int) ((k : Nat) : Int) ((c.fld 0).fld 0) ((c.fld 1).int) (c.fld 2) (((c.fld 3).fld 0).int) ((c.fld 3).fld 1) (c.fld 4) (c.fld 5))) (N := (((c.fld 2).fld i).fld 6).len) (B := 1099511627776)
      (g := fun k => runT ((((c.fld 2).fld i).fld 6).fld k)) (fin := fun acc => loopE T C5 K keep5 Tryz.f5 0 0 (behind T C5 K keep5 Tryz.f5 [tInt] 0) n (S5_0 ((acc : Nat) : Int) ((i + 1 : Nat) : Int) ((c.fld 0).fld 0) ((c.fld 1).int) (c.fld 2) (((c.fld 3).fld 0).int) ((c.fld 3).fld 1) (c.fld 4) (c.fld 5))) (fun n2 k acc hk hb => ?_) (fun n2 acc hb => ?_) (by omega) hacc
    · show loopE T C5 K keep5 Tryz.f5 1 2 (inside T C5 K keep5 Tryz.f5 0 0 (behind T C5 K keep5 Tryz.f5 [tInt] 0) n 2) (n2 + 1) (S5_2 ((acc : Nat) : Int) ((i : Nat) : Int) ((k : Nat) : Int) ((c.fld 0).fld 0) ((c.fld 1).int) (c.fld 2) (((c.fld 3).fld 0).int) ((c.fld 3).fld 1) (c.fld 4) (c.fld 5)) = loopE T C5 K keep5 Tryz.f5 1 2 (inside T C5 K keep5 Tryz.f5 0 0 (behind T C5 K keep5 Tryz.f5 [tInt] 0) n 2) n2 (S5_2 ((acc + runT ((((c.fld 2).fld i).fld 6).fld k) : Nat) : Int) ((i : Nat) : Int) ((k + 1 : Nat) : Int) ((c.fld 0).fld 0) ((c.fld 1).int) (c.fld 2) (((c.fld 3).fld 0).int) ((c.fld 3).fld 1) (c.fld 4) (c.fld 5))
      rw [f5_round2]
      simp only [dge, dlt hi, Int.toNat_natCast, Bool.and_self, cond_true, dlt hk, wrap_succ hk (show _ ≤ M by unfold M; omega)]
      unfold runT at hb ⊢
      rcases Bool.eq_false_or_eq_true (((((((c.fld 2).fld i).fld 6).fld k).fld 0).fld 2).int == 0) with hc | hc
      · simp only [hc, cond_true] at hb
        simp only [hc, cond_true, if_true]
        rw [show ((acc : Int) + 1) = ((acc + 1 : Nat) : Int) by omega, wrap_nat (show acc + 1 ≤ M by unfold M; omega)]
      · simp only [hc, cond_false] at hb
        simp only [hc, cond_false, Bool.false_eq_true, if_false, Int.add_zero, Nat.add_zero, wrap_nat (show acc ≤ M by unfold M; omega)]
    · show loopE T C5 K keep5 Tryz.f5 1 2 (inside T C5 K keep5 Tryz.f5 0 0 (behind T C5 K keep5 Tryz.f5 [tInt] 0) n 2) (n2 + 1) (S5_2 ((acc : Nat) : Int) ((i : Nat) : Int) (((((c.fld 2).fld i).fld 6).len : Nat) : Int) ((c.fld 0).fld 0) ((c.fld 1).int) (c.fld 2) (((c.fld 3).fld 0).int) ((c.fld 3).fld 1) (c.fld 4) (c.fld 5)) = loopE T C5 K keep5 Tryz.f5 0 0 (behind T C5 K keep5 Tryz.f5 [tInt] 0) n (S5_0 ((acc : Nat) : Int) ((i + 1 : Nat) : Int) ((c.fld 0).fld 0) ((c.fld 1).int) (c.fld 2) (((c.fld 3).fld 0).int) ((c.fld 3).fld 1) (c.fld 4) (c.fld 5))
      rw [f5_round2]
      simp only [dge, dlt hi, Int.toNat_natCast, Bool.and_self, cond_true, dnlt (Nat.lt_irrefl _), cond_false, wrap_succ hi (show _ ≤ M by unfold M; omega)]
  have hall := runC_le hp
  refine (count_loop (E := fun n i acc => loopE T C5 K keep5 Tryz.f5 0 0 (behind T C5 K keep5 Tryz.f5 [tInt] 0) n (S5_0 ((acc : Nat) : Int) ((i : Nat) : Int) ((c.fld 0).fld 0) ((c.fld 1).int) (c.fld 2) (((c.fld 3).fld 0).int) ((c.fld 3).fld 1) (c.fld 4) (c.fld 5))) (N := (c.fld 2).len) (B := 1099511627776) (g := fun i => runN ((c.fld 2).fld i)) (fin := fun acc => some [Dat.i ((acc : Nat) : Int)])
    (fun n i acc hi hb => ?_) (fun n acc hb => ?_) (n := K) (by omega) (acc := 0) (by rw [Nat.zero_add]; exact hall)).trans ?_
  · show loopE T C5 K keep5 Tryz.f5 0 0 (behind T C5 K keep5 Tryz.f5 [tInt] 0) (n + 1) (S5_0 ((acc : Nat) : Int) ((i : Nat) : Int) ((c.fld 0).fld 0) ((c.fld 1).int) (c.fld 2) (((c.fld 3).fld 0).int) ((c.fld 3).fld 1) (c.fld 4) (c.fld 5)) = _
    rw [f5_round0]
    simp only [dlt hi, cond_true]
    exact inner n i acc hi hb
  · show loopE T C5 K keep5 Tryz.f5 0 0 (behind T C5 K keep5 Tryz.f5 [tInt] 0) (n + 1) (S5_0 ((acc : Nat) : Int) (((c.fld 2).len : Nat) : Int) ((c.fld 0).fld 0) ((c.fld 1).int) (c.fld 2) (((c.fld 3).fld 0).int) ((c.fld 3).fld 1) (c.fld 4) (c.fld 5)) = _
    rw [f5_round0, dnlt (Nat.lt_irrefl _)]; rfl
  · rw [Nat.zero_add]; rfl

/-! impl.Running -/
abbrev C7 : FuncId → Option Sig := tabC []
theorem hC7 : ∀ g sg, C7 g = some sg → ConOk Tryz.prog g sg := tabC_nil
abbrev keep7 : Nat → List Nat | 0 => [3, 9, 10, 11] | 2 => [3, 9, 10, 11, 16, 17, 18] | _ => []
def S7_0 (x3 : Int) (x9 : Dat) (x10 : Int) (x11 : Int) : St := ⟨[.u, .u, .u, .int .i64 x3] ++ us 5 ++ [.ro s20 x9, .int .i64 x10, .int .i64 x11] ++ us 19, []⟩
def S7_2 (x3 : Int) (x9 : Dat) (x10 : Int) (x11 : Int) (x16 : Dat) (x17 : Int) (x18 : Int) : St := ⟨[.u, .u, .u, .int .i64 x3] ++ us 5 ++ [.ro s20 x9, .int .i64 x10, .int .i64 x11] ++ us 4 ++ [.ro s14 x16, .int .i64 x17, .int .i64 x18] ++ us 12, []⟩
theorem f7_round0 (K n : Nat) (x3 : Int) (x9 : Dat) (x10 : Int) (x11 : Int) :
    loopE T C7 K keep7 Tryz.f7 0 0 (behind T C7 K keep7 Tryz.f7 [tInt] 0) (n + 1) (S7_0 x3 x9 x10 x11) =
      (bif decide (x11 < x10) then (bif (decide (0 ≤ x11) && decide (x11 < (x9.len : Int))) then loopE T C7 K keep7 Tryz.f7 1 2 (inside T C7 K keep7 Tryz.f7 0 0 (behind T C7 K keep7 Tryz.f7 [tInt] 0) n 2) K (S7_2 x3 x9 x10 x11 ((x9.fld x11.toNat).fld 6) (((x9.fld x11.toNat).fld 6).len : Int) (0 : Int)) else none) else some [(Dat.i x3)]) := by kernel_rfl
theorem f7_round2 (K n2 n : Nat) (x3 : Int) (x9 : Dat) (x10 : Int) (x11 : Int) (x16 : Dat) (x17 : Int) (x18 : Int) :
    loopE T C7 K keep7 Tryz.f7 1 2 (inside T C7 K keep7 Tryz.f7 0 0 (behind T C7 K keep7 Tryz.f7 [tInt] 0) n 2) (n2 + 1) (S7_2 x3 x9 x10 x11 x16 x17 x18) =
      (bif decide (x18 < x17) then (bif (decide (0 ≤ x18) && decide (x18 < (x16.len : Int))) then (bif ((((x16.fld x18.toNat).fld 0).fld 2).int == (0 : Int)) then loopE T C7 K keep7 Tryz.f7 1 2 (inside T C7 K keep7 Tryz.f7 0 0 (behind T C7 K keep7 Tryz.f7 [tInt] 0) n 2) n2 (S7_2 (IntKind.i64.wrap (x3 + (1 : Int))) x9 x10 x11 x16 x17 (IntKind.i64.wrap (x18 + (1 : Int)))) else loopE T C7 K keep7 Tryz.f7 1 2 (inside T C7 K keep7 Tryz.f7 0 0 (behind T C7 K keep7 Tryz.f7 [tInt] 0) n 2) n2 (S7_2 x3 x9 x10 x11 x16 x17 (IntKind.i64.wrap (x18 + (1 : Int))))) else none) else loopE T C7 K keep7 Tryz.f7 0 0 (behind T C7 K keep7 Tryz.f7 [tInt] 0) n (S7_0 x3 x9 x10 (IntKind.i64.wrap (x11 + (1 : Int))))) := by kernel_rfl
theorem f7_start (K : Nat) (c : Dat) : evBody T C7 noL K keep7 Tryz.f7 [s23] [tInt] [c] =
      loopE T C7 K keep7 Tryz.f7 0 0 (behind T C7 K keep7 Tryz.f7 [tInt] 0) K (S7_0 (0 : Int) (c.fld 2) ((c.fld 2).len : Int) (0 : Int)) := by kernel_rfl
theorem con7 : ConOk Tryz.prog 7 ⟨[s23], [tInt], fun l => fit 1048576 s23 (l.getD 0 (.n [])), fun l => [.i ((runC (l.getD 0 (.n [])) : Nat) : Int)]⟩ := con hM hD hT hC7 keep7 Tryz.func7 (by kernel_rfl) (by kernel_rfl) fun ds hl hp => by
  obtain ⟨c, rfl⟩ := ds_one hl
  replace hp : fit 1048576 s23 c = true := hp
  obtain ⟨K, hK⟩ := bigK
  refine ⟨K, ?_⟩
  obtain ⟨hn, he⟩ := fit_sl (show fit 1048576 (.sl s20) (c.fld 2) = true from fit_fld hp 2 rfl)
  rw [f7_start]
  show _ = some [Dat.i ((runC c : Nat) : Int)]
  have inner : ∀ (n i acc : Nat), i < (c.fld 2).len → acc + runN ((c.fld 2).fld i) ≤ 1099511627776 →
      loopE T C7 K keep7 Tryz.f7 1 2 (inside T C7 K keep7 Tryz.f7 0 0 (behind T C7 K keep7 Tryz.f7 [tInt] 0) n 2) K (S7_2 ((acc : Nat) : Int) (c.fld 2) ((c.fld 2).len : Int) ((i : Nat) : Int) (((c.fld 2).fld i).fld 6) ((((c.fld 2).fld i).fld 6).len : Int) (0 : Int)) = loopE T C7 K keep7 Tryz.f7 0 0 (behind T C7 K keep7 Tryz.f7 [tInt] 0) n (S7_0 ((acc + runN ((c.fld 2).fld i) : Nat) : Int) (c.fld 2) ((c.fld 2).len : Int) ((i + 1 : Nat) : Int)) := by
    intro n i acc hi hacc
    have hM : (((c.fld 2).fld i).fld 6).len ≤ 1048576 := (fit_sl (show fit 1048576 (.sl s14) (((c.fld 2).fld i).fld 6) = true from fit_fld (he i hi) 6 rfl)).1
    refine count_loop (E := fun n2 k acc => loopE T C7 K keep7 Tryz.f7 1 2 (inside T C7 K keep7 Tryz.f7 0 0 (behind T C7 K keep7 Tryz.f7 [tInt] 0) n 2) n2 (S7_2 ((acc : Nat) : Int) (c.fld 2) ((c.fld 2).len : Int) ((i : Nat) : Int) (((c.fld 2).fld i).fld 6) ((((c.fld 2).fld i).fld 6).len : Int) ((k : Nat) : Int))) (N := (((c.fld 2).fld i).fld 6).len) (B := 1099511627776)
      (g := fun k => runT ((((c.fld 2).fld i).fld 6).fld k)) (fin := fun acc => loopE T C7 K keep7 Tryz.f7 0 0 (behind T C7 K keep7 Tryz.f7 [tInt] 0) n (S7_0 ((acc : Nat) : Int) (c.fld 2) ((c.fld 2).len : Int) ((i + 1 : Nat) : Int))) (fun n2 k acc hk hb => ?_) (fun n2 acc hb => ?_) (by omega) hacc
    · show loopE T C7 K keep7 Tryz.f7 1 2 (inside T C7 K keep7 Tryz.f7 0 0 (behind T C7 K keep7 Tryz.f7 [tInt] 0) n 2) (n2 + 1) (S7_2 ((acc : Nat) : Int) (c.fld 2) ((c.fld 2).len : Int) ((i : Nat) : Int) (((c.fld 2).fld i).fld 6) ((((c.fld 2).fld i).fld 6).len : Int) ((k : Nat) : Int)) = loopE T C7 K keep7 Tryz.f7 1 2 (inside T C7 K keep7 Tryz.f7 0 0 (behind T C7 K keep7 Tryz.f7 [tInt] 0) n 2) n2 (S7_2 ((acc + runT ((((c.fld 2).fld i).fld 6).fld k) : Nat) : Int) (c.fld 2) ((c.fld 2).len : Int) ((i : Nat) : Int) (((c.fld 2).fld i).fld 6) ((((c.fld 2).fld i).fld 6).len : Int) ((k + 1 : Nat) : Int))
      rw [f7_round2]
      simp only [dge, Int.toNat_natCast, Bool.and_self, cond_true, dlt hk, wrap_succ hk (show _ ≤ M by unfold M; omega)]
      unfold runT at hb ⊢
      rcases Bool.eq_false_or_eq_true (((((((c.fld 2).fld i).fld 6).fld k).fld 0).fld 2).int == 0) with hc | hc
      · simp only [hc, cond_true] at hb
        simp only [hc, cond_true]
        rw [show ((acc : Int) + 1) = ((acc + 1 : Nat) : Int) by omega, wrap_nat (show acc + 1 ≤ M by unfold M; omega)]
      · simp only [hc, cond_false] at hb
        simp only [hc, cond_false, Nat.add_zero]
    · show loopE T C7 K keep7 Tryz.f7 1 2 (inside T C7 K keep7 Tryz.f7 0 0 (behind T C7 K keep7 Tryz.f7 [tInt] 0) n 2) (n2 + 1) (S7_2 ((acc : Nat) : Int) (c.fld 2) ((c.fld 2).len : Int) ((i : Nat) : Int) (((c.fld 2).fld i).fld 6) ((((c.fld 2).fld i).fld 6).len : Int) (((((c.fld 2).fld i).fld 6).len : Nat) : Int)) = loopE T C7 K keep7 Tryz.f7 0 0 (behind T C7 K keep7 Tryz.f7 [tInt] 0) n (S7_0 ((acc : Nat) : Int) (c.fld 2) ((c.fld 2).len : Int) ((i + 1 : Nat) : Int))
      rw [f7_round2]
      simp only [dnlt (Nat.lt_irrefl _), cond_false, wrap_succ hi (show _ ≤ M by unfold M; omega)]
  have hall := runC_le hp
  refine (count_loop (E := fun n i acc => loopE T C7 K keep7 Tryz.f7 0 0 (behind T C7 K keep7 Tryz.f7 [tInt] 0) n (S7_0 ((acc : Nat) : Int) (c.fld 2) ((c.fld 2).len : Int) ((i : Nat) : Int))) (N := (c.fld 2).len) (B := 1099511627776) (g := fun i => runN ((c.fld 2).fld i)) (fin := fun acc => some [Dat.i ((acc : Nat) : Int)])
    (fun n i acc hi hb => ?_) (fun n acc hb => ?_) (n := K) (by omega) (acc := 0) (by rw [Nat.zero_add]; exact hall)).trans ?_
  · show loopE T C7 K keep7 Tryz.f7 0 0 (behind T C7 K keep7 Tryz.f7 [tInt] 0) (n + 1) (S7_0 ((acc : Nat) : Int) (c.fld 2) ((c.fld 2).len : Int) ((i : Nat) : Int)) = _
    rw [f7_round0]
    simp only [dlt hi, dge, Int.toNat_natCast, Bool.and_self, cond_true]
    exact inner n i acc hi hb
  · show loopE T C7 K keep7 Tryz.f7 0 0 (behind T C7 K keep7 Tryz.f7 [tInt] 0) (n + 1) (S7_0 ((acc : Nat) : Int) (c.fld 2) ((c.fld 2).len : Int) (((c.fld 2).len : Nat) : Int)) = _
    rw [f7_round0, dnlt (Nat.lt_irrefl _)]; rfl
  · rw [Nat.zero_add]; rfl

end Go.F2
