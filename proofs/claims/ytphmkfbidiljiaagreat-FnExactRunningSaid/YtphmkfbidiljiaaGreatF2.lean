/- Contracts of functions, by program: more of them. -/
import Derived.Test.YtphmkfbidiljiaaGreatF2A
namespace Go.F2
open Go Go.Ev Go.Proofs
set_option maxRecDepth 100000

/-! laws.eqMaster -/
abbrev C87 : FuncId → Option Sig := tabC [(112, eqSig (.sl s7))]
theorem hC87 : ∀ g sg, C87 g = some sg → ConOk Tryz.prog g sg := (tabC_cons con112 tabC_nil)
abbrev keep87 : Nat → List Nat := fun _ => []
theorem f87_start (K : Nat) (a : Dat) (b : Dat) : evBody T C87 noL K keep87 Tryz.f87 [s9, s9] [.bool] [a, b] =
      (bif ((a.fld 0).int != (b.fld 0).int) then some [(Dat.b false)] else (bif ((a.fld 1).int != (b.fld 1).int) then some [(Dat.b false)] else (bif ((a.fld 2).int != (b.fld 2).int) then some [(Dat.b false)] else (bif (fit M (.sl s7) (a.fld 3) && fit M (.sl s7) (b.fld 3)) then (bif (!(deq (.sl s7) (a.fld 3) (b.fld 3))) then some [(Dat.b false)] else some [(Dat.b true)]) else none)))) := by kernel_rfl
theorem con87 : ConOk Tryz.prog 87 (eqSig s9) := con hM hD hT hC87 keep87 Tryz.func87 (by kernel_rfl) (by kernel_rfl) fun ds hl hp => by
  obtain ⟨a, b, rfl⟩ := ds_two hl
  obtain ⟨ha, hb⟩ := both (show (fit M s9 a && fit M s9 b) = true from hp)
  refine ⟨0, ?_⟩
  have h3 : (fit M (.sl s7) (a.fld 3) && fit M (.sl s7) (b.fld 3)) = true := and_both (fit_fld ha 3 rfl) (fit_fld hb 3 rfl)
  rw [f87_start]
  simp only [h3, cond_true]
  show _ = some [Dat.b (((a.fld 0).int == (b.fld 0).int) && (((a.fld 1).int == (b.fld 1).int) && (((a.fld 2).int == (b.fld 2).int) && (deq (.sl s7) (a.fld 3) (b.fld 3) && true))))]
  exact (and_step (and_step (and_step (and_step rfl))))


/-! laws.eqMasterS -/
abbrev C53 : FuncId → Option Sig := tabC [(87, eqSig s9)]
theorem hC53 : ∀ g sg, C53 g = some sg → ConOk Tryz.prog g sg := (tabC_cons con87 tabC_nil)
abbrev keep53 : Nat → List Nat | 0 => [0, 1, 4, 5] | _ => []
def S53_0 (x0 : Dat) (x1 : Dat) (x5 : Int) : St := ⟨[.ro s9 x0, .ro s9 x1, .u, .u, .bool false, .int .i64 x5] ++ us 21, []⟩
theorem f53_round0 (K n : Nat) (x0 : Dat) (x1 : Dat) (x5 : Int) :
    loopE T C53 K keep53 Tryz.f53 0 0 (behind T C53 K keep53 Tryz.f53 [.bool] 0) (n + 1) (S53_0 x0 x1 x5) =
      (bif decide (x5 < (x0.len : Int)) then (bif (decide (0 ≤ x5) && decide (x5 < (x0.len : Int))) then (bif (decide (0 ≤ x5) && decide (x5 < (x1.len : Int))) then (bif (fit M s9 (x0.fld x5.toNat) && fit M s9 (x1.fld x5.toNat)) then (bif (!(deq s9 (x0.fld x5.toNat) (x1.fld x5.toNat))) then some [(Dat.b false)] else loopE T C53 K keep53 Tryz.f53 0 0 (behind T C53 K keep53 Tryz.f53 [.bool] 0) n (S53_0 x0 x1 (IntKind.i64.wrap (x5 + (1 : Int))))) else none) else none) else none) else some [(Dat.b true)]) := by kernel_rfl
theorem f53_start (K : Nat) (a : Dat) (b : Dat) : evBody T C53 noL K keep53 Tryz.f53 [(.sl s9), (.sl s9)] [.bool] [a, b] =
      (bif ((a.len : Int) != (b.len : Int)) then some [(Dat.b false)] else loopE T C53 K keep53 Tryz.f53 0 0 (behind T C53 K keep53 Tryz.f53 [.bool] 0) K (S53_0 a b (0 : Int))) := by kernel_rfl
theorem con53 : ConOk Tryz.prog 53 (eqSig (.sl s9)) := con hM hD hT hC53 keep53 Tryz.func53 (by kernel_rfl) (by kernel_rfl) fun ds hl hp => by
  obtain ⟨a, b, rfl⟩ := ds_two hl
  obtain ⟨ha, hb⟩ := both (show (fit M (.sl s9) a && fit M (.sl s9) b) = true from hp)
  obtain ⟨hn, he⟩ := fit_sl ha
  obtain ⟨hn2, he2⟩ := fit_sl hb
  refine ⟨a.len + 1, ?_⟩
  rw [f53_start]
  show _ = some [Dat.b (deq (.sl s9) a b)]
  rw [deq_sl]
  by_cases hlen : a.len = b.len
  · have c1 : ((a.len : Int) != (b.len : Int)) = false := by simp [hlen]
    have c2 : (a.len == b.len) = true := by simp [hlen]
    rw [c1, cond_false, c2, Bool.true_and]
    refine (all_loop (E := fun n j => loopE T C53 (a.len + 1) keep53 Tryz.f53 0 0 (behind T C53 (a.len + 1) keep53 Tryz.f53 [.bool] 0) n (S53_0 a b ((j : Nat) : Int))) (N := a.len) (p := fun j => deq s9 (a.fld j) (b.fld j)) (kT := some [.b true]) (kF := some [.b false]) (fun n j hj => ?_) (fun n => ?_)).trans ?_
    · have hj2 : j < b.len := by omega
      have f1 := he j hj
      have f2 := he2 j hj2
      show loopE T C53 (a.len + 1) keep53 Tryz.f53 0 0 (behind T C53 (a.len + 1) keep53 Tryz.f53 [.bool] 0) (n + 1) (S53_0 a b ((j : Nat) : Int)) = _
      rw [f53_round0]
      simp only [dlt hj, dge, dlt hj2, Int.toNat_natCast, f1, f2, Bool.and_self, cond_true, wrap_succ hj hn]
      cases deq s9 (a.fld j) (b.fld j) <;> rfl
    · show loopE T C53 (a.len + 1) keep53 Tryz.f53 0 0 (behind T C53 (a.len + 1) keep53 Tryz.f53 [.bool] 0) (n + 1) (S53_0 a b ((a.len : Nat) : Int)) = _
      rw [f53_round0, dnlt (Nat.lt_irrefl _)]; rfl
    · cases (List.range a.len).all fun j => deq s9 (a.fld j) (b.fld j) <;> rfl
  · have c1 : ((a.len : Int) != (b.len : Int)) = true := by simp; omega
    have c2 : (a.len == b.len) = false := by simp [hlen]
    rw [c1, cond_true, c2]; rfl


/-! laws.eqWant -/
abbrev C88 : FuncId → Option Sig := tabC []
theorem hC88 : ∀ g sg, C88 g = some sg → ConOk Tryz.prog g sg := tabC_nil
abbrev keep88 : Nat → List Nat := fun _ => []
theorem f88_start (K : Nat) (a : Dat) (b : Dat) : evBody T C88 noL K keep88 Tryz.f88 [s3, s3] [.bool] [a, b] =
      (bif ((a.fld 0).int != (b.fld 0).int) then some [(Dat.b false)] else (bif ((a.fld 1).int != (b.fld 1).int) then some [(Dat.b false)] else some [(Dat.b true)])) := by kernel_rfl
theorem con88 : ConOk Tryz.prog 88 (eqSig s3) := con hM hD hT hC88 keep88 Tryz.func88 (by kernel_rfl) (by kernel_rfl) fun ds hl hp => by
  obtain ⟨a, b, rfl⟩ := ds_two hl
  obtain ⟨ha, hb⟩ := both (show (fit M s3 a && fit M s3 b) = true from hp)
  refine ⟨0, ?_⟩
  rw [f88_start]
  show _ = some [Dat.b (((a.fld 0).int == (b.fld 0).int) && (((a.fld 1).int == (b.fld 1).int) && true))]
  exact (and_step (and_step rfl))


/-! laws.eqWantS -/
abbrev C54 : FuncId → Option Sig := tabC [(88, eqSig s3)]
theorem hC54 : ∀ g sg, C54 g = some sg → ConOk Tryz.prog g sg := (tabC_cons con88 tabC_nil)
abbrev keep54 : Nat → List Nat | 0 => [0, 1, 4, 5] | _ => []
def S54_0 (x0 : Dat) (x1 : Dat) (x5 : Int) : St := ⟨[.ro s3 x0, .ro s3 x1, .u, .u, .bool false, .int .i64 x5] ++ us 21, []⟩
theorem f54_round0 (K n : Nat) (x0 : Dat) (x1 : Dat) (x5 : Int) :
    loopE T C54 K keep54 Tryz.f54 0 0 (behind T C54 K keep54 Tryz.f54 [.bool] 0) (n + 1) (S54_0 x0 x1 x5) =
      (bif decide (x5 < (x0.len : Int)) then (bif (decide (0 ≤ x5) && decide (x5 < (x0.len : Int))) then (bif (decide (0 ≤ x5) && decide (x5 < (x1.len : Int))) then (bif (fit M s3 (x0.fld x5.toNat) && fit M s3 (x1.fld x5.toNat)) then (bif (!(deq s3 (x0.fld x5.toNat) (x1.fld x5.toNat))) then some [(Dat.b false)] else loopE T C54 K keep54 Tryz.f54 0 0 (behind T C54 K keep54 Tryz.f54 [.bool] 0) n (S54_0 x0 x1 (IntKind.i64.wrap (x5 + (1 : Int))))) else none) else none) else none) else some [(Dat.b true)]) := by kernel_rfl
theorem f54_start (K : Nat) (a : Dat) (b : Dat) : evBody T C54 noL K keep54 Tryz.f54 [(.sl s3), (.sl s3)] [.bool] [a, b] =
      (bif ((a.len : Int) != (b.len : Int)) then some [(Dat.b false)] else loopE T C54 K keep54 Tryz.f54 0 0 (behind T C54 K keep54 Tryz.f54 [.bool] 0) K (S54_0 a b (0 : Int))) := by kernel_rfl
theorem con54 : ConOk Tryz.prog 54 (eqSig (.sl s3)) := con hM hD hT hC54 keep54 Tryz.func54 (by kernel_rfl) (by kernel_rfl) fun ds hl hp => by
  obtain ⟨a, b, rfl⟩ := ds_two hl
  obtain ⟨ha, hb⟩ := both (show (fit M (.sl s3) a && fit M (.sl s3) b) = true from hp)
  obtain ⟨hn, he⟩ := fit_sl ha
  obtain ⟨hn2, he2⟩ := fit_sl hb
  refine ⟨a.len + 1, ?_⟩
  rw [f54_start]
  show _ = some [Dat.b (deq (.sl s3) a b)]
  rw [deq_sl]
  by_cases hlen : a.len = b.len
  · have c1 : ((a.len : Int) != (b.len : Int)) = false := by simp [hlen]
    have c2 : (a.len == b.len) = true := by simp [hlen]
    rw [c1, cond_false, c2, Bool.true_and]
    refine (all_loop (E := fun n j => loopE T C54 (a.len + 1) keep54 Tryz.f54 0 0 (behind T C54 (a.len + 1) keep54 Tryz.f54 [.bool] 0) n (S54_0 a b ((j : Nat) : Int))) (N := a.len) (p := fun j => deq s3 (a.fld j) (b.fld j)) (kT := some [.b true]) (kF := some [.b false]) (fun n j hj => ?_) (fun n => ?_)).trans ?_
    · have hj2 : j < b.len := by omega
      have f1 := he j hj
      have f2 := he2 j hj2
      show loopE T C54 (a.len + 1) keep54 Tryz.f54 0 0 (behind T C54 (a.len + 1) keep54 Tryz.f54 [.bool] 0) (n + 1) (S54_0 a b ((j : Nat) : Int)) = _
      rw [f54_round0]
      simp only [dlt hj, dge, dlt hj2, Int.toNat_natCast, f1, f2, Bool.and_self, cond_true, wrap_succ hj hn]
      cases deq s3 (a.fld j) (b.fld j) <;> rfl
    · show loopE T C54 (a.len + 1) keep54 Tryz.f54 0 0 (behind T C54 (a.len + 1) keep54 Tryz.f54 [.bool] 0) (n + 1) (S54_0 a b ((a.len : Nat) : Int)) = _
      rw [f54_round0, dnlt (Nat.lt_irrefl _)]; rfl
    · cases (List.range a.len).all fun j => deq s3 (a.fld j) (b.fld j) <;> rfl
  · have c1 : ((a.len : Int) != (b.len : Int)) = true := by simp; omega
    have c2 : (a.len == b.len) = false := by simp [hlen]
    rw [c1, cond_true, c2]; rfl


/-! laws.eqIntS -/
abbrev C21 : FuncId → Option Sig := tabC []
theorem hC21 : ∀ g sg, C21 g = some sg → ConOk Tryz.prog g sg := tabC_nil
abbrev keep21 : Nat → List Nat | 0 => [0, 1, 4, 5] | _ => []
def S21_0 (x0 : Dat) (x1 : Dat) (x5 : Int) : St := ⟨[.ro tInt x0, .ro tInt x1, .u, .u, .bool false, .int .i64 x5] ++ us 20, []⟩
theorem f21_round0 (K n : Nat) (x0 : Dat) (x1 : Dat) (x5 : Int) :
    loopE T C21 K keep21 Tryz.f21 0 0 (behind T C21 K keep21 Tryz.f21 [.bool] 0) (n + 1) (S21_0 x0 x1 x5) =
      (bif decide (x5 < (x0.len : Int)) then (bif (decide (0 ≤ x5) && decide (x5 < (x0.len : Int))) then (bif (decide (0 ≤ x5) && decide (x5 < (x1.len : Int))) then (bif ((x0.fld x5.toNat).int != (x1.fld x5.toNat).int) then some [(Dat.b false)] else loopE T C21 K keep21 Tryz.f21 0 0 (behind T C21 K keep21 Tryz.f21 [.bool] 0) n (S21_0 x0 x1 (IntKind.i64.wrap (x5 + (1 : Int))))) else none) else none) else some [(Dat.b true)]) := by kernel_rfl
theorem f21_start (K : Nat) (a : Dat) (b : Dat) : evBody T C21 noL K keep21 Tryz.f21 [(.sl tInt), (.sl tInt)] [.bool] [a, b] =
      (bif ((a.len : Int) != (b.len : Int)) then some [(Dat.b false)] else loopE T C21 K keep21 Tryz.f21 0 0 (behind T C21 K keep21 Tryz.f21 [.bool] 0) K (S21_0 a b (0 : Int))) := by kernel_rfl
theorem con21 : ConOk Tryz.prog 21 (eqSig (.sl tInt)) := con hM hD hT hC21 keep21 Tryz.func21 (by kernel_rfl) (by kernel_rfl) fun ds hl hp => by
  obtain ⟨a, b, rfl⟩ := ds_two hl
  obtain ⟨ha, hb⟩ := both (show (fit M (.sl tInt) a && fit M (.sl tInt) b) = true from hp)
  obtain ⟨hn, he⟩ := fit_sl ha
  obtain ⟨hn2, he2⟩ := fit_sl hb
  refine ⟨a.len + 1, ?_⟩
  rw [f21_start]
  show _ = some [Dat.b (deq (.sl tInt) a b)]
  rw [deq_sl]
  by_cases hlen : a.len = b.len
  · have c1 : ((a.len : Int) != (b.len : Int)) = false := by simp [hlen]
    have c2 : (a.len == b.len) = true := by simp [hlen]
    rw [c1, cond_false, c2, Bool.true_and]
    refine (all_loop (E := fun n j => loopE T C21 (a.len + 1) keep21 Tryz.f21 0 0 (behind T C21 (a.len + 1) keep21 Tryz.f21 [.bool] 0) n (S21_0 a b ((j : Nat) : Int))) (N := a.len) (p := fun j => deq tInt (a.fld j) (b.fld j)) (kT := some [.b true]) (kF := some [.b false]) (fun n j hj => ?_) (fun n => ?_)).trans ?_
    · have hj2 : j < b.len := by omega
      show loopE T C21 (a.len + 1) keep21 Tryz.f21 0 0 (behind T C21 (a.len + 1) keep21 Tryz.f21 [.bool] 0) (n + 1) (S21_0 a b ((j : Nat) : Int)) = _
      rw [f21_round0]
      simp only [dlt hj, dge, dlt hj2, Int.toNat_natCast, Bool.and_self, cond_true, wrap_succ hj hn]
      simp only [deq, bne]; cases (a.fld j).int == (b.fld j).int <;> rfl
    · show loopE T C21 (a.len + 1) keep21 Tryz.f21 0 0 (behind T C21 (a.len + 1) keep21 Tryz.f21 [.bool] 0) (n + 1) (S21_0 a b ((a.len : Nat) : Int)) = _
      rw [f21_round0, dnlt (Nat.lt_irrefl _)]; rfl
    · cases (List.range a.len).all fun j => deq tInt (a.fld j) (b.fld j) <;> rfl
  · have c1 : ((a.len : Int) != (b.len : Int)) = true := by simp; omega
    have c2 : (a.len == b.len) = false := by simp [hlen]
    rw [c1, cond_true, c2]; rfl


/-! laws.eqNote -/
abbrev C90 : FuncId → Option Sig := tabC []
theorem hC90 : ∀ g sg, C90 g = some sg → ConOk Tryz.prog g sg := tabC_nil
abbrev keep90 : Nat → List Nat := fun _ => []
theorem f90_start (K : Nat) (a : Dat) (b : Dat) : evBody T C90 noL K keep90 Tryz.f90 [s3, s3] [.bool] [a, b] =
      (bif ((a.fld 0).int != (b.fld 0).int) then some [(Dat.b false)] else (bif ((a.fld 1).int != (b.fld 1).int) then some [(Dat.b false)] else some [(Dat.b true)])) := by kernel_rfl
theorem con90 : ConOk Tryz.prog 90 (eqSig s3) := con hM hD hT hC90 keep90 Tryz.func90 (by kernel_rfl) (by kernel_rfl) fun ds hl hp => by
  obtain ⟨a, b, rfl⟩ := ds_two hl
  obtain ⟨ha, hb⟩ := both (show (fit M s3 a && fit M s3 b) = true from hp)
  refine ⟨0, ?_⟩
  rw [f90_start]
  show _ = some [Dat.b (((a.fld 0).int == (b.fld 0).int) && (((a.fld 1).int == (b.fld 1).int) && true))]
  exact (and_step (and_step rfl))


/-! laws.eqNoteS -/
abbrev C56 : FuncId → Option Sig := tabC [(90, eqSig s3)]
theorem hC56 : ∀ g sg, C56 g = some sg → ConOk Tryz.prog g sg := (tabC_cons con90 tabC_nil)
abbrev keep56 : Nat → List Nat | 0 => [0, 1, 4, 5] | _ => []
def S56_0 (x0 : Dat) (x1 : Dat) (x5 : Int) : St := ⟨[.ro s3 x0, .ro s3 x1, .u, .u, .bool false, .int .i64 x5] ++ us 21, []⟩
theorem f56_round0 (K n : Nat) (x0 : Dat) (x1 : Dat) (x5 : Int) :
    loopE T C56 K keep56 Tryz.f56 0 0 (behind T C56 K keep56 Tryz.f56 [.bool] 0) (n + 1) (S56_0 x0 x1 x5) =
      (bif decide (x5 < (x0.len : Int)) then (bif (decide (0 ≤ x5) && decide (x5 < (x0.len : Int))) then (bif (decide (0 ≤ x5) && decide (x5 < (x1.len : Int))) then (bif (fit M s3 (x0.fld x5.toNat) && fit M s3 (x1.fld x5.toNat)) then (bif (!(deq s3 (x0.fld x5.toNat) (x1.fld x5.toNat))) then some [(Dat.b false)] else loopE T C56 K keep56 Tryz.f56 0 0 (behind T C56 K keep56 Tryz.f56 [.bool] 0) n (S56_0 x0 x1 (IntKind.i64.wrap (x5 + (1 : Int))))) else none) else none) else none) else some [(Dat.b true)]) := by kernel_rfl
theorem f56_start (K : Nat) (a : Dat) (b : Dat) : evBody T C56 noL K keep56 Tryz.f56 [(.sl s3), (.sl s3)] [.bool] [a, b] =
      (bif ((a.len : Int) != (b.len : Int)) then some [(Dat.b false)] else loopE T C56 K keep56 Tryz.f56 0 0 (behind T C56 K keep56 Tryz.f56 [.bool] 0) K (S56_0 a b (0 : Int))) := by kernel_rfl
theorem con56 : ConOk Tryz.prog 56 (eqSig (.sl s3)) := con hM hD hT hC56 keep56 Tryz.func56 (by kernel_rfl) (by kernel_rfl) fun ds hl hp => by
  obtain ⟨a, b, rfl⟩ := ds_two hl
  obtain ⟨ha, hb⟩ := both (show (fit M (.sl s3) a && fit M (.sl s3) b) = true from hp)
  obtain ⟨hn, he⟩ := fit_sl ha
  obtain ⟨hn2, he2⟩ := fit_sl hb
  refine ⟨a.len + 1, ?_⟩
  rw [f56_start]
  show _ = some [Dat.b (deq (.sl s3) a b)]
  rw [deq_sl]
  by_cases hlen : a.len = b.len
  · have c1 : ((a.len : Int) != (b.len : Int)) = false := by simp [hlen]
    have c2 : (a.len == b.len) = true := by simp [hlen]
    rw [c1, cond_false, c2, Bool.true_and]
    refine (all_loop (E := fun n j => loopE T C56 (a.len + 1) keep56 Tryz.f56 0 0 (behind T C56 (a.len + 1) keep56 Tryz.f56 [.bool] 0) n (S56_0 a b ((j : Nat) : Int))) (N := a.len) (p := fun j => deq s3 (a.fld j) (b.fld j)) (kT := some [.b true]) (kF := some [.b false]) (fun n j hj => ?_) (fun n => ?_)).trans ?_
    · have hj2 : j < b.len := by omega
      have f1 := he j hj
      have f2 := he2 j hj2
      show loopE T C56 (a.len + 1) keep56 Tryz.f56 0 0 (behind T C56 (a.len + 1) keep56 Tryz.f56 [.bool] 0) (n + 1) (S56_0 a b ((j : Nat) : Int)) = _
      rw [f56_round0]
      simp only [dlt hj, dge, dlt hj2, Int.toNat_natCast, f1, f2, Bool.and_self, cond_true, wrap_succ hj hn]
      cases deq s3 (a.fld j) (b.fld j) <;> rfl
    · show loopE T C56 (a.len + 1) keep56 Tryz.f56 0 0 (behind T C56 (a.len + 1) keep56 Tryz.f56 [.bool] 0) (n + 1) (S56_0 a b ((a.len : Nat) : Int)) = _
      rw [f56_round0, dnlt (Nat.lt_irrefl _)]; rfl
    · cases (List.range a.len).all fun j => deq s3 (a.fld j) (b.fld j) <;> rfl
  · have c1 : ((a.len : Int) != (b.len : Int)) = true := by simp; omega
    have c2 : (a.len == b.len) = false := by simp [hlen]
    rw [c1, cond_true, c2]; rfl


/-! laws.eqToken -/
abbrev C89 : FuncId → Option Sig := tabC [(21, eqSig (.sl tInt)), (56, eqSig (.sl s3))]
theorem hC89 : ∀ g sg, C89 g = some sg → ConOk Tryz.prog g sg := (tabC_cons con21 (tabC_cons con56 tabC_nil))
abbrev keep89 : Nat → List Nat := fun _ => []
theorem f89_start (K : Nat) (a : Dat) (b : Dat) : evBody T C89 noL K keep89 Tryz.f89 [s10, s10] [.bool] [a, b] =
      (bif ((a.fld 0).int != (b.fld 0).int) then some [(Dat.b false)] else (bif ((a.fld 1).int != (b.fld 1).int) then some [(Dat.b false)] else (bif (fit M (.sl tInt) (a.fld 2) && fit M (.sl tInt) (b.fld 2)) then (bif (!(deq (.sl tInt) (a.fld 2) (b.fld 2))) then some [(Dat.b false)] else (bif (fit M (.sl s3) (a.fld 3) && fit M (.sl s3) (b.fld 3)) then (bif (!(deq (.sl s3) (a.fld 3) (b.fld 3))) then some [(Dat.b false)] else some [(Dat.b true)]) else none)) else none))) := by kernel_rfl
theorem con89 : ConOk Tryz.prog 89 (eqSig s10) := con hM hD hT hC89 keep89 Tryz.func89 (by kernel_rfl) (by kernel_rfl) fun ds hl hp => by
  obtain ⟨a, b, rfl⟩ := ds_two hl
  obtain ⟨ha, hb⟩ := both (show (fit M s10 a && fit M s10 b) = true from hp)
  refine ⟨0, ?_⟩
  have h2 : (fit M (.sl tInt) (a.fld 2) && fit M (.sl tInt) (b.fld 2)) = true := and_both (fit_fld ha 2 rfl) (fit_fld hb 2 rfl)
  have h3 : (fit M (.sl s3) (a.fld 3) && fit M (.sl s3) (b.fld 3)) = true := and_both (fit_fld ha 3 rfl) (fit_fld hb 3 rfl)
  rw [f89_start]
  simp only [h2, h3, cond_true]
  show _ = some [Dat.b (((a.fld 0).int == (b.fld 0).int) && (((a.fld 1).int == (b.fld 1).int) && (deq (.sl tInt) (a.fld 2) (b.fld 2) && (deq (.sl s3) (a.fld 3) (b.fld 3) && true))))]
  exact (and_step (and_step (and_step (and_step rfl))))


/-! laws.eqTokenS -/
abbrev C55 : FuncId → Option Sig := tabC [(89, eqSig s10)]
theorem hC55 : ∀ g sg, C55 g = some sg → ConOk Tryz.prog g sg := (tabC_cons con89 tabC_nil)
abbrev keep55 : Nat → List Nat | 0 => [0, 1, 4, 5] | _ => []
def S55_0 (x0 : Dat) (x1 : Dat) (x5 : Int) : St := ⟨[.ro s10 x0, .ro s10 x1, .u, .u, .bool false, .int .i64 x5] ++ us 21, []⟩
theorem f55_round0 (K n : Nat) (x0 : Dat) (x1 : Dat) (x5 : Int) :
    loopE T C55 K keep55 Tryz.f55 0 0 (behind T C55 K keep55 Tryz.f55 [.bool] 0) (n + 1) (S55_0 x0 x1 x5) =
      (bif decide (x5 < (x0.len : Int)) then (bif (decide (0 ≤ x5) && decide (x5 < (x0.len : Int))) then (bif (decide (0 ≤ x5) && decide (x5 < (x1.len : Int))) then (bif (fit M s10 (x0.fld x5.toNat) && fit M s10 (x1.fld x5.toNat)) then (bif (!(deq s10 (x0.fld x5.toNat) (x1.fld x5.toNat))) then some [(Dat.b false)] else loopE T C55 K keep55 Tryz.f55 0 0 (behind T C55 K keep55 Tryz.f55 [.bool] 0) n (S55_0 x0 x1 (IntKind.i64.wrap (x5 + (1 : Int))))) else none) else none) else none) else some [(Dat.b true)]) := by kernel_rfl
theorem f55_start (K : Nat) (a : Dat) (b : Dat) : evBody T C55 noL K keep55 Tryz.f55 [(.sl s10), (.sl s10)] [.bool] [a, b] =
      (bif ((a.len : Int) != (b.len : Int)) then some [(Dat.b false)] else loopE T C55 K keep55 Tryz.f55 0 0 (behind T C55 K keep55 Tryz.f55 [.bool] 0) K (S55_0 a b (0 : Int))) := by kernel_rfl
theorem con55 : ConOk Tryz.prog 55 (eqSig (.sl s10)) := con hM hD hT hC55 keep55 Tryz.func55 (by kernel_rfl) (by kernel_rfl) fun ds hl hp => by
  obtain ⟨a, b, rfl⟩ := ds_two hl
  obtain ⟨ha, hb⟩ := both (show (fit M (.sl s10) a && fit M (.sl s10) b) = true from hp)
  obtain ⟨hn, he⟩ := fit_sl ha
  obtain ⟨hn2, he2⟩ := fit_sl hb
  refine ⟨a.len + 1, ?_⟩
  rw [f55_start]
  show _ = some [Dat.b (deq (.sl s10) a b)]
  rw [deq_sl]
  by_cases hlen : a.len = b.len
  · have c1 : ((a.len : Int) != (b.len : Int)) = false := by simp [hlen]
    have c2 : (a.len == b.len) = true := by simp [hlen]
    rw [c1, cond_false, c2, Bool.true_and]
    refine (all_loop (E := fun n j => loopE T C55 (a.len + 1) keep55 Tryz.f55 0 0 (behind T C55 (a.len + 1) keep55 Tryz.f55 [.bool] 0) n (S55_0 a b ((j : Nat) : Int))) (N := a.len) (p := fun j => deq s10 (a.fld j) (b.fld j)) (kT := some [.b true]) (kF := some [.b false]) (fun n j hj => ?_) (fun n => ?_)).trans ?_
    · have hj2 : j < b.len := by omega
      have f1 := he j hj
      have f2 := he2 j hj2
      show loopE T C55 (a.len + 1) keep55 Tryz.f55 0 0 (behind T C55 (a.len + 1) keep55 Tryz.f55 [.bool] 0) (n + 1) (S55_0 a b ((j : Nat) : Int)) = _
      rw [f55_round0]
      simp only [dlt hj, dge, dlt hj2, Int.toNat_natCast, f1, f2, Bool.and_self, cond_true, wrap_succ hj hn]
      cases deq s10 (a.fld j) (b.fld j) <;> rfl
    · show loopE T C55 (a.len + 1) keep55 Tryz.f55 0 0 (behind T C55 (a.len + 1) keep55 Tryz.f55 [.bool] 0) (n + 1) (S55_0 a b ((a.len : Nat) : Int)) = _
      rw [f55_round0, dnlt (Nat.lt_irrefl _)]; rfl
    · cases (List.range a.len).all fun j => deq s10 (a.fld j) (b.fld j) <;> rfl
  · have c1 : ((a.len : Int) != (b.len : Int)) = true := by simp; omega
    have c2 : (a.len == b.len) = false := by simp [hlen]
    rw [c1, cond_true, c2]; rfl


/-! laws.eqFrame -/
abbrev C138 : FuncId → Option Sig := tabC [(112, eqSig (.sl s7))]
theorem hC138 : ∀ g sg, C138 g = some sg → ConOk Tryz.prog g sg := (tabC_cons con112 tabC_nil)
abbrev keep138 : Nat → List Nat := fun _ => []
theorem f138_start (K : Nat) (a : Dat) (b : Dat) : evBody T C138 noL K keep138 Tryz.f138 [s11, s11] [.bool] [a, b] =
      (bif ((a.fld 0).int != (b.fld 0).int) then some [(Dat.b false)] else (bif ((a.fld 1).int != (b.fld 1).int) then some [(Dat.b false)] else (bif ((a.fld 2).int != (b.fld 2).int) then some [(Dat.b false)] else (bif (fit M (.sl s7) (a.fld 3) && fit M (.sl s7) (b.fld 3)) then (bif (!(deq (.sl s7) (a.fld 3) (b.fld 3))) then some [(Dat.b false)] else (bif (fit M (.sl s7) (a.fld 4) && fit M (.sl s7) (b.fld 4)) then (bif (!(deq (.sl s7) (a.fld 4) (b.fld 4))) then some [(Dat.b false)] else some [(Dat.b true)]) else none)) else none)))) := by kernel_rfl
theorem con138 : ConOk Tryz.prog 138 (eqSig s11) := con hM hD hT hC138 keep138 Tryz.func138 (by kernel_rfl) (by kernel_rfl) fun ds hl hp => by
  obtain ⟨a, b, rfl⟩ := ds_two hl
  obtain ⟨ha, hb⟩ := both (show (fit M s11 a && fit M s11 b) = true from hp)
  refine ⟨0, ?_⟩
  have h3 : (fit M (.sl s7) (a.fld 3) && fit M (.sl s7) (b.fld 3)) = true := and_both (fit_fld ha 3 rfl) (fit_fld hb 3 rfl)
  have h4 : (fit M (.sl s7) (a.fld 4) && fit M (.sl s7) (b.fld 4)) = true := and_both (fit_fld ha 4 rfl) (fit_fld hb 4 rfl)
  rw [f138_start]
  simp only [h3, h4, cond_true]
  show _ = some [Dat.b (((a.fld 0).int == (b.fld 0).int) && (((a.fld 1).int == (b.fld 1).int) && (((a.fld 2).int == (b.fld 2).int) && (deq (.sl s7) (a.fld 3) (b.fld 3) && (deq (.sl s7) (a.fld 4) (b.fld 4) && true)))))]
  exact (and_step (and_step (and_step (and_step (and_step rfl)))))


/-! laws.eqFrameS -/
abbrev C129 : FuncId → Option Sig := tabC [(138, eqSig s11)]
theorem hC129 : ∀ g sg, C129 g = some sg → ConOk Tryz.prog g sg := (tabC_cons con138 tabC_nil)
abbrev keep129 : Nat → List Nat | 0 => [0, 1, 4, 5] | _ => []
def S129_0 (x0 : Dat) (x1 : Dat) (x5 : Int) : St := ⟨[.ro s11 x0, .ro s11 x1, .u, .u, .bool false, .int .i64 x5] ++ us 21, []⟩
theorem f129_round0 (K n : Nat) (x0 : Dat) (x1 : Dat) (x5 : Int) :
    loopE T C129 K keep129 Tryz.f129 0 0 (behind T C129 K keep129 Tryz.f129 [.bool] 0) (n + 1) (S129_0 x0 x1 x5) =
      (bif decide (x5 < (x0.len : Int)) then (bif (decide (0 ≤ x5) && decide (x5 < (x0.len : Int))) then (bif (decide (0 ≤ x5) && decide (x5 < (x1.len : Int))) then (bif (fit M s11 (x0.fld x5.toNat) && fit M s11 (x1.fld x5.toNat)) then (bif (!(deq s11 (x0.fld x5.toNat) (x1.fld x5.toNat))) then some [(Dat.b false)] else loopE T C129 K keep129 Tryz.f129 0 0 (behind T C129 K keep129 Tryz.f129 [.bool] 0) n (S129_0 x0 x1 (IntKind.i64.wrap (x5 + (1 : Int))))) else none) else none) else none) else some [(Dat.b true)]) := by kernel_rfl
theorem f129_start (K : Nat) (a : Dat) (b : Dat) : evBody T C129 noL K keep129 Tryz.f129 [(.sl s11), (.sl s11)] [.bool] [a, b] =
      (bif ((a.len : Int) != (b.len : Int)) then some [(Dat.b false)] else loopE T C129 K keep129 Tryz.f129 0 0 (behind T C129 K keep129 Tryz.f129 [.bool] 0) K (S129_0 a b (0 : Int))) := by kernel_rfl
theorem con129 : ConOk Tryz.prog 129 (eqSig (.sl s11)) := con hM hD hT hC129 keep129 Tryz.func129 (by kernel_rfl) (by kernel_rfl) fun ds hl hp => by
  obtain ⟨a, b, rfl⟩ := ds_two hl
  obtain ⟨ha, hb⟩ := both (show (fit M (.sl s11) a && fit M (.sl s11) b) = true from hp)
  obtain ⟨hn, he⟩ := fit_sl ha
  obtain ⟨hn2, he2⟩ := fit_sl hb
  refine ⟨a.len + 1, ?_⟩
  rw [f129_start]
  show _ = some [Dat.b (deq (.sl s11) a b)]
  rw [deq_sl]
  by_cases hlen : a.len = b.len
  · have c1 : ((a.len : Int) != (b.len : Int)) = false := by simp [hlen]
    have c2 : (a.len == b.len) = true := by simp [hlen]
    rw [c1, cond_false, c2, Bool.true_and]
    refine (all_loop (E := fun n j => loopE T C129 (a.len + 1) keep129 Tryz.f129 0 0 (behind T C129 (a.len + 1) keep129 Tryz.f129 [.bool] 0) n (S129_0 a b ((j : Nat) : Int))) (N := a.len) (p := fun j => deq s11 (a.fld j) (b.fld j)) (kT := some [.b true]) (kF := some [.b false]) (fun n j hj => ?_) (fun n => ?_)).trans ?_
    · have hj2 : j < b.len := by omega
      have f1 := he j hj
      have f2 := he2 j hj2
      show loopE T C129 (a.len + 1) keep129 Tryz.f129 0 0 (behind T C129 (a.len + 1) keep129 Tryz.f129 [.bool] 0) (n + 1) (S129_0 a b ((j : Nat) : Int)) = _
      rw [f129_round0]
      simp only [dlt hj, dge, dlt hj2, Int.toNat_natCast, f1, f2, Bool.and_self, cond_true, wrap_succ hj hn]
      cases deq s11 (a.fld j) (b.fld j) <;> rfl
    · show loopE T C129 (a.len + 1) keep129 Tryz.f129 0 0 (behind T C129 (a.len + 1) keep129 Tryz.f129 [.bool] 0) (n + 1) (S129_0 a b ((a.len : Nat) : Int)) = _
      rw [f129_round0, dnlt (Nat.lt_irrefl _)]; rfl
    · cases (List.range a.len).all fun j => deq s11 (a.fld j) (b.fld j) <;> rfl
  · have c1 : ((a.len : Int) != (b.len : Int)) = true := by simp; omega
    have c2 : (a.len == b.len) = false := by simp [hlen]
    rw [c1, cond_true, c2]; rfl


/-! laws.eqThread -/
abbrev C113 : FuncId → Option Sig := tabC [(129, eqSig (.sl s11))]
theorem hC113 : ∀ g sg, C113 g = some sg → ConOk Tryz.prog g sg := (tabC_cons con129 tabC_nil)
abbrev keep113 : Nat → List Nat := fun _ => []
theorem f113_start (K : Nat) (a : Dat) (b : Dat) : evBody T C113 noL K keep113 Tryz.f113 [s12, s12] [.bool] [a, b] =
      (bif ((a.fld 0).int != (b.fld 0).int) then some [(Dat.b false)] else (bif (fit M (.sl s11) (a.fld 1) && fit M (.sl s11) (b.fld 1)) then (bif (!(deq (.sl s11) (a.fld 1) (b.fld 1))) then some [(Dat.b false)] else (bif ((a.fld 2).int != (b.fld 2).int) then some [(Dat.b false)] else (bif ((a.fld 3).int != (b.fld 3).int) then some [(Dat.b false)] else some [(Dat.b true)]))) else none)) := by kernel_rfl
theorem con113 : ConOk Tryz.prog 113 (eqSig s12) := con hM hD hT hC113 keep113 Tryz.func113 (by kernel_rfl) (by kernel_rfl) fun ds hl hp => by
  obtain ⟨a, b, rfl⟩ := ds_two hl
  obtain ⟨ha, hb⟩ := both (show (fit M s12 a && fit M s12 b) = true from hp)
  refine ⟨0, ?_⟩
  have h1 : (fit M (.sl s11) (a.fld 1) && fit M (.sl s11) (b.fld 1)) = true := and_both (fit_fld ha 1 rfl) (fit_fld hb 1 rfl)
  rw [f113_start]
  simp only [h1, cond_true]
  show _ = some [Dat.b (((a.fld 0).int == (b.fld 0).int) && (deq (.sl s11) (a.fld 1) (b.fld 1) && (((a.fld 2).int == (b.fld 2).int) && (((a.fld 3).int == (b.fld 3).int) && true))))]
  exact (and_step (and_step (and_step (and_step rfl))))


/-! laws.eqLock -/
abbrev C130 : FuncId → Option Sig := tabC []
theorem hC130 : ∀ g sg, C130 g = some sg → ConOk Tryz.prog g sg := tabC_nil
abbrev keep130 : Nat → List Nat := fun _ => []
theorem f130_start (K : Nat) (a : Dat) (b : Dat) : evBody T C130 noL K keep130 Tryz.f130 [s13, s13] [.bool] [a, b] =
      (bif ((a.fld 0).int != (b.fld 0).int) then some [(Dat.b false)] else (bif ((a.fld 1).int != (b.fld 1).int) then some [(Dat.b false)] else (bif ((a.fld 2).int != (b.fld 2).int) then some [(Dat.b false)] else some [(Dat.b true)]))) := by kernel_rfl
theorem con130 : ConOk Tryz.prog 130 (eqSig s13) := con hM hD hT hC130 keep130 Tryz.func130 (by kernel_rfl) (by kernel_rfl) fun ds hl hp => by
  obtain ⟨a, b, rfl⟩ := ds_two hl
  obtain ⟨ha, hb⟩ := both (show (fit M s13 a && fit M s13 b) = true from hp)
  refine ⟨0, ?_⟩
  rw [f130_start]
  show _ = some [Dat.b (((a.fld 0).int == (b.fld 0).int) && (((a.fld 1).int == (b.fld 1).int) && (((a.fld 2).int == (b.fld 2).int) && true)))]
  exact (and_step (and_step (and_step rfl)))


/-! laws.eqLockS -/
abbrev C114 : FuncId → Option Sig := tabC [(130, eqSig s13)]
theorem hC114 : ∀ g sg, C114 g = some sg → ConOk Tryz.prog g sg := (tabC_cons con130 tabC_nil)
abbrev keep114 : Nat → List Nat | 0 => [0, 1, 4, 5] | _ => []
def S114_0 (x0 : Dat) (x1 : Dat) (x5 : Int) : St := ⟨[.ro s13 x0, .ro s13 x1, .u, .u, .bool false, .int .i64 x5] ++ us 21, []⟩
theorem f114_round0 (K n : Nat) (x0 : Dat) (x1 : Dat) (x5 : Int) :
    loopE T C114 K keep114 Tryz.f114 0 0 (behind T C114 K keep114 Tryz.f114 [.bool] 0) (n + 1) (S114_0 x0 x1 x5) =
      (bif decide (x5 < (x0.len : Int)) then (bif (decide (0 ≤ x5) && decide (x5 < (x0.len : Int))) then (bif (decide (0 ≤ x5) && decide (x5 < (x1.len : Int))) then (bif (fit M s13 (x0.fld x5.toNat) && fit M s13 (x1.fld x5.toNat)) then (bif (!(deq s13 (x0.fld x5.toNat) (x1.fld x5.toNat))) then some [(Dat.b false)] else loopE T C114 K keep114 Tryz.f114 0 0 (behind T C114 K keep114 Tryz.f114 [.bool] 0) n (S114_0 x0 x1 (IntKind.i64.wrap (x5 + (1 : Int))))) else none) else none) else none) else some [(Dat.b true)]) := by kernel_rfl
theorem f114_start (K : Nat) (a : Dat) (b : Dat) : evBody T C114 noL K keep114 Tryz.f114 [(.sl s13), (.sl s13)] [.bool] [a, b] =
      (bif ((a.len : Int) != (b.len : Int)) then some [(Dat.b false)] else loopE T C114 K keep114 Tryz.f114 0 0 (behind T C114 K keep114 Tryz.f114 [.bool] 0) K (S114_0 a b (0 : Int))) := by kernel_rfl
theorem con114 : ConOk Tryz.prog 114 (eqSig (.sl s13)) := con hM hD hT hC114 keep114 Tryz.func114 (by kernel_rfl) (by kernel_rfl) fun ds hl hp => by
  obtain ⟨a, b, rfl⟩ := ds_two hl
  obtain ⟨ha, hb⟩ := both (show (fit M (.sl s13) a && fit M (.sl s13) b) = true from hp)
  obtain ⟨hn, he⟩ := fit_sl ha
  obtain ⟨hn2, he2⟩ := fit_sl hb
  refine ⟨a.len + 1, ?_⟩
  rw [f114_start]
  show _ = some [Dat.b (deq (.sl s13) a b)]
  rw [deq_sl]
  by_cases hlen : a.len = b.len
  · have c1 : ((a.len : Int) != (b.len : Int)) = false := by simp [hlen]
    have c2 : (a.len == b.len) = true := by simp [hlen]
    rw [c1, cond_false, c2, Bool.true_and]
    refine (all_loop (E := fun n j => loopE T C114 (a.len + 1) keep114 Tryz.f114 0 0 (behind T C114 (a.len + 1) keep114 Tryz.f114 [.bool] 0) n (S114_0 a b ((j : Nat) : Int))) (N := a.len) (p := fun j => deq s13 (a.fld j) (b.fld j)) (kT := some [.b true]) (kF := some [.b false]) (fun n j hj => ?_) (fun n => ?_)).trans ?_
    · have hj2 : j < b.len := by omega
      have f1 := he j hj
      have f2 := he2 j hj2
      show loopE T C114 (a.len + 1) keep114 Tryz.f114 0 0 (behind T C114 (a.len + 1) keep114 Tryz.f114 [.bool] 0) (n + 1) (S114_0 a b ((j : Nat) : Int)) = _
      rw [f114_round0]
      simp only [dlt hj, dge, dlt hj2, Int.toNat_natCast, f1, f2, Bool.and_self, cond_true, wrap_succ hj hn]
      cases deq s13 (a.fld j) (b.fld j) <;> rfl
    · show loopE T C114 (a.len + 1) keep114 Tryz.f114 0 0 (behind T C114 (a.len + 1) keep114 Tryz.f114 [.bool] 0) (n + 1) (S114_0 a b ((a.len : Nat) : Int)) = _
      rw [f114_round0, dnlt (Nat.lt_irrefl _)]; rfl
    · cases (List.range a.len).all fun j => deq s13 (a.fld j) (b.fld j) <;> rfl
  · have c1 : ((a.len : Int) != (b.len : Int)) = true := by simp; omega
    have c2 : (a.len == b.len) = false := by simp [hlen]
    rw [c1, cond_true, c2]; rfl


/-! laws.eqTask -/
abbrev C91 : FuncId → Option Sig := tabC [(113, eqSig s12), (114, eqSig (.sl s13))]
theorem hC91 : ∀ g sg, C91 g = some sg → ConOk Tryz.prog g sg := (tabC_cons con113 (tabC_cons con114 tabC_nil))
abbrev keep91 : Nat → List Nat := fun _ => []
theorem f91_start (K : Nat) (a : Dat) (b : Dat) : evBody T C91 noL K keep91 Tryz.f91 [s14, s14] [.bool] [a, b] =
      (bif (fit M s12 (a.fld 0) && fit M s12 (b.fld 0)) then (bif (!(deq s12 (a.fld 0) (b.fld 0))) then some [(Dat.b false)] else (bif ((a.fld 1).int != (b.fld 1).int) then some [(Dat.b false)] else (bif ((a.fld 2).int != (b.fld 2).int) then some [(Dat.b false)] else (bif (fit M (.sl s13) (a.fld 3) && fit M (.sl s13) (b.fld 3)) then (bif (!(deq (.sl s13) (a.fld 3) (b.fld 3))) then some [(Dat.b false)] else some [(Dat.b true)]) else none)))) else none) := by kernel_rfl
theorem con91 : ConOk Tryz.prog 91 (eqSig s14) := con hM hD hT hC91 keep91 Tryz.func91 (by kernel_rfl) (by kernel_rfl) fun ds hl hp => by
  obtain ⟨a, b, rfl⟩ := ds_two hl
  obtain ⟨ha, hb⟩ := both (show (fit M s14 a && fit M s14 b) = true from hp)
  refine ⟨0, ?_⟩
  have h0 : (fit M s12 (a.fld 0) && fit M s12 (b.fld 0)) = true := and_both (fit_fld ha 0 rfl) (fit_fld hb 0 rfl)
  have h3 : (fit M (.sl s13) (a.fld 3) && fit M (.sl s13) (b.fld 3)) = true := and_both (fit_fld ha 3 rfl) (fit_fld hb 3 rfl)
  rw [f91_start]
  simp only [h0, h3, cond_true]
  show _ = some [Dat.b (deq s12 (a.fld 0) (b.fld 0) && (((a.fld 1).int == (b.fld 1).int) && (((a.fld 2).int == (b.fld 2).int) && (deq (.sl s13) (a.fld 3) (b.fld 3) && true))))]
  exact (and_step (and_step (and_step (and_step rfl))))


/-! laws.eqTaskS -/
abbrev C57 : FuncId → Option Sig := tabC [(91, eqSig s14)]
theorem hC57 : ∀ g sg, C57 g = some sg → ConOk Tryz.prog g sg := (tabC_cons con91 tabC_nil)
abbrev keep57 : Nat → List Nat | 0 => [0, 1, 4, 5] | _ => []
def S57_0 (x0 : Dat) (x1 : Dat) (x5 : Int) : St := ⟨[.ro s14 x0, .ro s14 x1, .u, .u, .bool false, .int .i64 x5] ++ us 21, []⟩
theorem f57_round0 (K n : Nat) (x0 : Dat) (x1 : Dat) (x5 : Int) :
    loopE T C57 K keep57 Tryz.f57 0 0 (behind T C57 K keep57 Tryz.f57 [.bool] 0) (n + 1) (S57_0 x0 x1 x5) =
      (bif decide (x5 < (x0.len : Int)) then (bif (decide (0 ≤ x5) && decide (x5 < (x0.len : Int))) then (bif (decide (0 ≤ x5) && decide (x5 < (x1.len : Int))) then (bif (fit M s14 (x0.fld x5.toNat) && fit M s14 (x1.fld x5.toNat)) then (bif (!(deq s14 (x0.fld x5.toNat) (x1.fld x5.toNat))) then some [(Dat.b false)] else loopE T C57 K keep57 Tryz.f57 0 0 (behind T C57 K keep57 Tryz.f57 [.bool] 0) n (S57_0 x0 x1 (IntKind.i64.wrap (x5 + (1 : Int))))) else none) else none) else none) else some [(Dat.b true)]) := by kernel_rfl
theorem f57_start (K : Nat) (a : Dat) (b : Dat) : evBody T C57 noL K keep57 Tryz.f57 [(.sl s14), (.sl s14)] [.bool] [a, b] =
      (bif ((a.len : Int) != (b.len : Int)) then some [(Dat.b false)] else loopE T C57 K keep57 Tryz.f57 0 0 (behind T C57 K keep57 Tryz.f57 [.bool] 0) K (S57_0 a b (0 : Int))) := by kernel_rfl
theorem con57 : ConOk Tryz.prog 57 (eqSig (.sl s14)) := con hM hD hT hC57 keep57 Tryz.func57 (by kernel_rfl) (by kernel_rfl) fun ds hl hp => by
  obtain ⟨a, b, rfl⟩ := ds_two hl
  obtain ⟨ha, hb⟩ := both (show (fit M (.sl s14) a && fit M (.sl s14) b) = true from hp)
  obtain ⟨hn, he⟩ := fit_sl ha
  obtain ⟨hn2, he2⟩ := fit_sl hb
  refine ⟨a.len + 1, ?_⟩
  rw [f57_start]
  show _ = some [Dat.b (deq (.sl s14) a b)]
  rw [deq_sl]
  by_cases hlen : a.len = b.len
  · have c1 : ((a.len : Int) != (b.len : Int)) = false := by simp [hlen]
    have c2 : (a.len == b.len) = true := by simp [hlen]
    rw [c1, cond_false, c2, Bool.true_and]
    refine (all_loop (E := fun n j => loopE T C57 (a.len + 1) keep57 Tryz.f57 0 0 (behind T C57 (a.len + 1) keep57 Tryz.f57 [.bool] 0) n (S57_0 a b ((j : Nat) : Int))) (N := a.len) (p := fun j => deq s14 (a.fld j) (b.fld j)) (kT := some [.b true]) (kF := some [.b false]) (fun n j hj => ?_) (fun n => ?_)).trans ?_
    · have hj2 : j < b.len := by omega
      have f1 := he j hj
      have f2 := he2 j hj2
      show loopE T C57 (a.len + 1) keep57 Tryz.f57 0 0 (behind T C57 (a.len + 1) keep57 Tryz.f57 [.bool] 0) (n + 1) (S57_0 a b ((j : Nat) : Int)) = _
      rw [f57_round0]
      simp only [dlt hj, dge, dlt hj2, Int.toNat_natCast, f1, f2, Bool.and_self, cond_true, wrap_succ hj hn]
      cases deq s14 (a.fld j) (b.fld j) <;> rfl
    · show loopE T C57 (a.len + 1) keep57 Tryz.f57 0 0 (behind T C57 (a.len + 1) keep57 Tryz.f57 [.bool] 0) (n + 1) (S57_0 a b ((a.len : Nat) : Int)) = _
      rw [f57_round0, dnlt (Nat.lt_irrefl _)]; rfl
    · cases (List.range a.len).all fun j => deq s14 (a.fld j) (b.fld j) <;> rfl
  · have c1 : ((a.len : Int) != (b.len : Int)) = true := by simp; omega
    have c2 : (a.len == b.len) = false := by simp [hlen]
    rw [c1, cond_true, c2]; rfl


/-! laws.eqEnd -/
abbrev C92 : FuncId → Option Sig := tabC [(56, eqSig (.sl s3)), (21, eqSig (.sl tInt))]
theorem hC92 : ∀ g sg, C92 g = some sg → ConOk Tryz.prog g sg := (tabC_cons con56 (tabC_cons con21 tabC_nil))
abbrev keep92 : Nat → List Nat := fun _ => []
theorem f92_start (K : Nat) (a : Dat) (b : Dat) : evBody T C92 noL K keep92 Tryz.f92 [s15, s15] [.bool] [a, b] =
      (bif ((a.fld 0).int != (b.fld 0).int) then some [(Dat.b false)] else (bif (fit M (.sl s3) (a.fld 1) && fit M (.sl s3) (b.fld 1)) then (bif (!(deq (.sl s3) (a.fld 1) (b.fld 1))) then some [(Dat.b false)] else (bif (fit M (.sl tInt) (a.fld 2) && fit M (.sl tInt) (b.fld 2)) then (bif (!(deq (.sl tInt) (a.fld 2) (b.fld 2))) then some [(Dat.b false)] else some [(Dat.b true)]) else none)) else none)) := by kernel_rfl
theorem con92 : ConOk Tryz.prog 92 (eqSig s15) := con hM hD hT hC92 keep92 Tryz.func92 (by kernel_rfl) (by kernel_rfl) fun ds hl hp => by
  obtain ⟨a, b, rfl⟩ := ds_two hl
  obtain ⟨ha, hb⟩ := both (show (fit M s15 a && fit M s15 b) = true from hp)
  refine ⟨0, ?_⟩
  have h1 : (fit M (.sl s3) (a.fld 1) && fit M (.sl s3) (b.fld 1)) = true := and_both (fit_fld ha 1 rfl) (fit_fld hb 1 rfl)
  have h2 : (fit M (.sl tInt) (a.fld 2) && fit M (.sl tInt) (b.fld 2)) = true := and_both (fit_fld ha 2 rfl) (fit_fld hb 2 rfl)
  rw [f92_start]
  simp only [h1, h2, cond_true]
  show _ = some [Dat.b (((a.fld 0).int == (b.fld 0).int) && (deq (.sl s3) (a.fld 1) (b.fld 1) && (deq (.sl tInt) (a.fld 2) (b.fld 2) && true)))]
  exact (and_step (and_step (and_step rfl)))


/-! laws.eqEndS -/
abbrev C58 : FuncId → Option Sig := tabC [(92, eqSig s15)]
theorem hC58 : ∀ g sg, C58 g = some sg → ConOk Tryz.prog g sg := (tabC_cons con92 tabC_nil)
abbrev keep58 : Nat → List Nat | 0 => [0, 1, 4, 5] | _ => []
def S58_0 (x0 : Dat) (x1 : Dat) (x5 : Int) : St := ⟨[.ro s15 x0, .ro s15 x1, .u, .u, .bool false, .int .i64 x5] ++ us 21, []⟩
theorem f58_round0 (K n : Nat) (x0 : Dat) (x1 : Dat) (x5 : Int) :
    loopE T C58 K keep58 Tryz.f58 0 0 (behind T C58 K keep58 Tryz.f58 [.bool] 0) (n + 1) (S58_0 x0 x1 x5) =
      (bif decide (x5 < (x0.len : Int)) then (bif (decide (0 ≤ x5) && decide (x5 < (x0.len : Int))) then (bif (decide (0 ≤ x5) && decide (x5 < (x1.len : Int))) then (bif (fit M s15 (x0.fld x5.toNat) && fit M s15 (x1.fld x5.toNat)) then (bif (!(deq s15 (x0.fld x5.toNat) (x1.fld x5.toNat))) then some [(Dat.b false)] else loopE T C58 K keep58 Tryz.f58 0 0 (behind T C58 K keep58 Tryz.f58 [.bool] 0) n (S58_0 x0 x1 (IntKind.i64.wrap (x5 + (1 : Int))))) else none) else none) else none) else some [(Dat.b true)]) := by kernel_rfl
theorem f58_start (K : Nat) (a : Dat) (b : Dat) : evBody T C58 noL K keep58 Tryz.f58 [(.sl s15), (.sl s15)] [.bool] [a, b] =
      (bif ((a.len : Int) != (b.len : Int)) then some [(Dat.b false)] else loopE T C58 K keep58 Tryz.f58 0 0 (behind T C58 K keep58 Tryz.f58 [.bool] 0) K (S58_0 a b (0 : Int))) := by kernel_rfl
theorem con58 : ConOk Tryz.prog 58 (eqSig (.sl s15)) := con hM hD hT hC58 keep58 Tryz.func58 (by kernel_rfl) (by kernel_rfl) fun ds hl hp => by
  obtain ⟨a, b, rfl⟩ := ds_two hl
  obtain ⟨ha, hb⟩ := both (show (fit M (.sl s15) a && fit M (.sl s15) b) = true from hp)
  obtain ⟨hn, he⟩ := fit_sl ha
  obtain ⟨hn2, he2⟩ := fit_sl hb
  refine ⟨a.len + 1, ?_⟩
  rw [f58_start]
  show _ = some [Dat.b (deq (.sl s15) a b)]
  rw [deq_sl]
  by_cases hlen : a.len = b.len
  · have c1 : ((a.len : Int) != (b.len : Int)) = false := by simp [hlen]
    have c2 : (a.len == b.len) = true := by simp [hlen]
    rw [c1, cond_false, c2, Bool.true_and]
    refine (all_loop (E := fun n j => loopE T C58 (a.len + 1) keep58 Tryz.f58 0 0 (behind T C58 (a.len + 1) keep58 Tryz.f58 [.bool] 0) n (S58_0 a b ((j : Nat) : Int))) (N := a.len) (p := fun j => deq s15 (a.fld j) (b.fld j)) (kT := some [.b true]) (kF := some [.b false]) (fun n j hj => ?_) (fun n => ?_)).trans ?_
    · have hj2 : j < b.len := by omega
      have f1 := he j hj
      have f2 := he2 j hj2
      show loopE T C58 (a.len + 1) keep58 Tryz.f58 0 0 (behind T C58 (a.len + 1) keep58 Tryz.f58 [.bool] 0) (n + 1) (S58_0 a b ((j : Nat) : Int)) = _
      rw [f58_round0]
      simp only [dlt hj, dge, dlt hj2, Int.toNat_natCast, f1, f2, Bool.and_self, cond_true, wrap_succ hj hn]
      cases deq s15 (a.fld j) (b.fld j) <;> rfl
    · show loopE T C58 (a.len + 1) keep58 Tryz.f58 0 0 (behind T C58 (a.len + 1) keep58 Tryz.f58 [.bool] 0) (n + 1) (S58_0 a b ((a.len : Nat) : Int)) = _
      rw [f58_round0, dnlt (Nat.lt_irrefl _)]; rfl
    · cases (List.range a.len).all fun j => deq s15 (a.fld j) (b.fld j) <;> rfl
  · have c1 : ((a.len : Int) != (b.len : Int)) = true := by simp; omega
    have c2 : (a.len == b.len) = false := by simp [hlen]
    rw [c1, cond_true, c2]; rfl


/-! laws.eqCell -/
abbrev C144 : FuncId → Option Sig := tabC [(128, eqSig s7)]
theorem hC144 : ∀ g sg, C144 g = some sg → ConOk Tryz.prog g sg := (tabC_cons con128 tabC_nil)
abbrev keep144 : Nat → List Nat := fun _ => []
theorem f144_start (K : Nat) (a : Dat) (b : Dat) : evBody T C144 noL K keep144 Tryz.f144 [s16, s16] [.bool] [a, b] =
      (bif ((a.fld 0).int != (b.fld 0).int) then some [(Dat.b false)] else (bif (fit M s7 (a.fld 1) && fit M s7 (b.fld 1)) then (bif (!(deq s7 (a.fld 1) (b.fld 1))) then some [(Dat.b false)] else some [(Dat.b true)]) else none)) := by kernel_rfl
theorem con144 : ConOk Tryz.prog 144 (eqSig s16) := con hM hD hT hC144 keep144 Tryz.func144 (by kernel_rfl) (by kernel_rfl) fun ds hl hp => by
  obtain ⟨a, b, rfl⟩ := ds_two hl
  obtain ⟨ha, hb⟩ := both (show (fit M s16 a && fit M s16 b) = true from hp)
  refine ⟨0, ?_⟩
  have h1 : (fit M s7 (a.fld 1) && fit M s7 (b.fld 1)) = true := and_both (fit_fld ha 1 rfl) (fit_fld hb 1 rfl)
  rw [f144_start]
  simp only [h1, cond_true]
  show _ = some [Dat.b (((a.fld 0).int == (b.fld 0).int) && (deq s7 (a.fld 1) (b.fld 1) && true))]
  exact (and_step (and_step rfl))


/-! laws.eqCellS -/
abbrev C142 : FuncId → Option Sig := tabC [(144, eqSig s16)]
theorem hC142 : ∀ g sg, C142 g = some sg → ConOk Tryz.prog g sg := (tabC_cons con144 tabC_nil)
abbrev keep142 : Nat → List Nat | 0 => [0, 1, 4, 5] | _ => []
def S142_0 (x0 : Dat) (x1 : Dat) (x5 : Int) : St := ⟨[.ro s16 x0, .ro s16 x1, .u, .u, .bool false, .int .i64 x5] ++ us 21, []⟩
theorem f142_round0 (K n : Nat) (x0 : Dat) (x1 : Dat) (x5 : Int) :
    loopE T C142 K keep142 Tryz.f142 0 0 (behind T C142 K keep142 Tryz.f142 [.bool] 0) (n + 1) (S142_0 x0 x1 x5) =
      (bif decide (x5 < (x0.len : Int)) then (bif (decide (0 ≤ x5) && decide (x5 < (x0.len : Int))) then (bif (decide (0 ≤ x5) && decide (x5 < (x1.len : Int))) then (bif (fit M s16 (x0.fld x5.toNat) && fit M s16 (x1.fld x5.toNat)) then (bif (!(deq s16 (x0.fld x5.toNat) (x1.fld x5.toNat))) then some [(Dat.b false)] else loopE T C142 K keep142 Tryz.f142 0 0 (behind T C142 K keep142 Tryz.f142 [.bool] 0) n (S142_0 x0 x1 (IntKind.i64.wrap (x5 + (1 : Int))))) else none) else none) else none) else some [(Dat.b true)]) := by kernel_rfl
theorem f142_start (K : Nat) (a : Dat) (b : Dat) : evBody T C142 noL K keep142 Tryz.f142 [(.sl s16), (.sl s16)] [.bool] [a, b] =
      (bif ((a.len : Int) != (b.len : Int)) then some [(Dat.b false)] else loopE T C142 K keep142 Tryz.f142 0 0 (behind T C142 K keep142 Tryz.f142 [.bool] 0) K (S142_0 a b (0 : Int))) := by kernel_rfl
theorem con142 : ConOk Tryz.prog 142 (eqSig (.sl s16)) := con hM hD hT hC142 keep142 Tryz.func142 (by kernel_rfl) (by kernel_rfl) fun ds hl hp => by
  obtain ⟨a, b, rfl⟩ := ds_two hl
  obtain ⟨ha, hb⟩ := both (show (fit M (.sl s16) a && fit M (.sl s16) b) = true from hp)
  obtain ⟨hn, he⟩ := fit_sl ha
  obtain ⟨hn2, he2⟩ := fit_sl hb
  refine ⟨a.len + 1, ?_⟩
  rw [f142_start]
  show _ = some [Dat.b (deq (.sl s16) a b)]
  rw [deq_sl]
  by_cases hlen : a.len = b.len
  · have c1 : ((a.len : Int) != (b.len : Int)) = false := by simp [hlen]
    have c2 : (a.len == b.len) = true := by simp [hlen]
    rw [c1, cond_false, c2, Bool.true_and]
    refine (all_loop (E := fun n j => loopE T C142 (a.len + 1) keep142 Tryz.f142 0 0 (behind T C142 (a.len + 1) keep142 Tryz.f142 [.bool] 0) n (S142_0 a b ((j : Nat) : Int))) (N := a.len) (p := fun j => deq s16 (a.fld j) (b.fld j)) (kT := some [.b true]) (kF := some [.b false]) (fun n j hj => ?_) (fun n => ?_)).trans ?_
    · have hj2 : j < b.len := by omega
      have f1 := he j hj
      have f2 := he2 j hj2
      show loopE T C142 (a.len + 1) keep142 Tryz.f142 0 0 (behind T C142 (a.len + 1) keep142 Tryz.f142 [.bool] 0) (n + 1) (S142_0 a b ((j : Nat) : Int)) = _
      rw [f142_round0]
      simp only [dlt hj, dge, dlt hj2, Int.toNat_natCast, f1, f2, Bool.and_self, cond_true, wrap_succ hj hn]
      cases deq s16 (a.fld j) (b.fld j) <;> rfl
    · show loopE T C142 (a.len + 1) keep142 Tryz.f142 0 0 (behind T C142 (a.len + 1) keep142 Tryz.f142 [.bool] 0) (n + 1) (S142_0 a b ((a.len : Nat) : Int)) = _
      rw [f142_round0, dnlt (Nat.lt_irrefl _)]; rfl
    · cases (List.range a.len).all fun j => deq s16 (a.fld j) (b.fld j) <;> rfl
  · have c1 : ((a.len : Int) != (b.len : Int)) = true := by simp; omega
    have c2 : (a.len == b.len) = false := by simp [hlen]
    rw [c1, cond_true, c2]; rfl


/-! laws.eqMsg -/
abbrev C139 : FuncId → Option Sig := tabC [(142, eqSig (.sl s16)), (56, eqSig (.sl s3))]
theorem hC139 : ∀ g sg, C139 g = some sg → ConOk Tryz.prog g sg := (tabC_cons con142 (tabC_cons con56 tabC_nil))
abbrev keep139 : Nat → List Nat := fun _ => []
theorem f139_start (K : Nat) (a : Dat) (b : Dat) : evBody T C139 noL K keep139 Tryz.f139 [s17, s17] [.bool] [a, b] =
      (bif ((a.fld 0).int != (b.fld 0).int) then some [(Dat.b false)] else (bif ((a.fld 1).int != (b.fld 1).int) then some [(Dat.b false)] else (bif ((a.fld 2).int != (b.fld 2).int) then some [(Dat.b false)] else (bif ((a.fld 3).int != (b.fld 3).int) then some [(Dat.b false)] else (bif ((a.fld 4).int != (b.fld 4).int) then some [(Dat.b false)] else (bif (fit M (.sl s16) (a.fld 5) && fit M (.sl s16) (b.fld 5)) then (bif (!(deq (.sl s16) (a.fld 5) (b.fld 5))) then some [(Dat.b false)] else (bif (fit M (.sl s3) (a.fld 6) && fit M (.sl s3) (b.fld 6)) then (bif (!(deq (.sl s3) (a.fld 6) (b.fld 6))) then some [(Dat.b false)] else some [(Dat.b true)]) else none)) else none)))))) := by kernel_rfl
theorem con139 : ConOk Tryz.prog 139 (eqSig s17) := con hM hD hT hC139 keep139 Tryz.func139 (by kernel_rfl) (by kernel_rfl) fun ds hl hp => by
  obtain ⟨a, b, rfl⟩ := ds_two hl
  obtain ⟨ha, hb⟩ := both (show (fit M s17 a && fit M s17 b) = true from hp)
  refine ⟨0, ?_⟩
  have h5 : (fit M (.sl s16) (a.fld 5) && fit M (.sl s16) (b.fld 5)) = true := and_both (fit_fld ha 5 rfl) (fit_fld hb 5 rfl)
  have h6 : (fit M (.sl s3) (a.fld 6) && fit M (.sl s3) (b.fld 6)) = true := and_both (fit_fld ha 6 rfl) (fit_fld hb 6 rfl)
  rw [f139_start]
  simp only [h5, h6, cond_true]
  show _ = some [Dat.b (((a.fld 0).int == (b.fld 0).int) && (((a.fld 1).int == (b.fld 1).int) && (((a.fld 2).int == (b.fld 2).int) && (((a.fld 3).int == (b.fld 3).int) && (((a.fld 4).int == (b.fld 4).int) && (deq (.sl s16) (a.fld 5) (b.fld 5) && (deq (.sl s3) (a.fld 6) (b.fld 6) && true)))))))]
  exact (and_step (and_step (and_step (and_step (and_step (and_step (and_step rfl)))))))


/-! laws.eqMsgS -/
abbrev C131 : FuncId → Option Sig := tabC [(139, eqSig s17)]
theorem hC131 : ∀ g sg, C131 g = some sg → ConOk Tryz.prog g sg := (tabC_cons con139 tabC_nil)
abbrev keep131 : Nat → List Nat | 0 => [0, 1, 4, 5] | _ => []
def S131_0 (x0 : Dat) (x1 : Dat) (x5 : Int) : St := ⟨[.ro s17 x0, .ro s17 x1, .u, .u, .bool false, .int .i64 x5] ++ us 21, []⟩
theorem f131_round0 (K n : Nat) (x0 : Dat) (x1 : Dat) (x5 : Int) :
    loopE T C131 K keep131 Tryz.f131 0 0 (behind T C131 K keep131 Tryz.f131 [.bool] 0) (n + 1) (S131_0 x0 x1 x5) =
      (bif decide (x5 < (x0.len : Int)) then (bif (decide (0 ≤ x5) && decide (x5 < (x0.len : Int))) then (bif (decide (0 ≤ x5) && decide (x5 < (x1.len : Int))) then (bif (fit M s17 (x0.fld x5.toNat) && fit M s17 (x1.fld x5.toNat)) then (bif (!(deq s17 (x0.fld x5.toNat) (x1.fld x5.toNat))) then some [(Dat.b false)] else loopE T C131 K keep131 Tryz.f131 0 0 (behind T C131 K keep131 Tryz.f131 [.bool] 0) n (S131_0 x0 x1 (IntKind.i64.wrap (x5 + (1 : Int))))) else none) else none) else none) else some [(Dat.b true)]) := by kernel_rfl
theorem f131_start (K : Nat) (a : Dat) (b : Dat) : evBody T C131 noL K keep131 Tryz.f131 [(.sl s17), (.sl s17)] [.bool] [a, b] =
      (bif ((a.len : Int) != (b.len : Int)) then some [(Dat.b false)] else loopE T C131 K keep131 Tryz.f131 0 0 (behind T C131 K keep131 Tryz.f131 [.bool] 0) K (S131_0 a b (0 : Int))) := by kernel_rfl
theorem con131 : ConOk Tryz.prog 131 (eqSig (.sl s17)) := con hM hD hT hC131 keep131 Tryz.func131 (by kernel_rfl) (by kernel_rfl) fun ds hl hp => by
  obtain ⟨a, b, rfl⟩ := ds_two hl
  obtain ⟨ha, hb⟩ := both (show (fit M (.sl s17) a && fit M (.sl s17) b) = true from hp)
  obtain ⟨hn, he⟩ := fit_sl ha
  obtain ⟨hn2, he2⟩ := fit_sl hb
  refine ⟨a.len + 1, ?_⟩
  rw [f131_start]
  show _ = some [Dat.b (deq (.sl s17) a b)]
  rw [deq_sl]
  by_cases hlen : a.len = b.len
  · have c1 : ((a.len : Int) != (b.len : Int)) = false := by simp [hlen]
    have c2 : (a.len == b.len) = true := by simp [hlen]
    rw [c1, cond_false, c2, Bool.true_and]
    refine (all_loop (E := fun n j => loopE T C131 (a.len + 1) keep131 Tryz.f131 0 0 (behind T C131 (a.len + 1) keep131 Tryz.f131 [.bool] 0) n (S131_0 a b ((j : Nat) : Int))) (N := a.len) (p := fun j => deq s17 (a.fld j) (b.fld j)) (kT := some [.b true]) (kF := some [.b false]) (fun n j hj => ?_) (fun n => ?_)).trans ?_
    · have hj2 : j < b.len := by omega
      have f1 := he j hj
      have f2 := he2 j hj2
      show loopE T C131 (a.len + 1) keep131 Tryz.f131 0 0 (behind T C131 (a.len + 1) keep131 Tryz.f131 [.bool] 0) (n + 1) (S131_0 a b ((j : Nat) : Int)) = _
      rw [f131_round0]
      simp only [dlt hj, dge, dlt hj2, Int.toNat_natCast, f1, f2, Bool.and_self, cond_true, wrap_succ hj hn]
      cases deq s17 (a.fld j) (b.fld j) <;> rfl
    · show loopE T C131 (a.len + 1) keep131 Tryz.f131 0 0 (behind T C131 (a.len + 1) keep131 Tryz.f131 [.bool] 0) (n + 1) (S131_0 a b ((a.len : Nat) : Int)) = _
      rw [f131_round0, dnlt (Nat.lt_irrefl _)]; rfl
    · cases (List.range a.len).all fun j => deq s17 (a.fld j) (b.fld j) <;> rfl
  · have c1 : ((a.len : Int) != (b.len : Int)) = true := by simp; omega
    have c2 : (a.len == b.len) = false := by simp [hlen]
    rw [c1, cond_true, c2]; rfl


/-! laws.eqSender -/
abbrev C115 : FuncId → Option Sig := tabC [(131, eqSig (.sl s17))]
theorem hC115 : ∀ g sg, C115 g = some sg → ConOk Tryz.prog g sg := (tabC_cons con131 tabC_nil)
abbrev keep115 : Nat → List Nat := fun _ => []
theorem f115_start (K : Nat) (a : Dat) (b : Dat) : evBody T C115 noL K keep115 Tryz.f115 [s18, s18] [.bool] [a, b] =
      (bif ((a.fld 0).int != (b.fld 0).int) then some [(Dat.b false)] else (bif (fit M (.sl s17) (a.fld 1) && fit M (.sl s17) (b.fld 1)) then (bif (!(deq (.sl s17) (a.fld 1) (b.fld 1))) then some [(Dat.b false)] else some [(Dat.b true)]) else none)) := by kernel_rfl
theorem con115 : ConOk Tryz.prog 115 (eqSig s18) := con hM hD hT hC115 keep115 Tryz.func115 (by kernel_rfl) (by kernel_rfl) fun ds hl hp => by
  obtain ⟨a, b, rfl⟩ := ds_two hl
  obtain ⟨ha, hb⟩ := both (show (fit M s18 a && fit M s18 b) = true from hp)
  refine ⟨0, ?_⟩
  have h1 : (fit M (.sl s17) (a.fld 1) && fit M (.sl s17) (b.fld 1)) = true := and_both (fit_fld ha 1 rfl) (fit_fld hb 1 rfl)
  rw [f115_start]
  simp only [h1, cond_true]
  show _ = some [Dat.b (((a.fld 0).int == (b.fld 0).int) && (deq (.sl s17) (a.fld 1) (b.fld 1) && true))]
  exact (and_step (and_step rfl))


/-! laws.eqLine -/
abbrev C93 : FuncId → Option Sig := tabC [(115, eqSig s18)]
theorem hC93 : ∀ g sg, C93 g = some sg → ConOk Tryz.prog g sg := (tabC_cons con115 tabC_nil)
abbrev keep93 : Nat → List Nat := fun _ => []
theorem f93_start (K : Nat) (a : Dat) (b : Dat) : evBody T C93 noL K keep93 Tryz.f93 [s19, s19] [.bool] [a, b] =
      (bif (fit M s18 (a.fld 0) && fit M s18 (b.fld 0)) then (bif (!(deq s18 (a.fld 0) (b.fld 0))) then some [(Dat.b false)] else (bif ((a.fld 1).int != (b.fld 1).int) then some [(Dat.b false)] else some [(Dat.b true)])) else none) := by kernel_rfl
theorem con93 : ConOk Tryz.prog 93 (eqSig s19) := con hM hD hT hC93 keep93 Tryz.func93 (by kernel_rfl) (by kernel_rfl) fun ds hl hp => by
  obtain ⟨a, b, rfl⟩ := ds_two hl
  obtain ⟨ha, hb⟩ := both (show (fit M s19 a && fit M s19 b) = true from hp)
  refine ⟨0, ?_⟩
  have h0 : (fit M s18 (a.fld 0) && fit M s18 (b.fld 0)) = true := and_both (fit_fld ha 0 rfl) (fit_fld hb 0 rfl)
  rw [f93_start]
  simp only [h0, cond_true]
  show _ = some [Dat.b (deq s18 (a.fld 0) (b.fld 0) && (((a.fld 1).int == (b.fld 1).int) && true))]
  exact (and_step (and_step rfl))


/-! laws.eqLineS -/
abbrev C59 : FuncId → Option Sig := tabC [(93, eqSig s19)]
theorem hC59 : ∀ g sg, C59 g = some sg → ConOk Tryz.prog g sg := (tabC_cons con93 tabC_nil)
abbrev keep59 : Nat → List Nat | 0 => [0, 1, 4, 5] | _ => []
def S59_0 (x0 : Dat) (x1 : Dat) (x5 : Int) : St := ⟨[.ro s19 x0, .ro s19 x1, .u, .u, .bool false, .int .i64 x5] ++ us 21, []⟩
theorem f59_round0 (K n : Nat) (x0 : Dat) (x1 : Dat) (x5 : Int) :
    loopE T C59 K keep59 Tryz.f59 0 0 (behind T C59 K keep59 Tryz.f59 [.bool] 0) (n + 1) (S59_0 x0 x1 x5) =
      (bif decide (x5 < (x0.len : Int)) then (bif (decide (0 ≤ x5) && decide (x5 < (x0.len : Int))) then (bif (decide (0 ≤ x5) && decide (x5 < (x1.len : Int))) then (bif (fit M s19 (x0.fld x5.toNat) && fit M s19 (x1.fld x5.toNat)) then (bif (!(deq s19 (x0.fld x5.toNat) (x1.fld x5.toNat))) then some [(Dat.b false)] else loopE T C59 K keep59 Tryz.f59 0 0 (behind T C59 K keep59 Tryz.f59 [.bool] 0) n (S59_0 x0 x1 (IntKind.i64.wrap (x5 + (1 : Int))))) else none) else none) else none) else some [(Dat.b true)]) := by kernel_rfl
theorem f59_start (K : Nat) (a : Dat) (b : Dat) : evBody T C59 noL K keep59 Tryz.f59 [(.sl s19), (.sl s19)] [.bool] [a, b] =
      (bif ((a.len : Int) != (b.len : Int)) then some [(Dat.b false)] else loopE T C59 K keep59 Tryz.f59 0 0 (behind T C59 K keep59 Tryz.f59 [.bool] 0) K (S59_0 a b (0 : Int))) := by kernel_rfl
theorem con59 : ConOk Tryz.prog 59 (eqSig (.sl s19)) := con hM hD hT hC59 keep59 Tryz.func59 (by kernel_rfl) (by kernel_rfl) fun ds hl hp => by
  obtain ⟨a, b, rfl⟩ := ds_two hl
  obtain ⟨ha, hb⟩ := both (show (fit M (.sl s19) a && fit M (.sl s19) b) = true from hp)
  obtain ⟨hn, he⟩ := fit_sl ha
  obtain ⟨hn2, he2⟩ := fit_sl hb
  refine ⟨a.len + 1, ?_⟩
  rw [f59_start]
  show _ = some [Dat.b (deq (.sl s19) a b)]
  rw [deq_sl]
  by_cases hlen : a.len = b.len
  · have c1 : ((a.len : Int) != (b.len : Int)) = false := by simp [hlen]
    have c2 : (a.len == b.len) = true := by simp [hlen]
    rw [c1, cond_false, c2, Bool.true_and]
    refine (all_loop (E := fun n j => loopE T C59 (a.len + 1) keep59 Tryz.f59 0 0 (behind T C59 (a.len + 1) keep59 Tryz.f59 [.bool] 0) n (S59_0 a b ((j : Nat) : Int))) (N := a.len) (p := fun j => deq s19 (a.fld j) (b.fld j)) (kT := some [.b true]) (kF := some [.b false]) (fun n j hj => ?_) (fun n => ?_)).trans ?_
    · have hj2 : j < b.len := by omega
      have f1 := he j hj
      have f2 := he2 j hj2
      show loopE T C59 (a.len + 1) keep59 Tryz.f59 0 0 (behind T C59 (a.len + 1) keep59 Tryz.f59 [.bool] 0) (n + 1) (S59_0 a b ((j : Nat) : Int)) = _
      rw [f59_round0]
      simp only [dlt hj, dge, dlt hj2, Int.toNat_natCast, f1, f2, Bool.and_self, cond_true, wrap_succ hj hn]
      cases deq s19 (a.fld j) (b.fld j) <;> rfl
    · show loopE T C59 (a.len + 1) keep59 Tryz.f59 0 0 (behind T C59 (a.len + 1) keep59 Tryz.f59 [.bool] 0) (n + 1) (S59_0 a b ((a.len : Nat) : Int)) = _
      rw [f59_round0, dnlt (Nat.lt_irrefl _)]; rfl
    · cases (List.range a.len).all fun j => deq s19 (a.fld j) (b.fld j) <;> rfl
  · have c1 : ((a.len : Int) != (b.len : Int)) = true := by simp; omega
    have c2 : (a.len == b.len) = false := by simp [hlen]
    rw [c1, cond_true, c2]; rfl


/-! laws.eqNode -/
abbrev C29 : FuncId → Option Sig := tabC [(52, eqSig (.sl s8)), (53, eqSig (.sl s9)), (54, eqSig (.sl s3)), (55, eqSig (.sl s10)), (56, eqSig (.sl s3)), (57, eqSig (.sl s14)), (58, eqSig (.sl s15)), (21, eqSig (.sl tInt)), (59, eqSig (.sl s19))]
theorem hC29 : ∀ g sg, C29 g = some sg → ConOk Tryz.prog g sg := (tabC_cons con52 (tabC_cons con53 (tabC_cons con54 (tabC_cons con55 (tabC_cons con56 (tabC_cons con57 (tabC_cons con58 (tabC_cons con21 (tabC_cons con59 tabC_nil)))))))))
abbrev keep29 : Nat → List Nat := fun _ => []
theorem f29_start (K : Nat) (a : Dat) (b : Dat) : evBody T C29 noL K keep29 Tryz.f29 [s20, s20] [.bool] [a, b] =
      (bif ((a.fld 0).int != (b.fld 0).int) then some [(Dat.b false)] else (bif (fit M (.sl s8) (a.fld 1) && fit M (.sl s8) (b.fld 1)) then (bif (!(deq (.sl s8) (a.fld 1) (b.fld 1))) then some [(Dat.b false)] else (bif (fit M (.sl s9) (a.fld 2) && fit M (.sl s9) (b.fld 2)) then (bif (!(deq (.sl s9) (a.fld 2) (b.fld 2))) then some [(Dat.b false)] else (bif (fit M (.sl s3) (a.fld 3) && fit M (.sl s3) (b.fld 3)) then (bif (!(deq (.sl s3) (a.fld 3) (b.fld 3))) then some [(Dat.b false)] else (bif (fit M (.sl s10) (a.fld 4) && fit M (.sl s10) (b.fld 4)) then (bif (!(deq (.sl s10) (a.fld 4) (b.fld 4))) then some [(Dat.b false)] else (bif (fit M (.sl s3) (a.fld 5) && fit M (.sl s3) (b.fld 5)) then (bif (!(deq (.sl s3) (a.fld 5) (b.fld 5))) then some [(Dat.b false)] else (bif (fit M (.sl s14) (a.fld 6) && fit M (.sl s14) (b.fld 6)) then (bif (!(deq (.sl s14) (a.fld 6) (b.fld 6))) then some [(Dat.b false)] else (bif (fit M (.sl s15) (a.fld 7) && fit M (.sl s15) (b.fld 7)) then (bif (!(deq (.sl s15) (a.fld 7) (b.fld 7))) then some [(Dat.b false)] else (bif (fit M (.sl tInt) (a.fld 8) && fit M (.sl tInt) (b.fld 8)) then (bif (!(deq (.sl tInt) (a.fld 8) (b.fld 8))) then some [(Dat.b false)] else (bif (fit M (.sl s19) (a.fld 9) && fit M (.sl s19) (b.fld 9)) then (bif (!(deq (.sl s19) (a.fld 9) (b.fld 9))) then some [(Dat.b false)] else some [(Dat.b true)]) else none)) else none)) else none)) else none)) else none)) else none)) else none)) else none)) else none)) := by kernel_rfl
theorem con29 : ConOk Tryz.prog 29 (eqSig s20) := con hM hD hT hC29 keep29 Tryz.func29 (by kernel_rfl) (by kernel_rfl) fun ds hl hp => by
  obtain ⟨a, b, rfl⟩ := ds_two hl
  obtain ⟨ha, hb⟩ := both (show (fit M s20 a && fit M s20 b) = true from hp)
  refine ⟨0, ?_⟩
  have h1 : (fit M (.sl s8) (a.fld 1) && fit M (.sl s8) (b.fld 1)) = true := and_both (fit_fld ha 1 rfl) (fit_fld hb 1 rfl)
  have h2 : (fit M (.sl s9) (a.fld 2) && fit M (.sl s9) (b.fld 2)) = true := and_both (fit_fld ha 2 rfl) (fit_fld hb 2 rfl)
  have h3 : (fit M (.sl s3) (a.fld 3) && fit M (.sl s3) (b.fld 3)) = true := and_both (fit_fld ha 3 rfl) (fit_fld hb 3 rfl)
  have h4 : (fit M (.sl s10) (a.fld 4) && fit M (.sl s10) (b.fld 4)) = true := and_both (fit_fld ha 4 rfl) (fit_fld hb 4 rfl)
  have h5 : (fit M (.sl s3) (a.fld 5) && fit M (.sl s3) (b.fld 5)) = true := and_both (fit_fld ha 5 rfl) (fit_fld hb 5 rfl)
  have h6 : (fit M (.sl s14) (a.fld 6) && fit M (.sl s14) (b.fld 6)) = true := and_both (fit_fld ha 6 rfl) (fit_fld hb 6 rfl)
  have h7 : (fit M (.sl s15) (a.fld 7) && fit M (.sl s15) (b.fld 7)) = true := and_both (fit_fld ha 7 rfl) (fit_fld hb 7 rfl)
  have h8 : (fit M (.sl tInt) (a.fld 8) && fit M (.sl tInt) (b.fld 8)) = true := and_both (fit_fld ha 8 rfl) (fit_fld hb 8 rfl)
  have h9 : (fit M (.sl s19) (a.fld 9) && fit M (.sl s19) (b.fld 9)) = true := and_both (fit_fld ha 9 rfl) (fit_fld hb 9 rfl)
  rw [f29_start]
  simp only [h1, h2, h3, h4, h5, h6, h7, h8, h9, cond_true]
  show _ = some [Dat.b (((a.fld 0).int == (b.fld 0).int) && (deq (.sl s8) (a.fld 1) (b.fld 1) && (deq (.sl s9) (a.fld 2) (b.fld 2) && (deq (.sl s3) (a.fld 3) (b.fld 3) && (deq (.sl s10) (a.fld 4) (b.fld 4) && (deq (.sl s3) (a.fld 5) (b.fld 5) && (deq (.sl s14) (a.fld 6) (b.fld 6) && (deq (.sl s15) (a.fld 7) (b.fld 7) && (deq (.sl tInt) (a.fld 8) (b.fld 8) && (deq (.sl s19) (a.fld 9) (b.fld 9) && true))))))))))]
  exact (and_step (and_step (and_step (and_step (and_step (and_step (and_step (and_step (and_step (and_step rfl))))))))))


/-! laws.eqNodeS -/
abbrev C19 : FuncId → Option Sig := tabC [(29, eqSig s20)]
theorem hC19 : ∀ g sg, C19 g = some sg → ConOk Tryz.prog g sg := (tabC_cons con29 tabC_nil)
abbrev keep19 : Nat → List Nat | 0 => [0, 1, 4, 5] | _ => []
def S19_0 (x0 : Dat) (x1 : Dat) (x5 : Int) : St := ⟨[.ro s20 x0, .ro s20 x1, .u, .u, .bool false, .int .i64 x5] ++ us 21, []⟩
theorem f19_round0 (K n : Nat) (x0 : Dat) (x1 : Dat) (x5 : Int) :
    loopE T C19 K keep19 Tryz.f19 0 0 (behind T C19 K keep19 Tryz.f19 [.bool] 0) (n + 1) (S19_0 x0 x1 x5) =
      (bif decide (x5 < (x0.len : Int)) then (bif (decide (0 ≤ x5) && decide (x5 < (x0.len : Int))) then (bif (decide (0 ≤ x5) && decide (x5 < (x1.len : Int))) then (bif (fit M s20 (x0.fld x5.toNat) && fit M s20 (x1.fld x5.toNat)) then (bif (!(deq s20 (x0.fld x5.toNat) (x1.fld x5.toNat))) then some [(Dat.b false)] else loopE T C19 K keep19 Tryz.f19 0 0 (behind T C19 K keep19 Tryz.f19 [.bool] 0) n (S19_0 x0 x1 (IntKind.i64.wrap (x5 + (1 : Int))))) else none) else none) else none) else some [(Dat.b true)]) := by kernel_rfl
theorem f19_start (K : Nat) (a : Dat) (b : Dat) : evBody T C19 noL K keep19 Tryz.f19 [(.sl s20), (.sl s20)] [.bool] [a, b] =
      (bif ((a.len : Int) != (b.len : Int)) then some [(Dat.b false)] else loopE T C19 K keep19 Tryz.f19 0 0 (behind T C19 K keep19 Tryz.f19 [.bool] 0) K (S19_0 a b (0 : Int))) := by kernel_rfl
theorem con19 : ConOk Tryz.prog 19 (eqSig (.sl s20)) := con hM hD hT hC19 keep19 Tryz.func19 (by kernel_rfl) (by kernel_rfl) fun ds hl hp => by
  obtain ⟨a, b, rfl⟩ := ds_two hl
  obtain ⟨ha, hb⟩ := both (show (fit M (.sl s20) a && fit M (.sl s20) b) = true from hp)
  obtain ⟨hn, he⟩ := fit_sl ha
  obtain ⟨hn2, he2⟩ := fit_sl hb
  refine ⟨a.len + 1, ?_⟩
  rw [f19_start]
  show _ = some [Dat.b (deq (.sl s20) a b)]
  rw [deq_sl]
  by_cases hlen : a.len = b.len
  · have c1 : ((a.len : Int) != (b.len : Int)) = false := by simp [hlen]
    have c2 : (a.len == b.len) = true := by simp [hlen]
    rw [c1, cond_false, c2, Bool.true_and]
    refine (all_loop (E := fun n j => loopE T C19 (a.len + 1) keep19 Tryz.f19 0 0 (behind T C19 (a.len + 1) keep19 Tryz.f19 [.bool] 0) n (S19_0 a b ((j : Nat) : Int))) (N := a.len) (p := fun j => deq s20 (a.fld j) (b.fld j)) (kT := some [.b true]) (kF := some [.b false]) (fun n j hj => ?_) (fun n => ?_)).trans ?_
    · have hj2 : j < b.len := by omega
      have f1 := he j hj
      have f2 := he2 j hj2
      show loopE T C19 (a.len + 1) keep19 Tryz.f19 0 0 (behind T C19 (a.len + 1) keep19 Tryz.f19 [.bool] 0) (n + 1) (S19_0 a b ((j : Nat) : Int)) = _
      rw [f19_round0]
      simp only [dlt hj, dge, dlt hj2, Int.toNat_natCast, f1, f2, Bool.and_self, cond_true, wrap_succ hj hn]
      cases deq s20 (a.fld j) (b.fld j) <;> rfl
    · show loopE T C19 (a.len + 1) keep19 Tryz.f19 0 0 (behind T C19 (a.len + 1) keep19 Tryz.f19 [.bool] 0) (n + 1) (S19_0 a b ((a.len : Nat) : Int)) = _
      rw [f19_round0, dnlt (Nat.lt_irrefl _)]; rfl
    · cases (List.range a.len).all fun j => deq s20 (a.fld j) (b.fld j) <;> rfl
  · have c1 : ((a.len : Int) != (b.len : Int)) = true := by simp; omega
    have c2 : (a.len == b.len) = false := by simp [hlen]
    rw [c1, cond_true, c2]; rfl


/-! laws.eqByteS -/
abbrev C94 : FuncId → Option Sig := tabC []
theorem hC94 : ∀ g sg, C94 g = some sg → ConOk Tryz.prog g sg := tabC_nil
abbrev keep94 : Nat → List Nat | 0 => [0, 1, 4, 5] | _ => []
def S94_0 (x0 : Dat) (x1 : Dat) (x5 : Int) : St := ⟨[.ro (.int .u8) x0, .ro (.int .u8) x1, .u, .u, .bool false, .int .i64 x5] ++ us 20, []⟩
theorem f94_round0 (K n : Nat) (x0 : Dat) (x1 : Dat) (x5 : Int) :
    loopE T C94 K keep94 Tryz.f94 0 0 (behind T C94 K keep94 Tryz.f94 [.bool] 0) (n + 1) (S94_0 x0 x1 x5) =
      (bif decide (x5 < (x0.len : Int)) then (bif (decide (0 ≤ x5) && decide (x5 < (x0.len : Int))) then (bif (decide (0 ≤ x5) && decide (x5 < (x1.len : Int))) then (bif ((x0.fld x5.toNat).int != (x1.fld x5.toNat).int) then some [(Dat.b false)] else loopE T C94 K keep94 Tryz.f94 0 0 (behind T C94 K keep94 Tryz.f94 [.bool] 0) n (S94_0 x0 x1 (IntKind.i64.wrap (x5 + (1 : Int))))) else none) else none) else some [(Dat.b true)]) := by kernel_rfl
theorem f94_start (K : Nat) (a : Dat) (b : Dat) : evBody T C94 noL K keep94 Tryz.f94 [(.sl (.int .u8)), (.sl (.int .u8))] [.bool] [a, b] =
      (bif ((a.len : Int) != (b.len : Int)) then some [(Dat.b false)] else loopE T C94 K keep94 Tryz.f94 0 0 (behind T C94 K keep94 Tryz.f94 [.bool] 0) K (S94_0 a b (0 : Int))) := by kernel_rfl
theorem con94 : ConOk Tryz.prog 94 (eqSig (.sl (.int .u8))) := con hM hD hT hC94 keep94 Tryz.func94 (by kernel_rfl) (by kernel_rfl) fun ds hl hp => by
  obtain ⟨a, b, rfl⟩ := ds_two hl
  obtain ⟨ha, hb⟩ := both (show (fit M (.sl (.int .u8)) a && fit M (.sl (.int .u8)) b) = true from hp)
  obtain ⟨hn, he⟩ := fit_sl ha
  obtain ⟨hn2, he2⟩ := fit_sl hb
  refine ⟨a.len + 1, ?_⟩
  rw [f94_start]
  show _ = some [Dat.b (deq (.sl (.int .u8)) a b)]
  rw [deq_sl]
  by_cases hlen : a.len = b.len
  · have c1 : ((a.len : Int) != (b.len : Int)) = false := by simp [hlen]
    have c2 : (a.len == b.len) = true := by simp [hlen]
    rw [c1, cond_false, c2, Bool.true_and]
    refine (all_loop (E := fun n j => loopE T C94 (a.len + 1) keep94 Tryz.f94 0 0 (behind T C94 (a.len + 1) keep94 Tryz.f94 [.bool] 0) n (S94_0 a b ((j : Nat) : Int))) (N := a.len) (p := fun j => deq (.int .u8) (a.fld j) (b.fld j)) (kT := some [.b true]) (kF := some [.b false]) (fun n j hj => ?_) (fun n => ?_)).trans ?_
    · have hj2 : j < b.len := by omega
      show loopE T C94 (a.len + 1) keep94 Tryz.f94 0 0 (behind T C94 (a.len + 1) keep94 Tryz.f94 [.bool] 0) (n + 1) (S94_0 a b ((j : Nat) : Int)) = _
      rw [f94_round0]
      simp only [dlt hj, dge, dlt hj2, Int.toNat_natCast, Bool.and_self, cond_true, wrap_succ hj hn]
      simp only [deq, bne]; cases (a.fld j).int == (b.fld j).int <;> rfl
    · show loopE T C94 (a.len + 1) keep94 Tryz.f94 0 0 (behind T C94 (a.len + 1) keep94 Tryz.f94 [.bool] 0) (n + 1) (S94_0 a b ((a.len : Nat) : Int)) = _
      rw [f94_round0, dnlt (Nat.lt_irrefl _)]; rfl
    · cases (List.range a.len).all fun j => deq (.int .u8) (a.fld j) (b.fld j) <;> rfl
  · have c1 : ((a.len : Int) != (b.len : Int)) = true := by simp; omega
    have c2 : (a.len == b.len) = false := by simp [hlen]
    rw [c1, cond_true, c2]; rfl


/-! laws.eqPacket -/
abbrev C60 : FuncId → Option Sig := tabC [(94, eqSig (.sl (.int .u8)))]
theorem hC60 : ∀ g sg, C60 g = some sg → ConOk Tryz.prog g sg := (tabC_cons con94 tabC_nil)
abbrev keep60 : Nat → List Nat := fun _ => []
theorem f60_start (K : Nat) (a : Dat) (b : Dat) : evBody T C60 noL K keep60 Tryz.f60 [s21, s21] [.bool] [a, b] =
      (bif ((a.fld 0).int != (b.fld 0).int) then some [(Dat.b false)] else (bif ((a.fld 1).int != (b.fld 1).int) then some [(Dat.b false)] else (bif (fit M (.sl (.int .u8)) (a.fld 2) && fit M (.sl (.int .u8)) (b.fld 2)) then (bif (!(deq (.sl (.int .u8)) (a.fld 2) (b.fld 2))) then some [(Dat.b false)] else (bif (!((a.fld 3).bool == (b.fld 3).bool)) then some [(Dat.b false)] else some [(Dat.b true)])) else none))) := by kernel_rfl
theorem con60 : ConOk Tryz.prog 60 (eqSig s21) := con hM hD hT hC60 keep60 Tryz.func60 (by kernel_rfl) (by kernel_rfl) fun ds hl hp => by
  obtain ⟨a, b, rfl⟩ := ds_two hl
  obtain ⟨ha, hb⟩ := both (show (fit M s21 a && fit M s21 b) = true from hp)
  refine ⟨0, ?_⟩
  have h2 : (fit M (.sl (.int .u8)) (a.fld 2) && fit M (.sl (.int .u8)) (b.fld 2)) = true := and_both (fit_fld ha 2 rfl) (fit_fld hb 2 rfl)
  rw [f60_start]
  simp only [h2, cond_true]
  show _ = some [Dat.b (((a.fld 0).int == (b.fld 0).int) && (((a.fld 1).int == (b.fld 1).int) && (deq (.sl (.int .u8)) (a.fld 2) (b.fld 2) && (((a.fld 3).bool == (b.fld 3).bool) && true))))]
  exact (and_step (and_step (and_step (and_step rfl))))


/-! laws.eqPacketS -/
abbrev C30 : FuncId → Option Sig := tabC [(60, eqSig s21)]
theorem hC30 : ∀ g sg, C30 g = some sg → ConOk Tryz.prog g sg := (tabC_cons con60 tabC_nil)
abbrev keep30 : Nat → List Nat | 0 => [0, 1, 4, 5] | _ => []
def S30_0 (x0 : Dat) (x1 : Dat) (x5 : Int) : St := ⟨[.ro s21 x0, .ro s21 x1, .u, .u, .bool false, .int .i64 x5] ++ us 21, []⟩
theorem f30_round0 (K n : Nat) (x0 : Dat) (x1 : Dat) (x5 : Int) :
    loopE T C30 K keep30 Tryz.f30 0 0 (behind T C30 K keep30 Tryz.f30 [.bool] 0) (n + 1) (S30_0 x0 x1 x5) =
      (bif decide (x5 < (x0.len : Int)) then (bif (decide (0 ≤ x5) && decide (x5 < (x0.len : Int))) then (bif (decide (0 ≤ x5) && decide (x5 < (x1.len : Int))) then (bif (fit M s21 (x0.fld x5.toNat) && fit M s21 (x1.fld x5.toNat)) then (bif (!(deq s21 (x0.fld x5.toNat) (x1.fld x5.toNat))) then some [(Dat.b false)] else loopE T C30 K keep30 Tryz.f30 0 0 (behind T C30 K keep30 Tryz.f30 [.bool] 0) n (S30_0 x0 x1 (IntKind.i64.wrap (x5 + (1 : Int))))) else none) else none) else none) else some [(Dat.b true)]) := by kernel_rfl
theorem f30_start (K : Nat) (a : Dat) (b : Dat) : evBody T C30 noL K keep30 Tryz.f30 [(.sl s21), (.sl s21)] [.bool] [a, b] =
      (bif ((a.len : Int) != (b.len : Int)) then some [(Dat.b false)] else loopE T C30 K keep30 Tryz.f30 0 0 (behind T C30 K keep30 Tryz.f30 [.bool] 0) K (S30_0 a b (0 : Int))) := by kernel_rfl
theorem con30 : ConOk Tryz.prog 30 (eqSig (.sl s21)) := con hM hD hT hC30 keep30 Tryz.func30 (by kernel_rfl) (by kernel_rfl) fun ds hl hp => by
  obtain ⟨a, b, rfl⟩ := ds_two hl
  obtain ⟨ha, hb⟩ := both (show (fit M (.sl s21) a && fit M (.sl s21) b) = true from hp)
  obtain ⟨hn, he⟩ := fit_sl ha
  obtain ⟨hn2, he2⟩ := fit_sl hb
  refine ⟨a.len + 1, ?_⟩
  rw [f30_start]
  show _ = some [Dat.b (deq (.sl s21) a b)]
  rw [deq_sl]
  by_cases hlen : a.len = b.len
  · have c1 : ((a.len : Int) != (b.len : Int)) = false := by simp [hlen]
    have c2 : (a.len == b.len) = true := by simp [hlen]
    rw [c1, cond_false, c2, Bool.true_and]
    refine (all_loop (E := fun n j => loopE T C30 (a.len + 1) keep30 Tryz.f30 0 0 (behind T C30 (a.len + 1) keep30 Tryz.f30 [.bool] 0) n (S30_0 a b ((j : Nat) : Int))) (N := a.len) (p := fun j => deq s21 (a.fld j) (b.fld j)) (kT := some [.b true]) (kF := some [.b false]) (fun n j hj => ?_) (fun n => ?_)).trans ?_
    · have hj2 : j < b.len := by omega
      have f1 := he j hj
      have f2 := he2 j hj2
      show loopE T C30 (a.len + 1) keep30 Tryz.f30 0 0 (behind T C30 (a.len + 1) keep30 Tryz.f30 [.bool] 0) (n + 1) (S30_0 a b ((j : Nat) : Int)) = _
      rw [f30_round0]
      simp only [dlt hj, dge, dlt hj2, Int.toNat_natCast, f1, f2, Bool.and_self, cond_true, wrap_succ hj hn]
      cases deq s21 (a.fld j) (b.fld j) <;> rfl
    · show loopE T C30 (a.len + 1) keep30 Tryz.f30 0 0 (behind T C30 (a.len + 1) keep30 Tryz.f30 [.bool] 0) (n + 1) (S30_0 a b ((a.len : Nat) : Int)) = _
      rw [f30_round0, dnlt (Nat.lt_irrefl _)]; rfl
    · cases (List.range a.len).all fun j => deq s21 (a.fld j) (b.fld j) <;> rfl
  · have c1 : ((a.len : Int) != (b.len : Int)) = true := by simp; omega
    have c2 : (a.len == b.len) = false := by simp [hlen]
    rw [c1, cond_true, c2]; rfl


/-! laws.eqNet -/
abbrev C20 : FuncId → Option Sig := tabC [(30, eqSig (.sl s21))]
theorem hC20 : ∀ g sg, C20 g = some sg → ConOk Tryz.prog g sg := (tabC_cons con30 tabC_nil)
abbrev keep20 : Nat → List Nat := fun _ => []
theorem f20_start (K : Nat) (a : Dat) (b : Dat) : evBody T C20 noL K keep20 Tryz.f20 [s22, s22] [.bool] [a, b] =
      (bif ((a.fld 0).int != (b.fld 0).int) then some [(Dat.b false)] else (bif (fit M (.sl s21) (a.fld 1) && fit M (.sl s21) (b.fld 1)) then (bif (!(deq (.sl s21) (a.fld 1) (b.fld 1))) then some [(Dat.b false)] else some [(Dat.b true)]) else none)) := by kernel_rfl
theorem con20 : ConOk Tryz.prog 20 (eqSig s22) := con hM hD hT hC20 keep20 Tryz.func20 (by kernel_rfl) (by kernel_rfl) fun ds hl hp => by
  obtain ⟨a, b, rfl⟩ := ds_two hl
  obtain ⟨ha, hb⟩ := both (show (fit M s22 a && fit M s22 b) = true from hp)
  refine ⟨0, ?_⟩
  have h1 : (fit M (.sl s21) (a.fld 1) && fit M (.sl s21) (b.fld 1)) = true := and_both (fit_fld ha 1 rfl) (fit_fld hb 1 rfl)
  rw [f20_start]
  simp only [h1, cond_true]
  show _ = some [Dat.b (((a.fld 0).int == (b.fld 0).int) && (deq (.sl s21) (a.fld 1) (b.fld 1) && true))]
  exact (and_step (and_step rfl))


/-! laws.eqCluster -/
abbrev C8 : FuncId → Option Sig := tabC [(18, eqSig s6), (19, eqSig (.sl s20)), (20, eqSig s22), (21, eqSig (.sl tInt))]
theorem hC8 : ∀ g sg, C8 g = some sg → ConOk Tryz.prog g sg := (tabC_cons con18 (tabC_cons con19 (tabC_cons con20 (tabC_cons con21 tabC_nil))))
abbrev keep8 : Nat → List Nat := fun _ => []
theorem f8_start (K : Nat) (a : Dat) (b : Dat) : evBody T C8 noL K keep8 Tryz.f8 [s23, s23] [.bool] [a, b] =
      (bif (fit M s6 (a.fld 0) && fit M s6 (b.fld 0)) then (bif (!(deq s6 (a.fld 0) (b.fld 0))) then some [(Dat.b false)] else (bif ((a.fld 1).int != (b.fld 1).int) then some [(Dat.b false)] else (bif (fit M (.sl s20) (a.fld 2) && fit M (.sl s20) (b.fld 2)) then (bif (!(deq (.sl s20) (a.fld 2) (b.fld 2))) then some [(Dat.b false)] else (bif (fit M s22 (a.fld 3) && fit M s22 (b.fld 3)) then (bif (!(deq s22 (a.fld 3) (b.fld 3))) then some [(Dat.b false)] else (bif (fit M (.sl tInt) (a.fld 4) && fit M (.sl tInt) (b.fld 4)) then (bif (!(deq (.sl tInt) (a.fld 4) (b.fld 4))) then some [(Dat.b false)] else (bif (fit M (.sl tInt) (a.fld 5) && fit M (.sl tInt) (b.fld 5)) then (bif (!(deq (.sl tInt) (a.fld 5) (b.fld 5))) then some [(Dat.b false)] else some [(Dat.b true)]) else none)) else none)) else none)) else none))) else none) := by kernel_rfl
theorem con8 : ConOk Tryz.prog 8 (eqSig s23) := con hM hD hT hC8 keep8 Tryz.func8 (by kernel_rfl) (by kernel_rfl) fun ds hl hp => by
  obtain ⟨a, b, rfl⟩ := ds_two hl
  obtain ⟨ha, hb⟩ := both (show (fit M s23 a && fit M s23 b) = true from hp)
  refine ⟨0, ?_⟩
  have h0 : (fit M s6 (a.fld 0) && fit M s6 (b.fld 0)) = true := and_both (fit_fld ha 0 rfl) (fit_fld hb 0 rfl)
  have h2 : (fit M (.sl s20) (a.fld 2) && fit M (.sl s20) (b.fld 2)) = true := and_both (fit_fld ha 2 rfl) (fit_fld hb 2 rfl)
  have h3 : (fit M s22 (a.fld 3) && fit M s22 (b.fld 3)) = true := and_both (fit_fld ha 3 rfl) (fit_fld hb 3 rfl)
  have h4 : (fit M (.sl tInt) (a.fld 4) && fit M (.sl tInt) (b.fld 4)) = true := and_both (fit_fld ha 4 rfl) (fit_fld hb 4 rfl)
  have h5 : (fit M (.sl tInt) (a.fld 5) && fit M (.sl tInt) (b.fld 5)) = true := and_both (fit_fld ha 5 rfl) (fit_fld hb 5 rfl)
  rw [f8_start]
  simp only [h0, h2, h3, h4, h5, cond_true]
  show _ = some [Dat.b (deq s6 (a.fld 0) (b.fld 0) && (((a.fld 1).int == (b.fld 1).int) && (deq (.sl s20) (a.fld 2) (b.fld 2) && (deq s22 (a.fld 3) (b.fld 3) && (deq (.sl tInt) (a.fld 4) (b.fld 4) && (deq (.sl tInt) (a.fld 5) (b.fld 5) && true))))))]
  exact (and_step (and_step (and_step (and_step (and_step (and_step rfl))))))



end Go.F2
