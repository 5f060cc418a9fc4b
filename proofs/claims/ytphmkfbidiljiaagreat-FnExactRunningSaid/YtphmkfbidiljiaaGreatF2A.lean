/- Contracts of functions, by program. -/
import Derived.Test.YtphmkfbidiljiaaGreatEvU
import Derived.Test.YtphmkfbidiljiaaGreatProg
namespace Go.F2
open Go Go.Ev Go.Proofs
set_option maxRecDepth 100000
theorem hM : Tryz.prog.follows .mixedOrders = true := by kernel_rfl
theorem hD : 16 ≤ Tryz.prog.depth := of_decide_eq_true (by kernel_rfl)
abbrev tInt : Ty := .int .i64
abbrev s0 : Ty := (.st [tInt, tInt, .bool, (.int .u8)])
abbrev s1 : Ty := (.st [tInt, tInt, .str, .str])
abbrev s2 : Ty := (.st [.str, .str])
abbrev s3 : Ty := (.st [tInt, tInt])
abbrev s4 : Ty := (.st [.str, tInt, (.sl .str), .str, tInt, (.sl s3)])
abbrev s5 : Ty := (.st [.str, tInt, (.sl s1), (.sl s2), (.sl s4)])
abbrev s6 : Ty := (.st [(.sl s5)])
abbrev s7 : Ty := (.st [.bool, tInt])
abbrev s8 : Ty := (.st [tInt, tInt, tInt, .bool, (.sl s7), (.sl s7)])
abbrev s9 : Ty := (.st [tInt, tInt, tInt, (.sl s7)])
abbrev s10 : Ty := (.st [tInt, tInt, (.sl tInt), (.sl s3)])
abbrev s11 : Ty := (.st [tInt, tInt, tInt, (.sl s7), (.sl s7)])
abbrev s12 : Ty := (.st [tInt, (.sl s11), tInt, tInt])
abbrev s13 : Ty := (.st [tInt, tInt, tInt])
abbrev s14 : Ty := (.st [s12, tInt, tInt, (.sl s13)])
abbrev s15 : Ty := (.st [tInt, (.sl s3), (.sl tInt)])
abbrev s16 : Ty := (.st [tInt, s7])
abbrev s17 : Ty := (.st [tInt, tInt, tInt, tInt, tInt, (.sl s16), (.sl s3)])
abbrev s18 : Ty := (.st [tInt, (.sl s17)])
abbrev s19 : Ty := (.st [s18, tInt])
abbrev s20 : Ty := (.st [tInt, (.sl s8), (.sl s9), (.sl s3), (.sl s10), (.sl s3), (.sl s14), (.sl s15), (.sl tInt), (.sl s19)])
abbrev s21 : Ty := (.st [tInt, tInt, (.sl (.int .u8)), .bool])
abbrev s22 : Ty := (.st [tInt, (.sl s21)])
abbrev s23 : Ty := (.st [s6, tInt, (.sl s20), s22, (.sl tInt), (.sl tInt)])
def tab : TyTab := [none, none, none, some tInt, some (.bool), some (.int .u8), none, none, none, some (.str)] ++ List.replicate 12 none ++ [some (.sl s5), none, some s6, some (.sl s20), some (.sl s21), none, some s22, some (.sl tInt), none, some s23, none, none, some (.sl s5), none, some s6, some (.sl s20), some (.sl s21), none, some s22, none, some s23] ++ List.replicate 7 none ++ [some (.sl s8), some (.sl s9), some (.sl s3), some (.sl s10), some (.sl s3), some (.sl s14), some (.sl s15), some (.sl s19), none, some s20, none, some (.sl s11), none, some s12, some (.sl s13), none, some s14] ++ List.replicate 10 none ++ [some (.sl s8), some (.sl s9), some (.sl s3), some (.sl s10), some (.sl s3), some (.sl s14), some (.sl s15), some (.sl s19), none, some s20] ++ List.replicate 8 none ++ [some (.sl s1), some (.sl s2), some (.sl s4), none, some s5] ++ List.replicate 9 none ++ [some (.sl (.int .u8)), none, some s21, some (.sl s1), some (.sl s2), some (.sl s4), none, some s5] ++ List.replicate 9 none ++ [some s21] ++ List.replicate 15 none ++ [some (.sl s7), none, some s8, none, none, some s9, none, none, some s10, none, some (.sl s11), none, some s12, some (.sl s13), none, some s14, none, none, some s15, none, some (.sl s17), none, some s18, none, some s19, none, none, none, none, some (.sl s7), none, some s8, none, none, some s9, none, none, some s3, none, some s3, none, some s10, none, none, some s3, none, some s3, none, none, some s15, none, some (.sl s17), none, some s18, none, some s19] ++ List.replicate 16 none ++ [some s1, none, none, some s2, none, some (.sl .str), some (.sl s3), none, some s4, none, none, none, none, some s1, none, some s2, none, some (.sl s3), none, some s4] ++ List.replicate 19 none ++ [some s7, none, some s7, none, none, some s13, none, some s13] ++ List.replicate 9 none ++ [some s11, none, some (.sl s16), none, some s17, none, some s3, none, some s3, none, some s11, none, some (.sl s16), none, some s17] ++ List.replicate 8 none ++ [some s16, none, none, some s16] ++ List.replicate 18 none
abbrev T : TypeId → Option Ty := TyTab.get tab
theorem hT : ∀ t ty, T t = some ty → TyOk Tryz.prog t ty := tab_ok (by kernel_rfl)

/-! laws.szConst -/
abbrev C95 : FuncId → Option Sig := tabC []
theorem hC95 : ∀ g sg, C95 g = some sg → ConOk Tryz.prog g sg := tabC_nil
abbrev keep95 : Nat → List Nat := fun _ => []
theorem f95_start (K : Nat) (a : Dat) (l : Dat) : evBody T C95 noL K keep95 Tryz.f95 [s1, tInt] [tInt] [a, l] =
      (bif decide ((IntKind.i64.wrap (l.int - (((a.fld 2).str).size : Int))) < (0 : Int)) then some [(Dat.i (-1 : Int))] else (bif decide ((IntKind.i64.wrap ((IntKind.i64.wrap (l.int - (((a.fld 2).str).size : Int))) - (((a.fld 3).str).size : Int))) < (0 : Int)) then some [(Dat.i (-1 : Int))] else some [(Dat.i (IntKind.i64.wrap ((IntKind.i64.wrap (l.int - (((a.fld 2).str).size : Int))) - (((a.fld 3).str).size : Int))))])) := by kernel_rfl
theorem con95 : ConOk Tryz.prog 95 (szSig s1) := con hM hD hT hC95 keep95 Tryz.func95 (by kernel_rfl) (by kernel_rfl) fun ds hl hp => by
  obtain ⟨a, l, rfl⟩ := ds_two hl
  obtain ⟨ha, h0, h1⟩ := sz_pre (show (fit M s1 a && (decide (0 ≤ l.int) && decide (l.int ≤ 1048576))) = true from hp)
  refine ⟨0, ?_⟩
  have k3 : (a.fld 3).str.size ≤ M := Nat.le_of_ble_eq_true (show Nat.ble _ _ = true from fit_fld (t := .str) ha 3 rfl)
  have k2 : (a.fld 2).str.size ≤ M := Nat.le_of_ble_eq_true (show Nat.ble _ _ = true from fit_fld (t := .str) ha 2 rfl)
  have hw : wt s1 a = ((a.fld 2).str.size + ((a.fld 3).str.size + 0)) := by
    simp only [wt_st, wts_cons, wts_nil, wt_int, wt_str, Nat.zero_add, Nat.add_zero]
  show _ = some [Dat.i (szr (wt s1 a) l.int)]
  rw [f95_start, hw]
  exact sz_len (k := fun l0 => (bif decide ((IntKind.i64.wrap (l0 - (((a.fld 3).str).size : Int))) < (0 : Int)) then some [(Dat.i (-1 : Int))] else some [(Dat.i (IntKind.i64.wrap (l0 - (((a.fld 3).str).size : Int))))])) k2 h0 h1 (fun l0 p0 q0 => sz_len (k := fun l1 => some [(Dat.i l1)]) k3 p0 q0 (fun l1 p1 q1 => (by rw [szr_zero p1])))


/-! laws.szConstS -/
abbrev C61 : FuncId → Option Sig := tabC [(95, szSig s1)]
theorem hC61 : ∀ g sg, C61 g = some sg → ConOk Tryz.prog g sg := (tabC_cons con95 tabC_nil)
abbrev keep61 : Nat → List Nat | 0 => [0, 1, 4, 5] | _ => []
def S61_0 (x0 : Dat) (x1 : Int) (x5 : Int) : St := ⟨[.ro s1 x0, .int .i64 x1, .u, .u, .int .i64 (0 : Int), .int .i64 x5] ++ us 21, []⟩
theorem f61_round0 (K n : Nat) (x0 : Dat) (x1 : Int) (x5 : Int) :
    loopE T C61 K keep61 Tryz.f61 0 0 (behind T C61 K keep61 Tryz.f61 [tInt] 0) (n + 1) (S61_0 x0 x1 x5) =
      (bif decide (x5 < (x0.len : Int)) then (bif (decide (0 ≤ x5) && decide (x5 < (x0.len : Int))) then (bif (fit M s1 (x0.fld x5.toNat) && (decide (0 ≤ x1) && decide (x1 ≤ 1048576))) then (bif decide ((szR s1 (x0.fld x5.toNat) x1) < (0 : Int)) then some [(Dat.i (-1 : Int))] else loopE T C61 K keep61 Tryz.f61 0 0 (behind T C61 K keep61 Tryz.f61 [tInt] 0) n (S61_0 x0 (szR s1 (x0.fld x5.toNat) x1) (IntKind.i64.wrap (x5 + (1 : Int))))) else none) else none) else some [(Dat.i x1)]) := by kernel_rfl
theorem f61_start (K : Nat) (a : Dat) (l : Dat) : evBody T C61 noL K keep61 Tryz.f61 [(.sl s1), tInt] [tInt] [a, l] =
      (bif decide ((IntKind.i64.wrap (l.int - (a.len : Int))) < (0 : Int)) then some [(Dat.i (-1 : Int))] else loopE T C61 K keep61 Tryz.f61 0 0 (behind T C61 K keep61 Tryz.f61 [tInt] 0) K (S61_0 a (IntKind.i64.wrap (l.int - (a.len : Int))) (0 : Int))) := by kernel_rfl
theorem con61 : ConOk Tryz.prog 61 (szSig (.sl s1)) := con hM hD hT hC61 keep61 Tryz.func61 (by kernel_rfl) (by kernel_rfl) fun ds hl hp => by
  obtain ⟨a, l, rfl⟩ := ds_two hl
  obtain ⟨ha, h0, h1⟩ := sz_pre (show (fit M (.sl s1) a && (decide (0 ≤ l.int) && decide (l.int ≤ 1048576))) = true from hp)
  obtain ⟨hn, he⟩ := fit_sl ha
  refine ⟨a.len + 1, ?_⟩
  show _ = some [Dat.i (szr (wt (.sl s1) a) l.int)]
  rw [wt_sl]
  rw [f61_start]
  refine sz_len (k := fun l' => loopE T C61 (a.len + 1) keep61 Tryz.f61 0 0 (behind T C61 (a.len + 1) keep61 Tryz.f61 [tInt] 0) (a.len + 1) (S61_0 a l' 0)) hn h0 h1 fun l' p0 p1 => ?_
  exact sz_loop (E := fun n j l => loopE T C61 (a.len + 1) keep61 Tryz.f61 0 0 (behind T C61 (a.len + 1) keep61 Tryz.f61 [tInt] 0) n (S61_0 a l (j : Int))) (N := a.len) (g := fun j => wt s1 (a.fld j)) (fun n j l hj q0 q1 => by
    have f1 := he j hj
    have e1 : decide (0 ≤ l) = true := by simpa using q0
    have e2 : decide (l ≤ 1048576) = true := by simpa using q1
    show loopE T C61 (a.len + 1) keep61 Tryz.f61 0 0 (behind T C61 (a.len + 1) keep61 Tryz.f61 [tInt] 0) (n + 1) (S61_0 a l (j : Int)) = _
    rw [f61_round0]
    simp only [dlt hj, dge, Int.toNat_natCast, f1, e1, e2, Bool.and_self, cond_true, wrap_succ hj hn]
    rfl)
    (fun n l => by
    show loopE T C61 (a.len + 1) keep61 Tryz.f61 0 0 (behind T C61 (a.len + 1) keep61 Tryz.f61 [tInt] 0) (n + 1) (S61_0 a l (a.len : Int)) = _
    rw [f61_round0, dnlt (Nat.lt_irrefl _)]; rfl) l' p0 p1


/-! laws.szField -/
abbrev C96 : FuncId → Option Sig := tabC []
theorem hC96 : ∀ g sg, C96 g = some sg → ConOk Tryz.prog g sg := tabC_nil
abbrev keep96 : Nat → List Nat := fun _ => []
theorem f96_start (K : Nat) (a : Dat) (l : Dat) : evBody T C96 noL K keep96 Tryz.f96 [s2, tInt] [tInt] [a, l] =
      (bif decide ((IntKind.i64.wrap (l.int - (((a.fld 0).str).size : Int))) < (0 : Int)) then some [(Dat.i (-1 : Int))] else (bif decide ((IntKind.i64.wrap ((IntKind.i64.wrap (l.int - (((a.fld 0).str).size : Int))) - (((a.fld 1).str).size : Int))) < (0 : Int)) then some [(Dat.i (-1 : Int))] else some [(Dat.i (IntKind.i64.wrap ((IntKind.i64.wrap (l.int - (((a.fld 0).str).size : Int))) - (((a.fld 1).str).size : Int))))])) := by kernel_rfl
theorem con96 : ConOk Tryz.prog 96 (szSig s2) := con hM hD hT hC96 keep96 Tryz.func96 (by kernel_rfl) (by kernel_rfl) fun ds hl hp => by
  obtain ⟨a, l, rfl⟩ := ds_two hl
  obtain ⟨ha, h0, h1⟩ := sz_pre (show (fit M s2 a && (decide (0 ≤ l.int) && decide (l.int ≤ 1048576))) = true from hp)
  refine ⟨0, ?_⟩
  have k1 : (a.fld 1).str.size ≤ M := Nat.le_of_ble_eq_true (show Nat.ble _ _ = true from fit_fld (t := .str) ha 1 rfl)
  have k0 : (a.fld 0).str.size ≤ M := Nat.le_of_ble_eq_true (show Nat.ble _ _ = true from fit_fld (t := .str) ha 0 rfl)
  have hw : wt s2 a = ((a.fld 0).str.size + ((a.fld 1).str.size + 0)) := by
    simp only [wt_st, wts_cons, wts_nil, wt_str, Nat.zero_add, Nat.add_zero]
  show _ = some [Dat.i (szr (wt s2 a) l.int)]
  rw [f96_start, hw]
  exact sz_len (k := fun l0 => (bif decide ((IntKind.i64.wrap (l0 - (((a.fld 1).str).size : Int))) < (0 : Int)) then some [(Dat.i (-1 : Int))] else some [(Dat.i (IntKind.i64.wrap (l0 - (((a.fld 1).str).size : Int))))])) k0 h0 h1 (fun l0 p0 q0 => sz_len (k := fun l1 => some [(Dat.i l1)]) k1 p0 q0 (fun l1 p1 q1 => (by rw [szr_zero p1])))


/-! laws.szFieldS -/
abbrev C62 : FuncId → Option Sig := tabC [(96, szSig s2)]
theorem hC62 : ∀ g sg, C62 g = some sg → ConOk Tryz.prog g sg := (tabC_cons con96 tabC_nil)
abbrev keep62 : Nat → List Nat | 0 => [0, 1, 4, 5] | _ => []
def S62_0 (x0 : Dat) (x1 : Int) (x5 : Int) : St := ⟨[.ro s2 x0, .int .i64 x1, .u, .u, .int .i64 (0 : Int), .int .i64 x5] ++ us 21, []⟩
theorem f62_round0 (K n : Nat) (x0 : Dat) (x1 : Int) (x5 : Int) :
    loopE T C62 K keep62 Tryz.f62 0 0 (behind T C62 K keep62 Tryz.f62 [tInt] 0) (n + 1) (S62_0 x0 x1 x5) =
      (bif decide (x5 < (x0.len : Int)) then (bif (decide (0 ≤ x5) && decide (x5 < (x0.len : Int))) then (bif (fit M s2 (x0.fld x5.toNat) && (decide (0 ≤ x1) && decide (x1 ≤ 1048576))) then (bif decide ((szR s2 (x0.fld x5.toNat) x1) < (0 : Int)) then some [(Dat.i (-1 : Int))] else loopE T C62 K keep62 Tryz.f62 0 0 (behind T C62 K keep62 Tryz.f62 [tInt] 0) n (S62_0 x0 (szR s2 (x0.fld x5.toNat) x1) (IntKind.i64.wrap (x5 + (1 : Int))))) else none) else none) else some [(Dat.i x1)]) := by kernel_rfl
theorem f62_start (K : Nat) (a : Dat) (l : Dat) : evBody T C62 noL K keep62 Tryz.f62 [(.sl s2), tInt] [tInt] [a, l] =
      (bif decide ((IntKind.i64.wrap (l.int - (a.len : Int))) < (0 : Int)) then some [(Dat.i (-1 : Int))] else loopE T C62 K keep62 Tryz.f62 0 0 (behind T C62 K keep62 Tryz.f62 [tInt] 0) K (S62_0 a (IntKind.i64.wrap (l.int - (a.len : Int))) (0 : Int))) := by kernel_rfl
theorem con62 : ConOk Tryz.prog 62 (szSig (.sl s2)) := con hM hD hT hC62 keep62 Tryz.func62 (by kernel_rfl) (by kernel_rfl) fun ds hl hp => by
  obtain ⟨a, l, rfl⟩ := ds_two hl
  obtain ⟨ha, h0, h1⟩ := sz_pre (show (fit M (.sl s2) a && (decide (0 ≤ l.int) && decide (l.int ≤ 1048576))) = true from hp)
  obtain ⟨hn, he⟩ := fit_sl ha
  refine ⟨a.len + 1, ?_⟩
  show _ = some [Dat.i (szr (wt (.sl s2) a) l.int)]
  rw [wt_sl]
  rw [f62_start]
  refine sz_len (k := fun l' => loopE T C62 (a.len + 1) keep62 Tryz.f62 0 0 (behind T C62 (a.len + 1) keep62 Tryz.f62 [tInt] 0) (a.len + 1) (S62_0 a l' 0)) hn h0 h1 fun l' p0 p1 => ?_
  exact sz_loop (E := fun n j l => loopE T C62 (a.len + 1) keep62 Tryz.f62 0 0 (behind T C62 (a.len + 1) keep62 Tryz.f62 [tInt] 0) n (S62_0 a l (j : Int))) (N := a.len) (g := fun j => wt s2 (a.fld j)) (fun n j l hj q0 q1 => by
    have f1 := he j hj
    have e1 : decide (0 ≤ l) = true := by simpa using q0
    have e2 : decide (l ≤ 1048576) = true := by simpa using q1
    show loopE T C62 (a.len + 1) keep62 Tryz.f62 0 0 (behind T C62 (a.len + 1) keep62 Tryz.f62 [tInt] 0) (n + 1) (S62_0 a l (j : Int)) = _
    rw [f62_round0]
    simp only [dlt hj, dge, Int.toNat_natCast, f1, e1, e2, Bool.and_self, cond_true, wrap_succ hj hn]
    rfl)
    (fun n l => by
    show loopE T C62 (a.len + 1) keep62 Tryz.f62 0 0 (behind T C62 (a.len + 1) keep62 Tryz.f62 [tInt] 0) (n + 1) (S62_0 a l (a.len : Int)) = _
    rw [f62_round0, dnlt (Nat.lt_irrefl _)]; rfl) l' p0 p1


/-! laws.szStringS -/
abbrev C116 : FuncId → Option Sig := tabC []
theorem hC116 : ∀ g sg, C116 g = some sg → ConOk Tryz.prog g sg := tabC_nil
abbrev keep116 : Nat → List Nat | 0 => [0, 1, 4, 5] | _ => []
def S116_0 (x0 : Dat) (x1 : Int) (x5 : Int) : St := ⟨[.ro .str x0, .int .i64 x1, .u, .u, .int .i64 (0 : Int), .int .i64 x5] ++ us 22, []⟩
theorem f116_round0 (K n : Nat) (x0 : Dat) (x1 : Int) (x5 : Int) :
    loopE T C116 K keep116 Tryz.f116 0 0 (behind T C116 K keep116 Tryz.f116 [tInt] 0) (n + 1) (S116_0 x0 x1 x5) =
      (bif decide (x5 < (x0.len : Int)) then (bif (decide (0 ≤ x5) && decide (x5 < (x0.len : Int))) then (bif decide ((IntKind.i64.wrap (x1 - (((x0.fld x5.toNat).str).size : Int))) < (0 : Int)) then some [(Dat.i (-1 : Int))] else loopE T C116 K keep116 Tryz.f116 0 0 (behind T C116 K keep116 Tryz.f116 [tInt] 0) n (S116_0 x0 (IntKind.i64.wrap (x1 - (((x0.fld x5.toNat).str).size : Int))) (IntKind.i64.wrap (x5 + (1 : Int))))) else none) else some [(Dat.i x1)]) := by kernel_rfl
theorem f116_start (K : Nat) (a : Dat) (l : Dat) : evBody T C116 noL K keep116 Tryz.f116 [(.sl .str), tInt] [tInt] [a, l] =
      (bif decide ((IntKind.i64.wrap (l.int - (a.len : Int))) < (0 : Int)) then some [(Dat.i (-1 : Int))] else loopE T C116 K keep116 Tryz.f116 0 0 (behind T C116 K keep116 Tryz.f116 [tInt] 0) K (S116_0 a (IntKind.i64.wrap (l.int - (a.len : Int))) (0 : Int))) := by kernel_rfl
theorem con116 : ConOk Tryz.prog 116 (szSig (.sl .str)) := con hM hD hT hC116 keep116 Tryz.func116 (by kernel_rfl) (by kernel_rfl) fun ds hl hp => by
  obtain ⟨a, l, rfl⟩ := ds_two hl
  obtain ⟨ha, h0, h1⟩ := sz_pre (show (fit M (.sl .str) a && (decide (0 ≤ l.int) && decide (l.int ≤ 1048576))) = true from hp)
  obtain ⟨hn, he⟩ := fit_sl ha
  refine ⟨a.len + 1, ?_⟩
  show _ = some [Dat.i (szr (wt (.sl .str) a) l.int)]
  rw [wt_sl]
  rw [f116_start]
  refine sz_len (k := fun l' => loopE T C116 (a.len + 1) keep116 Tryz.f116 0 0 (behind T C116 (a.len + 1) keep116 Tryz.f116 [tInt] 0) (a.len + 1) (S116_0 a l' 0)) hn h0 h1 fun l' p0 p1 => ?_
  exact sz_loop (E := fun n j l => loopE T C116 (a.len + 1) keep116 Tryz.f116 0 0 (behind T C116 (a.len + 1) keep116 Tryz.f116 [tInt] 0) n (S116_0 a l (j : Int))) (N := a.len) (g := fun j => wt .str (a.fld j)) (fun n j l hj q0 q1 => by
    have f1 := he j hj
    show loopE T C116 (a.len + 1) keep116 Tryz.f116 0 0 (behind T C116 (a.len + 1) keep116 Tryz.f116 [tInt] 0) (n + 1) (S116_0 a l (j : Int)) = _
    rw [f116_round0]
    simp only [dlt hj, dge, Int.toNat_natCast, Bool.and_self, cond_true, wrap_succ hj hn]
    exact szl_step (E := fun z => loopE T C116 (a.len + 1) keep116 Tryz.f116 0 0 (behind T C116 (a.len + 1) keep116 Tryz.f116 [tInt] 0) n (S116_0 a z (((j + 1 : Nat)) : Int))) (fit_str f1) q0 q1)
    (fun n l => by
    show loopE T C116 (a.len + 1) keep116 Tryz.f116 0 0 (behind T C116 (a.len + 1) keep116 Tryz.f116 [tInt] 0) (n + 1) (S116_0 a l (a.len : Int)) = _
    rw [f116_round0, dnlt (Nat.lt_irrefl _)]; rfl) l' p0 p1


/-! laws.szInsS -/
abbrev C117 : FuncId → Option Sig := tabC []
theorem hC117 : ∀ g sg, C117 g = some sg → ConOk Tryz.prog g sg := tabC_nil
abbrev keep117 : Nat → List Nat := fun _ => []
theorem f117_start (K : Nat) (a : Dat) (l : Dat) : evBody T C117 noL K keep117 Tryz.f117 [(.sl s3), tInt] [tInt] [a, l] =
      (bif decide ((IntKind.i64.wrap (l.int - (a.len : Int))) < (0 : Int)) then some [(Dat.i (-1 : Int))] else some [(Dat.i (IntKind.i64.wrap (l.int - (a.len : Int))))]) := by kernel_rfl
theorem con117 : ConOk Tryz.prog 117 (szSig (.sl s3)) := con hM hD hT hC117 keep117 Tryz.func117 (by kernel_rfl) (by kernel_rfl) fun ds hl hp => by
  obtain ⟨a, l, rfl⟩ := ds_two hl
  obtain ⟨ha, h0, h1⟩ := sz_pre (show (fit M (.sl s3) a && (decide (0 ≤ l.int) && decide (l.int ≤ 1048576))) = true from hp)
  obtain ⟨hn, he⟩ := fit_sl ha
  refine ⟨0, ?_⟩
  show _ = some [Dat.i (szr (wt (.sl s3) a) l.int)]
  rw [wt_sl, f117_start, sum_zero (fun i => show wt s3 (a.fld i) = 0 from rfl)]
  exact sz_len hn h0 h1 fun l' p0 _ => by rw [szr_zero p0]


/-! laws.szCode -/
abbrev C97 : FuncId → Option Sig := tabC [(116, szSig (.sl .str)), (117, szSig (.sl s3))]
theorem hC97 : ∀ g sg, C97 g = some sg → ConOk Tryz.prog g sg := (tabC_cons con116 (tabC_cons con117 tabC_nil))
abbrev keep97 : Nat → List Nat := fun _ => []
theorem f97_start (K : Nat) (a : Dat) (l : Dat) : evBody T C97 noL K keep97 Tryz.f97 [s4, tInt] [tInt] [a, l] =
      (bif decide ((IntKind.i64.wrap (l.int - (((a.fld 0).str).size : Int))) < (0 : Int)) then some [(Dat.i (-1 : Int))] else (bif (fit M (.sl .str) (a.fld 2) && (decide (0 ≤ (IntKind.i64.wrap (l.int - (((a.fld 0).str).size : Int)))) && decide ((IntKind.i64.wrap (l.int - (((a.fld 0).str).size : Int))) ≤ 1048576))) then (bif decide ((szR (.sl .str) (a.fld 2) (IntKind.i64.wrap (l.int - (((a.fld 0).str).size : Int)))) < (0 : Int)) then some [(Dat.i (-1 : Int))] else (bif decide ((IntKind.i64.wrap ((szR (.sl .str) (a.fld 2) (IntKind.i64.wrap (l.int - (((a.fld 0).str).size : Int)))) - (((a.fld 3).str).size : Int))) < (0 : Int)) then some [(Dat.i (-1 : Int))] else (bif (fit M (.sl s3) (a.fld 5) && (decide (0 ≤ (IntKind.i64.wrap ((szR (.sl .str) (a.fld 2) (IntKind.i64.wrap (l.int - (((a.fld 0).str).size : Int)))) - (((a.fld 3).str).size : Int)))) && decide ((IntKind.i64.wrap ((szR (.sl .str) (a.fld 2) (IntKind.i64.wrap (l.int - (((a.fld 0).str).size : Int)))) - (((a.fld 3).str).size : Int))) ≤ 1048576))) then (bif decide ((szR (.sl s3) (a.fld 5) (IntKind.i64.wrap ((szR (.sl .str) (a.fld 2) (IntKind.i64.wrap (l.int - (((a.fld 0).str).size : Int)))) - (((a.fld 3).str).size : Int)))) < (0 : Int)) then some [(Dat.i (-1 : Int))] else some [(Dat.i (szR (.sl s3) (a.fld 5) (IntKind.i64.wrap ((szR (.sl .str) (a.fld 2) (IntKind.i64.wrap (l.int - (((a.fld 0).str).size : Int)))) - (((a.fld 3).str).size : Int)))))]) else none))) else none)) := by kernel_rfl
theorem con97 : ConOk Tryz.prog 97 (szSig s4) := con hM hD hT hC97 keep97 Tryz.func97 (by kernel_rfl) (by kernel_rfl) fun ds hl hp => by
  obtain ⟨a, l, rfl⟩ := ds_two hl
  obtain ⟨ha, h0, h1⟩ := sz_pre (show (fit M s4 a && (decide (0 ≤ l.int) && decide (l.int ≤ 1048576))) = true from hp)
  refine ⟨0, ?_⟩
  have k5 : fit M (.sl s3) (a.fld 5) = true := fit_fld ha 5 rfl
  have k3 : (a.fld 3).str.size ≤ M := Nat.le_of_ble_eq_true (show Nat.ble _ _ = true from fit_fld (t := .str) ha 3 rfl)
  have k2 : fit M (.sl .str) (a.fld 2) = true := fit_fld ha 2 rfl
  have k0 : (a.fld 0).str.size ≤ M := Nat.le_of_ble_eq_true (show Nat.ble _ _ = true from fit_fld (t := .str) ha 0 rfl)
  have hw : wt s4 a = ((a.fld 0).str.size + (wt (.sl .str) (a.fld 2) + ((a.fld 3).str.size + (wt (.sl s3) (a.fld 5) + 0)))) := by
    simp only [wt_st, wts_cons, wts_nil, wt_int, wt_str, Nat.zero_add, Nat.add_zero]
  show _ = some [Dat.i (szr (wt s4 a) l.int)]
  rw [f97_start, hw]
  exact sz_len (k := fun l0 => (bif (fit M (.sl .str) (a.fld 2) && (decide (0 ≤ l0) && decide (l0 ≤ 1048576))) then (bif decide ((szR (.sl .str) (a.fld 2) l0) < (0 : Int)) then some [(Dat.i (-1 : Int))] else (bif decide ((IntKind.i64.wrap ((szR (.sl .str) (a.fld 2) l0) - (((a.fld 3).str).size : Int))) < (0 : Int)) then some [(Dat.i (-1 : Int))] else (bif (fit M (.sl s3) (a.fld 5) && (decide (0 ≤ (IntKind.i64.wrap ((szR (.sl .str) (a.fld 2) l0) - (((a.fld 3).str).size : Int)))) && decide ((IntKind.i64.wrap ((szR (.sl .str) (a.fld 2) l0) - (((a.fld 3).str).size : Int))) ≤ 1048576))) then (bif decide ((szR (.sl s3) (a.fld 5) (IntKind.i64.wrap ((szR (.sl .str) (a.fld 2) l0) - (((a.fld 3).str).size : Int)))) < (0 : Int)) then some [(Dat.i (-1 : Int))] else some [(Dat.i (szR (.sl s3) (a.fld 5) (IntKind.i64.wrap ((szR (.sl .str) (a.fld 2) l0) - (((a.fld 3).str).size : Int)))))]) else none))) else none)) k0 h0 h1 (fun l0 p0 q0 => sz_call (k := fun l1 => (bif decide ((IntKind.i64.wrap (l1 - (((a.fld 3).str).size : Int))) < (0 : Int)) then some [(Dat.i (-1 : Int))] else (bif (fit M (.sl s3) (a.fld 5) && (decide (0 ≤ (IntKind.i64.wrap (l1 - (((a.fld 3).str).size : Int)))) && decide ((IntKind.i64.wrap (l1 - (((a.fld 3).str).size : Int))) ≤ 1048576))) then (bif decide ((szR (.sl s3) (a.fld 5) (IntKind.i64.wrap (l1 - (((a.fld 3).str).size : Int)))) < (0 : Int)) then some [(Dat.i (-1 : Int))] else some [(Dat.i (szR (.sl s3) (a.fld 5) (IntKind.i64.wrap (l1 - (((a.fld 3).str).size : Int)))))]) else none))) k2 p0 q0 (fun l1 p1 q1 => sz_len (k := fun l2 => (bif (fit M (.sl s3) (a.fld 5) && (decide (0 ≤ l2) && decide (l2 ≤ 1048576))) then (bif decide ((szR (.sl s3) (a.fld 5) l2) < (0 : Int)) then some [(Dat.i (-1 : Int))] else some [(Dat.i (szR (.sl s3) (a.fld 5) l2))]) else none)) k3 p1 q1 (fun l2 p2 q2 => sz_call (k := fun l3 => some [(Dat.i l3)]) k5 p2 q2 (fun l3 p3 q3 => (by rw [szr_zero p3])))))


/-! laws.szCodeS -/
abbrev C63 : FuncId → Option Sig := tabC [(97, szSig s4)]
theorem hC63 : ∀ g sg, C63 g = some sg → ConOk Tryz.prog g sg := (tabC_cons con97 tabC_nil)
abbrev keep63 : Nat → List Nat | 0 => [0, 1, 4, 5] | _ => []
def S63_0 (x0 : Dat) (x1 : Int) (x5 : Int) : St := ⟨[.ro s4 x0, .int .i64 x1, .u, .u, .int .i64 (0 : Int), .int .i64 x5] ++ us 21, []⟩
theorem f63_round0 (K n : Nat) (x0 : Dat) (x1 : Int) (x5 : Int) :
    loopE T C63 K keep63 Tryz.f63 0 0 (behind T C63 K keep63 Tryz.f63 [tInt] 0) (n + 1) (S63_0 x0 x1 x5) =
      (bif decide (x5 < (x0.len : Int)) then (bif (decide (0 ≤ x5) && decide (x5 < (x0.len : Int))) then (bif (fit M s4 (x0.fld x5.toNat) && (decide (0 ≤ x1) && decide (x1 ≤ 1048576))) then (bif decide ((szR s4 (x0.fld x5.toNat) x1) < (0 : Int)) then some [(Dat.i (-1 : Int))] else loopE T C63 K keep63 Tryz.f63 0 0 (behind T C63 K keep63 Tryz.f63 [tInt] 0) n (S63_0 x0 (szR s4 (x0.fld x5.toNat) x1) (IntKind.i64.wrap (x5 + (1 : Int))))) else none) else none) else some [(Dat.i x1)]) := by kernel_rfl
theorem f63_start (K : Nat) (a : Dat) (l : Dat) : evBody T C63 noL K keep63 Tryz.f63 [(.sl s4), tInt] [tInt] [a, l] =
      (bif decide ((IntKind.i64.wrap (l.int - (a.len : Int))) < (0 : Int)) then some [(Dat.i (-1 : Int))] else loopE T C63 K keep63 Tryz.f63 0 0 (behind T C63 K keep63 Tryz.f63 [tInt] 0) K (S63_0 a (IntKind.i64.wrap (l.int - (a.len : Int))) (0 : Int))) := by kernel_rfl
theorem con63 : ConOk Tryz.prog 63 (szSig (.sl s4)) := con hM hD hT hC63 keep63 Tryz.func63 (by kernel_rfl) (by kernel_rfl) fun ds hl hp => by
  obtain ⟨a, l, rfl⟩ := ds_two hl
  obtain ⟨ha, h0, h1⟩ := sz_pre (show (fit M (.sl s4) a && (decide (0 ≤ l.int) && decide (l.int ≤ 1048576))) = true from hp)
  obtain ⟨hn, he⟩ := fit_sl ha
  refine ⟨a.len + 1, ?_⟩
  show _ = some [Dat.i (szr (wt (.sl s4) a) l.int)]
  rw [wt_sl]
  rw [f63_start]
  refine sz_len (k := fun l' => loopE T C63 (a.len + 1) keep63 Tryz.f63 0 0 (behind T C63 (a.len + 1) keep63 Tryz.f63 [tInt] 0) (a.len + 1) (S63_0 a l' 0)) hn h0 h1 fun l' p0 p1 => ?_
  exact sz_loop (E := fun n j l => loopE T C63 (a.len + 1) keep63 Tryz.f63 0 0 (behind T C63 (a.len + 1) keep63 Tryz.f63 [tInt] 0) n (S63_0 a l (j : Int))) (N := a.len) (g := fun j => wt s4 (a.fld j)) (fun n j l hj q0 q1 => by
    have f1 := he j hj
    have e1 : decide (0 ≤ l) = true := by simpa using q0
    have e2 : decide (l ≤ 1048576) = true := by simpa using q1
    show loopE T C63 (a.len + 1) keep63 Tryz.f63 0 0 (behind T C63 (a.len + 1) keep63 Tryz.f63 [tInt] 0) (n + 1) (S63_0 a l (j : Int)) = _
    rw [f63_round0]
    simp only [dlt hj, dge, Int.toNat_natCast, f1, e1, e2, Bool.and_self, cond_true, wrap_succ hj hn]
    rfl)
    (fun n l => by
    show loopE T C63 (a.len + 1) keep63 Tryz.f63 0 0 (behind T C63 (a.len + 1) keep63 Tryz.f63 [tInt] 0) (n + 1) (S63_0 a l (a.len : Int)) = _
    rw [f63_round0, dnlt (Nat.lt_irrefl _)]; rfl) l' p0 p1


/-! laws.szKind -/
abbrev C31 : FuncId → Option Sig := tabC [(61, szSig (.sl s1)), (62, szSig (.sl s2)), (63, szSig (.sl s4))]
theorem hC31 : ∀ g sg, C31 g = some sg → ConOk Tryz.prog g sg := (tabC_cons con61 (tabC_cons con62 (tabC_cons con63 tabC_nil)))
abbrev keep31 : Nat → List Nat := fun _ => []
theorem f31_start (K : Nat) (a : Dat) (l : Dat) : evBody T C31 noL K keep31 Tryz.f31 [s5, tInt] [tInt] [a, l] =
      (bif decide ((IntKind.i64.wrap (l.int - (((a.fld 0).str).size : Int))) < (0 : Int)) then some [(Dat.i (-1 : Int))] else (bif (fit M (.sl s1) (a.fld 2) && (decide (0 ≤ (IntKind.i64.wrap (l.int - (((a.fld 0).str).size : Int)))) && decide ((IntKind.i64.wrap (l.int - (((a.fld 0).str).size : Int))) ≤ 1048576))) then (bif decide ((szR (.sl s1) (a.fld 2) (IntKind.i64.wrap (l.int - (((a.fld 0).str).size : Int)))) < (0 : Int)) then some [(Dat.i (-1 : Int))] else (bif (fit M (.sl s2) (a.fld 3) && (decide (0 ≤ (szR (.sl s1) (a.fld 2) (IntKind.i64.wrap (l.int - (((a.fld 0).str).size : Int))))) && decide ((szR (.sl s1) (a.fld 2) (IntKind.i64.wrap (l.int - (((a.fld 0).str).size : Int)))) ≤ 1048576))) then (bif decide ((szR (.sl s2) (a.fld 3) (szR (.sl s1) (a.fld 2) (IntKind.i64.wrap (l.int - (((a.fld 0).str).size : Int))))) < (0 : Int)) then some [(Dat.i (-1 : Int))] else (bif (fit M (.sl s4) (a.fld 4) && (decide (0 ≤ (szR (.sl s2) (a.fld 3) (szR (.sl s1) (a.fld 2) (IntKind.i64.wrap (l.int - (((a.fld 0).str).size : Int)))))) && decide ((szR (.sl s2) (a.fld 3) (szR (.sl s1) (a.fld 2) (IntKind.i64.wrap (l.int - (((a.fld 0).str).size : Int))))) ≤ 1048576))) then (bif decide ((szR (.sl s4) (a.fld 4) (szR (.sl s2) (a.fld 3) (szR (.sl s1) (a.fld 2) (IntKind.i64.wrap (l.int - (((a.fld 0).str).size : Int)))))) < (0 : Int)) then some [(Dat.i (-1 : Int))] else some [(Dat.i (szR (.sl s4) (a.fld 4) (szR (.sl s2) (a.fld 3) (szR (.sl s1) (a.fld 2) (IntKind.i64.wrap (l.int - (((a.fld 0).str).size : Int)))))))]) else none)) else none)) else none)) := by kernel_rfl
theorem con31 : ConOk Tryz.prog 31 (szSig s5) := con hM hD hT hC31 keep31 Tryz.func31 (by kernel_rfl) (by kernel_rfl) fun ds hl hp => by
  obtain ⟨a, l, rfl⟩ := ds_two hl
  obtain ⟨ha, h0, h1⟩ := sz_pre (show (fit M s5 a && (decide (0 ≤ l.int) && decide (l.int ≤ 1048576))) = true from hp)
  refine ⟨0, ?_⟩
  have k4 : fit M (.sl s4) (a.fld 4) = true := fit_fld ha 4 rfl
  have k3 : fit M (.sl s2) (a.fld 3) = true := fit_fld ha 3 rfl
  have k2 : fit M (.sl s1) (a.fld 2) = true := fit_fld ha 2 rfl
  have k0 : (a.fld 0).str.size ≤ M := Nat.le_of_ble_eq_true (show Nat.ble _ _ = true from fit_fld (t := .str) ha 0 rfl)
  have hw : wt s5 a = ((a.fld 0).str.size + (wt (.sl s1) (a.fld 2) + (wt (.sl s2) (a.fld 3) + (wt (.sl s4) (a.fld 4) + 0)))) := by
    simp only [wt_st, wts_cons, wts_nil, wt_int, wt_str, Nat.zero_add, Nat.add_zero]
  show _ = some [Dat.i (szr (wt s5 a) l.int)]
  rw [f31_start, hw]
  exact sz_len (k := fun l0 => (bif (fit M (.sl s1) (a.fld 2) && (decide (0 ≤ l0) && decide (l0 ≤ 1048576))) then (bif decide ((szR (.sl s1) (a.fld 2) l0) < (0 : Int)) then some [(Dat.i (-1 : Int))] else (bif (fit M (.sl s2) (a.fld 3) && (decide (0 ≤ (szR (.sl s1) (a.fld 2) l0)) && decide ((szR (.sl s1) (a.fld 2) l0) ≤ 1048576))) then (bif decide ((szR (.sl s2) (a.fld 3) (szR (.sl s1) (a.fld 2) l0)) < (0 : Int)) then some [(Dat.i (-1 : Int))] else (bif (fit M (.sl s4) (a.fld 4) && (decide (0 ≤ (szR (.sl s2) (a.fld 3) (szR (.sl s1) (a.fld 2) l0))) && decide ((szR (.sl s2) (a.fld 3) (szR (.sl s1) (a.fld 2) l0)) ≤ 1048576))) then (bif decide ((szR (.sl s4) (a.fld 4) (szR (.sl s2) (a.fld 3) (szR (.sl s1) (a.fld 2) l0))) < (0 : Int)) then some [(Dat.i (-1 : Int))] else some [(Dat.i (szR (.sl s4) (a.fld 4) (szR (.sl s2) (a.fld 3) (szR (.sl s1) (a.fld 2) l0))))]) else none)) else none)) else none)) k0 h0 h1 (fun l0 p0 q0 => sz_call (k := fun l1 => (bif (fit M (.sl s2) (a.fld 3) && (decide (0 ≤ l1) && decide (l1 ≤ 1048576))) then (bif decide ((szR (.sl s2) (a.fld 3) l1) < (0 : Int)) then some [(Dat.i (-1 : Int))] else (bif (fit M (.sl s4) (a.fld 4) && (decide (0 ≤ (szR (.sl s2) (a.fld 3) l1)) && decide ((szR (.sl s2) (a.fld 3) l1) ≤ 1048576))) then (bif decide ((szR (.sl s4) (a.fld 4) (szR (.sl s2) (a.fld 3) l1)) < (0 : Int)) then some [(Dat.i (-1 : Int))] else some [(Dat.i (szR (.sl s4) (a.fld 4) (szR (.sl s2) (a.fld 3) l1)))]) else none)) else none)) k2 p0 q0 (fun l1 p1 q1 => sz_call (k := fun l2 => (bif (fit M (.sl s4) (a.fld 4) && (decide (0 ≤ l2) && decide (l2 ≤ 1048576))) then (bif decide ((szR (.sl s4) (a.fld 4) l2) < (0 : Int)) then some [(Dat.i (-1 : Int))] else some [(Dat.i (szR (.sl s4) (a.fld 4) l2))]) else none)) k3 p1 q1 (fun l2 p2 q2 => sz_call (k := fun l3 => some [(Dat.i l3)]) k4 p2 q2 (fun l3 p3 q3 => (by rw [szr_zero p3])))))


/-! laws.szKindS -/
abbrev C22 : FuncId → Option Sig := tabC [(31, szSig s5)]
theorem hC22 : ∀ g sg, C22 g = some sg → ConOk Tryz.prog g sg := (tabC_cons con31 tabC_nil)
abbrev keep22 : Nat → List Nat | 0 => [0, 1, 4, 5] | _ => []
def S22_0 (x0 : Dat) (x1 : Int) (x5 : Int) : St := ⟨[.ro s5 x0, .int .i64 x1, .u, .u, .int .i64 (0 : Int), .int .i64 x5] ++ us 21, []⟩
theorem f22_round0 (K n : Nat) (x0 : Dat) (x1 : Int) (x5 : Int) :
    loopE T C22 K keep22 Tryz.f22 0 0 (behind T C22 K keep22 Tryz.f22 [tInt] 0) (n + 1) (S22_0 x0 x1 x5) =
      (bif decide (x5 < (x0.len : Int)) then (bif (decide (0 ≤ x5) && decide (x5 < (x0.len : Int))) then (bif (fit M s5 (x0.fld x5.toNat) && (decide (0 ≤ x1) && decide (x1 ≤ 1048576))) then (bif decide ((szR s5 (x0.fld x5.toNat) x1) < (0 : Int)) then some [(Dat.i (-1 : Int))] else loopE T C22 K keep22 Tryz.f22 0 0 (behind T C22 K keep22 Tryz.f22 [tInt] 0) n (S22_0 x0 (szR s5 (x0.fld x5.toNat) x1) (IntKind.i64.wrap (x5 + (1 : Int))))) else none) else none) else some [(Dat.i x1)]) := by kernel_rfl
theorem f22_start (K : Nat) (a : Dat) (l : Dat) : evBody T C22 noL K keep22 Tryz.f22 [(.sl s5), tInt] [tInt] [a, l] =
      (bif decide ((IntKind.i64.wrap (l.int - (a.len : Int))) < (0 : Int)) then some [(Dat.i (-1 : Int))] else loopE T C22 K keep22 Tryz.f22 0 0 (behind T C22 K keep22 Tryz.f22 [tInt] 0) K (S22_0 a (IntKind.i64.wrap (l.int - (a.len : Int))) (0 : Int))) := by kernel_rfl
theorem con22 : ConOk Tryz.prog 22 (szSig (.sl s5)) := con hM hD hT hC22 keep22 Tryz.func22 (by kernel_rfl) (by kernel_rfl) fun ds hl hp => by
  obtain ⟨a, l, rfl⟩ := ds_two hl
  obtain ⟨ha, h0, h1⟩ := sz_pre (show (fit M (.sl s5) a && (decide (0 ≤ l.int) && decide (l.int ≤ 1048576))) = true from hp)
  obtain ⟨hn, he⟩ := fit_sl ha
  refine ⟨a.len + 1, ?_⟩
  show _ = some [Dat.i (szr (wt (.sl s5) a) l.int)]
  rw [wt_sl]
  rw [f22_start]
  refine sz_len (k := fun l' => loopE T C22 (a.len + 1) keep22 Tryz.f22 0 0 (behind T C22 (a.len + 1) keep22 Tryz.f22 [tInt] 0) (a.len + 1) (S22_0 a l' 0)) hn h0 h1 fun l' p0 p1 => ?_
  exact sz_loop (E := fun n j l => loopE T C22 (a.len + 1) keep22 Tryz.f22 0 0 (behind T C22 (a.len + 1) keep22 Tryz.f22 [tInt] 0) n (S22_0 a l (j : Int))) (N := a.len) (g := fun j => wt s5 (a.fld j)) (fun n j l hj q0 q1 => by
    have f1 := he j hj
    have e1 : decide (0 ≤ l) = true := by simpa using q0
    have e2 : decide (l ≤ 1048576) = true := by simpa using q1
    show loopE T C22 (a.len + 1) keep22 Tryz.f22 0 0 (behind T C22 (a.len + 1) keep22 Tryz.f22 [tInt] 0) (n + 1) (S22_0 a l (j : Int)) = _
    rw [f22_round0]
    simp only [dlt hj, dge, Int.toNat_natCast, f1, e1, e2, Bool.and_self, cond_true, wrap_succ hj hn]
    rfl)
    (fun n l => by
    show loopE T C22 (a.len + 1) keep22 Tryz.f22 0 0 (behind T C22 (a.len + 1) keep22 Tryz.f22 [tInt] 0) (n + 1) (S22_0 a l (a.len : Int)) = _
    rw [f22_round0, dnlt (Nat.lt_irrefl _)]; rfl) l' p0 p1


/-! laws.szProg -/
abbrev C9 : FuncId → Option Sig := tabC [(22, szSig (.sl s5))]
theorem hC9 : ∀ g sg, C9 g = some sg → ConOk Tryz.prog g sg := (tabC_cons con22 tabC_nil)
abbrev keep9 : Nat → List Nat := fun _ => []
theorem f9_start (K : Nat) (a : Dat) (l : Dat) : evBody T C9 noL K keep9 Tryz.f9 [s6, tInt] [tInt] [a, l] =
      (bif (fit M (.sl s5) (a.fld 0) && (decide (0 ≤ l.int) && decide (l.int ≤ 1048576))) then (bif decide ((szR (.sl s5) (a.fld 0) l.int) < (0 : Int)) then some [(Dat.i (-1 : Int))] else some [(Dat.i (szR (.sl s5) (a.fld 0) l.int))]) else none) := by kernel_rfl
theorem con9 : ConOk Tryz.prog 9 (szSig s6) := con hM hD hT hC9 keep9 Tryz.func9 (by kernel_rfl) (by kernel_rfl) fun ds hl hp => by
  obtain ⟨a, l, rfl⟩ := ds_two hl
  obtain ⟨ha, h0, h1⟩ := sz_pre (show (fit M s6 a && (decide (0 ≤ l.int) && decide (l.int ≤ 1048576))) = true from hp)
  refine ⟨0, ?_⟩
  have k0 : fit M (.sl s5) (a.fld 0) = true := fit_fld ha 0 rfl
  have hw : wt s6 a = (wt (.sl s5) (a.fld 0) + 0) := by
    simp only [wt_st, wts_cons, wts_nil, Nat.zero_add, Nat.add_zero]
  show _ = some [Dat.i (szr (wt s6 a) l.int)]
  rw [f9_start, hw]
  exact sz_call (k := fun l0 => some [(Dat.i l0)]) k0 h0 h1 (fun l0 p0 q0 => (by rw [szr_zero p0]))


/-! laws.szValS -/
abbrev C98 : FuncId → Option Sig := tabC []
theorem hC98 : ∀ g sg, C98 g = some sg → ConOk Tryz.prog g sg := tabC_nil
abbrev keep98 : Nat → List Nat := fun _ => []
theorem f98_start (K : Nat) (a : Dat) (l : Dat) : evBody T C98 noL K keep98 Tryz.f98 [(.sl s7), tInt] [tInt] [a, l] =
      (bif decide ((IntKind.i64.wrap (l.int - (a.len : Int))) < (0 : Int)) then some [(Dat.i (-1 : Int))] else some [(Dat.i (IntKind.i64.wrap (l.int - (a.len : Int))))]) := by kernel_rfl
theorem con98 : ConOk Tryz.prog 98 (szSig (.sl s7)) := con hM hD hT hC98 keep98 Tryz.func98 (by kernel_rfl) (by kernel_rfl) fun ds hl hp => by
  obtain ⟨a, l, rfl⟩ := ds_two hl
  obtain ⟨ha, h0, h1⟩ := sz_pre (show (fit M (.sl s7) a && (decide (0 ≤ l.int) && decide (l.int ≤ 1048576))) = true from hp)
  obtain ⟨hn, he⟩ := fit_sl ha
  refine ⟨0, ?_⟩
  show _ = some [Dat.i (szr (wt (.sl s7) a) l.int)]
  rw [wt_sl, f98_start, sum_zero (fun i => show wt s7 (a.fld i) = 0 from rfl)]
  exact sz_len hn h0 h1 fun l' p0 _ => by rw [szr_zero p0]


/-! laws.szCopy -/
abbrev C64 : FuncId → Option Sig := tabC [(98, szSig (.sl s7))]
theorem hC64 : ∀ g sg, C64 g = some sg → ConOk Tryz.prog g sg := (tabC_cons con98 tabC_nil)
abbrev keep64 : Nat → List Nat := fun _ => []
theorem f64_start (K : Nat) (a : Dat) (l : Dat) : evBody T C64 noL K keep64 Tryz.f64 [s8, tInt] [tInt] [a, l] =
      (bif (fit M (.sl s7) (a.fld 4) && (decide (0 ≤ l.int) && decide (l.int ≤ 1048576))) then (bif decide ((szR (.sl s7) (a.fld 4) l.int) < (0 : Int)) then some [(Dat.i (-1 : Int))] else (bif (fit M (.sl s7) (a.fld 5) && (decide (0 ≤ (szR (.sl s7) (a.fld 4) l.int)) && decide ((szR (.sl s7) (a.fld 4) l.int) ≤ 1048576))) then (bif decide ((szR (.sl s7) (a.fld 5) (szR (.sl s7) (a.fld 4) l.int)) < (0 : Int)) then some [(Dat.i (-1 : Int))] else some [(Dat.i (szR (.sl s7) (a.fld 5) (szR (.sl s7) (a.fld 4) l.int)))]) else none)) else none) := by kernel_rfl
theorem con64 : ConOk Tryz.prog 64 (szSig s8) := con hM hD hT hC64 keep64 Tryz.func64 (by kernel_rfl) (by kernel_rfl) fun ds hl hp => by
  obtain ⟨a, l, rfl⟩ := ds_two hl
  obtain ⟨ha, h0, h1⟩ := sz_pre (show (fit M s8 a && (decide (0 ≤ l.int) && decide (l.int ≤ 1048576))) = true from hp)
  refine ⟨0, ?_⟩
  have k5 : fit M (.sl s7) (a.fld 5) = true := fit_fld ha 5 rfl
  have k4 : fit M (.sl s7) (a.fld 4) = true := fit_fld ha 4 rfl
  have hw : wt s8 a = (wt (.sl s7) (a.fld 4) + (wt (.sl s7) (a.fld 5) + 0)) := by
    simp only [wt_st, wts_cons, wts_nil, wt_int, wt_bool, Nat.zero_add, Nat.add_zero]
  show _ = some [Dat.i (szr (wt s8 a) l.int)]
  rw [f64_start, hw]
  exact sz_call (k := fun l0 => (bif (fit M (.sl s7) (a.fld 5) && (decide (0 ≤ l0) && decide (l0 ≤ 1048576))) then (bif decide ((szR (.sl s7) (a.fld 5) l0) < (0 : Int)) then some [(Dat.i (-1 : Int))] else some [(Dat.i (szR (.sl s7) (a.fld 5) l0))]) else none)) k4 h0 h1 (fun l0 p0 q0 => sz_call (k := fun l1 => some [(Dat.i l1)]) k5 p0 q0 (fun l1 p1 q1 => (by rw [szr_zero p1])))


/-! laws.szCopyS -/
abbrev C32 : FuncId → Option Sig := tabC [(64, szSig s8)]
theorem hC32 : ∀ g sg, C32 g = some sg → ConOk Tryz.prog g sg := (tabC_cons con64 tabC_nil)
abbrev keep32 : Nat → List Nat | 0 => [0, 1, 4, 5] | _ => []
def S32_0 (x0 : Dat) (x1 : Int) (x5 : Int) : St := ⟨[.ro s8 x0, .int .i64 x1, .u, .u, .int .i64 (0 : Int), .int .i64 x5] ++ us 21, []⟩
theorem f32_round0 (K n : Nat) (x0 : Dat) (x1 : Int) (x5 : Int) :
    loopE T C32 K keep32 Tryz.f32 0 0 (behind T C32 K keep32 Tryz.f32 [tInt] 0) (n + 1) (S32_0 x0 x1 x5) =
      (bif decide (x5 < (x0.len : Int)) then (bif (decide (0 ≤ x5) && decide (x5 < (x0.len : Int))) then (bif (fit M s8 (x0.fld x5.toNat) && (decide (0 ≤ x1) && decide (x1 ≤ 1048576))) then (bif decide ((szR s8 (x0.fld x5.toNat) x1) < (0 : Int)) then some [(Dat.i (-1 : Int))] else loopE T C32 K keep32 Tryz.f32 0 0 (behind T C32 K keep32 Tryz.f32 [tInt] 0) n (S32_0 x0 (szR s8 (x0.fld x5.toNat) x1) (IntKind.i64.wrap (x5 + (1 : Int))))) else none) else none) else some [(Dat.i x1)]) := by kernel_rfl
theorem f32_start (K : Nat) (a : Dat) (l : Dat) : evBody T C32 noL K keep32 Tryz.f32 [(.sl s8), tInt] [tInt] [a, l] =
      (bif decide ((IntKind.i64.wrap (l.int - (a.len : Int))) < (0 : Int)) then some [(Dat.i (-1 : Int))] else loopE T C32 K keep32 Tryz.f32 0 0 (behind T C32 K keep32 Tryz.f32 [tInt] 0) K (S32_0 a (IntKind.i64.wrap (l.int - (a.len : Int))) (0 : Int))) := by kernel_rfl
theorem con32 : ConOk Tryz.prog 32 (szSig (.sl s8)) := con hM hD hT hC32 keep32 Tryz.func32 (by kernel_rfl) (by kernel_rfl) fun ds hl hp => by
  obtain ⟨a, l, rfl⟩ := ds_two hl
  obtain ⟨ha, h0, h1⟩ := sz_pre (show (fit M (.sl s8) a && (decide (0 ≤ l.int) && decide (l.int ≤ 1048576))) = true from hp)
  obtain ⟨hn, he⟩ := fit_sl ha
  refine ⟨a.len + 1, ?_⟩
  show _ = some [Dat.i (szr (wt (.sl s8) a) l.int)]
  rw [wt_sl]
  rw [f32_start]
  refine sz_len (k := fun l' => loopE T C32 (a.len + 1) keep32 Tryz.f32 0 0 (behind T C32 (a.len + 1) keep32 Tryz.f32 [tInt] 0) (a.len + 1) (S32_0 a l' 0)) hn h0 h1 fun l' p0 p1 => ?_
  exact sz_loop (E := fun n j l => loopE T C32 (a.len + 1) keep32 Tryz.f32 0 0 (behind T C32 (a.len + 1) keep32 Tryz.f32 [tInt] 0) n (S32_0 a l (j : Int))) (N := a.len) (g := fun j => wt s8 (a.fld j)) (fun n j l hj q0 q1 => by
    have f1 := he j hj
    have e1 : decide (0 ≤ l) = true := by simpa using q0
    have e2 : decide (l ≤ 1048576) = true := by simpa using q1
    show loopE T C32 (a.len + 1) keep32 Tryz.f32 0 0 (behind T C32 (a.len + 1) keep32 Tryz.f32 [tInt] 0) (n + 1) (S32_0 a l (j : Int)) = _
    rw [f32_round0]
    simp only [dlt hj, dge, Int.toNat_natCast, f1, e1, e2, Bool.and_self, cond_true, wrap_succ hj hn]
    rfl)
    (fun n l => by
    show loopE T C32 (a.len + 1) keep32 Tryz.f32 0 0 (behind T C32 (a.len + 1) keep32 Tryz.f32 [tInt] 0) (n + 1) (S32_0 a l (a.len : Int)) = _
    rw [f32_round0, dnlt (Nat.lt_irrefl _)]; rfl) l' p0 p1


/-! laws.szMaster -/
abbrev C65 : FuncId → Option Sig := tabC [(98, szSig (.sl s7))]
theorem hC65 : ∀ g sg, C65 g = some sg → ConOk Tryz.prog g sg := (tabC_cons con98 tabC_nil)
abbrev keep65 : Nat → List Nat := fun _ => []
theorem f65_start (K : Nat) (a : Dat) (l : Dat) : evBody T C65 noL K keep65 Tryz.f65 [s9, tInt] [tInt] [a, l] =
      (bif (fit M (.sl s7) (a.fld 3) && (decide (0 ≤ l.int) && decide (l.int ≤ 1048576))) then (bif decide ((szR (.sl s7) (a.fld 3) l.int) < (0 : Int)) then some [(Dat.i (-1 : Int))] else some [(Dat.i (szR (.sl s7) (a.fld 3) l.int))]) else none) := by kernel_rfl
theorem con65 : ConOk Tryz.prog 65 (szSig s9) := con hM hD hT hC65 keep65 Tryz.func65 (by kernel_rfl) (by kernel_rfl) fun ds hl hp => by
  obtain ⟨a, l, rfl⟩ := ds_two hl
  obtain ⟨ha, h0, h1⟩ := sz_pre (show (fit M s9 a && (decide (0 ≤ l.int) && decide (l.int ≤ 1048576))) = true from hp)
  refine ⟨0, ?_⟩
  have k3 : fit M (.sl s7) (a.fld 3) = true := fit_fld ha 3 rfl
  have hw : wt s9 a = (wt (.sl s7) (a.fld 3) + 0) := by
    simp only [wt_st, wts_cons, wts_nil, wt_int, Nat.zero_add, Nat.add_zero]
  show _ = some [Dat.i (szr (wt s9 a) l.int)]
  rw [f65_start, hw]
  exact sz_call (k := fun l0 => some [(Dat.i l0)]) k3 h0 h1 (fun l0 p0 q0 => (by rw [szr_zero p0]))


/-! laws.szMasterS -/
abbrev C33 : FuncId → Option Sig := tabC [(65, szSig s9)]
theorem hC33 : ∀ g sg, C33 g = some sg → ConOk Tryz.prog g sg := (tabC_cons con65 tabC_nil)
abbrev keep33 : Nat → List Nat | 0 => [0, 1, 4, 5] | _ => []
def S33_0 (x0 : Dat) (x1 : Int) (x5 : Int) : St := ⟨[.ro s9 x0, .int .i64 x1, .u, .u, .int .i64 (0 : Int), .int .i64 x5] ++ us 21, []⟩
theorem f33_round0 (K n : Nat) (x0 : Dat) (x1 : Int) (x5 : Int) :
    loopE T C33 K keep33 Tryz.f33 0 0 (behind T C33 K keep33 Tryz.f33 [tInt] 0) (n + 1) (S33_0 x0 x1 x5) =
      (bif decide (x5 < (x0.len : Int)) then (bif (decide (0 ≤ x5) && decide (x5 < (x0.len : Int))) then (bif (fit M s9 (x0.fld x5.toNat) && (decide (0 ≤ x1) && decide (x1 ≤ 1048576))) then (bif decide ((szR s9 (x0.fld x5.toNat) x1) < (0 : Int)) then some [(Dat.i (-1 : Int))] else loopE T C33 K keep33 Tryz.f33 0 0 (behind T C33 K keep33 Tryz.f33 [tInt] 0) n (S33_0 x0 (szR s9 (x0.fld x5.toNat) x1) (IntKind.i64.wrap (x5 + (1 : Int))))) else none) else none) else some [(Dat.i x1)]) := by kernel_rfl
theorem f33_start (K : Nat) (a : Dat) (l : Dat) : evBody T C33 noL K keep33 Tryz.f33 [(.sl s9), tInt] [tInt] [a, l] =
      (bif decide ((IntKind.i64.wrap (l.int - (a.len : Int))) < (0 : Int)) then some [(Dat.i (-1 : Int))] else loopE T C33 K keep33 Tryz.f33 0 0 (behind T C33 K keep33 Tryz.f33 [tInt] 0) K (S33_0 a (IntKind.i64.wrap (l.int - (a.len : Int))) (0 : Int))) := by kernel_rfl
theorem con33 : ConOk Tryz.prog 33 (szSig (.sl s9)) := con hM hD hT hC33 keep33 Tryz.func33 (by kernel_rfl) (by kernel_rfl) fun ds hl hp => by
  obtain ⟨a, l, rfl⟩ := ds_two hl
  obtain ⟨ha, h0, h1⟩ := sz_pre (show (fit M (.sl s9) a && (decide (0 ≤ l.int) && decide (l.int ≤ 1048576))) = true from hp)
  obtain ⟨hn, he⟩ := fit_sl ha
  refine ⟨a.len + 1, ?_⟩
  show _ = some [Dat.i (szr (wt (.sl s9) a) l.int)]
  rw [wt_sl]
  rw [f33_start]
  refine sz_len (k := fun l' => loopE T C33 (a.len + 1) keep33 Tryz.f33 0 0 (behind T C33 (a.len + 1) keep33 Tryz.f33 [tInt] 0) (a.len + 1) (S33_0 a l' 0)) hn h0 h1 fun l' p0 p1 => ?_
  exact sz_loop (E := fun n j l => loopE T C33 (a.len + 1) keep33 Tryz.f33 0 0 (behind T C33 (a.len + 1) keep33 Tryz.f33 [tInt] 0) n (S33_0 a l (j : Int))) (N := a.len) (g := fun j => wt s9 (a.fld j)) (fun n j l hj q0 q1 => by
    have f1 := he j hj
    have e1 : decide (0 ≤ l) = true := by simpa using q0
    have e2 : decide (l ≤ 1048576) = true := by simpa using q1
    show loopE T C33 (a.len + 1) keep33 Tryz.f33 0 0 (behind T C33 (a.len + 1) keep33 Tryz.f33 [tInt] 0) (n + 1) (S33_0 a l (j : Int)) = _
    rw [f33_round0]
    simp only [dlt hj, dge, Int.toNat_natCast, f1, e1, e2, Bool.and_self, cond_true, wrap_succ hj hn]
    rfl)
    (fun n l => by
    show loopE T C33 (a.len + 1) keep33 Tryz.f33 0 0 (behind T C33 (a.len + 1) keep33 Tryz.f33 [tInt] 0) (n + 1) (S33_0 a l (a.len : Int)) = _
    rw [f33_round0, dnlt (Nat.lt_irrefl _)]; rfl) l' p0 p1


/-! laws.szWantS -/
abbrev C34 : FuncId → Option Sig := tabC []
theorem hC34 : ∀ g sg, C34 g = some sg → ConOk Tryz.prog g sg := tabC_nil
abbrev keep34 : Nat → List Nat := fun _ => []
theorem f34_start (K : Nat) (a : Dat) (l : Dat) : evBody T C34 noL K keep34 Tryz.f34 [(.sl s3), tInt] [tInt] [a, l] =
      (bif decide ((IntKind.i64.wrap (l.int - (a.len : Int))) < (0 : Int)) then some [(Dat.i (-1 : Int))] else some [(Dat.i (IntKind.i64.wrap (l.int - (a.len : Int))))]) := by kernel_rfl
theorem con34 : ConOk Tryz.prog 34 (szSig (.sl s3)) := con hM hD hT hC34 keep34 Tryz.func34 (by kernel_rfl) (by kernel_rfl) fun ds hl hp => by
  obtain ⟨a, l, rfl⟩ := ds_two hl
  obtain ⟨ha, h0, h1⟩ := sz_pre (show (fit M (.sl s3) a && (decide (0 ≤ l.int) && decide (l.int ≤ 1048576))) = true from hp)
  obtain ⟨hn, he⟩ := fit_sl ha
  refine ⟨0, ?_⟩
  show _ = some [Dat.i (szr (wt (.sl s3) a) l.int)]
  rw [wt_sl, f34_start, sum_zero (fun i => show wt s3 (a.fld i) = 0 from rfl)]
  exact sz_len hn h0 h1 fun l' p0 _ => by rw [szr_zero p0]


/-! laws.szIntS -/
abbrev C12 : FuncId → Option Sig := tabC []
theorem hC12 : ∀ g sg, C12 g = some sg → ConOk Tryz.prog g sg := tabC_nil
abbrev keep12 : Nat → List Nat := fun _ => []
theorem f12_start (K : Nat) (a : Dat) (l : Dat) : evBody T C12 noL K keep12 Tryz.f12 [(.sl tInt), tInt] [tInt] [a, l] =
      (bif decide ((IntKind.i64.wrap (l.int - (a.len : Int))) < (0 : Int)) then some [(Dat.i (-1 : Int))] else some [(Dat.i (IntKind.i64.wrap (l.int - (a.len : Int))))]) := by kernel_rfl
theorem con12 : ConOk Tryz.prog 12 (szSig (.sl tInt)) := con hM hD hT hC12 keep12 Tryz.func12 (by kernel_rfl) (by kernel_rfl) fun ds hl hp => by
  obtain ⟨a, l, rfl⟩ := ds_two hl
  obtain ⟨ha, h0, h1⟩ := sz_pre (show (fit M (.sl tInt) a && (decide (0 ≤ l.int) && decide (l.int ≤ 1048576))) = true from hp)
  obtain ⟨hn, he⟩ := fit_sl ha
  refine ⟨0, ?_⟩
  show _ = some [Dat.i (szr (wt (.sl tInt) a) l.int)]
  rw [wt_sl, f12_start, sum_zero (fun i => show wt tInt (a.fld i) = 0 from rfl)]
  exact sz_len hn h0 h1 fun l' p0 _ => by rw [szr_zero p0]


/-! laws.szNoteS -/
abbrev C36 : FuncId → Option Sig := tabC []
theorem hC36 : ∀ g sg, C36 g = some sg → ConOk Tryz.prog g sg := tabC_nil
abbrev keep36 : Nat → List Nat := fun _ => []
theorem f36_start (K : Nat) (a : Dat) (l : Dat) : evBody T C36 noL K keep36 Tryz.f36 [(.sl s3), tInt] [tInt] [a, l] =
      (bif decide ((IntKind.i64.wrap (l.int - (a.len : Int))) < (0 : Int)) then some [(Dat.i (-1 : Int))] else some [(Dat.i (IntKind.i64.wrap (l.int - (a.len : Int))))]) := by kernel_rfl
theorem con36 : ConOk Tryz.prog 36 (szSig (.sl s3)) := con hM hD hT hC36 keep36 Tryz.func36 (by kernel_rfl) (by kernel_rfl) fun ds hl hp => by
  obtain ⟨a, l, rfl⟩ := ds_two hl
  obtain ⟨ha, h0, h1⟩ := sz_pre (show (fit M (.sl s3) a && (decide (0 ≤ l.int) && decide (l.int ≤ 1048576))) = true from hp)
  obtain ⟨hn, he⟩ := fit_sl ha
  refine ⟨0, ?_⟩
  show _ = some [Dat.i (szr (wt (.sl s3) a) l.int)]
  rw [wt_sl, f36_start, sum_zero (fun i => show wt s3 (a.fld i) = 0 from rfl)]
  exact sz_len hn h0 h1 fun l' p0 _ => by rw [szr_zero p0]


/-! laws.szToken -/
abbrev C66 : FuncId → Option Sig := tabC [(12, szSig (.sl tInt)), (36, szSig (.sl s3))]
theorem hC66 : ∀ g sg, C66 g = some sg → ConOk Tryz.prog g sg := (tabC_cons con12 (tabC_cons con36 tabC_nil))
abbrev keep66 : Nat → List Nat := fun _ => []
theorem f66_start (K : Nat) (a : Dat) (l : Dat) : evBody T C66 noL K keep66 Tryz.f66 [s10, tInt] [tInt] [a, l] =
      (bif (fit M (.sl tInt) (a.fld 2) && (decide (0 ≤ l.int) && decide (l.int ≤ 1048576))) then (bif decide ((szR (.sl tInt) (a.fld 2) l.int) < (0 : Int)) then some [(Dat.i (-1 : Int))] else (bif (fit M (.sl s3) (a.fld 3) && (decide (0 ≤ (szR (.sl tInt) (a.fld 2) l.int)) && decide ((szR (.sl tInt) (a.fld 2) l.int) ≤ 1048576))) then (bif decide ((szR (.sl s3) (a.fld 3) (szR (.sl tInt) (a.fld 2) l.int)) < (0 : Int)) then some [(Dat.i (-1 : Int))] else some [(Dat.i (szR (.sl s3) (a.fld 3) (szR (.sl tInt) (a.fld 2) l.int)))]) else none)) else none) := by kernel_rfl
theorem con66 : ConOk Tryz.prog 66 (szSig s10) := con hM hD hT hC66 keep66 Tryz.func66 (by kernel_rfl) (by kernel_rfl) fun ds hl hp => by
  obtain ⟨a, l, rfl⟩ := ds_two hl
  obtain ⟨ha, h0, h1⟩ := sz_pre (show (fit M s10 a && (decide (0 ≤ l.int) && decide (l.int ≤ 1048576))) = true from hp)
  refine ⟨0, ?_⟩
  have k3 : fit M (.sl s3) (a.fld 3) = true := fit_fld ha 3 rfl
  have k2 : fit M (.sl tInt) (a.fld 2) = true := fit_fld ha 2 rfl
  have hw : wt s10 a = (wt (.sl tInt) (a.fld 2) + (wt (.sl s3) (a.fld 3) + 0)) := by
    simp only [wt_st, wts_cons, wts_nil, wt_int, Nat.zero_add, Nat.add_zero]
  show _ = some [Dat.i (szr (wt s10 a) l.int)]
  rw [f66_start, hw]
  exact sz_call (k := fun l0 => (bif (fit M (.sl s3) (a.fld 3) && (decide (0 ≤ l0) && decide (l0 ≤ 1048576))) then (bif decide ((szR (.sl s3) (a.fld 3) l0) < (0 : Int)) then some [(Dat.i (-1 : Int))] else some [(Dat.i (szR (.sl s3) (a.fld 3) l0))]) else none)) k2 h0 h1 (fun l0 p0 q0 => sz_call (k := fun l1 => some [(Dat.i l1)]) k3 p0 q0 (fun l1 p1 q1 => (by rw [szr_zero p1])))


/-! laws.szTokenS -/
abbrev C35 : FuncId → Option Sig := tabC [(66, szSig s10)]
theorem hC35 : ∀ g sg, C35 g = some sg → ConOk Tryz.prog g sg := (tabC_cons con66 tabC_nil)
abbrev keep35 : Nat → List Nat | 0 => [0, 1, 4, 5] | _ => []
def S35_0 (x0 : Dat) (x1 : Int) (x5 : Int) : St := ⟨[.ro s10 x0, .int .i64 x1, .u, .u, .int .i64 (0 : Int), .int .i64 x5] ++ us 21, []⟩
theorem f35_round0 (K n : Nat) (x0 : Dat) (x1 : Int) (x5 : Int) :
    loopE T C35 K keep35 Tryz.f35 0 0 (behind T C35 K keep35 Tryz.f35 [tInt] 0) (n + 1) (S35_0 x0 x1 x5) =
      (bif decide (x5 < (x0.len : Int)) then (bif (decide (0 ≤ x5) && decide (x5 < (x0.len : Int))) then (bif (fit M s10 (x0.fld x5.toNat) && (decide (0 ≤ x1) && decide (x1 ≤ 1048576))) then (bif decide ((szR s10 (x0.fld x5.toNat) x1) < (0 : Int)) then some [(Dat.i (-1 : Int))] else loopE T C35 K keep35 Tryz.f35 0 0 (behind T C35 K keep35 Tryz.f35 [tInt] 0) n (S35_0 x0 (szR s10 (x0.fld x5.toNat) x1) (IntKind.i64.wrap (x5 + (1 : Int))))) else none) else none) else some [(Dat.i x1)]) := by kernel_rfl
theorem f35_start (K : Nat) (a : Dat) (l : Dat) : evBody T C35 noL K keep35 Tryz.f35 [(.sl s10), tInt] [tInt] [a, l] =
      (bif decide ((IntKind.i64.wrap (l.int - (a.len : Int))) < (0 : Int)) then some [(Dat.i (-1 : Int))] else loopE T C35 K keep35 Tryz.f35 0 0 (behind T C35 K keep35 Tryz.f35 [tInt] 0) K (S35_0 a (IntKind.i64.wrap (l.int - (a.len : Int))) (0 : Int))) := by kernel_rfl
theorem con35 : ConOk Tryz.prog 35 (szSig (.sl s10)) := con hM hD hT hC35 keep35 Tryz.func35 (by kernel_rfl) (by kernel_rfl) fun ds hl hp => by
  obtain ⟨a, l, rfl⟩ := ds_two hl
  obtain ⟨ha, h0, h1⟩ := sz_pre (show (fit M (.sl s10) a && (decide (0 ≤ l.int) && decide (l.int ≤ 1048576))) = true from hp)
  obtain ⟨hn, he⟩ := fit_sl ha
  refine ⟨a.len + 1, ?_⟩
  show _ = some [Dat.i (szr (wt (.sl s10) a) l.int)]
  rw [wt_sl]
  rw [f35_start]
  refine sz_len (k := fun l' => loopE T C35 (a.len + 1) keep35 Tryz.f35 0 0 (behind T C35 (a.len + 1) keep35 Tryz.f35 [tInt] 0) (a.len + 1) (S35_0 a l' 0)) hn h0 h1 fun l' p0 p1 => ?_
  exact sz_loop (E := fun n j l => loopE T C35 (a.len + 1) keep35 Tryz.f35 0 0 (behind T C35 (a.len + 1) keep35 Tryz.f35 [tInt] 0) n (S35_0 a l (j : Int))) (N := a.len) (g := fun j => wt s10 (a.fld j)) (fun n j l hj q0 q1 => by
    have f1 := he j hj
    have e1 : decide (0 ≤ l) = true := by simpa using q0
    have e2 : decide (l ≤ 1048576) = true := by simpa using q1
    show loopE T C35 (a.len + 1) keep35 Tryz.f35 0 0 (behind T C35 (a.len + 1) keep35 Tryz.f35 [tInt] 0) (n + 1) (S35_0 a l (j : Int)) = _
    rw [f35_round0]
    simp only [dlt hj, dge, Int.toNat_natCast, f1, e1, e2, Bool.and_self, cond_true, wrap_succ hj hn]
    rfl)
    (fun n l => by
    show loopE T C35 (a.len + 1) keep35 Tryz.f35 0 0 (behind T C35 (a.len + 1) keep35 Tryz.f35 [tInt] 0) (n + 1) (S35_0 a l (a.len : Int)) = _
    rw [f35_round0, dnlt (Nat.lt_irrefl _)]; rfl) l' p0 p1


/-! laws.szFrame -/
abbrev C132 : FuncId → Option Sig := tabC [(98, szSig (.sl s7))]
theorem hC132 : ∀ g sg, C132 g = some sg → ConOk Tryz.prog g sg := (tabC_cons con98 tabC_nil)
abbrev keep132 : Nat → List Nat := fun _ => []
theorem f132_start (K : Nat) (a : Dat) (l : Dat) : evBody T C132 noL K keep132 Tryz.f132 [s11, tInt] [tInt] [a, l] =
      (bif (fit M (.sl s7) (a.fld 3) && (decide (0 ≤ l.int) && decide (l.int ≤ 1048576))) then (bif decide ((szR (.sl s7) (a.fld 3) l.int) < (0 : Int)) then some [(Dat.i (-1 : Int))] else (bif (fit M (.sl s7) (a.fld 4) && (decide (0 ≤ (szR (.sl s7) (a.fld 3) l.int)) && decide ((szR (.sl s7) (a.fld 3) l.int) ≤ 1048576))) then (bif decide ((szR (.sl s7) (a.fld 4) (szR (.sl s7) (a.fld 3) l.int)) < (0 : Int)) then some [(Dat.i (-1 : Int))] else some [(Dat.i (szR (.sl s7) (a.fld 4) (szR (.sl s7) (a.fld 3) l.int)))]) else none)) else none) := by kernel_rfl
theorem con132 : ConOk Tryz.prog 132 (szSig s11) := con hM hD hT hC132 keep132 Tryz.func132 (by kernel_rfl) (by kernel_rfl) fun ds hl hp => by
  obtain ⟨a, l, rfl⟩ := ds_two hl
  obtain ⟨ha, h0, h1⟩ := sz_pre (show (fit M s11 a && (decide (0 ≤ l.int) && decide (l.int ≤ 1048576))) = true from hp)
  refine ⟨0, ?_⟩
  have k4 : fit M (.sl s7) (a.fld 4) = true := fit_fld ha 4 rfl
  have k3 : fit M (.sl s7) (a.fld 3) = true := fit_fld ha 3 rfl
  have hw : wt s11 a = (wt (.sl s7) (a.fld 3) + (wt (.sl s7) (a.fld 4) + 0)) := by
    simp only [wt_st, wts_cons, wts_nil, wt_int, Nat.zero_add, Nat.add_zero]
  show _ = some [Dat.i (szr (wt s11 a) l.int)]
  rw [f132_start, hw]
  exact sz_call (k := fun l0 => (bif (fit M (.sl s7) (a.fld 4) && (decide (0 ≤ l0) && decide (l0 ≤ 1048576))) then (bif decide ((szR (.sl s7) (a.fld 4) l0) < (0 : Int)) then some [(Dat.i (-1 : Int))] else some [(Dat.i (szR (.sl s7) (a.fld 4) l0))]) else none)) k3 h0 h1 (fun l0 p0 q0 => sz_call (k := fun l1 => some [(Dat.i l1)]) k4 p0 q0 (fun l1 p1 q1 => (by rw [szr_zero p1])))


/-! laws.szFrameS -/
abbrev C118 : FuncId → Option Sig := tabC [(132, szSig s11)]
theorem hC118 : ∀ g sg, C118 g = some sg → ConOk Tryz.prog g sg := (tabC_cons con132 tabC_nil)
abbrev keep118 : Nat → List Nat | 0 => [0, 1, 4, 5] | _ => []
def S118_0 (x0 : Dat) (x1 : Int) (x5 : Int) : St := ⟨[.ro s11 x0, .int .i64 x1, .u, .u, .int .i64 (0 : Int), .int .i64 x5] ++ us 21, []⟩
theorem f118_round0 (K n : Nat) (x0 : Dat) (x1 : Int) (x5 : Int) :
    loopE T C118 K keep118 Tryz.f118 0 0 (behind T C118 K keep118 Tryz.f118 [tInt] 0) (n + 1) (S118_0 x0 x1 x5) =
      (bif decide (x5 < (x0.len : Int)) then (bif (decide (0 ≤ x5) && decide (x5 < (x0.len : Int))) then (bif (fit M s11 (x0.fld x5.toNat) && (decide (0 ≤ x1) && decide (x1 ≤ 1048576))) then (bif decide ((szR s11 (x0.fld x5.toNat) x1) < (0 : Int)) then some [(Dat.i (-1 : Int))] else loopE T C118 K keep118 Tryz.f118 0 0 (behind T C118 K keep118 Tryz.f118 [tInt] 0) n (S118_0 x0 (szR s11 (x0.fld x5.toNat) x1) (IntKind.i64.wrap (x5 + (1 : Int))))) else none) else none) else some [(Dat.i x1)]) := by kernel_rfl
theorem f118_start (K : Nat) (a : Dat) (l : Dat) : evBody T C118 noL K keep118 Tryz.f118 [(.sl s11), tInt] [tInt] [a, l] =
      (bif decide ((IntKind.i64.wrap (l.int - (a.len : Int))) < (0 : Int)) then some [(Dat.i (-1 : Int))] else loopE T C118 K keep118 Tryz.f118 0 0 (behind T C118 K keep118 Tryz.f118 [tInt] 0) K (S118_0 a (IntKind.i64.wrap (l.int - (a.len : Int))) (0 : Int))) := by kernel_rfl
theorem con118 : ConOk Tryz.prog 118 (szSig (.sl s11)) := con hM hD hT hC118 keep118 Tryz.func118 (by kernel_rfl) (by kernel_rfl) fun ds hl hp => by
  obtain ⟨a, l, rfl⟩ := ds_two hl
  obtain ⟨ha, h0, h1⟩ := sz_pre (show (fit M (.sl s11) a && (decide (0 ≤ l.int) && decide (l.int ≤ 1048576))) = true from hp)
  obtain ⟨hn, he⟩ := fit_sl ha
  refine ⟨a.len + 1, ?_⟩
  show _ = some [Dat.i (szr (wt (.sl s11) a) l.int)]
  rw [wt_sl]
  rw [f118_start]
  refine sz_len (k := fun l' => loopE T C118 (a.len + 1) keep118 Tryz.f118 0 0 (behind T C118 (a.len + 1) keep118 Tryz.f118 [tInt] 0) (a.len + 1) (S118_0 a l' 0)) hn h0 h1 fun l' p0 p1 => ?_
  exact sz_loop (E := fun n j l => loopE T C118 (a.len + 1) keep118 Tryz.f118 0 0 (behind T C118 (a.len + 1) keep118 Tryz.f118 [tInt] 0) n (S118_0 a l (j : Int))) (N := a.len) (g := fun j => wt s11 (a.fld j)) (fun n j l hj q0 q1 => by
    have f1 := he j hj
    have e1 : decide (0 ≤ l) = true := by simpa using q0
    have e2 : decide (l ≤ 1048576) = true := by simpa using q1
    show loopE T C118 (a.len + 1) keep118 Tryz.f118 0 0 (behind T C118 (a.len + 1) keep118 Tryz.f118 [tInt] 0) (n + 1) (S118_0 a l (j : Int)) = _
    rw [f118_round0]
    simp only [dlt hj, dge, Int.toNat_natCast, f1, e1, e2, Bool.and_self, cond_true, wrap_succ hj hn]
    rfl)
    (fun n l => by
    show loopE T C118 (a.len + 1) keep118 Tryz.f118 0 0 (behind T C118 (a.len + 1) keep118 Tryz.f118 [tInt] 0) (n + 1) (S118_0 a l (a.len : Int)) = _
    rw [f118_round0, dnlt (Nat.lt_irrefl _)]; rfl) l' p0 p1


/-! laws.szThread -/
abbrev C99 : FuncId → Option Sig := tabC [(118, szSig (.sl s11))]
theorem hC99 : ∀ g sg, C99 g = some sg → ConOk Tryz.prog g sg := (tabC_cons con118 tabC_nil)
abbrev keep99 : Nat → List Nat := fun _ => []
theorem f99_start (K : Nat) (a : Dat) (l : Dat) : evBody T C99 noL K keep99 Tryz.f99 [s12, tInt] [tInt] [a, l] =
      (bif (fit M (.sl s11) (a.fld 1) && (decide (0 ≤ l.int) && decide (l.int ≤ 1048576))) then (bif decide ((szR (.sl s11) (a.fld 1) l.int) < (0 : Int)) then some [(Dat.i (-1 : Int))] else some [(Dat.i (szR (.sl s11) (a.fld 1) l.int))]) else none) := by kernel_rfl
theorem con99 : ConOk Tryz.prog 99 (szSig s12) := con hM hD hT hC99 keep99 Tryz.func99 (by kernel_rfl) (by kernel_rfl) fun ds hl hp => by
  obtain ⟨a, l, rfl⟩ := ds_two hl
  obtain ⟨ha, h0, h1⟩ := sz_pre (show (fit M s12 a && (decide (0 ≤ l.int) && decide (l.int ≤ 1048576))) = true from hp)
  refine ⟨0, ?_⟩
  have k1 : fit M (.sl s11) (a.fld 1) = true := fit_fld ha 1 rfl
  have hw : wt s12 a = (wt (.sl s11) (a.fld 1) + 0) := by
    simp only [wt_st, wts_cons, wts_nil, wt_int, Nat.zero_add, Nat.add_zero]
  show _ = some [Dat.i (szr (wt s12 a) l.int)]
  rw [f99_start, hw]
  exact sz_call (k := fun l0 => some [(Dat.i l0)]) k1 h0 h1 (fun l0 p0 q0 => (by rw [szr_zero p0]))


/-! laws.szLockS -/
abbrev C100 : FuncId → Option Sig := tabC []
theorem hC100 : ∀ g sg, C100 g = some sg → ConOk Tryz.prog g sg := tabC_nil
abbrev keep100 : Nat → List Nat := fun _ => []
theorem f100_start (K : Nat) (a : Dat) (l : Dat) : evBody T C100 noL K keep100 Tryz.f100 [(.sl s13), tInt] [tInt] [a, l] =
      (bif decide ((IntKind.i64.wrap (l.int - (a.len : Int))) < (0 : Int)) then some [(Dat.i (-1 : Int))] else some [(Dat.i (IntKind.i64.wrap (l.int - (a.len : Int))))]) := by kernel_rfl
theorem con100 : ConOk Tryz.prog 100 (szSig (.sl s13)) := con hM hD hT hC100 keep100 Tryz.func100 (by kernel_rfl) (by kernel_rfl) fun ds hl hp => by
  obtain ⟨a, l, rfl⟩ := ds_two hl
  obtain ⟨ha, h0, h1⟩ := sz_pre (show (fit M (.sl s13) a && (decide (0 ≤ l.int) && decide (l.int ≤ 1048576))) = true from hp)
  obtain ⟨hn, he⟩ := fit_sl ha
  refine ⟨0, ?_⟩
  show _ = some [Dat.i (szr (wt (.sl s13) a) l.int)]
  rw [wt_sl, f100_start, sum_zero (fun i => show wt s13 (a.fld i) = 0 from rfl)]
  exact sz_len hn h0 h1 fun l' p0 _ => by rw [szr_zero p0]


/-! laws.szTask -/
abbrev C67 : FuncId → Option Sig := tabC [(99, szSig s12), (100, szSig (.sl s13))]
theorem hC67 : ∀ g sg, C67 g = some sg → ConOk Tryz.prog g sg := (tabC_cons con99 (tabC_cons con100 tabC_nil))
abbrev keep67 : Nat → List Nat := fun _ => []
theorem f67_start (K : Nat) (a : Dat) (l : Dat) : evBody T C67 noL K keep67 Tryz.f67 [s14, tInt] [tInt] [a, l] =
      (bif (fit M s12 (a.fld 0) && (decide (0 ≤ l.int) && decide (l.int ≤ 1048576))) then (bif decide ((szR s12 (a.fld 0) l.int) < (0 : Int)) then some [(Dat.i (-1 : Int))] else (bif (fit M (.sl s13) (a.fld 3) && (decide (0 ≤ (szR s12 (a.fld 0) l.int)) && decide ((szR s12 (a.fld 0) l.int) ≤ 1048576))) then (bif decide ((szR (.sl s13) (a.fld 3) (szR s12 (a.fld 0) l.int)) < (0 : Int)) then some [(Dat.i (-1 : Int))] else some [(Dat.i (szR (.sl s13) (a.fld 3) (szR s12 (a.fld 0) l.int)))]) else none)) else none) := by kernel_rfl
theorem con67 : ConOk Tryz.prog 67 (szSig s14) := con hM hD hT hC67 keep67 Tryz.func67 (by kernel_rfl) (by kernel_rfl) fun ds hl hp => by
  obtain ⟨a, l, rfl⟩ := ds_two hl
  obtain ⟨ha, h0, h1⟩ := sz_pre (show (fit M s14 a && (decide (0 ≤ l.int) && decide (l.int ≤ 1048576))) = true from hp)
  refine ⟨0, ?_⟩
  have k3 : fit M (.sl s13) (a.fld 3) = true := fit_fld ha 3 rfl
  have k0 : fit M s12 (a.fld 0) = true := fit_fld ha 0 rfl
  have hw : wt s14 a = (wt s12 (a.fld 0) + (wt (.sl s13) (a.fld 3) + 0)) := by
    simp only [wt_st, wts_cons, wts_nil, wt_int, Nat.zero_add, Nat.add_zero]
  show _ = some [Dat.i (szr (wt s14 a) l.int)]
  rw [f67_start, hw]
  exact sz_call (k := fun l0 => (bif (fit M (.sl s13) (a.fld 3) && (decide (0 ≤ l0) && decide (l0 ≤ 1048576))) then (bif decide ((szR (.sl s13) (a.fld 3) l0) < (0 : Int)) then some [(Dat.i (-1 : Int))] else some [(Dat.i (szR (.sl s13) (a.fld 3) l0))]) else none)) k0 h0 h1 (fun l0 p0 q0 => sz_call (k := fun l1 => some [(Dat.i l1)]) k3 p0 q0 (fun l1 p1 q1 => (by rw [szr_zero p1])))


/-! laws.szTaskS -/
abbrev C37 : FuncId → Option Sig := tabC [(67, szSig s14)]
theorem hC37 : ∀ g sg, C37 g = some sg → ConOk Tryz.prog g sg := (tabC_cons con67 tabC_nil)
abbrev keep37 : Nat → List Nat | 0 => [0, 1, 4, 5] | _ => []
def S37_0 (x0 : Dat) (x1 : Int) (x5 : Int) : St := ⟨[.ro s14 x0, .int .i64 x1, .u, .u, .int .i64 (0 : Int), .int .i64 x5] ++ us 21, []⟩
theorem f37_round0 (K n : Nat) (x0 : Dat) (x1 : Int) (x5 : Int) :
    loopE T C37 K keep37 Tryz.f37 0 0 (behind T C37 K keep37 Tryz.f37 [tInt] 0) (n + 1) (S37_0 x0 x1 x5) =
      (bif decide (x5 < (x0.len : Int)) then (bif (decide (0 ≤ x5) && decide (x5 < (x0.len : Int))) then (bif (fit M s14 (x0.fld x5.toNat) && (decide (0 ≤ x1) && decide (x1 ≤ 1048576))) then (bif decide ((szR s14 (x0.fld x5.toNat) x1) < (0 : Int)) then some [(Dat.i (-1 : Int))] else loopE T C37 K keep37 Tryz.f37 0 0 (behind T C37 K keep37 Tryz.f37 [tInt] 0) n (S37_0 x0 (szR s14 (x0.fld x5.toNat) x1) (IntKind.i64.wrap (x5 + (1 : Int))))) else none) else none) else some [(Dat.i x1)]) := by kernel_rfl
theorem f37_start (K : Nat) (a : Dat) (l : Dat) : evBody T C37 noL K keep37 Tryz.f37 [(.sl s14), tInt] [tInt] [a, l] =
      (bif decide ((IntKind.i64.wrap (l.int - (a.len : Int))) < (0 : Int)) then some [(Dat.i (-1 : Int))] else loopE T C37 K keep37 Tryz.f37 0 0 (behind T C37 K keep37 Tryz.f37 [tInt] 0) K (S37_0 a (IntKind.i64.wrap (l.int - (a.len : Int))) (0 : Int))) := by kernel_rfl
theorem con37 : ConOk Tryz.prog 37 (szSig (.sl s14)) := con hM hD hT hC37 keep37 Tryz.func37 (by kernel_rfl) (by kernel_rfl) fun ds hl hp => by
  obtain ⟨a, l, rfl⟩ := ds_two hl
  obtain ⟨ha, h0, h1⟩ := sz_pre (show (fit M (.sl s14) a && (decide (0 ≤ l.int) && decide (l.int ≤ 1048576))) = true from hp)
  obtain ⟨hn, he⟩ := fit_sl ha
  refine ⟨a.len + 1, ?_⟩
  show _ = some [Dat.i (szr (wt (.sl s14) a) l.int)]
  rw [wt_sl]
  rw [f37_start]
  refine sz_len (k := fun l' => loopE T C37 (a.len + 1) keep37 Tryz.f37 0 0 (behind T C37 (a.len + 1) keep37 Tryz.f37 [tInt] 0) (a.len + 1) (S37_0 a l' 0)) hn h0 h1 fun l' p0 p1 => ?_
  exact sz_loop (E := fun n j l => loopE T C37 (a.len + 1) keep37 Tryz.f37 0 0 (behind T C37 (a.len + 1) keep37 Tryz.f37 [tInt] 0) n (S37_0 a l (j : Int))) (N := a.len) (g := fun j => wt s14 (a.fld j)) (fun n j l hj q0 q1 => by
    have f1 := he j hj
    have e1 : decide (0 ≤ l) = true := by simpa using q0
    have e2 : decide (l ≤ 1048576) = true := by simpa using q1
    show loopE T C37 (a.len + 1) keep37 Tryz.f37 0 0 (behind T C37 (a.len + 1) keep37 Tryz.f37 [tInt] 0) (n + 1) (S37_0 a l (j : Int)) = _
    rw [f37_round0]
    simp only [dlt hj, dge, Int.toNat_natCast, f1, e1, e2, Bool.and_self, cond_true, wrap_succ hj hn]
    rfl)
    (fun n l => by
    show loopE T C37 (a.len + 1) keep37 Tryz.f37 0 0 (behind T C37 (a.len + 1) keep37 Tryz.f37 [tInt] 0) (n + 1) (S37_0 a l (a.len : Int)) = _
    rw [f37_round0, dnlt (Nat.lt_irrefl _)]; rfl) l' p0 p1


/-! laws.szEnd -/
abbrev C68 : FuncId → Option Sig := tabC [(36, szSig (.sl s3)), (12, szSig (.sl tInt))]
theorem hC68 : ∀ g sg, C68 g = some sg → ConOk Tryz.prog g sg := (tabC_cons con36 (tabC_cons con12 tabC_nil))
abbrev keep68 : Nat → List Nat := fun _ => []
theorem f68_start (K : Nat) (a : Dat) (l : Dat) : evBody T C68 noL K keep68 Tryz.f68 [s15, tInt] [tInt] [a, l] =
      (bif (fit M (.sl s3) (a.fld 1) && (decide (0 ≤ l.int) && decide (l.int ≤ 1048576))) then (bif decide ((szR (.sl s3) (a.fld 1) l.int) < (0 : Int)) then some [(Dat.i (-1 : Int))] else (bif (fit M (.sl tInt) (a.fld 2) && (decide (0 ≤ (szR (.sl s3) (a.fld 1) l.int)) && decide ((szR (.sl s3) (a.fld 1) l.int) ≤ 1048576))) then (bif decide ((szR (.sl tInt) (a.fld 2) (szR (.sl s3) (a.fld 1) l.int)) < (0 : Int)) then some [(Dat.i (-1 : Int))] else some [(Dat.i (szR (.sl tInt) (a.fld 2) (szR (.sl s3) (a.fld 1) l.int)))]) else none)) else none) := by kernel_rfl
theorem con68 : ConOk Tryz.prog 68 (szSig s15) := con hM hD hT hC68 keep68 Tryz.func68 (by kernel_rfl) (by kernel_rfl) fun ds hl hp => by
  obtain ⟨a, l, rfl⟩ := ds_two hl
  obtain ⟨ha, h0, h1⟩ := sz_pre (show (fit M s15 a && (decide (0 ≤ l.int) && decide (l.int ≤ 1048576))) = true from hp)
  refine ⟨0, ?_⟩
  have k2 : fit M (.sl tInt) (a.fld 2) = true := fit_fld ha 2 rfl
  have k1 : fit M (.sl s3) (a.fld 1) = true := fit_fld ha 1 rfl
  have hw : wt s15 a = (wt (.sl s3) (a.fld 1) + (wt (.sl tInt) (a.fld 2) + 0)) := by
    simp only [wt_st, wts_cons, wts_nil, wt_int, Nat.zero_add, Nat.add_zero]
  show _ = some [Dat.i (szr (wt s15 a) l.int)]
  rw [f68_start, hw]
  exact sz_call (k := fun l0 => (bif (fit M (.sl tInt) (a.fld 2) && (decide (0 ≤ l0) && decide (l0 ≤ 1048576))) then (bif decide ((szR (.sl tInt) (a.fld 2) l0) < (0 : Int)) then some [(Dat.i (-1 : Int))] else some [(Dat.i (szR (.sl tInt) (a.fld 2) l0))]) else none)) k1 h0 h1 (fun l0 p0 q0 => sz_call (k := fun l1 => some [(Dat.i l1)]) k2 p0 q0 (fun l1 p1 q1 => (by rw [szr_zero p1])))


/-! laws.szEndS -/
abbrev C38 : FuncId → Option Sig := tabC [(68, szSig s15)]
theorem hC38 : ∀ g sg, C38 g = some sg → ConOk Tryz.prog g sg := (tabC_cons con68 tabC_nil)
abbrev keep38 : Nat → List Nat | 0 => [0, 1, 4, 5] | _ => []
def S38_0 (x0 : Dat) (x1 : Int) (x5 : Int) : St := ⟨[.ro s15 x0, .int .i64 x1, .u, .u, .int .i64 (0 : Int), .int .i64 x5] ++ us 21, []⟩
theorem f38_round0 (K n : Nat) (x0 : Dat) (x1 : Int) (x5 : Int) :
    loopE T C38 K keep38 Tryz.f38 0 0 (behind T C38 K keep38 Tryz.f38 [tInt] 0) (n + 1) (S38_0 x0 x1 x5) =
      (bif decide (x5 < (x0.len : Int)) then (bif (decide (0 ≤ x5) && decide (x5 < (x0.len : Int))) then (bif (fit M s15 (x0.fld x5.toNat) && (decide (0 ≤ x1) && decide (x1 ≤ 1048576))) then (bif decide ((szR s15 (x0.fld x5.toNat) x1) < (0 : Int)) then some [(Dat.i (-1 : Int))] else loopE T C38 K keep38 Tryz.f38 0 0 (behind T C38 K keep38 Tryz.f38 [tInt] 0) n (S38_0 x0 (szR s15 (x0.fld x5.toNat) x1) (IntKind.i64.wrap (x5 + (1 : Int))))) else none) else none) else some [(Dat.i x1)]) := by kernel_rfl
theorem f38_start (K : Nat) (a : Dat) (l : Dat) : evBody T C38 noL K keep38 Tryz.f38 [(.sl s15), tInt] [tInt] [a, l] =
      (bif decide ((IntKind.i64.wrap (l.int - (a.len : Int))) < (0 : Int)) then some [(Dat.i (-1 : Int))] else loopE T C38 K keep38 Tryz.f38 0 0 (behind T C38 K keep38 Tryz.f38 [tInt] 0) K (S38_0 a (IntKind.i64.wrap (l.int - (a.len : Int))) (0 : Int))) := by kernel_rfl
theorem con38 : ConOk Tryz.prog 38 (szSig (.sl s15)) := con hM hD hT hC38 keep38 Tryz.func38 (by kernel_rfl) (by kernel_rfl) fun ds hl hp => by
  obtain ⟨a, l, rfl⟩ := ds_two hl
  obtain ⟨ha, h0, h1⟩ := sz_pre (show (fit M (.sl s15) a && (decide (0 ≤ l.int) && decide (l.int ≤ 1048576))) = true from hp)
  obtain ⟨hn, he⟩ := fit_sl ha
  refine ⟨a.len + 1, ?_⟩
  show _ = some [Dat.i (szr (wt (.sl s15) a) l.int)]
  rw [wt_sl]
  rw [f38_start]
  refine sz_len (k := fun l' => loopE T C38 (a.len + 1) keep38 Tryz.f38 0 0 (behind T C38 (a.len + 1) keep38 Tryz.f38 [tInt] 0) (a.len + 1) (S38_0 a l' 0)) hn h0 h1 fun l' p0 p1 => ?_
  exact sz_loop (E := fun n j l => loopE T C38 (a.len + 1) keep38 Tryz.f38 0 0 (behind T C38 (a.len + 1) keep38 Tryz.f38 [tInt] 0) n (S38_0 a l (j : Int))) (N := a.len) (g := fun j => wt s15 (a.fld j)) (fun n j l hj q0 q1 => by
    have f1 := he j hj
    have e1 : decide (0 ≤ l) = true := by simpa using q0
    have e2 : decide (l ≤ 1048576) = true := by simpa using q1
    show loopE T C38 (a.len + 1) keep38 Tryz.f38 0 0 (behind T C38 (a.len + 1) keep38 Tryz.f38 [tInt] 0) (n + 1) (S38_0 a l (j : Int)) = _
    rw [f38_round0]
    simp only [dlt hj, dge, Int.toNat_natCast, f1, e1, e2, Bool.and_self, cond_true, wrap_succ hj hn]
    rfl)
    (fun n l => by
    show loopE T C38 (a.len + 1) keep38 Tryz.f38 0 0 (behind T C38 (a.len + 1) keep38 Tryz.f38 [tInt] 0) (n + 1) (S38_0 a l (a.len : Int)) = _
    rw [f38_round0, dnlt (Nat.lt_irrefl _)]; rfl) l' p0 p1


/-! laws.szCellS -/
abbrev C140 : FuncId → Option Sig := tabC []
theorem hC140 : ∀ g sg, C140 g = some sg → ConOk Tryz.prog g sg := tabC_nil
abbrev keep140 : Nat → List Nat := fun _ => []
theorem f140_start (K : Nat) (a : Dat) (l : Dat) : evBody T C140 noL K keep140 Tryz.f140 [(.sl s16), tInt] [tInt] [a, l] =
      (bif decide ((IntKind.i64.wrap (l.int - (a.len : Int))) < (0 : Int)) then some [(Dat.i (-1 : Int))] else some [(Dat.i (IntKind.i64.wrap (l.int - (a.len : Int))))]) := by kernel_rfl
theorem con140 : ConOk Tryz.prog 140 (szSig (.sl s16)) := con hM hD hT hC140 keep140 Tryz.func140 (by kernel_rfl) (by kernel_rfl) fun ds hl hp => by
  obtain ⟨a, l, rfl⟩ := ds_two hl
  obtain ⟨ha, h0, h1⟩ := sz_pre (show (fit M (.sl s16) a && (decide (0 ≤ l.int) && decide (l.int ≤ 1048576))) = true from hp)
  obtain ⟨hn, he⟩ := fit_sl ha
  refine ⟨0, ?_⟩
  show _ = some [Dat.i (szr (wt (.sl s16) a) l.int)]
  rw [wt_sl, f140_start, sum_zero (fun i => show wt s16 (a.fld i) = 0 from rfl)]
  exact sz_len hn h0 h1 fun l' p0 _ => by rw [szr_zero p0]


/-! laws.szMsg -/
abbrev C133 : FuncId → Option Sig := tabC [(140, szSig (.sl s16)), (36, szSig (.sl s3))]
theorem hC133 : ∀ g sg, C133 g = some sg → ConOk Tryz.prog g sg := (tabC_cons con140 (tabC_cons con36 tabC_nil))
abbrev keep133 : Nat → List Nat := fun _ => []
theorem f133_start (K : Nat) (a : Dat) (l : Dat) : evBody T C133 noL K keep133 Tryz.f133 [s17, tInt] [tInt] [a, l] =
      (bif (fit M (.sl s16) (a.fld 5) && (decide (0 ≤ l.int) && decide (l.int ≤ 1048576))) then (bif decide ((szR (.sl s16) (a.fld 5) l.int) < (0 : Int)) then some [(Dat.i (-1 : Int))] else (bif (fit M (.sl s3) (a.fld 6) && (decide (0 ≤ (szR (.sl s16) (a.fld 5) l.int)) && decide ((szR (.sl s16) (a.fld 5) l.int) ≤ 1048576))) then (bif decide ((szR (.sl s3) (a.fld 6) (szR (.sl s16) (a.fld 5) l.int)) < (0 : Int)) then some [(Dat.i (-1 : Int))] else some [(Dat.i (szR (.sl s3) (a.fld 6) (szR (.sl s16) (a.fld 5) l.int)))]) else none)) else none) := by kernel_rfl
theorem con133 : ConOk Tryz.prog 133 (szSig s17) := con hM hD hT hC133 keep133 Tryz.func133 (by kernel_rfl) (by kernel_rfl) fun ds hl hp => by
  obtain ⟨a, l, rfl⟩ := ds_two hl
  obtain ⟨ha, h0, h1⟩ := sz_pre (show (fit M s17 a && (decide (0 ≤ l.int) && decide (l.int ≤ 1048576))) = true from hp)
  refine ⟨0, ?_⟩
  have k6 : fit M (.sl s3) (a.fld 6) = true := fit_fld ha 6 rfl
  have k5 : fit M (.sl s16) (a.fld 5) = true := fit_fld ha 5 rfl
  have hw : wt s17 a = (wt (.sl s16) (a.fld 5) + (wt (.sl s3) (a.fld 6) + 0)) := by
    simp only [wt_st, wts_cons, wts_nil, wt_int, Nat.zero_add, Nat.add_zero]
  show _ = some [Dat.i (szr (wt s17 a) l.int)]
  rw [f133_start, hw]
  exact sz_call (k := fun l0 => (bif (fit M (.sl s3) (a.fld 6) && (decide (0 ≤ l0) && decide (l0 ≤ 1048576))) then (bif decide ((szR (.sl s3) (a.fld 6) l0) < (0 : Int)) then some [(Dat.i (-1 : Int))] else some [(Dat.i (szR (.sl s3) (a.fld 6) l0))]) else none)) k5 h0 h1 (fun l0 p0 q0 => sz_call (k := fun l1 => some [(Dat.i l1)]) k6 p0 q0 (fun l1 p1 q1 => (by rw [szr_zero p1])))


/-! laws.szMsgS -/
abbrev C119 : FuncId → Option Sig := tabC [(133, szSig s17)]
theorem hC119 : ∀ g sg, C119 g = some sg → ConOk Tryz.prog g sg := (tabC_cons con133 tabC_nil)
abbrev keep119 : Nat → List Nat | 0 => [0, 1, 4, 5] | _ => []
def S119_0 (x0 : Dat) (x1 : Int) (x5 : Int) : St := ⟨[.ro s17 x0, .int .i64 x1, .u, .u, .int .i64 (0 : Int), .int .i64 x5] ++ us 21, []⟩
theorem f119_round0 (K n : Nat) (x0 : Dat) (x1 : Int) (x5 : Int) :
    loopE T C119 K keep119 Tryz.f119 0 0 (behind T C119 K keep119 Tryz.f119 [tInt] 0) (n + 1) (S119_0 x0 x1 x5) =
      (bif decide (x5 < (x0.len : Int)) then (bif (decide (0 ≤ x5) && decide (x5 < (x0.len : Int))) then (bif (fit M s17 (x0.fld x5.toNat) && (decide (0 ≤ x1) && decide (x1 ≤ 1048576))) then (bif decide ((szR s17 (x0.fld x5.toNat) x1) < (0 : Int)) then some [(Dat.i (-1 : Int))] else loopE T C119 K keep119 Tryz.f119 0 0 (behind T C119 K keep119 Tryz.f119 [tInt] 0) n (S119_0 x0 (szR s17 (x0.fld x5.toNat) x1) (IntKind.i64.wrap (x5 + (1 : Int))))) else none) else none) else some [(Dat.i x1)]) := by kernel_rfl
theorem f119_start (K : Nat) (a : Dat) (l : Dat) : evBody T C119 noL K keep119 Tryz.f119 [(.sl s17), tInt] [tInt] [a, l] =
      (bif decide ((IntKind.i64.wrap (l.int - (a.len : Int))) < (0 : Int)) then some [(Dat.i (-1 : Int))] else loopE T C119 K keep119 Tryz.f119 0 0 (behind T C119 K keep119 Tryz.f119 [tInt] 0) K (S119_0 a (IntKind.i64.wrap (l.int - (a.len : Int))) (0 : Int))) := by kernel_rfl
theorem con119 : ConOk Tryz.prog 119 (szSig (.sl s17)) := con hM hD hT hC119 keep119 Tryz.func119 (by kernel_rfl) (by kernel_rfl) fun ds hl hp => by
  obtain ⟨a, l, rfl⟩ := ds_two hl
  obtain ⟨ha, h0, h1⟩ := sz_pre (show (fit M (.sl s17) a && (decide (0 ≤ l.int) && decide (l.int ≤ 1048576))) = true from hp)
  obtain ⟨hn, he⟩ := fit_sl ha
  refine ⟨a.len + 1, ?_⟩
  show _ = some [Dat.i (szr (wt (.sl s17) a) l.int)]
  rw [wt_sl]
  rw [f119_start]
  refine sz_len (k := fun l' => loopE T C119 (a.len + 1) keep119 Tryz.f119 0 0 (behind T C119 (a.len + 1) keep119 Tryz.f119 [tInt] 0) (a.len + 1) (S119_0 a l' 0)) hn h0 h1 fun l' p0 p1 => ?_
  exact sz_loop (E := fun n j l => loopE T C119 (a.len + 1) keep119 Tryz.f119 0 0 (behind T C119 (a.len + 1) keep119 Tryz.f119 [tInt] 0) n (S119_0 a l (j : Int))) (N := a.len) (g := fun j => wt s17 (a.fld j)) (fun n j l hj q0 q1 => by
    have f1 := he j hj
    have e1 : decide (0 ≤ l) = true := by simpa using q0
    have e2 : decide (l ≤ 1048576) = true := by simpa using q1
    show loopE T C119 (a.len + 1) keep119 Tryz.f119 0 0 (behind T C119 (a.len + 1) keep119 Tryz.f119 [tInt] 0) (n + 1) (S119_0 a l (j : Int)) = _
    rw [f119_round0]
    simp only [dlt hj, dge, Int.toNat_natCast, f1, e1, e2, Bool.and_self, cond_true, wrap_succ hj hn]
    rfl)
    (fun n l => by
    show loopE T C119 (a.len + 1) keep119 Tryz.f119 0 0 (behind T C119 (a.len + 1) keep119 Tryz.f119 [tInt] 0) (n + 1) (S119_0 a l (a.len : Int)) = _
    rw [f119_round0, dnlt (Nat.lt_irrefl _)]; rfl) l' p0 p1


/-! laws.szSender -/
abbrev C101 : FuncId → Option Sig := tabC [(119, szSig (.sl s17))]
theorem hC101 : ∀ g sg, C101 g = some sg → ConOk Tryz.prog g sg := (tabC_cons con119 tabC_nil)
abbrev keep101 : Nat → List Nat := fun _ => []
theorem f101_start (K : Nat) (a : Dat) (l : Dat) : evBody T C101 noL K keep101 Tryz.f101 [s18, tInt] [tInt] [a, l] =
      (bif (fit M (.sl s17) (a.fld 1) && (decide (0 ≤ l.int) && decide (l.int ≤ 1048576))) then (bif decide ((szR (.sl s17) (a.fld 1) l.int) < (0 : Int)) then some [(Dat.i (-1 : Int))] else some [(Dat.i (szR (.sl s17) (a.fld 1) l.int))]) else none) := by kernel_rfl
theorem con101 : ConOk Tryz.prog 101 (szSig s18) := con hM hD hT hC101 keep101 Tryz.func101 (by kernel_rfl) (by kernel_rfl) fun ds hl hp => by
  obtain ⟨a, l, rfl⟩ := ds_two hl
  obtain ⟨ha, h0, h1⟩ := sz_pre (show (fit M s18 a && (decide (0 ≤ l.int) && decide (l.int ≤ 1048576))) = true from hp)
  refine ⟨0, ?_⟩
  have k1 : fit M (.sl s17) (a.fld 1) = true := fit_fld ha 1 rfl
  have hw : wt s18 a = (wt (.sl s17) (a.fld 1) + 0) := by
    simp only [wt_st, wts_cons, wts_nil, wt_int, Nat.zero_add, Nat.add_zero]
  show _ = some [Dat.i (szr (wt s18 a) l.int)]
  rw [f101_start, hw]
  exact sz_call (k := fun l0 => some [(Dat.i l0)]) k1 h0 h1 (fun l0 p0 q0 => (by rw [szr_zero p0]))


/-! laws.szLine -/
abbrev C69 : FuncId → Option Sig := tabC [(101, szSig s18)]
theorem hC69 : ∀ g sg, C69 g = some sg → ConOk Tryz.prog g sg := (tabC_cons con101 tabC_nil)
abbrev keep69 : Nat → List Nat := fun _ => []
theorem f69_start (K : Nat) (a : Dat) (l : Dat) : evBody T C69 noL K keep69 Tryz.f69 [s19, tInt] [tInt] [a, l] =
      (bif (fit M s18 (a.fld 0) && (decide (0 ≤ l.int) && decide (l.int ≤ 1048576))) then (bif decide ((szR s18 (a.fld 0) l.int) < (0 : Int)) then some [(Dat.i (-1 : Int))] else some [(Dat.i (szR s18 (a.fld 0) l.int))]) else none) := by kernel_rfl
theorem con69 : ConOk Tryz.prog 69 (szSig s19) := con hM hD hT hC69 keep69 Tryz.func69 (by kernel_rfl) (by kernel_rfl) fun ds hl hp => by
  obtain ⟨a, l, rfl⟩ := ds_two hl
  obtain ⟨ha, h0, h1⟩ := sz_pre (show (fit M s19 a && (decide (0 ≤ l.int) && decide (l.int ≤ 1048576))) = true from hp)
  refine ⟨0, ?_⟩
  have k0 : fit M s18 (a.fld 0) = true := fit_fld ha 0 rfl
  have hw : wt s19 a = (wt s18 (a.fld 0) + 0) := by
    simp only [wt_st, wts_cons, wts_nil, wt_int, Nat.zero_add, Nat.add_zero]
  show _ = some [Dat.i (szr (wt s19 a) l.int)]
  rw [f69_start, hw]
  exact sz_call (k := fun l0 => some [(Dat.i l0)]) k0 h0 h1 (fun l0 p0 q0 => (by rw [szr_zero p0]))


/-! laws.szLineS -/
abbrev C39 : FuncId → Option Sig := tabC [(69, szSig s19)]
theorem hC39 : ∀ g sg, C39 g = some sg → ConOk Tryz.prog g sg := (tabC_cons con69 tabC_nil)
abbrev keep39 : Nat → List Nat | 0 => [0, 1, 4, 5] | _ => []
def S39_0 (x0 : Dat) (x1 : Int) (x5 : Int) : St := ⟨[.ro s19 x0, .int .i64 x1, .u, .u, .int .i64 (0 : Int), .int .i64 x5] ++ us 21, []⟩
theorem f39_round0 (K n : Nat) (x0 : Dat) (x1 : Int) (x5 : Int) :
    loopE T C39 K keep39 Tryz.f39 0 0 (behind T C39 K keep39 Tryz.f39 [tInt] 0) (n + 1) (S39_0 x0 x1 x5) =
      (bif decide (x5 < (x0.len : Int)) then (bif (decide (0 ≤ x5) && decide (x5 < (x0.len : Int))) then (bif (fit M s19 (x0.fld x5.toNat) && (decide (0 ≤ x1) && decide (x1 ≤ 1048576))) then (bif decide ((szR s19 (x0.fld x5.toNat) x1) < (0 : Int)) then some [(Dat.i (-1 : Int))] else loopE T C39 K keep39 Tryz.f39 0 0 (behind T C39 K keep39 Tryz.f39 [tInt] 0) n (S39_0 x0 (szR s19 (x0.fld x5.toNat) x1) (IntKind.i64.wrap (x5 + (1 : Int))))) else none) else none) else some [(Dat.i x1)]) := by kernel_rfl
theorem f39_start (K : Nat) (a : Dat) (l : Dat) : evBody T C39 noL K keep39 Tryz.f39 [(.sl s19), tInt] [tInt] [a, l] =
      (bif decide ((IntKind.i64.wrap (l.int - (a.len : Int))) < (0 : Int)) then some [(Dat.i (-1 : Int))] else loopE T C39 K keep39 Tryz.f39 0 0 (behind T C39 K keep39 Tryz.f39 [tInt] 0) K (S39_0 a (IntKind.i64.wrap (l.int - (a.len : Int))) (0 : Int))) := by kernel_rfl
theorem con39 : ConOk Tryz.prog 39 (szSig (.sl s19)) := con hM hD hT hC39 keep39 Tryz.func39 (by kernel_rfl) (by kernel_rfl) fun ds hl hp => by
  obtain ⟨a, l, rfl⟩ := ds_two hl
  obtain ⟨ha, h0, h1⟩ := sz_pre (show (fit M (.sl s19) a && (decide (0 ≤ l.int) && decide (l.int ≤ 1048576))) = true from hp)
  obtain ⟨hn, he⟩ := fit_sl ha
  refine ⟨a.len + 1, ?_⟩
  show _ = some [Dat.i (szr (wt (.sl s19) a) l.int)]
  rw [wt_sl]
  rw [f39_start]
  refine sz_len (k := fun l' => loopE T C39 (a.len + 1) keep39 Tryz.f39 0 0 (behind T C39 (a.len + 1) keep39 Tryz.f39 [tInt] 0) (a.len + 1) (S39_0 a l' 0)) hn h0 h1 fun l' p0 p1 => ?_
  exact sz_loop (E := fun n j l => loopE T C39 (a.len + 1) keep39 Tryz.f39 0 0 (behind T C39 (a.len + 1) keep39 Tryz.f39 [tInt] 0) n (S39_0 a l (j : Int))) (N := a.len) (g := fun j => wt s19 (a.fld j)) (fun n j l hj q0 q1 => by
    have f1 := he j hj
    have e1 : decide (0 ≤ l) = true := by simpa using q0
    have e2 : decide (l ≤ 1048576) = true := by simpa using q1
    show loopE T C39 (a.len + 1) keep39 Tryz.f39 0 0 (behind T C39 (a.len + 1) keep39 Tryz.f39 [tInt] 0) (n + 1) (S39_0 a l (j : Int)) = _
    rw [f39_round0]
    simp only [dlt hj, dge, Int.toNat_natCast, f1, e1, e2, Bool.and_self, cond_true, wrap_succ hj hn]
    rfl)
    (fun n l => by
    show loopE T C39 (a.len + 1) keep39 Tryz.f39 0 0 (behind T C39 (a.len + 1) keep39 Tryz.f39 [tInt] 0) (n + 1) (S39_0 a l (a.len : Int)) = _
    rw [f39_round0, dnlt (Nat.lt_irrefl _)]; rfl) l' p0 p1


/-! laws.szNode -/
abbrev C23 : FuncId → Option Sig := tabC [(32, szSig (.sl s8)), (33, szSig (.sl s9)), (34, szSig (.sl s3)), (35, szSig (.sl s10)), (36, szSig (.sl s3)), (37, szSig (.sl s14)), (38, szSig (.sl s15)), (12, szSig (.sl tInt)), (39, szSig (.sl s19))]
theorem hC23 : ∀ g sg, C23 g = some sg → ConOk Tryz.prog g sg := (tabC_cons con32 (tabC_cons con33 (tabC_cons con34 (tabC_cons con35 (tabC_cons con36 (tabC_cons con37 (tabC_cons con38 (tabC_cons con12 (tabC_cons con39 tabC_nil)))))))))
abbrev keep23 : Nat → List Nat := fun _ => []
theorem f23_start (K : Nat) (a : Dat) (l : Dat) : evBody T C23 noL K keep23 Tryz.f23 [s20, tInt] [tInt] [a, l] =
      (bif (fit M (.sl s8) (a.fld 1) && (decide (0 ≤ l.int) && decide (l.int ≤ 1048576))) then (bif decide ((szR (.sl s8) (a.fld 1) l.int) < (0 : Int)) then some [(Dat.i (-1 : Int))] else (bif (fit M (.sl s9) (a.fld 2) && (decide (0 ≤ (szR (.sl s8) (a.fld 1) l.int)) && decide ((szR (.sl s8) (a.fld 1) l.int) ≤ 1048576))) then (bif decide ((szR (.sl s9) (a.fld 2) (szR (.sl s8) (a.fld 1) l.int)) < (0 : Int)) then some [(Dat.i (-1 : Int))] else (bif (fit M (.sl s3) (a.fld 3) && (decide (0 ≤ (szR (.sl s9) (a.fld 2) (szR (.sl s8) (a.fld 1) l.int))) && decide ((szR (.sl s9) (a.fld 2) (szR (.sl s8) (a.fld 1) l.int)) ≤ 1048576))) then (bif decide ((szR (.sl s3) (a.fld 3) (szR (.sl s9) (a.fld 2) (szR (.sl s8) (a.fld 1) l.int))) < (0 : Int)) then some [(Dat.i (-1 : Int))] else (bif (fit M (.sl s10) (a.fld 4) && (decide (0 ≤ (szR (.sl s3) (a.fld 3) (szR (.sl s9) (a.fld 2) (szR (.sl s8) (a.fld 1) l.int)))) && decide ((szR (.sl s3) (a.fld 3) (szR (.sl s9) (a.fld 2) (szR (.sl s8) (a.fld 1) l.int))) ≤ 1048576))) then (bif decide ((szR (.sl s10) (a.fld 4) (szR (.sl s3) (a.fld 3) (szR (.sl s9) (a.fld 2) (szR (.sl s8) (a.fld 1) l.int)))) < (0 : Int)) then some [(Dat.i (-1 : Int))] else (bif (fit M (.sl s3) (a.fld 5) && (decide (0 ≤ (szR (.sl s10) (a.fld 4) (szR (.sl s3) (a.fld 3) (szR (.sl s9) (a.fld 2) (szR (.sl s8) (a.fld 1) l.int))))) && decide ((szR (.sl s10) (a.fld 4) (szR (.sl s3) (a.fld 3) (szR (.sl s9) (a.fld 2) (szR (.sl s8) (a.fld 1) l.int)))) ≤ 1048576))) then (bif decide ((szR (.sl s3) (a.fld 5) (szR (.sl s10) (a.fld 4) (szR (.sl s3) (a.fld 3) (szR (.sl s9) (a.fld 2) (szR (.sl s8) (a.fld 1) l.int))))) < (0 : Int)) then some [(Dat.i (-1 : Int))] else (bif (fit M (.sl s14) (a.fld 6) && (decide (0 ≤ (szR (.sl s3) (a.fld 5) (szR (.sl s10) (a.fld 4) (szR (.sl s3) (a.fld 3) (szR (.sl s9) (a.fld 2) (szR (.sl s8) (a.fld 1) l.int)))))) && decide ((szR (.sl s3) (a.fld 5) (szR (.sl s10) (a.fld 4) (szR (.sl s3) (a.fld 3) (szR (.sl s9) (a.fld 2) (szR (.sl s8) (a.fld 1) l.int))))) ≤ 1048576))) then (bif decide ((szR (.sl s14) (a.fld 6) (szR (.sl s3) (a.fld 5) (szR (.sl s10) (a.fld 4) (szR (.sl s3) (a.fld 3) (szR (.sl s9) (a.fld 2) (szR (.sl s8) (a.fld 1) l.int)))))) < (0 : Int)) then some [(Dat.i (-1 : Int))] else (bif (fit M (.sl s15) (a.fld 7) && (decide (0 ≤ (szR (.sl s14) (a.fld 6) (szR (.sl s3) (a.fld 5) (szR (.sl s10) (a.fld 4) (szR (.sl s3) (a.fld 3) (szR (.sl s9) (a.fld 2) (szR (.sl s8) (a.fld 1) l.int))))))) && decide ((szR (.sl s14) (a.fld 6) (szR (.sl s3) (a.fld 5) (szR (.sl s10) (a.fld 4) (szR (.sl s3) (a.fld 3) (szR (.sl s9) (a.fld 2) (szR (.sl s8) (a.fld 1) l.int)))))) ≤ 1048576))) then (bif decide ((szR (.sl s15) (a.fld 7) (szR (.sl s14) (a.fld 6) (szR (.sl s3) (a.fld 5) (szR (.sl s10) (a.fld 4) (szR (.sl s3) (a.fld 3) (szR (.sl s9) (a.fld 2) (szR (.sl s8) (a.fld 1) l.int))))))) < (0 : Int)) then some [(Dat.i (-1 : Int))] else (bif (fit M (.sl tInt) (a.fld 8) && (decide (0 ≤ (szR (.sl s15) (a.fld 7) (szR (.sl s14) (a.fld 6) (szR (.sl s3) (a.fld 5) (szR (.sl s10) (a.fld 4) (szR (.sl s3) (a.fld 3) (szR (.sl s9) (a.fld 2) (szR (.sl s8) (a.fld 1) l.int)))))))) && decide ((szR (.sl s15) (a.fld 7) (szR (.sl s14) (a.fld 6) (szR (.sl s3) (a.fld 5) (szR (.sl s10) (a.fld 4) (szR (.sl s3) (a.fld 3) (szR (.sl s9) (a.fld 2) (szR (.sl s8) (a.fld 1) l.int))))))) ≤ 1048576))) then (bif decide ((szR (.sl tInt) (a.fld 8) (szR (.sl s15) (a.fld 7) (szR (.sl s14) (a.fld 6) (szR (.sl s3) (a.fld 5) (szR (.sl s10) (a.fld 4) (szR (.sl s3) (a.fld 3) (szR (.sl s9) (a.fld 2) (szR (.sl s8) (a.fld 1) l.int)))))))) < (0 : Int)) then some [(Dat.i (-1 : Int))] else (bif (fit M (.sl s19) (a.fld 9) && (decide (0 ≤ (szR (.sl tInt) (a.fld 8) (szR (.sl s15) (a.fld 7) (szR (.sl s14) (a.fld 6) (szR (.sl s3) (a.fld 5) (szR (.sl s10) (a.fld 4) (szR (.sl s3) (a.fld 3) (szR (.sl s9) (a.fld 2) (szR (.sl s8) (a.fld 1) l.int))))))))) && decide ((szR (.sl tInt) (a.fld 8) (szR (.sl s15) (a.fld 7) (szR (.sl s14) (a.fld 6) (szR (.sl s3) (a.fld 5) (szR (.sl s10) (a.fld 4) (szR (.sl s3) (a.fld 3) (szR (.sl s9) (a.fld 2) (szR (.sl s8) (a.fld 1) l.int)))))))) ≤ 1048576))) then (bif decide ((szR (.sl s19) (a.fld 9) (szR (.sl tInt) (a.fld 8) (szR (.sl s15) (a.fld 7) (szR (.sl s14) (a.fld 6) (szR (.sl s3) (a.fld 5) (szR (.sl s10) (a.fld 4) (szR (.sl s3) (a.fld 3) (szR (.sl s9) (a.fld 2) (szR (.sl s8) (a.fld 1) l.int))))))))) < (0 : Int)) then some [(Dat.i (-1 : Int))] else some [(Dat.i (szR (.sl s19) (a.fld 9) (szR (.sl tInt) (a.fld 8) (szR (.sl s15) (a.fld 7) (szR (.sl s14) (a.fld 6) (szR (.sl s3) (a.fld 5) (szR (.sl s10) (a.fld 4) (szR (.sl s3) (a.fld 3) (szR (.sl s9) (a.fld 2) (szR (.sl s8) (a.fld 1) l.int))))))))))]) else none)) else none)) else none)) else none)) else none)) else none)) else none)) else none)) else none) := by kernel_rfl
theorem con23 : ConOk Tryz.prog 23 (szSig s20) := con hM hD hT hC23 keep23 Tryz.func23 (by kernel_rfl) (by kernel_rfl) fun ds hl hp => by
  obtain ⟨a, l, rfl⟩ := ds_two hl
  obtain ⟨ha, h0, h1⟩ := sz_pre (show (fit M s20 a && (decide (0 ≤ l.int) && decide (l.int ≤ 1048576))) = true from hp)
  refine ⟨0, ?_⟩
  have k9 : fit M (.sl s19) (a.fld 9) = true := fit_fld ha 9 rfl
  have k8 : fit M (.sl tInt) (a.fld 8) = true := fit_fld ha 8 rfl
  have k7 : fit M (.sl s15) (a.fld 7) = true := fit_fld ha 7 rfl
  have k6 : fit M (.sl s14) (a.fld 6) = true := fit_fld ha 6 rfl
  have k5 : fit M (.sl s3) (a.fld 5) = true := fit_fld ha 5 rfl
  have k4 : fit M (.sl s10) (a.fld 4) = true := fit_fld ha 4 rfl
  have k3 : fit M (.sl s3) (a.fld 3) = true := fit_fld ha 3 rfl
  have k2 : fit M (.sl s9) (a.fld 2) = true := fit_fld ha 2 rfl
  have k1 : fit M (.sl s8) (a.fld 1) = true := fit_fld ha 1 rfl
  have hw : wt s20 a = (wt (.sl s8) (a.fld 1) + (wt (.sl s9) (a.fld 2) + (wt (.sl s3) (a.fld 3) + (wt (.sl s10) (a.fld 4) + (wt (.sl s3) (a.fld 5) + (wt (.sl s14) (a.fld 6) + (wt (.sl s15) (a.fld 7) + (wt (.sl tInt) (a.fld 8) + (wt (.sl s19) (a.fld 9) + 0))))))))) := by
    simp only [wt_st, wts_cons, wts_nil, wt_int, Nat.zero_add, Nat.add_zero]
  show _ = some [Dat.i (szr (wt s20 a) l.int)]
  rw [f23_start, hw]
  exact sz_call (k := fun l0 => (bif (fit M (.sl s9) (a.fld 2) && (decide (0 ≤ l0) && decide (l0 ≤ 1048576))) then (bif decide ((szR (.sl s9) (a.fld 2) l0) < (0 : Int)) then some [(Dat.i (-1 : Int))] else (bif (fit M (.sl s3) (a.fld 3) && (decide (0 ≤ (szR (.sl s9) (a.fld 2) l0)) && decide ((szR (.sl s9) (a.fld 2) l0) ≤ 1048576))) then (bif decide ((szR (.sl s3) (a.fld 3) (szR (.sl s9) (a.fld 2) l0)) < (0 : Int)) then some [(Dat.i (-1 : Int))] else (bif (fit M (.sl s10) (a.fld 4) && (decide (0 ≤ (szR (.sl s3) (a.fld 3) (szR (.sl s9) (a.fld 2) l0))) && decide ((szR (.sl s3) (a.fld 3) (szR (.sl s9) (a.fld 2) l0)) ≤ 1048576))) then (bif decide ((szR (.sl s10) (a.fld 4) (szR (.sl s3) (a.fld 3) (szR (.sl s9) (a.fld 2) l0))) < (0 : Int)) then some [(Dat.i (-1 : Int))] else (bif (fit M (.sl s3) (a.fld 5) && (decide (0 ≤ (szR (.sl s10) (a.fld 4) (szR (.sl s3) (a.fld 3) (szR (.sl s9) (a.fld 2) l0)))) && decide ((szR (.sl s10) (a.fld 4) (szR (.sl s3) (a.fld 3) (szR (.sl s9) (a.fld 2) l0))) ≤ 1048576))) then (bif decide ((szR (.sl s3) (a.fld 5) (szR (.sl s10) (a.fld 4) (szR (.sl s3) (a.fld 3) (szR (.sl s9) (a.fld 2) l0)))) < (0 : Int)) then some [(Dat.i (-1 : Int))] else (bif (fit M (.sl s14) (a.fld 6) && (decide (0 ≤ (szR (.sl s3) (a.fld 5) (szR (.sl s10) (a.fld 4) (szR (.sl s3) (a.fld 3) (szR (.sl s9) (a.fld 2) l0))))) && decide ((szR (.sl s3) (a.fld 5) (szR (.sl s10) (a.fld 4) (szR (.sl s3) (a.fld 3) (szR (.sl s9) (a.fld 2) l0)))) ≤ 1048576))) then (bif decide ((szR (.sl s14) (a.fld 6) (szR (.sl s3) (a.fld 5) (szR (.sl s10) (a.fld 4) (szR (.sl s3) (a.fld 3) (szR (.sl s9) (a.fld 2) l0))))) < (0 : Int)) then some [(Dat.i (-1 : Int))] else (bif (fit M (.sl s15) (a.fld 7) && (decide (0 ≤ (szR (.sl s14) (a.fld 6) (szR (.sl s3) (a.fld 5) (szR (.sl s10) (a.fld 4) (szR (.sl s3) (a.fld 3) (szR (.sl s9) (a.fld 2) l0)))))) && decide ((szR (.sl s14) (a.fld 6) (szR (.sl s3) (a.fld 5) (szR (.sl s10) (a.fld 4) (szR (.sl s3) (a.fld 3) (szR (.sl s9) (a.fld 2) l0))))) ≤ 1048576))) then (bif decide ((szR (.sl s15) (a.fld 7) (szR (.sl s14) (a.fld 6) (szR (.sl s3) (a.fld 5) (szR (.sl s10) (a.fld 4) (szR (.sl s3) (a.fld 3) (szR (.sl s9) (a.fld 2) l0)))))) < (0 : Int)) then some [(Dat.i (-1 : Int))] else (bif (fit M (.sl tInt) (a.fld 8) && (decide (0 ≤ (szR (.sl s15) (a.fld 7) (szR (.sl s14) (a.fld 6) (szR (.sl s3) (a.fld 5) (szR (.sl s10) (a.fld 4) (szR (.sl s3) (a.fld 3) (szR (.sl s9) (a.fld 2) l0))))))) && decide ((szR (.sl s15) (a.fld 7) (szR (.sl s14) (a.fld 6) (szR (.sl s3) (a.fld 5) (szR (.sl s10) (a.fld 4) (szR (.sl s3) (a.fld 3) (szR (.sl s9) (a.fld 2) l0)))))) ≤ 1048576))) then (bif decide ((szR (.sl tInt) (a.fld 8) (szR (.sl s15) (a.fld 7) (szR (.sl s14) (a.fld 6) (szR (.sl s3) (a.fld 5) (szR (.sl s10) (a.fld 4) (szR (.sl s3) (a.fld 3) (szR (.sl s9) (a.fld 2) l0))))))) < (0 : Int)) then some [(Dat.i (-1 : Int))] else (bif (fit M (.sl s19) (a.fld 9) && (decide (0 ≤ (szR (.sl tInt) (a.fld 8) (szR (.sl s15) (a.fld 7) (szR (.sl s14) (a.fld 6) (szR (.sl s3) (a.fld 5) (szR (.sl s10) (a.fld 4) (szR (.sl s3) (a.fld 3) (szR (.sl s9) (a.fld 2) l0)))))))) && decide ((szR (.sl tInt) (a.fld 8) (szR (.sl s15) (a.fld 7) (szR (.sl s14) (a.fld 6) (szR (.sl s3) (a.fld 5) (szR (.sl s10) (a.fld 4) (szR (.sl s3) (a.fld 3) (szR (.sl s9) (a.fld 2) l0))))))) ≤ 1048576))) then (bif decide ((szR (.sl s19) (a.fld 9) (szR (.sl tInt) (a.fld 8) (szR (.sl s15) (a.fld 7) (szR (.sl s14) (a.fld 6) (szR (.sl s3) (a.fld 5) (szR (.sl s10) (a.fld 4) (szR (.sl s3) (a.fld 3) (szR (.sl s9) (a.fld 2) l0)))))))) < (0 : Int)) then some [(Dat.i (-1 : Int))] else some [(Dat.i (szR (.sl s19) (a.fld 9) (szR (.sl tInt) (a.fld 8) (szR (.sl s15) (a.fld 7) (szR (.sl s14) (a.fld 6) (szR (.sl s3) (a.fld 5) (szR (.sl s10) (a.fld 4) (szR (.sl s3) (a.fld 3) (szR (.sl s9) (a.fld 2) l0)))))))))]) else none)) else none)) else none)) else none)) else none)) else none)) else none)) else none)) k1 h0 h1 (fun l0 p0 q0 => sz_call (k := fun l1 => (bif (fit M (.sl s3) (a.fld 3) && (decide (0 ≤ l1) && decide (l1 ≤ 1048576))) then (bif decide ((szR (.sl s3) (a.fld 3) l1) < (0 : Int)) then some [(Dat.i (-1 : Int))] else (bif (fit M (.sl s10) (a.fld 4) && (decide (0 ≤ (szR (.sl s3) (a.fld 3) l1)) && decide ((szR (.sl s3) (a.fld 3) l1) ≤ 1048576))) then (bif decide ((szR (.sl s10) (a.fld 4) (szR (.sl s3) (a.fld 3) l1)) < (0 : Int)) then some [(Dat.i (-1 : Int))] else (bif (fit M (.sl s3) (a.fld 5) && (decide (0 ≤ (szR (.sl s10) (a.fld 4) (szR (.sl s3) (a.fld 3) l1))) && decide ((szR (.sl s10) (a.fld 4) (szR (.sl s3) (a.fld 3) l1)) ≤ 1048576))) then (bif decide ((szR (.sl s3) (a.fld 5) (szR (.sl s10) (a.fld 4) (szR (.sl s3) (a.fld 3) l1))) < (0 : Int)) then some [(Dat.i (-1 : Int))] else (bif (fit M (.sl s14) (a.fld 6) && (decide (0 ≤ (szR (.sl s3) (a.fld 5) (szR (.sl s10) (a.fld 4) (szR (.sl s3) (a.fld 3) l1)))) && decide ((szR (.sl s3) (a.fld 5) (szR (.sl s10) (a.fld 4) (szR (.sl s3) (a.fld 3) l1))) ≤ 1048576))) then (bif decide ((szR (.sl s14) (a.fld 6) (szR (.sl s3) (a.fld 5) (szR (.sl s10) (a.fld 4) (szR (.sl s3) (a.fld 3) l1)))) < (0 : Int)) then some [(Dat.i (-1 : Int))] else (bif (fit M (.sl s15) (a.fld 7) && (decide (0 ≤ (szR (.sl s14) (a.fld 6) (szR (.sl s3) (a.fld 5) (szR (.sl s10) (a.fld 4) (szR (.sl s3) (a.fld 3) l1))))) && decide ((szR (.sl s14) (a.fld 6) (szR (.sl s3) (a.fld 5) (szR (.sl s10) (a.fld 4) (szR (.sl s3) (a.fld 3) l1)))) ≤ 1048576))) then (bif decide ((szR (.sl s15) (a.fld 7) (szR (.sl s14) (a.fld 6) (szR (.sl s3) (a.fld 5) (szR (.sl s10) (a.fld 4) (szR (.sl s3) (a.fld 3) l1))))) < (0 : Int)) then some [(Dat.i (-1 : Int))] else (bif (fit M (.sl tInt) (a.fld 8) && (decide (0 ≤ (szR (.sl s15) (a.fld 7) (szR (.sl s14) (a.fld 6) (szR (.sl s3) (a.fld 5) (szR (.sl s10) (a.fld 4) (szR (.sl s3) (a.fld 3) l1)))))) && decide ((szR (.sl s15) (a.fld 7) (szR (.sl s14) (a.fld 6) (szR (.sl s3) (a.fld 5) (szR (.sl s10) (a.fld 4) (szR (.sl s3) (a.fld 3) l1))))) ≤ 1048576))) then (bif decide ((szR (.sl tInt) (a.fld 8) (szR (.sl s15) (a.fld 7) (szR (.sl s14) (a.fld 6) (szR (.sl s3) (a.fld 5) (szR (.sl s10) (a.fld 4) (szR (.sl s3) (a.fld 3) l1)))))) < (0 : Int)) then some [(Dat.i (-1 : Int))] else (bif (fit M (.sl s19) (a.fld 9) && (decide (0 ≤ (szR (.sl tInt) (a.fld 8) (szR (.sl s15) (a.fld 7) (szR (.sl s14) (a.fld 6) (szR (.sl s3) (a.fld 5) (szR (.sl s10) (a.fld 4) (szR (.sl s3) (a.fld 3) l1))))))) && decide ((szR (.sl tInt) (a.fld 8) (szR (.sl s15) (a.fld 7) (szR (.sl s14) (a.fld 6) (szR (.sl s3) (a.fld 5) (szR (.sl s10) (a.fld 4) (szR (.sl s3) (a.fld 3) l1)))))) ≤ 1048576))) then (bif decide ((szR (.sl s19) (a.fld 9) (szR (.sl tInt) (a.fld 8) (szR (.sl s15) (a.fld 7) (szR (.sl s14) (a.fld 6) (szR (.sl s3) (a.fld 5) (szR (.sl s10) (a.fld 4) (szR (.sl s3) (a.fld 3) l1))))))) < (0 : Int)) then some [(Dat.i (-1 : Int))] else some [(Dat.i (szR (.sl s19) (a.fld 9) (szR (.sl tInt) (a.fld 8) (szR (.sl s15) (a.fld 7) (szR (.sl s14) (a.fld 6) (szR (.sl s3) (a.fld 5) (szR (.sl s10) (a.fld 4) (szR (.sl s3) (a.fld 3) l1))))))))]) else none)) else none)) else none)) else none)) else none)) else none)) else none)) k2 p0 q0 (fun l1 p1 q1 => sz_call (k := fun l2 => (bif (fit M (.sl s10) (a.fld 4) && (decide (0 ≤ l2) && decide (l2 ≤ 1048576))) then (bif decide ((szR (.sl s10) (a.fld 4) l2) < (0 : Int)) then some [(Dat.i (-1 : Int))] else (bif (fit M (.sl s3) (a.fld 5) && (decide (0 ≤ (szR (.sl s10) (a.fld 4) l2)) && decide ((szR (.sl s10) (a.fld 4) l2) ≤ 1048576))) then (bif decide ((szR (.sl s3) (a.fld 5) (szR (.sl s10) (a.fld 4) l2)) < (0 : Int)) then some [(Dat.i (-1 : Int))] else (bif (fit M (.sl s14) (a.fld 6) && (decide (0 ≤ (szR (.sl s3) (a.fld 5) (szR (.sl s10) (a.fld 4) l2))) && decide ((szR (.sl s3) (a.fld 5) (szR (.sl s10) (a.fld 4) l2)) ≤ 1048576))) then (bif decide ((szR (.sl s14) (a.fld 6) (szR (.sl s3) (a.fld 5) (szR (.sl s10) (a.fld 4) l2))) < (0 : Int)) then some [(Dat.i (-1 : Int))] else (bif (fit M (.sl s15) (a.fld 7) && (decide (0 ≤ (szR (.sl s14) (a.fld 6) (szR (.sl s3) (a.fld 5) (szR (.sl s10) (a.fld 4) l2)))) && decide ((szR (.sl s14) (a.fld 6) (szR (.sl s3) (a.fld 5) (szR (.sl s10) (a.fld 4) l2))) ≤ 1048576))) then (bif decide ((szR (.sl s15) (a.fld 7) (szR (.sl s14) (a.fld 6) (szR (.sl s3) (a.fld 5) (szR (.sl s10) (a.fld 4) l2)))) < (0 : Int)) then some [(Dat.i (-1 : Int))] else (bif (fit M (.sl tInt) (a.fld 8) && (decide (0 ≤ (szR (.sl s15) (a.fld 7) (szR (.sl s14) (a.fld 6) (szR (.sl s3) (a.fld 5) (szR (.sl s10) (a.fld 4) l2))))) && decide ((szR (.sl s15) (a.fld 7) (szR (.sl s14) (a.fld 6) (szR (.sl s3) (a.fld 5) (szR (.sl s10) (a.fld 4) l2)))) ≤ 1048576))) then (bif decide ((szR (.sl tInt) (a.fld 8) (szR (.sl s15) (a.fld 7) (szR (.sl s14) (a.fld 6) (szR (.sl s3) (a.fld 5) (szR (.sl s10) (a.fld 4) l2))))) < (0 : Int)) then some [(Dat.i (-1 : Int))] else (bif (fit M (.sl s19) (a.fld 9) && (decide (0 ≤ (szR (.sl tInt) (a.fld 8) (szR (.sl s15) (a.fld 7) (szR (.sl s14) (a.fld 6) (szR (.sl s3) (a.fld 5) (szR (.sl s10) (a.fld 4) l2)))))) && decide ((szR (.sl tInt) (a.fld 8) (szR (.sl s15) (a.fld 7) (szR (.sl s14) (a.fld 6) (szR (.sl s3) (a.fld 5) (szR (.sl s10) (a.fld 4) l2))))) ≤ 1048576))) then (bif decide ((szR (.sl s19) (a.fld 9) (szR (.sl tInt) (a.fld 8) (szR (.sl s15) (a.fld 7) (szR (.sl s14) (a.fld 6) (szR (.sl s3) (a.fld 5) (szR (.sl s10) (a.fld 4) l2)))))) < (0 : Int)) then some [(Dat.i (-1 : Int))] else some [(Dat.i (szR (.sl s19) (a.fld 9) (szR (.sl tInt) (a.fld 8) (szR (.sl s15) (a.fld 7) (szR (.sl s14) (a.fld 6) (szR (.sl s3) (a.fld 5) (szR (.sl s10) (a.fld 4) l2)))))))]) else none)) else none)) else none)) else none)) else none)) else none)) k3 p1 q1 (fun l2 p2 q2 => sz_call (k := fun l3 => (bif (fit M (.sl s3) (a.fld 5) && (decide (0 ≤ l3) && decide (l3 ≤ 1048576))) then (bif decide ((szR (.sl s3) (a.fld 5) l3) < (0 : Int)) then some [(Dat.i (-1 : Int))] else (bif (fit M (.sl s14) (a.fld 6) && (decide (0 ≤ (szR (.sl s3) (a.fld 5) l3)) && decide ((szR (.sl s3) (a.fld 5) l3) ≤ 1048576))) then (bif decide ((szR (.sl s14) (a.fld 6) (szR (.sl s3) (a.fld 5) l3)) < (0 : Int)) then some [(Dat.i (-1 : Int))] else (bif (fit M (.sl s15) (a.fld 7) && (decide (0 ≤ (szR (.sl s14) (a.fld 6) (szR (.sl s3) (a.fld 5) l3))) && decide ((szR (.sl s14) (a.fld 6) (szR (.sl s3) (a.fld 5) l3)) ≤ 1048576))) then (bif decide ((szR (.sl s15) (a.fld 7) (szR (.sl s14) (a.fld 6) (szR (.sl s3) (a.fld 5) l3))) < (0 : Int)) then some [(Dat.i (-1 : Int))] else (bif (fit M (.sl tInt) (a.fld 8) && (decide (0 ≤ (szR (.sl s15) (a.fld 7) (szR (.sl s14) (a.fld 6) (szR (.sl s3) (a.fld 5) l3)))) && decide ((szR (.sl s15) (a.fld 7) (szR (.sl s14) (a.fld 6) (szR (.sl s3) (a.fld 5) l3))) ≤ 1048576))) then (bif decide ((szR (.sl tInt) (a.fld 8) (szR (.sl s15) (a.fld 7) (szR (.sl s14) (a.fld 6) (szR (.sl s3) (a.fld 5) l3)))) < (0 : Int)) then some [(Dat.i (-1 : Int))] else (bif (fit M (.sl s19) (a.fld 9) && (decide (0 ≤ (szR (.sl tInt) (a.fld 8) (szR (.sl s15) (a.fld 7) (szR (.sl s14) (a.fld 6) (szR (.sl s3) (a.fld 5) l3))))) && decide ((szR (.sl tInt) (a.fld 8) (szR (.sl s15) (a.fld 7) (szR (.sl s14) (a.fld 6) (szR (.sl s3) (a.fld 5) l3)))) ≤ 1048576))) then (bif decide ((szR (.sl s19) (a.fld 9) (szR (.sl tInt) (a.fld 8) (szR (.sl s15) (a.fld 7) (szR (.sl s14) (a.fld 6) (szR (.sl s3) (a.fld 5) l3))))) < (0 : Int)) then some [(Dat.i (-1 : Int))] else some [(Dat.i (szR (.sl s19) (a.fld 9) (szR (.sl tInt) (a.fld 8) (szR (.sl s15) (a.fld 7) (szR (.sl s14) (a.fld 6) (szR (.sl s3) (a.fld 5) l3))))))]) else none)) else none)) else none)) else none)) else none)) k4 p2 q2 (fun l3 p3 q3 => sz_call (k := fun l4 => (bif (fit M (.sl s14) (a.fld 6) && (decide (0 ≤ l4) && decide (l4 ≤ 1048576))) then (bif decide ((szR (.sl s14) (a.fld 6) l4) < (0 : Int)) then some [(Dat.i (-1 : Int))] else (bif (fit M (.sl s15) (a.fld 7) && (decide (0 ≤ (szR (.sl s14) (a.fld 6) l4)) && decide ((szR (.sl s14) (a.fld 6) l4) ≤ 1048576))) then (bif decide ((szR (.sl s15) (a.fld 7) (szR (.sl s14) (a.fld 6) l4)) < (0 : Int)) then some [(Dat.i (-1 : Int))] else (bif (fit M (.sl tInt) (a.fld 8) && (decide (0 ≤ (szR (.sl s15) (a.fld 7) (szR (.sl s14) (a.fld 6) l4))) && decide ((szR (.sl s15) (a.fld 7) (szR (.sl s14) (a.fld 6) l4)) ≤ 1048576))) then (bif decide ((szR (.sl tInt) (a.fld 8) (szR (.sl s15) (a.fld 7) (szR (.sl s14) (a.fld 6) l4))) < (0 : Int)) then some [(Dat.i (-1 : Int))] else (bif (fit M (.sl s19) (a.fld 9) && (decide (0 ≤ (szR (.sl tInt) (a.fld 8) (szR (.sl s15) (a.fld 7) (szR (.sl s14) (a.fld 6) l4)))) && decide ((szR (.sl tInt) (a.fld 8) (szR (.sl s15) (a.fld 7) (szR (.sl s14) (a.fld 6) l4))) ≤ 1048576))) then (bif decide ((szR (.sl s19) (a.fld 9) (szR (.sl tInt) (a.fld 8) (szR (.sl s15) (a.fld 7) (szR (.sl s14) (a.fld 6) l4)))) < (0 : Int)) then some [(Dat.i (-1 : Int))] else some [(Dat.i (szR (.sl s19) (a.fld 9) (szR (.sl tInt) (a.fld 8) (szR (.sl s15) (a.fld 7) (szR (.sl s14) (a.fld 6) l4)))))]) else none)) else none)) else none)) else none)) k5 p3 q3 (fun l4 p4 q4 => sz_call (k := fun l5 => (bif (fit M (.sl s15) (a.fld 7) && (decide (0 ≤ l5) && decide (l5 ≤ 1048576))) then (bif decide ((szR (.sl s15) (a.fld 7) l5) < (0 : Int)) then some [(Dat.i (-1 : Int))] else (bif (fit M (.sl tInt) (a.fld 8) && (decide (0 ≤ (szR (.sl s15) (a.fld 7) l5)) && decide ((szR (.sl s15) (a.fld 7) l5) ≤ 1048576))) then (bif decide ((szR (.sl tInt) (a.fld 8) (szR (.sl s15) (a.fld 7) l5)) < (0 : Int)) then some [(Dat.i (-1 : Int))] else (bif (fit M (.sl s19) (a.fld 9) && (decide (0 ≤ (szR (.sl tInt) (a.fld 8) (szR (.sl s15) (a.fld 7) l5))) && decide ((szR (.sl tInt) (a.fld 8) (szR (.sl s15) (a.fld 7) l5)) ≤ 1048576))) then (bif decide ((szR (.sl s19) (a.fld 9) (szR (.sl tInt) (a.fld 8) (szR (.sl s15) (a.fld 7) l5))) < (0 : Int)) then some [(Dat.i (-1 : Int))] else some [(Dat.i (szR (.sl s19) (a.fld 9) (szR (.sl tInt) (a.fld 8) (szR (.sl s15) (a.fld 7) l5))))]) else none)) else none)) else none)) k6 p4 q4 (fun l5 p5 q5 => sz_call (k := fun l6 => (bif (fit M (.sl tInt) (a.fld 8) && (decide (0 ≤ l6) && decide (l6 ≤ 1048576))) then (bif decide ((szR (.sl tInt) (a.fld 8) l6) < (0 : Int)) then some [(Dat.i (-1 : Int))] else (bif (fit M (.sl s19) (a.fld 9) && (decide (0 ≤ (szR (.sl tInt) (a.fld 8) l6)) && decide ((szR (.sl tInt) (a.fld 8) l6) ≤ 1048576))) then (bif decide ((szR (.sl s19) (a.fld 9) (szR (.sl tInt) (a.fld 8) l6)) < (0 : Int)) then some [(Dat.i (-1 : Int))] else some [(Dat.i (szR (.sl s19) (a.fld 9) (szR (.sl tInt) (a.fld 8) l6)))]) else none)) else none)) k7 p5 q5 (fun l6 p6 q6 => sz_call (k := fun l7 => (bif (fit M (.sl s19) (a.fld 9) && (decide (0 ≤ l7) && decide (l7 ≤ 1048576))) then (bif decide ((szR (.sl s19) (a.fld 9) l7) < (0 : Int)) then some [(Dat.i (-1 : Int))] else some [(Dat.i (szR (.sl s19) (a.fld 9) l7))]) else none)) k8 p6 q6 (fun l7 p7 q7 => sz_call (k := fun l8 => some [(Dat.i l8)]) k9 p7 q7 (fun l8 p8 q8 => (by rw [szr_zero p8]))))))))))


/-! laws.szNodeS -/
abbrev C10 : FuncId → Option Sig := tabC [(23, szSig s20)]
theorem hC10 : ∀ g sg, C10 g = some sg → ConOk Tryz.prog g sg := (tabC_cons con23 tabC_nil)
abbrev keep10 : Nat → List Nat | 0 => [0, 1, 4, 5] | _ => []
def S10_0 (x0 : Dat) (x1 : Int) (x5 : Int) : St := ⟨[.ro s20 x0, .int .i64 x1, .u, .u, .int .i64 (0 : Int), .int .i64 x5] ++ us 21, []⟩
theorem f10_round0 (K n : Nat) (x0 : Dat) (x1 : Int) (x5 : Int) :
    loopE T C10 K keep10 Tryz.f10 0 0 (behind T C10 K keep10 Tryz.f10 [tInt] 0) (n + 1) (S10_0 x0 x1 x5) =
      (bif decide (x5 < (x0.len : Int)) then (bif (decide (0 ≤ x5) && decide (x5 < (x0.len : Int))) then (bif (fit M s20 (x0.fld x5.toNat) && (decide (0 ≤ x1) && decide (x1 ≤ 1048576))) then (bif decide ((szR s20 (x0.fld x5.toNat) x1) < (0 : Int)) then some [(Dat.i (-1 : Int))] else loopE T C10 K keep10 Tryz.f10 0 0 (behind T C10 K keep10 Tryz.f10 [tInt] 0) n (S10_0 x0 (szR s20 (x0.fld x5.toNat) x1) (IntKind.i64.wrap (x5 + (1 : Int))))) else none) else none) else some [(Dat.i x1)]) := by kernel_rfl
theorem f10_start (K : Nat) (a : Dat) (l : Dat) : evBody T C10 noL K keep10 Tryz.f10 [(.sl s20), tInt] [tInt] [a, l] =
      (bif decide ((IntKind.i64.wrap (l.int - (a.len : Int))) < (0 : Int)) then some [(Dat.i (-1 : Int))] else loopE T C10 K keep10 Tryz.f10 0 0 (behind T C10 K keep10 Tryz.f10 [tInt] 0) K (S10_0 a (IntKind.i64.wrap (l.int - (a.len : Int))) (0 : Int))) := by kernel_rfl
theorem con10 : ConOk Tryz.prog 10 (szSig (.sl s20)) := con hM hD hT hC10 keep10 Tryz.func10 (by kernel_rfl) (by kernel_rfl) fun ds hl hp => by
  obtain ⟨a, l, rfl⟩ := ds_two hl
  obtain ⟨ha, h0, h1⟩ := sz_pre (show (fit M (.sl s20) a && (decide (0 ≤ l.int) && decide (l.int ≤ 1048576))) = true from hp)
  obtain ⟨hn, he⟩ := fit_sl ha
  refine ⟨a.len + 1, ?_⟩
  show _ = some [Dat.i (szr (wt (.sl s20) a) l.int)]
  rw [wt_sl]
  rw [f10_start]
  refine sz_len (k := fun l' => loopE T C10 (a.len + 1) keep10 Tryz.f10 0 0 (behind T C10 (a.len + 1) keep10 Tryz.f10 [tInt] 0) (a.len + 1) (S10_0 a l' 0)) hn h0 h1 fun l' p0 p1 => ?_
  exact sz_loop (E := fun n j l => loopE T C10 (a.len + 1) keep10 Tryz.f10 0 0 (behind T C10 (a.len + 1) keep10 Tryz.f10 [tInt] 0) n (S10_0 a l (j : Int))) (N := a.len) (g := fun j => wt s20 (a.fld j)) (fun n j l hj q0 q1 => by
    have f1 := he j hj
    have e1 : decide (0 ≤ l) = true := by simpa using q0
    have e2 : decide (l ≤ 1048576) = true := by simpa using q1
    show loopE T C10 (a.len + 1) keep10 Tryz.f10 0 0 (behind T C10 (a.len + 1) keep10 Tryz.f10 [tInt] 0) (n + 1) (S10_0 a l (j : Int)) = _
    rw [f10_round0]
    simp only [dlt hj, dge, Int.toNat_natCast, f1, e1, e2, Bool.and_self, cond_true, wrap_succ hj hn]
    rfl)
    (fun n l => by
    show loopE T C10 (a.len + 1) keep10 Tryz.f10 0 0 (behind T C10 (a.len + 1) keep10 Tryz.f10 [tInt] 0) (n + 1) (S10_0 a l (a.len : Int)) = _
    rw [f10_round0, dnlt (Nat.lt_irrefl _)]; rfl) l' p0 p1


/-! laws.szByteS -/
abbrev C70 : FuncId → Option Sig := tabC []
theorem hC70 : ∀ g sg, C70 g = some sg → ConOk Tryz.prog g sg := tabC_nil
abbrev keep70 : Nat → List Nat := fun _ => []
theorem f70_start (K : Nat) (a : Dat) (l : Dat) : evBody T C70 noL K keep70 Tryz.f70 [(.sl (.int .u8)), tInt] [tInt] [a, l] =
      (bif decide ((IntKind.i64.wrap (l.int - (a.len : Int))) < (0 : Int)) then some [(Dat.i (-1 : Int))] else some [(Dat.i (IntKind.i64.wrap (l.int - (a.len : Int))))]) := by kernel_rfl
theorem con70 : ConOk Tryz.prog 70 (szSig (.sl (.int .u8))) := con hM hD hT hC70 keep70 Tryz.func70 (by kernel_rfl) (by kernel_rfl) fun ds hl hp => by
  obtain ⟨a, l, rfl⟩ := ds_two hl
  obtain ⟨ha, h0, h1⟩ := sz_pre (show (fit M (.sl (.int .u8)) a && (decide (0 ≤ l.int) && decide (l.int ≤ 1048576))) = true from hp)
  obtain ⟨hn, he⟩ := fit_sl ha
  refine ⟨0, ?_⟩
  show _ = some [Dat.i (szr (wt (.sl (.int .u8)) a) l.int)]
  rw [wt_sl, f70_start, sum_zero (fun i => show wt (.int .u8) (a.fld i) = 0 from rfl)]
  exact sz_len hn h0 h1 fun l' p0 _ => by rw [szr_zero p0]


/-! laws.szPacket -/
abbrev C40 : FuncId → Option Sig := tabC [(70, szSig (.sl (.int .u8)))]
theorem hC40 : ∀ g sg, C40 g = some sg → ConOk Tryz.prog g sg := (tabC_cons con70 tabC_nil)
abbrev keep40 : Nat → List Nat := fun _ => []
theorem f40_start (K : Nat) (a : Dat) (l : Dat) : evBody T C40 noL K keep40 Tryz.f40 [s21, tInt] [tInt] [a, l] =
      (bif (fit M (.sl (.int .u8)) (a.fld 2) && (decide (0 ≤ l.int) && decide (l.int ≤ 1048576))) then (bif decide ((szR (.sl (.int .u8)) (a.fld 2) l.int) < (0 : Int)) then some [(Dat.i (-1 : Int))] else some [(Dat.i (szR (.sl (.int .u8)) (a.fld 2) l.int))]) else none) := by kernel_rfl
theorem con40 : ConOk Tryz.prog 40 (szSig s21) := con hM hD hT hC40 keep40 Tryz.func40 (by kernel_rfl) (by kernel_rfl) fun ds hl hp => by
  obtain ⟨a, l, rfl⟩ := ds_two hl
  obtain ⟨ha, h0, h1⟩ := sz_pre (show (fit M s21 a && (decide (0 ≤ l.int) && decide (l.int ≤ 1048576))) = true from hp)
  refine ⟨0, ?_⟩
  have k2 : fit M (.sl (.int .u8)) (a.fld 2) = true := fit_fld ha 2 rfl
  have hw : wt s21 a = (wt (.sl (.int .u8)) (a.fld 2) + 0) := by
    simp only [wt_st, wts_cons, wts_nil, wt_int, wt_bool, Nat.zero_add, Nat.add_zero]
  show _ = some [Dat.i (szr (wt s21 a) l.int)]
  rw [f40_start, hw]
  exact sz_call (k := fun l0 => some [(Dat.i l0)]) k2 h0 h1 (fun l0 p0 q0 => (by rw [szr_zero p0]))


/-! laws.szPacketS -/
abbrev C24 : FuncId → Option Sig := tabC [(40, szSig s21)]
theorem hC24 : ∀ g sg, C24 g = some sg → ConOk Tryz.prog g sg := (tabC_cons con40 tabC_nil)
abbrev keep24 : Nat → List Nat | 0 => [0, 1, 4, 5] | _ => []
def S24_0 (x0 : Dat) (x1 : Int) (x5 : Int) : St := ⟨[.ro s21 x0, .int .i64 x1, .u, .u, .int .i64 (0 : Int), .int .i64 x5] ++ us 21, []⟩
theorem f24_round0 (K n : Nat) (x0 : Dat) (x1 : Int) (x5 : Int) :
    loopE T C24 K keep24 Tryz.f24 0 0 (behind T C24 K keep24 Tryz.f24 [tInt] 0) (n + 1) (S24_0 x0 x1 x5) =
      (bif decide (x5 < (x0.len : Int)) then (bif (decide (0 ≤ x5) && decide (x5 < (x0.len : Int))) then (bif (fit M s21 (x0.fld x5.toNat) && (decide (0 ≤ x1) && decide (x1 ≤ 1048576))) then (bif decide ((szR s21 (x0.fld x5.toNat) x1) < (0 : Int)) then some [(Dat.i (-1 : Int))] else loopE T C24 K keep24 Tryz.f24 0 0 (behind T C24 K keep24 Tryz.f24 [tInt] 0) n (S24_0 x0 (szR s21 (x0.fld x5.toNat) x1) (IntKind.i64.wrap (x5 + (1 : Int))))) else none) else none) else some [(Dat.i x1)]) := by kernel_rfl
theorem f24_start (K : Nat) (a : Dat) (l : Dat) : evBody T C24 noL K keep24 Tryz.f24 [(.sl s21), tInt] [tInt] [a, l] =
      (bif decide ((IntKind.i64.wrap (l.int - (a.len : Int))) < (0 : Int)) then some [(Dat.i (-1 : Int))] else loopE T C24 K keep24 Tryz.f24 0 0 (behind T C24 K keep24 Tryz.f24 [tInt] 0) K (S24_0 a (IntKind.i64.wrap (l.int - (a.len : Int))) (0 : Int))) := by kernel_rfl
theorem con24 : ConOk Tryz.prog 24 (szSig (.sl s21)) := con hM hD hT hC24 keep24 Tryz.func24 (by kernel_rfl) (by kernel_rfl) fun ds hl hp => by
  obtain ⟨a, l, rfl⟩ := ds_two hl
  obtain ⟨ha, h0, h1⟩ := sz_pre (show (fit M (.sl s21) a && (decide (0 ≤ l.int) && decide (l.int ≤ 1048576))) = true from hp)
  obtain ⟨hn, he⟩ := fit_sl ha
  refine ⟨a.len + 1, ?_⟩
  show _ = some [Dat.i (szr (wt (.sl s21) a) l.int)]
  rw [wt_sl]
  rw [f24_start]
  refine sz_len (k := fun l' => loopE T C24 (a.len + 1) keep24 Tryz.f24 0 0 (behind T C24 (a.len + 1) keep24 Tryz.f24 [tInt] 0) (a.len + 1) (S24_0 a l' 0)) hn h0 h1 fun l' p0 p1 => ?_
  exact sz_loop (E := fun n j l => loopE T C24 (a.len + 1) keep24 Tryz.f24 0 0 (behind T C24 (a.len + 1) keep24 Tryz.f24 [tInt] 0) n (S24_0 a l (j : Int))) (N := a.len) (g := fun j => wt s21 (a.fld j)) (fun n j l hj q0 q1 => by
    have f1 := he j hj
    have e1 : decide (0 ≤ l) = true := by simpa using q0
    have e2 : decide (l ≤ 1048576) = true := by simpa using q1
    show loopE T C24 (a.len + 1) keep24 Tryz.f24 0 0 (behind T C24 (a.len + 1) keep24 Tryz.f24 [tInt] 0) (n + 1) (S24_0 a l (j : Int)) = _
    rw [f24_round0]
    simp only [dlt hj, dge, Int.toNat_natCast, f1, e1, e2, Bool.and_self, cond_true, wrap_succ hj hn]
    rfl)
    (fun n l => by
    show loopE T C24 (a.len + 1) keep24 Tryz.f24 0 0 (behind T C24 (a.len + 1) keep24 Tryz.f24 [tInt] 0) (n + 1) (S24_0 a l (a.len : Int)) = _
    rw [f24_round0, dnlt (Nat.lt_irrefl _)]; rfl) l' p0 p1


/-! laws.szNet -/
abbrev C11 : FuncId → Option Sig := tabC [(24, szSig (.sl s21))]
theorem hC11 : ∀ g sg, C11 g = some sg → ConOk Tryz.prog g sg := (tabC_cons con24 tabC_nil)
abbrev keep11 : Nat → List Nat := fun _ => []
theorem f11_start (K : Nat) (a : Dat) (l : Dat) : evBody T C11 noL K keep11 Tryz.f11 [s22, tInt] [tInt] [a, l] =
      (bif (fit M (.sl s21) (a.fld 1) && (decide (0 ≤ l.int) && decide (l.int ≤ 1048576))) then (bif decide ((szR (.sl s21) (a.fld 1) l.int) < (0 : Int)) then some [(Dat.i (-1 : Int))] else some [(Dat.i (szR (.sl s21) (a.fld 1) l.int))]) else none) := by kernel_rfl
theorem con11 : ConOk Tryz.prog 11 (szSig s22) := con hM hD hT hC11 keep11 Tryz.func11 (by kernel_rfl) (by kernel_rfl) fun ds hl hp => by
  obtain ⟨a, l, rfl⟩ := ds_two hl
  obtain ⟨ha, h0, h1⟩ := sz_pre (show (fit M s22 a && (decide (0 ≤ l.int) && decide (l.int ≤ 1048576))) = true from hp)
  refine ⟨0, ?_⟩
  have k1 : fit M (.sl s21) (a.fld 1) = true := fit_fld ha 1 rfl
  have hw : wt s22 a = (wt (.sl s21) (a.fld 1) + 0) := by
    simp only [wt_st, wts_cons, wts_nil, wt_int, Nat.zero_add, Nat.add_zero]
  show _ = some [Dat.i (szr (wt s22 a) l.int)]
  rw [f11_start, hw]
  exact sz_call (k := fun l0 => some [(Dat.i l0)]) k1 h0 h1 (fun l0 p0 q0 => (by rw [szr_zero p0]))


/-! laws.szCluster -/
abbrev C4 : FuncId → Option Sig := tabC [(9, szSig s6), (10, szSig (.sl s20)), (11, szSig s22), (12, szSig (.sl tInt))]
theorem hC4 : ∀ g sg, C4 g = some sg → ConOk Tryz.prog g sg := (tabC_cons con9 (tabC_cons con10 (tabC_cons con11 (tabC_cons con12 tabC_nil))))
abbrev keep4 : Nat → List Nat := fun _ => []
theorem f4_start (K : Nat) (a : Dat) (l : Dat) : evBody T C4 noL K keep4 Tryz.f4 [s23, tInt] [tInt] [a, l] =
      (bif (fit M s6 (a.fld 0) && (decide (0 ≤ l.int) && decide (l.int ≤ 1048576))) then (bif decide ((szR s6 (a.fld 0) l.int) < (0 : Int)) then some [(Dat.i (-1 : Int))] else (bif (fit M (.sl s20) (a.fld 2) && (decide (0 ≤ (szR s6 (a.fld 0) l.int)) && decide ((szR s6 (a.fld 0) l.int) ≤ 1048576))) then (bif decide ((szR (.sl s20) (a.fld 2) (szR s6 (a.fld 0) l.int)) < (0 : Int)) then some [(Dat.i (-1 : Int))] else (bif (fit M s22 (a.fld 3) && (decide (0 ≤ (szR (.sl s20) (a.fld 2) (szR s6 (a.fld 0) l.int))) && decide ((szR (.sl s20) (a.fld 2) (szR s6 (a.fld 0) l.int)) ≤ 1048576))) then (bif decide ((szR s22 (a.fld 3) (szR (.sl s20) (a.fld 2) (szR s6 (a.fld 0) l.int))) < (0 : Int)) then some [(Dat.i (-1 : Int))] else (bif (fit M (.sl tInt) (a.fld 4) && (decide (0 ≤ (szR s22 (a.fld 3) (szR (.sl s20) (a.fld 2) (szR s6 (a.fld 0) l.int)))) && decide ((szR s22 (a.fld 3) (szR (.sl s20) (a.fld 2) (szR s6 (a.fld 0) l.int))) ≤ 1048576))) then (bif decide ((szR (.sl tInt) (a.fld 4) (szR s22 (a.fld 3) (szR (.sl s20) (a.fld 2) (szR s6 (a.fld 0) l.int)))) < (0 : Int)) then some [(Dat.i (-1 : Int))] else (bif (fit M (.sl tInt) (a.fld 5) && (decide (0 ≤ (szR (.sl tInt) (a.fld 4) (szR s22 (a.fld 3) (szR (.sl s20) (a.fld 2) (szR s6 (a.fld 0) l.int))))) && decide ((szR (.sl tInt) (a.fld 4) (szR s22 (a.fld 3) (szR (.sl s20) (a.fld 2) (szR s6 (a.fld 0) l.int)))) ≤ 1048576))) then (bif decide ((szR (.sl tInt) (a.fld 5) (szR (.sl tInt) (a.fld 4) (szR s22 (a.fld 3) (szR (.sl s20) (a.fld 2) (szR s6 (a.fld 0) l.int))))) < (0 : Int)) then some [(Dat.i (-1 : Int))] else some [(Dat.i (szR (.sl tInt) (a.fld 5) (szR (.sl tInt) (a.fld 4) (szR s22 (a.fld 3) (szR (.sl s20) (a.fld 2) (szR s6 (a.fld 0) l.int))))))]) else none)) else none)) else none)) else none)) else none) := by kernel_rfl
theorem con4 : ConOk Tryz.prog 4 (szSig s23) := con hM hD hT hC4 keep4 Tryz.func4 (by kernel_rfl) (by kernel_rfl) fun ds hl hp => by
  obtain ⟨a, l, rfl⟩ := ds_two hl
  obtain ⟨ha, h0, h1⟩ := sz_pre (show (fit M s23 a && (decide (0 ≤ l.int) && decide (l.int ≤ 1048576))) = true from hp)
  refine ⟨0, ?_⟩
  have k5 : fit M (.sl tInt) (a.fld 5) = true := fit_fld ha 5 rfl
  have k4 : fit M (.sl tInt) (a.fld 4) = true := fit_fld ha 4 rfl
  have k3 : fit M s22 (a.fld 3) = true := fit_fld ha 3 rfl
  have k2 : fit M (.sl s20) (a.fld 2) = true := fit_fld ha 2 rfl
  have k0 : fit M s6 (a.fld 0) = true := fit_fld ha 0 rfl
  have hw : wt s23 a = (wt s6 (a.fld 0) + (wt (.sl s20) (a.fld 2) + (wt s22 (a.fld 3) + (wt (.sl tInt) (a.fld 4) + (wt (.sl tInt) (a.fld 5) + 0))))) := by
    simp only [wt_st, wts_cons, wts_nil, wt_int, Nat.zero_add, Nat.add_zero]
  show _ = some [Dat.i (szr (wt s23 a) l.int)]
  rw [f4_start, hw]
  exact sz_call (k := fun l0 => (bif (fit M (.sl s20) (a.fld 2) && (decide (0 ≤ l0) && decide (l0 ≤ 1048576))) then (bif decide ((szR (.sl s20) (a.fld 2) l0) < (0 : Int)) then some [(Dat.i (-1 : Int))] else (bif (fit M s22 (a.fld 3) && (decide (0 ≤ (szR (.sl s20) (a.fld 2) l0)) && decide ((szR (.sl s20) (a.fld 2) l0) ≤ 1048576))) then (bif decide ((szR s22 (a.fld 3) (szR (.sl s20) (a.fld 2) l0)) < (0 : Int)) then some [(Dat.i (-1 : Int))] else (bif (fit M (.sl tInt) (a.fld 4) && (decide (0 ≤ (szR s22 (a.fld 3) (szR (.sl s20) (a.fld 2) l0))) && decide ((szR s22 (a.fld 3) (szR (.sl s20) (a.fld 2) l0)) ≤ 1048576))) then (bif decide ((szR (.sl tInt) (a.fld 4) (szR s22 (a.fld 3) (szR (.sl s20) (a.fld 2) l0))) < (0 : Int)) then some [(Dat.i (-1 : Int))] else (bif (fit M (.sl tInt) (a.fld 5) && (decide (0 ≤ (szR (.sl tInt) (a.fld 4) (szR s22 (a.fld 3) (szR (.sl s20) (a.fld 2) l0)))) && decide ((szR (.sl tInt) (a.fld 4) (szR s22 (a.fld 3) (szR (.sl s20) (a.fld 2) l0))) ≤ 1048576))) then (bif decide ((szR (.sl tInt) (a.fld 5) (szR (.sl tInt) (a.fld 4) (szR s22 (a.fld 3) (szR (.sl s20) (a.fld 2) l0)))) < (0 : Int)) then some [(Dat.i (-1 : Int))] else some [(Dat.i (szR (.sl tInt) (a.fld 5) (szR (.sl tInt) (a.fld 4) (szR s22 (a.fld 3) (szR (.sl s20) (a.fld 2) l0)))))]) else none)) else none)) else none)) else none)) k0 h0 h1 (fun l0 p0 q0 => sz_call (k := fun l1 => (bif (fit M s22 (a.fld 3) && (decide (0 ≤ l1) && decide (l1 ≤ 1048576))) then (bif decide ((szR s22 (a.fld 3) l1) < (0 : Int)) then some [(Dat.i (-1 : Int))] else (bif (fit M (.sl tInt) (a.fld 4) && (decide (0 ≤ (szR s22 (a.fld 3) l1)) && decide ((szR s22 (a.fld 3) l1) ≤ 1048576))) then (bif decide ((szR (.sl tInt) (a.fld 4) (szR s22 (a.fld 3) l1)) < (0 : Int)) then some [(Dat.i (-1 : Int))] else (bif (fit M (.sl tInt) (a.fld 5) && (decide (0 ≤ (szR (.sl tInt) (a.fld 4) (szR s22 (a.fld 3) l1))) && decide ((szR (.sl tInt) (a.fld 4) (szR s22 (a.fld 3) l1)) ≤ 1048576))) then (bif decide ((szR (.sl tInt) (a.fld 5) (szR (.sl tInt) (a.fld 4) (szR s22 (a.fld 3) l1))) < (0 : Int)) then some [(Dat.i (-1 : Int))] else some [(Dat.i (szR (.sl tInt) (a.fld 5) (szR (.sl tInt) (a.fld 4) (szR s22 (a.fld 3) l1))))]) else none)) else none)) else none)) k2 p0 q0 (fun l1 p1 q1 => sz_call (k := fun l2 => (bif (fit M (.sl tInt) (a.fld 4) && (decide (0 ≤ l2) && decide (l2 ≤ 1048576))) then (bif decide ((szR (.sl tInt) (a.fld 4) l2) < (0 : Int)) then some [(Dat.i (-1 : Int))] else (bif (fit M (.sl tInt) (a.fld 5) && (decide (0 ≤ (szR (.sl tInt) (a.fld 4) l2)) && decide ((szR (.sl tInt) (a.fld 4) l2) ≤ 1048576))) then (bif decide ((szR (.sl tInt) (a.fld 5) (szR (.sl tInt) (a.fld 4) l2)) < (0 : Int)) then some [(Dat.i (-1 : Int))] else some [(Dat.i (szR (.sl tInt) (a.fld 5) (szR (.sl tInt) (a.fld 4) l2)))]) else none)) else none)) k3 p1 q1 (fun l2 p2 q2 => sz_call (k := fun l3 => (bif (fit M (.sl tInt) (a.fld 5) && (decide (0 ≤ l3) && decide (l3 ≤ 1048576))) then (bif decide ((szR (.sl tInt) (a.fld 5) l3) < (0 : Int)) then some [(Dat.i (-1 : Int))] else some [(Dat.i (szR (.sl tInt) (a.fld 5) l3))]) else none)) k4 p2 q2 (fun l3 p3 q3 => sz_call (k := fun l4 => some [(Dat.i l4)]) k5 p3 q3 (fun l4 p4 q4 => (by rw [szr_zero p4]))))))


/-! laws.toConst -/
abbrev C102 : FuncId → Option Sig := tabC []
theorem hC102 : ∀ g sg, C102 g = some sg → ConOk Tryz.prog g sg := tabC_nil
abbrev keep102 : Nat → List Nat := fun _ => []
theorem f102_start (K : Nat) (a : Dat) : evBody T C102 noL K keep102 Tryz.f102 [s1] [s1] [a] =
      some [(Dat.n [(Dat.i ((a.fld 0).int)), (Dat.i ((a.fld 1).int)), (Dat.s ((a.fld 2).str)), (Dat.s ((a.fld 3).str))])] := by kernel_rfl
theorem con102 : ConOk Tryz.prog 102 (toSig s1 s1) := con hM hD hT hC102 keep102 Tryz.func102 (by kernel_rfl) (by kernel_rfl) fun ds hl hp => by
  obtain ⟨a, rfl⟩ := ds_one hl
  replace hp : fit 1048576 s1 a = true := hp
  refine ⟨0, ?_⟩
  rw [f102_start]
  rfl


/-! laws.toConstS -/
abbrev C71 : FuncId → Option Sig := tabC [(102, toSig s1 s1)]
theorem hC71 : ∀ g sg, C71 g = some sg → ConOk Tryz.prog g sg := (tabC_cons con102 tabC_nil)
abbrev keep71 : Nat → List Nat | 0 => [0, 3, 4] | _ => []
def S71_0 (x0 : Dat) (x4 : Int) (l0 : (List Dat)) : St := ⟨[.ro s1 x0, .u, .u, .hd 0, .int .i64 x4] ++ us 18, [.arr s1 l0]⟩
theorem f71_round0 (K n : Nat) (x0 : Dat) (x4 : Int) (l0 : (List Dat)) :
    loopE T C71 K keep71 Tryz.f71 0 0 (behind T C71 K keep71 Tryz.f71 [(.sl s1)] 0) (n + 1) (S71_0 x0 x4 l0) =
      (bif decide (x4 < (x0.len : Int)) then (bif (decide (0 ≤ x4) && decide (x4 < (x0.len : Int))) then (bif fit 1048576 s1 (x0.fld x4.toNat) then (bif (decide (0 ≤ x4) && decide (x4 < (l0.length : Int))) then loopE T C71 K keep71 Tryz.f71 0 0 (behind T C71 K keep71 Tryz.f71 [(.sl s1)] 0) n (S71_0 x0 (IntKind.i64.wrap (x4 + (1 : Int))) (l0.set x4.toNat (can s1 (x0.fld x4.toNat)))) else none) else none) else none) else some [(Dat.n l0)]) := by kernel_rfl
theorem f71_start (K : Nat) (a : Dat) : evBody T C71 noL K keep71 Tryz.f71 [(.sl s1)] [(.sl s1)] [a] =
      (bif (decide (0 ≤ (a.len : Int)) && (decide ((a.len : Int) ≤ 4294967296) && decide ((a.len : Int) = (a.len : Int)))) then loopE T C71 K keep71 Tryz.f71 0 0 (behind T C71 K keep71 Tryz.f71 [(.sl s1)] 0) K (S71_0 a (0 : Int) (List.replicate (a.len : Int).toNat (zeroD s1))) else none) := by kernel_rfl
theorem con71 : ConOk Tryz.prog 71 (toSig (.sl s1) (.sl s1)) := con hM hD hT hC71 keep71 Tryz.func71 (by kernel_rfl) (by kernel_rfl) fun ds hl hp => by
  obtain ⟨a, rfl⟩ := ds_one hl
  replace hp : fit 1048576 (.sl s1) a = true := hp
  obtain ⟨hn, he⟩ := fit_sl hp
  refine ⟨a.len + 1, ?_⟩
  have c1 : (decide (0 ≤ (a.len : Int)) && (decide ((a.len : Int) ≤ 4294967296) && decide ((a.len : Int) = (a.len : Int)))) = true := by simp; omega
  rw [f71_start, c1, cond_true, Int.toNat_natCast]
  refine (fill_loop (E := fun n j l => loopE T C71 (a.len + 1) keep71 Tryz.f71 0 0 (behind T C71 (a.len + 1) keep71 Tryz.f71 [(.sl s1)] 0) n (S71_0 a (j : Int) l)) (N := a.len) (g := fun j => can s1 (a.fld j)) (fin := fun l => some [Dat.n l]) (zeroD s1) (fun n j l hj hlen => ?_) (fun n l _ => ?_)).trans ?_
  · have f1 := he j hj
    have hj2 : j < l.length := by omega
    show loopE T C71 (a.len + 1) keep71 Tryz.f71 0 0 (behind T C71 (a.len + 1) keep71 Tryz.f71 [(.sl s1)] 0) (n + 1) (S71_0 a (j : Int) l) = _
    rw [f71_round0]
    simp only [dlt hj, dge, dlt hj2, Int.toNat_natCast, f1, Bool.and_self, cond_true, wrap_succ hj (by unfold M; omega)]
    try rfl
  · show loopE T C71 (a.len + 1) keep71 Tryz.f71 0 0 (behind T C71 (a.len + 1) keep71 Tryz.f71 [(.sl s1)] 0) (n + 1) (S71_0 a (a.len : Int) l) = _
    rw [f71_round0, dnlt (Nat.lt_irrefl _)]; rfl
  · show _ = some [can (.sl s1) a]
    rw [kids_can]


/-! laws.toField -/
abbrev C103 : FuncId → Option Sig := tabC []
theorem hC103 : ∀ g sg, C103 g = some sg → ConOk Tryz.prog g sg := tabC_nil
abbrev keep103 : Nat → List Nat := fun _ => []
theorem f103_start (K : Nat) (a : Dat) : evBody T C103 noL K keep103 Tryz.f103 [s2] [s2] [a] =
      some [(Dat.n [(Dat.s ((a.fld 0).str)), (Dat.s ((a.fld 1).str))])] := by kernel_rfl
theorem con103 : ConOk Tryz.prog 103 (toSig s2 s2) := con hM hD hT hC103 keep103 Tryz.func103 (by kernel_rfl) (by kernel_rfl) fun ds hl hp => by
  obtain ⟨a, rfl⟩ := ds_one hl
  replace hp : fit 1048576 s2 a = true := hp
  refine ⟨0, ?_⟩
  rw [f103_start]
  rfl


/-! laws.toFieldS -/
abbrev C72 : FuncId → Option Sig := tabC [(103, toSig s2 s2)]
theorem hC72 : ∀ g sg, C72 g = some sg → ConOk Tryz.prog g sg := (tabC_cons con103 tabC_nil)
abbrev keep72 : Nat → List Nat | 0 => [0, 3, 4] | _ => []
def S72_0 (x0 : Dat) (x4 : Int) (l0 : (List Dat)) : St := ⟨[.ro s2 x0, .u, .u, .hd 0, .int .i64 x4] ++ us 18, [.arr s2 l0]⟩
theorem f72_round0 (K n : Nat) (x0 : Dat) (x4 : Int) (l0 : (List Dat)) :
    loopE T C72 K keep72 Tryz.f72 0 0 (behind T C72 K keep72 Tryz.f72 [(.sl s2)] 0) (n + 1) (S72_0 x0 x4 l0) =
      (bif decide (x4 < (x0.len : Int)) then (bif (decide (0 ≤ x4) && decide (x4 < (x0.len : Int))) then (bif fit 1048576 s2 (x0.fld x4.toNat) then (bif (decide (0 ≤ x4) && decide (x4 < (l0.length : Int))) then loopE T C72 K keep72 Tryz.f72 0 0 (behind T C72 K keep72 Tryz.f72 [(.sl s2)] 0) n (S72_0 x0 (IntKind.i64.wrap (x4 + (1 : Int))) (l0.set x4.toNat (can s2 (x0.fld x4.toNat)))) else none) else none) else none) else some [(Dat.n l0)]) := by kernel_rfl
theorem f72_start (K : Nat) (a : Dat) : evBody T C72 noL K keep72 Tryz.f72 [(.sl s2)] [(.sl s2)] [a] =
      (bif (decide (0 ≤ (a.len : Int)) && (decide ((a.len : Int) ≤ 4294967296) && decide ((a.len : Int) = (a.len : Int)))) then loopE T C72 K keep72 Tryz.f72 0 0 (behind T C72 K keep72 Tryz.f72 [(.sl s2)] 0) K (S72_0 a (0 : Int) (List.replicate (a.len : Int).toNat (zeroD s2))) else none) := by kernel_rfl
theorem con72 : ConOk Tryz.prog 72 (toSig (.sl s2) (.sl s2)) := con hM hD hT hC72 keep72 Tryz.func72 (by kernel_rfl) (by kernel_rfl) fun ds hl hp => by
  obtain ⟨a, rfl⟩ := ds_one hl
  replace hp : fit 1048576 (.sl s2) a = true := hp
  obtain ⟨hn, he⟩ := fit_sl hp
  refine ⟨a.len + 1, ?_⟩
  have c1 : (decide (0 ≤ (a.len : Int)) && (decide ((a.len : Int) ≤ 4294967296) && decide ((a.len : Int) = (a.len : Int)))) = true := by simp; omega
  rw [f72_start, c1, cond_true, Int.toNat_natCast]
  refine (fill_loop (E := fun n j l => loopE T C72 (a.len + 1) keep72 Tryz.f72 0 0 (behind T C72 (a.len + 1) keep72 Tryz.f72 [(.sl s2)] 0) n (S72_0 a (j : Int) l)) (N := a.len) (g := fun j => can s2 (a.fld j)) (fin := fun l => some [Dat.n l]) (zeroD s2) (fun n j l hj hlen => ?_) (fun n l _ => ?_)).trans ?_
  · have f1 := he j hj
    have hj2 : j < l.length := by omega
    show loopE T C72 (a.len + 1) keep72 Tryz.f72 0 0 (behind T C72 (a.len + 1) keep72 Tryz.f72 [(.sl s2)] 0) (n + 1) (S72_0 a (j : Int) l) = _
    rw [f72_round0]
    simp only [dlt hj, dge, dlt hj2, Int.toNat_natCast, f1, Bool.and_self, cond_true, wrap_succ hj (by unfold M; omega)]
    try rfl
  · show loopE T C72 (a.len + 1) keep72 Tryz.f72 0 0 (behind T C72 (a.len + 1) keep72 Tryz.f72 [(.sl s2)] 0) (n + 1) (S72_0 a (a.len : Int) l) = _
    rw [f72_round0, dnlt (Nat.lt_irrefl _)]; rfl
  · show _ = some [can (.sl s2) a]
    rw [kids_can]


/-! laws.toStringS -/
abbrev C120 : FuncId → Option Sig := tabC []
theorem hC120 : ∀ g sg, C120 g = some sg → ConOk Tryz.prog g sg := tabC_nil
abbrev keep120 : Nat → List Nat | 0 => [0, 3, 4] | _ => []
def S120_0 (x0 : Dat) (x4 : Int) (l0 : (List Dat)) : St := ⟨[.ro .str x0, .u, .u, .hd 0, .int .i64 x4] ++ us 17, [.arr .str l0]⟩
theorem f120_round0 (K n : Nat) (x0 : Dat) (x4 : Int) (l0 : (List Dat)) :
    loopE T C120 K keep120 Tryz.f120 0 0 (behind T C120 K keep120 Tryz.f120 [(.sl .str)] 0) (n + 1) (S120_0 x0 x4 l0) =
      (bif decide (x4 < (x0.len : Int)) then (bif (decide (0 ≤ x4) && decide (x4 < (x0.len : Int))) then (bif (decide (0 ≤ x4) && decide (x4 < (l0.length : Int))) then loopE T C120 K keep120 Tryz.f120 0 0 (behind T C120 K keep120 Tryz.f120 [(.sl .str)] 0) n (S120_0 x0 (IntKind.i64.wrap (x4 + (1 : Int))) (l0.set x4.toNat (Dat.s ((x0.fld x4.toNat).str)))) else none) else none) else some [(Dat.n l0)]) := by kernel_rfl
theorem f120_start (K : Nat) (a : Dat) : evBody T C120 noL K keep120 Tryz.f120 [(.sl .str)] [(.sl .str)] [a] =
      (bif (decide (0 ≤ (a.len : Int)) && (decide ((a.len : Int) ≤ 4294967296) && decide ((a.len : Int) = (a.len : Int)))) then loopE T C120 K keep120 Tryz.f120 0 0 (behind T C120 K keep120 Tryz.f120 [(.sl .str)] 0) K (S120_0 a (0 : Int) (List.replicate (a.len : Int).toNat (zeroD .str))) else none) := by kernel_rfl
theorem con120 : ConOk Tryz.prog 120 (toSig (.sl .str) (.sl .str)) := con hM hD hT hC120 keep120 Tryz.func120 (by kernel_rfl) (by kernel_rfl) fun ds hl hp => by
  obtain ⟨a, rfl⟩ := ds_one hl
  replace hp : fit 1048576 (.sl .str) a = true := hp
  obtain ⟨hn, he⟩ := fit_sl hp
  refine ⟨a.len + 1, ?_⟩
  have c1 : (decide (0 ≤ (a.len : Int)) && (decide ((a.len : Int) ≤ 4294967296) && decide ((a.len : Int) = (a.len : Int)))) = true := by simp; omega
  rw [f120_start, c1, cond_true, Int.toNat_natCast]
  refine (fill_loop (E := fun n j l => loopE T C120 (a.len + 1) keep120 Tryz.f120 0 0 (behind T C120 (a.len + 1) keep120 Tryz.f120 [(.sl .str)] 0) n (S120_0 a (j : Int) l)) (N := a.len) (g := fun j => can .str (a.fld j)) (fin := fun l => some [Dat.n l]) (zeroD .str) (fun n j l hj hlen => ?_) (fun n l _ => ?_)).trans ?_
  · have hj2 : j < l.length := by omega
    show loopE T C120 (a.len + 1) keep120 Tryz.f120 0 0 (behind T C120 (a.len + 1) keep120 Tryz.f120 [(.sl .str)] 0) (n + 1) (S120_0 a (j : Int) l) = _
    rw [f120_round0]
    simp only [dlt hj, dge, dlt hj2, Int.toNat_natCast, Bool.and_self, cond_true, wrap_succ hj (by unfold M; omega)]
    try rfl
  · show loopE T C120 (a.len + 1) keep120 Tryz.f120 0 0 (behind T C120 (a.len + 1) keep120 Tryz.f120 [(.sl .str)] 0) (n + 1) (S120_0 a (a.len : Int) l) = _
    rw [f120_round0, dnlt (Nat.lt_irrefl _)]; rfl
  · show _ = some [can (.sl .str) a]
    rw [kids_can]


/-! laws.toIns -/
abbrev C134 : FuncId → Option Sig := tabC []
theorem hC134 : ∀ g sg, C134 g = some sg → ConOk Tryz.prog g sg := tabC_nil
abbrev keep134 : Nat → List Nat := fun _ => []
theorem f134_start (K : Nat) (a : Dat) : evBody T C134 noL K keep134 Tryz.f134 [s3] [s3] [a] =
      some [(Dat.n [(Dat.i ((a.fld 0).int)), (Dat.i ((a.fld 1).int))])] := by kernel_rfl
theorem con134 : ConOk Tryz.prog 134 (toSig s3 s3) := con hM hD hT hC134 keep134 Tryz.func134 (by kernel_rfl) (by kernel_rfl) fun ds hl hp => by
  obtain ⟨a, rfl⟩ := ds_one hl
  replace hp : fit 1048576 s3 a = true := hp
  refine ⟨0, ?_⟩
  rw [f134_start]
  rfl


/-! laws.toInsS -/
abbrev C121 : FuncId → Option Sig := tabC [(134, toSig s3 s3)]
theorem hC121 : ∀ g sg, C121 g = some sg → ConOk Tryz.prog g sg := (tabC_cons con134 tabC_nil)
abbrev keep121 : Nat → List Nat | 0 => [0, 3, 4] | _ => []
def S121_0 (x0 : Dat) (x4 : Int) (l0 : (List Dat)) : St := ⟨[.ro s3 x0, .u, .u, .hd 0, .int .i64 x4] ++ us 18, [.arr s3 l0]⟩
theorem f121_round0 (K n : Nat) (x0 : Dat) (x4 : Int) (l0 : (List Dat)) :
    loopE T C121 K keep121 Tryz.f121 0 0 (behind T C121 K keep121 Tryz.f121 [(.sl s3)] 0) (n + 1) (S121_0 x0 x4 l0) =
      (bif decide (x4 < (x0.len : Int)) then (bif (decide (0 ≤ x4) && decide (x4 < (x0.len : Int))) then (bif fit 1048576 s3 (x0.fld x4.toNat) then (bif (decide (0 ≤ x4) && decide (x4 < (l0.length : Int))) then loopE T C121 K keep121 Tryz.f121 0 0 (behind T C121 K keep121 Tryz.f121 [(.sl s3)] 0) n (S121_0 x0 (IntKind.i64.wrap (x4 + (1 : Int))) (l0.set x4.toNat (can s3 (x0.fld x4.toNat)))) else none) else none) else none) else some [(Dat.n l0)]) := by kernel_rfl
theorem f121_start (K : Nat) (a : Dat) : evBody T C121 noL K keep121 Tryz.f121 [(.sl s3)] [(.sl s3)] [a] =
      (bif (decide (0 ≤ (a.len : Int)) && (decide ((a.len : Int) ≤ 4294967296) && decide ((a.len : Int) = (a.len : Int)))) then loopE T C121 K keep121 Tryz.f121 0 0 (behind T C121 K keep121 Tryz.f121 [(.sl s3)] 0) K (S121_0 a (0 : Int) (List.replicate (a.len : Int).toNat (zeroD s3))) else none) := by kernel_rfl
theorem con121 : ConOk Tryz.prog 121 (toSig (.sl s3) (.sl s3)) := con hM hD hT hC121 keep121 Tryz.func121 (by kernel_rfl) (by kernel_rfl) fun ds hl hp => by
  obtain ⟨a, rfl⟩ := ds_one hl
  replace hp : fit 1048576 (.sl s3) a = true := hp
  obtain ⟨hn, he⟩ := fit_sl hp
  refine ⟨a.len + 1, ?_⟩
  have c1 : (decide (0 ≤ (a.len : Int)) && (decide ((a.len : Int) ≤ 4294967296) && decide ((a.len : Int) = (a.len : Int)))) = true := by simp; omega
  rw [f121_start, c1, cond_true, Int.toNat_natCast]
  refine (fill_loop (E := fun n j l => loopE T C121 (a.len + 1) keep121 Tryz.f121 0 0 (behind T C121 (a.len + 1) keep121 Tryz.f121 [(.sl s3)] 0) n (S121_0 a (j : Int) l)) (N := a.len) (g := fun j => can s3 (a.fld j)) (fin := fun l => some [Dat.n l]) (zeroD s3) (fun n j l hj hlen => ?_) (fun n l _ => ?_)).trans ?_
  · have f1 := he j hj
    have hj2 : j < l.length := by omega
    show loopE T C121 (a.len + 1) keep121 Tryz.f121 0 0 (behind T C121 (a.len + 1) keep121 Tryz.f121 [(.sl s3)] 0) (n + 1) (S121_0 a (j : Int) l) = _
    rw [f121_round0]
    simp only [dlt hj, dge, dlt hj2, Int.toNat_natCast, f1, Bool.and_self, cond_true, wrap_succ hj (by unfold M; omega)]
    try rfl
  · show loopE T C121 (a.len + 1) keep121 Tryz.f121 0 0 (behind T C121 (a.len + 1) keep121 Tryz.f121 [(.sl s3)] 0) (n + 1) (S121_0 a (a.len : Int) l) = _
    rw [f121_round0, dnlt (Nat.lt_irrefl _)]; rfl
  · show _ = some [can (.sl s3) a]
    rw [kids_can]


/-! laws.toCode -/
abbrev C104 : FuncId → Option Sig := tabC [(120, toSig (.sl .str) (.sl .str)), (121, toSig (.sl s3) (.sl s3))]
theorem hC104 : ∀ g sg, C104 g = some sg → ConOk Tryz.prog g sg := (tabC_cons con120 (tabC_cons con121 tabC_nil))
abbrev keep104 : Nat → List Nat := fun _ => []
theorem f104_start (K : Nat) (a : Dat) : evBody T C104 noL K keep104 Tryz.f104 [s4] [s4] [a] =
      (bif fit 1048576 (.sl .str) (a.fld 2) then (bif fit 1048576 (.sl s3) (a.fld 5) then some [(Dat.n [(Dat.s ((a.fld 0).str)), (Dat.i ((a.fld 1).int)), (Dat.n ((can (.sl .str) (a.fld 2)).kids)), (Dat.s ((a.fld 3).str)), (Dat.i ((a.fld 4).int)), (Dat.n ((can (.sl s3) (a.fld 5)).kids))])] else none) else none) := by kernel_rfl
theorem con104 : ConOk Tryz.prog 104 (toSig s4 s4) := con hM hD hT hC104 keep104 Tryz.func104 (by kernel_rfl) (by kernel_rfl) fun ds hl hp => by
  obtain ⟨a, rfl⟩ := ds_one hl
  replace hp : fit 1048576 s4 a = true := hp
  refine ⟨0, ?_⟩
  have h2 : fit 1048576 (.sl .str) (a.fld 2) = true := fit_fld hp 2 rfl
  have h5 : fit 1048576 (.sl s3) (a.fld 5) = true := fit_fld hp 5 rfl
  rw [f104_start]
  simp only [h2, h5, cond_true]
  rfl


/-! laws.toCodeS -/
abbrev C73 : FuncId → Option Sig := tabC [(104, toSig s4 s4)]
theorem hC73 : ∀ g sg, C73 g = some sg → ConOk Tryz.prog g sg := (tabC_cons con104 tabC_nil)
abbrev keep73 : Nat → List Nat | 0 => [0, 3, 4] | _ => []
def S73_0 (x0 : Dat) (x4 : Int) (l0 : (List Dat)) : St := ⟨[.ro s4 x0, .u, .u, .hd 0, .int .i64 x4] ++ us 18, [.arr s4 l0]⟩
theorem f73_round0 (K n : Nat) (x0 : Dat) (x4 : Int) (l0 : (List Dat)) :
    loopE T C73 K keep73 Tryz.f73 0 0 (behind T C73 K keep73 Tryz.f73 [(.sl s4)] 0) (n + 1) (S73_0 x0 x4 l0) =
      (bif decide (x4 < (x0.len : Int)) then (bif (decide (0 ≤ x4) && decide (x4 < (x0.len : Int))) then (bif fit 1048576 s4 (x0.fld x4.toNat) then (bif (decide (0 ≤ x4) && decide (x4 < (l0.length : Int))) then loopE T C73 K keep73 Tryz.f73 0 0 (behind T C73 K keep73 Tryz.f73 [(.sl s4)] 0) n (S73_0 x0 (IntKind.i64.wrap (x4 + (1 : Int))) (l0.set x4.toNat (can s4 (x0.fld x4.toNat)))) else none) else none) else none) else some [(Dat.n l0)]) := by kernel_rfl
theorem f73_start (K : Nat) (a : Dat) : evBody T C73 noL K keep73 Tryz.f73 [(.sl s4)] [(.sl s4)] [a] =
      (bif (decide (0 ≤ (a.len : Int)) && (decide ((a.len : Int) ≤ 4294967296) && decide ((a.len : Int) = (a.len : Int)))) then loopE T C73 K keep73 Tryz.f73 0 0 (behind T C73 K keep73 Tryz.f73 [(.sl s4)] 0) K (S73_0 a (0 : Int) (List.replicate (a.len : Int).toNat (zeroD s4))) else none) := by kernel_rfl
theorem con73 : ConOk Tryz.prog 73 (toSig (.sl s4) (.sl s4)) := con hM hD hT hC73 keep73 Tryz.func73 (by kernel_rfl) (by kernel_rfl) fun ds hl hp => by
  obtain ⟨a, rfl⟩ := ds_one hl
  replace hp : fit 1048576 (.sl s4) a = true := hp
  obtain ⟨hn, he⟩ := fit_sl hp
  refine ⟨a.len + 1, ?_⟩
  have c1 : (decide (0 ≤ (a.len : Int)) && (decide ((a.len : Int) ≤ 4294967296) && decide ((a.len : Int) = (a.len : Int)))) = true := by simp; omega
  rw [f73_start, c1, cond_true, Int.toNat_natCast]
  refine (fill_loop (E := fun n j l => loopE T C73 (a.len + 1) keep73 Tryz.f73 0 0 (behind T C73 (a.len + 1) keep73 Tryz.f73 [(.sl s4)] 0) n (S73_0 a (j : Int) l)) (N := a.len) (g := fun j => can s4 (a.fld j)) (fin := fun l => some [Dat.n l]) (zeroD s4) (fun n j l hj hlen => ?_) (fun n l _ => ?_)).trans ?_
  · have f1 := he j hj
    have hj2 : j < l.length := by omega
    show loopE T C73 (a.len + 1) keep73 Tryz.f73 0 0 (behind T C73 (a.len + 1) keep73 Tryz.f73 [(.sl s4)] 0) (n + 1) (S73_0 a (j : Int) l) = _
    rw [f73_round0]
    simp only [dlt hj, dge, dlt hj2, Int.toNat_natCast, f1, Bool.and_self, cond_true, wrap_succ hj (by unfold M; omega)]
    try rfl
  · show loopE T C73 (a.len + 1) keep73 Tryz.f73 0 0 (behind T C73 (a.len + 1) keep73 Tryz.f73 [(.sl s4)] 0) (n + 1) (S73_0 a (a.len : Int) l) = _
    rw [f73_round0, dnlt (Nat.lt_irrefl _)]; rfl
  · show _ = some [can (.sl s4) a]
    rw [kids_can]


/-! laws.toKind -/
abbrev C41 : FuncId → Option Sig := tabC [(71, toSig (.sl s1) (.sl s1)), (72, toSig (.sl s2) (.sl s2)), (73, toSig (.sl s4) (.sl s4))]
theorem hC41 : ∀ g sg, C41 g = some sg → ConOk Tryz.prog g sg := (tabC_cons con71 (tabC_cons con72 (tabC_cons con73 tabC_nil)))
abbrev keep41 : Nat → List Nat := fun _ => []
theorem f41_start (K : Nat) (a : Dat) : evBody T C41 noL K keep41 Tryz.f41 [s5] [s5] [a] =
      (bif fit 1048576 (.sl s1) (a.fld 2) then (bif fit 1048576 (.sl s2) (a.fld 3) then (bif fit 1048576 (.sl s4) (a.fld 4) then some [(Dat.n [(Dat.s ((a.fld 0).str)), (Dat.i ((a.fld 1).int)), (Dat.n ((can (.sl s1) (a.fld 2)).kids)), (Dat.n ((can (.sl s2) (a.fld 3)).kids)), (Dat.n ((can (.sl s4) (a.fld 4)).kids))])] else none) else none) else none) := by kernel_rfl
theorem con41 : ConOk Tryz.prog 41 (toSig s5 s5) := con hM hD hT hC41 keep41 Tryz.func41 (by kernel_rfl) (by kernel_rfl) fun ds hl hp => by
  obtain ⟨a, rfl⟩ := ds_one hl
  replace hp : fit 1048576 s5 a = true := hp
  refine ⟨0, ?_⟩
  have h2 : fit 1048576 (.sl s1) (a.fld 2) = true := fit_fld hp 2 rfl
  have h3 : fit 1048576 (.sl s2) (a.fld 3) = true := fit_fld hp 3 rfl
  have h4 : fit 1048576 (.sl s4) (a.fld 4) = true := fit_fld hp 4 rfl
  rw [f41_start]
  simp only [h2, h3, h4, cond_true]
  rfl


/-! laws.toKindS -/
abbrev C25 : FuncId → Option Sig := tabC [(41, toSig s5 s5)]
theorem hC25 : ∀ g sg, C25 g = some sg → ConOk Tryz.prog g sg := (tabC_cons con41 tabC_nil)
abbrev keep25 : Nat → List Nat | 0 => [0, 3, 4] | _ => []
def S25_0 (x0 : Dat) (x4 : Int) (l0 : (List Dat)) : St := ⟨[.ro s5 x0, .u, .u, .hd 0, .int .i64 x4] ++ us 18, [.arr s5 l0]⟩
theorem f25_round0 (K n : Nat) (x0 : Dat) (x4 : Int) (l0 : (List Dat)) :
    loopE T C25 K keep25 Tryz.f25 0 0 (behind T C25 K keep25 Tryz.f25 [(.sl s5)] 0) (n + 1) (S25_0 x0 x4 l0) =
      (bif decide (x4 < (x0.len : Int)) then (bif (decide (0 ≤ x4) && decide (x4 < (x0.len : Int))) then (bif fit 1048576 s5 (x0.fld x4.toNat) then (bif (decide (0 ≤ x4) && decide (x4 < (l0.length : Int))) then loopE T C25 K keep25 Tryz.f25 0 0 (behind T C25 K keep25 Tryz.f25 [(.sl s5)] 0) n (S25_0 x0 (IntKind.i64.wrap (x4 + (1 : Int))) (l0.set x4.toNat (can s5 (x0.fld x4.toNat)))) else none) else none) else none) else some [(Dat.n l0)]) := by kernel_rfl
theorem f25_start (K : Nat) (a : Dat) : evBody T C25 noL K keep25 Tryz.f25 [(.sl s5)] [(.sl s5)] [a] =
      (bif (decide (0 ≤ (a.len : Int)) && (decide ((a.len : Int) ≤ 4294967296) && decide ((a.len : Int) = (a.len : Int)))) then loopE T C25 K keep25 Tryz.f25 0 0 (behind T C25 K keep25 Tryz.f25 [(.sl s5)] 0) K (S25_0 a (0 : Int) (List.replicate (a.len : Int).toNat (zeroD s5))) else none) := by kernel_rfl
theorem con25 : ConOk Tryz.prog 25 (toSig (.sl s5) (.sl s5)) := con hM hD hT hC25 keep25 Tryz.func25 (by kernel_rfl) (by kernel_rfl) fun ds hl hp => by
  obtain ⟨a, rfl⟩ := ds_one hl
  replace hp : fit 1048576 (.sl s5) a = true := hp
  obtain ⟨hn, he⟩ := fit_sl hp
  refine ⟨a.len + 1, ?_⟩
  have c1 : (decide (0 ≤ (a.len : Int)) && (decide ((a.len : Int) ≤ 4294967296) && decide ((a.len : Int) = (a.len : Int)))) = true := by simp; omega
  rw [f25_start, c1, cond_true, Int.toNat_natCast]
  refine (fill_loop (E := fun n j l => loopE T C25 (a.len + 1) keep25 Tryz.f25 0 0 (behind T C25 (a.len + 1) keep25 Tryz.f25 [(.sl s5)] 0) n (S25_0 a (j : Int) l)) (N := a.len) (g := fun j => can s5 (a.fld j)) (fin := fun l => some [Dat.n l]) (zeroD s5) (fun n j l hj hlen => ?_) (fun n l _ => ?_)).trans ?_
  · have f1 := he j hj
    have hj2 : j < l.length := by omega
    show loopE T C25 (a.len + 1) keep25 Tryz.f25 0 0 (behind T C25 (a.len + 1) keep25 Tryz.f25 [(.sl s5)] 0) (n + 1) (S25_0 a (j : Int) l) = _
    rw [f25_round0]
    simp only [dlt hj, dge, dlt hj2, Int.toNat_natCast, f1, Bool.and_self, cond_true, wrap_succ hj (by unfold M; omega)]
    try rfl
  · show loopE T C25 (a.len + 1) keep25 Tryz.f25 0 0 (behind T C25 (a.len + 1) keep25 Tryz.f25 [(.sl s5)] 0) (n + 1) (S25_0 a (a.len : Int) l) = _
    rw [f25_round0, dnlt (Nat.lt_irrefl _)]; rfl
  · show _ = some [can (.sl s5) a]
    rw [kids_can]


/-! laws.toProg -/
abbrev C14 : FuncId → Option Sig := tabC [(25, toSig (.sl s5) (.sl s5))]
theorem hC14 : ∀ g sg, C14 g = some sg → ConOk Tryz.prog g sg := (tabC_cons con25 tabC_nil)
abbrev keep14 : Nat → List Nat := fun _ => []
theorem f14_start (K : Nat) (a : Dat) : evBody T C14 noL K keep14 Tryz.f14 [s6] [s6] [a] =
      (bif fit 1048576 (.sl s5) (a.fld 0) then some [(Dat.n [(Dat.n ((can (.sl s5) (a.fld 0)).kids))])] else none) := by kernel_rfl
theorem con14 : ConOk Tryz.prog 14 (toSig s6 s6) := con hM hD hT hC14 keep14 Tryz.func14 (by kernel_rfl) (by kernel_rfl) fun ds hl hp => by
  obtain ⟨a, rfl⟩ := ds_one hl
  replace hp : fit 1048576 s6 a = true := hp
  refine ⟨0, ?_⟩
  have h0 : fit 1048576 (.sl s5) (a.fld 0) = true := fit_fld hp 0 rfl
  rw [f14_start]
  simp only [h0, cond_true]
  rfl


/-! laws.toVal -/
abbrev C122 : FuncId → Option Sig := tabC []
theorem hC122 : ∀ g sg, C122 g = some sg → ConOk Tryz.prog g sg := tabC_nil
abbrev keep122 : Nat → List Nat := fun _ => []
theorem f122_start (K : Nat) (a : Dat) : evBody T C122 noL K keep122 Tryz.f122 [s7] [s7] [a] =
      some [(Dat.n [(Dat.b ((a.fld 0).bool)), (Dat.i ((a.fld 1).int))])] := by kernel_rfl
theorem con122 : ConOk Tryz.prog 122 (toSig s7 s7) := con hM hD hT hC122 keep122 Tryz.func122 (by kernel_rfl) (by kernel_rfl) fun ds hl hp => by
  obtain ⟨a, rfl⟩ := ds_one hl
  replace hp : fit 1048576 s7 a = true := hp
  refine ⟨0, ?_⟩
  rw [f122_start]
  rfl


/-! laws.toValS -/
abbrev C105 : FuncId → Option Sig := tabC [(122, toSig s7 s7)]
theorem hC105 : ∀ g sg, C105 g = some sg → ConOk Tryz.prog g sg := (tabC_cons con122 tabC_nil)
abbrev keep105 : Nat → List Nat | 0 => [0, 3, 4] | _ => []
def S105_0 (x0 : Dat) (x4 : Int) (l0 : (List Dat)) : St := ⟨[.ro s7 x0, .u, .u, .hd 0, .int .i64 x4] ++ us 18, [.arr s7 l0]⟩
theorem f105_round0 (K n : Nat) (x0 : Dat) (x4 : Int) (l0 : (List Dat)) :
    loopE T C105 K keep105 Tryz.f105 0 0 (behind T C105 K keep105 Tryz.f105 [(.sl s7)] 0) (n + 1) (S105_0 x0 x4 l0) =
      (bif decide (x4 < (x0.len : Int)) then (bif (decide (0 ≤ x4) && decide (x4 < (x0.len : Int))) then (bif fit 1048576 s7 (x0.fld x4.toNat) then (bif (decide (0 ≤ x4) && decide (x4 < (l0.length : Int))) then loopE T C105 K keep105 Tryz.f105 0 0 (behind T C105 K keep105 Tryz.f105 [(.sl s7)] 0) n (S105_0 x0 (IntKind.i64.wrap (x4 + (1 : Int))) (l0.set x4.toNat (can s7 (x0.fld x4.toNat)))) else none) else none) else none) else some [(Dat.n l0)]) := by kernel_rfl
theorem f105_start (K : Nat) (a : Dat) : evBody T C105 noL K keep105 Tryz.f105 [(.sl s7)] [(.sl s7)] [a] =
      (bif (decide (0 ≤ (a.len : Int)) && (decide ((a.len : Int) ≤ 4294967296) && decide ((a.len : Int) = (a.len : Int)))) then loopE T C105 K keep105 Tryz.f105 0 0 (behind T C105 K keep105 Tryz.f105 [(.sl s7)] 0) K (S105_0 a (0 : Int) (List.replicate (a.len : Int).toNat (zeroD s7))) else none) := by kernel_rfl
theorem con105 : ConOk Tryz.prog 105 (toSig (.sl s7) (.sl s7)) := con hM hD hT hC105 keep105 Tryz.func105 (by kernel_rfl) (by kernel_rfl) fun ds hl hp => by
  obtain ⟨a, rfl⟩ := ds_one hl
  replace hp : fit 1048576 (.sl s7) a = true := hp
  obtain ⟨hn, he⟩ := fit_sl hp
  refine ⟨a.len + 1, ?_⟩
  have c1 : (decide (0 ≤ (a.len : Int)) && (decide ((a.len : Int) ≤ 4294967296) && decide ((a.len : Int) = (a.len : Int)))) = true := by simp; omega
  rw [f105_start, c1, cond_true, Int.toNat_natCast]
  refine (fill_loop (E := fun n j l => loopE T C105 (a.len + 1) keep105 Tryz.f105 0 0 (behind T C105 (a.len + 1) keep105 Tryz.f105 [(.sl s7)] 0) n (S105_0 a (j : Int) l)) (N := a.len) (g := fun j => can s7 (a.fld j)) (fin := fun l => some [Dat.n l]) (zeroD s7) (fun n j l hj hlen => ?_) (fun n l _ => ?_)).trans ?_
  · have f1 := he j hj
    have hj2 : j < l.length := by omega
    show loopE T C105 (a.len + 1) keep105 Tryz.f105 0 0 (behind T C105 (a.len + 1) keep105 Tryz.f105 [(.sl s7)] 0) (n + 1) (S105_0 a (j : Int) l) = _
    rw [f105_round0]
    simp only [dlt hj, dge, dlt hj2, Int.toNat_natCast, f1, Bool.and_self, cond_true, wrap_succ hj (by unfold M; omega)]
    try rfl
  · show loopE T C105 (a.len + 1) keep105 Tryz.f105 0 0 (behind T C105 (a.len + 1) keep105 Tryz.f105 [(.sl s7)] 0) (n + 1) (S105_0 a (a.len : Int) l) = _
    rw [f105_round0, dnlt (Nat.lt_irrefl _)]; rfl
  · show _ = some [can (.sl s7) a]
    rw [kids_can]


/-! laws.toCopy -/
abbrev C74 : FuncId → Option Sig := tabC [(105, toSig (.sl s7) (.sl s7))]
theorem hC74 : ∀ g sg, C74 g = some sg → ConOk Tryz.prog g sg := (tabC_cons con105 tabC_nil)
abbrev keep74 : Nat → List Nat := fun _ => []
theorem f74_start (K : Nat) (a : Dat) : evBody T C74 noL K keep74 Tryz.f74 [s8] [s8] [a] =
      (bif fit 1048576 (.sl s7) (a.fld 4) then (bif fit 1048576 (.sl s7) (a.fld 5) then some [(Dat.n [(Dat.i ((a.fld 0).int)), (Dat.i ((a.fld 1).int)), (Dat.i ((a.fld 2).int)), (Dat.b ((a.fld 3).bool)), (Dat.n ((can (.sl s7) (a.fld 4)).kids)), (Dat.n ((can (.sl s7) (a.fld 5)).kids))])] else none) else none) := by kernel_rfl
theorem con74 : ConOk Tryz.prog 74 (toSig s8 s8) := con hM hD hT hC74 keep74 Tryz.func74 (by kernel_rfl) (by kernel_rfl) fun ds hl hp => by
  obtain ⟨a, rfl⟩ := ds_one hl
  replace hp : fit 1048576 s8 a = true := hp
  refine ⟨0, ?_⟩
  have h4 : fit 1048576 (.sl s7) (a.fld 4) = true := fit_fld hp 4 rfl
  have h5 : fit 1048576 (.sl s7) (a.fld 5) = true := fit_fld hp 5 rfl
  rw [f74_start]
  simp only [h4, h5, cond_true]
  rfl


/-! laws.toCopyS -/
abbrev C42 : FuncId → Option Sig := tabC [(74, toSig s8 s8)]
theorem hC42 : ∀ g sg, C42 g = some sg → ConOk Tryz.prog g sg := (tabC_cons con74 tabC_nil)
abbrev keep42 : Nat → List Nat | 0 => [0, 3, 4] | _ => []
def S42_0 (x0 : Dat) (x4 : Int) (l0 : (List Dat)) : St := ⟨[.ro s8 x0, .u, .u, .hd 0, .int .i64 x4] ++ us 18, [.arr s8 l0]⟩
theorem f42_round0 (K n : Nat) (x0 : Dat) (x4 : Int) (l0 : (List Dat)) :
    loopE T C42 K keep42 Tryz.f42 0 0 (behind T C42 K keep42 Tryz.f42 [(.sl s8)] 0) (n + 1) (S42_0 x0 x4 l0) =
      (bif decide (x4 < (x0.len : Int)) then (bif (decide (0 ≤ x4) && decide (x4 < (x0.len : Int))) then (bif fit 1048576 s8 (x0.fld x4.toNat) then (bif (decide (0 ≤ x4) && decide (x4 < (l0.length : Int))) then loopE T C42 K keep42 Tryz.f42 0 0 (behind T C42 K keep42 Tryz.f42 [(.sl s8)] 0) n (S42_0 x0 (IntKind.i64.wrap (x4 + (1 : Int))) (l0.set x4.toNat (can s8 (x0.fld x4.toNat)))) else none) else none) else none) else some [(Dat.n l0)]) := by kernel_rfl
theorem f42_start (K : Nat) (a : Dat) : evBody T C42 noL K keep42 Tryz.f42 [(.sl s8)] [(.sl s8)] [a] =
      (bif (decide (0 ≤ (a.len : Int)) && (decide ((a.len : Int) ≤ 4294967296) && decide ((a.len : Int) = (a.len : Int)))) then loopE T C42 K keep42 Tryz.f42 0 0 (behind T C42 K keep42 Tryz.f42 [(.sl s8)] 0) K (S42_0 a (0 : Int) (List.replicate (a.len : Int).toNat (zeroD s8))) else none) := by kernel_rfl
theorem con42 : ConOk Tryz.prog 42 (toSig (.sl s8) (.sl s8)) := con hM hD hT hC42 keep42 Tryz.func42 (by kernel_rfl) (by kernel_rfl) fun ds hl hp => by
  obtain ⟨a, rfl⟩ := ds_one hl
  replace hp : fit 1048576 (.sl s8) a = true := hp
  obtain ⟨hn, he⟩ := fit_sl hp
  refine ⟨a.len + 1, ?_⟩
  have c1 : (decide (0 ≤ (a.len : Int)) && (decide ((a.len : Int) ≤ 4294967296) && decide ((a.len : Int) = (a.len : Int)))) = true := by simp; omega
  rw [f42_start, c1, cond_true, Int.toNat_natCast]
  refine (fill_loop (E := fun n j l => loopE T C42 (a.len + 1) keep42 Tryz.f42 0 0 (behind T C42 (a.len + 1) keep42 Tryz.f42 [(.sl s8)] 0) n (S42_0 a (j : Int) l)) (N := a.len) (g := fun j => can s8 (a.fld j)) (fin := fun l => some [Dat.n l]) (zeroD s8) (fun n j l hj hlen => ?_) (fun n l _ => ?_)).trans ?_
  · have f1 := he j hj
    have hj2 : j < l.length := by omega
    show loopE T C42 (a.len + 1) keep42 Tryz.f42 0 0 (behind T C42 (a.len + 1) keep42 Tryz.f42 [(.sl s8)] 0) (n + 1) (S42_0 a (j : Int) l) = _
    rw [f42_round0]
    simp only [dlt hj, dge, dlt hj2, Int.toNat_natCast, f1, Bool.and_self, cond_true, wrap_succ hj (by unfold M; omega)]
    try rfl
  · show loopE T C42 (a.len + 1) keep42 Tryz.f42 0 0 (behind T C42 (a.len + 1) keep42 Tryz.f42 [(.sl s8)] 0) (n + 1) (S42_0 a (a.len : Int) l) = _
    rw [f42_round0, dnlt (Nat.lt_irrefl _)]; rfl
  · show _ = some [can (.sl s8) a]
    rw [kids_can]


/-! laws.toMaster -/
abbrev C75 : FuncId → Option Sig := tabC [(105, toSig (.sl s7) (.sl s7))]
theorem hC75 : ∀ g sg, C75 g = some sg → ConOk Tryz.prog g sg := (tabC_cons con105 tabC_nil)
abbrev keep75 : Nat → List Nat := fun _ => []
theorem f75_start (K : Nat) (a : Dat) : evBody T C75 noL K keep75 Tryz.f75 [s9] [s9] [a] =
      (bif fit 1048576 (.sl s7) (a.fld 3) then some [(Dat.n [(Dat.i ((a.fld 0).int)), (Dat.i ((a.fld 1).int)), (Dat.i ((a.fld 2).int)), (Dat.n ((can (.sl s7) (a.fld 3)).kids))])] else none) := by kernel_rfl
theorem con75 : ConOk Tryz.prog 75 (toSig s9 s9) := con hM hD hT hC75 keep75 Tryz.func75 (by kernel_rfl) (by kernel_rfl) fun ds hl hp => by
  obtain ⟨a, rfl⟩ := ds_one hl
  replace hp : fit 1048576 s9 a = true := hp
  refine ⟨0, ?_⟩
  have h3 : fit 1048576 (.sl s7) (a.fld 3) = true := fit_fld hp 3 rfl
  rw [f75_start]
  simp only [h3, cond_true]
  rfl


/-! laws.toMasterS -/
abbrev C43 : FuncId → Option Sig := tabC [(75, toSig s9 s9)]
theorem hC43 : ∀ g sg, C43 g = some sg → ConOk Tryz.prog g sg := (tabC_cons con75 tabC_nil)
abbrev keep43 : Nat → List Nat | 0 => [0, 3, 4] | _ => []
def S43_0 (x0 : Dat) (x4 : Int) (l0 : (List Dat)) : St := ⟨[.ro s9 x0, .u, .u, .hd 0, .int .i64 x4] ++ us 18, [.arr s9 l0]⟩
theorem f43_round0 (K n : Nat) (x0 : Dat) (x4 : Int) (l0 : (List Dat)) :
    loopE T C43 K keep43 Tryz.f43 0 0 (behind T C43 K keep43 Tryz.f43 [(.sl s9)] 0) (n + 1) (S43_0 x0 x4 l0) =
      (bif decide (x4 < (x0.len : Int)) then (bif (decide (0 ≤ x4) && decide (x4 < (x0.len : Int))) then (bif fit 1048576 s9 (x0.fld x4.toNat) then (bif (decide (0 ≤ x4) && decide (x4 < (l0.length : Int))) then loopE T C43 K keep43 Tryz.f43 0 0 (behind T C43 K keep43 Tryz.f43 [(.sl s9)] 0) n (S43_0 x0 (IntKind.i64.wrap (x4 + (1 : Int))) (l0.set x4.toNat (can s9 (x0.fld x4.toNat)))) else none) else none) else none) else some [(Dat.n l0)]) := by kernel_rfl
theorem f43_start (K : Nat) (a : Dat) : evBody T C43 noL K keep43 Tryz.f43 [(.sl s9)] [(.sl s9)] [a] =
      (bif (decide (0 ≤ (a.len : Int)) && (decide ((a.len : Int) ≤ 4294967296) && decide ((a.len : Int) = (a.len : Int)))) then loopE T C43 K keep43 Tryz.f43 0 0 (behind T C43 K keep43 Tryz.f43 [(.sl s9)] 0) K (S43_0 a (0 : Int) (List.replicate (a.len : Int).toNat (zeroD s9))) else none) := by kernel_rfl
theorem con43 : ConOk Tryz.prog 43 (toSig (.sl s9) (.sl s9)) := con hM hD hT hC43 keep43 Tryz.func43 (by kernel_rfl) (by kernel_rfl) fun ds hl hp => by
  obtain ⟨a, rfl⟩ := ds_one hl
  replace hp : fit 1048576 (.sl s9) a = true := hp
  obtain ⟨hn, he⟩ := fit_sl hp
  refine ⟨a.len + 1, ?_⟩
  have c1 : (decide (0 ≤ (a.len : Int)) && (decide ((a.len : Int) ≤ 4294967296) && decide ((a.len : Int) = (a.len : Int)))) = true := by simp; omega
  rw [f43_start, c1, cond_true, Int.toNat_natCast]
  refine (fill_loop (E := fun n j l => loopE T C43 (a.len + 1) keep43 Tryz.f43 0 0 (behind T C43 (a.len + 1) keep43 Tryz.f43 [(.sl s9)] 0) n (S43_0 a (j : Int) l)) (N := a.len) (g := fun j => can s9 (a.fld j)) (fin := fun l => some [Dat.n l]) (zeroD s9) (fun n j l hj hlen => ?_) (fun n l _ => ?_)).trans ?_
  · have f1 := he j hj
    have hj2 : j < l.length := by omega
    show loopE T C43 (a.len + 1) keep43 Tryz.f43 0 0 (behind T C43 (a.len + 1) keep43 Tryz.f43 [(.sl s9)] 0) (n + 1) (S43_0 a (j : Int) l) = _
    rw [f43_round0]
    simp only [dlt hj, dge, dlt hj2, Int.toNat_natCast, f1, Bool.and_self, cond_true, wrap_succ hj (by unfold M; omega)]
    try rfl
  · show loopE T C43 (a.len + 1) keep43 Tryz.f43 0 0 (behind T C43 (a.len + 1) keep43 Tryz.f43 [(.sl s9)] 0) (n + 1) (S43_0 a (a.len : Int) l) = _
    rw [f43_round0, dnlt (Nat.lt_irrefl _)]; rfl
  · show _ = some [can (.sl s9) a]
    rw [kids_can]


/-! laws.toWant -/
abbrev C76 : FuncId → Option Sig := tabC []
theorem hC76 : ∀ g sg, C76 g = some sg → ConOk Tryz.prog g sg := tabC_nil
abbrev keep76 : Nat → List Nat := fun _ => []
theorem f76_start (K : Nat) (a : Dat) : evBody T C76 noL K keep76 Tryz.f76 [s3] [s3] [a] =
      some [(Dat.n [(Dat.i ((a.fld 0).int)), (Dat.i ((a.fld 1).int))])] := by kernel_rfl
theorem con76 : ConOk Tryz.prog 76 (toSig s3 s3) := con hM hD hT hC76 keep76 Tryz.func76 (by kernel_rfl) (by kernel_rfl) fun ds hl hp => by
  obtain ⟨a, rfl⟩ := ds_one hl
  replace hp : fit 1048576 s3 a = true := hp
  refine ⟨0, ?_⟩
  rw [f76_start]
  rfl


/-! laws.toWantS -/
abbrev C44 : FuncId → Option Sig := tabC [(76, toSig s3 s3)]
theorem hC44 : ∀ g sg, C44 g = some sg → ConOk Tryz.prog g sg := (tabC_cons con76 tabC_nil)
abbrev keep44 : Nat → List Nat | 0 => [0, 3, 4] | _ => []
def S44_0 (x0 : Dat) (x4 : Int) (l0 : (List Dat)) : St := ⟨[.ro s3 x0, .u, .u, .hd 0, .int .i64 x4] ++ us 18, [.arr s3 l0]⟩
theorem f44_round0 (K n : Nat) (x0 : Dat) (x4 : Int) (l0 : (List Dat)) :
    loopE T C44 K keep44 Tryz.f44 0 0 (behind T C44 K keep44 Tryz.f44 [(.sl s3)] 0) (n + 1) (S44_0 x0 x4 l0) =
      (bif decide (x4 < (x0.len : Int)) then (bif (decide (0 ≤ x4) && decide (x4 < (x0.len : Int))) then (bif fit 1048576 s3 (x0.fld x4.toNat) then (bif (decide (0 ≤ x4) && decide (x4 < (l0.length : Int))) then loopE T C44 K keep44 Tryz.f44 0 0 (behind T C44 K keep44 Tryz.f44 [(.sl s3)] 0) n (S44_0 x0 (IntKind.i64.wrap (x4 + (1 : Int))) (l0.set x4.toNat (can s3 (x0.fld x4.toNat)))) else none) else none) else none) else some [(Dat.n l0)]) := by kernel_rfl
theorem f44_start (K : Nat) (a : Dat) : evBody T C44 noL K keep44 Tryz.f44 [(.sl s3)] [(.sl s3)] [a] =
      (bif (decide (0 ≤ (a.len : Int)) && (decide ((a.len : Int) ≤ 4294967296) && decide ((a.len : Int) = (a.len : Int)))) then loopE T C44 K keep44 Tryz.f44 0 0 (behind T C44 K keep44 Tryz.f44 [(.sl s3)] 0) K (S44_0 a (0 : Int) (List.replicate (a.len : Int).toNat (zeroD s3))) else none) := by kernel_rfl
theorem con44 : ConOk Tryz.prog 44 (toSig (.sl s3) (.sl s3)) := con hM hD hT hC44 keep44 Tryz.func44 (by kernel_rfl) (by kernel_rfl) fun ds hl hp => by
  obtain ⟨a, rfl⟩ := ds_one hl
  replace hp : fit 1048576 (.sl s3) a = true := hp
  obtain ⟨hn, he⟩ := fit_sl hp
  refine ⟨a.len + 1, ?_⟩
  have c1 : (decide (0 ≤ (a.len : Int)) && (decide ((a.len : Int) ≤ 4294967296) && decide ((a.len : Int) = (a.len : Int)))) = true := by simp; omega
  rw [f44_start, c1, cond_true, Int.toNat_natCast]
  refine (fill_loop (E := fun n j l => loopE T C44 (a.len + 1) keep44 Tryz.f44 0 0 (behind T C44 (a.len + 1) keep44 Tryz.f44 [(.sl s3)] 0) n (S44_0 a (j : Int) l)) (N := a.len) (g := fun j => can s3 (a.fld j)) (fin := fun l => some [Dat.n l]) (zeroD s3) (fun n j l hj hlen => ?_) (fun n l _ => ?_)).trans ?_
  · have f1 := he j hj
    have hj2 : j < l.length := by omega
    show loopE T C44 (a.len + 1) keep44 Tryz.f44 0 0 (behind T C44 (a.len + 1) keep44 Tryz.f44 [(.sl s3)] 0) (n + 1) (S44_0 a (j : Int) l) = _
    rw [f44_round0]
    simp only [dlt hj, dge, dlt hj2, Int.toNat_natCast, f1, Bool.and_self, cond_true, wrap_succ hj (by unfold M; omega)]
    try rfl
  · show loopE T C44 (a.len + 1) keep44 Tryz.f44 0 0 (behind T C44 (a.len + 1) keep44 Tryz.f44 [(.sl s3)] 0) (n + 1) (S44_0 a (a.len : Int) l) = _
    rw [f44_round0, dnlt (Nat.lt_irrefl _)]; rfl
  · show _ = some [can (.sl s3) a]
    rw [kids_can]


/-! laws.toIntS -/
abbrev C17 : FuncId → Option Sig := tabC []
theorem hC17 : ∀ g sg, C17 g = some sg → ConOk Tryz.prog g sg := tabC_nil
abbrev keep17 : Nat → List Nat | 0 => [0, 3, 4] | _ => []
def S17_0 (x0 : Dat) (x4 : Int) (l0 : (List Dat)) : St := ⟨[.ro tInt x0, .u, .u, .hd 0, .int .i64 x4] ++ us 17, [.arr tInt l0]⟩
theorem f17_round0 (K n : Nat) (x0 : Dat) (x4 : Int) (l0 : (List Dat)) :
    loopE T C17 K keep17 Tryz.f17 0 0 (behind T C17 K keep17 Tryz.f17 [(.sl tInt)] 0) (n + 1) (S17_0 x0 x4 l0) =
      (bif decide (x4 < (x0.len : Int)) then (bif (decide (0 ≤ x4) && decide (x4 < (x0.len : Int))) then (bif (decide (0 ≤ x4) && decide (x4 < (l0.length : Int))) then loopE T C17 K keep17 Tryz.f17 0 0 (behind T C17 K keep17 Tryz.f17 [(.sl tInt)] 0) n (S17_0 x0 (IntKind.i64.wrap (x4 + (1 : Int))) (l0.set x4.toNat (Dat.i ((x0.fld x4.toNat).int)))) else none) else none) else some [(Dat.n l0)]) := by kernel_rfl
theorem f17_start (K : Nat) (a : Dat) : evBody T C17 noL K keep17 Tryz.f17 [(.sl tInt)] [(.sl tInt)] [a] =
      (bif (decide (0 ≤ (a.len : Int)) && (decide ((a.len : Int) ≤ 4294967296) && decide ((a.len : Int) = (a.len : Int)))) then loopE T C17 K keep17 Tryz.f17 0 0 (behind T C17 K keep17 Tryz.f17 [(.sl tInt)] 0) K (S17_0 a (0 : Int) (List.replicate (a.len : Int).toNat (zeroD tInt))) else none) := by kernel_rfl
theorem con17 : ConOk Tryz.prog 17 (toSig (.sl tInt) (.sl tInt)) := con hM hD hT hC17 keep17 Tryz.func17 (by kernel_rfl) (by kernel_rfl) fun ds hl hp => by
  obtain ⟨a, rfl⟩ := ds_one hl
  replace hp : fit 1048576 (.sl tInt) a = true := hp
  obtain ⟨hn, he⟩ := fit_sl hp
  refine ⟨a.len + 1, ?_⟩
  have c1 : (decide (0 ≤ (a.len : Int)) && (decide ((a.len : Int) ≤ 4294967296) && decide ((a.len : Int) = (a.len : Int)))) = true := by simp; omega
  rw [f17_start, c1, cond_true, Int.toNat_natCast]
  refine (fill_loop (E := fun n j l => loopE T C17 (a.len + 1) keep17 Tryz.f17 0 0 (behind T C17 (a.len + 1) keep17 Tryz.f17 [(.sl tInt)] 0) n (S17_0 a (j : Int) l)) (N := a.len) (g := fun j => can tInt (a.fld j)) (fin := fun l => some [Dat.n l]) (zeroD tInt) (fun n j l hj hlen => ?_) (fun n l _ => ?_)).trans ?_
  · have hj2 : j < l.length := by omega
    show loopE T C17 (a.len + 1) keep17 Tryz.f17 0 0 (behind T C17 (a.len + 1) keep17 Tryz.f17 [(.sl tInt)] 0) (n + 1) (S17_0 a (j : Int) l) = _
    rw [f17_round0]
    simp only [dlt hj, dge, dlt hj2, Int.toNat_natCast, Bool.and_self, cond_true, wrap_succ hj (by unfold M; omega)]
    try rfl
  · show loopE T C17 (a.len + 1) keep17 Tryz.f17 0 0 (behind T C17 (a.len + 1) keep17 Tryz.f17 [(.sl tInt)] 0) (n + 1) (S17_0 a (a.len : Int) l) = _
    rw [f17_round0, dnlt (Nat.lt_irrefl _)]; rfl
  · show _ = some [can (.sl tInt) a]
    rw [kids_can]


/-! laws.toNote -/
abbrev C78 : FuncId → Option Sig := tabC []
theorem hC78 : ∀ g sg, C78 g = some sg → ConOk Tryz.prog g sg := tabC_nil
abbrev keep78 : Nat → List Nat := fun _ => []
theorem f78_start (K : Nat) (a : Dat) : evBody T C78 noL K keep78 Tryz.f78 [s3] [s3] [a] =
      some [(Dat.n [(Dat.i ((a.fld 0).int)), (Dat.i ((a.fld 1).int))])] := by kernel_rfl
theorem con78 : ConOk Tryz.prog 78 (toSig s3 s3) := con hM hD hT hC78 keep78 Tryz.func78 (by kernel_rfl) (by kernel_rfl) fun ds hl hp => by
  obtain ⟨a, rfl⟩ := ds_one hl
  replace hp : fit 1048576 s3 a = true := hp
  refine ⟨0, ?_⟩
  rw [f78_start]
  rfl


/-! laws.toNoteS -/
abbrev C46 : FuncId → Option Sig := tabC [(78, toSig s3 s3)]
theorem hC46 : ∀ g sg, C46 g = some sg → ConOk Tryz.prog g sg := (tabC_cons con78 tabC_nil)
abbrev keep46 : Nat → List Nat | 0 => [0, 3, 4] | _ => []
def S46_0 (x0 : Dat) (x4 : Int) (l0 : (List Dat)) : St := ⟨[.ro s3 x0, .u, .u, .hd 0, .int .i64 x4] ++ us 18, [.arr s3 l0]⟩
theorem f46_round0 (K n : Nat) (x0 : Dat) (x4 : Int) (l0 : (List Dat)) :
    loopE T C46 K keep46 Tryz.f46 0 0 (behind T C46 K keep46 Tryz.f46 [(.sl s3)] 0) (n + 1) (S46_0 x0 x4 l0) =
      (bif decide (x4 < (x0.len : Int)) then (bif (decide (0 ≤ x4) && decide (x4 < (x0.len : Int))) then (bif fit 1048576 s3 (x0.fld x4.toNat) then (bif (decide (0 ≤ x4) && decide (x4 < (l0.length : Int))) then loopE T C46 K keep46 Tryz.f46 0 0 (behind T C46 K keep46 Tryz.f46 [(.sl s3)] 0) n (S46_0 x0 (IntKind.i64.wrap (x4 + (1 : Int))) (l0.set x4.toNat (can s3 (x0.fld x4.toNat)))) else none) else none) else none) else some [(Dat.n l0)]) := by kernel_rfl
theorem f46_start (K : Nat) (a : Dat) : evBody T C46 noL K keep46 Tryz.f46 [(.sl s3)] [(.sl s3)] [a] =
      (bif (decide (0 ≤ (a.len : Int)) && (decide ((a.len : Int) ≤ 4294967296) && decide ((a.len : Int) = (a.len : Int)))) then loopE T C46 K keep46 Tryz.f46 0 0 (behind T C46 K keep46 Tryz.f46 [(.sl s3)] 0) K (S46_0 a (0 : Int) (List.replicate (a.len : Int).toNat (zeroD s3))) else none) := by kernel_rfl
theorem con46 : ConOk Tryz.prog 46 (toSig (.sl s3) (.sl s3)) := con hM hD hT hC46 keep46 Tryz.func46 (by kernel_rfl) (by kernel_rfl) fun ds hl hp => by
  obtain ⟨a, rfl⟩ := ds_one hl
  replace hp : fit 1048576 (.sl s3) a = true := hp
  obtain ⟨hn, he⟩ := fit_sl hp
  refine ⟨a.len + 1, ?_⟩
  have c1 : (decide (0 ≤ (a.len : Int)) && (decide ((a.len : Int) ≤ 4294967296) && decide ((a.len : Int) = (a.len : Int)))) = true := by simp; omega
  rw [f46_start, c1, cond_true, Int.toNat_natCast]
  refine (fill_loop (E := fun n j l => loopE T C46 (a.len + 1) keep46 Tryz.f46 0 0 (behind T C46 (a.len + 1) keep46 Tryz.f46 [(.sl s3)] 0) n (S46_0 a (j : Int) l)) (N := a.len) (g := fun j => can s3 (a.fld j)) (fin := fun l => some [Dat.n l]) (zeroD s3) (fun n j l hj hlen => ?_) (fun n l _ => ?_)).trans ?_
  · have f1 := he j hj
    have hj2 : j < l.length := by omega
    show loopE T C46 (a.len + 1) keep46 Tryz.f46 0 0 (behind T C46 (a.len + 1) keep46 Tryz.f46 [(.sl s3)] 0) (n + 1) (S46_0 a (j : Int) l) = _
    rw [f46_round0]
    simp only [dlt hj, dge, dlt hj2, Int.toNat_natCast, f1, Bool.and_self, cond_true, wrap_succ hj (by unfold M; omega)]
    try rfl
  · show loopE T C46 (a.len + 1) keep46 Tryz.f46 0 0 (behind T C46 (a.len + 1) keep46 Tryz.f46 [(.sl s3)] 0) (n + 1) (S46_0 a (a.len : Int) l) = _
    rw [f46_round0, dnlt (Nat.lt_irrefl _)]; rfl
  · show _ = some [can (.sl s3) a]
    rw [kids_can]


/-! laws.toToken -/
abbrev C77 : FuncId → Option Sig := tabC [(17, toSig (.sl tInt) (.sl tInt)), (46, toSig (.sl s3) (.sl s3))]
theorem hC77 : ∀ g sg, C77 g = some sg → ConOk Tryz.prog g sg := (tabC_cons con17 (tabC_cons con46 tabC_nil))
abbrev keep77 : Nat → List Nat := fun _ => []
theorem f77_start (K : Nat) (a : Dat) : evBody T C77 noL K keep77 Tryz.f77 [s10] [s10] [a] =
      (bif fit 1048576 (.sl tInt) (a.fld 2) then (bif fit 1048576 (.sl s3) (a.fld 3) then some [(Dat.n [(Dat.i ((a.fld 0).int)), (Dat.i ((a.fld 1).int)), (Dat.n ((can (.sl tInt) (a.fld 2)).kids)), (Dat.n ((can (.sl s3) (a.fld 3)).kids))])] else none) else none) := by kernel_rfl
theorem con77 : ConOk Tryz.prog 77 (toSig s10 s10) := con hM hD hT hC77 keep77 Tryz.func77 (by kernel_rfl) (by kernel_rfl) fun ds hl hp => by
  obtain ⟨a, rfl⟩ := ds_one hl
  replace hp : fit 1048576 s10 a = true := hp
  refine ⟨0, ?_⟩
  have h2 : fit 1048576 (.sl tInt) (a.fld 2) = true := fit_fld hp 2 rfl
  have h3 : fit 1048576 (.sl s3) (a.fld 3) = true := fit_fld hp 3 rfl
  rw [f77_start]
  simp only [h2, h3, cond_true]
  rfl


/-! laws.toTokenS -/
abbrev C45 : FuncId → Option Sig := tabC [(77, toSig s10 s10)]
theorem hC45 : ∀ g sg, C45 g = some sg → ConOk Tryz.prog g sg := (tabC_cons con77 tabC_nil)
abbrev keep45 : Nat → List Nat | 0 => [0, 3, 4] | _ => []
def S45_0 (x0 : Dat) (x4 : Int) (l0 : (List Dat)) : St := ⟨[.ro s10 x0, .u, .u, .hd 0, .int .i64 x4] ++ us 18, [.arr s10 l0]⟩
theorem f45_round0 (K n : Nat) (x0 : Dat) (x4 : Int) (l0 : (List Dat)) :
    loopE T C45 K keep45 Tryz.f45 0 0 (behind T C45 K keep45 Tryz.f45 [(.sl s10)] 0) (n + 1) (S45_0 x0 x4 l0) =
      (bif decide (x4 < (x0.len : Int)) then (bif (decide (0 ≤ x4) && decide (x4 < (x0.len : Int))) then (bif fit 1048576 s10 (x0.fld x4.toNat) then (bif (decide (0 ≤ x4) && decide (x4 < (l0.length : Int))) then loopE T C45 K keep45 Tryz.f45 0 0 (behind T C45 K keep45 Tryz.f45 [(.sl s10)] 0) n (S45_0 x0 (IntKind.i64.wrap (x4 + (1 : Int))) (l0.set x4.toNat (can s10 (x0.fld x4.toNat)))) else none) else none) else none) else some [(Dat.n l0)]) := by kernel_rfl
theorem f45_start (K : Nat) (a : Dat) : evBody T C45 noL K keep45 Tryz.f45 [(.sl s10)] [(.sl s10)] [a] =
      (bif (decide (0 ≤ (a.len : Int)) && (decide ((a.len : Int) ≤ 4294967296) && decide ((a.len : Int) = (a.len : Int)))) then loopE T C45 K keep45 Tryz.f45 0 0 (behind T C45 K keep45 Tryz.f45 [(.sl s10)] 0) K (S45_0 a (0 : Int) (List.replicate (a.len : Int).toNat (zeroD s10))) else none) := by kernel_rfl
theorem con45 : ConOk Tryz.prog 45 (toSig (.sl s10) (.sl s10)) := con hM hD hT hC45 keep45 Tryz.func45 (by kernel_rfl) (by kernel_rfl) fun ds hl hp => by
  obtain ⟨a, rfl⟩ := ds_one hl
  replace hp : fit 1048576 (.sl s10) a = true := hp
  obtain ⟨hn, he⟩ := fit_sl hp
  refine ⟨a.len + 1, ?_⟩
  have c1 : (decide (0 ≤ (a.len : Int)) && (decide ((a.len : Int) ≤ 4294967296) && decide ((a.len : Int) = (a.len : Int)))) = true := by simp; omega
  rw [f45_start, c1, cond_true, Int.toNat_natCast]
  refine (fill_loop (E := fun n j l => loopE T C45 (a.len + 1) keep45 Tryz.f45 0 0 (behind T C45 (a.len + 1) keep45 Tryz.f45 [(.sl s10)] 0) n (S45_0 a (j : Int) l)) (N := a.len) (g := fun j => can s10 (a.fld j)) (fin := fun l => some [Dat.n l]) (zeroD s10) (fun n j l hj hlen => ?_) (fun n l _ => ?_)).trans ?_
  · have f1 := he j hj
    have hj2 : j < l.length := by omega
    show loopE T C45 (a.len + 1) keep45 Tryz.f45 0 0 (behind T C45 (a.len + 1) keep45 Tryz.f45 [(.sl s10)] 0) (n + 1) (S45_0 a (j : Int) l) = _
    rw [f45_round0]
    simp only [dlt hj, dge, dlt hj2, Int.toNat_natCast, f1, Bool.and_self, cond_true, wrap_succ hj (by unfold M; omega)]
    try rfl
  · show loopE T C45 (a.len + 1) keep45 Tryz.f45 0 0 (behind T C45 (a.len + 1) keep45 Tryz.f45 [(.sl s10)] 0) (n + 1) (S45_0 a (a.len : Int) l) = _
    rw [f45_round0, dnlt (Nat.lt_irrefl _)]; rfl
  · show _ = some [can (.sl s10) a]
    rw [kids_can]


/-! laws.toFrame -/
abbrev C135 : FuncId → Option Sig := tabC [(105, toSig (.sl s7) (.sl s7))]
theorem hC135 : ∀ g sg, C135 g = some sg → ConOk Tryz.prog g sg := (tabC_cons con105 tabC_nil)
abbrev keep135 : Nat → List Nat := fun _ => []
theorem f135_start (K : Nat) (a : Dat) : evBody T C135 noL K keep135 Tryz.f135 [s11] [s11] [a] =
      (bif fit 1048576 (.sl s7) (a.fld 3) then (bif fit 1048576 (.sl s7) (a.fld 4) then some [(Dat.n [(Dat.i ((a.fld 0).int)), (Dat.i ((a.fld 1).int)), (Dat.i ((a.fld 2).int)), (Dat.n ((can (.sl s7) (a.fld 3)).kids)), (Dat.n ((can (.sl s7) (a.fld 4)).kids))])] else none) else none) := by kernel_rfl
theorem con135 : ConOk Tryz.prog 135 (toSig s11 s11) := con hM hD hT hC135 keep135 Tryz.func135 (by kernel_rfl) (by kernel_rfl) fun ds hl hp => by
  obtain ⟨a, rfl⟩ := ds_one hl
  replace hp : fit 1048576 s11 a = true := hp
  refine ⟨0, ?_⟩
  have h3 : fit 1048576 (.sl s7) (a.fld 3) = true := fit_fld hp 3 rfl
  have h4 : fit 1048576 (.sl s7) (a.fld 4) = true := fit_fld hp 4 rfl
  rw [f135_start]
  simp only [h3, h4, cond_true]
  rfl


/-! laws.toFrameS -/
abbrev C123 : FuncId → Option Sig := tabC [(135, toSig s11 s11)]
theorem hC123 : ∀ g sg, C123 g = some sg → ConOk Tryz.prog g sg := (tabC_cons con135 tabC_nil)
abbrev keep123 : Nat → List Nat | 0 => [0, 3, 4] | _ => []
def S123_0 (x0 : Dat) (x4 : Int) (l0 : (List Dat)) : St := ⟨[.ro s11 x0, .u, .u, .hd 0, .int .i64 x4] ++ us 18, [.arr s11 l0]⟩
theorem f123_round0 (K n : Nat) (x0 : Dat) (x4 : Int) (l0 : (List Dat)) :
    loopE T C123 K keep123 Tryz.f123 0 0 (behind T C123 K keep123 Tryz.f123 [(.sl s11)] 0) (n + 1) (S123_0 x0 x4 l0) =
      (bif decide (x4 < (x0.len : Int)) then (bif (decide (0 ≤ x4) && decide (x4 < (x0.len : Int))) then (bif fit 1048576 s11 (x0.fld x4.toNat) then (bif (decide (0 ≤ x4) && decide (x4 < (l0.length : Int))) then loopE T C123 K keep123 Tryz.f123 0 0 (behind T C123 K keep123 Tryz.f123 [(.sl s11)] 0) n (S123_0 x0 (IntKind.i64.wrap (x4 + (1 : Int))) (l0.set x4.toNat (can s11 (x0.fld x4.toNat)))) else none) else none) else none) else some [(Dat.n l0)]) := by kernel_rfl
theorem f123_start (K : Nat) (a : Dat) : evBody T C123 noL K keep123 Tryz.f123 [(.sl s11)] [(.sl s11)] [a] =
      (bif (decide (0 ≤ (a.len : Int)) && (decide ((a.len : Int) ≤ 4294967296) && decide ((a.len : Int) = (a.len : Int)))) then loopE T C123 K keep123 Tryz.f123 0 0 (behind T C123 K keep123 Tryz.f123 [(.sl s11)] 0) K (S123_0 a (0 : Int) (List.replicate (a.len : Int).toNat (zeroD s11))) else none) := by kernel_rfl
theorem con123 : ConOk Tryz.prog 123 (toSig (.sl s11) (.sl s11)) := con hM hD hT hC123 keep123 Tryz.func123 (by kernel_rfl) (by kernel_rfl) fun ds hl hp => by
  obtain ⟨a, rfl⟩ := ds_one hl
  replace hp : fit 1048576 (.sl s11) a = true := hp
  obtain ⟨hn, he⟩ := fit_sl hp
  refine ⟨a.len + 1, ?_⟩
  have c1 : (decide (0 ≤ (a.len : Int)) && (decide ((a.len : Int) ≤ 4294967296) && decide ((a.len : Int) = (a.len : Int)))) = true := by simp; omega
  rw [f123_start, c1, cond_true, Int.toNat_natCast]
  refine (fill_loop (E := fun n j l => loopE T C123 (a.len + 1) keep123 Tryz.f123 0 0 (behind T C123 (a.len + 1) keep123 Tryz.f123 [(.sl s11)] 0) n (S123_0 a (j : Int) l)) (N := a.len) (g := fun j => can s11 (a.fld j)) (fin := fun l => some [Dat.n l]) (zeroD s11) (fun n j l hj hlen => ?_) (fun n l _ => ?_)).trans ?_
  · have f1 := he j hj
    have hj2 : j < l.length := by omega
    show loopE T C123 (a.len + 1) keep123 Tryz.f123 0 0 (behind T C123 (a.len + 1) keep123 Tryz.f123 [(.sl s11)] 0) (n + 1) (S123_0 a (j : Int) l) = _
    rw [f123_round0]
    simp only [dlt hj, dge, dlt hj2, Int.toNat_natCast, f1, Bool.and_self, cond_true, wrap_succ hj (by unfold M; omega)]
    try rfl
  · show loopE T C123 (a.len + 1) keep123 Tryz.f123 0 0 (behind T C123 (a.len + 1) keep123 Tryz.f123 [(.sl s11)] 0) (n + 1) (S123_0 a (a.len : Int) l) = _
    rw [f123_round0, dnlt (Nat.lt_irrefl _)]; rfl
  · show _ = some [can (.sl s11) a]
    rw [kids_can]


/-! laws.toThread -/
abbrev C106 : FuncId → Option Sig := tabC [(123, toSig (.sl s11) (.sl s11))]
theorem hC106 : ∀ g sg, C106 g = some sg → ConOk Tryz.prog g sg := (tabC_cons con123 tabC_nil)
abbrev keep106 : Nat → List Nat := fun _ => []
theorem f106_start (K : Nat) (a : Dat) : evBody T C106 noL K keep106 Tryz.f106 [s12] [s12] [a] =
      (bif fit 1048576 (.sl s11) (a.fld 1) then some [(Dat.n [(Dat.i ((a.fld 0).int)), (Dat.n ((can (.sl s11) (a.fld 1)).kids)), (Dat.i ((a.fld 2).int)), (Dat.i ((a.fld 3).int))])] else none) := by kernel_rfl
theorem con106 : ConOk Tryz.prog 106 (toSig s12 s12) := con hM hD hT hC106 keep106 Tryz.func106 (by kernel_rfl) (by kernel_rfl) fun ds hl hp => by
  obtain ⟨a, rfl⟩ := ds_one hl
  replace hp : fit 1048576 s12 a = true := hp
  refine ⟨0, ?_⟩
  have h1 : fit 1048576 (.sl s11) (a.fld 1) = true := fit_fld hp 1 rfl
  rw [f106_start]
  simp only [h1, cond_true]
  rfl


/-! laws.toLock -/
abbrev C124 : FuncId → Option Sig := tabC []
theorem hC124 : ∀ g sg, C124 g = some sg → ConOk Tryz.prog g sg := tabC_nil
abbrev keep124 : Nat → List Nat := fun _ => []
theorem f124_start (K : Nat) (a : Dat) : evBody T C124 noL K keep124 Tryz.f124 [s13] [s13] [a] =
      some [(Dat.n [(Dat.i ((a.fld 0).int)), (Dat.i ((a.fld 1).int)), (Dat.i ((a.fld 2).int))])] := by kernel_rfl
theorem con124 : ConOk Tryz.prog 124 (toSig s13 s13) := con hM hD hT hC124 keep124 Tryz.func124 (by kernel_rfl) (by kernel_rfl) fun ds hl hp => by
  obtain ⟨a, rfl⟩ := ds_one hl
  replace hp : fit 1048576 s13 a = true := hp
  refine ⟨0, ?_⟩
  rw [f124_start]
  rfl


/-! laws.toLockS -/
abbrev C107 : FuncId → Option Sig := tabC [(124, toSig s13 s13)]
theorem hC107 : ∀ g sg, C107 g = some sg → ConOk Tryz.prog g sg := (tabC_cons con124 tabC_nil)
abbrev keep107 : Nat → List Nat | 0 => [0, 3, 4] | _ => []
def S107_0 (x0 : Dat) (x4 : Int) (l0 : (List Dat)) : St := ⟨[.ro s13 x0, .u, .u, .hd 0, .int .i64 x4] ++ us 18, [.arr s13 l0]⟩
theorem f107_round0 (K n : Nat) (x0 : Dat) (x4 : Int) (l0 : (List Dat)) :
    loopE T C107 K keep107 Tryz.f107 0 0 (behind T C107 K keep107 Tryz.f107 [(.sl s13)] 0) (n + 1) (S107_0 x0 x4 l0) =
      (bif decide (x4 < (x0.len : Int)) then (bif (decide (0 ≤ x4) && decide (x4 < (x0.len : Int))) then (bif fit 1048576 s13 (x0.fld x4.toNat) then (bif (decide (0 ≤ x4) && decide (x4 < (l0.length : Int))) then loopE T C107 K keep107 Tryz.f107 0 0 (behind T C107 K keep107 Tryz.f107 [(.sl s13)] 0) n (S107_0 x0 (IntKind.i64.wrap (x4 + (1 : Int))) (l0.set x4.toNat (can s13 (x0.fld x4.toNat)))) else none) else none) else none) else some [(Dat.n l0)]) := by kernel_rfl
theorem f107_start (K : Nat) (a : Dat) : evBody T C107 noL K keep107 Tryz.f107 [(.sl s13)] [(.sl s13)] [a] =
      (bif (decide (0 ≤ (a.len : Int)) && (decide ((a.len : Int) ≤ 4294967296) && decide ((a.len : Int) = (a.len : Int)))) then loopE T C107 K keep107 Tryz.f107 0 0 (behind T C107 K keep107 Tryz.f107 [(.sl s13)] 0) K (S107_0 a (0 : Int) (List.replicate (a.len : Int).toNat (zeroD s13))) else none) := by kernel_rfl
theorem con107 : ConOk Tryz.prog 107 (toSig (.sl s13) (.sl s13)) := con hM hD hT hC107 keep107 Tryz.func107 (by kernel_rfl) (by kernel_rfl) fun ds hl hp => by
  obtain ⟨a, rfl⟩ := ds_one hl
  replace hp : fit 1048576 (.sl s13) a = true := hp
  obtain ⟨hn, he⟩ := fit_sl hp
  refine ⟨a.len + 1, ?_⟩
  have c1 : (decide (0 ≤ (a.len : Int)) && (decide ((a.len : Int) ≤ 4294967296) && decide ((a.len : Int) = (a.len : Int)))) = true := by simp; omega
  rw [f107_start, c1, cond_true, Int.toNat_natCast]
  refine (fill_loop (E := fun n j l => loopE T C107 (a.len + 1) keep107 Tryz.f107 0 0 (behind T C107 (a.len + 1) keep107 Tryz.f107 [(.sl s13)] 0) n (S107_0 a (j : Int) l)) (N := a.len) (g := fun j => can s13 (a.fld j)) (fin := fun l => some [Dat.n l]) (zeroD s13) (fun n j l hj hlen => ?_) (fun n l _ => ?_)).trans ?_
  · have f1 := he j hj
    have hj2 : j < l.length := by omega
    show loopE T C107 (a.len + 1) keep107 Tryz.f107 0 0 (behind T C107 (a.len + 1) keep107 Tryz.f107 [(.sl s13)] 0) (n + 1) (S107_0 a (j : Int) l) = _
    rw [f107_round0]
    simp only [dlt hj, dge, dlt hj2, Int.toNat_natCast, f1, Bool.and_self, cond_true, wrap_succ hj (by unfold M; omega)]
    try rfl
  · show loopE T C107 (a.len + 1) keep107 Tryz.f107 0 0 (behind T C107 (a.len + 1) keep107 Tryz.f107 [(.sl s13)] 0) (n + 1) (S107_0 a (a.len : Int) l) = _
    rw [f107_round0, dnlt (Nat.lt_irrefl _)]; rfl
  · show _ = some [can (.sl s13) a]
    rw [kids_can]


/-! laws.toTask -/
abbrev C79 : FuncId → Option Sig := tabC [(106, toSig s12 s12), (107, toSig (.sl s13) (.sl s13))]
theorem hC79 : ∀ g sg, C79 g = some sg → ConOk Tryz.prog g sg := (tabC_cons con106 (tabC_cons con107 tabC_nil))
abbrev keep79 : Nat → List Nat := fun _ => []
theorem f79_start (K : Nat) (a : Dat) : evBody T C79 noL K keep79 Tryz.f79 [s14] [s14] [a] =
      (bif fit 1048576 s12 (a.fld 0) then (bif fit 1048576 (.sl s13) (a.fld 3) then some [(Dat.n [(can s12 (a.fld 0)), (Dat.i ((a.fld 1).int)), (Dat.i ((a.fld 2).int)), (Dat.n ((can (.sl s13) (a.fld 3)).kids))])] else none) else none) := by kernel_rfl
theorem con79 : ConOk Tryz.prog 79 (toSig s14 s14) := con hM hD hT hC79 keep79 Tryz.func79 (by kernel_rfl) (by kernel_rfl) fun ds hl hp => by
  obtain ⟨a, rfl⟩ := ds_one hl
  replace hp : fit 1048576 s14 a = true := hp
  refine ⟨0, ?_⟩
  have h0 : fit 1048576 s12 (a.fld 0) = true := fit_fld hp 0 rfl
  have h3 : fit 1048576 (.sl s13) (a.fld 3) = true := fit_fld hp 3 rfl
  rw [f79_start]
  simp only [h0, h3, cond_true]
  rfl


/-! laws.toTaskS -/
abbrev C47 : FuncId → Option Sig := tabC [(79, toSig s14 s14)]
theorem hC47 : ∀ g sg, C47 g = some sg → ConOk Tryz.prog g sg := (tabC_cons con79 tabC_nil)
abbrev keep47 : Nat → List Nat | 0 => [0, 3, 4] | _ => []
def S47_0 (x0 : Dat) (x4 : Int) (l0 : (List Dat)) : St := ⟨[.ro s14 x0, .u, .u, .hd 0, .int .i64 x4] ++ us 18, [.arr s14 l0]⟩
theorem f47_round0 (K n : Nat) (x0 : Dat) (x4 : Int) (l0 : (List Dat)) :
    loopE T C47 K keep47 Tryz.f47 0 0 (behind T C47 K keep47 Tryz.f47 [(.sl s14)] 0) (n + 1) (S47_0 x0 x4 l0) =
      (bif decide (x4 < (x0.len : Int)) then (bif (decide (0 ≤ x4) && decide (x4 < (x0.len : Int))) then (bif fit 1048576 s14 (x0.fld x4.toNat) then (bif (decide (0 ≤ x4) && decide (x4 < (l0.length : Int))) then loopE T C47 K keep47 Tryz.f47 0 0 (behind T C47 K keep47 Tryz.f47 [(.sl s14)] 0) n (S47_0 x0 (IntKind.i64.wrap (x4 + (1 : Int))) (l0.set x4.toNat (Dat.n [(Dat.n [(Dat.i ((((can s14 (x0.fld x4.toNat)).fld 0).fld 0).int)), (Dat.n ((((can s14 (x0.fld x4.toNat)).fld 0).fld 1).kids)), (Dat.i ((((can s14 (x0.fld x4.toNat)).fld 0).fld 2).int)), (Dat.i ((((can s14 (x0.fld x4.toNat)).fld 0).fld 3).int))]), (Dat.i (((can s14 (x0.fld x4.toNat)).fld 1).int)), (Dat.i (((can s14 (x0.fld x4.toNat)).fld 2).int)), (Dat.n (((can s14 (x0.fld x4.toNat)).fld 3).kids))]))) else none) else none) else none) else some [(Dat.n l0)]) := by kernel_rfl
theorem f47_start (K : Nat) (a : Dat) : evBody T C47 noL K keep47 Tryz.f47 [(.sl s14)] [(.sl s14)] [a] =
      (bif (decide (0 ≤ (a.len : Int)) && (decide ((a.len : Int) ≤ 4294967296) && decide ((a.len : Int) = (a.len : Int)))) then loopE T C47 K keep47 Tryz.f47 0 0 (behind T C47 K keep47 Tryz.f47 [(.sl s14)] 0) K (S47_0 a (0 : Int) (List.replicate (a.len : Int).toNat (zeroD s14))) else none) := by kernel_rfl
theorem con47 : ConOk Tryz.prog 47 (toSig (.sl s14) (.sl s14)) := con hM hD hT hC47 keep47 Tryz.func47 (by kernel_rfl) (by kernel_rfl) fun ds hl hp => by
  obtain ⟨a, rfl⟩ := ds_one hl
  replace hp : fit 1048576 (.sl s14) a = true := hp
  obtain ⟨hn, he⟩ := fit_sl hp
  refine ⟨a.len + 1, ?_⟩
  have c1 : (decide (0 ≤ (a.len : Int)) && (decide ((a.len : Int) ≤ 4294967296) && decide ((a.len : Int) = (a.len : Int)))) = true := by simp; omega
  rw [f47_start, c1, cond_true, Int.toNat_natCast]
  refine (fill_loop (E := fun n j l => loopE T C47 (a.len + 1) keep47 Tryz.f47 0 0 (behind T C47 (a.len + 1) keep47 Tryz.f47 [(.sl s14)] 0) n (S47_0 a (j : Int) l)) (N := a.len) (g := fun j => can s14 (a.fld j)) (fin := fun l => some [Dat.n l]) (zeroD s14) (fun n j l hj hlen => ?_) (fun n l _ => ?_)).trans ?_
  · have f1 := he j hj
    have hj2 : j < l.length := by omega
    show loopE T C47 (a.len + 1) keep47 Tryz.f47 0 0 (behind T C47 (a.len + 1) keep47 Tryz.f47 [(.sl s14)] 0) (n + 1) (S47_0 a (j : Int) l) = _
    rw [f47_round0]
    simp only [dlt hj, dge, dlt hj2, Int.toNat_natCast, f1, Bool.and_self, cond_true, wrap_succ hj (by unfold M; omega)]
    try rfl
  · show loopE T C47 (a.len + 1) keep47 Tryz.f47 0 0 (behind T C47 (a.len + 1) keep47 Tryz.f47 [(.sl s14)] 0) (n + 1) (S47_0 a (a.len : Int) l) = _
    rw [f47_round0, dnlt (Nat.lt_irrefl _)]; rfl
  · show _ = some [can (.sl s14) a]
    rw [kids_can]


/-! laws.toEnd -/
abbrev C80 : FuncId → Option Sig := tabC [(46, toSig (.sl s3) (.sl s3)), (17, toSig (.sl tInt) (.sl tInt))]
theorem hC80 : ∀ g sg, C80 g = some sg → ConOk Tryz.prog g sg := (tabC_cons con46 (tabC_cons con17 tabC_nil))
abbrev keep80 : Nat → List Nat := fun _ => []
theorem f80_start (K : Nat) (a : Dat) : evBody T C80 noL K keep80 Tryz.f80 [s15] [s15] [a] =
      (bif fit 1048576 (.sl s3) (a.fld 1) then (bif fit 1048576 (.sl tInt) (a.fld 2) then some [(Dat.n [(Dat.i ((a.fld 0).int)), (Dat.n ((can (.sl s3) (a.fld 1)).kids)), (Dat.n ((can (.sl tInt) (a.fld 2)).kids))])] else none) else none) := by kernel_rfl
theorem con80 : ConOk Tryz.prog 80 (toSig s15 s15) := con hM hD hT hC80 keep80 Tryz.func80 (by kernel_rfl) (by kernel_rfl) fun ds hl hp => by
  obtain ⟨a, rfl⟩ := ds_one hl
  replace hp : fit 1048576 s15 a = true := hp
  refine ⟨0, ?_⟩
  have h1 : fit 1048576 (.sl s3) (a.fld 1) = true := fit_fld hp 1 rfl
  have h2 : fit 1048576 (.sl tInt) (a.fld 2) = true := fit_fld hp 2 rfl
  rw [f80_start]
  simp only [h1, h2, cond_true]
  rfl


/-! laws.toEndS -/
abbrev C48 : FuncId → Option Sig := tabC [(80, toSig s15 s15)]
theorem hC48 : ∀ g sg, C48 g = some sg → ConOk Tryz.prog g sg := (tabC_cons con80 tabC_nil)
abbrev keep48 : Nat → List Nat | 0 => [0, 3, 4] | _ => []
def S48_0 (x0 : Dat) (x4 : Int) (l0 : (List Dat)) : St := ⟨[.ro s15 x0, .u, .u, .hd 0, .int .i64 x4] ++ us 18, [.arr s15 l0]⟩
theorem f48_round0 (K n : Nat) (x0 : Dat) (x4 : Int) (l0 : (List Dat)) :
    loopE T C48 K keep48 Tryz.f48 0 0 (behind T C48 K keep48 Tryz.f48 [(.sl s15)] 0) (n + 1) (S48_0 x0 x4 l0) =
      (bif decide (x4 < (x0.len : Int)) then (bif (decide (0 ≤ x4) && decide (x4 < (x0.len : Int))) then (bif fit 1048576 s15 (x0.fld x4.toNat) then (bif (decide (0 ≤ x4) && decide (x4 < (l0.length : Int))) then loopE T C48 K keep48 Tryz.f48 0 0 (behind T C48 K keep48 Tryz.f48 [(.sl s15)] 0) n (S48_0 x0 (IntKind.i64.wrap (x4 + (1 : Int))) (l0.set x4.toNat (can s15 (x0.fld x4.toNat)))) else none) else none) else none) else some [(Dat.n l0)]) := by kernel_rfl
theorem f48_start (K : Nat) (a : Dat) : evBody T C48 noL K keep48 Tryz.f48 [(.sl s15)] [(.sl s15)] [a] =
      (bif (decide (0 ≤ (a.len : Int)) && (decide ((a.len : Int) ≤ 4294967296) && decide ((a.len : Int) = (a.len : Int)))) then loopE T C48 K keep48 Tryz.f48 0 0 (behind T C48 K keep48 Tryz.f48 [(.sl s15)] 0) K (S48_0 a (0 : Int) (List.replicate (a.len : Int).toNat (zeroD s15))) else none) := by kernel_rfl
theorem con48 : ConOk Tryz.prog 48 (toSig (.sl s15) (.sl s15)) := con hM hD hT hC48 keep48 Tryz.func48 (by kernel_rfl) (by kernel_rfl) fun ds hl hp => by
  obtain ⟨a, rfl⟩ := ds_one hl
  replace hp : fit 1048576 (.sl s15) a = true := hp
  obtain ⟨hn, he⟩ := fit_sl hp
  refine ⟨a.len + 1, ?_⟩
  have c1 : (decide (0 ≤ (a.len : Int)) && (decide ((a.len : Int) ≤ 4294967296) && decide ((a.len : Int) = (a.len : Int)))) = true := by simp; omega
  rw [f48_start, c1, cond_true, Int.toNat_natCast]
  refine (fill_loop (E := fun n j l => loopE T C48 (a.len + 1) keep48 Tryz.f48 0 0 (behind T C48 (a.len + 1) keep48 Tryz.f48 [(.sl s15)] 0) n (S48_0 a (j : Int) l)) (N := a.len) (g := fun j => can s15 (a.fld j)) (fin := fun l => some [Dat.n l]) (zeroD s15) (fun n j l hj hlen => ?_) (fun n l _ => ?_)).trans ?_
  · have f1 := he j hj
    have hj2 : j < l.length := by omega
    show loopE T C48 (a.len + 1) keep48 Tryz.f48 0 0 (behind T C48 (a.len + 1) keep48 Tryz.f48 [(.sl s15)] 0) (n + 1) (S48_0 a (j : Int) l) = _
    rw [f48_round0]
    simp only [dlt hj, dge, dlt hj2, Int.toNat_natCast, f1, Bool.and_self, cond_true, wrap_succ hj (by unfold M; omega)]
    try rfl
  · show loopE T C48 (a.len + 1) keep48 Tryz.f48 0 0 (behind T C48 (a.len + 1) keep48 Tryz.f48 [(.sl s15)] 0) (n + 1) (S48_0 a (a.len : Int) l) = _
    rw [f48_round0, dnlt (Nat.lt_irrefl _)]; rfl
  · show _ = some [can (.sl s15) a]
    rw [kids_can]


/-! laws.toCell -/
abbrev C143 : FuncId → Option Sig := tabC [(122, toSig s7 s7)]
theorem hC143 : ∀ g sg, C143 g = some sg → ConOk Tryz.prog g sg := (tabC_cons con122 tabC_nil)
abbrev keep143 : Nat → List Nat := fun _ => []
theorem f143_start (K : Nat) (a : Dat) : evBody T C143 noL K keep143 Tryz.f143 [s16] [s16] [a] =
      (bif fit 1048576 s7 (a.fld 1) then some [(Dat.n [(Dat.i ((a.fld 0).int)), (can s7 (a.fld 1))])] else none) := by kernel_rfl
theorem con143 : ConOk Tryz.prog 143 (toSig s16 s16) := con hM hD hT hC143 keep143 Tryz.func143 (by kernel_rfl) (by kernel_rfl) fun ds hl hp => by
  obtain ⟨a, rfl⟩ := ds_one hl
  replace hp : fit 1048576 s16 a = true := hp
  refine ⟨0, ?_⟩
  have h1 : fit 1048576 s7 (a.fld 1) = true := fit_fld hp 1 rfl
  rw [f143_start]
  simp only [h1, cond_true]
  rfl


/-! laws.toCellS -/
abbrev C141 : FuncId → Option Sig := tabC [(143, toSig s16 s16)]
theorem hC141 : ∀ g sg, C141 g = some sg → ConOk Tryz.prog g sg := (tabC_cons con143 tabC_nil)
abbrev keep141 : Nat → List Nat | 0 => [0, 3, 4] | _ => []
def S141_0 (x0 : Dat) (x4 : Int) (l0 : (List Dat)) : St := ⟨[.ro s16 x0, .u, .u, .hd 0, .int .i64 x4] ++ us 18, [.arr s16 l0]⟩
theorem f141_round0 (K n : Nat) (x0 : Dat) (x4 : Int) (l0 : (List Dat)) :
    loopE T C141 K keep141 Tryz.f141 0 0 (behind T C141 K keep141 Tryz.f141 [(.sl s16)] 0) (n + 1) (S141_0 x0 x4 l0) =
      (bif decide (x4 < (x0.len : Int)) then (bif (decide (0 ≤ x4) && decide (x4 < (x0.len : Int))) then (bif fit 1048576 s16 (x0.fld x4.toNat) then (bif (decide (0 ≤ x4) && decide (x4 < (l0.length : Int))) then loopE T C141 K keep141 Tryz.f141 0 0 (behind T C141 K keep141 Tryz.f141 [(.sl s16)] 0) n (S141_0 x0 (IntKind.i64.wrap (x4 + (1 : Int))) (l0.set x4.toNat (Dat.n [(Dat.i (((can s16 (x0.fld x4.toNat)).fld 0).int)), (Dat.n [(Dat.b ((((can s16 (x0.fld x4.toNat)).fld 1).fld 0).bool)), (Dat.i ((((can s16 (x0.fld x4.toNat)).fld 1).fld 1).int))])]))) else none) else none) else none) else some [(Dat.n l0)]) := by kernel_rfl
theorem f141_start (K : Nat) (a : Dat) : evBody T C141 noL K keep141 Tryz.f141 [(.sl s16)] [(.sl s16)] [a] =
      (bif (decide (0 ≤ (a.len : Int)) && (decide ((a.len : Int) ≤ 4294967296) && decide ((a.len : Int) = (a.len : Int)))) then loopE T C141 K keep141 Tryz.f141 0 0 (behind T C141 K keep141 Tryz.f141 [(.sl s16)] 0) K (S141_0 a (0 : Int) (List.replicate (a.len : Int).toNat (zeroD s16))) else none) := by kernel_rfl
theorem con141 : ConOk Tryz.prog 141 (toSig (.sl s16) (.sl s16)) := con hM hD hT hC141 keep141 Tryz.func141 (by kernel_rfl) (by kernel_rfl) fun ds hl hp => by
  obtain ⟨a, rfl⟩ := ds_one hl
  replace hp : fit 1048576 (.sl s16) a = true := hp
  obtain ⟨hn, he⟩ := fit_sl hp
  refine ⟨a.len + 1, ?_⟩
  have c1 : (decide (0 ≤ (a.len : Int)) && (decide ((a.len : Int) ≤ 4294967296) && decide ((a.len : Int) = (a.len : Int)))) = true := by simp; omega
  rw [f141_start, c1, cond_true, Int.toNat_natCast]
  refine (fill_loop (E := fun n j l => loopE T C141 (a.len + 1) keep141 Tryz.f141 0 0 (behind T C141 (a.len + 1) keep141 Tryz.f141 [(.sl s16)] 0) n (S141_0 a (j : Int) l)) (N := a.len) (g := fun j => can s16 (a.fld j)) (fin := fun l => some [Dat.n l]) (zeroD s16) (fun n j l hj hlen => ?_) (fun n l _ => ?_)).trans ?_
  · have f1 := he j hj
    have hj2 : j < l.length := by omega
    show loopE T C141 (a.len + 1) keep141 Tryz.f141 0 0 (behind T C141 (a.len + 1) keep141 Tryz.f141 [(.sl s16)] 0) (n + 1) (S141_0 a (j : Int) l) = _
    rw [f141_round0]
    simp only [dlt hj, dge, dlt hj2, Int.toNat_natCast, f1, Bool.and_self, cond_true, wrap_succ hj (by unfold M; omega)]
    try rfl
  · show loopE T C141 (a.len + 1) keep141 Tryz.f141 0 0 (behind T C141 (a.len + 1) keep141 Tryz.f141 [(.sl s16)] 0) (n + 1) (S141_0 a (a.len : Int) l) = _
    rw [f141_round0, dnlt (Nat.lt_irrefl _)]; rfl
  · show _ = some [can (.sl s16) a]
    rw [kids_can]


/-! laws.toMsg -/
abbrev C136 : FuncId → Option Sig := tabC [(141, toSig (.sl s16) (.sl s16)), (46, toSig (.sl s3) (.sl s3))]
theorem hC136 : ∀ g sg, C136 g = some sg → ConOk Tryz.prog g sg := (tabC_cons con141 (tabC_cons con46 tabC_nil))
abbrev keep136 : Nat → List Nat := fun _ => []
theorem f136_start (K : Nat) (a : Dat) : evBody T C136 noL K keep136 Tryz.f136 [s17] [s17] [a] =
      (bif fit 1048576 (.sl s16) (a.fld 5) then (bif fit 1048576 (.sl s3) (a.fld 6) then some [(Dat.n [(Dat.i ((a.fld 0).int)), (Dat.i ((a.fld 1).int)), (Dat.i ((a.fld 2).int)), (Dat.i ((a.fld 3).int)), (Dat.i ((a.fld 4).int)), (Dat.n ((can (.sl s16) (a.fld 5)).kids)), (Dat.n ((can (.sl s3) (a.fld 6)).kids))])] else none) else none) := by kernel_rfl
theorem con136 : ConOk Tryz.prog 136 (toSig s17 s17) := con hM hD hT hC136 keep136 Tryz.func136 (by kernel_rfl) (by kernel_rfl) fun ds hl hp => by
  obtain ⟨a, rfl⟩ := ds_one hl
  replace hp : fit 1048576 s17 a = true := hp
  refine ⟨0, ?_⟩
  have h5 : fit 1048576 (.sl s16) (a.fld 5) = true := fit_fld hp 5 rfl
  have h6 : fit 1048576 (.sl s3) (a.fld 6) = true := fit_fld hp 6 rfl
  rw [f136_start]
  simp only [h5, h6, cond_true]
  rfl


/-! laws.toMsgS -/
abbrev C125 : FuncId → Option Sig := tabC [(136, toSig s17 s17)]
theorem hC125 : ∀ g sg, C125 g = some sg → ConOk Tryz.prog g sg := (tabC_cons con136 tabC_nil)
abbrev keep125 : Nat → List Nat | 0 => [0, 3, 4] | _ => []
def S125_0 (x0 : Dat) (x4 : Int) (l0 : (List Dat)) : St := ⟨[.ro s17 x0, .u, .u, .hd 0, .int .i64 x4] ++ us 18, [.arr s17 l0]⟩
theorem f125_round0 (K n : Nat) (x0 : Dat) (x4 : Int) (l0 : (List Dat)) :
    loopE T C125 K keep125 Tryz.f125 0 0 (behind T C125 K keep125 Tryz.f125 [(.sl s17)] 0) (n + 1) (S125_0 x0 x4 l0) =
      (bif decide (x4 < (x0.len : Int)) then (bif (decide (0 ≤ x4) && decide (x4 < (x0.len : Int))) then (bif fit 1048576 s17 (x0.fld x4.toNat) then (bif (decide (0 ≤ x4) && decide (x4 < (l0.length : Int))) then loopE T C125 K keep125 Tryz.f125 0 0 (behind T C125 K keep125 Tryz.f125 [(.sl s17)] 0) n (S125_0 x0 (IntKind.i64.wrap (x4 + (1 : Int))) (l0.set x4.toNat (can s17 (x0.fld x4.toNat)))) else none) else none) else none) else some [(Dat.n l0)]) := by kernel_rfl
theorem f125_start (K : Nat) (a : Dat) : evBody T C125 noL K keep125 Tryz.f125 [(.sl s17)] [(.sl s17)] [a] =
      (bif (decide (0 ≤ (a.len : Int)) && (decide ((a.len : Int) ≤ 4294967296) && decide ((a.len : Int) = (a.len : Int)))) then loopE T C125 K keep125 Tryz.f125 0 0 (behind T C125 K keep125 Tryz.f125 [(.sl s17)] 0) K (S125_0 a (0 : Int) (List.replicate (a.len : Int).toNat (zeroD s17))) else none) := by kernel_rfl
theorem con125 : ConOk Tryz.prog 125 (toSig (.sl s17) (.sl s17)) := con hM hD hT hC125 keep125 Tryz.func125 (by kernel_rfl) (by kernel_rfl) fun ds hl hp => by
  obtain ⟨a, rfl⟩ := ds_one hl
  replace hp : fit 1048576 (.sl s17) a = true := hp
  obtain ⟨hn, he⟩ := fit_sl hp
  refine ⟨a.len + 1, ?_⟩
  have c1 : (decide (0 ≤ (a.len : Int)) && (decide ((a.len : Int) ≤ 4294967296) && decide ((a.len : Int) = (a.len : Int)))) = true := by simp; omega
  rw [f125_start, c1, cond_true, Int.toNat_natCast]
  refine (fill_loop (E := fun n j l => loopE T C125 (a.len + 1) keep125 Tryz.f125 0 0 (behind T C125 (a.len + 1) keep125 Tryz.f125 [(.sl s17)] 0) n (S125_0 a (j : Int) l)) (N := a.len) (g := fun j => can s17 (a.fld j)) (fin := fun l => some [Dat.n l]) (zeroD s17) (fun n j l hj hlen => ?_) (fun n l _ => ?_)).trans ?_
  · have f1 := he j hj
    have hj2 : j < l.length := by omega
    show loopE T C125 (a.len + 1) keep125 Tryz.f125 0 0 (behind T C125 (a.len + 1) keep125 Tryz.f125 [(.sl s17)] 0) (n + 1) (S125_0 a (j : Int) l) = _
    rw [f125_round0]
    simp only [dlt hj, dge, dlt hj2, Int.toNat_natCast, f1, Bool.and_self, cond_true, wrap_succ hj (by unfold M; omega)]
    try rfl
  · show loopE T C125 (a.len + 1) keep125 Tryz.f125 0 0 (behind T C125 (a.len + 1) keep125 Tryz.f125 [(.sl s17)] 0) (n + 1) (S125_0 a (a.len : Int) l) = _
    rw [f125_round0, dnlt (Nat.lt_irrefl _)]; rfl
  · show _ = some [can (.sl s17) a]
    rw [kids_can]


/-! laws.toSender -/
abbrev C108 : FuncId → Option Sig := tabC [(125, toSig (.sl s17) (.sl s17))]
theorem hC108 : ∀ g sg, C108 g = some sg → ConOk Tryz.prog g sg := (tabC_cons con125 tabC_nil)
abbrev keep108 : Nat → List Nat := fun _ => []
theorem f108_start (K : Nat) (a : Dat) : evBody T C108 noL K keep108 Tryz.f108 [s18] [s18] [a] =
      (bif fit 1048576 (.sl s17) (a.fld 1) then some [(Dat.n [(Dat.i ((a.fld 0).int)), (Dat.n ((can (.sl s17) (a.fld 1)).kids))])] else none) := by kernel_rfl
theorem con108 : ConOk Tryz.prog 108 (toSig s18 s18) := con hM hD hT hC108 keep108 Tryz.func108 (by kernel_rfl) (by kernel_rfl) fun ds hl hp => by
  obtain ⟨a, rfl⟩ := ds_one hl
  replace hp : fit 1048576 s18 a = true := hp
  refine ⟨0, ?_⟩
  have h1 : fit 1048576 (.sl s17) (a.fld 1) = true := fit_fld hp 1 rfl
  rw [f108_start]
  simp only [h1, cond_true]
  rfl


/-! laws.toLine -/
abbrev C81 : FuncId → Option Sig := tabC [(108, toSig s18 s18)]
theorem hC81 : ∀ g sg, C81 g = some sg → ConOk Tryz.prog g sg := (tabC_cons con108 tabC_nil)
abbrev keep81 : Nat → List Nat := fun _ => []
theorem f81_start (K : Nat) (a : Dat) : evBody T C81 noL K keep81 Tryz.f81 [s19] [s19] [a] =
      (bif fit 1048576 s18 (a.fld 0) then some [(Dat.n [(can s18 (a.fld 0)), (Dat.i ((a.fld 1).int))])] else none) := by kernel_rfl
theorem con81 : ConOk Tryz.prog 81 (toSig s19 s19) := con hM hD hT hC81 keep81 Tryz.func81 (by kernel_rfl) (by kernel_rfl) fun ds hl hp => by
  obtain ⟨a, rfl⟩ := ds_one hl
  replace hp : fit 1048576 s19 a = true := hp
  refine ⟨0, ?_⟩
  have h0 : fit 1048576 s18 (a.fld 0) = true := fit_fld hp 0 rfl
  rw [f81_start]
  simp only [h0, cond_true]
  rfl


/-! laws.toLineS -/
abbrev C49 : FuncId → Option Sig := tabC [(81, toSig s19 s19)]
theorem hC49 : ∀ g sg, C49 g = some sg → ConOk Tryz.prog g sg := (tabC_cons con81 tabC_nil)
abbrev keep49 : Nat → List Nat | 0 => [0, 3, 4] | _ => []
def S49_0 (x0 : Dat) (x4 : Int) (l0 : (List Dat)) : St := ⟨[.ro s19 x0, .u, .u, .hd 0, .int .i64 x4] ++ us 18, [.arr s19 l0]⟩
theorem f49_round0 (K n : Nat) (x0 : Dat) (x4 : Int) (l0 : (List Dat)) :
    loopE T C49 K keep49 Tryz.f49 0 0 (behind T C49 K keep49 Tryz.f49 [(.sl s19)] 0) (n + 1) (S49_0 x0 x4 l0) =
      (bif decide (x4 < (x0.len : Int)) then (bif (decide (0 ≤ x4) && decide (x4 < (x0.len : Int))) then (bif fit 1048576 s19 (x0.fld x4.toNat) then (bif (decide (0 ≤ x4) && decide (x4 < (l0.length : Int))) then loopE T C49 K keep49 Tryz.f49 0 0 (behind T C49 K keep49 Tryz.f49 [(.sl s19)] 0) n (S49_0 x0 (IntKind.i64.wrap (x4 + (1 : Int))) (l0.set x4.toNat (Dat.n [(Dat.n [(Dat.i ((((can s19 (x0.fld x4.toNat)).fld 0).fld 0).int)), (Dat.n ((((can s19 (x0.fld x4.toNat)).fld 0).fld 1).kids))]), (Dat.i (((can s19 (x0.fld x4.toNat)).fld 1).int))]))) else none) else none) else none) else some [(Dat.n l0)]) := by kernel_rfl
theorem f49_start (K : Nat) (a : Dat) : evBody T C49 noL K keep49 Tryz.f49 [(.sl s19)] [(.sl s19)] [a] =
      (bif (decide (0 ≤ (a.len : Int)) && (decide ((a.len : Int) ≤ 4294967296) && decide ((a.len : Int) = (a.len : Int)))) then loopE T C49 K keep49 Tryz.f49 0 0 (behind T C49 K keep49 Tryz.f49 [(.sl s19)] 0) K (S49_0 a (0 : Int) (List.replicate (a.len : Int).toNat (zeroD s19))) else none) := by kernel_rfl
theorem con49 : ConOk Tryz.prog 49 (toSig (.sl s19) (.sl s19)) := con hM hD hT hC49 keep49 Tryz.func49 (by kernel_rfl) (by kernel_rfl) fun ds hl hp => by
  obtain ⟨a, rfl⟩ := ds_one hl
  replace hp : fit 1048576 (.sl s19) a = true := hp
  obtain ⟨hn, he⟩ := fit_sl hp
  refine ⟨a.len + 1, ?_⟩
  have c1 : (decide (0 ≤ (a.len : Int)) && (decide ((a.len : Int) ≤ 4294967296) && decide ((a.len : Int) = (a.len : Int)))) = true := by simp; omega
  rw [f49_start, c1, cond_true, Int.toNat_natCast]
  refine (fill_loop (E := fun n j l => loopE T C49 (a.len + 1) keep49 Tryz.f49 0 0 (behind T C49 (a.len + 1) keep49 Tryz.f49 [(.sl s19)] 0) n (S49_0 a (j : Int) l)) (N := a.len) (g := fun j => can s19 (a.fld j)) (fin := fun l => some [Dat.n l]) (zeroD s19) (fun n j l hj hlen => ?_) (fun n l _ => ?_)).trans ?_
  · have f1 := he j hj
    have hj2 : j < l.length := by omega
    show loopE T C49 (a.len + 1) keep49 Tryz.f49 0 0 (behind T C49 (a.len + 1) keep49 Tryz.f49 [(.sl s19)] 0) (n + 1) (S49_0 a (j : Int) l) = _
    rw [f49_round0]
    simp only [dlt hj, dge, dlt hj2, Int.toNat_natCast, f1, Bool.and_self, cond_true, wrap_succ hj (by unfold M; omega)]
    try rfl
  · show loopE T C49 (a.len + 1) keep49 Tryz.f49 0 0 (behind T C49 (a.len + 1) keep49 Tryz.f49 [(.sl s19)] 0) (n + 1) (S49_0 a (a.len : Int) l) = _
    rw [f49_round0, dnlt (Nat.lt_irrefl _)]; rfl
  · show _ = some [can (.sl s19) a]
    rw [kids_can]


/-! laws.toNode -/
abbrev C26 : FuncId → Option Sig := tabC [(42, toSig (.sl s8) (.sl s8)), (43, toSig (.sl s9) (.sl s9)), (44, toSig (.sl s3) (.sl s3)), (45, toSig (.sl s10) (.sl s10)), (46, toSig (.sl s3) (.sl s3)), (47, toSig (.sl s14) (.sl s14)), (48, toSig (.sl s15) (.sl s15)), (17, toSig (.sl tInt) (.sl tInt)), (49, toSig (.sl s19) (.sl s19))]
theorem hC26 : ∀ g sg, C26 g = some sg → ConOk Tryz.prog g sg := (tabC_cons con42 (tabC_cons con43 (tabC_cons con44 (tabC_cons con45 (tabC_cons con46 (tabC_cons con47 (tabC_cons con48 (tabC_cons con17 (tabC_cons con49 tabC_nil)))))))))
abbrev keep26 : Nat → List Nat := fun _ => []
theorem f26_start (K : Nat) (a : Dat) : evBody T C26 noL K keep26 Tryz.f26 [s20] [s20] [a] =
      (bif fit 1048576 (.sl s8) (a.fld 1) then (bif fit 1048576 (.sl s9) (a.fld 2) then (bif fit 1048576 (.sl s3) (a.fld 3) then (bif fit 1048576 (.sl s10) (a.fld 4) then (bif fit 1048576 (.sl s3) (a.fld 5) then (bif fit 1048576 (.sl s14) (a.fld 6) then (bif fit 1048576 (.sl s15) (a.fld 7) then (bif fit 1048576 (.sl tInt) (a.fld 8) then (bif fit 1048576 (.sl s19) (a.fld 9) then some [(Dat.n [(Dat.i ((a.fld 0).int)), (Dat.n ((can (.sl s8) (a.fld 1)).kids)), (Dat.n ((can (.sl s9) (a.fld 2)).kids)), (Dat.n ((can (.sl s3) (a.fld 3)).kids)), (Dat.n ((can (.sl s10) (a.fld 4)).kids)), (Dat.n ((can (.sl s3) (a.fld 5)).kids)), (Dat.n ((can (.sl s14) (a.fld 6)).kids)), (Dat.n ((can (.sl s15) (a.fld 7)).kids)), (Dat.n ((can (.sl tInt) (a.fld 8)).kids)), (Dat.n ((can (.sl s19) (a.fld 9)).kids))])] else none) else none) else none) else none) else none) else none) else none) else none) else none) := by kernel_rfl
theorem con26 : ConOk Tryz.prog 26 (toSig s20 s20) := con hM hD hT hC26 keep26 Tryz.func26 (by kernel_rfl) (by kernel_rfl) fun ds hl hp => by
  obtain ⟨a, rfl⟩ := ds_one hl
  replace hp : fit 1048576 s20 a = true := hp
  refine ⟨0, ?_⟩
  have h1 : fit 1048576 (.sl s8) (a.fld 1) = true := fit_fld hp 1 rfl
  have h2 : fit 1048576 (.sl s9) (a.fld 2) = true := fit_fld hp 2 rfl
  have h3 : fit 1048576 (.sl s3) (a.fld 3) = true := fit_fld hp 3 rfl
  have h4 : fit 1048576 (.sl s10) (a.fld 4) = true := fit_fld hp 4 rfl
  have h5 : fit 1048576 (.sl s3) (a.fld 5) = true := fit_fld hp 5 rfl
  have h6 : fit 1048576 (.sl s14) (a.fld 6) = true := fit_fld hp 6 rfl
  have h7 : fit 1048576 (.sl s15) (a.fld 7) = true := fit_fld hp 7 rfl
  have h8 : fit 1048576 (.sl tInt) (a.fld 8) = true := fit_fld hp 8 rfl
  have h9 : fit 1048576 (.sl s19) (a.fld 9) = true := fit_fld hp 9 rfl
  rw [f26_start]
  simp only [h1, h2, h3, h4, h5, h6, h7, h8, h9, cond_true]
  rfl


/-! laws.toNodeS -/
abbrev C15 : FuncId → Option Sig := tabC [(26, toSig s20 s20)]
theorem hC15 : ∀ g sg, C15 g = some sg → ConOk Tryz.prog g sg := (tabC_cons con26 tabC_nil)
abbrev keep15 : Nat → List Nat | 0 => [0, 3, 4] | _ => []
def S15_0 (x0 : Dat) (x4 : Int) (l0 : (List Dat)) : St := ⟨[.ro s20 x0, .u, .u, .hd 0, .int .i64 x4] ++ us 18, [.arr s20 l0]⟩
theorem f15_round0 (K n : Nat) (x0 : Dat) (x4 : Int) (l0 : (List Dat)) :
    loopE T C15 K keep15 Tryz.f15 0 0 (behind T C15 K keep15 Tryz.f15 [(.sl s20)] 0) (n + 1) (S15_0 x0 x4 l0) =
      (bif decide (x4 < (x0.len : Int)) then (bif (decide (0 ≤ x4) && decide (x4 < (x0.len : Int))) then (bif fit 1048576 s20 (x0.fld x4.toNat) then (bif (decide (0 ≤ x4) && decide (x4 < (l0.length : Int))) then loopE T C15 K keep15 Tryz.f15 0 0 (behind T C15 K keep15 Tryz.f15 [(.sl s20)] 0) n (S15_0 x0 (IntKind.i64.wrap (x4 + (1 : Int))) (l0.set x4.toNat (can s20 (x0.fld x4.toNat)))) else none) else none) else none) else some [(Dat.n l0)]) := by kernel_rfl
theorem f15_start (K : Nat) (a : Dat) : evBody T C15 noL K keep15 Tryz.f15 [(.sl s20)] [(.sl s20)] [a] =
      (bif (decide (0 ≤ (a.len : Int)) && (decide ((a.len : Int) ≤ 4294967296) && decide ((a.len : Int) = (a.len : Int)))) then loopE T C15 K keep15 Tryz.f15 0 0 (behind T C15 K keep15 Tryz.f15 [(.sl s20)] 0) K (S15_0 a (0 : Int) (List.replicate (a.len : Int).toNat (zeroD s20))) else none) := by kernel_rfl
theorem con15 : ConOk Tryz.prog 15 (toSig (.sl s20) (.sl s20)) := con hM hD hT hC15 keep15 Tryz.func15 (by kernel_rfl) (by kernel_rfl) fun ds hl hp => by
  obtain ⟨a, rfl⟩ := ds_one hl
  replace hp : fit 1048576 (.sl s20) a = true := hp
  obtain ⟨hn, he⟩ := fit_sl hp
  refine ⟨a.len + 1, ?_⟩
  have c1 : (decide (0 ≤ (a.len : Int)) && (decide ((a.len : Int) ≤ 4294967296) && decide ((a.len : Int) = (a.len : Int)))) = true := by simp; omega
  rw [f15_start, c1, cond_true, Int.toNat_natCast]
  refine (fill_loop (E := fun n j l => loopE T C15 (a.len + 1) keep15 Tryz.f15 0 0 (behind T C15 (a.len + 1) keep15 Tryz.f15 [(.sl s20)] 0) n (S15_0 a (j : Int) l)) (N := a.len) (g := fun j => can s20 (a.fld j)) (fin := fun l => some [Dat.n l]) (zeroD s20) (fun n j l hj hlen => ?_) (fun n l _ => ?_)).trans ?_
  · have f1 := he j hj
    have hj2 : j < l.length := by omega
    show loopE T C15 (a.len + 1) keep15 Tryz.f15 0 0 (behind T C15 (a.len + 1) keep15 Tryz.f15 [(.sl s20)] 0) (n + 1) (S15_0 a (j : Int) l) = _
    rw [f15_round0]
    simp only [dlt hj, dge, dlt hj2, Int.toNat_natCast, f1, Bool.and_self, cond_true, wrap_succ hj (by unfold M; omega)]
    try rfl
  · show loopE T C15 (a.len + 1) keep15 Tryz.f15 0 0 (behind T C15 (a.len + 1) keep15 Tryz.f15 [(.sl s20)] 0) (n + 1) (S15_0 a (a.len : Int) l) = _
    rw [f15_round0, dnlt (Nat.lt_irrefl _)]; rfl
  · show _ = some [can (.sl s20) a]
    rw [kids_can]


/-! laws.toByteS -/
abbrev C82 : FuncId → Option Sig := tabC []
theorem hC82 : ∀ g sg, C82 g = some sg → ConOk Tryz.prog g sg := tabC_nil
abbrev keep82 : Nat → List Nat | 0 => [0, 3, 4] | _ => []
def S82_0 (x0 : Dat) (x4 : Int) (l0 : (List Dat)) : St := ⟨[.ro (.int .u8) x0, .u, .u, .hd 0, .int .i64 x4] ++ us 17, [.arr (.int .u8) l0]⟩
theorem f82_round0 (K n : Nat) (x0 : Dat) (x4 : Int) (l0 : (List Dat)) :
    loopE T C82 K keep82 Tryz.f82 0 0 (behind T C82 K keep82 Tryz.f82 [(.sl (.int .u8))] 0) (n + 1) (S82_0 x0 x4 l0) =
      (bif decide (x4 < (x0.len : Int)) then (bif (decide (0 ≤ x4) && decide (x4 < (x0.len : Int))) then (bif (decide (0 ≤ x4) && decide (x4 < (l0.length : Int))) then loopE T C82 K keep82 Tryz.f82 0 0 (behind T C82 K keep82 Tryz.f82 [(.sl (.int .u8))] 0) n (S82_0 x0 (IntKind.i64.wrap (x4 + (1 : Int))) (l0.set x4.toNat (Dat.i ((x0.fld x4.toNat).int)))) else none) else none) else some [(Dat.n l0)]) := by kernel_rfl
theorem f82_start (K : Nat) (a : Dat) : evBody T C82 noL K keep82 Tryz.f82 [(.sl (.int .u8))] [(.sl (.int .u8))] [a] =
      (bif (decide (0 ≤ (a.len : Int)) && (decide ((a.len : Int) ≤ 4294967296) && decide ((a.len : Int) = (a.len : Int)))) then loopE T C82 K keep82 Tryz.f82 0 0 (behind T C82 K keep82 Tryz.f82 [(.sl (.int .u8))] 0) K (S82_0 a (0 : Int) (List.replicate (a.len : Int).toNat (zeroD (.int .u8)))) else none) := by kernel_rfl
theorem con82 : ConOk Tryz.prog 82 (toSig (.sl (.int .u8)) (.sl (.int .u8))) := con hM hD hT hC82 keep82 Tryz.func82 (by kernel_rfl) (by kernel_rfl) fun ds hl hp => by
  obtain ⟨a, rfl⟩ := ds_one hl
  replace hp : fit 1048576 (.sl (.int .u8)) a = true := hp
  obtain ⟨hn, he⟩ := fit_sl hp
  refine ⟨a.len + 1, ?_⟩
  have c1 : (decide (0 ≤ (a.len : Int)) && (decide ((a.len : Int) ≤ 4294967296) && decide ((a.len : Int) = (a.len : Int)))) = true := by simp; omega
  rw [f82_start, c1, cond_true, Int.toNat_natCast]
  refine (fill_loop (E := fun n j l => loopE T C82 (a.len + 1) keep82 Tryz.f82 0 0 (behind T C82 (a.len + 1) keep82 Tryz.f82 [(.sl (.int .u8))] 0) n (S82_0 a (j : Int) l)) (N := a.len) (g := fun j => can (.int .u8) (a.fld j)) (fin := fun l => some [Dat.n l]) (zeroD (.int .u8)) (fun n j l hj hlen => ?_) (fun n l _ => ?_)).trans ?_
  · have hj2 : j < l.length := by omega
    show loopE T C82 (a.len + 1) keep82 Tryz.f82 0 0 (behind T C82 (a.len + 1) keep82 Tryz.f82 [(.sl (.int .u8))] 0) (n + 1) (S82_0 a (j : Int) l) = _
    rw [f82_round0]
    simp only [dlt hj, dge, dlt hj2, Int.toNat_natCast, Bool.and_self, cond_true, wrap_succ hj (by unfold M; omega)]
    try rfl
  · show loopE T C82 (a.len + 1) keep82 Tryz.f82 0 0 (behind T C82 (a.len + 1) keep82 Tryz.f82 [(.sl (.int .u8))] 0) (n + 1) (S82_0 a (a.len : Int) l) = _
    rw [f82_round0, dnlt (Nat.lt_irrefl _)]; rfl
  · show _ = some [can (.sl (.int .u8)) a]
    rw [kids_can]


/-! laws.toPacket -/
abbrev C50 : FuncId → Option Sig := tabC [(82, toSig (.sl (.int .u8)) (.sl (.int .u8)))]
theorem hC50 : ∀ g sg, C50 g = some sg → ConOk Tryz.prog g sg := (tabC_cons con82 tabC_nil)
abbrev keep50 : Nat → List Nat := fun _ => []
theorem f50_start (K : Nat) (a : Dat) : evBody T C50 noL K keep50 Tryz.f50 [s21] [s21] [a] =
      (bif fit 1048576 (.sl (.int .u8)) (a.fld 2) then some [(Dat.n [(Dat.i ((a.fld 0).int)), (Dat.i ((a.fld 1).int)), (Dat.n ((can (.sl (.int .u8)) (a.fld 2)).kids)), (Dat.b ((a.fld 3).bool))])] else none) := by kernel_rfl
theorem con50 : ConOk Tryz.prog 50 (toSig s21 s21) := con hM hD hT hC50 keep50 Tryz.func50 (by kernel_rfl) (by kernel_rfl) fun ds hl hp => by
  obtain ⟨a, rfl⟩ := ds_one hl
  replace hp : fit 1048576 s21 a = true := hp
  refine ⟨0, ?_⟩
  have h2 : fit 1048576 (.sl (.int .u8)) (a.fld 2) = true := fit_fld hp 2 rfl
  rw [f50_start]
  simp only [h2, cond_true]
  rfl


/-! laws.toPacketS -/
abbrev C27 : FuncId → Option Sig := tabC [(50, toSig s21 s21)]
theorem hC27 : ∀ g sg, C27 g = some sg → ConOk Tryz.prog g sg := (tabC_cons con50 tabC_nil)
abbrev keep27 : Nat → List Nat | 0 => [0, 3, 4] | _ => []
def S27_0 (x0 : Dat) (x4 : Int) (l0 : (List Dat)) : St := ⟨[.ro s21 x0, .u, .u, .hd 0, .int .i64 x4] ++ us 18, [.arr s21 l0]⟩
theorem f27_round0 (K n : Nat) (x0 : Dat) (x4 : Int) (l0 : (List Dat)) :
    loopE T C27 K keep27 Tryz.f27 0 0 (behind T C27 K keep27 Tryz.f27 [(.sl s21)] 0) (n + 1) (S27_0 x0 x4 l0) =
      (bif decide (x4 < (x0.len : Int)) then (bif (decide (0 ≤ x4) && decide (x4 < (x0.len : Int))) then (bif fit 1048576 s21 (x0.fld x4.toNat) then (bif (decide (0 ≤ x4) && decide (x4 < (l0.length : Int))) then loopE T C27 K keep27 Tryz.f27 0 0 (behind T C27 K keep27 Tryz.f27 [(.sl s21)] 0) n (S27_0 x0 (IntKind.i64.wrap (x4 + (1 : Int))) (l0.set x4.toNat (can s21 (x0.fld x4.toNat)))) else none) else none) else none) else some [(Dat.n l0)]) := by kernel_rfl
theorem f27_start (K : Nat) (a : Dat) : evBody T C27 noL K keep27 Tryz.f27 [(.sl s21)] [(.sl s21)] [a] =
      (bif (decide (0 ≤ (a.len : Int)) && (decide ((a.len : Int) ≤ 4294967296) && decide ((a.len : Int) = (a.len : Int)))) then loopE T C27 K keep27 Tryz.f27 0 0 (behind T C27 K keep27 Tryz.f27 [(.sl s21)] 0) K (S27_0 a (0 : Int) (List.replicate (a.len : Int).toNat (zeroD s21))) else none) := by kernel_rfl
theorem con27 : ConOk Tryz.prog 27 (toSig (.sl s21) (.sl s21)) := con hM hD hT hC27 keep27 Tryz.func27 (by kernel_rfl) (by kernel_rfl) fun ds hl hp => by
  obtain ⟨a, rfl⟩ := ds_one hl
  replace hp : fit 1048576 (.sl s21) a = true := hp
  obtain ⟨hn, he⟩ := fit_sl hp
  refine ⟨a.len + 1, ?_⟩
  have c1 : (decide (0 ≤ (a.len : Int)) && (decide ((a.len : Int) ≤ 4294967296) && decide ((a.len : Int) = (a.len : Int)))) = true := by simp; omega
  rw [f27_start, c1, cond_true, Int.toNat_natCast]
  refine (fill_loop (E := fun n j l => loopE T C27 (a.len + 1) keep27 Tryz.f27 0 0 (behind T C27 (a.len + 1) keep27 Tryz.f27 [(.sl s21)] 0) n (S27_0 a (j : Int) l)) (N := a.len) (g := fun j => can s21 (a.fld j)) (fin := fun l => some [Dat.n l]) (zeroD s21) (fun n j l hj hlen => ?_) (fun n l _ => ?_)).trans ?_
  · have f1 := he j hj
    have hj2 : j < l.length := by omega
    show loopE T C27 (a.len + 1) keep27 Tryz.f27 0 0 (behind T C27 (a.len + 1) keep27 Tryz.f27 [(.sl s21)] 0) (n + 1) (S27_0 a (j : Int) l) = _
    rw [f27_round0]
    simp only [dlt hj, dge, dlt hj2, Int.toNat_natCast, f1, Bool.and_self, cond_true, wrap_succ hj (by unfold M; omega)]
    try rfl
  · show loopE T C27 (a.len + 1) keep27 Tryz.f27 0 0 (behind T C27 (a.len + 1) keep27 Tryz.f27 [(.sl s21)] 0) (n + 1) (S27_0 a (a.len : Int) l) = _
    rw [f27_round0, dnlt (Nat.lt_irrefl _)]; rfl
  · show _ = some [can (.sl s21) a]
    rw [kids_can]


/-! laws.toNet -/
abbrev C16 : FuncId → Option Sig := tabC [(27, toSig (.sl s21) (.sl s21))]
theorem hC16 : ∀ g sg, C16 g = some sg → ConOk Tryz.prog g sg := (tabC_cons con27 tabC_nil)
abbrev keep16 : Nat → List Nat := fun _ => []
theorem f16_start (K : Nat) (a : Dat) : evBody T C16 noL K keep16 Tryz.f16 [s22] [s22] [a] =
      (bif fit 1048576 (.sl s21) (a.fld 1) then some [(Dat.n [(Dat.i ((a.fld 0).int)), (Dat.n ((can (.sl s21) (a.fld 1)).kids))])] else none) := by kernel_rfl
theorem con16 : ConOk Tryz.prog 16 (toSig s22 s22) := con hM hD hT hC16 keep16 Tryz.func16 (by kernel_rfl) (by kernel_rfl) fun ds hl hp => by
  obtain ⟨a, rfl⟩ := ds_one hl
  replace hp : fit 1048576 s22 a = true := hp
  refine ⟨0, ?_⟩
  have h1 : fit 1048576 (.sl s21) (a.fld 1) = true := fit_fld hp 1 rfl
  rw [f16_start]
  simp only [h1, cond_true]
  rfl


/-! laws.toCluster -/
abbrev C6 : FuncId → Option Sig := tabC [(14, toSig s6 s6), (15, toSig (.sl s20) (.sl s20)), (16, toSig s22 s22), (17, toSig (.sl tInt) (.sl tInt))]
theorem hC6 : ∀ g sg, C6 g = some sg → ConOk Tryz.prog g sg := (tabC_cons con14 (tabC_cons con15 (tabC_cons con16 (tabC_cons con17 tabC_nil))))
abbrev keep6 : Nat → List Nat := fun _ => []
theorem f6_start (K : Nat) (a : Dat) : evBody T C6 noL K keep6 Tryz.f6 [s23] [s23] [a] =
      (bif fit 1048576 s6 (a.fld 0) then (bif fit 1048576 (.sl s20) (a.fld 2) then (bif fit 1048576 s22 (a.fld 3) then (bif fit 1048576 (.sl tInt) (a.fld 4) then (bif fit 1048576 (.sl tInt) (a.fld 5) then some [(Dat.n [(can s6 (a.fld 0)), (Dat.i ((a.fld 1).int)), (Dat.n ((can (.sl s20) (a.fld 2)).kids)), (can s22 (a.fld 3)), (Dat.n ((can (.sl tInt) (a.fld 4)).kids)), (Dat.n ((can (.sl tInt) (a.fld 5)).kids))])] else none) else none) else none) else none) else none) := by kernel_rfl
theorem con6 : ConOk Tryz.prog 6 (toSig s23 s23) := con hM hD hT hC6 keep6 Tryz.func6 (by kernel_rfl) (by kernel_rfl) fun ds hl hp => by
  obtain ⟨a, rfl⟩ := ds_one hl
  replace hp : fit 1048576 s23 a = true := hp
  refine ⟨0, ?_⟩
  have h0 : fit 1048576 s6 (a.fld 0) = true := fit_fld hp 0 rfl
  have h2 : fit 1048576 (.sl s20) (a.fld 2) = true := fit_fld hp 2 rfl
  have h3 : fit 1048576 s22 (a.fld 3) = true := fit_fld hp 3 rfl
  have h4 : fit 1048576 (.sl tInt) (a.fld 4) = true := fit_fld hp 4 rfl
  have h5 : fit 1048576 (.sl tInt) (a.fld 5) = true := fit_fld hp 5 rfl
  rw [f6_start]
  simp only [h0, h2, h3, h4, h5, cond_true]
  rfl


/-! laws.eqConst -/
abbrev C109 : FuncId → Option Sig := tabC []
theorem hC109 : ∀ g sg, C109 g = some sg → ConOk Tryz.prog g sg := tabC_nil
abbrev keep109 : Nat → List Nat := fun _ => []
theorem f109_start (K : Nat) (a : Dat) (b : Dat) : evBody T C109 noL K keep109 Tryz.f109 [s1, s1] [.bool] [a, b] =
      (bif ((a.fld 0).int != (b.fld 0).int) then some [(Dat.b false)] else (bif ((a.fld 1).int != (b.fld 1).int) then some [(Dat.b false)] else (bif (!(((a.fld 2).str).toList == ((b.fld 2).str).toList)) then some [(Dat.b false)] else (bif (!(((a.fld 3).str).toList == ((b.fld 3).str).toList)) then some [(Dat.b false)] else some [(Dat.b true)])))) := by kernel_rfl
theorem con109 : ConOk Tryz.prog 109 (eqSig s1) := con hM hD hT hC109 keep109 Tryz.func109 (by kernel_rfl) (by kernel_rfl) fun ds hl hp => by
  obtain ⟨a, b, rfl⟩ := ds_two hl
  obtain ⟨ha, hb⟩ := both (show (fit M s1 a && fit M s1 b) = true from hp)
  refine ⟨0, ?_⟩
  rw [f109_start]
  show _ = some [Dat.b (((a.fld 0).int == (b.fld 0).int) && (((a.fld 1).int == (b.fld 1).int) && (((a.fld 2).str.toList == (b.fld 2).str.toList) && (((a.fld 3).str.toList == (b.fld 3).str.toList) && true))))]
  exact (and_step (and_step (and_step (and_step rfl))))


/-! laws.eqConstS -/
abbrev C83 : FuncId → Option Sig := tabC [(109, eqSig s1)]
theorem hC83 : ∀ g sg, C83 g = some sg → ConOk Tryz.prog g sg := (tabC_cons con109 tabC_nil)
abbrev keep83 : Nat → List Nat | 0 => [0, 1, 4, 5] | _ => []
def S83_0 (x0 : Dat) (x1 : Dat) (x5 : Int) : St := ⟨[.ro s1 x0, .ro s1 x1, .u, .u, .bool false, .int .i64 x5] ++ us 21, []⟩
theorem f83_round0 (K n : Nat) (x0 : Dat) (x1 : Dat) (x5 : Int) :
    loopE T C83 K keep83 Tryz.f83 0 0 (behind T C83 K keep83 Tryz.f83 [.bool] 0) (n + 1) (S83_0 x0 x1 x5) =
      (bif decide (x5 < (x0.len : Int)) then (bif (decide (0 ≤ x5) && decide (x5 < (x0.len : Int))) then (bif (decide (0 ≤ x5) && decide (x5 < (x1.len : Int))) then (bif (fit M s1 (x0.fld x5.toNat) && fit M s1 (x1.fld x5.toNat)) then (bif (!(deq s1 (x0.fld x5.toNat) (x1.fld x5.toNat))) then some [(Dat.b false)] else loopE T C83 K keep83 Tryz.f83 0 0 (behind T C83 K keep83 Tryz.f83 [.bool] 0) n (S83_0 x0 x1 (IntKind.i64.wrap (x5 + (1 : Int))))) else none) else none) else none) else some [(Dat.b true)]) := by kernel_rfl
theorem f83_start (K : Nat) (a : Dat) (b : Dat) : evBody T C83 noL K keep83 Tryz.f83 [(.sl s1), (.sl s1)] [.bool] [a, b] =
      (bif ((a.len : Int) != (b.len : Int)) then some [(Dat.b false)] else loopE T C83 K keep83 Tryz.f83 0 0 (behind T C83 K keep83 Tryz.f83 [.bool] 0) K (S83_0 a b (0 : Int))) := by kernel_rfl
theorem con83 : ConOk Tryz.prog 83 (eqSig (.sl s1)) := con hM hD hT hC83 keep83 Tryz.func83 (by kernel_rfl) (by kernel_rfl) fun ds hl hp => by
  obtain ⟨a, b, rfl⟩ := ds_two hl
  obtain ⟨ha, hb⟩ := both (show (fit M (.sl s1) a && fit M (.sl s1) b) = true from hp)
  obtain ⟨hn, he⟩ := fit_sl ha
  obtain ⟨hn2, he2⟩ := fit_sl hb
  refine ⟨a.len + 1, ?_⟩
  rw [f83_start]
  show _ = some [Dat.b (deq (.sl s1) a b)]
  rw [deq_sl]
  by_cases hlen : a.len = b.len
  · have c1 : ((a.len : Int) != (b.len : Int)) = false := by simp [hlen]
    have c2 : (a.len == b.len) = true := by simp [hlen]
    rw [c1, cond_false, c2, Bool.true_and]
    refine (all_loop (E := fun n j => loopE T C83 (a.len + 1) keep83 Tryz.f83 0 0 (behind T C83 (a.len + 1) keep83 Tryz.f83 [.bool] 0) n (S83_0 a b ((j : Nat) : Int))) (N := a.len) (p := fun j => deq s1 (a.fld j) (b.fld j)) (kT := some [.b true]) (kF := some [.b false]) (fun n j hj => ?_) (fun n => ?_)).trans ?_
    · have hj2 : j < b.len := by omega
      have f1 := he j hj
      have f2 := he2 j hj2
      show loopE T C83 (a.len + 1) keep83 Tryz.f83 0 0 (behind T C83 (a.len + 1) keep83 Tryz.f83 [.bool] 0) (n + 1) (S83_0 a b ((j : Nat) : Int)) = _
      rw [f83_round0]
      simp only [dlt hj, dge, dlt hj2, Int.toNat_natCast, f1, f2, Bool.and_self, cond_true, wrap_succ hj hn]
      cases deq s1 (a.fld j) (b.fld j) <;> rfl
    · show loopE T C83 (a.len + 1) keep83 Tryz.f83 0 0 (behind T C83 (a.len + 1) keep83 Tryz.f83 [.bool] 0) (n + 1) (S83_0 a b ((a.len : Nat) : Int)) = _
      rw [f83_round0, dnlt (Nat.lt_irrefl _)]; rfl
    · cases (List.range a.len).all fun j => deq s1 (a.fld j) (b.fld j) <;> rfl
  · have c1 : ((a.len : Int) != (b.len : Int)) = true := by simp; omega
    have c2 : (a.len == b.len) = false := by simp [hlen]
    rw [c1, cond_true, c2]; rfl


/-! laws.eqField -/
abbrev C110 : FuncId → Option Sig := tabC []
theorem hC110 : ∀ g sg, C110 g = some sg → ConOk Tryz.prog g sg := tabC_nil
abbrev keep110 : Nat → List Nat := fun _ => []
theorem f110_start (K : Nat) (a : Dat) (b : Dat) : evBody T C110 noL K keep110 Tryz.f110 [s2, s2] [.bool] [a, b] =
      (bif (!(((a.fld 0).str).toList == ((b.fld 0).str).toList)) then some [(Dat.b false)] else (bif (!(((a.fld 1).str).toList == ((b.fld 1).str).toList)) then some [(Dat.b false)] else some [(Dat.b true)])) := by kernel_rfl
theorem con110 : ConOk Tryz.prog 110 (eqSig s2) := con hM hD hT hC110 keep110 Tryz.func110 (by kernel_rfl) (by kernel_rfl) fun ds hl hp => by
  obtain ⟨a, b, rfl⟩ := ds_two hl
  obtain ⟨ha, hb⟩ := both (show (fit M s2 a && fit M s2 b) = true from hp)
  refine ⟨0, ?_⟩
  rw [f110_start]
  show _ = some [Dat.b (((a.fld 0).str.toList == (b.fld 0).str.toList) && (((a.fld 1).str.toList == (b.fld 1).str.toList) && true))]
  exact (and_step (and_step rfl))


/-! laws.eqFieldS -/
abbrev C84 : FuncId → Option Sig := tabC [(110, eqSig s2)]
theorem hC84 : ∀ g sg, C84 g = some sg → ConOk Tryz.prog g sg := (tabC_cons con110 tabC_nil)
abbrev keep84 : Nat → List Nat | 0 => [0, 1, 4, 5] | _ => []
def S84_0 (x0 : Dat) (x1 : Dat) (x5 : Int) : St := ⟨[.ro s2 x0, .ro s2 x1, .u, .u, .bool false, .int .i64 x5] ++ us 21, []⟩
theorem f84_round0 (K n : Nat) (x0 : Dat) (x1 : Dat) (x5 : Int) :
    loopE T C84 K keep84 Tryz.f84 0 0 (behind T C84 K keep84 Tryz.f84 [.bool] 0) (n + 1) (S84_0 x0 x1 x5) =
      (bif decide (x5 < (x0.len : Int)) then (bif (decide (0 ≤ x5) && decide (x5 < (x0.len : Int))) then (bif (decide (0 ≤ x5) && decide (x5 < (x1.len : Int))) then (bif (fit M s2 (x0.fld x5.toNat) && fit M s2 (x1.fld x5.toNat)) then (bif (!(deq s2 (x0.fld x5.toNat) (x1.fld x5.toNat))) then some [(Dat.b false)] else loopE T C84 K keep84 Tryz.f84 0 0 (behind T C84 K keep84 Tryz.f84 [.bool] 0) n (S84_0 x0 x1 (IntKind.i64.wrap (x5 + (1 : Int))))) else none) else none) else none) else some [(Dat.b true)]) := by kernel_rfl
theorem f84_start (K : Nat) (a : Dat) (b : Dat) : evBody T C84 noL K keep84 Tryz.f84 [(.sl s2), (.sl s2)] [.bool] [a, b] =
      (bif ((a.len : Int) != (b.len : Int)) then some [(Dat.b false)] else loopE T C84 K keep84 Tryz.f84 0 0 (behind T C84 K keep84 Tryz.f84 [.bool] 0) K (S84_0 a b (0 : Int))) := by kernel_rfl
theorem con84 : ConOk Tryz.prog 84 (eqSig (.sl s2)) := con hM hD hT hC84 keep84 Tryz.func84 (by kernel_rfl) (by kernel_rfl) fun ds hl hp => by
  obtain ⟨a, b, rfl⟩ := ds_two hl
  obtain ⟨ha, hb⟩ := both (show (fit M (.sl s2) a && fit M (.sl s2) b) = true from hp)
  obtain ⟨hn, he⟩ := fit_sl ha
  obtain ⟨hn2, he2⟩ := fit_sl hb
  refine ⟨a.len + 1, ?_⟩
  rw [f84_start]
  show _ = some [Dat.b (deq (.sl s2) a b)]
  rw [deq_sl]
  by_cases hlen : a.len = b.len
  · have c1 : ((a.len : Int) != (b.len : Int)) = false := by simp [hlen]
    have c2 : (a.len == b.len) = true := by simp [hlen]
    rw [c1, cond_false, c2, Bool.true_and]
    refine (all_loop (E := fun n j => loopE T C84 (a.len + 1) keep84 Tryz.f84 0 0 (behind T C84 (a.len + 1) keep84 Tryz.f84 [.bool] 0) n (S84_0 a b ((j : Nat) : Int))) (N := a.len) (p := fun j => deq s2 (a.fld j) (b.fld j)) (kT := some [.b true]) (kF := some [.b false]) (fun n j hj => ?_) (fun n => ?_)).trans ?_
    · have hj2 : j < b.len := by omega
      have f1 := he j hj
      have f2 := he2 j hj2
      show loopE T C84 (a.len + 1) keep84 Tryz.f84 0 0 (behind T C84 (a.len + 1) keep84 Tryz.f84 [.bool] 0) (n + 1) (S84_0 a b ((j : Nat) : Int)) = _
      rw [f84_round0]
      simp only [dlt hj, dge, dlt hj2, Int.toNat_natCast, f1, f2, Bool.and_self, cond_true, wrap_succ hj hn]
      cases deq s2 (a.fld j) (b.fld j) <;> rfl
    · show loopE T C84 (a.len + 1) keep84 Tryz.f84 0 0 (behind T C84 (a.len + 1) keep84 Tryz.f84 [.bool] 0) (n + 1) (S84_0 a b ((a.len : Nat) : Int)) = _
      rw [f84_round0, dnlt (Nat.lt_irrefl _)]; rfl
    · cases (List.range a.len).all fun j => deq s2 (a.fld j) (b.fld j) <;> rfl
  · have c1 : ((a.len : Int) != (b.len : Int)) = true := by simp; omega
    have c2 : (a.len == b.len) = false := by simp [hlen]
    rw [c1, cond_true, c2]; rfl


/-! laws.eqStringS -/
abbrev C126 : FuncId → Option Sig := tabC []
theorem hC126 : ∀ g sg, C126 g = some sg → ConOk Tryz.prog g sg := tabC_nil
abbrev keep126 : Nat → List Nat | 0 => [0, 1, 4, 5] | _ => []
def S126_0 (x0 : Dat) (x1 : Dat) (x5 : Int) : St := ⟨[.ro .str x0, .ro .str x1, .u, .u, .bool false, .int .i64 x5] ++ us 20, []⟩
theorem f126_round0 (K n : Nat) (x0 : Dat) (x1 : Dat) (x5 : Int) :
    loopE T C126 K keep126 Tryz.f126 0 0 (behind T C126 K keep126 Tryz.f126 [.bool] 0) (n + 1) (S126_0 x0 x1 x5) =
      (bif decide (x5 < (x0.len : Int)) then (bif (decide (0 ≤ x5) && decide (x5 < (x0.len : Int))) then (bif (decide (0 ≤ x5) && decide (x5 < (x1.len : Int))) then (bif (!(((x0.fld x5.toNat).str).toList == ((x1.fld x5.toNat).str).toList)) then some [(Dat.b false)] else loopE T C126 K keep126 Tryz.f126 0 0 (behind T C126 K keep126 Tryz.f126 [.bool] 0) n (S126_0 x0 x1 (IntKind.i64.wrap (x5 + (1 : Int))))) else none) else none) else some [(Dat.b true)]) := by kernel_rfl
theorem f126_start (K : Nat) (a : Dat) (b : Dat) : evBody T C126 noL K keep126 Tryz.f126 [(.sl .str), (.sl .str)] [.bool] [a, b] =
      (bif ((a.len : Int) != (b.len : Int)) then some [(Dat.b false)] else loopE T C126 K keep126 Tryz.f126 0 0 (behind T C126 K keep126 Tryz.f126 [.bool] 0) K (S126_0 a b (0 : Int))) := by kernel_rfl
theorem con126 : ConOk Tryz.prog 126 (eqSig (.sl .str)) := con hM hD hT hC126 keep126 Tryz.func126 (by kernel_rfl) (by kernel_rfl) fun ds hl hp => by
  obtain ⟨a, b, rfl⟩ := ds_two hl
  obtain ⟨ha, hb⟩ := both (show (fit M (.sl .str) a && fit M (.sl .str) b) = true from hp)
  obtain ⟨hn, he⟩ := fit_sl ha
  obtain ⟨hn2, he2⟩ := fit_sl hb
  refine ⟨a.len + 1, ?_⟩
  rw [f126_start]
  show _ = some [Dat.b (deq (.sl .str) a b)]
  rw [deq_sl]
  by_cases hlen : a.len = b.len
  · have c1 : ((a.len : Int) != (b.len : Int)) = false := by simp [hlen]
    have c2 : (a.len == b.len) = true := by simp [hlen]
    rw [c1, cond_false, c2, Bool.true_and]
    refine (all_loop (E := fun n j => loopE T C126 (a.len + 1) keep126 Tryz.f126 0 0 (behind T C126 (a.len + 1) keep126 Tryz.f126 [.bool] 0) n (S126_0 a b ((j : Nat) : Int))) (N := a.len) (p := fun j => deq .str (a.fld j) (b.fld j)) (kT := some [.b true]) (kF := some [.b false]) (fun n j hj => ?_) (fun n => ?_)).trans ?_
    · have hj2 : j < b.len := by omega
      show loopE T C126 (a.len + 1) keep126 Tryz.f126 0 0 (behind T C126 (a.len + 1) keep126 Tryz.f126 [.bool] 0) (n + 1) (S126_0 a b ((j : Nat) : Int)) = _
      rw [f126_round0]
      simp only [dlt hj, dge, dlt hj2, Int.toNat_natCast, Bool.and_self, cond_true, wrap_succ hj hn]
      simp only [deq]; cases (a.fld j).str.toList == (b.fld j).str.toList <;> rfl
    · show loopE T C126 (a.len + 1) keep126 Tryz.f126 0 0 (behind T C126 (a.len + 1) keep126 Tryz.f126 [.bool] 0) (n + 1) (S126_0 a b ((a.len : Nat) : Int)) = _
      rw [f126_round0, dnlt (Nat.lt_irrefl _)]; rfl
    · cases (List.range a.len).all fun j => deq .str (a.fld j) (b.fld j) <;> rfl
  · have c1 : ((a.len : Int) != (b.len : Int)) = true := by simp; omega
    have c2 : (a.len == b.len) = false := by simp [hlen]
    rw [c1, cond_true, c2]; rfl


/-! laws.eqIns -/
abbrev C137 : FuncId → Option Sig := tabC []
theorem hC137 : ∀ g sg, C137 g = some sg → ConOk Tryz.prog g sg := tabC_nil
abbrev keep137 : Nat → List Nat := fun _ => []
theorem f137_start (K : Nat) (a : Dat) (b : Dat) : evBody T C137 noL K keep137 Tryz.f137 [s3, s3] [.bool] [a, b] =
      (bif ((a.fld 0).int != (b.fld 0).int) then some [(Dat.b false)] else (bif ((a.fld 1).int != (b.fld 1).int) then some [(Dat.b false)] else some [(Dat.b true)])) := by kernel_rfl
theorem con137 : ConOk Tryz.prog 137 (eqSig s3) := con hM hD hT hC137 keep137 Tryz.func137 (by kernel_rfl) (by kernel_rfl) fun ds hl hp => by
  obtain ⟨a, b, rfl⟩ := ds_two hl
  obtain ⟨ha, hb⟩ := both (show (fit M s3 a && fit M s3 b) = true from hp)
  refine ⟨0, ?_⟩
  rw [f137_start]
  show _ = some [Dat.b (((a.fld 0).int == (b.fld 0).int) && (((a.fld 1).int == (b.fld 1).int) && true))]
  exact (and_step (and_step rfl))


/-! laws.eqInsS -/
abbrev C127 : FuncId → Option Sig := tabC [(137, eqSig s3)]
theorem hC127 : ∀ g sg, C127 g = some sg → ConOk Tryz.prog g sg := (tabC_cons con137 tabC_nil)
abbrev keep127 : Nat → List Nat | 0 => [0, 1, 4, 5] | _ => []
def S127_0 (x0 : Dat) (x1 : Dat) (x5 : Int) : St := ⟨[.ro s3 x0, .ro s3 x1, .u, .u, .bool false, .int .i64 x5] ++ us 21, []⟩
theorem f127_round0 (K n : Nat) (x0 : Dat) (x1 : Dat) (x5 : Int) :
    loopE T C127 K keep127 Tryz.f127 0 0 (behind T C127 K keep127 Tryz.f127 [.bool] 0) (n + 1) (S127_0 x0 x1 x5) =
      (bif decide (x5 < (x0.len : Int)) then (bif (decide (0 ≤ x5) && decide (x5 < (x0.len : Int))) then (bif (decide (0 ≤ x5) && decide (x5 < (x1.len : Int))) then (bif (fit M s3 (x0.fld x5.toNat) && fit M s3 (x1.fld x5.toNat)) then (bif (!(deq s3 (x0.fld x5.toNat) (x1.fld x5.toNat))) then some [(Dat.b false)] else loopE T C127 K keep127 Tryz.f127 0 0 (behind T C127 K keep127 Tryz.f127 [.bool] 0) n (S127_0 x0 x1 (IntKind.i64.wrap (x5 + (1 : Int))))) else none) else none) else none) else some [(Dat.b true)]) := by kernel_rfl
theorem f127_start (K : Nat) (a : Dat) (b : Dat) : evBody T C127 noL K keep127 Tryz.f127 [(.sl s3), (.sl s3)] [.bool] [a, b] =
      (bif ((a.len : Int) != (b.len : Int)) then some [(Dat.b false)] else loopE T C127 K keep127 Tryz.f127 0 0 (behind T C127 K keep127 Tryz.f127 [.bool] 0) K (S127_0 a b (0 : Int))) := by kernel_rfl
theorem con127 : ConOk Tryz.prog 127 (eqSig (.sl s3)) := con hM hD hT hC127 keep127 Tryz.func127 (by kernel_rfl) (by kernel_rfl) fun ds hl hp => by
  obtain ⟨a, b, rfl⟩ := ds_two hl
  obtain ⟨ha, hb⟩ := both (show (fit M (.sl s3) a && fit M (.sl s3) b) = true from hp)
  obtain ⟨hn, he⟩ := fit_sl ha
  obtain ⟨hn2, he2⟩ := fit_sl hb
  refine ⟨a.len + 1, ?_⟩
  rw [f127_start]
  show _ = some [Dat.b (deq (.sl s3) a b)]
  rw [deq_sl]
  by_cases hlen : a.len = b.len
  · have c1 : ((a.len : Int) != (b.len : Int)) = false := by simp [hlen]
    have c2 : (a.len == b.len) = true := by simp [hlen]
    rw [c1, cond_false, c2, Bool.true_and]
    refine (all_loop (E := fun n j => loopE T C127 (a.len + 1) keep127 Tryz.f127 0 0 (behind T C127 (a.len + 1) keep127 Tryz.f127 [.bool] 0) n (S127_0 a b ((j : Nat) : Int))) (N := a.len) (p := fun j => deq s3 (a.fld j) (b.fld j)) (kT := some [.b true]) (kF := some [.b false]) (fun n j hj => ?_) (fun n => ?_)).trans ?_
    · have hj2 : j < b.len := by omega
      have f1 := he j hj
      have f2 := he2 j hj2
      show loopE T C127 (a.len + 1) keep127 Tryz.f127 0 0 (behind T C127 (a.len + 1) keep127 Tryz.f127 [.bool] 0) (n + 1) (S127_0 a b ((j : Nat) : Int)) = _
      rw [f127_round0]
      simp only [dlt hj, dge, dlt hj2, Int.toNat_natCast, f1, f2, Bool.and_self, cond_true, wrap_succ hj hn]
      cases deq s3 (a.fld j) (b.fld j) <;> rfl
    · show loopE T C127 (a.len + 1) keep127 Tryz.f127 0 0 (behind T C127 (a.len + 1) keep127 Tryz.f127 [.bool] 0) (n + 1) (S127_0 a b ((a.len : Nat) : Int)) = _
      rw [f127_round0, dnlt (Nat.lt_irrefl _)]; rfl
    · cases (List.range a.len).all fun j => deq s3 (a.fld j) (b.fld j) <;> rfl
  · have c1 : ((a.len : Int) != (b.len : Int)) = true := by simp; omega
    have c2 : (a.len == b.len) = false := by simp [hlen]
    rw [c1, cond_true, c2]; rfl


/-! laws.eqCode -/
abbrev C111 : FuncId → Option Sig := tabC [(126, eqSig (.sl .str)), (127, eqSig (.sl s3))]
theorem hC111 : ∀ g sg, C111 g = some sg → ConOk Tryz.prog g sg := (tabC_cons con126 (tabC_cons con127 tabC_nil))
abbrev keep111 : Nat → List Nat := fun _ => []
theorem f111_start (K : Nat) (a : Dat) (b : Dat) : evBody T C111 noL K keep111 Tryz.f111 [s4, s4] [.bool] [a, b] =
      (bif (!(((a.fld 0).str).toList == ((b.fld 0).str).toList)) then some [(Dat.b false)] else (bif ((a.fld 1).int != (b.fld 1).int) then some [(Dat.b false)] else (bif (fit M (.sl .str) (a.fld 2) && fit M (.sl .str) (b.fld 2)) then (bif (!(deq (.sl .str) (a.fld 2) (b.fld 2))) then some [(Dat.b false)] else (bif (!(((a.fld 3).str).toList == ((b.fld 3).str).toList)) then some [(Dat.b false)] else (bif ((a.fld 4).int != (b.fld 4).int) then some [(Dat.b false)] else (bif (fit M (.sl s3) (a.fld 5) && fit M (.sl s3) (b.fld 5)) then (bif (!(deq (.sl s3) (a.fld 5) (b.fld 5))) then some [(Dat.b false)] else some [(Dat.b true)]) else none)))) else none))) := by kernel_rfl
theorem con111 : ConOk Tryz.prog 111 (eqSig s4) := con hM hD hT hC111 keep111 Tryz.func111 (by kernel_rfl) (by kernel_rfl) fun ds hl hp => by
  obtain ⟨a, b, rfl⟩ := ds_two hl
  obtain ⟨ha, hb⟩ := both (show (fit M s4 a && fit M s4 b) = true from hp)
  refine ⟨0, ?_⟩
  have h2 : (fit M (.sl .str) (a.fld 2) && fit M (.sl .str) (b.fld 2)) = true := and_both (fit_fld ha 2 rfl) (fit_fld hb 2 rfl)
  have h5 : (fit M (.sl s3) (a.fld 5) && fit M (.sl s3) (b.fld 5)) = true := and_both (fit_fld ha 5 rfl) (fit_fld hb 5 rfl)
  rw [f111_start]
  simp only [h2, h5, cond_true]
  show _ = some [Dat.b (((a.fld 0).str.toList == (b.fld 0).str.toList) && (((a.fld 1).int == (b.fld 1).int) && (deq (.sl .str) (a.fld 2) (b.fld 2) && (((a.fld 3).str.toList == (b.fld 3).str.toList) && (((a.fld 4).int == (b.fld 4).int) && (deq (.sl s3) (a.fld 5) (b.fld 5) && true))))))]
  exact (and_step (and_step (and_step (and_step (and_step (and_step rfl))))))


/-! laws.eqCodeS -/
abbrev C85 : FuncId → Option Sig := tabC [(111, eqSig s4)]
theorem hC85 : ∀ g sg, C85 g = some sg → ConOk Tryz.prog g sg := (tabC_cons con111 tabC_nil)
abbrev keep85 : Nat → List Nat | 0 => [0, 1, 4, 5] | _ => []
def S85_0 (x0 : Dat) (x1 : Dat) (x5 : Int) : St := ⟨[.ro s4 x0, .ro s4 x1, .u, .u, .bool false, .int .i64 x5] ++ us 21, []⟩
theorem f85_round0 (K n : Nat) (x0 : Dat) (x1 : Dat) (x5 : Int) :
    loopE T C85 K keep85 Tryz.f85 0 0 (behind T C85 K keep85 Tryz.f85 [.bool] 0) (n + 1) (S85_0 x0 x1 x5) =
      (bif decide (x5 < (x0.len : Int)) then (bif (decide (0 ≤ x5) && decide (x5 < (x0.len : Int))) then (bif (decide (0 ≤ x5) && decide (x5 < (x1.len : Int))) then (bif (fit M s4 (x0.fld x5.toNat) && fit M s4 (x1.fld x5.toNat)) then (bif (!(deq s4 (x0.fld x5.toNat) (x1.fld x5.toNat))) then some [(Dat.b false)] else loopE T C85 K keep85 Tryz.f85 0 0 (behind T C85 K keep85 Tryz.f85 [.bool] 0) n (S85_0 x0 x1 (IntKind.i64.wrap (x5 + (1 : Int))))) else none) else none) else none) else some [(Dat.b true)]) := by kernel_rfl
theorem f85_start (K : Nat) (a : Dat) (b : Dat) : evBody T C85 noL K keep85 Tryz.f85 [(.sl s4), (.sl s4)] [.bool] [a, b] =
      (bif ((a.len : Int) != (b.len : Int)) then some [(Dat.b false)] else loopE T C85 K keep85 Tryz.f85 0 0 (behind T C85 K keep85 Tryz.f85 [.bool] 0) K (S85_0 a b (0 : Int))) := by kernel_rfl
theorem con85 : ConOk Tryz.prog 85 (eqSig (.sl s4)) := con hM hD hT hC85 keep85 Tryz.func85 (by kernel_rfl) (by kernel_rfl) fun ds hl hp => by
  obtain ⟨a, b, rfl⟩ := ds_two hl
  obtain ⟨ha, hb⟩ := both (show (fit M (.sl s4) a && fit M (.sl s4) b) = true from hp)
  obtain ⟨hn, he⟩ := fit_sl ha
  obtain ⟨hn2, he2⟩ := fit_sl hb
  refine ⟨a.len + 1, ?_⟩
  rw [f85_start]
  show _ = some [Dat.b (deq (.sl s4) a b)]
  rw [deq_sl]
  by_cases hlen : a.len = b.len
  · have c1 : ((a.len : Int) != (b.len : Int)) = false := by simp [hlen]
    have c2 : (a.len == b.len) = true := by simp [hlen]
    rw [c1, cond_false, c2, Bool.true_and]
    refine (all_loop (E := fun n j => loopE T C85 (a.len + 1) keep85 Tryz.f85 0 0 (behind T C85 (a.len + 1) keep85 Tryz.f85 [.bool] 0) n (S85_0 a b ((j : Nat) : Int))) (N := a.len) (p := fun j => deq s4 (a.fld j) (b.fld j)) (kT := some [.b true]) (kF := some [.b false]) (fun n j hj => ?_) (fun n => ?_)).trans ?_
    · have hj2 : j < b.len := by omega
      have f1 := he j hj
      have f2 := he2 j hj2
      show loopE T C85 (a.len + 1) keep85 Tryz.f85 0 0 (behind T C85 (a.len + 1) keep85 Tryz.f85 [.bool] 0) (n + 1) (S85_0 a b ((j : Nat) : Int)) = _
      rw [f85_round0]
      simp only [dlt hj, dge, dlt hj2, Int.toNat_natCast, f1, f2, Bool.and_self, cond_true, wrap_succ hj hn]
      cases deq s4 (a.fld j) (b.fld j) <;> rfl
    · show loopE T C85 (a.len + 1) keep85 Tryz.f85 0 0 (behind T C85 (a.len + 1) keep85 Tryz.f85 [.bool] 0) (n + 1) (S85_0 a b ((a.len : Nat) : Int)) = _
      rw [f85_round0, dnlt (Nat.lt_irrefl _)]; rfl
    · cases (List.range a.len).all fun j => deq s4 (a.fld j) (b.fld j) <;> rfl
  · have c1 : ((a.len : Int) != (b.len : Int)) = true := by simp; omega
    have c2 : (a.len == b.len) = false := by simp [hlen]
    rw [c1, cond_true, c2]; rfl


/-! laws.eqKind -/
abbrev C51 : FuncId → Option Sig := tabC [(83, eqSig (.sl s1)), (84, eqSig (.sl s2)), (85, eqSig (.sl s4))]
theorem hC51 : ∀ g sg, C51 g = some sg → ConOk Tryz.prog g sg := (tabC_cons con83 (tabC_cons con84 (tabC_cons con85 tabC_nil)))
abbrev keep51 : Nat → List Nat := fun _ => []
theorem f51_start (K : Nat) (a : Dat) (b : Dat) : evBody T C51 noL K keep51 Tryz.f51 [s5, s5] [.bool] [a, b] =
      (bif (!(((a.fld 0).str).toList == ((b.fld 0).str).toList)) then some [(Dat.b false)] else (bif ((a.fld 1).int != (b.fld 1).int) then some [(Dat.b false)] else (bif (fit M (.sl s1) (a.fld 2) && fit M (.sl s1) (b.fld 2)) then (bif (!(deq (.sl s1) (a.fld 2) (b.fld 2))) then some [(Dat.b false)] else (bif (fit M (.sl s2) (a.fld 3) && fit M (.sl s2) (b.fld 3)) then (bif (!(deq (.sl s2) (a.fld 3) (b.fld 3))) then some [(Dat.b false)] else (bif (fit M (.sl s4) (a.fld 4) && fit M (.sl s4) (b.fld 4)) then (bif (!(deq (.sl s4) (a.fld 4) (b.fld 4))) then some [(Dat.b false)] else some [(Dat.b true)]) else none)) else none)) else none))) := by kernel_rfl
theorem con51 : ConOk Tryz.prog 51 (eqSig s5) := con hM hD hT hC51 keep51 Tryz.func51 (by kernel_rfl) (by kernel_rfl) fun ds hl hp => by
  obtain ⟨a, b, rfl⟩ := ds_two hl
  obtain ⟨ha, hb⟩ := both (show (fit M s5 a && fit M s5 b) = true from hp)
  refine ⟨0, ?_⟩
  have h2 : (fit M (.sl s1) (a.fld 2) && fit M (.sl s1) (b.fld 2)) = true := and_both (fit_fld ha 2 rfl) (fit_fld hb 2 rfl)
  have h3 : (fit M (.sl s2) (a.fld 3) && fit M (.sl s2) (b.fld 3)) = true := and_both (fit_fld ha 3 rfl) (fit_fld hb 3 rfl)
  have h4 : (fit M (.sl s4) (a.fld 4) && fit M (.sl s4) (b.fld 4)) = true := and_both (fit_fld ha 4 rfl) (fit_fld hb 4 rfl)
  rw [f51_start]
  simp only [h2, h3, h4, cond_true]
  show _ = some [Dat.b (((a.fld 0).str.toList == (b.fld 0).str.toList) && (((a.fld 1).int == (b.fld 1).int) && (deq (.sl s1) (a.fld 2) (b.fld 2) && (deq (.sl s2) (a.fld 3) (b.fld 3) && (deq (.sl s4) (a.fld 4) (b.fld 4) && true)))))]
  exact (and_step (and_step (and_step (and_step (and_step rfl)))))


/-! laws.eqKindS -/
abbrev C28 : FuncId → Option Sig := tabC [(51, eqSig s5)]
theorem hC28 : ∀ g sg, C28 g = some sg → ConOk Tryz.prog g sg := (tabC_cons con51 tabC_nil)
abbrev keep28 : Nat → List Nat | 0 => [0, 1, 4, 5] | _ => []
def S28_0 (x0 : Dat) (x1 : Dat) (x5 : Int) : St := ⟨[.ro s5 x0, .ro s5 x1, .u, .u, .bool false, .int .i64 x5] ++ us 21, []⟩
theorem f28_round0 (K n : Nat) (x0 : Dat) (x1 : Dat) (x5 : Int) :
    loopE T C28 K keep28 Tryz.f28 0 0 (behind T C28 K keep28 Tryz.f28 [.bool] 0) (n + 1) (S28_0 x0 x1 x5) =
      (bif decide (x5 < (x0.len : Int)) then (bif (decide (0 ≤ x5) && decide (x5 < (x0.len : Int))) then (bif (decide (0 ≤ x5) && decide (x5 < (x1.len : Int))) then (bif (fit M s5 (x0.fld x5.toNat) && fit M s5 (x1.fld x5.toNat)) then (bif (!(deq s5 (x0.fld x5.toNat) (x1.fld x5.toNat))) then some [(Dat.b false)] else loopE T C28 K keep28 Tryz.f28 0 0 (behind T C28 K keep28 Tryz.f28 [.bool] 0) n (S28_0 x0 x1 (IntKind.i64.wrap (x5 + (1 : Int))))) else none) else none) else none) else some [(Dat.b true)]) := by kernel_rfl
theorem f28_start (K : Nat) (a : Dat) (b : Dat) : evBody T C28 noL K keep28 Tryz.f28 [(.sl s5), (.sl s5)] [.bool] [a, b] =
      (bif ((a.len : Int) != (b.len : Int)) then some [(Dat.b false)] else loopE T C28 K keep28 Tryz.f28 0 0 (behind T C28 K keep28 Tryz.f28 [.bool] 0) K (S28_0 a b (0 : Int))) := by kernel_rfl
theorem con28 : ConOk Tryz.prog 28 (eqSig (.sl s5)) := con hM hD hT hC28 keep28 Tryz.func28 (by kernel_rfl) (by kernel_rfl) fun ds hl hp => by
  obtain ⟨a, b, rfl⟩ := ds_two hl
  obtain ⟨ha, hb⟩ := both (show (fit M (.sl s5) a && fit M (.sl s5) b) = true from hp)
  obtain ⟨hn, he⟩ := fit_sl ha
  obtain ⟨hn2, he2⟩ := fit_sl hb
  refine ⟨a.len + 1, ?_⟩
  rw [f28_start]
  show _ = some [Dat.b (deq (.sl s5) a b)]
  rw [deq_sl]
  by_cases hlen : a.len = b.len
  · have c1 : ((a.len : Int) != (b.len : Int)) = false := by simp [hlen]
    have c2 : (a.len == b.len) = true := by simp [hlen]
    rw [c1, cond_false, c2, Bool.true_and]
    refine (all_loop (E := fun n j => loopE T C28 (a.len + 1) keep28 Tryz.f28 0 0 (behind T C28 (a.len + 1) keep28 Tryz.f28 [.bool] 0) n (S28_0 a b ((j : Nat) : Int))) (N := a.len) (p := fun j => deq s5 (a.fld j) (b.fld j)) (kT := some [.b true]) (kF := some [.b false]) (fun n j hj => ?_) (fun n => ?_)).trans ?_
    · have hj2 : j < b.len := by omega
      have f1 := he j hj
      have f2 := he2 j hj2
      show loopE T C28 (a.len + 1) keep28 Tryz.f28 0 0 (behind T C28 (a.len + 1) keep28 Tryz.f28 [.bool] 0) (n + 1) (S28_0 a b ((j : Nat) : Int)) = _
      rw [f28_round0]
      simp only [dlt hj, dge, dlt hj2, Int.toNat_natCast, f1, f2, Bool.and_self, cond_true, wrap_succ hj hn]
      cases deq s5 (a.fld j) (b.fld j) <;> rfl
    · show loopE T C28 (a.len + 1) keep28 Tryz.f28 0 0 (behind T C28 (a.len + 1) keep28 Tryz.f28 [.bool] 0) (n + 1) (S28_0 a b ((a.len : Nat) : Int)) = _
      rw [f28_round0, dnlt (Nat.lt_irrefl _)]; rfl
    · cases (List.range a.len).all fun j => deq s5 (a.fld j) (b.fld j) <;> rfl
  · have c1 : ((a.len : Int) != (b.len : Int)) = true := by simp; omega
    have c2 : (a.len == b.len) = false := by simp [hlen]
    rw [c1, cond_true, c2]; rfl


/-! laws.eqProg -/
abbrev C18 : FuncId → Option Sig := tabC [(28, eqSig (.sl s5))]
theorem hC18 : ∀ g sg, C18 g = some sg → ConOk Tryz.prog g sg := (tabC_cons con28 tabC_nil)
abbrev keep18 : Nat → List Nat := fun _ => []
theorem f18_start (K : Nat) (a : Dat) (b : Dat) : evBody T C18 noL K keep18 Tryz.f18 [s6, s6] [.bool] [a, b] =
      (bif (fit M (.sl s5) (a.fld 0) && fit M (.sl s5) (b.fld 0)) then (bif (!(deq (.sl s5) (a.fld 0) (b.fld 0))) then some [(Dat.b false)] else some [(Dat.b true)]) else none) := by kernel_rfl
theorem con18 : ConOk Tryz.prog 18 (eqSig s6) := con hM hD hT hC18 keep18 Tryz.func18 (by kernel_rfl) (by kernel_rfl) fun ds hl hp => by
  obtain ⟨a, b, rfl⟩ := ds_two hl
  obtain ⟨ha, hb⟩ := both (show (fit M s6 a && fit M s6 b) = true from hp)
  refine ⟨0, ?_⟩
  have h0 : (fit M (.sl s5) (a.fld 0) && fit M (.sl s5) (b.fld 0)) = true := and_both (fit_fld ha 0 rfl) (fit_fld hb 0 rfl)
  rw [f18_start]
  simp only [h0, cond_true]
  show _ = some [Dat.b (deq (.sl s5) (a.fld 0) (b.fld 0) && true)]
  exact (and_step rfl)


/-! laws.eqVal -/
abbrev C128 : FuncId → Option Sig := tabC []
theorem hC128 : ∀ g sg, C128 g = some sg → ConOk Tryz.prog g sg := tabC_nil
abbrev keep128 : Nat → List Nat := fun _ => []
theorem f128_start (K : Nat) (a : Dat) (b : Dat) : evBody T C128 noL K keep128 Tryz.f128 [s7, s7] [.bool] [a, b] =
      (bif (!((a.fld 0).bool == (b.fld 0).bool)) then some [(Dat.b false)] else (bif ((a.fld 1).int != (b.fld 1).int) then some [(Dat.b false)] else some [(Dat.b true)])) := by kernel_rfl
theorem con128 : ConOk Tryz.prog 128 (eqSig s7) := con hM hD hT hC128 keep128 Tryz.func128 (by kernel_rfl) (by kernel_rfl) fun ds hl hp => by
  obtain ⟨a, b, rfl⟩ := ds_two hl
  obtain ⟨ha, hb⟩ := both (show (fit M s7 a && fit M s7 b) = true from hp)
  refine ⟨0, ?_⟩
  rw [f128_start]
  show _ = some [Dat.b (((a.fld 0).bool == (b.fld 0).bool) && (((a.fld 1).int == (b.fld 1).int) && true))]
  exact (and_step (and_step rfl))


/-! laws.eqValS -/
abbrev C112 : FuncId → Option Sig := tabC [(128, eqSig s7)]
theorem hC112 : ∀ g sg, C112 g = some sg → ConOk Tryz.prog g sg := (tabC_cons con128 tabC_nil)
abbrev keep112 : Nat → List Nat | 0 => [0, 1, 4, 5] | _ => []
def S112_0 (x0 : Dat) (x1 : Dat) (x5 : Int) : St := ⟨[.ro s7 x0, .ro s7 x1, .u, .u, .bool false, .int .i64 x5] ++ us 21, []⟩
theorem f112_round0 (K n : Nat) (x0 : Dat) (x1 : Dat) (x5 : Int) :
    loopE T C112 K keep112 Tryz.f112 0 0 (behind T C112 K keep112 Tryz.f112 [.bool] 0) (n + 1) (S112_0 x0 x1 x5) =
      (bif decide (x5 < (x0.len : Int)) then (bif (decide (0 ≤ x5) && decide (x5 < (x0.len : Int))) then (bif (decide (0 ≤ x5) && decide (x5 < (x1.len : Int))) then (bif (fit M s7 (x0.fld x5.toNat) && fit M s7 (x1.fld x5.toNat)) then (bif (!(deq s7 (x0.fld x5.toNat) (x1.fld x5.toNat))) then some [(Dat.b false)] else loopE T C112 K keep112 Tryz.f112 0 0 (behind T C112 K keep112 Tryz.f112 [.bool] 0) n (S112_0 x0 x1 (IntKind.i64.wrap (x5 + (1 : Int))))) else none) else none) else none) else some [(Dat.b true)]) := by kernel_rfl
theorem f112_start (K : Nat) (a : Dat) (b : Dat) : evBody T C112 noL K keep112 Tryz.f112 [(.sl s7), (.sl s7)] [.bool] [a, b] =
      (bif ((a.len : Int) != (b.len : Int)) then some [(Dat.b false)] else loopE T C112 K keep112 Tryz.f112 0 0 (behind T C112 K keep112 Tryz.f112 [.bool] 0) K (S112_0 a b (0 : Int))) := by kernel_rfl
theorem con112 : ConOk Tryz.prog 112 (eqSig (.sl s7)) := con hM hD hT hC112 keep112 Tryz.func112 (by kernel_rfl) (by kernel_rfl) fun ds hl hp => by
  obtain ⟨a, b, rfl⟩ := ds_two hl
  obtain ⟨ha, hb⟩ := both (show (fit M (.sl s7) a && fit M (.sl s7) b) = true from hp)
  obtain ⟨hn, he⟩ := fit_sl ha
  obtain ⟨hn2, he2⟩ := fit_sl hb
  refine ⟨a.len + 1, ?_⟩
  rw [f112_start]
  show _ = some [Dat.b (deq (.sl s7) a b)]
  rw [deq_sl]
  by_cases hlen : a.len = b.len
  · have c1 : ((a.len : Int) != (b.len : Int)) = false := by simp [hlen]
    have c2 : (a.len == b.len) = true := by simp [hlen]
    rw [c1, cond_false, c2, Bool.true_and]
    refine (all_loop (E := fun n j => loopE T C112 (a.len + 1) keep112 Tryz.f112 0 0 (behind T C112 (a.len + 1) keep112 Tryz.f112 [.bool] 0) n (S112_0 a b ((j : Nat) : Int))) (N := a.len) (p := fun j => deq s7 (a.fld j) (b.fld j)) (kT := some [.b true]) (kF := some [.b false]) (fun n j hj => ?_) (fun n => ?_)).trans ?_
    · have hj2 : j < b.len := by omega
      have f1 := he j hj
      have f2 := he2 j hj2
      show loopE T C112 (a.len + 1) keep112 Tryz.f112 0 0 (behind T C112 (a.len + 1) keep112 Tryz.f112 [.bool] 0) (n + 1) (S112_0 a b ((j : Nat) : Int)) = _
      rw [f112_round0]
      simp only [dlt hj, dge, dlt hj2, Int.toNat_natCast, f1, f2, Bool.and_self, cond_true, wrap_succ hj hn]
      cases deq s7 (a.fld j) (b.fld j) <;> rfl
    · show loopE T C112 (a.len + 1) keep112 Tryz.f112 0 0 (behind T C112 (a.len + 1) keep112 Tryz.f112 [.bool] 0) (n + 1) (S112_0 a b ((a.len : Nat) : Int)) = _
      rw [f112_round0, dnlt (Nat.lt_irrefl _)]; rfl
    · cases (List.range a.len).all fun j => deq s7 (a.fld j) (b.fld j) <;> rfl
  · have c1 : ((a.len : Int) != (b.len : Int)) = true := by simp; omega
    have c2 : (a.len == b.len) = false := by simp [hlen]
    rw [c1, cond_true, c2]; rfl


/-! laws.eqCopy -/
abbrev C86 : FuncId → Option Sig := tabC [(112, eqSig (.sl s7))]
theorem hC86 : ∀ g sg, C86 g = some sg → ConOk Tryz.prog g sg := (tabC_cons con112 tabC_nil)
abbrev keep86 : Nat → List Nat := fun _ => []
theorem f86_start (K : Nat) (a : Dat) (b : Dat) : evBody T C86 noL K keep86 Tryz.f86 [s8, s8] [.bool] [a, b] =
      (bif ((a.fld 0).int != (b.fld 0).int) then some [(Dat.b false)] else (bif ((a.fld 1).int != (b.fld 1).int) then some [(Dat.b false)] else (bif ((a.fld 2).int != (b.fld 2).int) then some [(Dat.b false)] else (bif (!((a.fld 3).bool == (b.fld 3).bool)) then some [(Dat.b false)] else (bif (fit M (.sl s7) (a.fld 4) && fit M (.sl s7) (b.fld 4)) then (bif (!(deq (.sl s7) (a.fld 4) (b.fld 4))) then some [(Dat.b false)] else (bif (fit M (.sl s7) (a.fld 5) && fit M (.sl s7) (b.fld 5)) then (bif (!(deq (.sl s7) (a.fld 5) (b.fld 5))) then some [(Dat.b false)] else some [(Dat.b true)]) else none)) else none))))) := by kernel_rfl
theorem con86 : ConOk Tryz.prog 86 (eqSig s8) := con hM hD hT hC86 keep86 Tryz.func86 (by kernel_rfl) (by kernel_rfl) fun ds hl hp => by
  obtain ⟨a, b, rfl⟩ := ds_two hl
  obtain ⟨ha, hb⟩ := both (show (fit M s8 a && fit M s8 b) = true from hp)
  refine ⟨0, ?_⟩
  have h4 : (fit M (.sl s7) (a.fld 4) && fit M (.sl s7) (b.fld 4)) = true := and_both (fit_fld ha 4 rfl) (fit_fld hb 4 rfl)
  have h5 : (fit M (.sl s7) (a.fld 5) && fit M (.sl s7) (b.fld 5)) = true := and_both (fit_fld ha 5 rfl) (fit_fld hb 5 rfl)
  rw [f86_start]
  simp only [h4, h5, cond_true]
  show _ = some [Dat.b (((a.fld 0).int == (b.fld 0).int) && (((a.fld 1).int == (b.fld 1).int) && (((a.fld 2).int == (b.fld 2).int) && (((a.fld 3).bool == (b.fld 3).bool) && (deq (.sl s7) (a.fld 4) (b.fld 4) && (deq (.sl s7) (a.fld 5) (b.fld 5) && true))))))]
  exact (and_step (and_step (and_step (and_step (and_step (and_step rfl))))))


/-! laws.eqCopyS -/
abbrev C52 : FuncId → Option Sig := tabC [(86, eqSig s8)]
theorem hC52 : ∀ g sg, C52 g = some sg → ConOk Tryz.prog g sg := (tabC_cons con86 tabC_nil)
abbrev keep52 : Nat → List Nat | 0 => [0, 1, 4, 5] | _ => []
def S52_0 (x0 : Dat) (x1 : Dat) (x5 : Int) : St := ⟨[.ro s8 x0, .ro s8 x1, .u, .u, .bool false, .int .i64 x5] ++ us 21, []⟩
theorem f52_round0 (K n : Nat) (x0 : Dat) (x1 : Dat) (x5 : Int) :
    loopE T C52 K keep52 Tryz.f52 0 0 (behind T C52 K keep52 Tryz.f52 [.bool] 0) (n + 1) (S52_0 x0 x1 x5) =
      (bif decide (x5 < (x0.len : Int)) then (bif (decide (0 ≤ x5) && decide (x5 < (x0.len : Int))) then (bif (decide (0 ≤ x5) && decide (x5 < (x1.len : Int))) then (bif (fit M s8 (x0.fld x5.toNat) && fit M s8 (x1.fld x5.toNat)) then (bif (!(deq s8 (x0.fld x5.toNat) (x1.fld x5.toNat))) then some [(Dat.b false)] else loopE T C52 K keep52 Tryz.f52 0 0 (behind T C52 K keep52 Tryz.f52 [.bool] 0) n (S52_0 x0 x1 (IntKind.i64.wrap (x5 + (1 : Int))))) else none) else none) else none) else some [(Dat.b true)]) := by kernel_rfl
theorem f52_start (K : Nat) (a : Dat) (b : Dat) : evBody T C52 noL K keep52 Tryz.f52 [(.sl s8), (.sl s8)] [.bool] [a, b] =
      (bif ((a.len : Int) != (b.len : Int)) then some [(Dat.b false)] else loopE T C52 K keep52 Tryz.f52 0 0 (behind T C52 K keep52 Tryz.f52 [.bool] 0) K (S52_0 a b (0 : Int))) := by kernel_rfl
theorem con52 : ConOk Tryz.prog 52 (eqSig (.sl s8)) := con hM hD hT hC52 keep52 Tryz.func52 (by kernel_rfl) (by kernel_rfl) fun ds hl hp => by
  obtain ⟨a, b, rfl⟩ := ds_two hl
  obtain ⟨ha, hb⟩ := both (show (fit M (.sl s8) a && fit M (.sl s8) b) = true from hp)
  obtain ⟨hn, he⟩ := fit_sl ha
  obtain ⟨hn2, he2⟩ := fit_sl hb
  refine ⟨a.len + 1, ?_⟩
  rw [f52_start]
  show _ = some [Dat.b (deq (.sl s8) a b)]
  rw [deq_sl]
  by_cases hlen : a.len = b.len
  · have c1 : ((a.len : Int) != (b.len : Int)) = false := by simp [hlen]
    have c2 : (a.len == b.len) = true := by simp [hlen]
    rw [c1, cond_false, c2, Bool.true_and]
    refine (all_loop (E := fun n j => loopE T C52 (a.len + 1) keep52 Tryz.f52 0 0 (behind T C52 (a.len + 1) keep52 Tryz.f52 [.bool] 0) n (S52_0 a b ((j : Nat) : Int))) (N := a.len) (p := fun j => deq s8 (a.fld j) (b.fld j)) (kT := some [.b true]) (kF := some [.b false]) (fun n j hj => ?_) (fun n => ?_)).trans ?_
    · have hj2 : j < b.len := by omega
      have f1 := he j hj
      have f2 := he2 j hj2
      show loopE T C52 (a.len + 1) keep52 Tryz.f52 0 0 (behind T C52 (a.len + 1) keep52 Tryz.f52 [.bool] 0) (n + 1) (S52_0 a b ((j : Nat) : Int)) = _
      rw [f52_round0]
      simp only [dlt hj, dge, dlt hj2, Int.toNat_natCast, f1, f2, Bool.and_self, cond_true, wrap_succ hj hn]
      cases deq s8 (a.fld j) (b.fld j) <;> rfl
    · show loopE T C52 (a.len + 1) keep52 Tryz.f52 0 0 (behind T C52 (a.len + 1) keep52 Tryz.f52 [.bool] 0) (n + 1) (S52_0 a b ((a.len : Nat) : Int)) = _
      rw [f52_round0, dnlt (Nat.lt_irrefl _)]; rfl
    · cases (List.range a.len).all fun j => deq s8 (a.fld j) (b.fld j) <;> rfl
  · have c1 : ((a.len : Int) != (b.len : Int)) = true := by simp; omega
    have c2 : (a.len == b.len) = false := by simp [hlen]
    rw [c1, cond_true, c2]; rfl



end Go.F2
