/- Contracts of functions, by program. -/
import Derived.Test.YthdgcninegkalabDoorEvY
import Derived.Test.YthdgcninegkalabDoorFVal
import Derived.Test.YthdgcninegkalabDoorFL
import Derived.Test.YthdgcninegkalabDoorRows
namespace Go.F1
open Go Go.Ev Go.Proofs
set_option maxRecDepth 100000
abbrev tabName : String := Go.Proofs.YthdgcninegkalabDoor.Rows.fnExactObjectTextRow.named.getD 0 default
theorem tabG : Tryd.prog.globalNamed tabName = some 1 := by kernel_rfl
abbrev E : Env := tabEnv Tryd.prog tabName .u64 Lib.pow10Tab 1 tabG
theorem hM : Tryd.prog.follows .mixedOrders = true := by kernel_rfl
theorem hD : 16 ≤ Tryd.prog.depth := of_decide_eq_true (by kernel_rfl)
abbrev tInt : Ty := .int .i64
abbrev s0 : Ty := (.st [tInt, tInt, .bool, (.int .u8)])
abbrev s1 : Ty := (.st [tInt, tInt, .str, .str])
abbrev s2 : Ty := (.st [.str, .str])
abbrev s3 : Ty := (.st [tInt, tInt])
abbrev s4 : Ty := (.st [.str, tInt, (.sl .str), .str, tInt, (.sl s3)])
abbrev s5 : Ty := (.st [.str, tInt, (.sl s1), (.sl s2), (.sl s4)])
abbrev s6 : Ty := (.st [(.sl s5)])
abbrev s7 : Ty := (.st [.bool, tInt])
abbrev s8 : Ty := (.st [tInt, tInt, (.sl s7)])
def tab : TyTab := [none, none, none, some tInt, some (.bool), some (.int .u8), none, none, none, some (.str)] ++ List.replicate 12 none ++ [some (.sl s5), none, some s6, some (.sl s7), none, some s8, none, none, none, some (.sl s5), none, some s6, none, some (.sl s7), none, some s8] ++ List.replicate 7 none ++ [some (.sl s1), some (.sl s2), some (.sl s4), none, some s5, none, some s2, none, none, some s7, none, none, some (.sl .str), none, none, none, none, some (.sl s1), some (.sl s2), some (.sl s4), none, some s5, none, none, none, none, some s7, none, some (.sl (.int .u8))] ++ List.replicate 23 none ++ [some s1, none, some s2, none, some (.sl s3), none, some s4, some s1, none, none, some (.sl s3), none, some s4] ++ List.replicate 21 none ++ [some s3, none, some s3] ++ List.replicate 24 none
abbrev T : TypeId → Option Ty := TyTab.get tab
theorem hT : ∀ t ty, T t = some ty → TyOk Tryd.prog t ty := tab_ok (by kernel_rfl)

/-! laws.szConst -/
abbrev C49 : FuncId → Option Sig := tabC []
theorem hC49 : ∀ g sg, C49 g = some sg → ConOk E Tryd.prog g sg := tabC_nil
abbrev keep49 : Nat → List Nat := fun _ => []
theorem f49_start (K : Nat) (a : Dat) (l : Dat) : evBody T C49 noL K keep49 Tryd.f49 [s1, tInt] [tInt] [a, l] =
      (bif decide ((IntKind.i64.wrap (l.int - (((a.fld 2).str).size : Int))) < (0 : Int)) then some [(Dat.i (-1 : Int))] else (bif decide ((IntKind.i64.wrap ((IntKind.i64.wrap (l.int - (((a.fld 2).str).size : Int))) - (((a.fld 3).str).size : Int))) < (0 : Int)) then some [(Dat.i (-1 : Int))] else some [(Dat.i (IntKind.i64.wrap ((IntKind.i64.wrap (l.int - (((a.fld 2).str).size : Int))) - (((a.fld 3).str).size : Int))))])) := by kernel_rfl
theorem con49 : ConOk E Tryd.prog 49 (szSig s1) := con hM hD hT hC49 keep49 Tryd.func49 (by kernel_rfl) (by kernel_rfl) fun ds hl hp => by
  obtain ⟨a, l, rfl⟩ := ds_two hl
  obtain ⟨ha, h0, h1⟩ := sz_pre (show (fit M s1 a && (decide (0 ≤ l.int) && decide (l.int ≤ 1048576))) = true from hp)
  refine ⟨0, ?_⟩
  have k3 : (a.fld 3).str.size ≤ M := Nat.le_of_ble_eq_true (show Nat.ble _ _ = true from fit_fld (t := .str) ha 3 rfl)
  have k2 : (a.fld 2).str.size ≤ M := Nat.le_of_ble_eq_true (show Nat.ble _ _ = true from fit_fld (t := .str) ha 2 rfl)
  have hw : wt s1 a = ((a.fld 2).str.size + ((a.fld 3).str.size + 0)) := by
    simp only [wt_st, wts_cons, wts_nil, wt_int, wt_str, Nat.zero_add, Nat.add_zero]
  show _ = some [Dat.i (szr (wt s1 a) l.int)]
  rw [f49_start, hw]
  exact sz_len (k := fun l0 => (bif decide ((IntKind.i64.wrap (l0 - (((a.fld 3).str).size : Int))) < (0 : Int)) then some [(Dat.i (-1 : Int))] else some [(Dat.i (IntKind.i64.wrap (l0 - (((a.fld 3).str).size : Int))))])) k2 h0 h1 (fun l0 p0 q0 => sz_len (k := fun l1 => some [(Dat.i l1)]) k3 p0 q0 (fun l1 p1 q1 => (by rw [szr_zero p1])))


/-! laws.szConstS -/
abbrev C35 : FuncId → Option Sig := tabC [(49, szSig s1)]
theorem hC35 : ∀ g sg, C35 g = some sg → ConOk E Tryd.prog g sg := (tabC_cons con49 tabC_nil)
abbrev keep35 : Nat → List Nat | 0 => [0, 1, 4, 5] | _ => []
def S35_0 (x0 : Dat) (x1 : Int) (x5 : Int) : St := ⟨[.ro s1 x0, .int .i64 x1, .u, .u, .int .i64 (0 : Int), .int .i64 x5] ++ us 21, []⟩
theorem f35_round0 (K n : Nat) (x0 : Dat) (x1 : Int) (x5 : Int) :
    loopE T C35 K keep35 Tryd.f35 0 0 (behind T C35 K keep35 Tryd.f35 [tInt] 0) (n + 1) (S35_0 x0 x1 x5) =
      (bif decide (x5 < (x0.len : Int)) then (bif (decide (0 ≤ x5) && decide (x5 < (x0.len : Int))) then (bif (fit M s1 (x0.fld x5.toNat) && (decide (0 ≤ x1) && decide (x1 ≤ 1048576))) then (bif decide ((szR s1 (x0.fld x5.toNat) x1) < (0 : Int)) then some [(Dat.i (-1 : Int))] else loopE T C35 K keep35 Tryd.f35 0 0 (behind T C35 K keep35 Tryd.f35 [tInt] 0) n (S35_0 x0 (szR s1 (x0.fld x5.toNat) x1) (IntKind.i64.wrap (x5 + (1 : Int))))) else none) else none) else some [(Dat.i x1)]) := by kernel_rfl
theorem f35_start (K : Nat) (a : Dat) (l : Dat) : evBody T C35 noL K keep35 Tryd.f35 [(.sl s1), tInt] [tInt] [a, l] =
      (bif decide ((IntKind.i64.wrap (l.int - (a.len : Int))) < (0 : Int)) then some [(Dat.i (-1 : Int))] else loopE T C35 K keep35 Tryd.f35 0 0 (behind T C35 K keep35 Tryd.f35 [tInt] 0) K (S35_0 a (IntKind.i64.wrap (l.int - (a.len : Int))) (0 : Int))) := by kernel_rfl
theorem con35 : ConOk E Tryd.prog 35 (szSig (.sl s1)) := con hM hD hT hC35 keep35 Tryd.func35 (by kernel_rfl) (by kernel_rfl) fun ds hl hp => by
  obtain ⟨a, l, rfl⟩ := ds_two hl
  obtain ⟨ha, h0, h1⟩ := sz_pre (show (fit M (.sl s1) a && (decide (0 ≤ l.int) && decide (l.int ≤ 1048576))) = true from hp)
  obtain ⟨hn, he⟩ := fit_sl ha
  refine ⟨a.len + 1, ?_⟩
  show _ = some [Dat.i (szr (wt (.sl s1) a) l.int)]
  rw [wt_sl]
  rw [f35_start]
  refine sz_len (k := fun l' => loopE T C35 (a.len + 1) keep35 Tryd.f35 0 0 (behind T C35 (a.len + 1) keep35 Tryd.f35 [tInt] 0) (a.len + 1) (S35_0 a l' 0)) hn h0 h1 fun l' p0 p1 => ?_
  exact sz_loop (E := fun n j l => loopE T C35 (a.len + 1) keep35 Tryd.f35 0 0 (behind T C35 (a.len + 1) keep35 Tryd.f35 [tInt] 0) n (S35_0 a l (j : Int))) (N := a.len) (g := fun j => wt s1 (a.fld j)) (fun n j l hj q0 q1 => by
    have f1 := he j hj
    have e1 : decide (0 ≤ l) = true := by simpa using q0
    have e2 : decide (l ≤ 1048576) = true := by simpa using q1
    show loopE T C35 (a.len + 1) keep35 Tryd.f35 0 0 (behind T C35 (a.len + 1) keep35 Tryd.f35 [tInt] 0) (n + 1) (S35_0 a l (j : Int)) = _
    rw [f35_round0]
    simp only [dlt hj, dge, Int.toNat_natCast, f1, e1, e2, Bool.and_self, cond_true, wrap_succ hj hn]
    rfl)
    (fun n l => by
    show loopE T C35 (a.len + 1) keep35 Tryd.f35 0 0 (behind T C35 (a.len + 1) keep35 Tryd.f35 [tInt] 0) (n + 1) (S35_0 a l (a.len : Int)) = _
    rw [f35_round0, dnlt (Nat.lt_irrefl _)]; rfl) l' p0 p1


/-! laws.szField -/
abbrev C50 : FuncId → Option Sig := tabC []
theorem hC50 : ∀ g sg, C50 g = some sg → ConOk E Tryd.prog g sg := tabC_nil
abbrev keep50 : Nat → List Nat := fun _ => []
theorem f50_start (K : Nat) (a : Dat) (l : Dat) : evBody T C50 noL K keep50 Tryd.f50 [s2, tInt] [tInt] [a, l] =
      (bif decide ((IntKind.i64.wrap (l.int - (((a.fld 0).str).size : Int))) < (0 : Int)) then some [(Dat.i (-1 : Int))] else (bif decide ((IntKind.i64.wrap ((IntKind.i64.wrap (l.int - (((a.fld 0).str).size : Int))) - (((a.fld 1).str).size : Int))) < (0 : Int)) then some [(Dat.i (-1 : Int))] else some [(Dat.i (IntKind.i64.wrap ((IntKind.i64.wrap (l.int - (((a.fld 0).str).size : Int))) - (((a.fld 1).str).size : Int))))])) := by kernel_rfl
theorem con50 : ConOk E Tryd.prog 50 (szSig s2) := con hM hD hT hC50 keep50 Tryd.func50 (by kernel_rfl) (by kernel_rfl) fun ds hl hp => by
  obtain ⟨a, l, rfl⟩ := ds_two hl
  obtain ⟨ha, h0, h1⟩ := sz_pre (show (fit M s2 a && (decide (0 ≤ l.int) && decide (l.int ≤ 1048576))) = true from hp)
  refine ⟨0, ?_⟩
  have k1 : (a.fld 1).str.size ≤ M := Nat.le_of_ble_eq_true (show Nat.ble _ _ = true from fit_fld (t := .str) ha 1 rfl)
  have k0 : (a.fld 0).str.size ≤ M := Nat.le_of_ble_eq_true (show Nat.ble _ _ = true from fit_fld (t := .str) ha 0 rfl)
  have hw : wt s2 a = ((a.fld 0).str.size + ((a.fld 1).str.size + 0)) := by
    simp only [wt_st, wts_cons, wts_nil, wt_str, Nat.zero_add, Nat.add_zero]
  show _ = some [Dat.i (szr (wt s2 a) l.int)]
  rw [f50_start, hw]
  exact sz_len (k := fun l0 => (bif decide ((IntKind.i64.wrap (l0 - (((a.fld 1).str).size : Int))) < (0 : Int)) then some [(Dat.i (-1 : Int))] else some [(Dat.i (IntKind.i64.wrap (l0 - (((a.fld 1).str).size : Int))))])) k0 h0 h1 (fun l0 p0 q0 => sz_len (k := fun l1 => some [(Dat.i l1)]) k1 p0 q0 (fun l1 p1 q1 => (by rw [szr_zero p1])))


/-! laws.szFieldS -/
abbrev C36 : FuncId → Option Sig := tabC [(50, szSig s2)]
theorem hC36 : ∀ g sg, C36 g = some sg → ConOk E Tryd.prog g sg := (tabC_cons con50 tabC_nil)
abbrev keep36 : Nat → List Nat | 0 => [0, 1, 4, 5] | _ => []
def S36_0 (x0 : Dat) (x1 : Int) (x5 : Int) : St := ⟨[.ro s2 x0, .int .i64 x1, .u, .u, .int .i64 (0 : Int), .int .i64 x5] ++ us 21, []⟩
theorem f36_round0 (K n : Nat) (x0 : Dat) (x1 : Int) (x5 : Int) :
    loopE T C36 K keep36 Tryd.f36 0 0 (behind T C36 K keep36 Tryd.f36 [tInt] 0) (n + 1) (S36_0 x0 x1 x5) =
      (bif decide (x5 < (x0.len : Int)) then (bif (decide (0 ≤ x5) && decide (x5 < (x0.len : Int))) then (bif (fit M s2 (x0.fld x5.toNat) && (decide (0 ≤ x1) && decide (x1 ≤ 1048576))) then (bif decide ((szR s2 (x0.fld x5.toNat) x1) < (0 : Int)) then some [(Dat.i (-1 : Int))] else loopE T C36 K keep36 Tryd.f36 0 0 (behind T C36 K keep36 Tryd.f36 [tInt] 0) n (S36_0 x0 (szR s2 (x0.fld x5.toNat) x1) (IntKind.i64.wrap (x5 + (1 : Int))))) else none) else none) else some [(Dat.i x1)]) := by kernel_rfl
theorem f36_start (K : Nat) (a : Dat) (l : Dat) : evBody T C36 noL K keep36 Tryd.f36 [(.sl s2), tInt] [tInt] [a, l] =
      (bif decide ((IntKind.i64.wrap (l.int - (a.len : Int))) < (0 : Int)) then some [(Dat.i (-1 : Int))] else loopE T C36 K keep36 Tryd.f36 0 0 (behind T C36 K keep36 Tryd.f36 [tInt] 0) K (S36_0 a (IntKind.i64.wrap (l.int - (a.len : Int))) (0 : Int))) := by kernel_rfl
theorem con36 : ConOk E Tryd.prog 36 (szSig (.sl s2)) := con hM hD hT hC36 keep36 Tryd.func36 (by kernel_rfl) (by kernel_rfl) fun ds hl hp => by
  obtain ⟨a, l, rfl⟩ := ds_two hl
  obtain ⟨ha, h0, h1⟩ := sz_pre (show (fit M (.sl s2) a && (decide (0 ≤ l.int) && decide (l.int ≤ 1048576))) = true from hp)
  obtain ⟨hn, he⟩ := fit_sl ha
  refine ⟨a.len + 1, ?_⟩
  show _ = some [Dat.i (szr (wt (.sl s2) a) l.int)]
  rw [wt_sl]
  rw [f36_start]
  refine sz_len (k := fun l' => loopE T C36 (a.len + 1) keep36 Tryd.f36 0 0 (behind T C36 (a.len + 1) keep36 Tryd.f36 [tInt] 0) (a.len + 1) (S36_0 a l' 0)) hn h0 h1 fun l' p0 p1 => ?_
  exact sz_loop (E := fun n j l => loopE T C36 (a.len + 1) keep36 Tryd.f36 0 0 (behind T C36 (a.len + 1) keep36 Tryd.f36 [tInt] 0) n (S36_0 a l (j : Int))) (N := a.len) (g := fun j => wt s2 (a.fld j)) (fun n j l hj q0 q1 => by
    have f1 := he j hj
    have e1 : decide (0 ≤ l) = true := by simpa using q0
    have e2 : decide (l ≤ 1048576) = true := by simpa using q1
    show loopE T C36 (a.len + 1) keep36 Tryd.f36 0 0 (behind T C36 (a.len + 1) keep36 Tryd.f36 [tInt] 0) (n + 1) (S36_0 a l (j : Int)) = _
    rw [f36_round0]
    simp only [dlt hj, dge, Int.toNat_natCast, f1, e1, e2, Bool.and_self, cond_true, wrap_succ hj hn]
    rfl)
    (fun n l => by
    show loopE T C36 (a.len + 1) keep36 Tryd.f36 0 0 (behind T C36 (a.len + 1) keep36 Tryd.f36 [tInt] 0) (n + 1) (S36_0 a l (a.len : Int)) = _
    rw [f36_round0, dnlt (Nat.lt_irrefl _)]; rfl) l' p0 p1


/-! laws.szStringS -/
abbrev C61 : FuncId → Option Sig := tabC []
theorem hC61 : ∀ g sg, C61 g = some sg → ConOk E Tryd.prog g sg := tabC_nil
abbrev keep61 : Nat → List Nat | 0 => [0, 1, 4, 5] | _ => []
def S61_0 (x0 : Dat) (x1 : Int) (x5 : Int) : St := ⟨[.ro .str x0, .int .i64 x1, .u, .u, .int .i64 (0 : Int), .int .i64 x5] ++ us 22, []⟩
theorem f61_round0 (K n : Nat) (x0 : Dat) (x1 : Int) (x5 : Int) :
    loopE T C61 K keep61 Tryd.f61 0 0 (behind T C61 K keep61 Tryd.f61 [tInt] 0) (n + 1) (S61_0 x0 x1 x5) =
      (bif decide (x5 < (x0.len : Int)) then (bif (decide (0 ≤ x5) && decide (x5 < (x0.len : Int))) then (bif decide ((IntKind.i64.wrap (x1 - (((x0.fld x5.toNat).str).size : Int))) < (0 : Int)) then some [(Dat.i (-1 : Int))] else loopE T C61 K keep61 Tryd.f61 0 0 (behind T C61 K keep61 Tryd.f61 [tInt] 0) n (S61_0 x0 (IntKind.i64.wrap (x1 - (((x0.fld x5.toNat).str).size : Int))) (IntKind.i64.wrap (x5 + (1 : Int))))) else none) else some [(Dat.i x1)]) := by kernel_rfl
theorem f61_start (K : Nat) (a : Dat) (l : Dat) : evBody T C61 noL K keep61 Tryd.f61 [(.sl .str), tInt] [tInt] [a, l] =
      (bif decide ((IntKind.i64.wrap (l.int - (a.len : Int))) < (0 : Int)) then some [(Dat.i (-1 : Int))] else loopE T C61 K keep61 Tryd.f61 0 0 (behind T C61 K keep61 Tryd.f61 [tInt] 0) K (S61_0 a (IntKind.i64.wrap (l.int - (a.len : Int))) (0 : Int))) := by kernel_rfl
theorem con61 : ConOk E Tryd.prog 61 (szSig (.sl .str)) := con hM hD hT hC61 keep61 Tryd.func61 (by kernel_rfl) (by kernel_rfl) fun ds hl hp => by
  obtain ⟨a, l, rfl⟩ := ds_two hl
  obtain ⟨ha, h0, h1⟩ := sz_pre (show (fit M (.sl .str) a && (decide (0 ≤ l.int) && decide (l.int ≤ 1048576))) = true from hp)
  obtain ⟨hn, he⟩ := fit_sl ha
  refine ⟨a.len + 1, ?_⟩
  show _ = some [Dat.i (szr (wt (.sl .str) a) l.int)]
  rw [wt_sl]
  rw [f61_start]
  refine sz_len (k := fun l' => loopE T C61 (a.len + 1) keep61 Tryd.f61 0 0 (behind T C61 (a.len + 1) keep61 Tryd.f61 [tInt] 0) (a.len + 1) (S61_0 a l' 0)) hn h0 h1 fun l' p0 p1 => ?_
  exact sz_loop (E := fun n j l => loopE T C61 (a.len + 1) keep61 Tryd.f61 0 0 (behind T C61 (a.len + 1) keep61 Tryd.f61 [tInt] 0) n (S61_0 a l (j : Int))) (N := a.len) (g := fun j => wt .str (a.fld j)) (fun n j l hj q0 q1 => by
    have f1 := he j hj
    show loopE T C61 (a.len + 1) keep61 Tryd.f61 0 0 (behind T C61 (a.len + 1) keep61 Tryd.f61 [tInt] 0) (n + 1) (S61_0 a l (j : Int)) = _
    rw [f61_round0]
    simp only [dlt hj, dge, Int.toNat_natCast, Bool.and_self, cond_true, wrap_succ hj hn]
    exact szl_step (E := fun z => loopE T C61 (a.len + 1) keep61 Tryd.f61 0 0 (behind T C61 (a.len + 1) keep61 Tryd.f61 [tInt] 0) n (S61_0 a z (((j + 1 : Nat)) : Int))) (fit_str f1) q0 q1)
    (fun n l => by
    show loopE T C61 (a.len + 1) keep61 Tryd.f61 0 0 (behind T C61 (a.len + 1) keep61 Tryd.f61 [tInt] 0) (n + 1) (S61_0 a l (a.len : Int)) = _
    rw [f61_round0, dnlt (Nat.lt_irrefl _)]; rfl) l' p0 p1


/-! laws.szInsS -/
abbrev C62 : FuncId → Option Sig := tabC []
theorem hC62 : ∀ g sg, C62 g = some sg → ConOk E Tryd.prog g sg := tabC_nil
abbrev keep62 : Nat → List Nat := fun _ => []
theorem f62_start (K : Nat) (a : Dat) (l : Dat) : evBody T C62 noL K keep62 Tryd.f62 [(.sl s3), tInt] [tInt] [a, l] =
      (bif decide ((IntKind.i64.wrap (l.int - (a.len : Int))) < (0 : Int)) then some [(Dat.i (-1 : Int))] else some [(Dat.i (IntKind.i64.wrap (l.int - (a.len : Int))))]) := by kernel_rfl
theorem con62 : ConOk E Tryd.prog 62 (szSig (.sl s3)) := con hM hD hT hC62 keep62 Tryd.func62 (by kernel_rfl) (by kernel_rfl) fun ds hl hp => by
  obtain ⟨a, l, rfl⟩ := ds_two hl
  obtain ⟨ha, h0, h1⟩ := sz_pre (show (fit M (.sl s3) a && (decide (0 ≤ l.int) && decide (l.int ≤ 1048576))) = true from hp)
  obtain ⟨hn, he⟩ := fit_sl ha
  refine ⟨0, ?_⟩
  show _ = some [Dat.i (szr (wt (.sl s3) a) l.int)]
  rw [wt_sl, f62_start, sum_zero (fun i => show wt s3 (a.fld i) = 0 from rfl)]
  exact sz_len hn h0 h1 fun l' p0 _ => by rw [szr_zero p0]


/-! laws.szCode -/
abbrev C51 : FuncId → Option Sig := tabC [(61, szSig (.sl .str)), (62, szSig (.sl s3))]
theorem hC51 : ∀ g sg, C51 g = some sg → ConOk E Tryd.prog g sg := (tabC_cons con61 (tabC_cons con62 tabC_nil))
abbrev keep51 : Nat → List Nat := fun _ => []
theorem f51_start (K : Nat) (a : Dat) (l : Dat) : evBody T C51 noL K keep51 Tryd.f51 [s4, tInt] [tInt] [a, l] =
      (bif decide ((IntKind.i64.wrap (l.int - (((a.fld 0).str).size : Int))) < (0 : Int)) then some [(Dat.i (-1 : Int))] else (bif (fit M (.sl .str) (a.fld 2) && (decide (0 ≤ (IntKind.i64.wrap (l.int - (((a.fld 0).str).size : Int)))) && decide ((IntKind.i64.wrap (l.int - (((a.fld 0).str).size : Int))) ≤ 1048576))) then (bif decide ((szR (.sl .str) (a.fld 2) (IntKind.i64.wrap (l.int - (((a.fld 0).str).size : Int)))) < (0 : Int)) then some [(Dat.i (-1 : Int))] else (bif decide ((IntKind.i64.wrap ((szR (.sl .str) (a.fld 2) (IntKind.i64.wrap (l.int - (((a.fld 0).str).size : Int)))) - (((a.fld 3).str).size : Int))) < (0 : Int)) then some [(Dat.i (-1 : Int))] else (bif (fit M (.sl s3) (a.fld 5) && (decide (0 ≤ (IntKind.i64.wrap ((szR (.sl .str) (a.fld 2) (IntKind.i64.wrap (l.int - (((a.fld 0).str).size : Int)))) - (((a.fld 3).str).size : Int)))) && decide ((IntKind.i64.wrap ((szR (.sl .str) (a.fld 2) (IntKind.i64.wrap (l.int - (((a.fld 0).str).size : Int)))) - (((a.fld 3).str).size : Int))) ≤ 1048576))) then (bif decide ((szR (.sl s3) (a.fld 5) (IntKind.i64.wrap ((szR (.sl .str) (a.fld 2) (IntKind.i64.wrap (l.int - (((a.fld 0).str).size : Int)))) - (((a.fld 3).str).size : Int)))) < (0 : Int)) then some [(Dat.i (-1 : Int))] else some [(Dat.i (szR (.sl s3) (a.fld 5) (IntKind.i64.wrap ((szR (.sl .str) (a.fld 2) (IntKind.i64.wrap (l.int - (((a.fld 0).str).size : Int)))) - (((a.fld 3).str).size : Int)))))]) else none))) else none)) := by kernel_rfl
theorem con51 : ConOk E Tryd.prog 51 (szSig s4) := con hM hD hT hC51 keep51 Tryd.func51 (by kernel_rfl) (by kernel_rfl) fun ds hl hp => by
  obtain ⟨a, l, rfl⟩ := ds_two hl
  obtain ⟨ha, h0, h1⟩ := sz_pre (show (fit M s4 a && (decide (0 ≤ l.int) && decide (l.int ≤ 1048576))) = true from hp)
  refine ⟨0, ?_⟩
  have k5 : fit M (.sl s3) (a.fld 5) = true := fit_fld ha 5 rfl
  have k3 : (a.fld 3).str.size ≤ M := Nat.le_of_ble_eq_true (show Nat.ble _ _ = true from fit_fld (t := .str) ha 3 rfl)
  have k2 : fit M (.sl .str) (a.fld 2) = true := fit_fld ha 2 rfl
  have k0 : (a.fld 0).str.size ≤ M := Nat.le_of_ble_eq_true (show Nat.ble _ _ = true from fit_fld (t := .str) ha 0 rfl)
  have hw : wt s4 a = ((a.fld 0).str.size + (wt (.sl .str) (a.fld 2) + ((a.fld 3).str.size + (wt (.sl s3) (a.fld 5) + 0)))) := by
    simp only [wt_st, wts_cons, wts_nil, wt_int, wt_str, Nat.zero_add, Nat.add_zero]
  show _ = some [Dat.i (szr (wt s4 a) l.int)]
  rw [f51_start, hw]
  exact sz_len (k := fun l0 => (bif (fit M (.sl .str) (a.fld 2) && (decide (0 ≤ l0) && decide (l0 ≤ 1048576))) then (bif decide ((szR (.sl .str) (a.fld 2) l0) < (0 : Int)) then some [(Dat.i (-1 : Int))] else (bif decide ((IntKind.i64.wrap ((szR (.sl .str) (a.fld 2) l0) - (((a.fld 3).str).size : Int))) < (0 : Int)) then some [(Dat.i (-1 : Int))] else (bif (fit M (.sl s3) (a.fld 5) && (decide (0 ≤ (IntKind.i64.wrap ((szR (.sl .str) (a.fld 2) l0) - (((a.fld 3).str).size : Int)))) && decide ((IntKind.i64.wrap ((szR (.sl .str) (a.fld 2) l0) - (((a.fld 3).str).size : Int))) ≤ 1048576))) then (bif decide ((szR (.sl s3) (a.fld 5) (IntKind.i64.wrap ((szR (.sl .str) (a.fld 2) l0) - (((a.fld 3).str).size : Int)))) < (0 : Int)) then some [(Dat.i (-1 : Int))] else some [(Dat.i (szR (.sl s3) (a.fld 5) (IntKind.i64.wrap ((szR (.sl .str) (a.fld 2) l0) - (((a.fld 3).str).size : Int)))))]) else none))) else none)) k0 h0 h1 (fun l0 p0 q0 => sz_call (k := fun l1 => (bif decide ((IntKind.i64.wrap (l1 - (((a.fld 3).str).size : Int))) < (0 : Int)) then some [(Dat.i (-1 : Int))] else (bif (fit M (.sl s3) (a.fld 5) && (decide (0 ≤ (IntKind.i64.wrap (l1 - (((a.fld 3).str).size : Int)))) && decide ((IntKind.i64.wrap (l1 - (((a.fld 3).str).size : Int))) ≤ 1048576))) then (bif decide ((szR (.sl s3) (a.fld 5) (IntKind.i64.wrap (l1 - (((a.fld 3).str).size : Int)))) < (0 : Int)) then some [(Dat.i (-1 : Int))] else some [(Dat.i (szR (.sl s3) (a.fld 5) (IntKind.i64.wrap (l1 - (((a.fld 3).str).size : Int)))))]) else none))) k2 p0 q0 (fun l1 p1 q1 => sz_len (k := fun l2 => (bif (fit M (.sl s3) (a.fld 5) && (decide (0 ≤ l2) && decide (l2 ≤ 1048576))) then (bif decide ((szR (.sl s3) (a.fld 5) l2) < (0 : Int)) then some [(Dat.i (-1 : Int))] else some [(Dat.i (szR (.sl s3) (a.fld 5) l2))]) else none)) k3 p1 q1 (fun l2 p2 q2 => sz_call (k := fun l3 => some [(Dat.i l3)]) k5 p2 q2 (fun l3 p3 q3 => (by rw [szr_zero p3])))))


/-! laws.szCodeS -/
abbrev C37 : FuncId → Option Sig := tabC [(51, szSig s4)]
theorem hC37 : ∀ g sg, C37 g = some sg → ConOk E Tryd.prog g sg := (tabC_cons con51 tabC_nil)
abbrev keep37 : Nat → List Nat | 0 => [0, 1, 4, 5] | _ => []
def S37_0 (x0 : Dat) (x1 : Int) (x5 : Int) : St := ⟨[.ro s4 x0, .int .i64 x1, .u, .u, .int .i64 (0 : Int), .int .i64 x5] ++ us 21, []⟩
theorem f37_round0 (K n : Nat) (x0 : Dat) (x1 : Int) (x5 : Int) :
    loopE T C37 K keep37 Tryd.f37 0 0 (behind T C37 K keep37 Tryd.f37 [tInt] 0) (n + 1) (S37_0 x0 x1 x5) =
      (bif decide (x5 < (x0.len : Int)) then (bif (decide (0 ≤ x5) && decide (x5 < (x0.len : Int))) then (bif (fit M s4 (x0.fld x5.toNat) && (decide (0 ≤ x1) && decide (x1 ≤ 1048576))) then (bif decide ((szR s4 (x0.fld x5.toNat) x1) < (0 : Int)) then some [(Dat.i (-1 : Int))] else loopE T C37 K keep37 Tryd.f37 0 0 (behind T C37 K keep37 Tryd.f37 [tInt] 0) n (S37_0 x0 (szR s4 (x0.fld x5.toNat) x1) (IntKind.i64.wrap (x5 + (1 : Int))))) else none) else none) else some [(Dat.i x1)]) := by kernel_rfl
theorem f37_start (K : Nat) (a : Dat) (l : Dat) : evBody T C37 noL K keep37 Tryd.f37 [(.sl s4), tInt] [tInt] [a, l] =
      (bif decide ((IntKind.i64.wrap (l.int - (a.len : Int))) < (0 : Int)) then some [(Dat.i (-1 : Int))] else loopE T C37 K keep37 Tryd.f37 0 0 (behind T C37 K keep37 Tryd.f37 [tInt] 0) K (S37_0 a (IntKind.i64.wrap (l.int - (a.len : Int))) (0 : Int))) := by kernel_rfl
theorem con37 : ConOk E Tryd.prog 37 (szSig (.sl s4)) := con hM hD hT hC37 keep37 Tryd.func37 (by kernel_rfl) (by kernel_rfl) fun ds hl hp => by
  obtain ⟨a, l, rfl⟩ := ds_two hl
  obtain ⟨ha, h0, h1⟩ := sz_pre (show (fit M (.sl s4) a && (decide (0 ≤ l.int) && decide (l.int ≤ 1048576))) = true from hp)
  obtain ⟨hn, he⟩ := fit_sl ha
  refine ⟨a.len + 1, ?_⟩
  show _ = some [Dat.i (szr (wt (.sl s4) a) l.int)]
  rw [wt_sl]
  rw [f37_start]
  refine sz_len (k := fun l' => loopE T C37 (a.len + 1) keep37 Tryd.f37 0 0 (behind T C37 (a.len + 1) keep37 Tryd.f37 [tInt] 0) (a.len + 1) (S37_0 a l' 0)) hn h0 h1 fun l' p0 p1 => ?_
  exact sz_loop (E := fun n j l => loopE T C37 (a.len + 1) keep37 Tryd.f37 0 0 (behind T C37 (a.len + 1) keep37 Tryd.f37 [tInt] 0) n (S37_0 a l (j : Int))) (N := a.len) (g := fun j => wt s4 (a.fld j)) (fun n j l hj q0 q1 => by
    have f1 := he j hj
    have e1 : decide (0 ≤ l) = true := by simpa using q0
    have e2 : decide (l ≤ 1048576) = true := by simpa using q1
    show loopE T C37 (a.len + 1) keep37 Tryd.f37 0 0 (behind T C37 (a.len + 1) keep37 Tryd.f37 [tInt] 0) (n + 1) (S37_0 a l (j : Int)) = _
    rw [f37_round0]
    simp only [dlt hj, dge, Int.toNat_natCast, f1, e1, e2, Bool.and_self, cond_true, wrap_succ hj hn]
    rfl)
    (fun n l => by
    show loopE T C37 (a.len + 1) keep37 Tryd.f37 0 0 (behind T C37 (a.len + 1) keep37 Tryd.f37 [tInt] 0) (n + 1) (S37_0 a l (a.len : Int)) = _
    rw [f37_round0, dnlt (Nat.lt_irrefl _)]; rfl) l' p0 p1


/-! laws.szKind -/
abbrev C23 : FuncId → Option Sig := tabC [(35, szSig (.sl s1)), (36, szSig (.sl s2)), (37, szSig (.sl s4))]
theorem hC23 : ∀ g sg, C23 g = some sg → ConOk E Tryd.prog g sg := (tabC_cons con35 (tabC_cons con36 (tabC_cons con37 tabC_nil)))
abbrev keep23 : Nat → List Nat := fun _ => []
theorem f23_start (K : Nat) (a : Dat) (l : Dat) : evBody T C23 noL K keep23 Tryd.f23 [s5, tInt] [tInt] [a, l] =
      (bif decide ((IntKind.i64.wrap (l.int - (((a.fld 0).str).size : Int))) < (0 : Int)) then some [(Dat.i (-1 : Int))] else (bif (fit M (.sl s1) (a.fld 2) && (decide (0 ≤ (IntKind.i64.wrap (l.int - (((a.fld 0).str).size : Int)))) && decide ((IntKind.i64.wrap (l.int - (((a.fld 0).str).size : Int))) ≤ 1048576))) then (bif decide ((szR (.sl s1) (a.fld 2) (IntKind.i64.wrap (l.int - (((a.fld 0).str).size : Int)))) < (0 : Int)) then some [(Dat.i (-1 : Int))] else (bif (fit M (.sl s2) (a.fld 3) && (decide (0 ≤ (szR (.sl s1) (a.fld 2) (IntKind.i64.wrap (l.int - (((a.fld 0).str).size : Int))))) && decide ((szR (.sl s1) (a.fld 2) (IntKind.i64.wrap (l.int - (((a.fld 0).str).size : Int)))) ≤ 1048576))) then (bif decide ((szR (.sl s2) (a.fld 3) (szR (.sl s1) (a.fld 2) (IntKind.i64.wrap (l.int - (((a.fld 0).str).size : Int))))) < (0 : Int)) then some [(Dat.i (-1 : Int))] else (bif (fit M (.sl s4) (a.fld 4) && (decide (0 ≤ (szR (.sl s2) (a.fld 3) (szR (.sl s1) (a.fld 2) (IntKind.i64.wrap (l.int - (((a.fld 0).str).size : Int)))))) && decide ((szR (.sl s2) (a.fld 3) (szR (.sl s1) (a.fld 2) (IntKind.i64.wrap (l.int - (((a.fld 0).str).size : Int))))) ≤ 1048576))) then (bif decide ((szR (.sl s4) (a.fld 4) (szR (.sl s2) (a.fld 3) (szR (.sl s1) (a.fld 2) (IntKind.i64.wrap (l.int - (((a.fld 0).str).size : Int)))))) < (0 : Int)) then some [(Dat.i (-1 : Int))] else some [(Dat.i (szR (.sl s4) (a.fld 4) (szR (.sl s2) (a.fld 3) (szR (.sl s1) (a.fld 2) (IntKind.i64.wrap (l.int - (((a.fld 0).str).size : Int)))))))]) else none)) else none)) else none)) := by kernel_rfl
theorem con23 : ConOk E Tryd.prog 23 (szSig s5) := con hM hD hT hC23 keep23 Tryd.func23 (by kernel_rfl) (by kernel_rfl) fun ds hl hp => by
  obtain ⟨a, l, rfl⟩ := ds_two hl
  obtain ⟨ha, h0, h1⟩ := sz_pre (show (fit M s5 a && (decide (0 ≤ l.int) && decide (l.int ≤ 1048576))) = true from hp)
  refine ⟨0, ?_⟩
  have k4 : fit M (.sl s4) (a.fld 4) = true := fit_fld ha 4 rfl
  have k3 : fit M (.sl s2) (a.fld 3) = true := fit_fld ha 3 rfl
  have k2 : fit M (.sl s1) (a.fld 2) = true := fit_fld ha 2 rfl
  have k0 : (a.fld 0).str.size ≤ M := Nat.le_of_ble_eq_true (show Nat.ble _ _ = true from fit_fld (t := .str) ha 0 rfl)
  have hw : wt s5 a = ((a.fld 0).str.size + (wt (.sl s1) (a.fld 2) + (wt (.sl s2) (a.fld 3) + (wt (.sl s4) (a.fld 4) + 0)))) := by
    simp only [wt_st, wts_cons, wts_nil, wt_int, wt_str, Nat.zero_add, Nat.add_zero]
  show _ = some [Dat.i (szr (wt s5 a) l.int)]
  rw [f23_start, hw]
  exact sz_len (k := fun l0 => (bif (fit M (.sl s1) (a.fld 2) && (decide (0 ≤ l0) && decide (l0 ≤ 1048576))) then (bif decide ((szR (.sl s1) (a.fld 2) l0) < (0 : Int)) then some [(Dat.i (-1 : Int))] else (bif (fit M (.sl s2) (a.fld 3) && (decide (0 ≤ (szR (.sl s1) (a.fld 2) l0)) && decide ((szR (.sl s1) (a.fld 2) l0) ≤ 1048576))) then (bif decide ((szR (.sl s2) (a.fld 3) (szR (.sl s1) (a.fld 2) l0)) < (0 : Int)) then some [(Dat.i (-1 : Int))] else (bif (fit M (.sl s4) (a.fld 4) && (decide (0 ≤ (szR (.sl s2) (a.fld 3) (szR (.sl s1) (a.fld 2) l0))) && decide ((szR (.sl s2) (a.fld 3) (szR (.sl s1) (a.fld 2) l0)) ≤ 1048576))) then (bif decide ((szR (.sl s4) (a.fld 4) (szR (.sl s2) (a.fld 3) (szR (.sl s1) (a.fld 2) l0))) < (0 : Int)) then some [(Dat.i (-1 : Int))] else some [(Dat.i (szR (.sl s4) (a.fld 4) (szR (.sl s2) (a.fld 3) (szR (.sl s1) (a.fld 2) l0))))]) else none)) else none)) else none)) k0 h0 h1 (fun l0 p0 q0 => sz_call (k := fun l1 => (bif (fit M (.sl s2) (a.fld 3) && (decide (0 ≤ l1) && decide (l1 ≤ 1048576))) then (bif decide ((szR (.sl s2) (a.fld 3) l1) < (0 : Int)) then some [(Dat.i (-1 : Int))] else (bif (fit M (.sl s4) (a.fld 4) && (decide (0 ≤ (szR (.sl s2) (a.fld 3) l1)) && decide ((szR (.sl s2) (a.fld 3) l1) ≤ 1048576))) then (bif decide ((szR (.sl s4) (a.fld 4) (szR (.sl s2) (a.fld 3) l1)) < (0 : Int)) then some [(Dat.i (-1 : Int))] else some [(Dat.i (szR (.sl s4) (a.fld 4) (szR (.sl s2) (a.fld 3) l1)))]) else none)) else none)) k2 p0 q0 (fun l1 p1 q1 => sz_call (k := fun l2 => (bif (fit M (.sl s4) (a.fld 4) && (decide (0 ≤ l2) && decide (l2 ≤ 1048576))) then (bif decide ((szR (.sl s4) (a.fld 4) l2) < (0 : Int)) then some [(Dat.i (-1 : Int))] else some [(Dat.i (szR (.sl s4) (a.fld 4) l2))]) else none)) k3 p1 q1 (fun l2 p2 q2 => sz_call (k := fun l3 => some [(Dat.i l3)]) k4 p2 q2 (fun l3 p3 q3 => (by rw [szr_zero p3])))))


/-! laws.szKindS -/
abbrev C12 : FuncId → Option Sig := tabC [(23, szSig s5)]
theorem hC12 : ∀ g sg, C12 g = some sg → ConOk E Tryd.prog g sg := (tabC_cons con23 tabC_nil)
abbrev keep12 : Nat → List Nat | 0 => [0, 1, 4, 5] | _ => []
def S12_0 (x0 : Dat) (x1 : Int) (x5 : Int) : St := ⟨[.ro s5 x0, .int .i64 x1, .u, .u, .int .i64 (0 : Int), .int .i64 x5] ++ us 21, []⟩
theorem f12_round0 (K n : Nat) (x0 : Dat) (x1 : Int) (x5 : Int) :
    loopE T C12 K keep12 Tryd.f12 0 0 (behind T C12 K keep12 Tryd.f12 [tInt] 0) (n + 1) (S12_0 x0 x1 x5) =
      (bif decide (x5 < (x0.len : Int)) then (bif (decide (0 ≤ x5) && decide (x5 < (x0.len : Int))) then (bif (fit M s5 (x0.fld x5.toNat) && (decide (0 ≤ x1) && decide (x1 ≤ 1048576))) then (bif decide ((szR s5 (x0.fld x5.toNat) x1) < (0 : Int)) then some [(Dat.i (-1 : Int))] else loopE T C12 K keep12 Tryd.f12 0 0 (behind T C12 K keep12 Tryd.f12 [tInt] 0) n (S12_0 x0 (szR s5 (x0.fld x5.toNat) x1) (IntKind.i64.wrap (x5 + (1 : Int))))) else none) else none) else some [(Dat.i x1)]) := by kernel_rfl
theorem f12_start (K : Nat) (a : Dat) (l : Dat) : evBody T C12 noL K keep12 Tryd.f12 [(.sl s5), tInt] [tInt] [a, l] =
      (bif decide ((IntKind.i64.wrap (l.int - (a.len : Int))) < (0 : Int)) then some [(Dat.i (-1 : Int))] else loopE T C12 K keep12 Tryd.f12 0 0 (behind T C12 K keep12 Tryd.f12 [tInt] 0) K (S12_0 a (IntKind.i64.wrap (l.int - (a.len : Int))) (0 : Int))) := by kernel_rfl
theorem con12 : ConOk E Tryd.prog 12 (szSig (.sl s5)) := con hM hD hT hC12 keep12 Tryd.func12 (by kernel_rfl) (by kernel_rfl) fun ds hl hp => by
  obtain ⟨a, l, rfl⟩ := ds_two hl
  obtain ⟨ha, h0, h1⟩ := sz_pre (show (fit M (.sl s5) a && (decide (0 ≤ l.int) && decide (l.int ≤ 1048576))) = true from hp)
  obtain ⟨hn, he⟩ := fit_sl ha
  refine ⟨a.len + 1, ?_⟩
  show _ = some [Dat.i (szr (wt (.sl s5) a) l.int)]
  rw [wt_sl]
  rw [f12_start]
  refine sz_len (k := fun l' => loopE T C12 (a.len + 1) keep12 Tryd.f12 0 0 (behind T C12 (a.len + 1) keep12 Tryd.f12 [tInt] 0) (a.len + 1) (S12_0 a l' 0)) hn h0 h1 fun l' p0 p1 => ?_
  exact sz_loop (E := fun n j l => loopE T C12 (a.len + 1) keep12 Tryd.f12 0 0 (behind T C12 (a.len + 1) keep12 Tryd.f12 [tInt] 0) n (S12_0 a l (j : Int))) (N := a.len) (g := fun j => wt s5 (a.fld j)) (fun n j l hj q0 q1 => by
    have f1 := he j hj
    have e1 : decide (0 ≤ l) = true := by simpa using q0
    have e2 : decide (l ≤ 1048576) = true := by simpa using q1
    show loopE T C12 (a.len + 1) keep12 Tryd.f12 0 0 (behind T C12 (a.len + 1) keep12 Tryd.f12 [tInt] 0) (n + 1) (S12_0 a l (j : Int)) = _
    rw [f12_round0]
    simp only [dlt hj, dge, Int.toNat_natCast, f1, e1, e2, Bool.and_self, cond_true, wrap_succ hj hn]
    rfl)
    (fun n l => by
    show loopE T C12 (a.len + 1) keep12 Tryd.f12 0 0 (behind T C12 (a.len + 1) keep12 Tryd.f12 [tInt] 0) (n + 1) (S12_0 a l (a.len : Int)) = _
    rw [f12_round0, dnlt (Nat.lt_irrefl _)]; rfl) l' p0 p1


/-! laws.szProg -/
abbrev C4 : FuncId → Option Sig := tabC [(12, szSig (.sl s5))]
theorem hC4 : ∀ g sg, C4 g = some sg → ConOk E Tryd.prog g sg := (tabC_cons con12 tabC_nil)
abbrev keep4 : Nat → List Nat := fun _ => []
theorem f4_start (K : Nat) (a : Dat) (l : Dat) : evBody T C4 noL K keep4 Tryd.f4 [s6, tInt] [tInt] [a, l] =
      (bif (fit M (.sl s5) (a.fld 0) && (decide (0 ≤ l.int) && decide (l.int ≤ 1048576))) then (bif decide ((szR (.sl s5) (a.fld 0) l.int) < (0 : Int)) then some [(Dat.i (-1 : Int))] else some [(Dat.i (szR (.sl s5) (a.fld 0) l.int))]) else none) := by kernel_rfl
theorem con4 : ConOk E Tryd.prog 4 (szSig s6) := con hM hD hT hC4 keep4 Tryd.func4 (by kernel_rfl) (by kernel_rfl) fun ds hl hp => by
  obtain ⟨a, l, rfl⟩ := ds_two hl
  obtain ⟨ha, h0, h1⟩ := sz_pre (show (fit M s6 a && (decide (0 ≤ l.int) && decide (l.int ≤ 1048576))) = true from hp)
  refine ⟨0, ?_⟩
  have k0 : fit M (.sl s5) (a.fld 0) = true := fit_fld ha 0 rfl
  have hw : wt s6 a = (wt (.sl s5) (a.fld 0) + 0) := by
    simp only [wt_st, wts_cons, wts_nil, Nat.zero_add, Nat.add_zero]
  show _ = some [Dat.i (szr (wt s6 a) l.int)]
  rw [f4_start, hw]
  exact sz_call (k := fun l0 => some [(Dat.i l0)]) k0 h0 h1 (fun l0 p0 q0 => (by rw [szr_zero p0]))


/-! laws.szValS -/
abbrev C13 : FuncId → Option Sig := tabC []
theorem hC13 : ∀ g sg, C13 g = some sg → ConOk E Tryd.prog g sg := tabC_nil
abbrev keep13 : Nat → List Nat := fun _ => []
theorem f13_start (K : Nat) (a : Dat) (l : Dat) : evBody T C13 noL K keep13 Tryd.f13 [(.sl s7), tInt] [tInt] [a, l] =
      (bif decide ((IntKind.i64.wrap (l.int - (a.len : Int))) < (0 : Int)) then some [(Dat.i (-1 : Int))] else some [(Dat.i (IntKind.i64.wrap (l.int - (a.len : Int))))]) := by kernel_rfl
theorem con13 : ConOk E Tryd.prog 13 (szSig (.sl s7)) := con hM hD hT hC13 keep13 Tryd.func13 (by kernel_rfl) (by kernel_rfl) fun ds hl hp => by
  obtain ⟨a, l, rfl⟩ := ds_two hl
  obtain ⟨ha, h0, h1⟩ := sz_pre (show (fit M (.sl s7) a && (decide (0 ≤ l.int) && decide (l.int ≤ 1048576))) = true from hp)
  obtain ⟨hn, he⟩ := fit_sl ha
  refine ⟨0, ?_⟩
  show _ = some [Dat.i (szr (wt (.sl s7) a) l.int)]
  rw [wt_sl, f13_start, sum_zero (fun i => show wt s7 (a.fld i) = 0 from rfl)]
  exact sz_len hn h0 h1 fun l' p0 _ => by rw [szr_zero p0]


/-! laws.szObject -/
abbrev C5 : FuncId → Option Sig := tabC [(13, szSig (.sl s7))]
theorem hC5 : ∀ g sg, C5 g = some sg → ConOk E Tryd.prog g sg := (tabC_cons con13 tabC_nil)
abbrev keep5 : Nat → List Nat := fun _ => []
theorem f5_start (K : Nat) (a : Dat) (l : Dat) : evBody T C5 noL K keep5 Tryd.f5 [s8, tInt] [tInt] [a, l] =
      (bif (fit M (.sl s7) (a.fld 2) && (decide (0 ≤ l.int) && decide (l.int ≤ 1048576))) then (bif decide ((szR (.sl s7) (a.fld 2) l.int) < (0 : Int)) then some [(Dat.i (-1 : Int))] else some [(Dat.i (szR (.sl s7) (a.fld 2) l.int))]) else none) := by kernel_rfl
theorem con5 : ConOk E Tryd.prog 5 (szSig s8) := con hM hD hT hC5 keep5 Tryd.func5 (by kernel_rfl) (by kernel_rfl) fun ds hl hp => by
  obtain ⟨a, l, rfl⟩ := ds_two hl
  obtain ⟨ha, h0, h1⟩ := sz_pre (show (fit M s8 a && (decide (0 ≤ l.int) && decide (l.int ≤ 1048576))) = true from hp)
  refine ⟨0, ?_⟩
  have k2 : fit M (.sl s7) (a.fld 2) = true := fit_fld ha 2 rfl
  have hw : wt s8 a = (wt (.sl s7) (a.fld 2) + 0) := by
    simp only [wt_st, wts_cons, wts_nil, wt_int, Nat.zero_add, Nat.add_zero]
  show _ = some [Dat.i (szr (wt s8 a) l.int)]
  rw [f5_start, hw]
  exact sz_call (k := fun l0 => some [(Dat.i l0)]) k2 h0 h1 (fun l0 p0 q0 => (by rw [szr_zero p0]))


/-! laws.toConst -/
abbrev C52 : FuncId → Option Sig := tabC []
theorem hC52 : ∀ g sg, C52 g = some sg → ConOk E Tryd.prog g sg := tabC_nil
abbrev keep52 : Nat → List Nat := fun _ => []
theorem f52_start (K : Nat) (a : Dat) : evBody T C52 noL K keep52 Tryd.f52 [s1] [s1] [a] =
      some [(Dat.n [(Dat.i ((a.fld 0).int)), (Dat.i ((a.fld 1).int)), (Dat.s ((a.fld 2).str)), (Dat.s ((a.fld 3).str))])] := by kernel_rfl
theorem con52 : ConOk E Tryd.prog 52 (toSig s1 s1) := con hM hD hT hC52 keep52 Tryd.func52 (by kernel_rfl) (by kernel_rfl) fun ds hl hp => by
  obtain ⟨a, rfl⟩ := ds_one hl
  replace hp : fit 1048576 s1 a = true := hp
  refine ⟨0, ?_⟩
  rw [f52_start]
  rfl


/-! laws.toConstS -/
abbrev C39 : FuncId → Option Sig := tabC [(52, toSig s1 s1)]
theorem hC39 : ∀ g sg, C39 g = some sg → ConOk E Tryd.prog g sg := (tabC_cons con52 tabC_nil)
abbrev keep39 : Nat → List Nat | 0 => [0, 3, 4] | _ => []
def S39_0 (x0 : Dat) (x4 : Int) (l0 : (List Dat)) : St := ⟨[.ro s1 x0, .u, .u, .hd 0, .int .i64 x4] ++ us 18, [.arr s1 l0]⟩
theorem f39_round0 (K n : Nat) (x0 : Dat) (x4 : Int) (l0 : (List Dat)) :
    loopE T C39 K keep39 Tryd.f39 0 0 (behind T C39 K keep39 Tryd.f39 [(.sl s1)] 0) (n + 1) (S39_0 x0 x4 l0) =
      (bif decide (x4 < (x0.len : Int)) then (bif (decide (0 ≤ x4) && decide (x4 < (x0.len : Int))) then (bif fit 1048576 s1 (x0.fld x4.toNat) then (bif (decide (0 ≤ x4) && decide (x4 < (l0.length : Int))) then loopE T C39 K keep39 Tryd.f39 0 0 (behind T C39 K keep39 Tryd.f39 [(.sl s1)] 0) n (S39_0 x0 (IntKind.i64.wrap (x4 + (1 : Int))) (l0.set x4.toNat (can s1 (x0.fld x4.toNat)))) else none) else none) else none) else some [(Dat.n l0)]) := by kernel_rfl
theorem f39_start (K : Nat) (a : Dat) : evBody T C39 noL K keep39 Tryd.f39 [(.sl s1)] [(.sl s1)] [a] =
      (bif (decide (0 ≤ (a.len : Int)) && (decide ((a.len : Int) ≤ 4294967296) && decide ((a.len : Int) = (a.len : Int)))) then loopE T C39 K keep39 Tryd.f39 0 0 (behind T C39 K keep39 Tryd.f39 [(.sl s1)] 0) K (S39_0 a (0 : Int) (List.replicate (a.len : Int).toNat (zeroD s1))) else none) := by kernel_rfl
theorem con39 : ConOk E Tryd.prog 39 (toSig (.sl s1) (.sl s1)) := con hM hD hT hC39 keep39 Tryd.func39 (by kernel_rfl) (by kernel_rfl) fun ds hl hp => by
  obtain ⟨a, rfl⟩ := ds_one hl
  replace hp : fit 1048576 (.sl s1) a = true := hp
  obtain ⟨hn, he⟩ := fit_sl hp
  refine ⟨a.len + 1, ?_⟩
  have c1 : (decide (0 ≤ (a.len : Int)) && (decide ((a.len : Int) ≤ 4294967296) && decide ((a.len : Int) = (a.len : Int)))) = true := by simp; omega
  rw [f39_start, c1, cond_true, Int.toNat_natCast]
  refine (fill_loop (E := fun n j l => loopE T C39 (a.len + 1) keep39 Tryd.f39 0 0 (behind T C39 (a.len + 1) keep39 Tryd.f39 [(.sl s1)] 0) n (S39_0 a (j : Int) l)) (N := a.len) (g := fun j => can s1 (a.fld j)) (fin := fun l => some [Dat.n l]) (zeroD s1) (fun n j l hj hlen => ?_) (fun n l _ => ?_)).trans ?_
  · have f1 := he j hj
    have hj2 : j < l.length := by omega
    show loopE T C39 (a.len + 1) keep39 Tryd.f39 0 0 (behind T C39 (a.len + 1) keep39 Tryd.f39 [(.sl s1)] 0) (n + 1) (S39_0 a (j : Int) l) = _
    rw [f39_round0]
    simp only [dlt hj, dge, dlt hj2, Int.toNat_natCast, f1, Bool.and_self, cond_true, wrap_succ hj (by unfold M; omega)]
    try rfl
  · show loopE T C39 (a.len + 1) keep39 Tryd.f39 0 0 (behind T C39 (a.len + 1) keep39 Tryd.f39 [(.sl s1)] 0) (n + 1) (S39_0 a (a.len : Int) l) = _
    rw [f39_round0, dnlt (Nat.lt_irrefl _)]; rfl
  · show _ = some [can (.sl s1) a]
    rw [kids_can]


/-! laws.toField -/
abbrev C53 : FuncId → Option Sig := tabC []
theorem hC53 : ∀ g sg, C53 g = some sg → ConOk E Tryd.prog g sg := tabC_nil
abbrev keep53 : Nat → List Nat := fun _ => []
theorem f53_start (K : Nat) (a : Dat) : evBody T C53 noL K keep53 Tryd.f53 [s2] [s2] [a] =
      some [(Dat.n [(Dat.s ((a.fld 0).str)), (Dat.s ((a.fld 1).str))])] := by kernel_rfl
theorem con53 : ConOk E Tryd.prog 53 (toSig s2 s2) := con hM hD hT hC53 keep53 Tryd.func53 (by kernel_rfl) (by kernel_rfl) fun ds hl hp => by
  obtain ⟨a, rfl⟩ := ds_one hl
  replace hp : fit 1048576 s2 a = true := hp
  refine ⟨0, ?_⟩
  rw [f53_start]
  rfl


/-! laws.toFieldS -/
abbrev C40 : FuncId → Option Sig := tabC [(53, toSig s2 s2)]
theorem hC40 : ∀ g sg, C40 g = some sg → ConOk E Tryd.prog g sg := (tabC_cons con53 tabC_nil)
abbrev keep40 : Nat → List Nat | 0 => [0, 3, 4] | _ => []
def S40_0 (x0 : Dat) (x4 : Int) (l0 : (List Dat)) : St := ⟨[.ro s2 x0, .u, .u, .hd 0, .int .i64 x4] ++ us 18, [.arr s2 l0]⟩
theorem f40_round0 (K n : Nat) (x0 : Dat) (x4 : Int) (l0 : (List Dat)) :
    loopE T C40 K keep40 Tryd.f40 0 0 (behind T C40 K keep40 Tryd.f40 [(.sl s2)] 0) (n + 1) (S40_0 x0 x4 l0) =
      (bif decide (x4 < (x0.len : Int)) then (bif (decide (0 ≤ x4) && decide (x4 < (x0.len : Int))) then (bif fit 1048576 s2 (x0.fld x4.toNat) then (bif (decide (0 ≤ x4) && decide (x4 < (l0.length : Int))) then loopE T C40 K keep40 Tryd.f40 0 0 (behind T C40 K keep40 Tryd.f40 [(.sl s2)] 0) n (S40_0 x0 (IntKind.i64.wrap (x4 + (1 : Int))) (l0.set x4.toNat (can s2 (x0.fld x4.toNat)))) else none) else none) else none) else some [(Dat.n l0)]) := by kernel_rfl
theorem f40_start (K : Nat) (a : Dat) : evBody T C40 noL K keep40 Tryd.f40 [(.sl s2)] [(.sl s2)] [a] =
      (bif (decide (0 ≤ (a.len : Int)) && (decide ((a.len : Int) ≤ 4294967296) && decide ((a.len : Int) = (a.len : Int)))) then loopE T C40 K keep40 Tryd.f40 0 0 (behind T C40 K keep40 Tryd.f40 [(.sl s2)] 0) K (S40_0 a (0 : Int) (List.replicate (a.len : Int).toNat (zeroD s2))) else none) := by kernel_rfl
theorem con40 : ConOk E Tryd.prog 40 (toSig (.sl s2) (.sl s2)) := con hM hD hT hC40 keep40 Tryd.func40 (by kernel_rfl) (by kernel_rfl) fun ds hl hp => by
  obtain ⟨a, rfl⟩ := ds_one hl
  replace hp : fit 1048576 (.sl s2) a = true := hp
  obtain ⟨hn, he⟩ := fit_sl hp
  refine ⟨a.len + 1, ?_⟩
  have c1 : (decide (0 ≤ (a.len : Int)) && (decide ((a.len : Int) ≤ 4294967296) && decide ((a.len : Int) = (a.len : Int)))) = true := by simp; omega
  rw [f40_start, c1, cond_true, Int.toNat_natCast]
  refine (fill_loop (E := fun n j l => loopE T C40 (a.len + 1) keep40 Tryd.f40 0 0 (behind T C40 (a.len + 1) keep40 Tryd.f40 [(.sl s2)] 0) n (S40_0 a (j : Int) l)) (N := a.len) (g := fun j => can s2 (a.fld j)) (fin := fun l => some [Dat.n l]) (zeroD s2) (fun n j l hj hlen => ?_) (fun n l _ => ?_)).trans ?_
  · have f1 := he j hj
    have hj2 : j < l.length := by omega
    show loopE T C40 (a.len + 1) keep40 Tryd.f40 0 0 (behind T C40 (a.len + 1) keep40 Tryd.f40 [(.sl s2)] 0) (n + 1) (S40_0 a (j : Int) l) = _
    rw [f40_round0]
    simp only [dlt hj, dge, dlt hj2, Int.toNat_natCast, f1, Bool.and_self, cond_true, wrap_succ hj (by unfold M; omega)]
    try rfl
  · show loopE T C40 (a.len + 1) keep40 Tryd.f40 0 0 (behind T C40 (a.len + 1) keep40 Tryd.f40 [(.sl s2)] 0) (n + 1) (S40_0 a (a.len : Int) l) = _
    rw [f40_round0, dnlt (Nat.lt_irrefl _)]; rfl
  · show _ = some [can (.sl s2) a]
    rw [kids_can]


/-! laws.toStringS -/
abbrev C63 : FuncId → Option Sig := tabC []
theorem hC63 : ∀ g sg, C63 g = some sg → ConOk E Tryd.prog g sg := tabC_nil
abbrev keep63 : Nat → List Nat | 0 => [0, 3, 4] | _ => []
def S63_0 (x0 : Dat) (x4 : Int) (l0 : (List Dat)) : St := ⟨[.ro .str x0, .u, .u, .hd 0, .int .i64 x4] ++ us 17, [.arr .str l0]⟩
theorem f63_round0 (K n : Nat) (x0 : Dat) (x4 : Int) (l0 : (List Dat)) :
    loopE T C63 K keep63 Tryd.f63 0 0 (behind T C63 K keep63 Tryd.f63 [(.sl .str)] 0) (n + 1) (S63_0 x0 x4 l0) =
      (bif decide (x4 < (x0.len : Int)) then (bif (decide (0 ≤ x4) && decide (x4 < (x0.len : Int))) then (bif (decide (0 ≤ x4) && decide (x4 < (l0.length : Int))) then loopE T C63 K keep63 Tryd.f63 0 0 (behind T C63 K keep63 Tryd.f63 [(.sl .str)] 0) n (S63_0 x0 (IntKind.i64.wrap (x4 + (1 : Int))) (l0.set x4.toNat (Dat.s ((x0.fld x4.toNat).str)))) else none) else none) else some [(Dat.n l0)]) := by kernel_rfl
theorem f63_start (K : Nat) (a : Dat) : evBody T C63 noL K keep63 Tryd.f63 [(.sl .str)] [(.sl .str)] [a] =
      (bif (decide (0 ≤ (a.len : Int)) && (decide ((a.len : Int) ≤ 4294967296) && decide ((a.len : Int) = (a.len : Int)))) then loopE T C63 K keep63 Tryd.f63 0 0 (behind T C63 K keep63 Tryd.f63 [(.sl .str)] 0) K (S63_0 a (0 : Int) (List.replicate (a.len : Int).toNat (zeroD .str))) else none) := by kernel_rfl
theorem con63 : ConOk E Tryd.prog 63 (toSig (.sl .str) (.sl .str)) := con hM hD hT hC63 keep63 Tryd.func63 (by kernel_rfl) (by kernel_rfl) fun ds hl hp => by
  obtain ⟨a, rfl⟩ := ds_one hl
  replace hp : fit 1048576 (.sl .str) a = true := hp
  obtain ⟨hn, he⟩ := fit_sl hp
  refine ⟨a.len + 1, ?_⟩
  have c1 : (decide (0 ≤ (a.len : Int)) && (decide ((a.len : Int) ≤ 4294967296) && decide ((a.len : Int) = (a.len : Int)))) = true := by simp; omega
  rw [f63_start, c1, cond_true, Int.toNat_natCast]
  refine (fill_loop (E := fun n j l => loopE T C63 (a.len + 1) keep63 Tryd.f63 0 0 (behind T C63 (a.len + 1) keep63 Tryd.f63 [(.sl .str)] 0) n (S63_0 a (j : Int) l)) (N := a.len) (g := fun j => can .str (a.fld j)) (fin := fun l => some [Dat.n l]) (zeroD .str) (fun n j l hj hlen => ?_) (fun n l _ => ?_)).trans ?_
  · have hj2 : j < l.length := by omega
    show loopE T C63 (a.len + 1) keep63 Tryd.f63 0 0 (behind T C63 (a.len + 1) keep63 Tryd.f63 [(.sl .str)] 0) (n + 1) (S63_0 a (j : Int) l) = _
    rw [f63_round0]
    simp only [dlt hj, dge, dlt hj2, Int.toNat_natCast, Bool.and_self, cond_true, wrap_succ hj (by unfold M; omega)]
    try rfl
  · show loopE T C63 (a.len + 1) keep63 Tryd.f63 0 0 (behind T C63 (a.len + 1) keep63 Tryd.f63 [(.sl .str)] 0) (n + 1) (S63_0 a (a.len : Int) l) = _
    rw [f63_round0, dnlt (Nat.lt_irrefl _)]; rfl
  · show _ = some [can (.sl .str) a]
    rw [kids_can]


/-! laws.toIns -/
abbrev C71 : FuncId → Option Sig := tabC []
theorem hC71 : ∀ g sg, C71 g = some sg → ConOk E Tryd.prog g sg := tabC_nil
abbrev keep71 : Nat → List Nat := fun _ => []
theorem f71_start (K : Nat) (a : Dat) : evBody T C71 noL K keep71 Tryd.f71 [s3] [s3] [a] =
      some [(Dat.n [(Dat.i ((a.fld 0).int)), (Dat.i ((a.fld 1).int))])] := by kernel_rfl
theorem con71 : ConOk E Tryd.prog 71 (toSig s3 s3) := con hM hD hT hC71 keep71 Tryd.func71 (by kernel_rfl) (by kernel_rfl) fun ds hl hp => by
  obtain ⟨a, rfl⟩ := ds_one hl
  replace hp : fit 1048576 s3 a = true := hp
  refine ⟨0, ?_⟩
  rw [f71_start]
  rfl


/-! laws.toInsS -/
abbrev C64 : FuncId → Option Sig := tabC [(71, toSig s3 s3)]
theorem hC64 : ∀ g sg, C64 g = some sg → ConOk E Tryd.prog g sg := (tabC_cons con71 tabC_nil)
abbrev keep64 : Nat → List Nat | 0 => [0, 3, 4] | _ => []
def S64_0 (x0 : Dat) (x4 : Int) (l0 : (List Dat)) : St := ⟨[.ro s3 x0, .u, .u, .hd 0, .int .i64 x4] ++ us 18, [.arr s3 l0]⟩
theorem f64_round0 (K n : Nat) (x0 : Dat) (x4 : Int) (l0 : (List Dat)) :
    loopE T C64 K keep64 Tryd.f64 0 0 (behind T C64 K keep64 Tryd.f64 [(.sl s3)] 0) (n + 1) (S64_0 x0 x4 l0) =
      (bif decide (x4 < (x0.len : Int)) then (bif (decide (0 ≤ x4) && decide (x4 < (x0.len : Int))) then (bif fit 1048576 s3 (x0.fld x4.toNat) then (bif (decide (0 ≤ x4) && decide (x4 < (l0.length : Int))) then loopE T C64 K keep64 Tryd.f64 0 0 (behind T C64 K keep64 Tryd.f64 [(.sl s3)] 0) n (S64_0 x0 (IntKind.i64.wrap (x4 + (1 : Int))) (l0.set x4.toNat (can s3 (x0.fld x4.toNat)))) else none) else none) else none) else some [(Dat.n l0)]) := by kernel_rfl
theorem f64_start (K : Nat) (a : Dat) : evBody T C64 noL K keep64 Tryd.f64 [(.sl s3)] [(.sl s3)] [a] =
      (bif (decide (0 ≤ (a.len : Int)) && (decide ((a.len : Int) ≤ 4294967296) && decide ((a.len : Int) = (a.len : Int)))) then loopE T C64 K keep64 Tryd.f64 0 0 (behind T C64 K keep64 Tryd.f64 [(.sl s3)] 0) K (S64_0 a (0 : Int) (List.replicate (a.len : Int).toNat (zeroD s3))) else none) := by kernel_rfl
theorem con64 : ConOk E Tryd.prog 64 (toSig (.sl s3) (.sl s3)) := con hM hD hT hC64 keep64 Tryd.func64 (by kernel_rfl) (by kernel_rfl) fun ds hl hp => by
  obtain ⟨a, rfl⟩ := ds_one hl
  replace hp : fit 1048576 (.sl s3) a = true := hp
  obtain ⟨hn, he⟩ := fit_sl hp
  refine ⟨a.len + 1, ?_⟩
  have c1 : (decide (0 ≤ (a.len : Int)) && (decide ((a.len : Int) ≤ 4294967296) && decide ((a.len : Int) = (a.len : Int)))) = true := by simp; omega
  rw [f64_start, c1, cond_true, Int.toNat_natCast]
  refine (fill_loop (E := fun n j l => loopE T C64 (a.len + 1) keep64 Tryd.f64 0 0 (behind T C64 (a.len + 1) keep64 Tryd.f64 [(.sl s3)] 0) n (S64_0 a (j : Int) l)) (N := a.len) (g := fun j => can s3 (a.fld j)) (fin := fun l => some [Dat.n l]) (zeroD s3) (fun n j l hj hlen => ?_) (fun n l _ => ?_)).trans ?_
  · have f1 := he j hj
    have hj2 : j < l.length := by omega
    show loopE T C64 (a.len + 1) keep64 Tryd.f64 0 0 (behind T C64 (a.len + 1) keep64 Tryd.f64 [(.sl s3)] 0) (n + 1) (S64_0 a (j : Int) l) = _
    rw [f64_round0]
    simp only [dlt hj, dge, dlt hj2, Int.toNat_natCast, f1, Bool.and_self, cond_true, wrap_succ hj (by unfold M; omega)]
    try rfl
  · show loopE T C64 (a.len + 1) keep64 Tryd.f64 0 0 (behind T C64 (a.len + 1) keep64 Tryd.f64 [(.sl s3)] 0) (n + 1) (S64_0 a (a.len : Int) l) = _
    rw [f64_round0, dnlt (Nat.lt_irrefl _)]; rfl
  · show _ = some [can (.sl s3) a]
    rw [kids_can]


/-! laws.toCode -/
abbrev C54 : FuncId → Option Sig := tabC [(63, toSig (.sl .str) (.sl .str)), (64, toSig (.sl s3) (.sl s3))]
theorem hC54 : ∀ g sg, C54 g = some sg → ConOk E Tryd.prog g sg := (tabC_cons con63 (tabC_cons con64 tabC_nil))
abbrev keep54 : Nat → List Nat := fun _ => []
theorem f54_start (K : Nat) (a : Dat) : evBody T C54 noL K keep54 Tryd.f54 [s4] [s4] [a] =
      (bif fit 1048576 (.sl .str) (a.fld 2) then (bif fit 1048576 (.sl s3) (a.fld 5) then some [(Dat.n [(Dat.s ((a.fld 0).str)), (Dat.i ((a.fld 1).int)), (Dat.n ((can (.sl .str) (a.fld 2)).kids)), (Dat.s ((a.fld 3).str)), (Dat.i ((a.fld 4).int)), (Dat.n ((can (.sl s3) (a.fld 5)).kids))])] else none) else none) := by kernel_rfl
theorem con54 : ConOk E Tryd.prog 54 (toSig s4 s4) := con hM hD hT hC54 keep54 Tryd.func54 (by kernel_rfl) (by kernel_rfl) fun ds hl hp => by
  obtain ⟨a, rfl⟩ := ds_one hl
  replace hp : fit 1048576 s4 a = true := hp
  refine ⟨0, ?_⟩
  have h2 : fit 1048576 (.sl .str) (a.fld 2) = true := fit_fld hp 2 rfl
  have h5 : fit 1048576 (.sl s3) (a.fld 5) = true := fit_fld hp 5 rfl
  rw [f54_start]
  simp only [h2, h5, cond_true]
  rfl


/-! laws.toCodeS -/
abbrev C41 : FuncId → Option Sig := tabC [(54, toSig s4 s4)]
theorem hC41 : ∀ g sg, C41 g = some sg → ConOk E Tryd.prog g sg := (tabC_cons con54 tabC_nil)
abbrev keep41 : Nat → List Nat | 0 => [0, 3, 4] | _ => []
def S41_0 (x0 : Dat) (x4 : Int) (l0 : (List Dat)) : St := ⟨[.ro s4 x0, .u, .u, .hd 0, .int .i64 x4] ++ us 18, [.arr s4 l0]⟩
theorem f41_round0 (K n : Nat) (x0 : Dat) (x4 : Int) (l0 : (List Dat)) :
    loopE T C41 K keep41 Tryd.f41 0 0 (behind T C41 K keep41 Tryd.f41 [(.sl s4)] 0) (n + 1) (S41_0 x0 x4 l0) =
      (bif decide (x4 < (x0.len : Int)) then (bif (decide (0 ≤ x4) && decide (x4 < (x0.len : Int))) then (bif fit 1048576 s4 (x0.fld x4.toNat) then (bif (decide (0 ≤ x4) && decide (x4 < (l0.length : Int))) then loopE T C41 K keep41 Tryd.f41 0 0 (behind T C41 K keep41 Tryd.f41 [(.sl s4)] 0) n (S41_0 x0 (IntKind.i64.wrap (x4 + (1 : Int))) (l0.set x4.toNat (can s4 (x0.fld x4.toNat)))) else none) else none) else none) else some [(Dat.n l0)]) := by kernel_rfl
theorem f41_start (K : Nat) (a : Dat) : evBody T C41 noL K keep41 Tryd.f41 [(.sl s4)] [(.sl s4)] [a] =
      (bif (decide (0 ≤ (a.len : Int)) && (decide ((a.len : Int) ≤ 4294967296) && decide ((a.len : Int) = (a.len : Int)))) then loopE T C41 K keep41 Tryd.f41 0 0 (behind T C41 K keep41 Tryd.f41 [(.sl s4)] 0) K (S41_0 a (0 : Int) (List.replicate (a.len : Int).toNat (zeroD s4))) else none) := by kernel_rfl
theorem con41 : ConOk E Tryd.prog 41 (toSig (.sl s4) (.sl s4)) := con hM hD hT hC41 keep41 Tryd.func41 (by kernel_rfl) (by kernel_rfl) fun ds hl hp => by
  obtain ⟨a, rfl⟩ := ds_one hl
  replace hp : fit 1048576 (.sl s4) a = true := hp
  obtain ⟨hn, he⟩ := fit_sl hp
  refine ⟨a.len + 1, ?_⟩
  have c1 : (decide (0 ≤ (a.len : Int)) && (decide ((a.len : Int) ≤ 4294967296) && decide ((a.len : Int) = (a.len : Int)))) = true := by simp; omega
  rw [f41_start, c1, cond_true, Int.toNat_natCast]
  refine (fill_loop (E := fun n j l => loopE T C41 (a.len + 1) keep41 Tryd.f41 0 0 (behind T C41 (a.len + 1) keep41 Tryd.f41 [(.sl s4)] 0) n (S41_0 a (j : Int) l)) (N := a.len) (g := fun j => can s4 (a.fld j)) (fin := fun l => some [Dat.n l]) (zeroD s4) (fun n j l hj hlen => ?_) (fun n l _ => ?_)).trans ?_
  · have f1 := he j hj
    have hj2 : j < l.length := by omega
    show loopE T C41 (a.len + 1) keep41 Tryd.f41 0 0 (behind T C41 (a.len + 1) keep41 Tryd.f41 [(.sl s4)] 0) (n + 1) (S41_0 a (j : Int) l) = _
    rw [f41_round0]
    simp only [dlt hj, dge, dlt hj2, Int.toNat_natCast, f1, Bool.and_self, cond_true, wrap_succ hj (by unfold M; omega)]
    try rfl
  · show loopE T C41 (a.len + 1) keep41 Tryd.f41 0 0 (behind T C41 (a.len + 1) keep41 Tryd.f41 [(.sl s4)] 0) (n + 1) (S41_0 a (a.len : Int) l) = _
    rw [f41_round0, dnlt (Nat.lt_irrefl _)]; rfl
  · show _ = some [can (.sl s4) a]
    rw [kids_can]


/-! laws.toKind -/
abbrev C26 : FuncId → Option Sig := tabC [(39, toSig (.sl s1) (.sl s1)), (40, toSig (.sl s2) (.sl s2)), (41, toSig (.sl s4) (.sl s4))]
theorem hC26 : ∀ g sg, C26 g = some sg → ConOk E Tryd.prog g sg := (tabC_cons con39 (tabC_cons con40 (tabC_cons con41 tabC_nil)))
abbrev keep26 : Nat → List Nat := fun _ => []
theorem f26_start (K : Nat) (a : Dat) : evBody T C26 noL K keep26 Tryd.f26 [s5] [s5] [a] =
      (bif fit 1048576 (.sl s1) (a.fld 2) then (bif fit 1048576 (.sl s2) (a.fld 3) then (bif fit 1048576 (.sl s4) (a.fld 4) then some [(Dat.n [(Dat.s ((a.fld 0).str)), (Dat.i ((a.fld 1).int)), (Dat.n ((can (.sl s1) (a.fld 2)).kids)), (Dat.n ((can (.sl s2) (a.fld 3)).kids)), (Dat.n ((can (.sl s4) (a.fld 4)).kids))])] else none) else none) else none) := by kernel_rfl
theorem con26 : ConOk E Tryd.prog 26 (toSig s5 s5) := con hM hD hT hC26 keep26 Tryd.func26 (by kernel_rfl) (by kernel_rfl) fun ds hl hp => by
  obtain ⟨a, rfl⟩ := ds_one hl
  replace hp : fit 1048576 s5 a = true := hp
  refine ⟨0, ?_⟩
  have h2 : fit 1048576 (.sl s1) (a.fld 2) = true := fit_fld hp 2 rfl
  have h3 : fit 1048576 (.sl s2) (a.fld 3) = true := fit_fld hp 3 rfl
  have h4 : fit 1048576 (.sl s4) (a.fld 4) = true := fit_fld hp 4 rfl
  rw [f26_start]
  simp only [h2, h3, h4, cond_true]
  rfl


/-! laws.toKindS -/
abbrev C16 : FuncId → Option Sig := tabC [(26, toSig s5 s5)]
theorem hC16 : ∀ g sg, C16 g = some sg → ConOk E Tryd.prog g sg := (tabC_cons con26 tabC_nil)
abbrev keep16 : Nat → List Nat | 0 => [0, 3, 4] | _ => []
def S16_0 (x0 : Dat) (x4 : Int) (l0 : (List Dat)) : St := ⟨[.ro s5 x0, .u, .u, .hd 0, .int .i64 x4] ++ us 18, [.arr s5 l0]⟩
theorem f16_round0 (K n : Nat) (x0 : Dat) (x4 : Int) (l0 : (List Dat)) :
    loopE T C16 K keep16 Tryd.f16 0 0 (behind T C16 K keep16 Tryd.f16 [(.sl s5)] 0) (n + 1) (S16_0 x0 x4 l0) =
      (bif decide (x4 < (x0.len : Int)) then (bif (decide (0 ≤ x4) && decide (x4 < (x0.len : Int))) then (bif fit 1048576 s5 (x0.fld x4.toNat) then (bif (decide (0 ≤ x4) && decide (x4 < (l0.length : Int))) then loopE T C16 K keep16 Tryd.f16 0 0 (behind T C16 K keep16 Tryd.f16 [(.sl s5)] 0) n (S16_0 x0 (IntKind.i64.wrap (x4 + (1 : Int))) (l0.set x4.toNat (can s5 (x0.fld x4.toNat)))) else none) else none) else none) else some [(Dat.n l0)]) := by kernel_rfl
theorem f16_start (K : Nat) (a : Dat) : evBody T C16 noL K keep16 Tryd.f16 [(.sl s5)] [(.sl s5)] [a] =
      (bif (decide (0 ≤ (a.len : Int)) && (decide ((a.len : Int) ≤ 4294967296) && decide ((a.len : Int) = (a.len : Int)))) then loopE T C16 K keep16 Tryd.f16 0 0 (behind T C16 K keep16 Tryd.f16 [(.sl s5)] 0) K (S16_0 a (0 : Int) (List.replicate (a.len : Int).toNat (zeroD s5))) else none) := by kernel_rfl
theorem con16 : ConOk E Tryd.prog 16 (toSig (.sl s5) (.sl s5)) := con hM hD hT hC16 keep16 Tryd.func16 (by kernel_rfl) (by kernel_rfl) fun ds hl hp => by
  obtain ⟨a, rfl⟩ := ds_one hl
  replace hp : fit 1048576 (.sl s5) a = true := hp
  obtain ⟨hn, he⟩ := fit_sl hp
  refine ⟨a.len + 1, ?_⟩
  have c1 : (decide (0 ≤ (a.len : Int)) && (decide ((a.len : Int) ≤ 4294967296) && decide ((a.len : Int) = (a.len : Int)))) = true := by simp; omega
  rw [f16_start, c1, cond_true, Int.toNat_natCast]
  refine (fill_loop (E := fun n j l => loopE T C16 (a.len + 1) keep16 Tryd.f16 0 0 (behind T C16 (a.len + 1) keep16 Tryd.f16 [(.sl s5)] 0) n (S16_0 a (j : Int) l)) (N := a.len) (g := fun j => can s5 (a.fld j)) (fin := fun l => some [Dat.n l]) (zeroD s5) (fun n j l hj hlen => ?_) (fun n l _ => ?_)).trans ?_
  · have f1 := he j hj
    have hj2 : j < l.length := by omega
    show loopE T C16 (a.len + 1) keep16 Tryd.f16 0 0 (behind T C16 (a.len + 1) keep16 Tryd.f16 [(.sl s5)] 0) (n + 1) (S16_0 a (j : Int) l) = _
    rw [f16_round0]
    simp only [dlt hj, dge, dlt hj2, Int.toNat_natCast, f1, Bool.and_self, cond_true, wrap_succ hj (by unfold M; omega)]
    try rfl
  · show loopE T C16 (a.len + 1) keep16 Tryd.f16 0 0 (behind T C16 (a.len + 1) keep16 Tryd.f16 [(.sl s5)] 0) (n + 1) (S16_0 a (a.len : Int) l) = _
    rw [f16_round0, dnlt (Nat.lt_irrefl _)]; rfl
  · show _ = some [can (.sl s5) a]
    rw [kids_can]


/-! laws.toProg -/
abbrev C7 : FuncId → Option Sig := tabC [(16, toSig (.sl s5) (.sl s5))]
theorem hC7 : ∀ g sg, C7 g = some sg → ConOk E Tryd.prog g sg := (tabC_cons con16 tabC_nil)
abbrev keep7 : Nat → List Nat := fun _ => []
theorem f7_start (K : Nat) (a : Dat) : evBody T C7 noL K keep7 Tryd.f7 [s6] [s6] [a] =
      (bif fit 1048576 (.sl s5) (a.fld 0) then some [(Dat.n [(Dat.n ((can (.sl s5) (a.fld 0)).kids))])] else none) := by kernel_rfl
theorem con7 : ConOk E Tryd.prog 7 (toSig s6 s6) := con hM hD hT hC7 keep7 Tryd.func7 (by kernel_rfl) (by kernel_rfl) fun ds hl hp => by
  obtain ⟨a, rfl⟩ := ds_one hl
  replace hp : fit 1048576 s6 a = true := hp
  refine ⟨0, ?_⟩
  have h0 : fit 1048576 (.sl s5) (a.fld 0) = true := fit_fld hp 0 rfl
  rw [f7_start]
  simp only [h0, cond_true]
  rfl


/-! laws.toVal -/
abbrev C27 : FuncId → Option Sig := tabC []
theorem hC27 : ∀ g sg, C27 g = some sg → ConOk E Tryd.prog g sg := tabC_nil
abbrev keep27 : Nat → List Nat := fun _ => []
theorem f27_start (K : Nat) (a : Dat) : evBody T C27 noL K keep27 Tryd.f27 [s7] [s7] [a] =
      some [(Dat.n [(Dat.b ((a.fld 0).bool)), (Dat.i ((a.fld 1).int))])] := by kernel_rfl
theorem con27 : ConOk E Tryd.prog 27 (toSig s7 s7) := con hM hD hT hC27 keep27 Tryd.func27 (by kernel_rfl) (by kernel_rfl) fun ds hl hp => by
  obtain ⟨a, rfl⟩ := ds_one hl
  replace hp : fit 1048576 s7 a = true := hp
  refine ⟨0, ?_⟩
  rw [f27_start]
  rfl


/-! laws.toValS -/
abbrev C17 : FuncId → Option Sig := tabC [(27, toSig s7 s7)]
theorem hC17 : ∀ g sg, C17 g = some sg → ConOk E Tryd.prog g sg := (tabC_cons con27 tabC_nil)
abbrev keep17 : Nat → List Nat | 0 => [0, 3, 4] | _ => []
def S17_0 (x0 : Dat) (x4 : Int) (l0 : (List Dat)) : St := ⟨[.ro s7 x0, .u, .u, .hd 0, .int .i64 x4] ++ us 18, [.arr s7 l0]⟩
theorem f17_round0 (K n : Nat) (x0 : Dat) (x4 : Int) (l0 : (List Dat)) :
    loopE T C17 K keep17 Tryd.f17 0 0 (behind T C17 K keep17 Tryd.f17 [(.sl s7)] 0) (n + 1) (S17_0 x0 x4 l0) =
      (bif decide (x4 < (x0.len : Int)) then (bif (decide (0 ≤ x4) && decide (x4 < (x0.len : Int))) then (bif fit 1048576 s7 (x0.fld x4.toNat) then (bif (decide (0 ≤ x4) && decide (x4 < (l0.length : Int))) then loopE T C17 K keep17 Tryd.f17 0 0 (behind T C17 K keep17 Tryd.f17 [(.sl s7)] 0) n (S17_0 x0 (IntKind.i64.wrap (x4 + (1 : Int))) (l0.set x4.toNat (can s7 (x0.fld x4.toNat)))) else none) else none) else none) else some [(Dat.n l0)]) := by kernel_rfl
theorem f17_start (K : Nat) (a : Dat) : evBody T C17 noL K keep17 Tryd.f17 [(.sl s7)] [(.sl s7)] [a] =
      (bif (decide (0 ≤ (a.len : Int)) && (decide ((a.len : Int) ≤ 4294967296) && decide ((a.len : Int) = (a.len : Int)))) then loopE T C17 K keep17 Tryd.f17 0 0 (behind T C17 K keep17 Tryd.f17 [(.sl s7)] 0) K (S17_0 a (0 : Int) (List.replicate (a.len : Int).toNat (zeroD s7))) else none) := by kernel_rfl
theorem con17 : ConOk E Tryd.prog 17 (toSig (.sl s7) (.sl s7)) := con hM hD hT hC17 keep17 Tryd.func17 (by kernel_rfl) (by kernel_rfl) fun ds hl hp => by
  obtain ⟨a, rfl⟩ := ds_one hl
  replace hp : fit 1048576 (.sl s7) a = true := hp
  obtain ⟨hn, he⟩ := fit_sl hp
  refine ⟨a.len + 1, ?_⟩
  have c1 : (decide (0 ≤ (a.len : Int)) && (decide ((a.len : Int) ≤ 4294967296) && decide ((a.len : Int) = (a.len : Int)))) = true := by simp; omega
  rw [f17_start, c1, cond_true, Int.toNat_natCast]
  refine (fill_loop (E := fun n j l => loopE T C17 (a.len + 1) keep17 Tryd.f17 0 0 (behind T C17 (a.len + 1) keep17 Tryd.f17 [(.sl s7)] 0) n (S17_0 a (j : Int) l)) (N := a.len) (g := fun j => can s7 (a.fld j)) (fin := fun l => some [Dat.n l]) (zeroD s7) (fun n j l hj hlen => ?_) (fun n l _ => ?_)).trans ?_
  · have f1 := he j hj
    have hj2 : j < l.length := by omega
    show loopE T C17 (a.len + 1) keep17 Tryd.f17 0 0 (behind T C17 (a.len + 1) keep17 Tryd.f17 [(.sl s7)] 0) (n + 1) (S17_0 a (j : Int) l) = _
    rw [f17_round0]
    simp only [dlt hj, dge, dlt hj2, Int.toNat_natCast, f1, Bool.and_self, cond_true, wrap_succ hj (by unfold M; omega)]
    try rfl
  · show loopE T C17 (a.len + 1) keep17 Tryd.f17 0 0 (behind T C17 (a.len + 1) keep17 Tryd.f17 [(.sl s7)] 0) (n + 1) (S17_0 a (a.len : Int) l) = _
    rw [f17_round0, dnlt (Nat.lt_irrefl _)]; rfl
  · show _ = some [can (.sl s7) a]
    rw [kids_can]


/-! laws.toObject -/
abbrev C8 : FuncId → Option Sig := tabC [(17, toSig (.sl s7) (.sl s7))]
theorem hC8 : ∀ g sg, C8 g = some sg → ConOk E Tryd.prog g sg := (tabC_cons con17 tabC_nil)
abbrev keep8 : Nat → List Nat := fun _ => []
theorem f8_start (K : Nat) (a : Dat) : evBody T C8 noL K keep8 Tryd.f8 [s8] [s8] [a] =
      (bif fit 1048576 (.sl s7) (a.fld 2) then some [(Dat.n [(Dat.i ((a.fld 0).int)), (Dat.i ((a.fld 1).int)), (Dat.n ((can (.sl s7) (a.fld 2)).kids))])] else none) := by kernel_rfl
theorem con8 : ConOk E Tryd.prog 8 (toSig s8 s8) := con hM hD hT hC8 keep8 Tryd.func8 (by kernel_rfl) (by kernel_rfl) fun ds hl hp => by
  obtain ⟨a, rfl⟩ := ds_one hl
  replace hp : fit 1048576 s8 a = true := hp
  refine ⟨0, ?_⟩
  have h2 : fit 1048576 (.sl s7) (a.fld 2) = true := fit_fld hp 2 rfl
  rw [f8_start]
  simp only [h2, cond_true]
  rfl


/-! spec.l1In -/
abbrev C14 : FuncId → Option Sig := tabC []
theorem hC14 : ∀ g sg, C14 g = some sg → ConOk E Tryd.prog g sg := tabC_nil
abbrev keep14 : Nat → List Nat := fun _ => []
theorem f14_start (K : Nat) (a : Dat) (b : Dat) (c : Dat) : evBody T C14 noL K keep14 Tryd.f14 [tInt, tInt, tInt] [.bool] [a, b, c] =
      (bif decide (a.int ≥ b.int) then some [(Dat.b (decide (a.int ≤ c.int)))] else some [(Dat.b false)]) := by kernel_rfl
theorem con14 : ConOk E Tryd.prog 14 inSig := con hM hD hT hC14 keep14 Tryd.func14 (by kernel_rfl) (by kernel_rfl) fun ds hl hp => by
  obtain ⟨a, b, c, rfl⟩ := ds_three hl
  refine ⟨0, ?_⟩
  rw [f14_start]
  show _ = some [Dat.b (inR a.int b.int c.int)]
  exact inR_if _ _ _

/-! spec.l1Word -/
abbrev C38 : FuncId → Option Sig := tabC [(14, inSig)]
theorem hC38 : ∀ g sg, C38 g = some sg → ConOk E Tryd.prog g sg := (tabC_cons con14 tabC_nil)
abbrev keep38 : Nat → List Nat := fun _ => []
theorem f38_start (K : Nat) (a : Dat) : evBody T C38 noL K keep38 Tryd.f38 [tInt] [.bool] [a] =
      some [(Dat.b (inR a.int (-2147483648 : Int) (2147483647 : Int)))] := by kernel_rfl
theorem con38 : ConOk E Tryd.prog 38 (oneSig tInt .bool fun a => .b (inR a.int (-2147483648) 2147483647)) := con hM hD hT hC38 keep38 Tryd.func38 (by kernel_rfl) (by kernel_rfl) fun ds hl hp => by
  obtain ⟨a, rfl⟩ := ds_one hl
  exact ⟨0, f38_start 0 a⟩

/-! spec.ValOk -/
abbrev C24 : FuncId → Option Sig := tabC [(14, inSig), (38, oneSig tInt .bool fun a => .b (inR a.int (-2147483648) 2147483647))]
theorem hC24 : ∀ g sg, C24 g = some sg → ConOk E Tryd.prog g sg := (tabC_cons con14 (tabC_cons con38 tabC_nil))
abbrev keep24 : Nat → List Nat := fun _ => []
theorem f24_start (K : Nat) (a : Dat) : evBody T C24 noL K keep24 Tryd.f24 [s7] [.bool] [a] =
      (bif (a.fld 0).bool then some [(Dat.b (inR ((a.fld 1).int) (0 : Int) (1000000 : Int)))] else some [(Dat.b (inR ((a.fld 1).int) (-2147483648) 2147483647))]) := by kernel_rfl
theorem con24 : ConOk E Tryd.prog 24 (oneSig s7 .bool fun a => .b (valOk a)) := con hM hD hT hC24 keep24 Tryd.func24 (by kernel_rfl) (by kernel_rfl) fun ds hl hp => by
  obtain ⟨a, rfl⟩ := ds_one hl
  refine ⟨0, ?_⟩
  rw [f24_start]
  show _ = some [Dat.b (valOk a)]
  unfold valOk
  cases (a.fld 0).bool <;> rfl

/-! spec.l9Digits -/
abbrev C25 : FuncId → Option Sig := tabC []
theorem hC25 : ∀ g sg, C25 g = some sg → ConOk E Tryd.prog g sg := tabC_nil
abbrev keep25 : Nat → List Nat | 0 => [0, 3, 4] | _ => []
def S25_0 (x0 : Int) (x3 : Bool) (x4 : ByteArray) : St := ⟨[.int .i64 x0, .u, .u, .bool x3, .str x4] ++ us 26, []⟩
theorem f25_round0 (K n : Nat) (x0 : Int) (x3 : Bool) (x4 : ByteArray) :
    loopE T C25 K keep25 Tryd.f25 0 0 (behind T C25 K keep25 Tryd.f25 [.str] 0) (n + 1) (S25_0 x0 x3 x4) =
      (bif (x0 != (0 : Int)) then (bif decide ((10 : Int) ≠ 0) then (bif decide ((x0.tmod (10 : Int)) < (0 : Int)) then (bif decide ((bytesOf ([(Dat.i (IntKind.u8.wrap (IntKind.i64.wrap ((48 : Int) + (IntKind.i64.wrap ((0 : Int) - (x0.tmod (10 : Int))))))))])).size + x4.size ≤ 4611686018427387904) then (bif decide ((10 : Int) ≠ 0) then loopE T C25 K keep25 Tryd.f25 0 0 (behind T C25 K keep25 Tryd.f25 [.str] 0) n (S25_0 (IntKind.i64.wrap (x0.tdiv (10 : Int))) x3 ((bytesOf ([(Dat.i (IntKind.u8.wrap (IntKind.i64.wrap ((48 : Int) + (IntKind.i64.wrap ((0 : Int) - (x0.tmod (10 : Int))))))))])) ++ x4)) else none) else none) else (bif decide ((bytesOf ([(Dat.i (IntKind.u8.wrap (IntKind.i64.wrap ((48 : Int) + (x0.tmod (10 : Int))))))])).size + x4.size ≤ 4611686018427387904) then (bif decide ((10 : Int) ≠ 0) then loopE T C25 K keep25 Tryd.f25 0 0 (behind T C25 K keep25 Tryd.f25 [.str] 0) n (S25_0 (IntKind.i64.wrap (x0.tdiv (10 : Int))) x3 ((bytesOf ([(Dat.i (IntKind.u8.wrap (IntKind.i64.wrap ((48 : Int) + (x0.tmod (10 : Int))))))])) ++ x4)) else none) else none)) else none) else (bif x3 then (bif decide ((ByteArray.mk #[45]).size + x4.size ≤ 4611686018427387904) then some [(Dat.s ((ByteArray.mk #[45]) ++ x4))] else none) else some [(Dat.s x4)])) := by kernel_rfl
theorem f25_start (K : Nat) (a : Dat) : evBody T C25 noL K keep25 Tryd.f25 [tInt] [.str] [a] =
      (bif (a.int == (0 : Int)) then some [(Dat.s (ByteArray.mk #[48]))] else loopE T C25 K keep25 Tryd.f25 0 0 (behind T C25 K keep25 Tryd.f25 [.str] 0) K (S25_0 a.int (decide (a.int < (0 : Int))) (.empty))) := by kernel_rfl
theorem con25 : ConOk E Tryd.prog 25 itoaSig := con hM hD hT hC25 keep25 Tryd.func25 (by kernel_rfl) (by kernel_rfl) fun ds hl hp => by
  obtain ⟨a, rfl⟩ := ds_one hl
  obtain ⟨h0, h1⟩ := i64_range (show i64B a.int = true from hp)
  refine ⟨20, ?_⟩
  rw [f25_start]
  show _ = some [Dat.s (itoaS a.int)]
  by_cases hz : a.int = 0
  · rw [hz, itoaS_eq]
    show some [Dat.s (ByteArray.mk #[48])] = some [Dat.s (digB 0)]
    rw [digB_small (by omega)]; rfl
  · have e0 : (a.int == 0) = false := by simpa using hz
    rw [e0, cond_false]
    refine (dig_loop (E := fun n x out => loopE T C25 20 keep25 Tryd.f25 0 0 (behind T C25 20 keep25 Tryd.f25 [.str] 0) n (S25_0 x (decide (a.int < 0)) out)) (fin := fun x4 => (bif (decide (a.int < 0)) then (bif decide ((ByteArray.mk #[45]).size + x4.size ≤ 4611686018427387904) then some [(Dat.s ((ByteArray.mk #[45]) ++ x4))] else none) else some [(Dat.s x4)]))
      (fun n x out hx0 hx1 hx hs => ?_) (fun n out => ?_) 19 20 a.int .empty (by omega) (by omega) h0 h1 (by decide)).trans ?_
    · show loopE T C25 20 keep25 Tryd.f25 0 0 (behind T C25 20 keep25 Tryd.f25 [.str] 0) (n + 1) (S25_0 x (decide (a.int < 0)) out) = _
      rw [f25_round0]
      exact l9_body (k := fun x out => loopE T C25 20 keep25 Tryd.f25 0 0 (behind T C25 20 keep25 Tryd.f25 [.str] 0) n (S25_0 x (decide (a.int < 0)) out)) hx0 hx1 hx hs
    · show loopE T C25 20 keep25 Tryd.f25 0 0 (behind T C25 20 keep25 Tryd.f25 [.str] 0) (n + 1) (S25_0 0 (decide (a.int < 0)) out) = _
      rw [f25_round0]; rfl
    · have h2 := digB_size (n := a.int.natAbs) (by omega)
      rw [e0, cond_false, itoaS_eq, show digB a.int.natAbs ++ ByteArray.empty = digB a.int.natAbs from byte_ext (by rw [byte_app]; simp)]
      cases decide (a.int < 0)
      · rfl
      · rw [cond_true, cond_true, decide_eq_true (show (ByteArray.mk #[45]).size + (digB a.int.natAbs).size ≤ 4611686018427387904 by show 1 + _ ≤ _; omega), cond_true]

/-! spec.ValText -/
abbrev C15 : FuncId → Option Sig := tabC [(24, oneSig s7 .bool fun a => .b (valOk a)), (25, itoaSig)]
theorem hC15 : ∀ g sg, C15 g = some sg → ConOk E Tryd.prog g sg := (tabC_cons con24 (tabC_cons con25 tabC_nil))
abbrev keep15 : Nat → List Nat := fun _ => []
theorem f15_start (K : Nat) (a : Dat) : evBody T C15 noL K keep15 Tryd.f15 [s7] [.str] [a] =
      (bif (!(valOk a)) then some [(Dat.s (.empty))] else (bif (a.fld 0).bool then (bif (i64B ((a.fld 1).int)) then (bif decide ((ByteArray.mk #[64]).size + (itoaS ((a.fld 1).int)).size ≤ 4611686018427387904) then some [(Dat.s ((ByteArray.mk #[64]) ++ (itoaS ((a.fld 1).int))))] else none) else none) else (bif (i64B ((a.fld 1).int)) then some [(Dat.s (itoaS ((a.fld 1).int)))] else none))) := by kernel_rfl
theorem con15 : ConOk E Tryd.prog 15 (oneSig s7 .str fun a => .s (valS a)) := con hM hD hT hC15 keep15 Tryd.func15 (by kernel_rfl) (by kernel_rfl) fun ds hl hp => by
  obtain ⟨a, rfl⟩ := ds_one hl
  refine ⟨0, ?_⟩
  rw [f15_start]
  show _ = some [Dat.s (valS a)]
  unfold valS
  cases h : valOk a
  · rfl
  · have h1 := valOk_i64 h
    have h2 := valOk_range h
    have h3 := itoaS_size (n := (a.fld 1).int) (by omega) (by omega)
    simp only [Bool.not_true, cond_false, cond_true, h1, decide_eq_true (show (ByteArray.mk #[64]).size + (itoaS (a.fld 1).int).size ≤ 4611686018427387904 by show 1 + _ ≤ _; omega)]
    cases (a.fld 0).bool <;> rfl

/-! spec.ObjectText -/
abbrev C6 : FuncId → Option Sig := tabC [(14, inSig), (15, oneSig s7 .str fun a => .s (valS a))]
theorem hC6 : ∀ g sg, C6 g = some sg → ConOk E Tryd.prog g sg := (tabC_cons con14 (tabC_cons con15 tabC_nil))
abbrev keep6 : Nat → List Nat | 0 => [2, 3, 5, 6] | _ => []
def S6_0 (x5 : ByteArray) (x6 : Int) (y0_0 : Dat) (y1_0 : Int) (y1_1 : Int) (y1_2 : Dat) : St := ⟨[.u, .u, .pt 0 [] 0, .pt 1 [] 0, .u, .str x5, .int .i64 x6] ++ us 59, [.box (.st [.ro s5 y0_0]), .box (.st [.int .i64 y1_0, .int .i64 y1_1, .ro s7 y1_2])]⟩
theorem f6_round0 (K n : Nat) (x5 : ByteArray) (x6 : Int) (y0_0 : Dat) (y1_0 : Int) (y1_1 : Int) (y1_2 : Dat) :
    loopE T C6 K keep6 Tryd.f6 0 0 (behind T C6 K keep6 Tryd.f6 [.str] 0) (n + 1) (S6_0 x5 x6 y0_0 y1_0 y1_1 y1_2) =
      (bif decide (x6 < (y1_2.len : Int)) then (bif decide (x5.size + (ByteArray.mk #[32]).size ≤ 4611686018427387904) then (bif (decide (0 ≤ y1_1) && decide (y1_1 < (y0_0.len : Int))) then (bif (decide (0 ≤ x6) && decide (x6 < (((y0_0.fld y1_1.toNat).fld 3).len : Int))) then (bif decide ((x5 ++ (ByteArray.mk #[32])).size + (((((y0_0.fld y1_1.toNat).fld 3).fld x6.toNat).fld 0).str).size ≤ 4611686018427387904) then (bif decide (((x5 ++ (ByteArray.mk #[32])) ++ ((((y0_0.fld y1_1.toNat).fld 3).fld x6.toNat).fld 0).str).size + (ByteArray.mk #[61]).size ≤ 4611686018427387904) then (bif (decide (0 ≤ x6) && decide (x6 < (y1_2.len : Int))) then (bif decide ((((x5 ++ (ByteArray.mk #[32])) ++ ((((y0_0.fld y1_1.toNat).fld 3).fld x6.toNat).fld 0).str) ++ (ByteArray.mk #[61])).size + (valS (y1_2.fld x6.toNat)).size ≤ 4611686018427387904) then loopE T C6 K keep6 Tryd.f6 0 0 (behind T C6 K keep6 Tryd.f6 [.str] 0) n (S6_0 ((((x5 ++ (ByteArray.mk #[32])) ++ ((((y0_0.fld y1_1.toNat).fld 3).fld x6.toNat).fld 0).str) ++ (ByteArray.mk #[61])) ++ (valS (y1_2.fld x6.toNat))) (IntKind.i64.wrap (x6 + (1 : Int))) y0_0 y1_0 y1_1 y1_2) else none) else none) else none) else none) else none) else none) else none) else some [(Dat.s x5)]) := by kernel_rfl
theorem f6_start (K : Nat) (p : Dat) (o : Dat) : evBody T C6 noL K keep6 Tryd.f6 [s6, s8] [.str] [p, o] =
      (bif (!(inR ((o.fld 1).int) (0 : Int) (IntKind.i64.wrap (((p.fld 0).len : Int) - (1 : Int))))) then some [(Dat.s (.empty))] else (bif (decide (0 ≤ (o.fld 1).int) && decide ((o.fld 1).int < ((p.fld 0).len : Int))) then (bif (((o.fld 2).len : Int) != ((((p.fld 0).fld (((o.fld 1).int).toNat)).fld 3).len : Int)) then some [(Dat.s (.empty))] else (bif (decide (0 ≤ (o.fld 1).int) && decide ((o.fld 1).int < ((p.fld 0).len : Int))) then loopE T C6 K keep6 Tryd.f6 0 0 (behind T C6 K keep6 Tryd.f6 [.str] 0) K (S6_0 ((((p.fld 0).fld (((o.fld 1).int).toNat)).fld 0).str) (0 : Int) (p.fld 0) ((o.fld 0).int) ((o.fld 1).int) (o.fld 2)) else none)) else none)) := by kernel_rfl
theorem con6 : ConOk E Tryd.prog 6 ⟨[s6, s8], [.str], fun l => fit 1048576 s6 (l.getD 0 (.n [])) && fit 1048576 s8 (l.getD 1 (.n [])), fun l => [.s (objS (l.getD 0 (.n [])) (l.getD 1 (.n [])))]⟩ := con hM hD hT hC6 keep6 Tryd.func6 (by kernel_rfl) (by kernel_rfl) fun ds hl hp => by
  obtain ⟨p, o, rfl⟩ := ds_two hl
  obtain ⟨hp1, hp2⟩ := both (show (fit 1048576 s6 p && fit 1048576 s8 o) = true from hp)
  obtain ⟨hk, hke⟩ := fit_sl (show fit 1048576 (.sl s5) (p.fld 0) = true from fit_fld hp1 0 rfl)
  obtain ⟨hv, hve⟩ := fit_sl (show fit 1048576 (.sl s7) (o.fld 2) = true from fit_fld hp2 2 rfl)
  refine ⟨((o.fld 2).len + 1), ?_⟩
  rw [f6_start, wrap_len (by omega)]
  show _ = some [Dat.s (objS p o)]
  unfold objS
  cases hin : inR (o.fld 1).int 0 (((p.fld 0).len : Int) - 1)
  · rfl
  · obtain ⟨ix, hlt, hnat⟩ := place hin
    have hkind := hke _ hlt
    obtain ⟨hf, hfe⟩ := fit_sl (show fit 1048576 (.sl s2) (((p.fld 0).fld (o.fld 1).int.toNat).fld 3) = true from fit_fld hkind 3 rfl)
    have hname : (((p.fld 0).fld (o.fld 1).int.toNat).fld 0).str.size ≤ 1048576 := fit_str (fit_fld hkind 0 rfl)
    simp only [Bool.not_true, cond_false, ix, cond_true]
    by_cases hl2 : (o.fld 2).len = (((p.fld 0).fld (o.fld 1).int.toNat).fld 3).len
    · have e1 : (((o.fld 2).len : Int) != ((((p.fld 0).fld (o.fld 1).int.toNat).fld 3).len : Int)) = false := by simp [hl2]
      have e2 : ((o.fld 2).len == (((p.fld 0).fld (o.fld 1).int.toNat).fld 3).len) = true := by simp [hl2]
      have hfn : ∀ j, j < (o.fld 2).len → (((((p.fld 0).fld (o.fld 1).int.toNat).fld 3).fld j).fld 0).str.size ≤ 1048576 := fun j hj => fit_str (fit_fld (hfe j (by omega)) 0 rfl)
      rw [e1, cond_false, e2, cond_true]
      rw [show (((p.fld 0).fld (o.fld 1).int.toNat).fld 0).str = joinS (objW ((p.fld 0).fld (o.fld 1).int.toNat) o 0) (ByteArray.mk #[32]) from (joinS_one _ _).symm]
      refine iter_loop (E := fun n j (a : ByteArray) => loopE T C6 ((o.fld 2).len + 1) keep6 Tryd.f6 0 0 (behind T C6 ((o.fld 2).len + 1) keep6 Tryd.f6 [.str] 0) n (S6_0 a ((j : Nat) : Int) (p.fld 0) ((o.fld 0).int) ((o.fld 1).int) (o.fld 2))) (N := (o.fld 2).len) (acc := fun i => (joinS (objW ((p.fld 0).fld (o.fld 1).int.toNat) o i) (ByteArray.mk #[32]))) (fun n j hj => ?_) (fun n => ?_) _ (Nat.lt_succ_self _)
      · have hj2 : j < (((p.fld 0).fld (o.fld 1).int.toNat).fld 3).len := by omega
        have s1 := hfn j hj
        have s2 := valS_size ((o.fld 2).fld j)
        have s3 := objW_size (o := o) hname (fun i hi => hfn i (Nat.lt_trans hi hj)) (by omega)
        show loopE T C6 ((o.fld 2).len + 1) keep6 Tryd.f6 0 0 (behind T C6 ((o.fld 2).len + 1) keep6 Tryd.f6 [.str] 0) (n + 1) (S6_0 (joinS (objW ((p.fld 0).fld (o.fld 1).int.toNat) o j) (ByteArray.mk #[32])) ((j : Nat) : Int) (p.fld 0) ((o.fld 0).int) ((o.fld 1).int) (o.fld 2)) = _
        rw [f6_round0]
        simp only [dlt hj, dlt hj2, dge, Bool.and_self, ix, cond_true, Int.toNat_natCast, wrap_succ hj (show _ ≤ M by unfold M; omega)]
        rw [sz_bif, sz_bif, sz_bif, sz_bif]
        · rw [objW_succ, joinS_snoc (by unfold objW; simp)]
          simp only [app_assoc, Dat.str]
        all_goals (simp only [app_size, mk_size, List.size_toArray, List.length_cons, List.length_nil]; omega)
      · show loopE T C6 ((o.fld 2).len + 1) keep6 Tryd.f6 0 0 (behind T C6 ((o.fld 2).len + 1) keep6 Tryd.f6 [.str] 0) (n + 1) (S6_0 (joinS (objW ((p.fld 0).fld (o.fld 1).int.toNat) o (o.fld 2).len) (ByteArray.mk #[32])) (((o.fld 2).len : Nat) : Int) (p.fld 0) ((o.fld 0).int) ((o.fld 1).int) (o.fld 2)) = _
        rw [f6_round0, dnlt (Nat.lt_irrefl _), cond_false]
    · have e1 : (((o.fld 2).len : Int) != ((((p.fld 0).fld (o.fld 1).int.toNat).fld 3).len : Int)) = true := by simp; omega
      have e2 : ((o.fld 2).len == (((p.fld 0).fld (o.fld 1).int.toNat).fld 3).len) = false := by simp [hl2]
      rw [e1, cond_true, e2]; rfl

/-! impl.within -/
abbrev C18 : FuncId → Option Sig := tabC []
theorem hC18 : ∀ g sg, C18 g = some sg → ConOk E Tryd.prog g sg := tabC_nil
abbrev keep18 : Nat → List Nat := fun _ => []
theorem f18_start (K : Nat) (a : Dat) (b : Dat) (c : Dat) : evBody T C18 noL K keep18 Tryd.f18 [tInt, tInt, tInt] [.bool] [a, b, c] =
      (bif decide (a.int ≥ b.int) then some [(Dat.b (decide (a.int ≤ c.int)))] else some [(Dat.b false)]) := by kernel_rfl
theorem con18 : ConOk E Tryd.prog 18 inSig := con hM hD hT hC18 keep18 Tryd.func18 (by kernel_rfl) (by kernel_rfl) fun ds hl hp => by
  obtain ⟨a, b, c, rfl⟩ := ds_three hl
  refine ⟨0, ?_⟩
  rw [f18_start]
  show _ = some [Dat.b (inR a.int b.int c.int)]
  exact inR_if _ _ _

/-! impl.isWord -/
abbrev C42 : FuncId → Option Sig := tabC [(18, inSig)]
theorem hC42 : ∀ g sg, C42 g = some sg → ConOk E Tryd.prog g sg := (tabC_cons con18 tabC_nil)
abbrev keep42 : Nat → List Nat := fun _ => []
theorem f42_start (K : Nat) (a : Dat) : evBody T C42 noL K keep42 Tryd.f42 [tInt] [.bool] [a] =
      some [(Dat.b (inR a.int (-2147483648 : Int) (2147483647 : Int)))] := by kernel_rfl
theorem con42 : ConOk E Tryd.prog 42 (oneSig tInt .bool fun a => .b (inR a.int (-2147483648) 2147483647)) := con hM hD hT hC42 keep42 Tryd.func42 (by kernel_rfl) (by kernel_rfl) fun ds hl hp => by
  obtain ⟨a, rfl⟩ := ds_one hl
  exact ⟨0, f42_start 0 a⟩

/-! impl.ValOk -/
abbrev C28 : FuncId → Option Sig := tabC [(18, inSig), (42, oneSig tInt .bool fun a => .b (inR a.int (-2147483648) 2147483647))]
theorem hC28 : ∀ g sg, C28 g = some sg → ConOk E Tryd.prog g sg := (tabC_cons con18 (tabC_cons con42 tabC_nil))
abbrev keep28 : Nat → List Nat := fun _ => []
theorem f28_start (K : Nat) (a : Dat) : evBody T C28 noL K keep28 Tryd.f28 [s7] [.bool] [a] =
      (bif (a.fld 0).bool then some [(Dat.b (inR ((a.fld 1).int) (0 : Int) (1000000 : Int)))] else some [(Dat.b (inR ((a.fld 1).int) (-2147483648) 2147483647))]) := by kernel_rfl
theorem con28 : ConOk E Tryd.prog 28 (oneSig s7 .bool fun a => .b (valOk a)) := con hM hD hT hC28 keep28 Tryd.func28 (by kernel_rfl) (by kernel_rfl) fun ds hl hp => by
  obtain ⟨a, rfl⟩ := ds_one hl
  refine ⟨0, ?_⟩
  rw [f28_start]
  show _ = some [Dat.b (valOk a)]
  unfold valOk
  cases (a.fld 0).bool <;> rfl

theorem con29 : ConOk E Tryd.prog 29 itoaSig := con_itoa (enter_of Tryd.func29 (by kernel_rfl) (by kernel_rfl)) fun n h0 h1 w hw => Go.Proofs.Any.strconv_Itoa Tryd.laysM171 n h0 h1 w hw

/-! impl.ValText -/
abbrev C19 : FuncId → Option Sig := tabC [(28, oneSig s7 .bool fun a => .b (valOk a)), (29, itoaSig)]
theorem hC19 : ∀ g sg, C19 g = some sg → ConOk E Tryd.prog g sg := (tabC_cons con28 (tabC_cons con29 tabC_nil))
abbrev keep19 : Nat → List Nat := fun _ => []
theorem f19_start (K : Nat) (a : Dat) : evBody T C19 noL K keep19 Tryd.f19 [s7] [.str] [a] =
      (bif (!(valOk a)) then some [(Dat.s (.empty))] else (bif (a.fld 0).bool then (bif (i64B ((a.fld 1).int)) then (bif decide ((ByteArray.mk #[64]).size + (itoaS ((a.fld 1).int)).size ≤ 4611686018427387904) then some [(Dat.s ((ByteArray.mk #[64]) ++ (itoaS ((a.fld 1).int))))] else none) else none) else (bif (i64B ((a.fld 1).int)) then some [(Dat.s (itoaS ((a.fld 1).int)))] else none))) := by kernel_rfl
theorem con19 : ConOk E Tryd.prog 19 (oneSig s7 .str fun a => .s (valS a)) := con hM hD hT hC19 keep19 Tryd.func19 (by kernel_rfl) (by kernel_rfl) fun ds hl hp => by
  obtain ⟨a, rfl⟩ := ds_one hl
  refine ⟨0, ?_⟩
  rw [f19_start]
  show _ = some [Dat.s (valS a)]
  unfold valS
  cases h : valOk a
  · rfl
  · have h1 := valOk_i64 h
    have h2 := valOk_range h
    have h3 := itoaS_size (n := (a.fld 1).int) (by omega) (by omega)
    simp only [Bool.not_true, cond_false, cond_true, h1, decide_eq_true (show (ByteArray.mk #[64]).size + (itoaS (a.fld 1).int).size ≤ 4611686018427387904 by show 1 + _ ≤ _; omega)]
    cases (a.fld 0).bool <;> rfl

theorem con20 : ConOk E Tryd.prog 20 joinSig := con_join (enter_of Tryd.func20 (by kernel_rfl) (by kernel_rfl)) (fun a c sep w => Go.Proofs.Any.strings_Join_none Tryd.lays156 Tryd.Builder_Extra_156 a c sep w) fun bk o c xs sep w h1 h2 h3 h4 h5 => Go.Proofs.Any.strings_Join Tryd.lays156 Tryd.Builder_Extra_156 bk o c xs sep w h1 h2 h3 h4 h5

/-! impl.ObjectText -/
abbrev C9 : FuncId → Option Sig := tabC [(18, inSig), (19, oneSig s7 .str fun a => .s (valS a)), (20, joinSig)]
theorem hC9 : ∀ g sg, C9 g = some sg → ConOk E Tryd.prog g sg := (tabC_cons con18 (tabC_cons con19 (tabC_cons con20 tabC_nil)))
abbrev keep9 : Nat → List Nat | 0 => [3, 5, 44, 45, 46] | _ => []
def S9_0 (x44 : Dat) (x45 : Int) (x46 : Int) (y0_0 : Int) (y0_1 : Int) (y0_2 : Dat) (l1 : (List Dat)) : St := ⟨[.u, .u, .u, .pt 0 [] 0, .u, .hd 1] ++ us 38 ++ [.ro s2 x44, .int .i64 x45, .int .i64 x46] ++ us 20, [.box (.st [.int .i64 y0_0, .int .i64 y0_1, .ro s7 y0_2]), .arr .str l1]⟩
theorem f9_round0 (K n : Nat) (x44 : Dat) (x45 : Int) (x46 : Int) (y0_0 : Int) (y0_1 : Int) (y0_2 : Dat) (l1 : (List Dat)) :
    loopE T C9 K keep9 Tryd.f9 0 0 (behind T C9 K keep9 Tryd.f9 [.str] 0) (n + 1) (S9_0 x44 x45 x46 y0_0 y0_1 y0_2 l1) =
      (bif decide (x46 < x45) then (bif (decide (0 ≤ x46) && decide (x46 < (x44.len : Int))) then (bif decide ((((x44.fld x46.toNat).fld 0).str).size + (ByteArray.mk #[61]).size ≤ 4611686018427387904) then (bif (decide (0 ≤ x46) && decide (x46 < (y0_2.len : Int))) then (bif decide ((((x44.fld x46.toNat).fld 0).str ++ (ByteArray.mk #[61])).size + (valS (y0_2.fld x46.toNat)).size ≤ 4611686018427387904) then (bif decide (l1.length + ([(Dat.s ((((x44.fld x46.toNat).fld 0).str ++ (ByteArray.mk #[61])) ++ (valS (y0_2.fld x46.toNat))))]).length ≤ 4294967296) then loopE T C9 K keep9 Tryd.f9 0 0 (behind T C9 K keep9 Tryd.f9 [.str] 0) n (S9_0 x44 x45 (IntKind.i64.wrap (x46 + (1 : Int))) y0_0 y0_1 y0_2 (l1 ++ [(Dat.s ((((x44.fld x46.toNat).fld 0).str ++ (ByteArray.mk #[61])) ++ (valS (y0_2.fld x46.toNat))))])) else none) else none) else none) else none) else none) else (bif (Nat.ble l1.length 140737488355328 && Nat.ble (joinS l1 (ByteArray.mk #[32])).size 140737488355328) then some [(Dat.s (joinS l1 (ByteArray.mk #[32])))] else none)) := by kernel_rfl
theorem f9_start (K : Nat) (p : Dat) (o : Dat) : evBody T C9 noL K keep9 Tryd.f9 [s6, s8] [.str] [p, o] =
      (bif (!(inR ((o.fld 1).int) (0 : Int) (IntKind.i64.wrap (((p.fld 0).len : Int) - (1 : Int))))) then some [(Dat.s (.empty))] else (bif (decide (0 ≤ (o.fld 1).int) && decide ((o.fld 1).int < ((p.fld 0).len : Int))) then (bif (((o.fld 2).len : Int) != ((((p.fld 0).fld (((o.fld 1).int).toNat)).fld 3).len : Int)) then some [(Dat.s (.empty))] else (bif (decide (0 ≤ (o.fld 1).int) && decide ((o.fld 1).int < ((p.fld 0).len : Int))) then (bif (decide (0 ≤ (o.fld 1).int) && decide ((o.fld 1).int < ((p.fld 0).len : Int))) then loopE T C9 K keep9 Tryd.f9 0 0 (behind T C9 K keep9 Tryd.f9 [.str] 0) K (S9_0 (((p.fld 0).fld (((o.fld 1).int).toNat)).fld 3) ((((p.fld 0).fld (((o.fld 1).int).toNat)).fld 3).len : Int) (0 : Int) ((o.fld 0).int) ((o.fld 1).int) (o.fld 2) ([(Dat.s ((((p.fld 0).fld (((o.fld 1).int).toNat)).fld 0).str))])) else none) else none)) else none)) := by kernel_rfl
theorem con9 : ConOk E Tryd.prog 9 ⟨[s6, s8], [.str], fun l => fit 1048576 s6 (l.getD 0 (.n [])) && fit 1048576 s8 (l.getD 1 (.n [])), fun l => [.s (objS (l.getD 0 (.n [])) (l.getD 1 (.n [])))]⟩ := con hM hD hT hC9 keep9 Tryd.func9 (by kernel_rfl) (by kernel_rfl) fun ds hl hp => by
  obtain ⟨p, o, rfl⟩ := ds_two hl
  obtain ⟨hp1, hp2⟩ := both (show (fit 1048576 s6 p && fit 1048576 s8 o) = true from hp)
  obtain ⟨hk, hke⟩ := fit_sl (show fit 1048576 (.sl s5) (p.fld 0) = true from fit_fld hp1 0 rfl)
  obtain ⟨hv, hve⟩ := fit_sl (show fit 1048576 (.sl s7) (o.fld 2) = true from fit_fld hp2 2 rfl)
  refine ⟨((o.fld 2).len + 1), ?_⟩
  rw [f9_start, wrap_len (by omega)]
  show _ = some [Dat.s (objS p o)]
  unfold objS
  cases hin : inR (o.fld 1).int 0 (((p.fld 0).len : Int) - 1)
  · rfl
  · obtain ⟨ix, hlt, hnat⟩ := place hin
    have hkind := hke _ hlt
    obtain ⟨hf, hfe⟩ := fit_sl (show fit 1048576 (.sl s2) (((p.fld 0).fld (o.fld 1).int.toNat).fld 3) = true from fit_fld hkind 3 rfl)
    have hname : (((p.fld 0).fld (o.fld 1).int.toNat).fld 0).str.size ≤ 1048576 := fit_str (fit_fld hkind 0 rfl)
    simp only [Bool.not_true, cond_false, ix, cond_true]
    by_cases hl2 : (o.fld 2).len = (((p.fld 0).fld (o.fld 1).int.toNat).fld 3).len
    · have e1 : (((o.fld 2).len : Int) != ((((p.fld 0).fld (o.fld 1).int.toNat).fld 3).len : Int)) = false := by simp [hl2]
      have e2 : ((o.fld 2).len == (((p.fld 0).fld (o.fld 1).int.toNat).fld 3).len) = true := by simp [hl2]
      have hfn : ∀ j, j < (o.fld 2).len → (((((p.fld 0).fld (o.fld 1).int.toNat).fld 3).fld j).fld 0).str.size ≤ 1048576 := fun j hj => fit_str (fit_fld (hfe j (by omega)) 0 rfl)
      rw [e1, cond_false, e2, cond_true]
      rw [← hl2]
      refine iter_loop (E := fun n j (a : List Dat) => loopE T C9 ((o.fld 2).len + 1) keep9 Tryd.f9 0 0 (behind T C9 ((o.fld 2).len + 1) keep9 Tryd.f9 [.str] 0) n (S9_0 (((p.fld 0).fld (((o.fld 1).int).toNat)).fld 3) ((o.fld 2).len : Int) ((j : Nat) : Int) ((o.fld 0).int) ((o.fld 1).int) (o.fld 2) a)) (N := (o.fld 2).len) (acc := fun i => (objW ((p.fld 0).fld (o.fld 1).int.toNat) o i)) (fun n j hj => ?_) (fun n => ?_) _ (Nat.lt_succ_self _)
      · have hj2 : j < (((p.fld 0).fld (o.fld 1).int.toNat).fld 3).len := by omega
        have s1 := hfn j hj
        have s2 := valS_size ((o.fld 2).fld j)
        have s3 := objW_size (o := o) hname (fun i hi => hfn i (Nat.lt_trans hi hj)) (by omega)
        show loopE T C9 ((o.fld 2).len + 1) keep9 Tryd.f9 0 0 (behind T C9 ((o.fld 2).len + 1) keep9 Tryd.f9 [.str] 0) (n + 1) (S9_0 (((p.fld 0).fld (((o.fld 1).int).toNat)).fld 3) ((o.fld 2).len : Int) ((j : Nat) : Int) ((o.fld 0).int) ((o.fld 1).int) (o.fld 2) (objW ((p.fld 0).fld (o.fld 1).int.toNat) o j)) = _
        rw [f9_round0]
        simp only [dlt hj, dlt hj2, dge, Bool.and_self, ix, cond_true, Int.toNat_natCast, wrap_succ hj (show _ ≤ M by unfold M; omega)]
        rw [sz_bif, sz_bif, decide_eq_true, cond_true]
        · rw [objW_succ]
        · rw [objW_length]; simp; omega
        all_goals (simp only [app_size, mk_size, List.size_toArray, List.length_cons, List.length_nil]; omega)
      · have s3 := objW_size (o := o) hname hfn (by omega)
        show loopE T C9 ((o.fld 2).len + 1) keep9 Tryd.f9 0 0 (behind T C9 ((o.fld 2).len + 1) keep9 Tryd.f9 [.str] 0) (n + 1) (S9_0 (((p.fld 0).fld (((o.fld 1).int).toNat)).fld 3) ((o.fld 2).len : Int) (((o.fld 2).len : Nat) : Int) ((o.fld 0).int) ((o.fld 1).int) (o.fld 2) (objW ((p.fld 0).fld (o.fld 1).int.toNat) o (o.fld 2).len)) = _
        rw [f9_round0, dnlt (Nat.lt_irrefl _), cond_false]
        rw [Nat.ble_eq_true_of_le (show (objW ((p.fld 0).fld (o.fld 1).int.toNat) o (o.fld 2).len).length ≤ 140737488355328 by rw [objW_length]; omega), Nat.ble_eq_true_of_le (show (joinS (objW ((p.fld 0).fld (o.fld 1).int.toNat) o (o.fld 2).len) (ByteArray.mk #[32])).size ≤ 140737488355328 by omega)]
        rfl
    · have e1 : (((o.fld 2).len : Int) != ((((p.fld 0).fld (o.fld 1).int.toNat).fld 3).len : Int)) = true := by simp; omega
      have e2 : ((o.fld 2).len == (((p.fld 0).fld (o.fld 1).int.toNat).fld 3).len) = false := by simp [hl2]
      rw [e1, cond_true, e2]; rfl

/-! laws.eqConst -/
abbrev C58 : FuncId → Option Sig := tabC []
theorem hC58 : ∀ g sg, C58 g = some sg → ConOk E Tryd.prog g sg := tabC_nil
abbrev keep58 : Nat → List Nat := fun _ => []
theorem f58_start (K : Nat) (a : Dat) (b : Dat) : evBody T C58 noL K keep58 Tryd.f58 [s1, s1] [.bool] [a, b] =
      (bif ((a.fld 0).int != (b.fld 0).int) then some [(Dat.b false)] else (bif ((a.fld 1).int != (b.fld 1).int) then some [(Dat.b false)] else (bif (!(((a.fld 2).str).toList == ((b.fld 2).str).toList)) then some [(Dat.b false)] else (bif (!(((a.fld 3).str).toList == ((b.fld 3).str).toList)) then some [(Dat.b false)] else some [(Dat.b true)])))) := by kernel_rfl
theorem con58 : ConOk E Tryd.prog 58 (eqSig s1) := con hM hD hT hC58 keep58 Tryd.func58 (by kernel_rfl) (by kernel_rfl) fun ds hl hp => by
  obtain ⟨a, b, rfl⟩ := ds_two hl
  obtain ⟨ha, hb⟩ := both (show (fit M s1 a && fit M s1 b) = true from hp)
  refine ⟨0, ?_⟩
  rw [f58_start]
  show _ = some [Dat.b (((a.fld 0).int == (b.fld 0).int) && (((a.fld 1).int == (b.fld 1).int) && (((a.fld 2).str.toList == (b.fld 2).str.toList) && (((a.fld 3).str.toList == (b.fld 3).str.toList) && true))))]
  exact (and_step (and_step (and_step (and_step rfl))))


/-! laws.eqConstS -/
abbrev C46 : FuncId → Option Sig := tabC [(58, eqSig s1)]
theorem hC46 : ∀ g sg, C46 g = some sg → ConOk E Tryd.prog g sg := (tabC_cons con58 tabC_nil)
abbrev keep46 : Nat → List Nat | 0 => [0, 1, 4, 5] | _ => []
def S46_0 (x0 : Dat) (x1 : Dat) (x5 : Int) : St := ⟨[.ro s1 x0, .ro s1 x1, .u, .u, .bool false, .int .i64 x5] ++ us 21, []⟩
theorem f46_round0 (K n : Nat) (x0 : Dat) (x1 : Dat) (x5 : Int) :
    loopE T C46 K keep46 Tryd.f46 0 0 (behind T C46 K keep46 Tryd.f46 [.bool] 0) (n + 1) (S46_0 x0 x1 x5) =
      (bif decide (x5 < (x0.len : Int)) then (bif (decide (0 ≤ x5) && decide (x5 < (x0.len : Int))) then (bif (decide (0 ≤ x5) && decide (x5 < (x1.len : Int))) then (bif (fit M s1 (x0.fld x5.toNat) && fit M s1 (x1.fld x5.toNat)) then (bif (!(deq s1 (x0.fld x5.toNat) (x1.fld x5.toNat))) then some [(Dat.b false)] else loopE T C46 K keep46 Tryd.f46 0 0 (behind T C46 K keep46 Tryd.f46 [.bool] 0) n (S46_0 x0 x1 (IntKind.i64.wrap (x5 + (1 : Int))))) else none) else none) else none) else some [(Dat.b true)]) := by kernel_rfl
theorem f46_start (K : Nat) (a : Dat) (b : Dat) : evBody T C46 noL K keep46 Tryd.f46 [(.sl s1), (.sl s1)] [.bool] [a, b] =
      (bif ((a.len : Int) != (b.len : Int)) then some [(Dat.b false)] else loopE T C46 K keep46 Tryd.f46 0 0 (behind T C46 K keep46 Tryd.f46 [.bool] 0) K (S46_0 a b (0 : Int))) := by kernel_rfl
theorem con46 : ConOk E Tryd.prog 46 (eqSig (.sl s1)) := con hM hD hT hC46 keep46 Tryd.func46 (by kernel_rfl) (by kernel_rfl) fun ds hl hp => by
  obtain ⟨a, b, rfl⟩ := ds_two hl
  obtain ⟨ha, hb⟩ := both (show (fit M (.sl s1) a && fit M (.sl s1) b) = true from hp)
  obtain ⟨hn, he⟩ := fit_sl ha
  obtain ⟨hn2, he2⟩ := fit_sl hb
  refine ⟨a.len + 1, ?_⟩
  rw [f46_start]
  show _ = some [Dat.b (deq (.sl s1) a b)]
  rw [deq_sl]
  by_cases hlen : a.len = b.len
  · have c1 : ((a.len : Int) != (b.len : Int)) = false := by simp [hlen]
    have c2 : (a.len == b.len) = true := by simp [hlen]
    rw [c1, cond_false, c2, Bool.true_and]
    refine (all_loop (E := fun n j => loopE T C46 (a.len + 1) keep46 Tryd.f46 0 0 (behind T C46 (a.len + 1) keep46 Tryd.f46 [.bool] 0) n (S46_0 a b ((j : Nat) : Int))) (N := a.len) (p := fun j => deq s1 (a.fld j) (b.fld j)) (kT := some [.b true]) (kF := some [.b false]) (fun n j hj => ?_) (fun n => ?_)).trans ?_
    · have hj2 : j < b.len := by omega
      have f1 := he j hj
      have f2 := he2 j hj2
      show loopE T C46 (a.len + 1) keep46 Tryd.f46 0 0 (behind T C46 (a.len + 1) keep46 Tryd.f46 [.bool] 0) (n + 1) (S46_0 a b ((j : Nat) : Int)) = _
      rw [f46_round0]
      simp only [dlt hj, dge, dlt hj2, Int.toNat_natCast, f1, f2, Bool.and_self, cond_true, wrap_succ hj hn]
      cases deq s1 (a.fld j) (b.fld j) <;> rfl
    · show loopE T C46 (a.len + 1) keep46 Tryd.f46 0 0 (behind T C46 (a.len + 1) keep46 Tryd.f46 [.bool] 0) (n + 1) (S46_0 a b ((a.len : Nat) : Int)) = _
      rw [f46_round0, dnlt (Nat.lt_irrefl _)]; rfl
    · cases (List.range a.len).all fun j => deq s1 (a.fld j) (b.fld j) <;> rfl
  · have c1 : ((a.len : Int) != (b.len : Int)) = true := by simp; omega
    have c2 : (a.len == b.len) = false := by simp [hlen]
    rw [c1, cond_true, c2]; rfl


/-! laws.eqField -/
abbrev C59 : FuncId → Option Sig := tabC []
theorem hC59 : ∀ g sg, C59 g = some sg → ConOk E Tryd.prog g sg := tabC_nil
abbrev keep59 : Nat → List Nat := fun _ => []
theorem f59_start (K : Nat) (a : Dat) (b : Dat) : evBody T C59 noL K keep59 Tryd.f59 [s2, s2] [.bool] [a, b] =
      (bif (!(((a.fld 0).str).toList == ((b.fld 0).str).toList)) then some [(Dat.b false)] else (bif (!(((a.fld 1).str).toList == ((b.fld 1).str).toList)) then some [(Dat.b false)] else some [(Dat.b true)])) := by kernel_rfl
theorem con59 : ConOk E Tryd.prog 59 (eqSig s2) := con hM hD hT hC59 keep59 Tryd.func59 (by kernel_rfl) (by kernel_rfl) fun ds hl hp => by
  obtain ⟨a, b, rfl⟩ := ds_two hl
  obtain ⟨ha, hb⟩ := both (show (fit M s2 a && fit M s2 b) = true from hp)
  refine ⟨0, ?_⟩
  rw [f59_start]
  show _ = some [Dat.b (((a.fld 0).str.toList == (b.fld 0).str.toList) && (((a.fld 1).str.toList == (b.fld 1).str.toList) && true))]
  exact (and_step (and_step rfl))


/-! laws.eqFieldS -/
abbrev C47 : FuncId → Option Sig := tabC [(59, eqSig s2)]
theorem hC47 : ∀ g sg, C47 g = some sg → ConOk E Tryd.prog g sg := (tabC_cons con59 tabC_nil)
abbrev keep47 : Nat → List Nat | 0 => [0, 1, 4, 5] | _ => []
def S47_0 (x0 : Dat) (x1 : Dat) (x5 : Int) : St := ⟨[.ro s2 x0, .ro s2 x1, .u, .u, .bool false, .int .i64 x5] ++ us 21, []⟩
theorem f47_round0 (K n : Nat) (x0 : Dat) (x1 : Dat) (x5 : Int) :
    loopE T C47 K keep47 Tryd.f47 0 0 (behind T C47 K keep47 Tryd.f47 [.bool] 0) (n + 1) (S47_0 x0 x1 x5) =
      (bif decide (x5 < (x0.len : Int)) then (bif (decide (0 ≤ x5) && decide (x5 < (x0.len : Int))) then (bif (decide (0 ≤ x5) && decide (x5 < (x1.len : Int))) then (bif (fit M s2 (x0.fld x5.toNat) && fit M s2 (x1.fld x5.toNat)) then (bif (!(deq s2 (x0.fld x5.toNat) (x1.fld x5.toNat))) then some [(Dat.b false)] else loopE T C47 K keep47 Tryd.f47 0 0 (behind T C47 K keep47 Tryd.f47 [.bool] 0) n (S47_0 x0 x1 (IntKind.i64.wrap (x5 + (1 : Int))))) else none) else none) else none) else some [(Dat.b true)]) := by kernel_rfl
theorem f47_start (K : Nat) (a : Dat) (b : Dat) : evBody T C47 noL K keep47 Tryd.f47 [(.sl s2), (.sl s2)] [.bool] [a, b] =
      (bif ((a.len : Int) != (b.len : Int)) then some [(Dat.b false)] else loopE T C47 K keep47 Tryd.f47 0 0 (behind T C47 K keep47 Tryd.f47 [.bool] 0) K (S47_0 a b (0 : Int))) := by kernel_rfl
theorem con47 : ConOk E Tryd.prog 47 (eqSig (.sl s2)) := con hM hD hT hC47 keep47 Tryd.func47 (by kernel_rfl) (by kernel_rfl) fun ds hl hp => by
  obtain ⟨a, b, rfl⟩ := ds_two hl
  obtain ⟨ha, hb⟩ := both (show (fit M (.sl s2) a && fit M (.sl s2) b) = true from hp)
  obtain ⟨hn, he⟩ := fit_sl ha
  obtain ⟨hn2, he2⟩ := fit_sl hb
  refine ⟨a.len + 1, ?_⟩
  rw [f47_start]
  show _ = some [Dat.b (deq (.sl s2) a b)]
  rw [deq_sl]
  by_cases hlen : a.len = b.len
  · have c1 : ((a.len : Int) != (b.len : Int)) = false := by simp [hlen]
    have c2 : (a.len == b.len) = true := by simp [hlen]
    rw [c1, cond_false, c2, Bool.true_and]
    refine (all_loop (E := fun n j => loopE T C47 (a.len + 1) keep47 Tryd.f47 0 0 (behind T C47 (a.len + 1) keep47 Tryd.f47 [.bool] 0) n (S47_0 a b ((j : Nat) : Int))) (N := a.len) (p := fun j => deq s2 (a.fld j) (b.fld j)) (kT := some [.b true]) (kF := some [.b false]) (fun n j hj => ?_) (fun n => ?_)).trans ?_
    · have hj2 : j < b.len := by omega
      have f1 := he j hj
      have f2 := he2 j hj2
      show loopE T C47 (a.len + 1) keep47 Tryd.f47 0 0 (behind T C47 (a.len + 1) keep47 Tryd.f47 [.bool] 0) (n + 1) (S47_0 a b ((j : Nat) : Int)) = _
      rw [f47_round0]
      simp only [dlt hj, dge, dlt hj2, Int.toNat_natCast, f1, f2, Bool.and_self, cond_true, wrap_succ hj hn]
      cases deq s2 (a.fld j) (b.fld j) <;> rfl
    · show loopE T C47 (a.len + 1) keep47 Tryd.f47 0 0 (behind T C47 (a.len + 1) keep47 Tryd.f47 [.bool] 0) (n + 1) (S47_0 a b ((a.len : Nat) : Int)) = _
      rw [f47_round0, dnlt (Nat.lt_irrefl _)]; rfl
    · cases (List.range a.len).all fun j => deq s2 (a.fld j) (b.fld j) <;> rfl
  · have c1 : ((a.len : Int) != (b.len : Int)) = true := by simp; omega
    have c2 : (a.len == b.len) = false := by simp [hlen]
    rw [c1, cond_true, c2]; rfl


/-! laws.eqStringS -/
abbrev C69 : FuncId → Option Sig := tabC []
theorem hC69 : ∀ g sg, C69 g = some sg → ConOk E Tryd.prog g sg := tabC_nil
abbrev keep69 : Nat → List Nat | 0 => [0, 1, 4, 5] | _ => []
def S69_0 (x0 : Dat) (x1 : Dat) (x5 : Int) : St := ⟨[.ro .str x0, .ro .str x1, .u, .u, .bool false, .int .i64 x5] ++ us 20, []⟩
theorem f69_round0 (K n : Nat) (x0 : Dat) (x1 : Dat) (x5 : Int) :
    loopE T C69 K keep69 Tryd.f69 0 0 (behind T C69 K keep69 Tryd.f69 [.bool] 0) (n + 1) (S69_0 x0 x1 x5) =
      (bif decide (x5 < (x0.len : Int)) then (bif (decide (0 ≤ x5) && decide (x5 < (x0.len : Int))) then (bif (decide (0 ≤ x5) && decide (x5 < (x1.len : Int))) then (bif (!(((x0.fld x5.toNat).str).toList == ((x1.fld x5.toNat).str).toList)) then some [(Dat.b false)] else loopE T C69 K keep69 Tryd.f69 0 0 (behind T C69 K keep69 Tryd.f69 [.bool] 0) n (S69_0 x0 x1 (IntKind.i64.wrap (x5 + (1 : Int))))) else none) else none) else some [(Dat.b true)]) := by kernel_rfl
theorem f69_start (K : Nat) (a : Dat) (b : Dat) : evBody T C69 noL K keep69 Tryd.f69 [(.sl .str), (.sl .str)] [.bool] [a, b] =
      (bif ((a.len : Int) != (b.len : Int)) then some [(Dat.b false)] else loopE T C69 K keep69 Tryd.f69 0 0 (behind T C69 K keep69 Tryd.f69 [.bool] 0) K (S69_0 a b (0 : Int))) := by kernel_rfl
theorem con69 : ConOk E Tryd.prog 69 (eqSig (.sl .str)) := con hM hD hT hC69 keep69 Tryd.func69 (by kernel_rfl) (by kernel_rfl) fun ds hl hp => by
  obtain ⟨a, b, rfl⟩ := ds_two hl
  obtain ⟨ha, hb⟩ := both (show (fit M (.sl .str) a && fit M (.sl .str) b) = true from hp)
  obtain ⟨hn, he⟩ := fit_sl ha
  obtain ⟨hn2, he2⟩ := fit_sl hb
  refine ⟨a.len + 1, ?_⟩
  rw [f69_start]
  show _ = some [Dat.b (deq (.sl .str) a b)]
  rw [deq_sl]
  by_cases hlen : a.len = b.len
  · have c1 : ((a.len : Int) != (b.len : Int)) = false := by simp [hlen]
    have c2 : (a.len == b.len) = true := by simp [hlen]
    rw [c1, cond_false, c2, Bool.true_and]
    refine (all_loop (E := fun n j => loopE T C69 (a.len + 1) keep69 Tryd.f69 0 0 (behind T C69 (a.len + 1) keep69 Tryd.f69 [.bool] 0) n (S69_0 a b ((j : Nat) : Int))) (N := a.len) (p := fun j => deq .str (a.fld j) (b.fld j)) (kT := some [.b true]) (kF := some [.b false]) (fun n j hj => ?_) (fun n => ?_)).trans ?_
    · have hj2 : j < b.len := by omega
      show loopE T C69 (a.len + 1) keep69 Tryd.f69 0 0 (behind T C69 (a.len + 1) keep69 Tryd.f69 [.bool] 0) (n + 1) (S69_0 a b ((j : Nat) : Int)) = _
      rw [f69_round0]
      simp only [dlt hj, dge, dlt hj2, Int.toNat_natCast, Bool.and_self, cond_true, wrap_succ hj hn]
      simp only [deq]; cases (a.fld j).str.toList == (b.fld j).str.toList <;> rfl
    · show loopE T C69 (a.len + 1) keep69 Tryd.f69 0 0 (behind T C69 (a.len + 1) keep69 Tryd.f69 [.bool] 0) (n + 1) (S69_0 a b ((a.len : Nat) : Int)) = _
      rw [f69_round0, dnlt (Nat.lt_irrefl _)]; rfl
    · cases (List.range a.len).all fun j => deq .str (a.fld j) (b.fld j) <;> rfl
  · have c1 : ((a.len : Int) != (b.len : Int)) = true := by simp; omega
    have c2 : (a.len == b.len) = false := by simp [hlen]
    rw [c1, cond_true, c2]; rfl


/-! laws.eqIns -/
abbrev C77 : FuncId → Option Sig := tabC []
theorem hC77 : ∀ g sg, C77 g = some sg → ConOk E Tryd.prog g sg := tabC_nil
abbrev keep77 : Nat → List Nat := fun _ => []
theorem f77_start (K : Nat) (a : Dat) (b : Dat) : evBody T C77 noL K keep77 Tryd.f77 [s3, s3] [.bool] [a, b] =
      (bif ((a.fld 0).int != (b.fld 0).int) then some [(Dat.b false)] else (bif ((a.fld 1).int != (b.fld 1).int) then some [(Dat.b false)] else some [(Dat.b true)])) := by kernel_rfl
theorem con77 : ConOk E Tryd.prog 77 (eqSig s3) := con hM hD hT hC77 keep77 Tryd.func77 (by kernel_rfl) (by kernel_rfl) fun ds hl hp => by
  obtain ⟨a, b, rfl⟩ := ds_two hl
  obtain ⟨ha, hb⟩ := both (show (fit M s3 a && fit M s3 b) = true from hp)
  refine ⟨0, ?_⟩
  rw [f77_start]
  show _ = some [Dat.b (((a.fld 0).int == (b.fld 0).int) && (((a.fld 1).int == (b.fld 1).int) && true))]
  exact (and_step (and_step rfl))


/-! laws.eqInsS -/
abbrev C70 : FuncId → Option Sig := tabC [(77, eqSig s3)]
theorem hC70 : ∀ g sg, C70 g = some sg → ConOk E Tryd.prog g sg := (tabC_cons con77 tabC_nil)
abbrev keep70 : Nat → List Nat | 0 => [0, 1, 4, 5] | _ => []
def S70_0 (x0 : Dat) (x1 : Dat) (x5 : Int) : St := ⟨[.ro s3 x0, .ro s3 x1, .u, .u, .bool false, .int .i64 x5] ++ us 21, []⟩
theorem f70_round0 (K n : Nat) (x0 : Dat) (x1 : Dat) (x5 : Int) :
    loopE T C70 K keep70 Tryd.f70 0 0 (behind T C70 K keep70 Tryd.f70 [.bool] 0) (n + 1) (S70_0 x0 x1 x5) =
      (bif decide (x5 < (x0.len : Int)) then (bif (decide (0 ≤ x5) && decide (x5 < (x0.len : Int))) then (bif (decide (0 ≤ x5) && decide (x5 < (x1.len : Int))) then (bif (fit M s3 (x0.fld x5.toNat) && fit M s3 (x1.fld x5.toNat)) then (bif (!(deq s3 (x0.fld x5.toNat) (x1.fld x5.toNat))) then some [(Dat.b false)] else loopE T C70 K keep70 Tryd.f70 0 0 (behind T C70 K keep70 Tryd.f70 [.bool] 0) n (S70_0 x0 x1 (IntKind.i64.wrap (x5 + (1 : Int))))) else none) else none) else none) else some [(Dat.b true)]) := by kernel_rfl
theorem f70_start (K : Nat) (a : Dat) (b : Dat) : evBody T C70 noL K keep70 Tryd.f70 [(.sl s3), (.sl s3)] [.bool] [a, b] =
      (bif ((a.len : Int) != (b.len : Int)) then some [(Dat.b false)] else loopE T C70 K keep70 Tryd.f70 0 0 (behind T C70 K keep70 Tryd.f70 [.bool] 0) K (S70_0 a b (0 : Int))) := by kernel_rfl
theorem con70 : ConOk E Tryd.prog 70 (eqSig (.sl s3)) := con hM hD hT hC70 keep70 Tryd.func70 (by kernel_rfl) (by kernel_rfl) fun ds hl hp => by
  obtain ⟨a, b, rfl⟩ := ds_two hl
  obtain ⟨ha, hb⟩ := both (show (fit M (.sl s3) a && fit M (.sl s3) b) = true from hp)
  obtain ⟨hn, he⟩ := fit_sl ha
  obtain ⟨hn2, he2⟩ := fit_sl hb
  refine ⟨a.len + 1, ?_⟩
  rw [f70_start]
  show _ = some [Dat.b (deq (.sl s3) a b)]
  rw [deq_sl]
  by_cases hlen : a.len = b.len
  · have c1 : ((a.len : Int) != (b.len : Int)) = false := by simp [hlen]
    have c2 : (a.len == b.len) = true := by simp [hlen]
    rw [c1, cond_false, c2, Bool.true_and]
    refine (all_loop (E := fun n j => loopE T C70 (a.len + 1) keep70 Tryd.f70 0 0 (behind T C70 (a.len + 1) keep70 Tryd.f70 [.bool] 0) n (S70_0 a b ((j : Nat) : Int))) (N := a.len) (p := fun j => deq s3 (a.fld j) (b.fld j)) (kT := some [.b true]) (kF := some [.b false]) (fun n j hj => ?_) (fun n => ?_)).trans ?_
    · have hj2 : j < b.len := by omega
      have f1 := he j hj
      have f2 := he2 j hj2
      show loopE T C70 (a.len + 1) keep70 Tryd.f70 0 0 (behind T C70 (a.len + 1) keep70 Tryd.f70 [.bool] 0) (n + 1) (S70_0 a b ((j : Nat) : Int)) = _
      rw [f70_round0]
      simp only [dlt hj, dge, dlt hj2, Int.toNat_natCast, f1, f2, Bool.and_self, cond_true, wrap_succ hj hn]
      cases deq s3 (a.fld j) (b.fld j) <;> rfl
    · show loopE T C70 (a.len + 1) keep70 Tryd.f70 0 0 (behind T C70 (a.len + 1) keep70 Tryd.f70 [.bool] 0) (n + 1) (S70_0 a b ((a.len : Nat) : Int)) = _
      rw [f70_round0, dnlt (Nat.lt_irrefl _)]; rfl
    · cases (List.range a.len).all fun j => deq s3 (a.fld j) (b.fld j) <;> rfl
  · have c1 : ((a.len : Int) != (b.len : Int)) = true := by simp; omega
    have c2 : (a.len == b.len) = false := by simp [hlen]
    rw [c1, cond_true, c2]; rfl


/-! laws.eqCode -/
abbrev C60 : FuncId → Option Sig := tabC [(69, eqSig (.sl .str)), (70, eqSig (.sl s3))]
theorem hC60 : ∀ g sg, C60 g = some sg → ConOk E Tryd.prog g sg := (tabC_cons con69 (tabC_cons con70 tabC_nil))
abbrev keep60 : Nat → List Nat := fun _ => []
theorem f60_start (K : Nat) (a : Dat) (b : Dat) : evBody T C60 noL K keep60 Tryd.f60 [s4, s4] [.bool] [a, b] =
      (bif (!(((a.fld 0).str).toList == ((b.fld 0).str).toList)) then some [(Dat.b false)] else (bif ((a.fld 1).int != (b.fld 1).int) then some [(Dat.b false)] else (bif (fit M (.sl .str) (a.fld 2) && fit M (.sl .str) (b.fld 2)) then (bif (!(deq (.sl .str) (a.fld 2) (b.fld 2))) then some [(Dat.b false)] else (bif (!(((a.fld 3).str).toList == ((b.fld 3).str).toList)) then some [(Dat.b false)] else (bif ((a.fld 4).int != (b.fld 4).int) then some [(Dat.b false)] else (bif (fit M (.sl s3) (a.fld 5) && fit M (.sl s3) (b.fld 5)) then (bif (!(deq (.sl s3) (a.fld 5) (b.fld 5))) then some [(Dat.b false)] else some [(Dat.b true)]) else none)))) else none))) := by kernel_rfl
theorem con60 : ConOk E Tryd.prog 60 (eqSig s4) := con hM hD hT hC60 keep60 Tryd.func60 (by kernel_rfl) (by kernel_rfl) fun ds hl hp => by
  obtain ⟨a, b, rfl⟩ := ds_two hl
  obtain ⟨ha, hb⟩ := both (show (fit M s4 a && fit M s4 b) = true from hp)
  refine ⟨0, ?_⟩
  have h2 : (fit M (.sl .str) (a.fld 2) && fit M (.sl .str) (b.fld 2)) = true := and_both (fit_fld ha 2 rfl) (fit_fld hb 2 rfl)
  have h5 : (fit M (.sl s3) (a.fld 5) && fit M (.sl s3) (b.fld 5)) = true := and_both (fit_fld ha 5 rfl) (fit_fld hb 5 rfl)
  rw [f60_start]
  simp only [h2, h5, cond_true]
  show _ = some [Dat.b (((a.fld 0).str.toList == (b.fld 0).str.toList) && (((a.fld 1).int == (b.fld 1).int) && (deq (.sl .str) (a.fld 2) (b.fld 2) && (((a.fld 3).str.toList == (b.fld 3).str.toList) && (((a.fld 4).int == (b.fld 4).int) && (deq (.sl s3) (a.fld 5) (b.fld 5) && true))))))]
  exact (and_step (and_step (and_step (and_step (and_step (and_step rfl))))))


/-! laws.eqCodeS -/
abbrev C48 : FuncId → Option Sig := tabC [(60, eqSig s4)]
theorem hC48 : ∀ g sg, C48 g = some sg → ConOk E Tryd.prog g sg := (tabC_cons con60 tabC_nil)
abbrev keep48 : Nat → List Nat | 0 => [0, 1, 4, 5] | _ => []
def S48_0 (x0 : Dat) (x1 : Dat) (x5 : Int) : St := ⟨[.ro s4 x0, .ro s4 x1, .u, .u, .bool false, .int .i64 x5] ++ us 21, []⟩
theorem f48_round0 (K n : Nat) (x0 : Dat) (x1 : Dat) (x5 : Int) :
    loopE T C48 K keep48 Tryd.f48 0 0 (behind T C48 K keep48 Tryd.f48 [.bool] 0) (n + 1) (S48_0 x0 x1 x5) =
      (bif decide (x5 < (x0.len : Int)) then (bif (decide (0 ≤ x5) && decide (x5 < (x0.len : Int))) then (bif (decide (0 ≤ x5) && decide (x5 < (x1.len : Int))) then (bif (fit M s4 (x0.fld x5.toNat) && fit M s4 (x1.fld x5.toNat)) then (bif (!(deq s4 (x0.fld x5.toNat) (x1.fld x5.toNat))) then some [(Dat.b false)] else loopE T C48 K keep48 Tryd.f48 0 0 (behind T C48 K keep48 Tryd.f48 [.bool] 0) n (S48_0 x0 x1 (IntKind.i64.wrap (x5 + (1 : Int))))) else none) else none) else none) else some [(Dat.b true)]) := by kernel_rfl
theorem f48_start (K : Nat) (a : Dat) (b : Dat) : evBody T C48 noL K keep48 Tryd.f48 [(.sl s4), (.sl s4)] [.bool] [a, b] =
      (bif ((a.len : Int) != (b.len : Int)) then some [(Dat.b false)] else loopE T C48 K keep48 Tryd.f48 0 0 (behind T C48 K keep48 Tryd.f48 [.bool] 0) K (S48_0 a b (0 : Int))) := by kernel_rfl
theorem con48 : ConOk E Tryd.prog 48 (eqSig (.sl s4)) := con hM hD hT hC48 keep48 Tryd.func48 (by kernel_rfl) (by kernel_rfl) fun ds hl hp => by
  obtain ⟨a, b, rfl⟩ := ds_two hl
  obtain ⟨ha, hb⟩ := both (show (fit M (.sl s4) a && fit M (.sl s4) b) = true from hp)
  obtain ⟨hn, he⟩ := fit_sl ha
  obtain ⟨hn2, he2⟩ := fit_sl hb
  refine ⟨a.len + 1, ?_⟩
  rw [f48_start]
  show _ = some [Dat.b (deq (.sl s4) a b)]
  rw [deq_sl]
  by_cases hlen : a.len = b.len
  · have c1 : ((a.len : Int) != (b.len : Int)) = false := by simp [hlen]
    have c2 : (a.len == b.len) = true := by simp [hlen]
    rw [c1, cond_false, c2, Bool.true_and]
    refine (all_loop (E := fun n j => loopE T C48 (a.len + 1) keep48 Tryd.f48 0 0 (behind T C48 (a.len + 1) keep48 Tryd.f48 [.bool] 0) n (S48_0 a b ((j : Nat) : Int))) (N := a.len) (p := fun j => deq s4 (a.fld j) (b.fld j)) (kT := some [.b true]) (kF := some [.b false]) (fun n j hj => ?_) (fun n => ?_)).trans ?_
    · have hj2 : j < b.len := by omega
      have f1 := he j hj
      have f2 := he2 j hj2
      show loopE T C48 (a.len + 1) keep48 Tryd.f48 0 0 (behind T C48 (a.len + 1) keep48 Tryd.f48 [.bool] 0) (n + 1) (S48_0 a b ((j : Nat) : Int)) = _
      rw [f48_round0]
      simp only [dlt hj, dge, dlt hj2, Int.toNat_natCast, f1, f2, Bool.and_self, cond_true, wrap_succ hj hn]
      cases deq s4 (a.fld j) (b.fld j) <;> rfl
    · show loopE T C48 (a.len + 1) keep48 Tryd.f48 0 0 (behind T C48 (a.len + 1) keep48 Tryd.f48 [.bool] 0) (n + 1) (S48_0 a b ((a.len : Nat) : Int)) = _
      rw [f48_round0, dnlt (Nat.lt_irrefl _)]; rfl
    · cases (List.range a.len).all fun j => deq s4 (a.fld j) (b.fld j) <;> rfl
  · have c1 : ((a.len : Int) != (b.len : Int)) = true := by simp; omega
    have c2 : (a.len == b.len) = false := by simp [hlen]
    rw [c1, cond_true, c2]; rfl


/-! laws.eqKind -/
abbrev C33 : FuncId → Option Sig := tabC [(46, eqSig (.sl s1)), (47, eqSig (.sl s2)), (48, eqSig (.sl s4))]
theorem hC33 : ∀ g sg, C33 g = some sg → ConOk E Tryd.prog g sg := (tabC_cons con46 (tabC_cons con47 (tabC_cons con48 tabC_nil)))
abbrev keep33 : Nat → List Nat := fun _ => []
theorem f33_start (K : Nat) (a : Dat) (b : Dat) : evBody T C33 noL K keep33 Tryd.f33 [s5, s5] [.bool] [a, b] =
      (bif (!(((a.fld 0).str).toList == ((b.fld 0).str).toList)) then some [(Dat.b false)] else (bif ((a.fld 1).int != (b.fld 1).int) then some [(Dat.b false)] else (bif (fit M (.sl s1) (a.fld 2) && fit M (.sl s1) (b.fld 2)) then (bif (!(deq (.sl s1) (a.fld 2) (b.fld 2))) then some [(Dat.b false)] else (bif (fit M (.sl s2) (a.fld 3) && fit M (.sl s2) (b.fld 3)) then (bif (!(deq (.sl s2) (a.fld 3) (b.fld 3))) then some [(Dat.b false)] else (bif (fit M (.sl s4) (a.fld 4) && fit M (.sl s4) (b.fld 4)) then (bif (!(deq (.sl s4) (a.fld 4) (b.fld 4))) then some [(Dat.b false)] else some [(Dat.b true)]) else none)) else none)) else none))) := by kernel_rfl
theorem con33 : ConOk E Tryd.prog 33 (eqSig s5) := con hM hD hT hC33 keep33 Tryd.func33 (by kernel_rfl) (by kernel_rfl) fun ds hl hp => by
  obtain ⟨a, b, rfl⟩ := ds_two hl
  obtain ⟨ha, hb⟩ := both (show (fit M s5 a && fit M s5 b) = true from hp)
  refine ⟨0, ?_⟩
  have h2 : (fit M (.sl s1) (a.fld 2) && fit M (.sl s1) (b.fld 2)) = true := and_both (fit_fld ha 2 rfl) (fit_fld hb 2 rfl)
  have h3 : (fit M (.sl s2) (a.fld 3) && fit M (.sl s2) (b.fld 3)) = true := and_both (fit_fld ha 3 rfl) (fit_fld hb 3 rfl)
  have h4 : (fit M (.sl s4) (a.fld 4) && fit M (.sl s4) (b.fld 4)) = true := and_both (fit_fld ha 4 rfl) (fit_fld hb 4 rfl)
  rw [f33_start]
  simp only [h2, h3, h4, cond_true]
  show _ = some [Dat.b (((a.fld 0).str.toList == (b.fld 0).str.toList) && (((a.fld 1).int == (b.fld 1).int) && (deq (.sl s1) (a.fld 2) (b.fld 2) && (deq (.sl s2) (a.fld 3) (b.fld 3) && (deq (.sl s4) (a.fld 4) (b.fld 4) && true)))))]
  exact (and_step (and_step (and_step (and_step (and_step rfl)))))


/-! laws.eqKindS -/
abbrev C21 : FuncId → Option Sig := tabC [(33, eqSig s5)]
theorem hC21 : ∀ g sg, C21 g = some sg → ConOk E Tryd.prog g sg := (tabC_cons con33 tabC_nil)
abbrev keep21 : Nat → List Nat | 0 => [0, 1, 4, 5] | _ => []
def S21_0 (x0 : Dat) (x1 : Dat) (x5 : Int) : St := ⟨[.ro s5 x0, .ro s5 x1, .u, .u, .bool false, .int .i64 x5] ++ us 21, []⟩
theorem f21_round0 (K n : Nat) (x0 : Dat) (x1 : Dat) (x5 : Int) :
    loopE T C21 K keep21 Tryd.f21 0 0 (behind T C21 K keep21 Tryd.f21 [.bool] 0) (n + 1) (S21_0 x0 x1 x5) =
      (bif decide (x5 < (x0.len : Int)) then (bif (decide (0 ≤ x5) && decide (x5 < (x0.len : Int))) then (bif (decide (0 ≤ x5) && decide (x5 < (x1.len : Int))) then (bif (fit M s5 (x0.fld x5.toNat) && fit M s5 (x1.fld x5.toNat)) then (bif (!(deq s5 (x0.fld x5.toNat) (x1.fld x5.toNat))) then some [(Dat.b false)] else loopE T C21 K keep21 Tryd.f21 0 0 (behind T C21 K keep21 Tryd.f21 [.bool] 0) n (S21_0 x0 x1 (IntKind.i64.wrap (x5 + (1 : Int))))) else none) else none) else none) else some [(Dat.b true)]) := by kernel_rfl
theorem f21_start (K : Nat) (a : Dat) (b : Dat) : evBody T C21 noL K keep21 Tryd.f21 [(.sl s5), (.sl s5)] [.bool] [a, b] =
      (bif ((a.len : Int) != (b.len : Int)) then some [(Dat.b false)] else loopE T C21 K keep21 Tryd.f21 0 0 (behind T C21 K keep21 Tryd.f21 [.bool] 0) K (S21_0 a b (0 : Int))) := by kernel_rfl
theorem con21 : ConOk E Tryd.prog 21 (eqSig (.sl s5)) := con hM hD hT hC21 keep21 Tryd.func21 (by kernel_rfl) (by kernel_rfl) fun ds hl hp => by
  obtain ⟨a, b, rfl⟩ := ds_two hl
  obtain ⟨ha, hb⟩ := both (show (fit M (.sl s5) a && fit M (.sl s5) b) = true from hp)
  obtain ⟨hn, he⟩ := fit_sl ha
  obtain ⟨hn2, he2⟩ := fit_sl hb
  refine ⟨a.len + 1, ?_⟩
  rw [f21_start]
  show _ = some [Dat.b (deq (.sl s5) a b)]
  rw [deq_sl]
  by_cases hlen : a.len = b.len
  · have c1 : ((a.len : Int) != (b.len : Int)) = false := by simp [hlen]
    have c2 : (a.len == b.len) = true := by simp [hlen]
    rw [c1, cond_false, c2, Bool.true_and]
    refine (all_loop (E := fun n j => loopE T C21 (a.len + 1) keep21 Tryd.f21 0 0 (behind T C21 (a.len + 1) keep21 Tryd.f21 [.bool] 0) n (S21_0 a b ((j : Nat) : Int))) (N := a.len) (p := fun j => deq s5 (a.fld j) (b.fld j)) (kT := some [.b true]) (kF := some [.b false]) (fun n j hj => ?_) (fun n => ?_)).trans ?_
    · have hj2 : j < b.len := by omega
      have f1 := he j hj
      have f2 := he2 j hj2
      show loopE T C21 (a.len + 1) keep21 Tryd.f21 0 0 (behind T C21 (a.len + 1) keep21 Tryd.f21 [.bool] 0) (n + 1) (S21_0 a b ((j : Nat) : Int)) = _
      rw [f21_round0]
      simp only [dlt hj, dge, dlt hj2, Int.toNat_natCast, f1, f2, Bool.and_self, cond_true, wrap_succ hj hn]
      cases deq s5 (a.fld j) (b.fld j) <;> rfl
    · show loopE T C21 (a.len + 1) keep21 Tryd.f21 0 0 (behind T C21 (a.len + 1) keep21 Tryd.f21 [.bool] 0) (n + 1) (S21_0 a b ((a.len : Nat) : Int)) = _
      rw [f21_round0, dnlt (Nat.lt_irrefl _)]; rfl
    · cases (List.range a.len).all fun j => deq s5 (a.fld j) (b.fld j) <;> rfl
  · have c1 : ((a.len : Int) != (b.len : Int)) = true := by simp; omega
    have c2 : (a.len == b.len) = false := by simp [hlen]
    rw [c1, cond_true, c2]; rfl


/-! laws.eqProg -/
abbrev C10 : FuncId → Option Sig := tabC [(21, eqSig (.sl s5))]
theorem hC10 : ∀ g sg, C10 g = some sg → ConOk E Tryd.prog g sg := (tabC_cons con21 tabC_nil)
abbrev keep10 : Nat → List Nat := fun _ => []
theorem f10_start (K : Nat) (a : Dat) (b : Dat) : evBody T C10 noL K keep10 Tryd.f10 [s6, s6] [.bool] [a, b] =
      (bif (fit M (.sl s5) (a.fld 0) && fit M (.sl s5) (b.fld 0)) then (bif (!(deq (.sl s5) (a.fld 0) (b.fld 0))) then some [(Dat.b false)] else some [(Dat.b true)]) else none) := by kernel_rfl
theorem con10 : ConOk E Tryd.prog 10 (eqSig s6) := con hM hD hT hC10 keep10 Tryd.func10 (by kernel_rfl) (by kernel_rfl) fun ds hl hp => by
  obtain ⟨a, b, rfl⟩ := ds_two hl
  obtain ⟨ha, hb⟩ := both (show (fit M s6 a && fit M s6 b) = true from hp)
  refine ⟨0, ?_⟩
  have h0 : (fit M (.sl s5) (a.fld 0) && fit M (.sl s5) (b.fld 0)) = true := and_both (fit_fld ha 0 rfl) (fit_fld hb 0 rfl)
  rw [f10_start]
  simp only [h0, cond_true]
  show _ = some [Dat.b (deq (.sl s5) (a.fld 0) (b.fld 0) && true)]
  exact (and_step rfl)


/-! laws.eqVal -/
abbrev C34 : FuncId → Option Sig := tabC []
theorem hC34 : ∀ g sg, C34 g = some sg → ConOk E Tryd.prog g sg := tabC_nil
abbrev keep34 : Nat → List Nat := fun _ => []
theorem f34_start (K : Nat) (a : Dat) (b : Dat) : evBody T C34 noL K keep34 Tryd.f34 [s7, s7] [.bool] [a, b] =
      (bif (!((a.fld 0).bool == (b.fld 0).bool)) then some [(Dat.b false)] else (bif ((a.fld 1).int != (b.fld 1).int) then some [(Dat.b false)] else some [(Dat.b true)])) := by kernel_rfl
theorem con34 : ConOk E Tryd.prog 34 (eqSig s7) := con hM hD hT hC34 keep34 Tryd.func34 (by kernel_rfl) (by kernel_rfl) fun ds hl hp => by
  obtain ⟨a, b, rfl⟩ := ds_two hl
  obtain ⟨ha, hb⟩ := both (show (fit M s7 a && fit M s7 b) = true from hp)
  refine ⟨0, ?_⟩
  rw [f34_start]
  show _ = some [Dat.b (((a.fld 0).bool == (b.fld 0).bool) && (((a.fld 1).int == (b.fld 1).int) && true))]
  exact (and_step (and_step rfl))


/-! laws.eqValS -/
abbrev C22 : FuncId → Option Sig := tabC [(34, eqSig s7)]
theorem hC22 : ∀ g sg, C22 g = some sg → ConOk E Tryd.prog g sg := (tabC_cons con34 tabC_nil)
abbrev keep22 : Nat → List Nat | 0 => [0, 1, 4, 5] | _ => []
def S22_0 (x0 : Dat) (x1 : Dat) (x5 : Int) : St := ⟨[.ro s7 x0, .ro s7 x1, .u, .u, .bool false, .int .i64 x5] ++ us 21, []⟩
theorem f22_round0 (K n : Nat) (x0 : Dat) (x1 : Dat) (x5 : Int) :
    loopE T C22 K keep22 Tryd.f22 0 0 (behind T C22 K keep22 Tryd.f22 [.bool] 0) (n + 1) (S22_0 x0 x1 x5) =
      (bif decide (x5 < (x0.len : Int)) then (bif (decide (0 ≤ x5) && decide (x5 < (x0.len : Int))) then (bif (decide (0 ≤ x5) && decide (x5 < (x1.len : Int))) then (bif (fit M s7 (x0.fld x5.toNat) && fit M s7 (x1.fld x5.toNat)) then (bif (!(deq s7 (x0.fld x5.toNat) (x1.fld x5.toNat))) then some [(Dat.b false)] else loopE T C22 K keep22 Tryd.f22 0 0 (behind T C22 K keep22 Tryd.f22 [.bool] 0) n (S22_0 x0 x1 (IntKind.i64.wrap (x5 + (1 : Int))))) else none) else none) else none) else some [(Dat.b true)]) := by kernel_rfl
theorem f22_start (K : Nat) (a : Dat) (b : Dat) : evBody T C22 noL K keep22 Tryd.f22 [(.sl s7), (.sl s7)] [.bool] [a, b] =
      (bif ((a.len : Int) != (b.len : Int)) then some [(Dat.b false)] else loopE T C22 K keep22 Tryd.f22 0 0 (behind T C22 K keep22 Tryd.f22 [.bool] 0) K (S22_0 a b (0 : Int))) := by kernel_rfl
theorem con22 : ConOk E Tryd.prog 22 (eqSig (.sl s7)) := con hM hD hT hC22 keep22 Tryd.func22 (by kernel_rfl) (by kernel_rfl) fun ds hl hp => by
  obtain ⟨a, b, rfl⟩ := ds_two hl
  obtain ⟨ha, hb⟩ := both (show (fit M (.sl s7) a && fit M (.sl s7) b) = true from hp)
  obtain ⟨hn, he⟩ := fit_sl ha
  obtain ⟨hn2, he2⟩ := fit_sl hb
  refine ⟨a.len + 1, ?_⟩
  rw [f22_start]
  show _ = some [Dat.b (deq (.sl s7) a b)]
  rw [deq_sl]
  by_cases hlen : a.len = b.len
  · have c1 : ((a.len : Int) != (b.len : Int)) = false := by simp [hlen]
    have c2 : (a.len == b.len) = true := by simp [hlen]
    rw [c1, cond_false, c2, Bool.true_and]
    refine (all_loop (E := fun n j => loopE T C22 (a.len + 1) keep22 Tryd.f22 0 0 (behind T C22 (a.len + 1) keep22 Tryd.f22 [.bool] 0) n (S22_0 a b ((j : Nat) : Int))) (N := a.len) (p := fun j => deq s7 (a.fld j) (b.fld j)) (kT := some [.b true]) (kF := some [.b false]) (fun n j hj => ?_) (fun n => ?_)).trans ?_
    · have hj2 : j < b.len := by omega
      have f1 := he j hj
      have f2 := he2 j hj2
      show loopE T C22 (a.len + 1) keep22 Tryd.f22 0 0 (behind T C22 (a.len + 1) keep22 Tryd.f22 [.bool] 0) (n + 1) (S22_0 a b ((j : Nat) : Int)) = _
      rw [f22_round0]
      simp only [dlt hj, dge, dlt hj2, Int.toNat_natCast, f1, f2, Bool.and_self, cond_true, wrap_succ hj hn]
      cases deq s7 (a.fld j) (b.fld j) <;> rfl
    · show loopE T C22 (a.len + 1) keep22 Tryd.f22 0 0 (behind T C22 (a.len + 1) keep22 Tryd.f22 [.bool] 0) (n + 1) (S22_0 a b ((a.len : Nat) : Int)) = _
      rw [f22_round0, dnlt (Nat.lt_irrefl _)]; rfl
    · cases (List.range a.len).all fun j => deq s7 (a.fld j) (b.fld j) <;> rfl
  · have c1 : ((a.len : Int) != (b.len : Int)) = true := by simp; omega
    have c2 : (a.len == b.len) = false := by simp [hlen]
    rw [c1, cond_true, c2]; rfl


/-! laws.eqObject -/
abbrev C11 : FuncId → Option Sig := tabC [(22, eqSig (.sl s7))]
theorem hC11 : ∀ g sg, C11 g = some sg → ConOk E Tryd.prog g sg := (tabC_cons con22 tabC_nil)
abbrev keep11 : Nat → List Nat := fun _ => []
theorem f11_start (K : Nat) (a : Dat) (b : Dat) : evBody T C11 noL K keep11 Tryd.f11 [s8, s8] [.bool] [a, b] =
      (bif ((a.fld 0).int != (b.fld 0).int) then some [(Dat.b false)] else (bif ((a.fld 1).int != (b.fld 1).int) then some [(Dat.b false)] else (bif (fit M (.sl s7) (a.fld 2) && fit M (.sl s7) (b.fld 2)) then (bif (!(deq (.sl s7) (a.fld 2) (b.fld 2))) then some [(Dat.b false)] else some [(Dat.b true)]) else none))) := by kernel_rfl
theorem con11 : ConOk E Tryd.prog 11 (eqSig s8) := con hM hD hT hC11 keep11 Tryd.func11 (by kernel_rfl) (by kernel_rfl) fun ds hl hp => by
  obtain ⟨a, b, rfl⟩ := ds_two hl
  obtain ⟨ha, hb⟩ := both (show (fit M s8 a && fit M s8 b) = true from hp)
  refine ⟨0, ?_⟩
  have h2 : (fit M (.sl s7) (a.fld 2) && fit M (.sl s7) (b.fld 2)) = true := and_both (fit_fld ha 2 rfl) (fit_fld hb 2 rfl)
  rw [f11_start]
  simp only [h2, cond_true]
  show _ = some [Dat.b (((a.fld 0).int == (b.fld 0).int) && (((a.fld 1).int == (b.fld 1).int) && (deq (.sl s7) (a.fld 2) (b.fld 2) && true)))]
  exact (and_step (and_step (and_step rfl)))


/-! laws.FnExactObjectText -/
abbrev C3 : FuncId → Option Sig := tabC [(4, szSig s6), (5, szSig s8), (7, toSig s6 s6), (8, toSig s8 s8), (6, ⟨[s6, s8], [.str], fun l => fit 1048576 s6 (l.getD 0 (.n [])) && fit 1048576 s8 (l.getD 1 (.n [])), fun l => [.s (objS (l.getD 0 (.n [])) (l.getD 1 (.n [])))]⟩), (9, ⟨[s6, s8], [.str], fun l => fit 1048576 s6 (l.getD 0 (.n [])) && fit 1048576 s8 (l.getD 1 (.n [])), fun l => [.s (objS (l.getD 0 (.n [])) (l.getD 1 (.n [])))]⟩), (10, eqSig s6), (11, eqSig s8)]
theorem hC3 : ∀ g sg, C3 g = some sg → ConOk E Tryd.prog g sg := (tabC_cons con4 (tabC_cons con5 (tabC_cons con7 (tabC_cons con8 (tabC_cons con6 (tabC_cons con9 (tabC_cons con10 (tabC_cons con11 tabC_nil))))))))
abbrev keep3 : Nat → List Nat := fun _ => []
theorem f3_start (K : Nat) (a : Dat) (b : Dat) : evBody T C3 noL K keep3 Tryd.f3 [s6, s8] [.bool] [a, b] =
      (bif (fit M s6 a && (decide (0 ≤ (1048576 : Int)) && decide ((1048576 : Int) ≤ 1048576))) then (bif decide ((szR s6 a (1048576 : Int)) < (0 : Int)) then some [(Dat.b true)] else (bif (fit M s8 b && (decide (0 ≤ (szR s6 a (1048576 : Int))) && decide ((szR s6 a (1048576 : Int)) ≤ 1048576))) then (bif decide ((szR s8 b (szR s6 a (1048576 : Int))) < (0 : Int)) then some [(Dat.b true)] else (bif fit 1048576 s6 a then (bif fit 1048576 s8 b then (bif (fit 1048576 s6 (can s6 a) && fit 1048576 s8 (can s8 b)) then (bif fit 1048576 s6 a then (bif fit 1048576 s8 b then (bif (fit 1048576 s6 (can s6 a) && fit 1048576 s8 (can s8 b)) then (bif (!((objS (can s6 a) (can s8 b)).toList == (objS (can s6 a) (can s8 b)).toList)) then some [(Dat.b false)] else (bif fit 1048576 s6 a then (bif (fit M s6 (can s6 a) && fit M s6 (can s6 a)) then (bif (!(deq s6 (can s6 a) (can s6 a))) then some [(Dat.b false)] else (bif fit 1048576 s8 b then (bif (fit M s8 (can s8 b) && fit M s8 (can s8 b)) then (bif (!(deq s8 (can s8 b) (can s8 b))) then some [(Dat.b false)] else some [(Dat.b true)]) else none) else none)) else none) else none)) else none) else none) else none) else none) else none) else none)) else none)) else none) := by kernel_rfl
theorem con3 : ConOk E Tryd.prog 3 (lawSig [s6, s8]) := con hM hD hT hC3 keep3 Tryd.func3 (by kernel_rfl) (by kernel_rfl) fun ds hl hp => by
  obtain ⟨a, b, rfl⟩ := ds_two hl
  obtain ⟨ha, hb0⟩ := both (show (fit M s6 a && (fit M s8 b && true)) = true from hp)
  obtain ⟨hb, _⟩ := both hb0
  refine ⟨0, ?_⟩
  show _ = some [Dat.b true]
  rw [f3_start, sz_arg ha (by omega) (by omega), cond_true]
  by_cases n1 : szR s6 a 1048576 < 0
  · rw [decide_eq_true n1]; rfl
  · have q1 := sz_ok n1
    rw [decide_eq_false n1, cond_false, sz_arg hb q1.2.1 q1.2.2, cond_true]
    by_cases n2 : szR s8 b (szR s6 a 1048576) < 0
    · rw [decide_eq_true n2]; rfl
    · rw [decide_eq_false n2, cond_false]
      have hf := fit_of_sz ha n1 (by omega)
      have hg := fit_of_sz hb n2 q1.2.2
      have hf2 : fit 1048576 s6 (can s6 a) = true := by rw [fit_can]; exact hf
      have hg2 : fit 1048576 s8 (can s8 b) = true := by rw [fit_can]; exact hg
      simp only [hf, hg, hf2, hg2, fitM_can ha, fitM_can hb, deq_refl, Bool.and_self, cond_true, beq_self_eq_true, Bool.not_true, cond_false]


end Go.F1
