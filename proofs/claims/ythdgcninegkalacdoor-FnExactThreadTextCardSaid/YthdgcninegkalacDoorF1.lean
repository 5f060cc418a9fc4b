/- Contracts of functions, by program. -/
import Derived.Test.YthdgcninegkalacDoorEvY
import Derived.Test.YthdgcninegkalacDoorFVal
import Derived.Test.YthdgcninegkalacDoorFL
import Derived.Test.YthdgcninegkalacDoorRows
namespace Go.F1
open Go Go.Ev Go.Proofs
set_option maxRecDepth 100000
abbrev tabName : String := Go.Proofs.YthdgcninegkalacDoor.Rows.fnExactThreadTextRow.named.getD 0 default
theorem tabG : Tryd.prog.globalNamed tabName = some 0 := by kernel_rfl
abbrev E : Env := tabEnv Tryd.prog tabName .u64 Lib.pow10Tab 0 tabG
theorem hM : Tryd.prog.follows .mixedOrders = true := by kernel_rfl
theorem hD : 16 ≤ Tryd.prog.depth := of_decide_eq_true (by kernel_rfl)
abbrev tInt : Ty := .int .i64
abbrev s0 : Ty := (.st [tInt, tInt, .bool, (.int .u8)])
abbrev s1 : Ty := (.st [tInt, tInt, .str, .str])
abbrev s2 : Ty := (.st [.str, .str])
abbrev s3 : Ty := (.st [tInt, tInt])
abbrev s4 : Ty := (.st [.str, tInt, (.sl .str), .str, tInt, (.sl s3)])
abbrev s5 : Ty := (.st [.str, tInt, (.sl s1), (.sl s2), (.sl s4)])
abbrev s6 : Ty := (.st [(.sl s5)])
abbrev s7 : Ty := (.st [.bool, tInt])
abbrev s8 : Ty := (.st [tInt, tInt, tInt, (.sl s7), (.sl s7)])
abbrev s9 : Ty := (.st [tInt, (.sl s8), tInt, tInt])
def tab : TyTab := [none, none, none, some tInt, some (.bool), some (.int .u8), none, none, none, some (.str)] ++ List.replicate 12 none ++ [some (.sl s5), none, some s6, some (.sl s8), none, some s9, none, none, none, some (.sl s5), none, some s6, none, some (.sl s8), none, some s9] ++ List.replicate 7 none ++ [some (.sl .str), some (.sl s7), none, some s8, some (.sl s1), some (.sl s2), some (.sl s4), none, some s5, some (.sl s3), none, some s4, none, none, none, some s7] ++ List.replicate 6 none ++ [some (.sl s1), some (.sl s2), some (.sl s4), none, some s5, none, some (.sl s7), none, some s8, none, none, some (.sl (.int .u8))] ++ List.replicate 33 none ++ [some s1, none, none, some s2, none, some (.sl s3), none, some s4, some s1, none, some s2, none, none, none, some s7] ++ List.replicate 27 none ++ [some s3, none, some s3] ++ List.replicate 17 none
abbrev T : TypeId → Option Ty := TyTab.get tab
theorem hT : ∀ t ty, T t = some ty → TyOk Tryd.prog t ty := tab_ok (by kernel_rfl)

/-! laws.szConst -/
abbrev C62 : FuncId → Option Sig := tabC []
theorem hC62 : ∀ g sg, C62 g = some sg → ConOk E Tryd.prog g sg := tabC_nil
abbrev keep62 : Nat → List Nat := fun _ => []
theorem f62_start (K : Nat) (a : Dat) (l : Dat) : evBody T C62 noL K keep62 Tryd.f62 [s1, tInt] [tInt] [a, l] =
      (bif decide ((IntKind.i64.wrap (l.int - (((a.fld 2).str).size : Int))) < (0 : Int)) then some [(Dat.i (-1 : Int))] else (bif decide ((IntKind.i64.wrap ((IntKind.i64.wrap (l.int - (((a.fld 2).str).size : Int))) - (((a.fld 3).str).size : Int))) < (0 : Int)) then some [(Dat.i (-1 : Int))] else some [(Dat.i (IntKind.i64.wrap ((IntKind.i64.wrap (l.int - (((a.fld 2).str).size : Int))) - (((a.fld 3).str).size : Int))))])) := by kernel_rfl
theorem con62 : ConOk E Tryd.prog 62 (szSig s1) := con hM hD hT hC62 keep62 Tryd.func62 (by kernel_rfl) (by kernel_rfl) fun ds hl hp => by
  obtain ⟨a, l, rfl⟩ := ds_two hl
  obtain ⟨ha, h0, h1⟩ := sz_pre (show (fit M s1 a && (decide (0 ≤ l.int) && decide (l.int ≤ 1048576))) = true from hp)
  refine ⟨0, ?_⟩
  have k3 : (a.fld 3).str.size ≤ M := Nat.le_of_ble_eq_true (show Nat.ble _ _ = true from fit_fld (t := .str) ha 3 rfl)
  have k2 : (a.fld 2).str.size ≤ M := Nat.le_of_ble_eq_true (show Nat.ble _ _ = true from fit_fld (t := .str) ha 2 rfl)
  have hw : wt s1 a = ((a.fld 2).str.size + ((a.fld 3).str.size + 0)) := by
    simp only [wt_st, wts_cons, wts_nil, wt_int, wt_str, Nat.zero_add, Nat.add_zero]
  show _ = some [Dat.i (szr (wt s1 a) l.int)]
  rw [f62_start, hw]
  exact sz_len (k := fun l0 => (bif decide ((IntKind.i64.wrap (l0 - (((a.fld 3).str).size : Int))) < (0 : Int)) then some [(Dat.i (-1 : Int))] else some [(Dat.i (IntKind.i64.wrap (l0 - (((a.fld 3).str).size : Int))))])) k2 h0 h1 (fun l0 p0 q0 => sz_len (k := fun l1 => some [(Dat.i l1)]) k3 p0 q0 (fun l1 p1 q1 => (by rw [szr_zero p1])))


/-! laws.szConstS -/
abbrev C43 : FuncId → Option Sig := tabC [(62, szSig s1)]
theorem hC43 : ∀ g sg, C43 g = some sg → ConOk E Tryd.prog g sg := (tabC_cons con62 tabC_nil)
abbrev keep43 : Nat → List Nat | 0 => [0, 1, 4, 5] | _ => []
def S43_0 (x0 : Dat) (x1 : Int) (x5 : Int) : St := ⟨[.ro s1 x0, .int .i64 x1, .u, .u, .int .i64 (0 : Int), .int .i64 x5] ++ us 21, []⟩
theorem f43_round0 (K n : Nat) (x0 : Dat) (x1 : Int) (x5 : Int) :
    loopE T C43 K keep43 Tryd.f43 0 0 (behind T C43 K keep43 Tryd.f43 [tInt] 0) (n + 1) (S43_0 x0 x1 x5) =
      (bif decide (x5 < (x0.len : Int)) then (bif (decide (0 ≤ x5) && decide (x5 < (x0.len : Int))) then (bif (fit M s1 (x0.fld x5.toNat) && (decide (0 ≤ x1) && decide (x1 ≤ 1048576))) then (bif decide ((szR s1 (x0.fld x5.toNat) x1) < (0 : Int)) then some [(Dat.i (-1 : Int))] else loopE T C43 K keep43 Tryd.f43 0 0 (behind T C43 K keep43 Tryd.f43 [tInt] 0) n (S43_0 x0 (szR s1 (x0.fld x5.toNat) x1) (IntKind.i64.wrap (x5 + (1 : Int))))) else none) else none) else some [(Dat.i x1)]) := by kernel_rfl
theorem f43_start (K : Nat) (a : Dat) (l : Dat) : evBody T C43 noL K keep43 Tryd.f43 [(.sl s1), tInt] [tInt] [a, l] =
      (bif decide ((IntKind.i64.wrap (l.int - (a.len : Int))) < (0 : Int)) then some [(Dat.i (-1 : Int))] else loopE T C43 K keep43 Tryd.f43 0 0 (behind T C43 K keep43 Tryd.f43 [tInt] 0) K (S43_0 a (IntKind.i64.wrap (l.int - (a.len : Int))) (0 : Int))) := by kernel_rfl
theorem con43 : ConOk E Tryd.prog 43 (szSig (.sl s1)) := con hM hD hT hC43 keep43 Tryd.func43 (by kernel_rfl) (by kernel_rfl) fun ds hl hp => by
  obtain ⟨a, l, rfl⟩ := ds_two hl
  obtain ⟨ha, h0, h1⟩ := sz_pre (show (fit M (.sl s1) a && (decide (0 ≤ l.int) && decide (l.int ≤ 1048576))) = true from hp)
  obtain ⟨hn, he⟩ := fit_sl ha
  refine ⟨a.len + 1, ?_⟩
  show _ = some [Dat.i (szr (wt (.sl s1) a) l.int)]
  rw [wt_sl]
  rw [f43_start]
  refine sz_len (k := fun l' => loopE T C43 (a.len + 1) keep43 Tryd.f43 0 0 (behind T C43 (a.len + 1) keep43 Tryd.f43 [tInt] 0) (a.len + 1) (S43_0 a l' 0)) hn h0 h1 fun l' p0 p1 => ?_
  exact sz_loop (E := fun n j l => loopE T C43 (a.len + 1) keep43 Tryd.f43 0 0 (behind T C43 (a.len + 1) keep43 Tryd.f43 [tInt] 0) n (S43_0 a l (j : Int))) (N := a.len) (g := fun j => wt s1 (a.fld j)) (fun n j l hj q0 q1 => by
    have f1 := he j hj
    have e1 : decide (0 ≤ l) = true := by simpa using q0
    have e2 : decide (l ≤ 1048576) = true := by simpa using q1
    show loopE T C43 (a.len + 1) keep43 Tryd.f43 0 0 (behind T C43 (a.len + 1) keep43 Tryd.f43 [tInt] 0) (n + 1) (S43_0 a l (j : Int)) = _
    rw [f43_round0]
    simp only [dlt hj, dge, Int.toNat_natCast, f1, e1, e2, Bool.and_self, cond_true, wrap_succ hj hn]
    rfl)
    (fun n l => by
    show loopE T C43 (a.len + 1) keep43 Tryd.f43 0 0 (behind T C43 (a.len + 1) keep43 Tryd.f43 [tInt] 0) (n + 1) (S43_0 a l (a.len : Int)) = _
    rw [f43_round0, dnlt (Nat.lt_irrefl _)]; rfl) l' p0 p1


/-! laws.szField -/
abbrev C63 : FuncId → Option Sig := tabC []
theorem hC63 : ∀ g sg, C63 g = some sg → ConOk E Tryd.prog g sg := tabC_nil
abbrev keep63 : Nat → List Nat := fun _ => []
theorem f63_start (K : Nat) (a : Dat) (l : Dat) : evBody T C63 noL K keep63 Tryd.f63 [s2, tInt] [tInt] [a, l] =
      (bif decide ((IntKind.i64.wrap (l.int - (((a.fld 0).str).size : Int))) < (0 : Int)) then some [(Dat.i (-1 : Int))] else (bif decide ((IntKind.i64.wrap ((IntKind.i64.wrap (l.int - (((a.fld 0).str).size : Int))) - (((a.fld 1).str).size : Int))) < (0 : Int)) then some [(Dat.i (-1 : Int))] else some [(Dat.i (IntKind.i64.wrap ((IntKind.i64.wrap (l.int - (((a.fld 0).str).size : Int))) - (((a.fld 1).str).size : Int))))])) := by kernel_rfl
theorem con63 : ConOk E Tryd.prog 63 (szSig s2) := con hM hD hT hC63 keep63 Tryd.func63 (by kernel_rfl) (by kernel_rfl) fun ds hl hp => by
  obtain ⟨a, l, rfl⟩ := ds_two hl
  obtain ⟨ha, h0, h1⟩ := sz_pre (show (fit M s2 a && (decide (0 ≤ l.int) && decide (l.int ≤ 1048576))) = true from hp)
  refine ⟨0, ?_⟩
  have k1 : (a.fld 1).str.size ≤ M := Nat.le_of_ble_eq_true (show Nat.ble _ _ = true from fit_fld (t := .str) ha 1 rfl)
  have k0 : (a.fld 0).str.size ≤ M := Nat.le_of_ble_eq_true (show Nat.ble _ _ = true from fit_fld (t := .str) ha 0 rfl)
  have hw : wt s2 a = ((a.fld 0).str.size + ((a.fld 1).str.size + 0)) := by
    simp only [wt_st, wts_cons, wts_nil, wt_str, Nat.zero_add, Nat.add_zero]
  show _ = some [Dat.i (szr (wt s2 a) l.int)]
  rw [f63_start, hw]
  exact sz_len (k := fun l0 => (bif decide ((IntKind.i64.wrap (l0 - (((a.fld 1).str).size : Int))) < (0 : Int)) then some [(Dat.i (-1 : Int))] else some [(Dat.i (IntKind.i64.wrap (l0 - (((a.fld 1).str).size : Int))))])) k0 h0 h1 (fun l0 p0 q0 => sz_len (k := fun l1 => some [(Dat.i l1)]) k1 p0 q0 (fun l1 p1 q1 => (by rw [szr_zero p1])))


/-! laws.szFieldS -/
abbrev C44 : FuncId → Option Sig := tabC [(63, szSig s2)]
theorem hC44 : ∀ g sg, C44 g = some sg → ConOk E Tryd.prog g sg := (tabC_cons con63 tabC_nil)
abbrev keep44 : Nat → List Nat | 0 => [0, 1, 4, 5] | _ => []
def S44_0 (x0 : Dat) (x1 : Int) (x5 : Int) : St := ⟨[.ro s2 x0, .int .i64 x1, .u, .u, .int .i64 (0 : Int), .int .i64 x5] ++ us 21, []⟩
theorem f44_round0 (K n : Nat) (x0 : Dat) (x1 : Int) (x5 : Int) :
    loopE T C44 K keep44 Tryd.f44 0 0 (behind T C44 K keep44 Tryd.f44 [tInt] 0) (n + 1) (S44_0 x0 x1 x5) =
      (bif decide (x5 < (x0.len : Int)) then (bif (decide (0 ≤ x5) && decide (x5 < (x0.len : Int))) then (bif (fit M s2 (x0.fld x5.toNat) && (decide (0 ≤ x1) && decide (x1 ≤ 1048576))) then (bif decide ((szR s2 (x0.fld x5.toNat) x1) < (0 : Int)) then some [(Dat.i (-1 : Int))] else loopE T C44 K keep44 Tryd.f44 0 0 (behind T C44 K keep44 Tryd.f44 [tInt] 0) n (S44_0 x0 (szR s2 (x0.fld x5.toNat) x1) (IntKind.i64.wrap (x5 + (1 : Int))))) else none) else none) else some [(Dat.i x1)]) := by kernel_rfl
theorem f44_start (K : Nat) (a : Dat) (l : Dat) : evBody T C44 noL K keep44 Tryd.f44 [(.sl s2), tInt] [tInt] [a, l] =
      (bif decide ((IntKind.i64.wrap (l.int - (a.len : Int))) < (0 : Int)) then some [(Dat.i (-1 : Int))] else loopE T C44 K keep44 Tryd.f44 0 0 (behind T C44 K keep44 Tryd.f44 [tInt] 0) K (S44_0 a (IntKind.i64.wrap (l.int - (a.len : Int))) (0 : Int))) := by kernel_rfl
theorem con44 : ConOk E Tryd.prog 44 (szSig (.sl s2)) := con hM hD hT hC44 keep44 Tryd.func44 (by kernel_rfl) (by kernel_rfl) fun ds hl hp => by
  obtain ⟨a, l, rfl⟩ := ds_two hl
  obtain ⟨ha, h0, h1⟩ := sz_pre (show (fit M (.sl s2) a && (decide (0 ≤ l.int) && decide (l.int ≤ 1048576))) = true from hp)
  obtain ⟨hn, he⟩ := fit_sl ha
  refine ⟨a.len + 1, ?_⟩
  show _ = some [Dat.i (szr (wt (.sl s2) a) l.int)]
  rw [wt_sl]
  rw [f44_start]
  refine sz_len (k := fun l' => loopE T C44 (a.len + 1) keep44 Tryd.f44 0 0 (behind T C44 (a.len + 1) keep44 Tryd.f44 [tInt] 0) (a.len + 1) (S44_0 a l' 0)) hn h0 h1 fun l' p0 p1 => ?_
  exact sz_loop (E := fun n j l => loopE T C44 (a.len + 1) keep44 Tryd.f44 0 0 (behind T C44 (a.len + 1) keep44 Tryd.f44 [tInt] 0) n (S44_0 a l (j : Int))) (N := a.len) (g := fun j => wt s2 (a.fld j)) (fun n j l hj q0 q1 => by
    have f1 := he j hj
    have e1 : decide (0 ≤ l) = true := by simpa using q0
    have e2 : decide (l ≤ 1048576) = true := by simpa using q1
    show loopE T C44 (a.len + 1) keep44 Tryd.f44 0 0 (behind T C44 (a.len + 1) keep44 Tryd.f44 [tInt] 0) (n + 1) (S44_0 a l (j : Int)) = _
    rw [f44_round0]
    simp only [dlt hj, dge, Int.toNat_natCast, f1, e1, e2, Bool.and_self, cond_true, wrap_succ hj hn]
    rfl)
    (fun n l => by
    show loopE T C44 (a.len + 1) keep44 Tryd.f44 0 0 (behind T C44 (a.len + 1) keep44 Tryd.f44 [tInt] 0) (n + 1) (S44_0 a l (a.len : Int)) = _
    rw [f44_round0, dnlt (Nat.lt_irrefl _)]; rfl) l' p0 p1


/-! laws.szStringS -/
abbrev C79 : FuncId → Option Sig := tabC []
theorem hC79 : ∀ g sg, C79 g = some sg → ConOk E Tryd.prog g sg := tabC_nil
abbrev keep79 : Nat → List Nat | 0 => [0, 1, 4, 5] | _ => []
def S79_0 (x0 : Dat) (x1 : Int) (x5 : Int) : St := ⟨[.ro .str x0, .int .i64 x1, .u, .u, .int .i64 (0 : Int), .int .i64 x5] ++ us 22, []⟩
theorem f79_round0 (K n : Nat) (x0 : Dat) (x1 : Int) (x5 : Int) :
    loopE T C79 K keep79 Tryd.f79 0 0 (behind T C79 K keep79 Tryd.f79 [tInt] 0) (n + 1) (S79_0 x0 x1 x5) =
      (bif decide (x5 < (x0.len : Int)) then (bif (decide (0 ≤ x5) && decide (x5 < (x0.len : Int))) then (bif decide ((IntKind.i64.wrap (x1 - (((x0.fld x5.toNat).str).size : Int))) < (0 : Int)) then some [(Dat.i (-1 : Int))] else loopE T C79 K keep79 Tryd.f79 0 0 (behind T C79 K keep79 Tryd.f79 [tInt] 0) n (S79_0 x0 (IntKind.i64.wrap (x1 - (((x0.fld x5.toNat).str).size : Int))) (IntKind.i64.wrap (x5 + (1 : Int))))) else none) else some [(Dat.i x1)]) := by kernel_rfl
theorem f79_start (K : Nat) (a : Dat) (l : Dat) : evBody T C79 noL K keep79 Tryd.f79 [(.sl .str), tInt] [tInt] [a, l] =
      (bif decide ((IntKind.i64.wrap (l.int - (a.len : Int))) < (0 : Int)) then some [(Dat.i (-1 : Int))] else loopE T C79 K keep79 Tryd.f79 0 0 (behind T C79 K keep79 Tryd.f79 [tInt] 0) K (S79_0 a (IntKind.i64.wrap (l.int - (a.len : Int))) (0 : Int))) := by kernel_rfl
theorem con79 : ConOk E Tryd.prog 79 (szSig (.sl .str)) := con hM hD hT hC79 keep79 Tryd.func79 (by kernel_rfl) (by kernel_rfl) fun ds hl hp => by
  obtain ⟨a, l, rfl⟩ := ds_two hl
  obtain ⟨ha, h0, h1⟩ := sz_pre (show (fit M (.sl .str) a && (decide (0 ≤ l.int) && decide (l.int ≤ 1048576))) = true from hp)
  obtain ⟨hn, he⟩ := fit_sl ha
  refine ⟨a.len + 1, ?_⟩
  show _ = some [Dat.i (szr (wt (.sl .str) a) l.int)]
  rw [wt_sl]
  rw [f79_start]
  refine sz_len (k := fun l' => loopE T C79 (a.len + 1) keep79 Tryd.f79 0 0 (behind T C79 (a.len + 1) keep79 Tryd.f79 [tInt] 0) (a.len + 1) (S79_0 a l' 0)) hn h0 h1 fun l' p0 p1 => ?_
  exact sz_loop (E := fun n j l => loopE T C79 (a.len + 1) keep79 Tryd.f79 0 0 (behind T C79 (a.len + 1) keep79 Tryd.f79 [tInt] 0) n (S79_0 a l (j : Int))) (N := a.len) (g := fun j => wt .str (a.fld j)) (fun n j l hj q0 q1 => by
    have f1 := he j hj
    show loopE T C79 (a.len + 1) keep79 Tryd.f79 0 0 (behind T C79 (a.len + 1) keep79 Tryd.f79 [tInt] 0) (n + 1) (S79_0 a l (j : Int)) = _
    rw [f79_round0]
    simp only [dlt hj, dge, Int.toNat_natCast, Bool.and_self, cond_true, wrap_succ hj hn]
    exact szl_step (E := fun z => loopE T C79 (a.len + 1) keep79 Tryd.f79 0 0 (behind T C79 (a.len + 1) keep79 Tryd.f79 [tInt] 0) n (S79_0 a z (((j + 1 : Nat)) : Int))) (fit_str f1) q0 q1)
    (fun n l => by
    show loopE T C79 (a.len + 1) keep79 Tryd.f79 0 0 (behind T C79 (a.len + 1) keep79 Tryd.f79 [tInt] 0) (n + 1) (S79_0 a l (a.len : Int)) = _
    rw [f79_round0, dnlt (Nat.lt_irrefl _)]; rfl) l' p0 p1


/-! laws.szInsS -/
abbrev C80 : FuncId → Option Sig := tabC []
theorem hC80 : ∀ g sg, C80 g = some sg → ConOk E Tryd.prog g sg := tabC_nil
abbrev keep80 : Nat → List Nat := fun _ => []
theorem f80_start (K : Nat) (a : Dat) (l : Dat) : evBody T C80 noL K keep80 Tryd.f80 [(.sl s3), tInt] [tInt] [a, l] =
      (bif decide ((IntKind.i64.wrap (l.int - (a.len : Int))) < (0 : Int)) then some [(Dat.i (-1 : Int))] else some [(Dat.i (IntKind.i64.wrap (l.int - (a.len : Int))))]) := by kernel_rfl
theorem con80 : ConOk E Tryd.prog 80 (szSig (.sl s3)) := con hM hD hT hC80 keep80 Tryd.func80 (by kernel_rfl) (by kernel_rfl) fun ds hl hp => by
  obtain ⟨a, l, rfl⟩ := ds_two hl
  obtain ⟨ha, h0, h1⟩ := sz_pre (show (fit M (.sl s3) a && (decide (0 ≤ l.int) && decide (l.int ≤ 1048576))) = true from hp)
  obtain ⟨hn, he⟩ := fit_sl ha
  refine ⟨0, ?_⟩
  show _ = some [Dat.i (szr (wt (.sl s3) a) l.int)]
  rw [wt_sl, f80_start, sum_zero (fun i => show wt s3 (a.fld i) = 0 from rfl)]
  exact sz_len hn h0 h1 fun l' p0 _ => by rw [szr_zero p0]


/-! laws.szCode -/
abbrev C64 : FuncId → Option Sig := tabC [(79, szSig (.sl .str)), (80, szSig (.sl s3))]
theorem hC64 : ∀ g sg, C64 g = some sg → ConOk E Tryd.prog g sg := (tabC_cons con79 (tabC_cons con80 tabC_nil))
abbrev keep64 : Nat → List Nat := fun _ => []
theorem f64_start (K : Nat) (a : Dat) (l : Dat) : evBody T C64 noL K keep64 Tryd.f64 [s4, tInt] [tInt] [a, l] =
      (bif decide ((IntKind.i64.wrap (l.int - (((a.fld 0).str).size : Int))) < (0 : Int)) then some [(Dat.i (-1 : Int))] else (bif (fit M (.sl .str) (a.fld 2) && (decide (0 ≤ (IntKind.i64.wrap (l.int - (((a.fld 0).str).size : Int)))) && decide ((IntKind.i64.wrap (l.int - (((a.fld 0).str).size : Int))) ≤ 1048576))) then (bif decide ((szR (.sl .str) (a.fld 2) (IntKind.i64.wrap (l.int - (((a.fld 0).str).size : Int)))) < (0 : Int)) then some [(Dat.i (-1 : Int))] else (bif decide ((IntKind.i64.wrap ((szR (.sl .str) (a.fld 2) (IntKind.i64.wrap (l.int - (((a.fld 0).str).size : Int)))) - (((a.fld 3).str).size : Int))) < (0 : Int)) then some [(Dat.i (-1 : Int))] else (bif (fit M (.sl s3) (a.fld 5) && (decide (0 ≤ (IntKind.i64.wrap ((szR (.sl .str) (a.fld 2) (IntKind.i64.wrap (l.int - (((a.fld 0).str).size : Int)))) - (((a.fld 3).str).size : Int)))) && decide ((IntKind.i64.wrap ((szR (.sl .str) (a.fld 2) (IntKind.i64.wrap (l.int - (((a.fld 0).str).size : Int)))) - (((a.fld 3).str).size : Int))) ≤ 1048576))) then (bif decide ((szR (.sl s3) (a.fld 5) (IntKind.i64.wrap ((szR (.sl .str) (a.fld 2) (IntKind.i64.wrap (l.int - (((a.fld 0).str).size : Int)))) - (((a.fld 3).str).size : Int)))) < (0 : Int)) then some [(Dat.i (-1 : Int))] else some [(Dat.i (szR (.sl s3) (a.fld 5) (IntKind.i64.wrap ((szR (.sl .str) (a.fld 2) (IntKind.i64.wrap (l.int - (((a.fld 0).str).size : Int)))) - (((a.fld 3).str).size : Int)))))]) else none))) else none)) := by kernel_rfl
theorem con64 : ConOk E Tryd.prog 64 (szSig s4) := con hM hD hT hC64 keep64 Tryd.func64 (by kernel_rfl) (by kernel_rfl) fun ds hl hp => by
  obtain ⟨a, l, rfl⟩ := ds_two hl
  obtain ⟨ha, h0, h1⟩ := sz_pre (show (fit M s4 a && (decide (0 ≤ l.int) && decide (l.int ≤ 1048576))) = true from hp)
  refine ⟨0, ?_⟩
  have k5 : fit M (.sl s3) (a.fld 5) = true := fit_fld ha 5 rfl
  have k3 : (a.fld 3).str.size ≤ M := Nat.le_of_ble_eq_true (show Nat.ble _ _ = true from fit_fld (t := .str) ha 3 rfl)
  have k2 : fit M (.sl .str) (a.fld 2) = true := fit_fld ha 2 rfl
  have k0 : (a.fld 0).str.size ≤ M := Nat.le_of_ble_eq_true (show Nat.ble _ _ = true from fit_fld (t := .str) ha 0 rfl)
  have hw : wt s4 a = ((a.fld 0).str.size + (wt (.sl .str) (a.fld 2) + ((a.fld 3).str.size + (wt (.sl s3) (a.fld 5) + 0)))) := by
    simp only [wt_st, wts_cons, wts_nil, wt_int, wt_str, Nat.zero_add, Nat.add_zero]
  show _ = some [Dat.i (szr (wt s4 a) l.int)]
  rw [f64_start, hw]
  exact sz_len (k := fun l0 => (bif (fit M (.sl .str) (a.fld 2) && (decide (0 ≤ l0) && decide (l0 ≤ 1048576))) then (bif decide ((szR (.sl .str) (a.fld 2) l0) < (0 : Int)) then some [(Dat.i (-1 : Int))] else (bif decide ((IntKind.i64.wrap ((szR (.sl .str) (a.fld 2) l0) - (((a.fld 3).str).size : Int))) < (0 : Int)) then some [(Dat.i (-1 : Int))] else (bif (fit M (.sl s3) (a.fld 5) && (decide (0 ≤ (IntKind.i64.wrap ((szR (.sl .str) (a.fld 2) l0) - (((a.fld 3).str).size : Int)))) && decide ((IntKind.i64.wrap ((szR (.sl .str) (a.fld 2) l0) - (((a.fld 3).str).size : Int))) ≤ 1048576))) then (bif decide ((szR (.sl s3) (a.fld 5) (IntKind.i64.wrap ((szR (.sl .str) (a.fld 2) l0) - (((a.fld 3).str).size : Int)))) < (0 : Int)) then some [(Dat.i (-1 : Int))] else some [(Dat.i (szR (.sl s3) (a.fld 5) (IntKind.i64.wrap ((szR (.sl .str) (a.fld 2) l0) - (((a.fld 3).str).size : Int)))))]) else none))) else none)) k0 h0 h1 (fun l0 p0 q0 => sz_call (k := fun l1 => (bif decide ((IntKind.i64.wrap (l1 - (((a.fld 3).str).size : Int))) < (0 : Int)) then some [(Dat.i (-1 : Int))] else (bif (fit M (.sl s3) (a.fld 5) && (decide (0 ≤ (IntKind.i64.wrap (l1 - (((a.fld 3).str).size : Int)))) && decide ((IntKind.i64.wrap (l1 - (((a.fld 3).str).size : Int))) ≤ 1048576))) then (bif decide ((szR (.sl s3) (a.fld 5) (IntKind.i64.wrap (l1 - (((a.fld 3).str).size : Int)))) < (0 : Int)) then some [(Dat.i (-1 : Int))] else some [(Dat.i (szR (.sl s3) (a.fld 5) (IntKind.i64.wrap (l1 - (((a.fld 3).str).size : Int)))))]) else none))) k2 p0 q0 (fun l1 p1 q1 => sz_len (k := fun l2 => (bif (fit M (.sl s3) (a.fld 5) && (decide (0 ≤ l2) && decide (l2 ≤ 1048576))) then (bif decide ((szR (.sl s3) (a.fld 5) l2) < (0 : Int)) then some [(Dat.i (-1 : Int))] else some [(Dat.i (szR (.sl s3) (a.fld 5) l2))]) else none)) k3 p1 q1 (fun l2 p2 q2 => sz_call (k := fun l3 => some [(Dat.i l3)]) k5 p2 q2 (fun l3 p3 q3 => (by rw [szr_zero p3])))))


/-! laws.szCodeS -/
abbrev C45 : FuncId → Option Sig := tabC [(64, szSig s4)]
theorem hC45 : ∀ g sg, C45 g = some sg → ConOk E Tryd.prog g sg := (tabC_cons con64 tabC_nil)
abbrev keep45 : Nat → List Nat | 0 => [0, 1, 4, 5] | _ => []
def S45_0 (x0 : Dat) (x1 : Int) (x5 : Int) : St := ⟨[.ro s4 x0, .int .i64 x1, .u, .u, .int .i64 (0 : Int), .int .i64 x5] ++ us 21, []⟩
theorem f45_round0 (K n : Nat) (x0 : Dat) (x1 : Int) (x5 : Int) :
    loopE T C45 K keep45 Tryd.f45 0 0 (behind T C45 K keep45 Tryd.f45 [tInt] 0) (n + 1) (S45_0 x0 x1 x5) =
      (bif decide (x5 < (x0.len : Int)) then (bif (decide (0 ≤ x5) && decide (x5 < (x0.len : Int))) then (bif (fit M s4 (x0.fld x5.toNat) && (decide (0 ≤ x1) && decide (x1 ≤ 1048576))) then (bif decide ((szR s4 (x0.fld x5.toNat) x1) < (0 : Int)) then some [(Dat.i (-1 : Int))] else loopE T C45 K keep45 Tryd.f45 0 0 (behind T C45 K keep45 Tryd.f45 [tInt] 0) n (S45_0 x0 (szR s4 (x0.fld x5.toNat) x1) (IntKind.i64.wrap (x5 + (1 : Int))))) else none) else none) else some [(Dat.i x1)]) := by kernel_rfl
theorem f45_start (K : Nat) (a : Dat) (l : Dat) : evBody T C45 noL K keep45 Tryd.f45 [(.sl s4), tInt] [tInt] [a, l] =
      (bif decide ((IntKind.i64.wrap (l.int - (a.len : Int))) < (0 : Int)) then some [(Dat.i (-1 : Int))] else loopE T C45 K keep45 Tryd.f45 0 0 (behind T C45 K keep45 Tryd.f45 [tInt] 0) K (S45_0 a (IntKind.i64.wrap (l.int - (a.len : Int))) (0 : Int))) := by kernel_rfl
theorem con45 : ConOk E Tryd.prog 45 (szSig (.sl s4)) := con hM hD hT hC45 keep45 Tryd.func45 (by kernel_rfl) (by kernel_rfl) fun ds hl hp => by
  obtain ⟨a, l, rfl⟩ := ds_two hl
  obtain ⟨ha, h0, h1⟩ := sz_pre (show (fit M (.sl s4) a && (decide (0 ≤ l.int) && decide (l.int ≤ 1048576))) = true from hp)
  obtain ⟨hn, he⟩ := fit_sl ha
  refine ⟨a.len + 1, ?_⟩
  show _ = some [Dat.i (szr (wt (.sl s4) a) l.int)]
  rw [wt_sl]
  rw [f45_start]
  refine sz_len (k := fun l' => loopE T C45 (a.len + 1) keep45 Tryd.f45 0 0 (behind T C45 (a.len + 1) keep45 Tryd.f45 [tInt] 0) (a.len + 1) (S45_0 a l' 0)) hn h0 h1 fun l' p0 p1 => ?_
  exact sz_loop (E := fun n j l => loopE T C45 (a.len + 1) keep45 Tryd.f45 0 0 (behind T C45 (a.len + 1) keep45 Tryd.f45 [tInt] 0) n (S45_0 a l (j : Int))) (N := a.len) (g := fun j => wt s4 (a.fld j)) (fun n j l hj q0 q1 => by
    have f1 := he j hj
    have e1 : decide (0 ≤ l) = true := by simpa using q0
    have e2 : decide (l ≤ 1048576) = true := by simpa using q1
    show loopE T C45 (a.len + 1) keep45 Tryd.f45 0 0 (behind T C45 (a.len + 1) keep45 Tryd.f45 [tInt] 0) (n + 1) (S45_0 a l (j : Int)) = _
    rw [f45_round0]
    simp only [dlt hj, dge, Int.toNat_natCast, f1, e1, e2, Bool.and_self, cond_true, wrap_succ hj hn]
    rfl)
    (fun n l => by
    show loopE T C45 (a.len + 1) keep45 Tryd.f45 0 0 (behind T C45 (a.len + 1) keep45 Tryd.f45 [tInt] 0) (n + 1) (S45_0 a l (a.len : Int)) = _
    rw [f45_round0, dnlt (Nat.lt_irrefl _)]; rfl) l' p0 p1


/-! laws.szKind -/
abbrev C25 : FuncId → Option Sig := tabC [(43, szSig (.sl s1)), (44, szSig (.sl s2)), (45, szSig (.sl s4))]
theorem hC25 : ∀ g sg, C25 g = some sg → ConOk E Tryd.prog g sg := (tabC_cons con43 (tabC_cons con44 (tabC_cons con45 tabC_nil)))
abbrev keep25 : Nat → List Nat := fun _ => []
theorem f25_start (K : Nat) (a : Dat) (l : Dat) : evBody T C25 noL K keep25 Tryd.f25 [s5, tInt] [tInt] [a, l] =
      (bif decide ((IntKind.i64.wrap (l.int - (((a.fld 0).str).size : Int))) < (0 : Int)) then some [(Dat.i (-1 : Int))] else (bif (fit M (.sl s1) (a.fld 2) && (decide (0 ≤ (IntKind.i64.wrap (l.int - (((a.fld 0).str).size : Int)))) && decide ((IntKind.i64.wrap (l.int - (((a.fld 0).str).size : Int))) ≤ 1048576))) then (bif decide ((szR (.sl s1) (a.fld 2) (IntKind.i64.wrap (l.int - (((a.fld 0).str).size : Int)))) < (0 : Int)) then some [(Dat.i (-1 : Int))] else (bif (fit M (.sl s2) (a.fld 3) && (decide (0 ≤ (szR (.sl s1) (a.fld 2) (IntKind.i64.wrap (l.int - (((a.fld 0).str).size : Int))))) && decide ((szR (.sl s1) (a.fld 2) (IntKind.i64.wrap (l.int - (((a.fld 0).str).size : Int)))) ≤ 1048576))) then (bif decide ((szR (.sl s2) (a.fld 3) (szR (.sl s1) (a.fld 2) (IntKind.i64.wrap (l.int - (((a.fld 0).str).size : Int))))) < (0 : Int)) then some [(Dat.i (-1 : Int))] else (bif (fit M (.sl s4) (a.fld 4) && (decide (0 ≤ (szR (.sl s2) (a.fld 3) (szR (.sl s1) (a.fld 2) (IntKind.i64.wrap (l.int - (((a.fld 0).str).size : Int)))))) && decide ((szR (.sl s2) (a.fld 3) (szR (.sl s1) (a.fld 2) (IntKind.i64.wrap (l.int - (((a.fld 0).str).size : Int))))) ≤ 1048576))) then (bif decide ((szR (.sl s4) (a.fld 4) (szR (.sl s2) (a.fld 3) (szR (.sl s1) (a.fld 2) (IntKind.i64.wrap (l.int - (((a.fld 0).str).size : Int)))))) < (0 : Int)) then some [(Dat.i (-1 : Int))] else some [(Dat.i (szR (.sl s4) (a.fld 4) (szR (.sl s2) (a.fld 3) (szR (.sl s1) (a.fld 2) (IntKind.i64.wrap (l.int - (((a.fld 0).str).size : Int)))))))]) else none)) else none)) else none)) := by kernel_rfl
theorem con25 : ConOk E Tryd.prog 25 (szSig s5) := con hM hD hT hC25 keep25 Tryd.func25 (by kernel_rfl) (by kernel_rfl) fun ds hl hp => by
  obtain ⟨a, l, rfl⟩ := ds_two hl
  obtain ⟨ha, h0, h1⟩ := sz_pre (show (fit M s5 a && (decide (0 ≤ l.int) && decide (l.int ≤ 1048576))) = true from hp)
  refine ⟨0, ?_⟩
  have k4 : fit M (.sl s4) (a.fld 4) = true := fit_fld ha 4 rfl
  have k3 : fit M (.sl s2) (a.fld 3) = true := fit_fld ha 3 rfl
  have k2 : fit M (.sl s1) (a.fld 2) = true := fit_fld ha 2 rfl
  have k0 : (a.fld 0).str.size ≤ M := Nat.le_of_ble_eq_true (show Nat.ble _ _ = true from fit_fld (t := .str) ha 0 rfl)
  have hw : wt s5 a = ((a.fld 0).str.size + (wt (.sl s1) (a.fld 2) + (wt (.sl s2) (a.fld 3) + (wt (.sl s4) (a.fld 4) + 0)))) := by
    simp only [wt_st, wts_cons, wts_nil, wt_int, wt_str, Nat.zero_add, Nat.add_zero]
  show _ = some [Dat.i (szr (wt s5 a) l.int)]
  rw [f25_start, hw]
  exact sz_len (k := fun l0 => (bif (fit M (.sl s1) (a.fld 2) && (decide (0 ≤ l0) && decide (l0 ≤ 1048576))) then (bif decide ((szR (.sl s1) (a.fld 2) l0) < (0 : Int)) then some [(Dat.i (-1 : Int))] else (bif (fit M (.sl s2) (a.fld 3) && (decide (0 ≤ (szR (.sl s1) (a.fld 2) l0)) && decide ((szR (.sl s1) (a.fld 2) l0) ≤ 1048576))) then (bif decide ((szR (.sl s2) (a.fld 3) (szR (.sl s1) (a.fld 2) l0)) < (0 : Int)) then some [(Dat.i (-1 : Int))] else (bif (fit M (.sl s4) (a.fld 4) && (decide (0 ≤ (szR (.sl s2) (a.fld 3) (szR (.sl s1) (a.fld 2) l0))) && decide ((szR (.sl s2) (a.fld 3) (szR (.sl s1) (a.fld 2) l0)) ≤ 1048576))) then (bif decide ((szR (.sl s4) (a.fld 4) (szR (.sl s2) (a.fld 3) (szR (.sl s1) (a.fld 2) l0))) < (0 : Int)) then some [(Dat.i (-1 : Int))] else some [(Dat.i (szR (.sl s4) (a.fld 4) (szR (.sl s2) (a.fld 3) (szR (.sl s1) (a.fld 2) l0))))]) else none)) else none)) else none)) k0 h0 h1 (fun l0 p0 q0 => sz_call (k := fun l1 => (bif (fit M (.sl s2) (a.fld 3) && (decide (0 ≤ l1) && decide (l1 ≤ 1048576))) then (bif decide ((szR (.sl s2) (a.fld 3) l1) < (0 : Int)) then some [(Dat.i (-1 : Int))] else (bif (fit M (.sl s4) (a.fld 4) && (decide (0 ≤ (szR (.sl s2) (a.fld 3) l1)) && decide ((szR (.sl s2) (a.fld 3) l1) ≤ 1048576))) then (bif decide ((szR (.sl s4) (a.fld 4) (szR (.sl s2) (a.fld 3) l1)) < (0 : Int)) then some [(Dat.i (-1 : Int))] else some [(Dat.i (szR (.sl s4) (a.fld 4) (szR (.sl s2) (a.fld 3) l1)))]) else none)) else none)) k2 p0 q0 (fun l1 p1 q1 => sz_call (k := fun l2 => (bif (fit M (.sl s4) (a.fld 4) && (decide (0 ≤ l2) && decide (l2 ≤ 1048576))) then (bif decide ((szR (.sl s4) (a.fld 4) l2) < (0 : Int)) then some [(Dat.i (-1 : Int))] else some [(Dat.i (szR (.sl s4) (a.fld 4) l2))]) else none)) k3 p1 q1 (fun l2 p2 q2 => sz_call (k := fun l3 => some [(Dat.i l3)]) k4 p2 q2 (fun l3 p3 q3 => (by rw [szr_zero p3])))))


/-! laws.szKindS -/
abbrev C12 : FuncId → Option Sig := tabC [(25, szSig s5)]
theorem hC12 : ∀ g sg, C12 g = some sg → ConOk E Tryd.prog g sg := (tabC_cons con25 tabC_nil)
abbrev keep12 : Nat → List Nat | 0 => [0, 1, 4, 5] | _ => []
def S12_0 (x0 : Dat) (x1 : Int) (x5 : Int) : St := ⟨[.ro s5 x0, .int .i64 x1, .u, .u, .int .i64 (0 : Int), .int .i64 x5] ++ us 21, []⟩
theorem f12_round0 (K n : Nat) (x0 : Dat) (x1 : Int) (x5 : Int) :
    loopE T C12 K keep12 Tryd.f12 0 0 (behind T C12 K keep12 Tryd.f12 [tInt] 0) (n + 1) (S12_0 x0 x1 x5) =
      (bif decide (x5 < (x0.len : Int)) then (bif (decide (0 ≤ x5) && decide (x5 < (x0.len : Int))) then (bif (fit M s5 (x0.fld x5.toNat) && (decide (0 ≤ x1) && decide (x1 ≤ 1048576))) then (bif decide ((szR s5 (x0.fld x5.toNat) x1) < (0 : Int)) then some [(Dat.i (-1 : Int))] else loopE T C12 K keep12 Tryd.f12 0 0 (behind T C12 K keep12 Tryd.f12 [tInt] 0) n (S12_0 x0 (szR s5 (x0.fld x5.toNat) x1) (IntKind.i64.wrap (x5 + (1 : Int))))) else none) else none) else some [(Dat.i x1)]) := by kernel_rfl
theorem f12_start (K : Nat) (a : Dat) (l : Dat) : evBody T C12 noL K keep12 Tryd.f12 [(.sl s5), tInt] [tInt] [a, l] =
      (bif decide ((IntKind.i64.wrap (l.int - (a.len : Int))) < (0 : Int)) then some [(Dat.i (-1 : Int))] else loopE T C12 K keep12 Tryd.f12 0 0 (behind T C12 K keep12 Tryd.f12 [tInt] 0) K (S12_0 a (IntKind.i64.wrap (l.int - (a.len : Int))) (0 : Int))) := by kernel_rfl
theorem con12 : ConOk E Tryd.prog 12 (szSig (.sl s5)) := con hM hD hT hC12 keep12 Tryd.func12 (by kernel_rfl) (by kernel_rfl) fun ds hl hp => by
  obtain ⟨a, l, rfl⟩ := ds_two hl
  obtain ⟨ha, h0, h1⟩ := sz_pre (show (fit M (.sl s5) a && (decide (0 ≤ l.int) && decide (l.int ≤ 1048576))) = true from hp)
  obtain ⟨hn, he⟩ := fit_sl ha
  refine ⟨a.len + 1, ?_⟩
  show _ = some [Dat.i (szr (wt (.sl s5) a) l.int)]
  rw [wt_sl]
  rw [f12_start]
  refine sz_len (k := fun l' => loopE T C12 (a.len + 1) keep12 Tryd.f12 0 0 (behind T C12 (a.len + 1) keep12 Tryd.f12 [tInt] 0) (a.len + 1) (S12_0 a l' 0)) hn h0 h1 fun l' p0 p1 => ?_
  exact sz_loop (E := fun n j l => loopE T C12 (a.len + 1) keep12 Tryd.f12 0 0 (behind T C12 (a.len + 1) keep12 Tryd.f12 [tInt] 0) n (S12_0 a l (j : Int))) (N := a.len) (g := fun j => wt s5 (a.fld j)) (fun n j l hj q0 q1 => by
    have f1 := he j hj
    have e1 : decide (0 ≤ l) = true := by simpa using q0
    have e2 : decide (l ≤ 1048576) = true := by simpa using q1
    show loopE T C12 (a.len + 1) keep12 Tryd.f12 0 0 (behind T C12 (a.len + 1) keep12 Tryd.f12 [tInt] 0) (n + 1) (S12_0 a l (j : Int)) = _
    rw [f12_round0]
    simp only [dlt hj, dge, Int.toNat_natCast, f1, e1, e2, Bool.and_self, cond_true, wrap_succ hj hn]
    rfl)
    (fun n l => by
    show loopE T C12 (a.len + 1) keep12 Tryd.f12 0 0 (behind T C12 (a.len + 1) keep12 Tryd.f12 [tInt] 0) (n + 1) (S12_0 a l (a.len : Int)) = _
    rw [f12_round0, dnlt (Nat.lt_irrefl _)]; rfl) l' p0 p1


/-! laws.szProg -/
abbrev C4 : FuncId → Option Sig := tabC [(12, szSig (.sl s5))]
theorem hC4 : ∀ g sg, C4 g = some sg → ConOk E Tryd.prog g sg := (tabC_cons con12 tabC_nil)
abbrev keep4 : Nat → List Nat := fun _ => []
theorem f4_start (K : Nat) (a : Dat) (l : Dat) : evBody T C4 noL K keep4 Tryd.f4 [s6, tInt] [tInt] [a, l] =
      (bif (fit M (.sl s5) (a.fld 0) && (decide (0 ≤ l.int) && decide (l.int ≤ 1048576))) then (bif decide ((szR (.sl s5) (a.fld 0) l.int) < (0 : Int)) then some [(Dat.i (-1 : Int))] else some [(Dat.i (szR (.sl s5) (a.fld 0) l.int))]) else none) := by kernel_rfl
theorem con4 : ConOk E Tryd.prog 4 (szSig s6) := con hM hD hT hC4 keep4 Tryd.func4 (by kernel_rfl) (by kernel_rfl) fun ds hl hp => by
  obtain ⟨a, l, rfl⟩ := ds_two hl
  obtain ⟨ha, h0, h1⟩ := sz_pre (show (fit M s6 a && (decide (0 ≤ l.int) && decide (l.int ≤ 1048576))) = true from hp)
  refine ⟨0, ?_⟩
  have k0 : fit M (.sl s5) (a.fld 0) = true := fit_fld ha 0 rfl
  have hw : wt s6 a = (wt (.sl s5) (a.fld 0) + 0) := by
    simp only [wt_st, wts_cons, wts_nil, Nat.zero_add, Nat.add_zero]
  show _ = some [Dat.i (szr (wt s6 a) l.int)]
  rw [f4_start, hw]
  exact sz_call (k := fun l0 => some [(Dat.i l0)]) k0 h0 h1 (fun l0 p0 q0 => (by rw [szr_zero p0]))


/-! laws.szValS -/
abbrev C46 : FuncId → Option Sig := tabC []
theorem hC46 : ∀ g sg, C46 g = some sg → ConOk E Tryd.prog g sg := tabC_nil
abbrev keep46 : Nat → List Nat := fun _ => []
theorem f46_start (K : Nat) (a : Dat) (l : Dat) : evBody T C46 noL K keep46 Tryd.f46 [(.sl s7), tInt] [tInt] [a, l] =
      (bif decide ((IntKind.i64.wrap (l.int - (a.len : Int))) < (0 : Int)) then some [(Dat.i (-1 : Int))] else some [(Dat.i (IntKind.i64.wrap (l.int - (a.len : Int))))]) := by kernel_rfl
theorem con46 : ConOk E Tryd.prog 46 (szSig (.sl s7)) := con hM hD hT hC46 keep46 Tryd.func46 (by kernel_rfl) (by kernel_rfl) fun ds hl hp => by
  obtain ⟨a, l, rfl⟩ := ds_two hl
  obtain ⟨ha, h0, h1⟩ := sz_pre (show (fit M (.sl s7) a && (decide (0 ≤ l.int) && decide (l.int ≤ 1048576))) = true from hp)
  obtain ⟨hn, he⟩ := fit_sl ha
  refine ⟨0, ?_⟩
  show _ = some [Dat.i (szr (wt (.sl s7) a) l.int)]
  rw [wt_sl, f46_start, sum_zero (fun i => show wt s7 (a.fld i) = 0 from rfl)]
  exact sz_len hn h0 h1 fun l' p0 _ => by rw [szr_zero p0]


/-! laws.szFrame -/
abbrev C26 : FuncId → Option Sig := tabC [(46, szSig (.sl s7))]
theorem hC26 : ∀ g sg, C26 g = some sg → ConOk E Tryd.prog g sg := (tabC_cons con46 tabC_nil)
abbrev keep26 : Nat → List Nat := fun _ => []
theorem f26_start (K : Nat) (a : Dat) (l : Dat) : evBody T C26 noL K keep26 Tryd.f26 [s8, tInt] [tInt] [a, l] =
      (bif (fit M (.sl s7) (a.fld 3) && (decide (0 ≤ l.int) && decide (l.int ≤ 1048576))) then (bif decide ((szR (.sl s7) (a.fld 3) l.int) < (0 : Int)) then some [(Dat.i (-1 : Int))] else (bif (fit M (.sl s7) (a.fld 4) && (decide (0 ≤ (szR (.sl s7) (a.fld 3) l.int)) && decide ((szR (.sl s7) (a.fld 3) l.int) ≤ 1048576))) then (bif decide ((szR (.sl s7) (a.fld 4) (szR (.sl s7) (a.fld 3) l.int)) < (0 : Int)) then some [(Dat.i (-1 : Int))] else some [(Dat.i (szR (.sl s7) (a.fld 4) (szR (.sl s7) (a.fld 3) l.int)))]) else none)) else none) := by kernel_rfl
theorem con26 : ConOk E Tryd.prog 26 (szSig s8) := con hM hD hT hC26 keep26 Tryd.func26 (by kernel_rfl) (by kernel_rfl) fun ds hl hp => by
  obtain ⟨a, l, rfl⟩ := ds_two hl
  obtain ⟨ha, h0, h1⟩ := sz_pre (show (fit M s8 a && (decide (0 ≤ l.int) && decide (l.int ≤ 1048576))) = true from hp)
  refine ⟨0, ?_⟩
  have k4 : fit M (.sl s7) (a.fld 4) = true := fit_fld ha 4 rfl
  have k3 : fit M (.sl s7) (a.fld 3) = true := fit_fld ha 3 rfl
  have hw : wt s8 a = (wt (.sl s7) (a.fld 3) + (wt (.sl s7) (a.fld 4) + 0)) := by
    simp only [wt_st, wts_cons, wts_nil, wt_int, Nat.zero_add, Nat.add_zero]
  show _ = some [Dat.i (szr (wt s8 a) l.int)]
  rw [f26_start, hw]
  exact sz_call (k := fun l0 => (bif (fit M (.sl s7) (a.fld 4) && (decide (0 ≤ l0) && decide (l0 ≤ 1048576))) then (bif decide ((szR (.sl s7) (a.fld 4) l0) < (0 : Int)) then some [(Dat.i (-1 : Int))] else some [(Dat.i (szR (.sl s7) (a.fld 4) l0))]) else none)) k3 h0 h1 (fun l0 p0 q0 => sz_call (k := fun l1 => some [(Dat.i l1)]) k4 p0 q0 (fun l1 p1 q1 => (by rw [szr_zero p1])))


/-! laws.szFrameS -/
abbrev C13 : FuncId → Option Sig := tabC [(26, szSig s8)]
theorem hC13 : ∀ g sg, C13 g = some sg → ConOk E Tryd.prog g sg := (tabC_cons con26 tabC_nil)
abbrev keep13 : Nat → List Nat | 0 => [0, 1, 4, 5] | _ => []
def S13_0 (x0 : Dat) (x1 : Int) (x5 : Int) : St := ⟨[.ro s8 x0, .int .i64 x1, .u, .u, .int .i64 (0 : Int), .int .i64 x5] ++ us 21, []⟩
theorem f13_round0 (K n : Nat) (x0 : Dat) (x1 : Int) (x5 : Int) :
    loopE T C13 K keep13 Tryd.f13 0 0 (behind T C13 K keep13 Tryd.f13 [tInt] 0) (n + 1) (S13_0 x0 x1 x5) =
      (bif decide (x5 < (x0.len : Int)) then (bif (decide (0 ≤ x5) && decide (x5 < (x0.len : Int))) then (bif (fit M s8 (x0.fld x5.toNat) && (decide (0 ≤ x1) && decide (x1 ≤ 1048576))) then (bif decide ((szR s8 (x0.fld x5.toNat) x1) < (0 : Int)) then some [(Dat.i (-1 : Int))] else loopE T C13 K keep13 Tryd.f13 0 0 (behind T C13 K keep13 Tryd.f13 [tInt] 0) n (S13_0 x0 (szR s8 (x0.fld x5.toNat) x1) (IntKind.i64.wrap (x5 + (1 : Int))))) else none) else none) else some [(Dat.i x1)]) := by kernel_rfl
theorem f13_start (K : Nat) (a : Dat) (l : Dat) : evBody T C13 noL K keep13 Tryd.f13 [(.sl s8), tInt] [tInt] [a, l] =
      (bif decide ((IntKind.i64.wrap (l.int - (a.len : Int))) < (0 : Int)) then some [(Dat.i (-1 : Int))] else loopE T C13 K keep13 Tryd.f13 0 0 (behind T C13 K keep13 Tryd.f13 [tInt] 0) K (S13_0 a (IntKind.i64.wrap (l.int - (a.len : Int))) (0 : Int))) := by kernel_rfl
theorem con13 : ConOk E Tryd.prog 13 (szSig (.sl s8)) := con hM hD hT hC13 keep13 Tryd.func13 (by kernel_rfl) (by kernel_rfl) fun ds hl hp => by
  obtain ⟨a, l, rfl⟩ := ds_two hl
  obtain ⟨ha, h0, h1⟩ := sz_pre (show (fit M (.sl s8) a && (decide (0 ≤ l.int) && decide (l.int ≤ 1048576))) = true from hp)
  obtain ⟨hn, he⟩ := fit_sl ha
  refine ⟨a.len + 1, ?_⟩
  show _ = some [Dat.i (szr (wt (.sl s8) a) l.int)]
  rw [wt_sl]
  rw [f13_start]
  refine sz_len (k := fun l' => loopE T C13 (a.len + 1) keep13 Tryd.f13 0 0 (behind T C13 (a.len + 1) keep13 Tryd.f13 [tInt] 0) (a.len + 1) (S13_0 a l' 0)) hn h0 h1 fun l' p0 p1 => ?_
  exact sz_loop (E := fun n j l => loopE T C13 (a.len + 1) keep13 Tryd.f13 0 0 (behind T C13 (a.len + 1) keep13 Tryd.f13 [tInt] 0) n (S13_0 a l (j : Int))) (N := a.len) (g := fun j => wt s8 (a.fld j)) (fun n j l hj q0 q1 => by
    have f1 := he j hj
    have e1 : decide (0 ≤ l) = true := by simpa using q0
    have e2 : decide (l ≤ 1048576) = true := by simpa using q1
    show loopE T C13 (a.len + 1) keep13 Tryd.f13 0 0 (behind T C13 (a.len + 1) keep13 Tryd.f13 [tInt] 0) (n + 1) (S13_0 a l (j : Int)) = _
    rw [f13_round0]
    simp only [dlt hj, dge, Int.toNat_natCast, f1, e1, e2, Bool.and_self, cond_true, wrap_succ hj hn]
    rfl)
    (fun n l => by
    show loopE T C13 (a.len + 1) keep13 Tryd.f13 0 0 (behind T C13 (a.len + 1) keep13 Tryd.f13 [tInt] 0) (n + 1) (S13_0 a l (a.len : Int)) = _
    rw [f13_round0, dnlt (Nat.lt_irrefl _)]; rfl) l' p0 p1


/-! laws.szThread -/
abbrev C5 : FuncId → Option Sig := tabC [(13, szSig (.sl s8))]
theorem hC5 : ∀ g sg, C5 g = some sg → ConOk E Tryd.prog g sg := (tabC_cons con13 tabC_nil)
abbrev keep5 : Nat → List Nat := fun _ => []
theorem f5_start (K : Nat) (a : Dat) (l : Dat) : evBody T C5 noL K keep5 Tryd.f5 [s9, tInt] [tInt] [a, l] =
      (bif (fit M (.sl s8) (a.fld 1) && (decide (0 ≤ l.int) && decide (l.int ≤ 1048576))) then (bif decide ((szR (.sl s8) (a.fld 1) l.int) < (0 : Int)) then some [(Dat.i (-1 : Int))] else some [(Dat.i (szR (.sl s8) (a.fld 1) l.int))]) else none) := by kernel_rfl
theorem con5 : ConOk E Tryd.prog 5 (szSig s9) := con hM hD hT hC5 keep5 Tryd.func5 (by kernel_rfl) (by kernel_rfl) fun ds hl hp => by
  obtain ⟨a, l, rfl⟩ := ds_two hl
  obtain ⟨ha, h0, h1⟩ := sz_pre (show (fit M s9 a && (decide (0 ≤ l.int) && decide (l.int ≤ 1048576))) = true from hp)
  refine ⟨0, ?_⟩
  have k1 : fit M (.sl s8) (a.fld 1) = true := fit_fld ha 1 rfl
  have hw : wt s9 a = (wt (.sl s8) (a.fld 1) + 0) := by
    simp only [wt_st, wts_cons, wts_nil, wt_int, Nat.zero_add, Nat.add_zero]
  show _ = some [Dat.i (szr (wt s9 a) l.int)]
  rw [f5_start, hw]
  exact sz_call (k := fun l0 => some [(Dat.i l0)]) k1 h0 h1 (fun l0 p0 q0 => (by rw [szr_zero p0]))


/-! laws.toConst -/
abbrev C65 : FuncId → Option Sig := tabC []
theorem hC65 : ∀ g sg, C65 g = some sg → ConOk E Tryd.prog g sg := tabC_nil
abbrev keep65 : Nat → List Nat := fun _ => []
theorem f65_start (K : Nat) (a : Dat) : evBody T C65 noL K keep65 Tryd.f65 [s1] [s1] [a] =
      some [(Dat.n [(Dat.i ((a.fld 0).int)), (Dat.i ((a.fld 1).int)), (Dat.s ((a.fld 2).str)), (Dat.s ((a.fld 3).str))])] := by kernel_rfl
theorem con65 : ConOk E Tryd.prog 65 (toSig s1 s1) := con hM hD hT hC65 keep65 Tryd.func65 (by kernel_rfl) (by kernel_rfl) fun ds hl hp => by
  obtain ⟨a, rfl⟩ := ds_one hl
  replace hp : fit 1048576 s1 a = true := hp
  refine ⟨0, ?_⟩
  rw [f65_start]
  rfl


/-! laws.toConstS -/
abbrev C50 : FuncId → Option Sig := tabC [(65, toSig s1 s1)]
theorem hC50 : ∀ g sg, C50 g = some sg → ConOk E Tryd.prog g sg := (tabC_cons con65 tabC_nil)
abbrev keep50 : Nat → List Nat | 0 => [0, 3, 4] | _ => []
def S50_0 (x0 : Dat) (x4 : Int) (l0 : (List Dat)) : St := ⟨[.ro s1 x0, .u, .u, .hd 0, .int .i64 x4] ++ us 18, [.arr s1 l0]⟩
theorem f50_round0 (K n : Nat) (x0 : Dat) (x4 : Int) (l0 : (List Dat)) :
    loopE T C50 K keep50 Tryd.f50 0 0 (behind T C50 K keep50 Tryd.f50 [(.sl s1)] 0) (n + 1) (S50_0 x0 x4 l0) =
      (bif decide (x4 < (x0.len : Int)) then (bif (decide (0 ≤ x4) && decide (x4 < (x0.len : Int))) then (bif fit 1048576 s1 (x0.fld x4.toNat) then (bif (decide (0 ≤ x4) && decide (x4 < (l0.length : Int))) then loopE T C50 K keep50 Tryd.f50 0 0 (behind T C50 K keep50 Tryd.f50 [(.sl s1)] 0) n (S50_0 x0 (IntKind.i64.wrap (x4 + (1 : Int))) (l0.set x4.toNat (can s1 (x0.fld x4.toNat)))) else none) else none) else none) else some [(Dat.n l0)]) := by kernel_rfl
theorem f50_start (K : Nat) (a : Dat) : evBody T C50 noL K keep50 Tryd.f50 [(.sl s1)] [(.sl s1)] [a] =
      (bif (decide (0 ≤ (a.len : Int)) && (decide ((a.len : Int) ≤ 4294967296) && decide ((a.len : Int) = (a.len : Int)))) then loopE T C50 K keep50 Tryd.f50 0 0 (behind T C50 K keep50 Tryd.f50 [(.sl s1)] 0) K (S50_0 a (0 : Int) (List.replicate (a.len : Int).toNat (zeroD s1))) else none) := by kernel_rfl
theorem con50 : ConOk E Tryd.prog 50 (toSig (.sl s1) (.sl s1)) := con hM hD hT hC50 keep50 Tryd.func50 (by kernel_rfl) (by kernel_rfl) fun ds hl hp => by
  obtain ⟨a, rfl⟩ := ds_one hl
  replace hp : fit 1048576 (.sl s1) a = true := hp
  obtain ⟨hn, he⟩ := fit_sl hp
  refine ⟨a.len + 1, ?_⟩
  have c1 : (decide (0 ≤ (a.len : Int)) && (decide ((a.len : Int) ≤ 4294967296) && decide ((a.len : Int) = (a.len : Int)))) = true := by simp; omega
  rw [f50_start, c1, cond_true, Int.toNat_natCast]
  refine (fill_loop (E := fun n j l => loopE T C50 (a.len + 1) keep50 Tryd.f50 0 0 (behind T C50 (a.len + 1) keep50 Tryd.f50 [(.sl s1)] 0) n (S50_0 a (j : Int) l)) (N := a.len) (g := fun j => can s1 (a.fld j)) (fin := fun l => some [Dat.n l]) (zeroD s1) (fun n j l hj hlen => ?_) (fun n l _ => ?_)).trans ?_
  · have f1 := he j hj
    have hj2 : j < l.length := by omega
    show loopE T C50 (a.len + 1) keep50 Tryd.f50 0 0 (behind T C50 (a.len + 1) keep50 Tryd.f50 [(.sl s1)] 0) (n + 1) (S50_0 a (j : Int) l) = _
    rw [f50_round0]
    simp only [dlt hj, dge, dlt hj2, Int.toNat_natCast, f1, Bool.and_self, cond_true, wrap_succ hj (by unfold M; omega)]
    try rfl
  · show loopE T C50 (a.len + 1) keep50 Tryd.f50 0 0 (behind T C50 (a.len + 1) keep50 Tryd.f50 [(.sl s1)] 0) (n + 1) (S50_0 a (a.len : Int) l) = _
    rw [f50_round0, dnlt (Nat.lt_irrefl _)]; rfl
  · show _ = some [can (.sl s1) a]
    rw [kids_can]


/-! laws.toField -/
abbrev C66 : FuncId → Option Sig := tabC []
theorem hC66 : ∀ g sg, C66 g = some sg → ConOk E Tryd.prog g sg := tabC_nil
abbrev keep66 : Nat → List Nat := fun _ => []
theorem f66_start (K : Nat) (a : Dat) : evBody T C66 noL K keep66 Tryd.f66 [s2] [s2] [a] =
      some [(Dat.n [(Dat.s ((a.fld 0).str)), (Dat.s ((a.fld 1).str))])] := by kernel_rfl
theorem con66 : ConOk E Tryd.prog 66 (toSig s2 s2) := con hM hD hT hC66 keep66 Tryd.func66 (by kernel_rfl) (by kernel_rfl) fun ds hl hp => by
  obtain ⟨a, rfl⟩ := ds_one hl
  replace hp : fit 1048576 s2 a = true := hp
  refine ⟨0, ?_⟩
  rw [f66_start]
  rfl


/-! laws.toFieldS -/
abbrev C51 : FuncId → Option Sig := tabC [(66, toSig s2 s2)]
theorem hC51 : ∀ g sg, C51 g = some sg → ConOk E Tryd.prog g sg := (tabC_cons con66 tabC_nil)
abbrev keep51 : Nat → List Nat | 0 => [0, 3, 4] | _ => []
def S51_0 (x0 : Dat) (x4 : Int) (l0 : (List Dat)) : St := ⟨[.ro s2 x0, .u, .u, .hd 0, .int .i64 x4] ++ us 18, [.arr s2 l0]⟩
theorem f51_round0 (K n : Nat) (x0 : Dat) (x4 : Int) (l0 : (List Dat)) :
    loopE T C51 K keep51 Tryd.f51 0 0 (behind T C51 K keep51 Tryd.f51 [(.sl s2)] 0) (n + 1) (S51_0 x0 x4 l0) =
      (bif decide (x4 < (x0.len : Int)) then (bif (decide (0 ≤ x4) && decide (x4 < (x0.len : Int))) then (bif fit 1048576 s2 (x0.fld x4.toNat) then (bif (decide (0 ≤ x4) && decide (x4 < (l0.length : Int))) then loopE T C51 K keep51 Tryd.f51 0 0 (behind T C51 K keep51 Tryd.f51 [(.sl s2)] 0) n (S51_0 x0 (IntKind.i64.wrap (x4 + (1 : Int))) (l0.set x4.toNat (can s2 (x0.fld x4.toNat)))) else none) else none) else none) else some [(Dat.n l0)]) := by kernel_rfl
theorem f51_start (K : Nat) (a : Dat) : evBody T C51 noL K keep51 Tryd.f51 [(.sl s2)] [(.sl s2)] [a] =
      (bif (decide (0 ≤ (a.len : Int)) && (decide ((a.len : Int) ≤ 4294967296) && decide ((a.len : Int) = (a.len : Int)))) then loopE T C51 K keep51 Tryd.f51 0 0 (behind T C51 K keep51 Tryd.f51 [(.sl s2)] 0) K (S51_0 a (0 : Int) (List.replicate (a.len : Int).toNat (zeroD s2))) else none) := by kernel_rfl
theorem con51 : ConOk E Tryd.prog 51 (toSig (.sl s2) (.sl s2)) := con hM hD hT hC51 keep51 Tryd.func51 (by kernel_rfl) (by kernel_rfl) fun ds hl hp => by
  obtain ⟨a, rfl⟩ := ds_one hl
  replace hp : fit 1048576 (.sl s2) a = true := hp
  obtain ⟨hn, he⟩ := fit_sl hp
  refine ⟨a.len + 1, ?_⟩
  have c1 : (decide (0 ≤ (a.len : Int)) && (decide ((a.len : Int) ≤ 4294967296) && decide ((a.len : Int) = (a.len : Int)))) = true := by simp; omega
  rw [f51_start, c1, cond_true, Int.toNat_natCast]
  refine (fill_loop (E := fun n j l => loopE T C51 (a.len + 1) keep51 Tryd.f51 0 0 (behind T C51 (a.len + 1) keep51 Tryd.f51 [(.sl s2)] 0) n (S51_0 a (j : Int) l)) (N := a.len) (g := fun j => can s2 (a.fld j)) (fin := fun l => some [Dat.n l]) (zeroD s2) (fun n j l hj hlen => ?_) (fun n l _ => ?_)).trans ?_
  · have f1 := he j hj
    have hj2 : j < l.length := by omega
    show loopE T C51 (a.len + 1) keep51 Tryd.f51 0 0 (behind T C51 (a.len + 1) keep51 Tryd.f51 [(.sl s2)] 0) (n + 1) (S51_0 a (j : Int) l) = _
    rw [f51_round0]
    simp only [dlt hj, dge, dlt hj2, Int.toNat_natCast, f1, Bool.and_self, cond_true, wrap_succ hj (by unfold M; omega)]
    try rfl
  · show loopE T C51 (a.len + 1) keep51 Tryd.f51 0 0 (behind T C51 (a.len + 1) keep51 Tryd.f51 [(.sl s2)] 0) (n + 1) (S51_0 a (a.len : Int) l) = _
    rw [f51_round0, dnlt (Nat.lt_irrefl _)]; rfl
  · show _ = some [can (.sl s2) a]
    rw [kids_can]


/-! laws.toStringS -/
abbrev C81 : FuncId → Option Sig := tabC []
theorem hC81 : ∀ g sg, C81 g = some sg → ConOk E Tryd.prog g sg := tabC_nil
abbrev keep81 : Nat → List Nat | 0 => [0, 3, 4] | _ => []
def S81_0 (x0 : Dat) (x4 : Int) (l0 : (List Dat)) : St := ⟨[.ro .str x0, .u, .u, .hd 0, .int .i64 x4] ++ us 17, [.arr .str l0]⟩
theorem f81_round0 (K n : Nat) (x0 : Dat) (x4 : Int) (l0 : (List Dat)) :
    loopE T C81 K keep81 Tryd.f81 0 0 (behind T C81 K keep81 Tryd.f81 [(.sl .str)] 0) (n + 1) (S81_0 x0 x4 l0) =
      (bif decide (x4 < (x0.len : Int)) then (bif (decide (0 ≤ x4) && decide (x4 < (x0.len : Int))) then (bif (decide (0 ≤ x4) && decide (x4 < (l0.length : Int))) then loopE T C81 K keep81 Tryd.f81 0 0 (behind T C81 K keep81 Tryd.f81 [(.sl .str)] 0) n (S81_0 x0 (IntKind.i64.wrap (x4 + (1 : Int))) (l0.set x4.toNat (Dat.s ((x0.fld x4.toNat).str)))) else none) else none) else some [(Dat.n l0)]) := by kernel_rfl
theorem f81_start (K : Nat) (a : Dat) : evBody T C81 noL K keep81 Tryd.f81 [(.sl .str)] [(.sl .str)] [a] =
      (bif (decide (0 ≤ (a.len : Int)) && (decide ((a.len : Int) ≤ 4294967296) && decide ((a.len : Int) = (a.len : Int)))) then loopE T C81 K keep81 Tryd.f81 0 0 (behind T C81 K keep81 Tryd.f81 [(.sl .str)] 0) K (S81_0 a (0 : Int) (List.replicate (a.len : Int).toNat (zeroD .str))) else none) := by kernel_rfl
theorem con81 : ConOk E Tryd.prog 81 (toSig (.sl .str) (.sl .str)) := con hM hD hT hC81 keep81 Tryd.func81 (by kernel_rfl) (by kernel_rfl) fun ds hl hp => by
  obtain ⟨a, rfl⟩ := ds_one hl
  replace hp : fit 1048576 (.sl .str) a = true := hp
  obtain ⟨hn, he⟩ := fit_sl hp
  refine ⟨a.len + 1, ?_⟩
  have c1 : (decide (0 ≤ (a.len : Int)) && (decide ((a.len : Int) ≤ 4294967296) && decide ((a.len : Int) = (a.len : Int)))) = true := by simp; omega
  rw [f81_start, c1, cond_true, Int.toNat_natCast]
  refine (fill_loop (E := fun n j l => loopE T C81 (a.len + 1) keep81 Tryd.f81 0 0 (behind T C81 (a.len + 1) keep81 Tryd.f81 [(.sl .str)] 0) n (S81_0 a (j : Int) l)) (N := a.len) (g := fun j => can .str (a.fld j)) (fin := fun l => some [Dat.n l]) (zeroD .str) (fun n j l hj hlen => ?_) (fun n l _ => ?_)).trans ?_
  · have hj2 : j < l.length := by omega
    show loopE T C81 (a.len + 1) keep81 Tryd.f81 0 0 (behind T C81 (a.len + 1) keep81 Tryd.f81 [(.sl .str)] 0) (n + 1) (S81_0 a (j : Int) l) = _
    rw [f81_round0]
    simp only [dlt hj, dge, dlt hj2, Int.toNat_natCast, Bool.and_self, cond_true, wrap_succ hj (by unfold M; omega)]
    try rfl
  · show loopE T C81 (a.len + 1) keep81 Tryd.f81 0 0 (behind T C81 (a.len + 1) keep81 Tryd.f81 [(.sl .str)] 0) (n + 1) (S81_0 a (a.len : Int) l) = _
    rw [f81_round0, dnlt (Nat.lt_irrefl _)]; rfl
  · show _ = some [can (.sl .str) a]
    rw [kids_can]


/-! laws.toIns -/
abbrev C90 : FuncId → Option Sig := tabC []
theorem hC90 : ∀ g sg, C90 g = some sg → ConOk E Tryd.prog g sg := tabC_nil
abbrev keep90 : Nat → List Nat := fun _ => []
theorem f90_start (K : Nat) (a : Dat) : evBody T C90 noL K keep90 Tryd.f90 [s3] [s3] [a] =
      some [(Dat.n [(Dat.i ((a.fld 0).int)), (Dat.i ((a.fld 1).int))])] := by kernel_rfl
theorem con90 : ConOk E Tryd.prog 90 (toSig s3 s3) := con hM hD hT hC90 keep90 Tryd.func90 (by kernel_rfl) (by kernel_rfl) fun ds hl hp => by
  obtain ⟨a, rfl⟩ := ds_one hl
  replace hp : fit 1048576 s3 a = true := hp
  refine ⟨0, ?_⟩
  rw [f90_start]
  rfl


/-! laws.toInsS -/
abbrev C82 : FuncId → Option Sig := tabC [(90, toSig s3 s3)]
theorem hC82 : ∀ g sg, C82 g = some sg → ConOk E Tryd.prog g sg := (tabC_cons con90 tabC_nil)
abbrev keep82 : Nat → List Nat | 0 => [0, 3, 4] | _ => []
def S82_0 (x0 : Dat) (x4 : Int) (l0 : (List Dat)) : St := ⟨[.ro s3 x0, .u, .u, .hd 0, .int .i64 x4] ++ us 18, [.arr s3 l0]⟩
theorem f82_round0 (K n : Nat) (x0 : Dat) (x4 : Int) (l0 : (List Dat)) :
    loopE T C82 K keep82 Tryd.f82 0 0 (behind T C82 K keep82 Tryd.f82 [(.sl s3)] 0) (n + 1) (S82_0 x0 x4 l0) =
      (bif decide (x4 < (x0.len : Int)) then (bif (decide (0 ≤ x4) && decide (x4 < (x0.len : Int))) then (bif fit 1048576 s3 (x0.fld x4.toNat) then (bif (decide (0 ≤ x4) && decide (x4 < (l0.length : Int))) then loopE T C82 K keep82 Tryd.f82 0 0 (behind T C82 K keep82 Tryd.f82 [(.sl s3)] 0) n (S82_0 x0 (IntKind.i64.wrap (x4 + (1 : Int))) (l0.set x4.toNat (can s3 (x0.fld x4.toNat)))) else none) else none) else none) else some [(Dat.n l0)]) := by kernel_rfl
theorem f82_start (K : Nat) (a : Dat) : evBody T C82 noL K keep82 Tryd.f82 [(.sl s3)] [(.sl s3)] [a] =
      (bif (decide (0 ≤ (a.len : Int)) && (decide ((a.len : Int) ≤ 4294967296) && decide ((a.len : Int) = (a.len : Int)))) then loopE T C82 K keep82 Tryd.f82 0 0 (behind T C82 K keep82 Tryd.f82 [(.sl s3)] 0) K (S82_0 a (0 : Int) (List.replicate (a.len : Int).toNat (zeroD s3))) else none) := by kernel_rfl
theorem con82 : ConOk E Tryd.prog 82 (toSig (.sl s3) (.sl s3)) := con hM hD hT hC82 keep82 Tryd.func82 (by kernel_rfl) (by kernel_rfl) fun ds hl hp => by
  obtain ⟨a, rfl⟩ := ds_one hl
  replace hp : fit 1048576 (.sl s3) a = true := hp
  obtain ⟨hn, he⟩ := fit_sl hp
  refine ⟨a.len + 1, ?_⟩
  have c1 : (decide (0 ≤ (a.len : Int)) && (decide ((a.len : Int) ≤ 4294967296) && decide ((a.len : Int) = (a.len : Int)))) = true := by simp; omega
  rw [f82_start, c1, cond_true, Int.toNat_natCast]
  refine (fill_loop (E := fun n j l => loopE T C82 (a.len + 1) keep82 Tryd.f82 0 0 (behind T C82 (a.len + 1) keep82 Tryd.f82 [(.sl s3)] 0) n (S82_0 a (j : Int) l)) (N := a.len) (g := fun j => can s3 (a.fld j)) (fin := fun l => some [Dat.n l]) (zeroD s3) (fun n j l hj hlen => ?_) (fun n l _ => ?_)).trans ?_
  · have f1 := he j hj
    have hj2 : j < l.length := by omega
    show loopE T C82 (a.len + 1) keep82 Tryd.f82 0 0 (behind T C82 (a.len + 1) keep82 Tryd.f82 [(.sl s3)] 0) (n + 1) (S82_0 a (j : Int) l) = _
    rw [f82_round0]
    simp only [dlt hj, dge, dlt hj2, Int.toNat_natCast, f1, Bool.and_self, cond_true, wrap_succ hj (by unfold M; omega)]
    try rfl
  · show loopE T C82 (a.len + 1) keep82 Tryd.f82 0 0 (behind T C82 (a.len + 1) keep82 Tryd.f82 [(.sl s3)] 0) (n + 1) (S82_0 a (a.len : Int) l) = _
    rw [f82_round0, dnlt (Nat.lt_irrefl _)]; rfl
  · show _ = some [can (.sl s3) a]
    rw [kids_can]


/-! laws.toCode -/
abbrev C67 : FuncId → Option Sig := tabC [(81, toSig (.sl .str) (.sl .str)), (82, toSig (.sl s3) (.sl s3))]
theorem hC67 : ∀ g sg, C67 g = some sg → ConOk E Tryd.prog g sg := (tabC_cons con81 (tabC_cons con82 tabC_nil))
abbrev keep67 : Nat → List Nat := fun _ => []
theorem f67_start (K : Nat) (a : Dat) : evBody T C67 noL K keep67 Tryd.f67 [s4] [s4] [a] =
      (bif fit 1048576 (.sl .str) (a.fld 2) then (bif fit 1048576 (.sl s3) (a.fld 5) then some [(Dat.n [(Dat.s ((a.fld 0).str)), (Dat.i ((a.fld 1).int)), (Dat.n ((can (.sl .str) (a.fld 2)).kids)), (Dat.s ((a.fld 3).str)), (Dat.i ((a.fld 4).int)), (Dat.n ((can (.sl s3) (a.fld 5)).kids))])] else none) else none) := by kernel_rfl
theorem con67 : ConOk E Tryd.prog 67 (toSig s4 s4) := con hM hD hT hC67 keep67 Tryd.func67 (by kernel_rfl) (by kernel_rfl) fun ds hl hp => by
  obtain ⟨a, rfl⟩ := ds_one hl
  replace hp : fit 1048576 s4 a = true := hp
  refine ⟨0, ?_⟩
  have h2 : fit 1048576 (.sl .str) (a.fld 2) = true := fit_fld hp 2 rfl
  have h5 : fit 1048576 (.sl s3) (a.fld 5) = true := fit_fld hp 5 rfl
  rw [f67_start]
  simp only [h2, h5, cond_true]
  rfl


/-! laws.toCodeS -/
abbrev C52 : FuncId → Option Sig := tabC [(67, toSig s4 s4)]
theorem hC52 : ∀ g sg, C52 g = some sg → ConOk E Tryd.prog g sg := (tabC_cons con67 tabC_nil)
abbrev keep52 : Nat → List Nat | 0 => [0, 3, 4] | _ => []
def S52_0 (x0 : Dat) (x4 : Int) (l0 : (List Dat)) : St := ⟨[.ro s4 x0, .u, .u, .hd 0, .int .i64 x4] ++ us 18, [.arr s4 l0]⟩
theorem f52_round0 (K n : Nat) (x0 : Dat) (x4 : Int) (l0 : (List Dat)) :
    loopE T C52 K keep52 Tryd.f52 0 0 (behind T C52 K keep52 Tryd.f52 [(.sl s4)] 0) (n + 1) (S52_0 x0 x4 l0) =
      (bif decide (x4 < (x0.len : Int)) then (bif (decide (0 ≤ x4) && decide (x4 < (x0.len : Int))) then (bif fit 1048576 s4 (x0.fld x4.toNat) then (bif (decide (0 ≤ x4) && decide (x4 < (l0.length : Int))) then loopE T C52 K keep52 Tryd.f52 0 0 (behind T C52 K keep52 Tryd.f52 [(.sl s4)] 0) n (S52_0 x0 (IntKind.i64.wrap (x4 + (1 : Int))) (l0.set x4.toNat (can s4 (x0.fld x4.toNat)))) else none) else none) else none) else some [(Dat.n l0)]) := by kernel_rfl
theorem f52_start (K : Nat) (a : Dat) : evBody T C52 noL K keep52 Tryd.f52 [(.sl s4)] [(.sl s4)] [a] =
      (bif (decide (0 ≤ (a.len : Int)) && (decide ((a.len : Int) ≤ 4294967296) && decide ((a.len : Int) = (a.len : Int)))) then loopE T C52 K keep52 Tryd.f52 0 0 (behind T C52 K keep52 Tryd.f52 [(.sl s4)] 0) K (S52_0 a (0 : Int) (List.replicate (a.len : Int).toNat (zeroD s4))) else none) := by kernel_rfl
theorem con52 : ConOk E Tryd.prog 52 (toSig (.sl s4) (.sl s4)) := con hM hD hT hC52 keep52 Tryd.func52 (by kernel_rfl) (by kernel_rfl) fun ds hl hp => by
  obtain ⟨a, rfl⟩ := ds_one hl
  replace hp : fit 1048576 (.sl s4) a = true := hp
  obtain ⟨hn, he⟩ := fit_sl hp
  refine ⟨a.len + 1, ?_⟩
  have c1 : (decide (0 ≤ (a.len : Int)) && (decide ((a.len : Int) ≤ 4294967296) && decide ((a.len : Int) = (a.len : Int)))) = true := by simp; omega
  rw [f52_start, c1, cond_true, Int.toNat_natCast]
  refine (fill_loop (E := fun n j l => loopE T C52 (a.len + 1) keep52 Tryd.f52 0 0 (behind T C52 (a.len + 1) keep52 Tryd.f52 [(.sl s4)] 0) n (S52_0 a (j : Int) l)) (N := a.len) (g := fun j => can s4 (a.fld j)) (fin := fun l => some [Dat.n l]) (zeroD s4) (fun n j l hj hlen => ?_) (fun n l _ => ?_)).trans ?_
  · have f1 := he j hj
    have hj2 : j < l.length := by omega
    show loopE T C52 (a.len + 1) keep52 Tryd.f52 0 0 (behind T C52 (a.len + 1) keep52 Tryd.f52 [(.sl s4)] 0) (n + 1) (S52_0 a (j : Int) l) = _
    rw [f52_round0]
    simp only [dlt hj, dge, dlt hj2, Int.toNat_natCast, f1, Bool.and_self, cond_true, wrap_succ hj (by unfold M; omega)]
    try rfl
  · show loopE T C52 (a.len + 1) keep52 Tryd.f52 0 0 (behind T C52 (a.len + 1) keep52 Tryd.f52 [(.sl s4)] 0) (n + 1) (S52_0 a (a.len : Int) l) = _
    rw [f52_round0, dnlt (Nat.lt_irrefl _)]; rfl
  · show _ = some [can (.sl s4) a]
    rw [kids_can]


/-! laws.toKind -/
abbrev C30 : FuncId → Option Sig := tabC [(50, toSig (.sl s1) (.sl s1)), (51, toSig (.sl s2) (.sl s2)), (52, toSig (.sl s4) (.sl s4))]
theorem hC30 : ∀ g sg, C30 g = some sg → ConOk E Tryd.prog g sg := (tabC_cons con50 (tabC_cons con51 (tabC_cons con52 tabC_nil)))
abbrev keep30 : Nat → List Nat := fun _ => []
theorem f30_start (K : Nat) (a : Dat) : evBody T C30 noL K keep30 Tryd.f30 [s5] [s5] [a] =
      (bif fit 1048576 (.sl s1) (a.fld 2) then (bif fit 1048576 (.sl s2) (a.fld 3) then (bif fit 1048576 (.sl s4) (a.fld 4) then some [(Dat.n [(Dat.s ((a.fld 0).str)), (Dat.i ((a.fld 1).int)), (Dat.n ((can (.sl s1) (a.fld 2)).kids)), (Dat.n ((can (.sl s2) (a.fld 3)).kids)), (Dat.n ((can (.sl s4) (a.fld 4)).kids))])] else none) else none) else none) := by kernel_rfl
theorem con30 : ConOk E Tryd.prog 30 (toSig s5 s5) := con hM hD hT hC30 keep30 Tryd.func30 (by kernel_rfl) (by kernel_rfl) fun ds hl hp => by
  obtain ⟨a, rfl⟩ := ds_one hl
  replace hp : fit 1048576 s5 a = true := hp
  refine ⟨0, ?_⟩
  have h2 : fit 1048576 (.sl s1) (a.fld 2) = true := fit_fld hp 2 rfl
  have h3 : fit 1048576 (.sl s2) (a.fld 3) = true := fit_fld hp 3 rfl
  have h4 : fit 1048576 (.sl s4) (a.fld 4) = true := fit_fld hp 4 rfl
  rw [f30_start]
  simp only [h2, h3, h4, cond_true]
  rfl


/-! laws.toKindS -/
abbrev C17 : FuncId → Option Sig := tabC [(30, toSig s5 s5)]
theorem hC17 : ∀ g sg, C17 g = some sg → ConOk E Tryd.prog g sg := (tabC_cons con30 tabC_nil)
abbrev keep17 : Nat → List Nat | 0 => [0, 3, 4] | _ => []
def S17_0 (x0 : Dat) (x4 : Int) (l0 : (List Dat)) : St := ⟨[.ro s5 x0, .u, .u, .hd 0, .int .i64 x4] ++ us 18, [.arr s5 l0]⟩
theorem f17_round0 (K n : Nat) (x0 : Dat) (x4 : Int) (l0 : (List Dat)) :
    loopE T C17 K keep17 Tryd.f17 0 0 (behind T C17 K keep17 Tryd.f17 [(.sl s5)] 0) (n + 1) (S17_0 x0 x4 l0) =
      (bif decide (x4 < (x0.len : Int)) then (bif (decide (0 ≤ x4) && decide (x4 < (x0.len : Int))) then (bif fit 1048576 s5 (x0.fld x4.toNat) then (bif (decide (0 ≤ x4) && decide (x4 < (l0.length : Int))) then loopE T C17 K keep17 Tryd.f17 0 0 (behind T C17 K keep17 Tryd.f17 [(.sl s5)] 0) n (S17_0 x0 (IntKind.i64.wrap (x4 + (1 : Int))) (l0.set x4.toNat (can s5 (x0.fld x4.toNat)))) else none) else none) else none) else some [(Dat.n l0)]) := by kernel_rfl
theorem f17_start (K : Nat) (a : Dat) : evBody T C17 noL K keep17 Tryd.f17 [(.sl s5)] [(.sl s5)] [a] =
      (bif (decide (0 ≤ (a.len : Int)) && (decide ((a.len : Int) ≤ 4294967296) && decide ((a.len : Int) = (a.len : Int)))) then loopE T C17 K keep17 Tryd.f17 0 0 (behind T C17 K keep17 Tryd.f17 [(.sl s5)] 0) K (S17_0 a (0 : Int) (List.replicate (a.len : Int).toNat (zeroD s5))) else none) := by kernel_rfl
theorem con17 : ConOk E Tryd.prog 17 (toSig (.sl s5) (.sl s5)) := con hM hD hT hC17 keep17 Tryd.func17 (by kernel_rfl) (by kernel_rfl) fun ds hl hp => by
  obtain ⟨a, rfl⟩ := ds_one hl
  replace hp : fit 1048576 (.sl s5) a = true := hp
  obtain ⟨hn, he⟩ := fit_sl hp
  refine ⟨a.len + 1, ?_⟩
  have c1 : (decide (0 ≤ (a.len : Int)) && (decide ((a.len : Int) ≤ 4294967296) && decide ((a.len : Int) = (a.len : Int)))) = true := by simp; omega
  rw [f17_start, c1, cond_true, Int.toNat_natCast]
  refine (fill_loop (E := fun n j l => loopE T C17 (a.len + 1) keep17 Tryd.f17 0 0 (behind T C17 (a.len + 1) keep17 Tryd.f17 [(.sl s5)] 0) n (S17_0 a (j : Int) l)) (N := a.len) (g := fun j => can s5 (a.fld j)) (fin := fun l => some [Dat.n l]) (zeroD s5) (fun n j l hj hlen => ?_) (fun n l _ => ?_)).trans ?_
  · have f1 := he j hj
    have hj2 : j < l.length := by omega
    show loopE T C17 (a.len + 1) keep17 Tryd.f17 0 0 (behind T C17 (a.len + 1) keep17 Tryd.f17 [(.sl s5)] 0) (n + 1) (S17_0 a (j : Int) l) = _
    rw [f17_round0]
    simp only [dlt hj, dge, dlt hj2, Int.toNat_natCast, f1, Bool.and_self, cond_true, wrap_succ hj (by unfold M; omega)]
    try rfl
  · show loopE T C17 (a.len + 1) keep17 Tryd.f17 0 0 (behind T C17 (a.len + 1) keep17 Tryd.f17 [(.sl s5)] 0) (n + 1) (S17_0 a (a.len : Int) l) = _
    rw [f17_round0, dnlt (Nat.lt_irrefl _)]; rfl
  · show _ = some [can (.sl s5) a]
    rw [kids_can]


/-! laws.toProg -/
abbrev C7 : FuncId → Option Sig := tabC [(17, toSig (.sl s5) (.sl s5))]
theorem hC7 : ∀ g sg, C7 g = some sg → ConOk E Tryd.prog g sg := (tabC_cons con17 tabC_nil)
abbrev keep7 : Nat → List Nat := fun _ => []
theorem f7_start (K : Nat) (a : Dat) : evBody T C7 noL K keep7 Tryd.f7 [s6] [s6] [a] =
      (bif fit 1048576 (.sl s5) (a.fld 0) then some [(Dat.n [(Dat.n ((can (.sl s5) (a.fld 0)).kids))])] else none) := by kernel_rfl
theorem con7 : ConOk E Tryd.prog 7 (toSig s6 s6) := con hM hD hT hC7 keep7 Tryd.func7 (by kernel_rfl) (by kernel_rfl) fun ds hl hp => by
  obtain ⟨a, rfl⟩ := ds_one hl
  replace hp : fit 1048576 s6 a = true := hp
  refine ⟨0, ?_⟩
  have h0 : fit 1048576 (.sl s5) (a.fld 0) = true := fit_fld hp 0 rfl
  rw [f7_start]
  simp only [h0, cond_true]
  rfl


/-! laws.toVal -/
abbrev C68 : FuncId → Option Sig := tabC []
theorem hC68 : ∀ g sg, C68 g = some sg → ConOk E Tryd.prog g sg := tabC_nil
abbrev keep68 : Nat → List Nat := fun _ => []
theorem f68_start (K : Nat) (a : Dat) : evBody T C68 noL K keep68 Tryd.f68 [s7] [s7] [a] =
      some [(Dat.n [(Dat.b ((a.fld 0).bool)), (Dat.i ((a.fld 1).int))])] := by kernel_rfl
theorem con68 : ConOk E Tryd.prog 68 (toSig s7 s7) := con hM hD hT hC68 keep68 Tryd.func68 (by kernel_rfl) (by kernel_rfl) fun ds hl hp => by
  obtain ⟨a, rfl⟩ := ds_one hl
  replace hp : fit 1048576 s7 a = true := hp
  refine ⟨0, ?_⟩
  rw [f68_start]
  rfl


/-! laws.toValS -/
abbrev C53 : FuncId → Option Sig := tabC [(68, toSig s7 s7)]
theorem hC53 : ∀ g sg, C53 g = some sg → ConOk E Tryd.prog g sg := (tabC_cons con68 tabC_nil)
abbrev keep53 : Nat → List Nat | 0 => [0, 3, 4] | _ => []
def S53_0 (x0 : Dat) (x4 : Int) (l0 : (List Dat)) : St := ⟨[.ro s7 x0, .u, .u, .hd 0, .int .i64 x4] ++ us 18, [.arr s7 l0]⟩
theorem f53_round0 (K n : Nat) (x0 : Dat) (x4 : Int) (l0 : (List Dat)) :
    loopE T C53 K keep53 Tryd.f53 0 0 (behind T C53 K keep53 Tryd.f53 [(.sl s7)] 0) (n + 1) (S53_0 x0 x4 l0) =
      (bif decide (x4 < (x0.len : Int)) then (bif (decide (0 ≤ x4) && decide (x4 < (x0.len : Int))) then (bif fit 1048576 s7 (x0.fld x4.toNat) then (bif (decide (0 ≤ x4) && decide (x4 < (l0.length : Int))) then loopE T C53 K keep53 Tryd.f53 0 0 (behind T C53 K keep53 Tryd.f53 [(.sl s7)] 0) n (S53_0 x0 (IntKind.i64.wrap (x4 + (1 : Int))) (l0.set x4.toNat (can s7 (x0.fld x4.toNat)))) else none) else none) else none) else some [(Dat.n l0)]) := by kernel_rfl
theorem f53_start (K : Nat) (a : Dat) : evBody T C53 noL K keep53 Tryd.f53 [(.sl s7)] [(.sl s7)] [a] =
      (bif (decide (0 ≤ (a.len : Int)) && (decide ((a.len : Int) ≤ 4294967296) && decide ((a.len : Int) = (a.len : Int)))) then loopE T C53 K keep53 Tryd.f53 0 0 (behind T C53 K keep53 Tryd.f53 [(.sl s7)] 0) K (S53_0 a (0 : Int) (List.replicate (a.len : Int).toNat (zeroD s7))) else none) := by kernel_rfl
theorem con53 : ConOk E Tryd.prog 53 (toSig (.sl s7) (.sl s7)) := con hM hD hT hC53 keep53 Tryd.func53 (by kernel_rfl) (by kernel_rfl) fun ds hl hp => by
  obtain ⟨a, rfl⟩ := ds_one hl
  replace hp : fit 1048576 (.sl s7) a = true := hp
  obtain ⟨hn, he⟩ := fit_sl hp
  refine ⟨a.len + 1, ?_⟩
  have c1 : (decide (0 ≤ (a.len : Int)) && (decide ((a.len : Int) ≤ 4294967296) && decide ((a.len : Int) = (a.len : Int)))) = true := by simp; omega
  rw [f53_start, c1, cond_true, Int.toNat_natCast]
  refine (fill_loop (E := fun n j l => loopE T C53 (a.len + 1) keep53 Tryd.f53 0 0 (behind T C53 (a.len + 1) keep53 Tryd.f53 [(.sl s7)] 0) n (S53_0 a (j : Int) l)) (N := a.len) (g := fun j => can s7 (a.fld j)) (fin := fun l => some [Dat.n l]) (zeroD s7) (fun n j l hj hlen => ?_) (fun n l _ => ?_)).trans ?_
  · have f1 := he j hj
    have hj2 : j < l.length := by omega
    show loopE T C53 (a.len + 1) keep53 Tryd.f53 0 0 (behind T C53 (a.len + 1) keep53 Tryd.f53 [(.sl s7)] 0) (n + 1) (S53_0 a (j : Int) l) = _
    rw [f53_round0]
    simp only [dlt hj, dge, dlt hj2, Int.toNat_natCast, f1, Bool.and_self, cond_true, wrap_succ hj (by unfold M; omega)]
    try rfl
  · show loopE T C53 (a.len + 1) keep53 Tryd.f53 0 0 (behind T C53 (a.len + 1) keep53 Tryd.f53 [(.sl s7)] 0) (n + 1) (S53_0 a (a.len : Int) l) = _
    rw [f53_round0, dnlt (Nat.lt_irrefl _)]; rfl
  · show _ = some [can (.sl s7) a]
    rw [kids_can]


/-! laws.toFrame -/
abbrev C31 : FuncId → Option Sig := tabC [(53, toSig (.sl s7) (.sl s7))]
theorem hC31 : ∀ g sg, C31 g = some sg → ConOk E Tryd.prog g sg := (tabC_cons con53 tabC_nil)
abbrev keep31 : Nat → List Nat := fun _ => []
theorem f31_start (K : Nat) (a : Dat) : evBody T C31 noL K keep31 Tryd.f31 [s8] [s8] [a] =
      (bif fit 1048576 (.sl s7) (a.fld 3) then (bif fit 1048576 (.sl s7) (a.fld 4) then some [(Dat.n [(Dat.i ((a.fld 0).int)), (Dat.i ((a.fld 1).int)), (Dat.i ((a.fld 2).int)), (Dat.n ((can (.sl s7) (a.fld 3)).kids)), (Dat.n ((can (.sl s7) (a.fld 4)).kids))])] else none) else none) := by kernel_rfl
theorem con31 : ConOk E Tryd.prog 31 (toSig s8 s8) := con hM hD hT hC31 keep31 Tryd.func31 (by kernel_rfl) (by kernel_rfl) fun ds hl hp => by
  obtain ⟨a, rfl⟩ := ds_one hl
  replace hp : fit 1048576 s8 a = true := hp
  refine ⟨0, ?_⟩
  have h3 : fit 1048576 (.sl s7) (a.fld 3) = true := fit_fld hp 3 rfl
  have h4 : fit 1048576 (.sl s7) (a.fld 4) = true := fit_fld hp 4 rfl
  rw [f31_start]
  simp only [h3, h4, cond_true]
  rfl


/-! laws.toFrameS -/
abbrev C18 : FuncId → Option Sig := tabC [(31, toSig s8 s8)]
theorem hC18 : ∀ g sg, C18 g = some sg → ConOk E Tryd.prog g sg := (tabC_cons con31 tabC_nil)
abbrev keep18 : Nat → List Nat | 0 => [0, 3, 4] | _ => []
def S18_0 (x0 : Dat) (x4 : Int) (l0 : (List Dat)) : St := ⟨[.ro s8 x0, .u, .u, .hd 0, .int .i64 x4] ++ us 18, [.arr s8 l0]⟩
theorem f18_round0 (K n : Nat) (x0 : Dat) (x4 : Int) (l0 : (List Dat)) :
    loopE T C18 K keep18 Tryd.f18 0 0 (behind T C18 K keep18 Tryd.f18 [(.sl s8)] 0) (n + 1) (S18_0 x0 x4 l0) =
      (bif decide (x4 < (x0.len : Int)) then (bif (decide (0 ≤ x4) && decide (x4 < (x0.len : Int))) then (bif fit 1048576 s8 (x0.fld x4.toNat) then (bif (decide (0 ≤ x4) && decide (x4 < (l0.length : Int))) then loopE T C18 K keep18 Tryd.f18 0 0 (behind T C18 K keep18 Tryd.f18 [(.sl s8)] 0) n (S18_0 x0 (IntKind.i64.wrap (x4 + (1 : Int))) (l0.set x4.toNat (can s8 (x0.fld x4.toNat)))) else none) else none) else none) else some [(Dat.n l0)]) := by kernel_rfl
theorem f18_start (K : Nat) (a : Dat) : evBody T C18 noL K keep18 Tryd.f18 [(.sl s8)] [(.sl s8)] [a] =
      (bif (decide (0 ≤ (a.len : Int)) && (decide ((a.len : Int) ≤ 4294967296) && decide ((a.len : Int) = (a.len : Int)))) then loopE T C18 K keep18 Tryd.f18 0 0 (behind T C18 K keep18 Tryd.f18 [(.sl s8)] 0) K (S18_0 a (0 : Int) (List.replicate (a.len : Int).toNat (zeroD s8))) else none) := by kernel_rfl
theorem con18 : ConOk E Tryd.prog 18 (toSig (.sl s8) (.sl s8)) := con hM hD hT hC18 keep18 Tryd.func18 (by kernel_rfl) (by kernel_rfl) fun ds hl hp => by
  obtain ⟨a, rfl⟩ := ds_one hl
  replace hp : fit 1048576 (.sl s8) a = true := hp
  obtain ⟨hn, he⟩ := fit_sl hp
  refine ⟨a.len + 1, ?_⟩
  have c1 : (decide (0 ≤ (a.len : Int)) && (decide ((a.len : Int) ≤ 4294967296) && decide ((a.len : Int) = (a.len : Int)))) = true := by simp; omega
  rw [f18_start, c1, cond_true, Int.toNat_natCast]
  refine (fill_loop (E := fun n j l => loopE T C18 (a.len + 1) keep18 Tryd.f18 0 0 (behind T C18 (a.len + 1) keep18 Tryd.f18 [(.sl s8)] 0) n (S18_0 a (j : Int) l)) (N := a.len) (g := fun j => can s8 (a.fld j)) (fin := fun l => some [Dat.n l]) (zeroD s8) (fun n j l hj hlen => ?_) (fun n l _ => ?_)).trans ?_
  · have f1 := he j hj
    have hj2 : j < l.length := by omega
    show loopE T C18 (a.len + 1) keep18 Tryd.f18 0 0 (behind T C18 (a.len + 1) keep18 Tryd.f18 [(.sl s8)] 0) (n + 1) (S18_0 a (j : Int) l) = _
    rw [f18_round0]
    simp only [dlt hj, dge, dlt hj2, Int.toNat_natCast, f1, Bool.and_self, cond_true, wrap_succ hj (by unfold M; omega)]
    try rfl
  · show loopE T C18 (a.len + 1) keep18 Tryd.f18 0 0 (behind T C18 (a.len + 1) keep18 Tryd.f18 [(.sl s8)] 0) (n + 1) (S18_0 a (a.len : Int) l) = _
    rw [f18_round0, dnlt (Nat.lt_irrefl _)]; rfl
  · show _ = some [can (.sl s8) a]
    rw [kids_can]


/-! laws.toThread -/
abbrev C8 : FuncId → Option Sig := tabC [(18, toSig (.sl s8) (.sl s8))]
theorem hC8 : ∀ g sg, C8 g = some sg → ConOk E Tryd.prog g sg := (tabC_cons con18 tabC_nil)
abbrev keep8 : Nat → List Nat := fun _ => []
theorem f8_start (K : Nat) (a : Dat) : evBody T C8 noL K keep8 Tryd.f8 [s9] [s9] [a] =
      (bif fit 1048576 (.sl s8) (a.fld 1) then some [(Dat.n [(Dat.i ((a.fld 0).int)), (Dat.n ((can (.sl s8) (a.fld 1)).kids)), (Dat.i ((a.fld 2).int)), (Dat.i ((a.fld 3).int))])] else none) := by kernel_rfl
theorem con8 : ConOk E Tryd.prog 8 (toSig s9 s9) := con hM hD hT hC8 keep8 Tryd.func8 (by kernel_rfl) (by kernel_rfl) fun ds hl hp => by
  obtain ⟨a, rfl⟩ := ds_one hl
  replace hp : fit 1048576 s9 a = true := hp
  refine ⟨0, ?_⟩
  have h1 : fit 1048576 (.sl s8) (a.fld 1) = true := fit_fld hp 1 rfl
  rw [f8_start]
  simp only [h1, cond_true]
  rfl


/-! spec.l1In -/
abbrev C28 : FuncId → Option Sig := tabC []
theorem hC28 : ∀ g sg, C28 g = some sg → ConOk E Tryd.prog g sg := tabC_nil
abbrev keep28 : Nat → List Nat := fun _ => []
theorem f28_start (K : Nat) (a : Dat) (b : Dat) (c : Dat) : evBody T C28 noL K keep28 Tryd.f28 [tInt, tInt, tInt] [.bool] [a, b, c] =
      (bif decide (a.int ≥ b.int) then some [(Dat.b (decide (a.int ≤ c.int)))] else some [(Dat.b false)]) := by kernel_rfl
theorem con28 : ConOk E Tryd.prog 28 inSig := con hM hD hT hC28 keep28 Tryd.func28 (by kernel_rfl) (by kernel_rfl) fun ds hl hp => by
  obtain ⟨a, b, c, rfl⟩ := ds_three hl
  refine ⟨0, ?_⟩
  rw [f28_start]
  show _ = some [Dat.b (inR a.int b.int c.int)]
  exact inR_if _ _ _

/-! spec.l12Method -/
abbrev C47 : FuncId → Option Sig := tabC [(28, inSig)]
theorem hC47 : ∀ g sg, C47 g = some sg → ConOk E Tryd.prog g sg := (tabC_cons con28 tabC_nil)
abbrev keep47 : Nat → List Nat := fun _ => []
theorem f47_start (K : Nat) (a : Dat) (b : Dat) (c : Dat) : evBody T C47 noL K keep47 Tryd.f47 [s6, tInt, tInt] [.bool] [a, b, c] =
      (bif (inR b.int (0 : Int) (IntKind.i64.wrap (((a.fld 0).len : Int) - (1 : Int)))) then (bif (decide (0 ≤ b.int) && decide (b.int < ((a.fld 0).len : Int))) then some [(Dat.b (inR c.int (0 : Int) (IntKind.i64.wrap (((((a.fld 0).fld b.int.toNat).fld 4).len : Int) - (1 : Int)))))] else none) else some [(Dat.b false)]) := by kernel_rfl
theorem con47 : ConOk E Tryd.prog 47 ⟨[s6, tInt, tInt], [.bool], fun l => fit 1048576 s6 (l.getD 0 (.n [])), fun l => [.b (methIn (l.getD 0 (.n [])) (l.getD 1 (.n [])).int (l.getD 2 (.n [])).int)]⟩ := con hM hD hT hC47 keep47 Tryd.func47 (by kernel_rfl) (by kernel_rfl) fun ds hl hp => by
  obtain ⟨a, b, c, rfl⟩ := ds_three hl
  obtain ⟨hk, hke⟩ := fit_sl (show fit 1048576 (.sl s5) (a.fld 0) = true from fit_fld (show fit 1048576 s6 a = true from hp) 0 rfl)
  refine ⟨0, ?_⟩
  rw [f47_start, wrap_len (by omega)]
  show _ = some [Dat.b (methIn a b.int c.int)]
  unfold methIn
  cases hin : inR b.int 0 (((a.fld 0).len : Int) - 1)
  · rfl
  · obtain ⟨ix, hlt, _⟩ := place hin
    obtain ⟨hm, _⟩ := fit_sl (show fit 1048576 (.sl s4) (((a.fld 0).fld b.int.toNat).fld 4) = true from fit_fld (hke _ hlt) 4 rfl)
    rw [cond_true, cond_true, ix, cond_true, wrap_len (by omega)]

/-! spec.l1Word -/
abbrev C49 : FuncId → Option Sig := tabC [(28, inSig)]
theorem hC49 : ∀ g sg, C49 g = some sg → ConOk E Tryd.prog g sg := (tabC_cons con28 tabC_nil)
abbrev keep49 : Nat → List Nat := fun _ => []
theorem f49_start (K : Nat) (a : Dat) : evBody T C49 noL K keep49 Tryd.f49 [tInt] [.bool] [a] =
      some [(Dat.b (inR a.int (-2147483648 : Int) (2147483647 : Int)))] := by kernel_rfl
theorem con49 : ConOk E Tryd.prog 49 (oneSig tInt .bool fun a => .b (inR a.int (-2147483648) 2147483647)) := con hM hD hT hC49 keep49 Tryd.func49 (by kernel_rfl) (by kernel_rfl) fun ds hl hp => by
  obtain ⟨a, rfl⟩ := ds_one hl
  exact ⟨0, f49_start 0 a⟩

/-! spec.ValOk -/
abbrev C29 : FuncId → Option Sig := tabC [(28, inSig), (49, oneSig tInt .bool fun a => .b (inR a.int (-2147483648) 2147483647))]
theorem hC29 : ∀ g sg, C29 g = some sg → ConOk E Tryd.prog g sg := (tabC_cons con28 (tabC_cons con49 tabC_nil))
abbrev keep29 : Nat → List Nat := fun _ => []
theorem f29_start (K : Nat) (a : Dat) : evBody T C29 noL K keep29 Tryd.f29 [s7] [.bool] [a] =
      (bif (a.fld 0).bool then some [(Dat.b (inR ((a.fld 1).int) (0 : Int) (1000000 : Int)))] else some [(Dat.b (inR ((a.fld 1).int) (-2147483648) 2147483647))]) := by kernel_rfl
theorem con29 : ConOk E Tryd.prog 29 (oneSig s7 .bool fun a => .b (valOk a)) := con hM hD hT hC29 keep29 Tryd.func29 (by kernel_rfl) (by kernel_rfl) fun ds hl hp => by
  obtain ⟨a, rfl⟩ := ds_one hl
  refine ⟨0, ?_⟩
  rw [f29_start]
  show _ = some [Dat.b (valOk a)]
  unfold valOk
  cases (a.fld 0).bool <;> rfl

/-! spec.l14Vals -/
abbrev C48 : FuncId → Option Sig := tabC [(29, oneSig s7 .bool fun a => .b (valOk a))]
theorem hC48 : ∀ g sg, C48 g = some sg → ConOk E Tryd.prog g sg := (tabC_cons con29 tabC_nil)
abbrev keep48 : Nat → List Nat | 0 => [0, 2, 3] | _ => []
def S48_0 (x0 : Dat) (x3 : Int) : St := ⟨[.ro s7 x0, .u, .bool false, .int .i64 x3] ++ us 12, []⟩
theorem f48_round0 (K n : Nat) (x0 : Dat) (x3 : Int) :
    loopE T C48 K keep48 Tryd.f48 0 0 (behind T C48 K keep48 Tryd.f48 [.bool] 0) (n + 1) (S48_0 x0 x3) =
      (bif decide (x3 < (x0.len : Int)) then (bif (decide (0 ≤ x3) && decide (x3 < (x0.len : Int))) then (bif (!(valOk (x0.fld x3.toNat))) then some [(Dat.b false)] else loopE T C48 K keep48 Tryd.f48 0 0 (behind T C48 K keep48 Tryd.f48 [.bool] 0) n (S48_0 x0 (IntKind.i64.wrap (x3 + (1 : Int))))) else none) else some [(Dat.b true)]) := by kernel_rfl
theorem f48_start (K : Nat) (a : Dat) : evBody T C48 noL K keep48 Tryd.f48 [(.sl s7)] [.bool] [a] =
      loopE T C48 K keep48 Tryd.f48 0 0 (behind T C48 K keep48 Tryd.f48 [.bool] 0) K (S48_0 a (0 : Int)) := by kernel_rfl
theorem con48 : ConOk E Tryd.prog 48 ⟨[.sl s7], [.bool], fun l => fit 1048576 (.sl s7) (l.getD 0 (.n [])), fun l => [.b (valsOk (l.getD 0 (.n [])))]⟩ := con hM hD hT hC48 keep48 Tryd.func48 (by kernel_rfl) (by kernel_rfl) fun ds hl hp => by
  obtain ⟨a, rfl⟩ := ds_one hl
  obtain ⟨hn, _⟩ := fit_sl (show fit 1048576 (.sl s7) a = true from hp)
  refine ⟨a.len + 1, ?_⟩
  rw [f48_start]
  show _ = some [Dat.b (valsOk a)]
  unfold valsOk
  refine (all_loop (E := fun n j => loopE T C48 (a.len + 1) keep48 Tryd.f48 0 0 (behind T C48 (a.len + 1) keep48 Tryd.f48 [.bool] 0) n (S48_0 a ((j : Nat) : Int))) (N := a.len) (p := fun i => valOk (a.fld i)) (kT := some [.b true]) (kF := some [.b false]) (fun n j hj => ?_) (fun n => ?_)).trans ?_
  · show loopE T C48 (a.len + 1) keep48 Tryd.f48 0 0 (behind T C48 (a.len + 1) keep48 Tryd.f48 [.bool] 0) (n + 1) (S48_0 a ((j : Nat) : Int)) = _
    rw [f48_round0]
    simp only [dlt hj, dge, Int.toNat_natCast, Bool.and_self, cond_true, wrap_succ hj (show _ ≤ M by unfold M; omega)]
    cases valOk (a.fld j) <;> rfl
  · show loopE T C48 (a.len + 1) keep48 Tryd.f48 0 0 (behind T C48 (a.len + 1) keep48 Tryd.f48 [.bool] 0) (n + 1) (S48_0 a ((a.len : Nat) : Int)) = _
    rw [f48_round0, dnlt (Nat.lt_irrefl _)]; rfl
  · cases (List.range a.len).all fun i => valOk (a.fld i) <;> rfl

/-! spec.l14Frame -/
abbrev C27 : FuncId → Option Sig := tabC [(47, ⟨[s6, tInt, tInt], [.bool], fun l => fit 1048576 s6 (l.getD 0 (.n [])), fun l => [.b (methIn (l.getD 0 (.n [])) (l.getD 1 (.n [])).int (l.getD 2 (.n [])).int)]⟩), (28, inSig), (48, ⟨[.sl s7], [.bool], fun l => fit 1048576 (.sl s7) (l.getD 0 (.n [])), fun l => [.b (valsOk (l.getD 0 (.n [])))]⟩)]
theorem hC27 : ∀ g sg, C27 g = some sg → ConOk E Tryd.prog g sg := (tabC_cons con47 (tabC_cons con28 (tabC_cons con48 tabC_nil)))
abbrev keep27 : Nat → List Nat := fun _ => []
theorem f27_start (K : Nat) (a : Dat) (b : Dat) : evBody T C27 noL K keep27 Tryd.f27 [s6, s8] [.bool] [a, b] =
      (bif fit 1048576 s6 a then (bif (!(methIn a ((b.fld 0).int) ((b.fld 1).int))) then some [(Dat.b false)] else (bif (decide (0 ≤ (b.fld 0).int) && decide ((b.fld 0).int < ((a.fld 0).len : Int))) then (bif (decide (0 ≤ (b.fld 1).int) && decide ((b.fld 1).int < ((((a.fld 0).fld (((b.fld 0).int).toNat)).fld 4).len : Int))) then (bif ((((((a.fld 0).fld (((b.fld 0).int).toNat)).fld 4).fld (((b.fld 1).int).toNat)).fld 1).int == (b.fld 0).int) then (bif (inR ((b.fld 2).int) (0 : Int) (IntKind.i64.wrap (((((((a.fld 0).fld (((b.fld 0).int).toNat)).fld 4).fld (((b.fld 1).int).toNat)).fld 5).len : Int) - (1 : Int)))) then (bif (((b.fld 3).len : Int) == (((((a.fld 0).fld (((b.fld 0).int).toNat)).fld 4).fld (((b.fld 1).int).toNat)).fld 4).int) then (bif decide (((b.fld 4).len : Int) ≤ (6 : Int)) then (bif fit 1048576 (.sl s7) (b.fld 3) then (bif (valsOk (b.fld 3)) then (bif fit 1048576 (.sl s7) (b.fld 4) then some [(Dat.b (valsOk (b.fld 4)))] else none) else some [(Dat.b false)]) else none) else some [(Dat.b false)]) else some [(Dat.b false)]) else some [(Dat.b false)]) else some [(Dat.b false)]) else none) else none)) else none) := by kernel_rfl
theorem con27 : ConOk E Tryd.prog 27 ⟨[s6, s8], [.bool], fun l => fit 1048576 s6 (l.getD 0 (.n [])) && fit 1048576 s8 (l.getD 1 (.n [])), fun l => [.b (frameOk (l.getD 0 (.n [])) (l.getD 1 (.n [])))]⟩ := con hM hD hT hC27 keep27 Tryd.func27 (by kernel_rfl) (by kernel_rfl) fun ds hl hp => by
  obtain ⟨a, b, rfl⟩ := ds_two hl
  obtain ⟨hp1, hp2⟩ := both (show (fit 1048576 s6 a && fit 1048576 s8 b) = true from hp)
  have h3 : fit 1048576 (.sl s7) (b.fld 3) = true := fit_fld hp2 3 rfl
  have h4 : fit 1048576 (.sl s7) (b.fld 4) = true := fit_fld hp2 4 rfl
  refine ⟨0, ?_⟩
  rw [f27_start, hp1, cond_true]
  show _ = some [Dat.b (frameOk a b)]
  unfold frameOk
  cases hm : methIn a (b.fld 0).int (b.fld 1).int
  · rfl
  · obtain ⟨ix, hk, iy, hmm⟩ := methIn_place hm
    have hmt := (fit_sl (show fit 1048576 (.sl s4) (((a.fld 0).fld (b.fld 0).int.toNat).fld 4) = true from fit_fld ((fit_sl (show fit 1048576 (.sl s5) (a.fld 0) = true from fit_fld hp1 0 rfl)).2 _ hk) 4 rfl)).2 _ hmm
    have hlist := (fit_sl (show fit 1048576 (.sl _) ((methAt a (b.fld 0).int (b.fld 1).int).fld 5) = true from fit_fld hmt 5 rfl)).1
    simp only [Bool.not_true, cond_false, ix, iy, h3, h4, cond_true]
    rw [wrap_len (Nat.le_trans hlist (by decide))]
    exact frm_spec true _ _ _ _ _ _

/-! spec.ThreadOk -/
abbrev C14 : FuncId → Option Sig := tabC [(27, ⟨[s6, s8], [.bool], fun l => fit 1048576 s6 (l.getD 0 (.n [])) && fit 1048576 s8 (l.getD 1 (.n [])), fun l => [.b (frameOk (l.getD 0 (.n [])) (l.getD 1 (.n [])))]⟩), (28, inSig)]
theorem hC14 : ∀ g sg, C14 g = some sg → ConOk E Tryd.prog g sg := (tabC_cons con27 (tabC_cons con28 tabC_nil))
abbrev keep14 : Nat → List Nat | 0 => [2, 3, 4, 5] | _ => []
def S14_0 (x5 : Int) (y0_0 : Dat) (y1_0 : Int) (y1_1 : Dat) (y1_2 : Int) (y1_3 : Int) : St := ⟨[.u, .u, .pt 0 [] 0, .pt 1 [] 0, .bool false, .int .i64 x5] ++ us 45, [.box (.st [.ro s5 y0_0]), .box (.st [.int .i64 y1_0, .ro s8 y1_1, .int .i64 y1_2, .int .i64 y1_3])]⟩
theorem f14_round0 (K n : Nat) (x5 : Int) (y0_0 : Dat) (y1_0 : Int) (y1_1 : Dat) (y1_2 : Int) (y1_3 : Int) :
    loopE T C14 K keep14 Tryd.f14 0 0 (behind T C14 K keep14 Tryd.f14 [.bool] 0) (n + 1) (S14_0 x5 y0_0 y1_0 y1_1 y1_2 y1_3) =
      (bif decide (x5 < (y1_1.len : Int)) then (bif (decide (0 ≤ x5) && decide (x5 < (y1_1.len : Int))) then (bif (fit 1048576 s6 (Dat.n [y0_0]) && fit 1048576 s8 (y1_1.fld x5.toNat)) then (bif (!(frameOk (Dat.n [y0_0]) (y1_1.fld x5.toNat))) then some [(Dat.b false)] else loopE T C14 K keep14 Tryd.f14 0 0 (behind T C14 K keep14 Tryd.f14 [.bool] 0) n (S14_0 (IntKind.i64.wrap (x5 + (1 : Int))) y0_0 y1_0 y1_1 y1_2 y1_3)) else none) else none) else (bif (inR y1_0 (1 : Int) (1000000 : Int)) then (bif decide ((y1_1.len : Int) ≤ (8 : Int)) then (bif decide ((y1_1.len : Int) > (0 : Int)) then (bif (inR y1_2 (0 : Int) (5 : Int)) then some [(Dat.b (inR y1_3 (0 : Int) (15 : Int)))] else some [(Dat.b false)]) else (bif (y1_2 != (0 : Int)) then (bif (inR y1_2 (0 : Int) (5 : Int)) then some [(Dat.b (inR y1_3 (0 : Int) (15 : Int)))] else some [(Dat.b false)]) else some [(Dat.b false)])) else some [(Dat.b false)]) else some [(Dat.b false)])) := by kernel_rfl
theorem f14_start (K : Nat) (a : Dat) (b : Dat) : evBody T C14 noL K keep14 Tryd.f14 [s6, s9] [.bool] [a, b] =
      loopE T C14 K keep14 Tryd.f14 0 0 (behind T C14 K keep14 Tryd.f14 [.bool] 0) K (S14_0 (0 : Int) (a.fld 0) ((b.fld 0).int) (b.fld 1) ((b.fld 2).int) ((b.fld 3).int)) := by kernel_rfl
theorem con14 : ConOk E Tryd.prog 14 ⟨[s6, s9], [.bool], fun l => fit 1048576 s6 (l.getD 0 (.n [])) && fit 1048576 s9 (l.getD 1 (.n [])), fun l => [.b (threadOk (l.getD 0 (.n [])) (l.getD 1 (.n [])))]⟩ := con hM hD hT hC14 keep14 Tryd.func14 (by kernel_rfl) (by kernel_rfl) fun ds hl hp => by
  obtain ⟨a, b, rfl⟩ := ds_two hl
  obtain ⟨hp1, hp2⟩ := both (show (fit 1048576 s6 a && fit 1048576 s9 b) = true from hp)
  obtain ⟨hn, hfe⟩ := fit_sl (show fit 1048576 (.sl s8) (b.fld 1) = true from fit_fld hp2 1 rfl)
  have hq : fit 1048576 s6 (Dat.n [a.fld 0]) = true := hp1
  refine ⟨(b.fld 1).len + 1, ?_⟩
  rw [f14_start]
  show _ = some [Dat.b (threadOk a b)]
  have hloop : loopE T C14 ((b.fld 1).len + 1) keep14 Tryd.f14 0 0 (behind T C14 ((b.fld 1).len + 1) keep14 Tryd.f14 [.bool] 0) ((b.fld 1).len + 1) (S14_0 0 (a.fld 0) ((b.fld 0).int) (b.fld 1) ((b.fld 2).int) ((b.fld 3).int)) = bif ((List.range (b.fld 1).len).all fun i => frameOk a ((b.fld 1).fld i)) then (bif (inR ((b.fld 0).int) (1 : Int) (1000000 : Int)) then (bif decide (((b.fld 1).len : Int) ≤ (8 : Int)) then (bif decide (((b.fld 1).len : Int) > (0 : Int)) then (bif (inR ((b.fld 2).int) (0 : Int) (5 : Int)) then some [(Dat.b (inR ((b.fld 3).int) (0 : Int) (15 : Int)))] else some [(Dat.b false)]) else (bif ((b.fld 2).int != (0 : Int)) then (bif (inR ((b.fld 2).int) (0 : Int) (5 : Int)) then some [(Dat.b (inR ((b.fld 3).int) (0 : Int) (15 : Int)))] else some [(Dat.b false)]) else some [(Dat.b false)])) else some [(Dat.b false)]) else some [(Dat.b false)]) else some [Dat.b false] := by
    refine (all_loop (E := fun n j => loopE T C14 ((b.fld 1).len + 1) keep14 Tryd.f14 0 0 (behind T C14 ((b.fld 1).len + 1) keep14 Tryd.f14 [.bool] 0) n (S14_0 ((j : Nat) : Int) (a.fld 0) ((b.fld 0).int) (b.fld 1) ((b.fld 2).int) ((b.fld 3).int))) (N := (b.fld 1).len) (p := fun i => frameOk a ((b.fld 1).fld i)) (kT := (bif (inR ((b.fld 0).int) (1 : Int) (1000000 : Int)) then (bif decide (((b.fld 1).len : Int) ≤ (8 : Int)) then (bif decide (((b.fld 1).len : Int) > (0 : Int)) then (bif (inR ((b.fld 2).int) (0 : Int) (5 : Int)) then some [(Dat.b (inR ((b.fld 3).int) (0 : Int) (15 : Int)))] else some [(Dat.b false)]) else (bif ((b.fld 2).int != (0 : Int)) then (bif (inR ((b.fld 2).int) (0 : Int) (5 : Int)) then some [(Dat.b (inR ((b.fld 3).int) (0 : Int) (15 : Int)))] else some [(Dat.b false)]) else some [(Dat.b false)])) else some [(Dat.b false)]) else some [(Dat.b false)])) (kF := some [.b false]) (fun n j hj => ?_) (fun n => ?_))
    · show loopE T C14 ((b.fld 1).len + 1) keep14 Tryd.f14 0 0 (behind T C14 ((b.fld 1).len + 1) keep14 Tryd.f14 [.bool] 0) (n + 1) (S14_0 ((j : Nat) : Int) (a.fld 0) ((b.fld 0).int) (b.fld 1) ((b.fld 2).int) ((b.fld 3).int)) = _
      have hf := hfe j hj
      rw [f14_round0]
      simp only [dlt hj, dge, Int.toNat_natCast, Bool.and_self, cond_true, wrap_succ hj (show _ ≤ M by unfold M; omega), hq, hf]
      rw [show frameOk (Dat.n [a.fld 0]) ((b.fld 1).fld j) = frameOk a ((b.fld 1).fld j) from rfl]
      cases frameOk a ((b.fld 1).fld j) <;> rfl
    · show loopE T C14 ((b.fld 1).len + 1) keep14 Tryd.f14 0 0 (behind T C14 ((b.fld 1).len + 1) keep14 Tryd.f14 [.bool] 0) (n + 1) (S14_0 (((b.fld 1).len : Nat) : Int) (a.fld 0) ((b.fld 0).int) (b.fld 1) ((b.fld 2).int) ((b.fld 3).int)) = _
      rw [f14_round0, dnlt (Nat.lt_irrefl _)]; rfl
  unfold threadOk
  exact hloop.trans (thr_spec _ _ _ _ _ _ _)

/-! spec.l9Digits -/
abbrev C15 : FuncId → Option Sig := tabC []
theorem hC15 : ∀ g sg, C15 g = some sg → ConOk E Tryd.prog g sg := tabC_nil
abbrev keep15 : Nat → List Nat | 0 => [0, 3, 4] | _ => []
def S15_0 (x0 : Int) (x3 : Bool) (x4 : ByteArray) : St := ⟨[.int .i64 x0, .u, .u, .bool x3, .str x4] ++ us 26, []⟩
theorem f15_round0 (K n : Nat) (x0 : Int) (x3 : Bool) (x4 : ByteArray) :
    loopE T C15 K keep15 Tryd.f15 0 0 (behind T C15 K keep15 Tryd.f15 [.str] 0) (n + 1) (S15_0 x0 x3 x4) =
      (bif (x0 != (0 : Int)) then (bif decide ((10 : Int) ≠ 0) then (bif decide ((x0.tmod (10 : Int)) < (0 : Int)) then (bif decide ((bytesOf ([(Dat.i (IntKind.u8.wrap (IntKind.i64.wrap ((48 : Int) + (IntKind.i64.wrap ((0 : Int) - (x0.tmod (10 : Int))))))))])).size + x4.size ≤ 4611686018427387904) then (bif decide ((10 : Int) ≠ 0) then loopE T C15 K keep15 Tryd.f15 0 0 (behind T C15 K keep15 Tryd.f15 [.str] 0) n (S15_0 (IntKind.i64.wrap (x0.tdiv (10 : Int))) x3 ((bytesOf ([(Dat.i (IntKind.u8.wrap (IntKind.i64.wrap ((48 : Int) + (IntKind.i64.wrap ((0 : Int) - (x0.tmod (10 : Int))))))))])) ++ x4)) else none) else none) else (bif decide ((bytesOf ([(Dat.i (IntKind.u8.wrap (IntKind.i64.wrap ((48 : Int) + (x0.tmod (10 : Int))))))])).size + x4.size ≤ 4611686018427387904) then (bif decide ((10 : Int) ≠ 0) then loopE T C15 K keep15 Tryd.f15 0 0 (behind T C15 K keep15 Tryd.f15 [.str] 0) n (S15_0 (IntKind.i64.wrap (x0.tdiv (10 : Int))) x3 ((bytesOf ([(Dat.i (IntKind.u8.wrap (IntKind.i64.wrap ((48 : Int) + (x0.tmod (10 : Int))))))])) ++ x4)) else none) else none)) else none) else (bif x3 then (bif decide ((ByteArray.mk #[45]).size + x4.size ≤ 4611686018427387904) then some [(Dat.s ((ByteArray.mk #[45]) ++ x4))] else none) else some [(Dat.s x4)])) := by kernel_rfl
theorem f15_start (K : Nat) (a : Dat) : evBody T C15 noL K keep15 Tryd.f15 [tInt] [.str] [a] =
      (bif (a.int == (0 : Int)) then some [(Dat.s (ByteArray.mk #[48]))] else loopE T C15 K keep15 Tryd.f15 0 0 (behind T C15 K keep15 Tryd.f15 [.str] 0) K (S15_0 a.int (decide (a.int < (0 : Int))) (.empty))) := by kernel_rfl
theorem con15 : ConOk E Tryd.prog 15 itoaSig := con hM hD hT hC15 keep15 Tryd.func15 (by kernel_rfl) (by kernel_rfl) fun ds hl hp => by
  obtain ⟨a, rfl⟩ := ds_one hl
  obtain ⟨h0, h1⟩ := i64_range (show i64B a.int = true from hp)
  refine ⟨20, ?_⟩
  rw [f15_start]
  show _ = some [Dat.s (itoaS a.int)]
  by_cases hz : a.int = 0
  · rw [hz, itoaS_eq]
    show some [Dat.s (ByteArray.mk #[48])] = some [Dat.s (digB 0)]
    rw [digB_small (by omega)]; rfl
  · have e0 : (a.int == 0) = false := by simpa using hz
    rw [e0, cond_false]
    refine (dig_loop (E := fun n x out => loopE T C15 20 keep15 Tryd.f15 0 0 (behind T C15 20 keep15 Tryd.f15 [.str] 0) n (S15_0 x (decide (a.int < 0)) out)) (fin := fun x4 => (bif (decide (a.int < 0)) then (bif decide ((ByteArray.mk #[45]).size + x4.size ≤ 4611686018427387904) then some [(Dat.s ((ByteArray.mk #[45]) ++ x4))] else none) else some [(Dat.s x4)]))
      (fun n x out hx0 hx1 hx hs => ?_) (fun n out => ?_) 19 20 a.int .empty (by omega) (by omega) h0 h1 (by decide)).trans ?_
    · show loopE T C15 20 keep15 Tryd.f15 0 0 (behind T C15 20 keep15 Tryd.f15 [.str] 0) (n + 1) (S15_0 x (decide (a.int < 0)) out) = _
      rw [f15_round0]
      exact l9_body (k := fun x out => loopE T C15 20 keep15 Tryd.f15 0 0 (behind T C15 20 keep15 Tryd.f15 [.str] 0) n (S15_0 x (decide (a.int < 0)) out)) hx0 hx1 hx hs
    · show loopE T C15 20 keep15 Tryd.f15 0 0 (behind T C15 20 keep15 Tryd.f15 [.str] 0) (n + 1) (S15_0 0 (decide (a.int < 0)) out) = _
      rw [f15_round0]; rfl
    · have h2 := digB_size (n := a.int.natAbs) (by omega)
      rw [e0, cond_false, itoaS_eq, show digB a.int.natAbs ++ ByteArray.empty = digB a.int.natAbs from byte_ext (by rw [byte_app]; simp)]
      cases decide (a.int < 0)
      · rfl
      · rw [cond_true, cond_true, decide_eq_true (show (ByteArray.mk #[45]).size + (digB a.int.natAbs).size ≤ 4611686018427387904 by show 1 + _ ≤ _; omega), cond_true]

/-! spec.ValText -/
abbrev C16 : FuncId → Option Sig := tabC [(29, oneSig s7 .bool fun a => .b (valOk a)), (15, itoaSig)]
theorem hC16 : ∀ g sg, C16 g = some sg → ConOk E Tryd.prog g sg := (tabC_cons con29 (tabC_cons con15 tabC_nil))
abbrev keep16 : Nat → List Nat := fun _ => []
theorem f16_start (K : Nat) (a : Dat) : evBody T C16 noL K keep16 Tryd.f16 [s7] [.str] [a] =
      (bif (!(valOk a)) then some [(Dat.s (.empty))] else (bif (a.fld 0).bool then (bif (i64B ((a.fld 1).int)) then (bif decide ((ByteArray.mk #[64]).size + (itoaS ((a.fld 1).int)).size ≤ 4611686018427387904) then some [(Dat.s ((ByteArray.mk #[64]) ++ (itoaS ((a.fld 1).int))))] else none) else none) else (bif (i64B ((a.fld 1).int)) then some [(Dat.s (itoaS ((a.fld 1).int)))] else none))) := by kernel_rfl
theorem con16 : ConOk E Tryd.prog 16 (oneSig s7 .str fun a => .s (valS a)) := con hM hD hT hC16 keep16 Tryd.func16 (by kernel_rfl) (by kernel_rfl) fun ds hl hp => by
  obtain ⟨a, rfl⟩ := ds_one hl
  refine ⟨0, ?_⟩
  rw [f16_start]
  show _ = some [Dat.s (valS a)]
  unfold valS
  cases h : valOk a
  · rfl
  · have h1 := valOk_i64 h
    have h2 := valOk_range h
    have h3 := itoaS_size (n := (a.fld 1).int) (by omega) (by omega)
    simp only [Bool.not_true, cond_false, cond_true, h1, decide_eq_true (show (ByteArray.mk #[64]).size + (itoaS (a.fld 1).int).size ≤ 4611686018427387904 by show 1 + _ ≤ _; omega)]
    cases (a.fld 0).bool <;> rfl

/-! spec.ThreadText -/
abbrev C6 : FuncId → Option Sig := tabC [(14, ⟨[s6, s9], [.bool], fun l => fit 1048576 s6 (l.getD 0 (.n [])) && fit 1048576 s9 (l.getD 1 (.n [])), fun l => [.b (threadOk (l.getD 0 (.n [])) (l.getD 1 (.n [])))]⟩), (15, itoaSig), (16, oneSig s7 .str fun a => .s (valS a))]
theorem hC6 : ∀ g sg, C6 g = some sg → ConOk E Tryd.prog g sg := (tabC_cons con14 (tabC_cons con15 (tabC_cons con16 tabC_nil)))
abbrev keep6 : Nat → List Nat | 0 => [5, 6, 8] | _ => []
def S6_0 (x5 : ByteArray) (x8 : Int) (y0_0 : Int) (y0_1 : Int) (y0_2 : Int) (y0_3 : Dat) (y0_4 : Dat) : St := ⟨us 5 ++ [.str x5, .pt 0 [] 0, .u, .int .i64 x8] ++ us 63, [.box (.st [.int .i64 y0_0, .int .i64 y0_1, .int .i64 y0_2, .ro s7 y0_3, .ro s7 y0_4])]⟩
theorem f6_round0 (K n : Nat) (x5 : ByteArray) (x8 : Int) (y0_0 : Int) (y0_1 : Int) (y0_2 : Int) (y0_3 : Dat) (y0_4 : Dat) :
    loopE T C6 K keep6 Tryd.f6 0 0 (behind T C6 K keep6 Tryd.f6 [.str] 0) (n + 1) (S6_0 x5 x8 y0_0 y0_1 y0_2 y0_3 y0_4) =
      (bif decide (x8 < (y0_4.len : Int)) then (bif decide (x5.size + (ByteArray.mk #[32]).size ≤ 4611686018427387904) then (bif (decide (0 ≤ x8) && decide (x8 < (y0_4.len : Int))) then (bif decide ((x5 ++ (ByteArray.mk #[32])).size + (valS (y0_4.fld x8.toNat)).size ≤ 4611686018427387904) then loopE T C6 K keep6 Tryd.f6 0 0 (behind T C6 K keep6 Tryd.f6 [.str] 0) n (S6_0 ((x5 ++ (ByteArray.mk #[32])) ++ (valS (y0_4.fld x8.toNat))) (IntKind.i64.wrap (x8 + (1 : Int))) y0_0 y0_1 y0_2 y0_3 y0_4) else none) else none) else none) else some [(Dat.s x5)]) := by kernel_rfl
theorem f6_start (K : Nat) (a : Dat) (b : Dat) : evBody T C6 noL K keep6 Tryd.f6 [s6, s9] [.str] [a, b] =
      (bif (fit 1048576 s6 a && fit 1048576 s9 b) then (bif (!(threadOk a b)) then some [(Dat.s (.empty))] else (bif (decide (0 ≤ (b.fld 2).int) && decide ((b.fld 2).int < (([(Dat.s (ByteArray.mk #[114, 117, 110])), (Dat.s (ByteArray.mk #[101, 110, 100])), (Dat.s (ByteArray.mk #[110, 117, 108, 108])), (Dat.s (ByteArray.mk #[111, 119, 110, 101, 114])), (Dat.s (ByteArray.mk #[100, 101, 101, 112])), (Dat.s (ByteArray.mk #[114, 111, 111, 109]))]).length : Int))) then (bif ((b.fld 2).int != (0 : Int)) then some [(Dat.s ((([(Dat.s (ByteArray.mk #[114, 117, 110])), (Dat.s (ByteArray.mk #[101, 110, 100])), (Dat.s (ByteArray.mk #[110, 117, 108, 108])), (Dat.s (ByteArray.mk #[111, 119, 110, 101, 114])), (Dat.s (ByteArray.mk #[100, 101, 101, 112])), (Dat.s (ByteArray.mk #[114, 111, 111, 109]))]).getD (((b.fld 2).int).toNat) (.n [])).str))] else (bif (decide (0 ≤ (IntKind.i64.wrap (((b.fld 1).len : Int) - (1 : Int)))) && decide ((IntKind.i64.wrap (((b.fld 1).len : Int) - (1 : Int))) < ((b.fld 1).len : Int))) then (bif (decide (0 ≤ (((b.fld 1).fld ((IntKind.i64.wrap (((b.fld 1).len : Int) - (1 : Int))).toNat)).fld 0).int) && decide ((((b.fld 1).fld ((IntKind.i64.wrap (((b.fld 1).len : Int) - (1 : Int))).toNat)).fld 0).int < ((a.fld 0).len : Int))) then (bif decide (((([(Dat.s (ByteArray.mk #[114, 117, 110])), (Dat.s (ByteArray.mk #[101, 110, 100])), (Dat.s (ByteArray.mk #[110, 117, 108, 108])), (Dat.s (ByteArray.mk #[111, 119, 110, 101, 114])), (Dat.s (ByteArray.mk #[100, 101, 101, 112])), (Dat.s (ByteArray.mk #[114, 111, 111, 109]))]).getD (((b.fld 2).int).toNat) (.n [])).str).size + (ByteArray.mk #[32]).size ≤ 4611686018427387904) then (bif decide (((([(Dat.s (ByteArray.mk #[114, 117, 110])), (Dat.s (ByteArray.mk #[101, 110, 100])), (Dat.s (ByteArray.mk #[110, 117, 108, 108])), (Dat.s (ByteArray.mk #[111, 119, 110, 101, 114])), (Dat.s (ByteArray.mk #[100, 101, 101, 112])), (Dat.s (ByteArray.mk #[114, 111, 111, 109]))]).getD (((b.fld 2).int).toNat) (.n [])).str ++ (ByteArray.mk #[32])).size + ((((a.fld 0).fld (((((b.fld 1).fld ((IntKind.i64.wrap (((b.fld 1).len : Int) - (1 : Int))).toNat)).fld 0).int).toNat)).fld 0).str).size ≤ 4611686018427387904) then (bif decide ((((([(Dat.s (ByteArray.mk #[114, 117, 110])), (Dat.s (ByteArray.mk #[101, 110, 100])), (Dat.s (ByteArray.mk #[110, 117, 108, 108])), (Dat.s (ByteArray.mk #[111, 119, 110, 101, 114])), (Dat.s (ByteArray.mk #[100, 101, 101, 112])), (Dat.s (ByteArray.mk #[114, 111, 111, 109]))]).getD (((b.fld 2).int).toNat) (.n [])).str ++ (ByteArray.mk #[32])) ++ (((a.fld 0).fld (((((b.fld 1).fld ((IntKind.i64.wrap (((b.fld 1).len : Int) - (1 : Int))).toNat)).fld 0).int).toNat)).fld 0).str).size + (ByteArray.mk #[46]).size ≤ 4611686018427387904) then (bif (decide (0 ≤ (((b.fld 1).fld ((IntKind.i64.wrap (((b.fld 1).len : Int) - (1 : Int))).toNat)).fld 1).int) && decide ((((b.fld 1).fld ((IntKind.i64.wrap (((b.fld 1).len : Int) - (1 : Int))).toNat)).fld 1).int < ((((a.fld 0).fld (((((b.fld 1).fld ((IntKind.i64.wrap (((b.fld 1).len : Int) - (1 : Int))).toNat)).fld 0).int).toNat)).fld 4).len : Int))) then (bif decide (((((([(Dat.s (ByteArray.mk #[114, 117, 110])), (Dat.s (ByteArray.mk #[101, 110, 100])), (Dat.s (ByteArray.mk #[110, 117, 108, 108])), (Dat.s (ByteArray.mk #[111, 119, 110, 101, 114])), (Dat.s (ByteArray.mk #[100, 101, 101, 112])), (Dat.s (ByteArray.mk #[114, 111, 111, 109]))]).getD (((b.fld 2).int).toNat) (.n [])).str ++ (ByteArray.mk #[32])) ++ (((a.fld 0).fld (((((b.fld 1).fld ((IntKind.i64.wrap (((b.fld 1).len : Int) - (1 : Int))).toNat)).fld 0).int).toNat)).fld 0).str) ++ (ByteArray.mk #[46])).size + ((((((a.fld 0).fld (((((b.fld 1).fld ((IntKind.i64.wrap (((b.fld 1).len : Int) - (1 : Int))).toNat)).fld 0).int).toNat)).fld 4).fld (((((b.fld 1).fld ((IntKind.i64.wrap (((b.fld 1).len : Int) - (1 : Int))).toNat)).fld 1).int).toNat)).fld 0).str).size ≤ 4611686018427387904) then (bif decide ((((((([(Dat.s (ByteArray.mk #[114, 117, 110])), (Dat.s (ByteArray.mk #[101, 110, 100])), (Dat.s (ByteArray.mk #[110, 117, 108, 108])), (Dat.s (ByteArray.mk #[111, 119, 110, 101, 114])), (Dat.s (ByteArray.mk #[100, 101, 101, 112])), (Dat.s (ByteArray.mk #[114, 111, 111, 109]))]).getD (((b.fld 2).int).toNat) (.n [])).str ++ (ByteArray.mk #[32])) ++ (((a.fld 0).fld (((((b.fld 1).fld ((IntKind.i64.wrap (((b.fld 1).len : Int) - (1 : Int))).toNat)).fld 0).int).toNat)).fld 0).str) ++ (ByteArray.mk #[46])) ++ (((((a.fld 0).fld (((((b.fld 1).fld ((IntKind.i64.wrap (((b.fld 1).len : Int) - (1 : Int))).toNat)).fld 0).int).toNat)).fld 4).fld (((((b.fld 1).fld ((IntKind.i64.wrap (((b.fld 1).len : Int) - (1 : Int))).toNat)).fld 1).int).toNat)).fld 0).str).size + (ByteArray.mk #[32]).size ≤ 4611686018427387904) then (bif (i64B ((((b.fld 1).fld ((IntKind.i64.wrap (((b.fld 1).len : Int) - (1 : Int))).toNat)).fld 2).int)) then (bif decide (((((((([(Dat.s (ByteArray.mk #[114, 117, 110])), (Dat.s (ByteArray.mk #[101, 110, 100])), (Dat.s (ByteArray.mk #[110, 117, 108, 108])), (Dat.s (ByteArray.mk #[111, 119, 110, 101, 114])), (Dat.s (ByteArray.mk #[100, 101, 101, 112])), (Dat.s (ByteArray.mk #[114, 111, 111, 109]))]).getD (((b.fld 2).int).toNat) (.n [])).str ++ (ByteArray.mk #[32])) ++ (((a.fld 0).fld (((((b.fld 1).fld ((IntKind.i64.wrap (((b.fld 1).len : Int) - (1 : Int))).toNat)).fld 0).int).toNat)).fld 0).str) ++ (ByteArray.mk #[46])) ++ (((((a.fld 0).fld (((((b.fld 1).fld ((IntKind.i64.wrap (((b.fld 1).len : Int) - (1 : Int))).toNat)).fld 0).int).toNat)).fld 4).fld (((((b.fld 1).fld ((IntKind.i64.wrap (((b.fld 1).len : Int) - (1 : Int))).toNat)).fld 1).int).toNat)).fld 0).str) ++ (ByteArray.mk #[32])).size + (itoaS ((((b.fld 1).fld ((IntKind.i64.wrap (((b.fld 1).len : Int) - (1 : Int))).toNat)).fld 2).int)).size ≤ 4611686018427387904) then loopE T C6 K keep6 Tryd.f6 0 0 (behind T C6 K keep6 Tryd.f6 [.str] 0) K (S6_0 (((((((([(Dat.s (ByteArray.mk #[114, 117, 110])), (Dat.s (ByteArray.mk #[101, 110, 100])), (Dat.s (ByteArray.mk #[110, 117, 108, 108])), (Dat.s (ByteArray.mk #[111, 119, 110, 101, 114])), (Dat.s (ByteArray.mk #[100, 101, 101, 112])), (Dat.s (ByteArray.mk #[114, 111, 111, 109]))]).getD (((b.fld 2).int).toNat) (.n [])).str ++ (ByteArray.mk #[32])) ++ (((a.fld 0).fld (((((b.fld 1).fld ((IntKind.i64.wrap (((b.fld 1).len : Int) - (1 : Int))).toNat)).fld 0).int).toNat)).fld 0).str) ++ (ByteArray.mk #[46])) ++ (((((a.fld 0).fld (((((b.fld 1).fld ((IntKind.i64.wrap (((b.fld 1).len : Int) - (1 : Int))).toNat)).fld 0).int).toNat)).fld 4).fld (((((b.fld 1).fld ((IntKind.i64.wrap (((b.fld 1).len : Int) - (1 : Int))).toNat)).fld 1).int).toNat)).fld 0).str) ++ (ByteArray.mk #[32])) ++ (itoaS ((((b.fld 1).fld ((IntKind.i64.wrap (((b.fld 1).len : Int) - (1 : Int))).toNat)).fld 2).int))) (0 : Int) ((((b.fld 1).fld ((IntKind.i64.wrap (((b.fld 1).len : Int) - (1 : Int))).toNat)).fld 0).int) ((((b.fld 1).fld ((IntKind.i64.wrap (((b.fld 1).len : Int) - (1 : Int))).toNat)).fld 1).int) ((((b.fld 1).fld ((IntKind.i64.wrap (((b.fld 1).len : Int) - (1 : Int))).toNat)).fld 2).int) (((b.fld 1).fld ((IntKind.i64.wrap (((b.fld 1).len : Int) - (1 : Int))).toNat)).fld 3) (((b.fld 1).fld ((IntKind.i64.wrap (((b.fld 1).len : Int) - (1 : Int))).toNat)).fld 4)) else none) else none) else none) else none) else none) else none) else none) else none) else none) else none)) else none)) else none) := by kernel_rfl
theorem con6 : ConOk E Tryd.prog 6 ⟨[s6, s9], [.str], fun l => fit 1048576 s6 (l.getD 0 (.n [])) && fit 1048576 s9 (l.getD 1 (.n [])), fun l => [.s (thrS (l.getD 0 (.n [])) (l.getD 1 (.n [])))]⟩ := con hM hD hT hC6 keep6 Tryd.func6 (by kernel_rfl) (by kernel_rfl) fun ds hl hp => by
  obtain ⟨a, b, rfl⟩ := ds_two hl
  replace hp : (fit 1048576 s6 a && fit 1048576 s9 b) = true := hp
  obtain ⟨hp1, hp2⟩ := both hp
  obtain ⟨hn, hfe⟩ := fit_sl (show fit 1048576 (.sl s8) (b.fld 1) = true from fit_fld hp2 1 rfl)
  refine ⟨(((lastF b).fld 4).len + 1), ?_⟩
  rw [f6_start, hp, cond_true]
  show _ = some [Dat.s (thrS a b)]
  unfold thrS
  cases h : threadOk a b
  · rfl
  · obtain ⟨hst, hpos, hfr⟩ := threadOk_parts h
    have hs5 := inR_true hst
    have hix : (decide (0 ≤ (b.fld 2).int) && decide ((b.fld 2).int < (([(Dat.s (ByteArray.mk #[114, 117, 110])), (Dat.s (ByteArray.mk #[101, 110, 100])), (Dat.s (ByteArray.mk #[110, 117, 108, 108])), (Dat.s (ByteArray.mk #[111, 119, 110, 101, 114])), (Dat.s (ByteArray.mk #[100, 101, 101, 112])), (Dat.s (ByteArray.mk #[114, 111, 111, 109]))]).length : Int))) = true := by
      show (decide (0 ≤ (b.fld 2).int) && decide ((b.fld 2).int < 6)) = true
      simp; omega
    rw [Bool.not_true, cond_false]
    by_cases h0 : (b.fld 2).int = 0
    · have e0 : ((b.fld 2).int != 0) = false := by simp [h0]
      have hl0 := hpos h0
      have hF := hfr ((b.fld 1).len - 1) (by omega)
      have hfit := hfe ((b.fld 1).len - 1) (by omega)
      obtain ⟨ix, hk, iy, hmm⟩ := methIn_place (frameOk_meth hF)
      have hkd := (fit_sl (show fit 1048576 (.sl s5) (a.fld 0) = true from fit_fld hp1 0 rfl)).2 _ hk
      have hmt := (fit_sl (show fit 1048576 (.sl s4) (((a.fld 0).fld ((lastF b).fld 0).int.toNat).fld 4) = true from fit_fld hkd 4 rfl)).2 _ hmm
      have z1 : ((kindOfF a (lastF b)).fld 0).str.size ≤ 1048576 := fit_str (fit_fld hkd 0 rfl)
      have z2 : ((methAt a ((lastF b).fld 0).int ((lastF b).fld 1).int).fld 0).str.size ≤ 1048576 := fit_str (fit_fld hmt 0 rfl)
      have hpc : i64B ((lastF b).fld 2).int = true := fit_fld hfit 2 rfl
      have hpr := i64_range hpc
      have z3 := itoaS_size hpr.1 hpr.2
      have z4 := z1
      have z5 := z2
      have z6 := z3
      simp only [kindOfF, methAt, lastF] at z4 z5 z6
      obtain ⟨hv, _⟩ := fit_sl (show fit 1048576 (.sl s7) ((lastF b).fld 4) = true from fit_fld hfit 4 rfl)
      have hll : (((b.fld 1).len : Int) - 1).toNat = (b.fld 1).len - 1 := by omega
      have il : (decide (0 ≤ ((b.fld 1).len : Int) - 1) && decide (((b.fld 1).len : Int) - 1 < ((b.fld 1).len : Int))) = true := by simp; omega
      rw [wrap_len (n := (b.fld 1).len) (by omega), hll, il, cond_true, hix, e0, cond_false, cond_false]
      simp only [cond_true, ix, iy, hpc]
      rw [sz_bif, sz_bif, sz_bif, sz_bif, sz_bif, sz_bif]
      · rw [h0]
        rw [show ((((((([(Dat.s (ByteArray.mk #[114, 117, 110])), (Dat.s (ByteArray.mk #[101, 110, 100])), (Dat.s (ByteArray.mk #[110, 117, 108, 108])), (Dat.s (ByteArray.mk #[111, 119, 110, 101, 114])), (Dat.s (ByteArray.mk #[100, 101, 101, 112])), (Dat.s (ByteArray.mk #[114, 111, 111, 109]))]).getD (0 : Int).toNat (.n [])).str ++ (ByteArray.mk #[32])) ++ ((kindOfF a (lastF b)).fld 0).str) ++ (ByteArray.mk #[46])) ++ ((methAt a ((lastF b).fld 0).int ((lastF b).fld 1).int).fld 0).str) ++ (ByteArray.mk #[32])) ++ itoaS ((lastF b).fld 2).int = joinS (thrW a (lastF b) 0) (ByteArray.mk #[32]) from (thrW_zero a (lastF b)).symm]
        refine iter_loop (E := fun n j (x : ByteArray) => loopE T C6 (((lastF b).fld 4).len + 1) keep6 Tryd.f6 0 0 (behind T C6 (((lastF b).fld 4).len + 1) keep6 Tryd.f6 [.str] 0) n (S6_0 x ((j : Nat) : Int) (((lastF b).fld 0).int) (((lastF b).fld 1).int) (((lastF b).fld 2).int) ((lastF b).fld 3) ((lastF b).fld 4))) (N := ((lastF b).fld 4).len) (acc := fun i => (joinS (thrW a (lastF b) i) (ByteArray.mk #[32]))) (fun n j hj => ?_) (fun n => ?_) _ (Nat.lt_succ_self _)
        · have s2 := valS_size (((lastF b).fld 4).fld j)
          have s3 := thrW_size (i := j) z1 z2 z3 (by omega)
          show loopE T C6 (((lastF b).fld 4).len + 1) keep6 Tryd.f6 0 0 (behind T C6 (((lastF b).fld 4).len + 1) keep6 Tryd.f6 [.str] 0) (n + 1) (S6_0 (joinS (thrW a (lastF b) j) (ByteArray.mk #[32])) ((j : Nat) : Int) (((lastF b).fld 0).int) (((lastF b).fld 1).int) (((lastF b).fld 2).int) ((lastF b).fld 3) ((lastF b).fld 4)) = _
          rw [f6_round0]
          simp only [dlt hj, dge, Bool.and_self, cond_true, Int.toNat_natCast, wrap_succ hj (show _ ≤ M by unfold M; omega)]
          rw [sz_bif, sz_bif]
          · rw [thrW_succ, joinS_snoc (by unfold thrW; simp)]; rfl
          all_goals (simp only [app_size, mk_size, List.size_toArray, List.length_cons, List.length_nil]; omega)
        · show loopE T C6 (((lastF b).fld 4).len + 1) keep6 Tryd.f6 0 0 (behind T C6 (((lastF b).fld 4).len + 1) keep6 Tryd.f6 [.str] 0) (n + 1) (S6_0 (joinS (thrW a (lastF b) ((lastF b).fld 4).len) (ByteArray.mk #[32])) ((((lastF b).fld 4).len : Nat) : Int) (((lastF b).fld 0).int) (((lastF b).fld 1).int) (((lastF b).fld 2).int) ((lastF b).fld 3) ((lastF b).fld 4)) = _
          rw [f6_round0, dnlt (Nat.lt_irrefl _), cond_false]
      all_goals (rw [h0]; simp only [app_size, mk_size, List.size_toArray, List.length_cons, List.length_nil, Int.toNat_zero, List.getD_cons_zero, s_str]; omega)
    · have e0 : ((b.fld 2).int != 0) = true := by simpa using h0
      rw [hix, e0]; rfl

/-! impl.within -/
abbrev C34 : FuncId → Option Sig := tabC []
theorem hC34 : ∀ g sg, C34 g = some sg → ConOk E Tryd.prog g sg := tabC_nil
abbrev keep34 : Nat → List Nat := fun _ => []
theorem f34_start (K : Nat) (a : Dat) (b : Dat) (c : Dat) : evBody T C34 noL K keep34 Tryd.f34 [tInt, tInt, tInt] [.bool] [a, b, c] =
      (bif decide (a.int ≥ b.int) then some [(Dat.b (decide (a.int ≤ c.int)))] else some [(Dat.b false)]) := by kernel_rfl
theorem con34 : ConOk E Tryd.prog 34 inSig := con hM hD hT hC34 keep34 Tryd.func34 (by kernel_rfl) (by kernel_rfl) fun ds hl hp => by
  obtain ⟨a, b, c, rfl⟩ := ds_three hl
  refine ⟨0, ?_⟩
  rw [f34_start]
  show _ = some [Dat.b (inR a.int b.int c.int)]
  exact inR_if _ _ _

/-! impl.isId -/
abbrev C32 : FuncId → Option Sig := tabC [(34, inSig)]
theorem hC32 : ∀ g sg, C32 g = some sg → ConOk E Tryd.prog g sg := (tabC_cons con34 tabC_nil)
abbrev keep32 : Nat → List Nat := fun _ => []
theorem f32_start (K : Nat) (a : Dat) : evBody T C32 noL K keep32 Tryd.f32 [tInt] [.bool] [a] =
      some [(Dat.b (inR a.int (1 : Int) (1000000 : Int)))] := by kernel_rfl
theorem con32 : ConOk E Tryd.prog 32 (oneSig tInt .bool fun a => .b (inR a.int 1 1000000)) := con hM hD hT hC32 keep32 Tryd.func32 (by kernel_rfl) (by kernel_rfl) fun ds hl hp => by
  obtain ⟨a, rfl⟩ := ds_one hl
  exact ⟨0, f32_start 0 a⟩

/-! impl.hasMethod -/
abbrev C33 : FuncId → Option Sig := tabC [(34, inSig)]
theorem hC33 : ∀ g sg, C33 g = some sg → ConOk E Tryd.prog g sg := (tabC_cons con34 tabC_nil)
abbrev keep33 : Nat → List Nat := fun _ => []
theorem f33_start (K : Nat) (a : Dat) (b : Dat) (c : Dat) : evBody T C33 noL K keep33 Tryd.f33 [s6, tInt, tInt] [.bool] [a, b, c] =
      (bif (inR b.int (0 : Int) (IntKind.i64.wrap (((a.fld 0).len : Int) - (1 : Int)))) then (bif (decide (0 ≤ b.int) && decide (b.int < ((a.fld 0).len : Int))) then some [(Dat.b (inR c.int (0 : Int) (IntKind.i64.wrap (((((a.fld 0).fld b.int.toNat).fld 4).len : Int) - (1 : Int)))))] else none) else some [(Dat.b false)]) := by kernel_rfl
theorem con33 : ConOk E Tryd.prog 33 ⟨[s6, tInt, tInt], [.bool], fun l => fit 1048576 s6 (l.getD 0 (.n [])), fun l => [.b (methIn (l.getD 0 (.n [])) (l.getD 1 (.n [])).int (l.getD 2 (.n [])).int)]⟩ := con hM hD hT hC33 keep33 Tryd.func33 (by kernel_rfl) (by kernel_rfl) fun ds hl hp => by
  obtain ⟨a, b, c, rfl⟩ := ds_three hl
  obtain ⟨hk, hke⟩ := fit_sl (show fit 1048576 (.sl s5) (a.fld 0) = true from fit_fld (show fit 1048576 s6 a = true from hp) 0 rfl)
  refine ⟨0, ?_⟩
  rw [f33_start, wrap_len (by omega)]
  show _ = some [Dat.b (methIn a b.int c.int)]
  unfold methIn
  cases hin : inR b.int 0 (((a.fld 0).len : Int) - 1)
  · rfl
  · obtain ⟨ix, hlt, _⟩ := place hin
    obtain ⟨hm, _⟩ := fit_sl (show fit 1048576 (.sl s4) (((a.fld 0).fld b.int.toNat).fld 4) = true from fit_fld (hke _ hlt) 4 rfl)
    rw [cond_true, cond_true, ix, cond_true, wrap_len (by omega)]

/-! impl.isWord -/
abbrev C55 : FuncId → Option Sig := tabC [(34, inSig)]
theorem hC55 : ∀ g sg, C55 g = some sg → ConOk E Tryd.prog g sg := (tabC_cons con34 tabC_nil)
abbrev keep55 : Nat → List Nat := fun _ => []
theorem f55_start (K : Nat) (a : Dat) : evBody T C55 noL K keep55 Tryd.f55 [tInt] [.bool] [a] =
      some [(Dat.b (inR a.int (-2147483648 : Int) (2147483647 : Int)))] := by kernel_rfl
theorem con55 : ConOk E Tryd.prog 55 (oneSig tInt .bool fun a => .b (inR a.int (-2147483648) 2147483647)) := con hM hD hT hC55 keep55 Tryd.func55 (by kernel_rfl) (by kernel_rfl) fun ds hl hp => by
  obtain ⟨a, rfl⟩ := ds_one hl
  exact ⟨0, f55_start 0 a⟩

/-! impl.ValOk -/
abbrev C37 : FuncId → Option Sig := tabC [(34, inSig), (55, oneSig tInt .bool fun a => .b (inR a.int (-2147483648) 2147483647))]
theorem hC37 : ∀ g sg, C37 g = some sg → ConOk E Tryd.prog g sg := (tabC_cons con34 (tabC_cons con55 tabC_nil))
abbrev keep37 : Nat → List Nat := fun _ => []
theorem f37_start (K : Nat) (a : Dat) : evBody T C37 noL K keep37 Tryd.f37 [s7] [.bool] [a] =
      (bif (a.fld 0).bool then some [(Dat.b (inR ((a.fld 1).int) (0 : Int) (1000000 : Int)))] else some [(Dat.b (inR ((a.fld 1).int) (-2147483648) 2147483647))]) := by kernel_rfl
theorem con37 : ConOk E Tryd.prog 37 (oneSig s7 .bool fun a => .b (valOk a)) := con hM hD hT hC37 keep37 Tryd.func37 (by kernel_rfl) (by kernel_rfl) fun ds hl hp => by
  obtain ⟨a, rfl⟩ := ds_one hl
  refine ⟨0, ?_⟩
  rw [f37_start]
  show _ = some [Dat.b (valOk a)]
  unfold valOk
  cases (a.fld 0).bool <;> rfl

/-! impl.valsOk -/
abbrev C35 : FuncId → Option Sig := tabC [(37, oneSig s7 .bool fun a => .b (valOk a))]
theorem hC35 : ∀ g sg, C35 g = some sg → ConOk E Tryd.prog g sg := (tabC_cons con37 tabC_nil)
abbrev keep35 : Nat → List Nat | 0 => [2, 5, 6, 7] | _ => []
def S35_0 (x5 : Dat) (x6 : Int) (x7 : Int) : St := ⟨[.u, .u, .bool false, .u, .u, .ro s7 x5, .int .i64 x6, .int .i64 x7] ++ us 7, []⟩
theorem f35_round0 (K n : Nat) (x5 : Dat) (x6 : Int) (x7 : Int) :
    loopE T C35 K keep35 Tryd.f35 0 0 (behind T C35 K keep35 Tryd.f35 [.bool] 0) (n + 1) (S35_0 x5 x6 x7) =
      (bif decide (x7 < x6) then (bif (decide (0 ≤ x7) && decide (x7 < (x5.len : Int))) then (bif (!(valOk (x5.fld x7.toNat))) then some [(Dat.b false)] else loopE T C35 K keep35 Tryd.f35 0 0 (behind T C35 K keep35 Tryd.f35 [.bool] 0) n (S35_0 x5 x6 (IntKind.i64.wrap (x7 + (1 : Int))))) else none) else some [(Dat.b true)]) := by kernel_rfl
theorem f35_start (K : Nat) (a : Dat) : evBody T C35 noL K keep35 Tryd.f35 [(.sl s7)] [.bool] [a] =
      loopE T C35 K keep35 Tryd.f35 0 0 (behind T C35 K keep35 Tryd.f35 [.bool] 0) K (S35_0 a (a.len : Int) (0 : Int)) := by kernel_rfl
theorem con35 : ConOk E Tryd.prog 35 ⟨[.sl s7], [.bool], fun l => fit 1048576 (.sl s7) (l.getD 0 (.n [])), fun l => [.b (valsOk (l.getD 0 (.n [])))]⟩ := con hM hD hT hC35 keep35 Tryd.func35 (by kernel_rfl) (by kernel_rfl) fun ds hl hp => by
  obtain ⟨a, rfl⟩ := ds_one hl
  obtain ⟨hn, _⟩ := fit_sl (show fit 1048576 (.sl s7) a = true from hp)
  refine ⟨a.len + 1, ?_⟩
  rw [f35_start]
  show _ = some [Dat.b (valsOk a)]
  unfold valsOk
  refine (all_loop (E := fun n j => loopE T C35 (a.len + 1) keep35 Tryd.f35 0 0 (behind T C35 (a.len + 1) keep35 Tryd.f35 [.bool] 0) n (S35_0 a (a.len : Int) ((j : Nat) : Int))) (N := a.len) (p := fun i => valOk (a.fld i)) (kT := some [.b true]) (kF := some [.b false]) (fun n j hj => ?_) (fun n => ?_)).trans ?_
  · show loopE T C35 (a.len + 1) keep35 Tryd.f35 0 0 (behind T C35 (a.len + 1) keep35 Tryd.f35 [.bool] 0) (n + 1) (S35_0 a (a.len : Int) ((j : Nat) : Int)) = _
    rw [f35_round0]
    simp only [dlt hj, dge, Int.toNat_natCast, Bool.and_self, cond_true, wrap_succ hj (show _ ≤ M by unfold M; omega)]
    cases valOk (a.fld j) <;> rfl
  · show loopE T C35 (a.len + 1) keep35 Tryd.f35 0 0 (behind T C35 (a.len + 1) keep35 Tryd.f35 [.bool] 0) (n + 1) (S35_0 a (a.len : Int) ((a.len : Nat) : Int)) = _
    rw [f35_round0, dnlt (Nat.lt_irrefl _)]; rfl
  · cases (List.range a.len).all fun i => valOk (a.fld i) <;> rfl

/-! impl.ThreadOk -/
abbrev C19 : FuncId → Option Sig := tabC [(32, oneSig tInt .bool fun a => .b (inR a.int 1 1000000)), (33, ⟨[s6, tInt, tInt], [.bool], fun l => fit 1048576 s6 (l.getD 0 (.n [])), fun l => [.b (methIn (l.getD 0 (.n [])) (l.getD 1 (.n [])).int (l.getD 2 (.n [])).int)]⟩), (34, inSig), (35, ⟨[.sl s7], [.bool], fun l => fit 1048576 (.sl s7) (l.getD 0 (.n [])), fun l => [.b (valsOk (l.getD 0 (.n [])))]⟩)]
theorem hC19 : ∀ g sg, C19 g = some sg → ConOk E Tryd.prog g sg := (tabC_cons con32 (tabC_cons con33 (tabC_cons con34 (tabC_cons con35 tabC_nil))))
abbrev keep19 : Nat → List Nat | 0 => [2, 3, 4, 30, 31, 32] | _ => []
def S19_0 (x30 : Dat) (x31 : Int) (x32 : Int) (y0_0 : Dat) (y1_0 : Int) (y1_1 : Dat) (y1_2 : Int) (y1_3 : Int) : St := ⟨[.u, .u, .pt 0 [] 0, .pt 1 [] 0, .bool false] ++ us 25 ++ [.ro s8 x30, .int .i64 x31, .int .i64 x32] ++ us 69, [.box (.st [.ro s5 y0_0]), .box (.st [.int .i64 y1_0, .ro s8 y1_1, .int .i64 y1_2, .int .i64 y1_3])]⟩
theorem f19_round0 (K n : Nat) (x30 : Dat) (x31 : Int) (x32 : Int) (y0_0 : Dat) (y1_0 : Int) (y1_1 : Dat) (y1_2 : Int) (y1_3 : Int) :
    loopE T C19 K keep19 Tryd.f19 0 0 (behind T C19 K keep19 Tryd.f19 [.bool] 0) (n + 1) (S19_0 x30 x31 x32 y0_0 y1_0 y1_1 y1_2 y1_3) =
      (bif decide (x32 < x31) then (bif (decide (0 ≤ x32) && decide (x32 < (x30.len : Int))) then (bif fit 1048576 s6 (Dat.n [y0_0]) then (bif (!(methIn (Dat.n [y0_0]) (((x30.fld x32.toNat).fld 0).int) (((x30.fld x32.toNat).fld 1).int))) then some [(Dat.b false)] else (bif (decide (0 ≤ ((x30.fld x32.toNat).fld 0).int) && decide (((x30.fld x32.toNat).fld 0).int < (y0_0.len : Int))) then (bif (decide (0 ≤ ((x30.fld x32.toNat).fld 1).int) && decide (((x30.fld x32.toNat).fld 1).int < (((y0_0.fld ((((x30.fld x32.toNat).fld 0).int).toNat)).fld 4).len : Int))) then (bif (((((y0_0.fld ((((x30.fld x32.toNat).fld 0).int).toNat)).fld 4).fld ((((x30.fld x32.toNat).fld 1).int).toNat)).fld 1).int != ((x30.fld x32.toNat).fld 0).int) then some [(Dat.b false)] else (bif (!(inR (((x30.fld x32.toNat).fld 2).int) (0 : Int) (IntKind.i64.wrap ((((((y0_0.fld ((((x30.fld x32.toNat).fld 0).int).toNat)).fld 4).fld ((((x30.fld x32.toNat).fld 1).int).toNat)).fld 5).len : Int) - (1 : Int))))) then some [(Dat.b false)] else (bif ((((x30.fld x32.toNat).fld 3).len : Int) != ((((y0_0.fld ((((x30.fld x32.toNat).fld 0).int).toNat)).fld 4).fld ((((x30.fld x32.toNat).fld 1).int).toNat)).fld 4).int) then some [(Dat.b false)] else (bif decide ((((x30.fld x32.toNat).fld 4).len : Int) > (6 : Int)) then some [(Dat.b false)] else (bif fit 1048576 (.sl s7) ((x30.fld x32.toNat).fld 3) then (bif (!(valsOk ((x30.fld x32.toNat).fld 3))) then some [(Dat.b false)] else (bif fit 1048576 (.sl s7) ((x30.fld x32.toNat).fld 4) then (bif (!(valsOk ((x30.fld x32.toNat).fld 4))) then some [(Dat.b false)] else loopE T C19 K keep19 Tryd.f19 0 0 (behind T C19 K keep19 Tryd.f19 [.bool] 0) n (S19_0 x30 x31 (IntKind.i64.wrap (x32 + (1 : Int))) y0_0 y1_0 y1_1 y1_2 y1_3)) else none)) else none))))) else none) else none)) else none) else none) else (bif (inR y1_2 (0 : Int) (5 : Int)) then some [(Dat.b (inR y1_3 (0 : Int) (15 : Int)))] else some [(Dat.b false)])) := by kernel_rfl
theorem f19_start (K : Nat) (a : Dat) (b : Dat) : evBody T C19 noL K keep19 Tryd.f19 [s6, s9] [.bool] [a, b] =
      (bif (!(inR ((b.fld 0).int) 1 1000000)) then some [(Dat.b false)] else (bif decide (((b.fld 1).len : Int) > (8 : Int)) then some [(Dat.b false)] else (bif ((b.fld 2).int == (0 : Int)) then (bif (((b.fld 1).len : Int) == (0 : Int)) then some [(Dat.b false)] else loopE T C19 K keep19 Tryd.f19 0 0 (behind T C19 K keep19 Tryd.f19 [.bool] 0) K (S19_0 (b.fld 1) ((b.fld 1).len : Int) (0 : Int) (a.fld 0) ((b.fld 0).int) (b.fld 1) ((b.fld 2).int) ((b.fld 3).int))) else loopE T C19 K keep19 Tryd.f19 0 0 (behind T C19 K keep19 Tryd.f19 [.bool] 0) K (S19_0 (b.fld 1) ((b.fld 1).len : Int) (0 : Int) (a.fld 0) ((b.fld 0).int) (b.fld 1) ((b.fld 2).int) ((b.fld 3).int))))) := by kernel_rfl
theorem con19 : ConOk E Tryd.prog 19 ⟨[s6, s9], [.bool], fun l => fit 1048576 s6 (l.getD 0 (.n [])) && fit 1048576 s9 (l.getD 1 (.n [])), fun l => [.b (threadOk (l.getD 0 (.n [])) (l.getD 1 (.n [])))]⟩ := con hM hD hT hC19 keep19 Tryd.func19 (by kernel_rfl) (by kernel_rfl) fun ds hl hp => by
  obtain ⟨a, b, rfl⟩ := ds_two hl
  obtain ⟨hp1, hp2⟩ := both (show (fit 1048576 s6 a && fit 1048576 s9 b) = true from hp)
  obtain ⟨hn, hfe⟩ := fit_sl (show fit 1048576 (.sl s8) (b.fld 1) = true from fit_fld hp2 1 rfl)
  have hq : fit 1048576 s6 (Dat.n [a.fld 0]) = true := hp1
  refine ⟨(b.fld 1).len + 1, ?_⟩
  rw [f19_start]
  show _ = some [Dat.b (threadOk a b)]
  have hloop : loopE T C19 ((b.fld 1).len + 1) keep19 Tryd.f19 0 0 (behind T C19 ((b.fld 1).len + 1) keep19 Tryd.f19 [.bool] 0) ((b.fld 1).len + 1) (S19_0 (b.fld 1) ((b.fld 1).len : Int) 0 (a.fld 0) ((b.fld 0).int) (b.fld 1) ((b.fld 2).int) ((b.fld 3).int)) = bif ((List.range (b.fld 1).len).all fun i => frameOk a ((b.fld 1).fld i)) then (bif (inR ((b.fld 2).int) (0 : Int) (5 : Int)) then some [(Dat.b (inR ((b.fld 3).int) (0 : Int) (15 : Int)))] else some [(Dat.b false)]) else some [Dat.b false] := by
    refine (all_loop (E := fun n j => loopE T C19 ((b.fld 1).len + 1) keep19 Tryd.f19 0 0 (behind T C19 ((b.fld 1).len + 1) keep19 Tryd.f19 [.bool] 0) n (S19_0 (b.fld 1) ((b.fld 1).len : Int) ((j : Nat) : Int) (a.fld 0) ((b.fld 0).int) (b.fld 1) ((b.fld 2).int) ((b.fld 3).int))) (N := (b.fld 1).len) (p := fun i => frameOk a ((b.fld 1).fld i)) (kT := (bif (inR ((b.fld 2).int) (0 : Int) (5 : Int)) then some [(Dat.b (inR ((b.fld 3).int) (0 : Int) (15 : Int)))] else some [(Dat.b false)])) (kF := some [.b false]) (fun n j hj => ?_) (fun n => ?_))
    · show loopE T C19 ((b.fld 1).len + 1) keep19 Tryd.f19 0 0 (behind T C19 ((b.fld 1).len + 1) keep19 Tryd.f19 [.bool] 0) (n + 1) (S19_0 (b.fld 1) ((b.fld 1).len : Int) ((j : Nat) : Int) (a.fld 0) ((b.fld 0).int) (b.fld 1) ((b.fld 2).int) ((b.fld 3).int)) = _
      have hf := hfe j hj
      rw [f19_round0]
      have h3 : fit 1048576 (.sl s7) (((b.fld 1).fld j).fld 3) = true := fit_fld hf 3 rfl
      have h4 : fit 1048576 (.sl s7) (((b.fld 1).fld j).fld 4) = true := fit_fld hf 4 rfl
      simp only [dlt hj, dge, Int.toNat_natCast, Bool.and_self, cond_true, wrap_succ hj (show _ ≤ M by unfold M; omega), hq, h3, h4]
      rw [show methIn (Dat.n [a.fld 0]) (((b.fld 1).fld j).fld 0).int (((b.fld 1).fld j).fld 1).int = methIn a (((b.fld 1).fld j).fld 0).int (((b.fld 1).fld j).fld 1).int from rfl]
      unfold frameOk
      cases hm : methIn a (((b.fld 1).fld j).fld 0).int (((b.fld 1).fld j).fld 1).int
      · rfl
      · obtain ⟨ix, hk, iy, hmm⟩ := methIn_place hm
        have hmt := (fit_sl (show fit 1048576 (.sl s4) (((a.fld 0).fld (((b.fld 1).fld j).fld 0).int.toNat).fld 4) = true from fit_fld ((fit_sl (show fit 1048576 (.sl s5) (a.fld 0) = true from fit_fld hp1 0 rfl)).2 _ hk) 4 rfl)).2 _ hmm
        have hlist := (fit_sl (show fit 1048576 (.sl _) ((methAt a (((b.fld 1).fld j).fld 0).int (((b.fld 1).fld j).fld 1).int).fld 5) = true from fit_fld hmt 5 rfl)).1
        simp only [Bool.not_true, cond_false, ix, iy, cond_true]
        rw [wrap_len (Nat.le_trans hlist (by decide))]
        have e4 : decide (((((b.fld 1).fld j).fld 4).len : Int) > 6) = !decide (((((b.fld 1).fld j).fld 4).len : Int) ≤ 6) := by rw [← decide_not]; exact decide_eq_decide.2 (by omega)
        rw [e4]
        exact frm_impl _ _ _ _ _ _ _ _
    · show loopE T C19 ((b.fld 1).len + 1) keep19 Tryd.f19 0 0 (behind T C19 ((b.fld 1).len + 1) keep19 Tryd.f19 [.bool] 0) (n + 1) (S19_0 (b.fld 1) ((b.fld 1).len : Int) (((b.fld 1).len : Nat) : Int) (a.fld 0) ((b.fld 0).int) (b.fld 1) ((b.fld 2).int) ((b.fld 3).int)) = _
      rw [f19_round0, dnlt (Nat.lt_irrefl _)]; rfl
  unfold threadOk
  have e1 : decide (((b.fld 1).len : Int) > 8) = !decide (((b.fld 1).len : Int) ≤ 8) := by rw [← decide_not]; exact decide_eq_decide.2 (by omega)
  have e2 : ((b.fld 2).int == 0) = !((b.fld 2).int != 0) := by simp [bne]
  have e3 : (((b.fld 1).len : Int) == 0) = !decide (((b.fld 1).len : Int) > 0) := by
    rw [Bool.eq_iff_iff]; simp
  rw [e1, e2, e3, hloop]
  exact thr_impl _ _ _ _ _ _ _

theorem con20 : ConOk E Tryd.prog 20 itoaSig := con_itoa (enter_of Tryd.func20 (by kernel_rfl) (by kernel_rfl)) fun n h0 h1 w hw => Go.Proofs.Any.strconv_Itoa Tryd.laysM171 n h0 h1 w hw

/-! impl.ValText -/
abbrev C21 : FuncId → Option Sig := tabC [(37, oneSig s7 .bool fun a => .b (valOk a)), (20, itoaSig)]
theorem hC21 : ∀ g sg, C21 g = some sg → ConOk E Tryd.prog g sg := (tabC_cons con37 (tabC_cons con20 tabC_nil))
abbrev keep21 : Nat → List Nat := fun _ => []
theorem f21_start (K : Nat) (a : Dat) : evBody T C21 noL K keep21 Tryd.f21 [s7] [.str] [a] =
      (bif (!(valOk a)) then some [(Dat.s (.empty))] else (bif (a.fld 0).bool then (bif (i64B ((a.fld 1).int)) then (bif decide ((ByteArray.mk #[64]).size + (itoaS ((a.fld 1).int)).size ≤ 4611686018427387904) then some [(Dat.s ((ByteArray.mk #[64]) ++ (itoaS ((a.fld 1).int))))] else none) else none) else (bif (i64B ((a.fld 1).int)) then some [(Dat.s (itoaS ((a.fld 1).int)))] else none))) := by kernel_rfl
theorem con21 : ConOk E Tryd.prog 21 (oneSig s7 .str fun a => .s (valS a)) := con hM hD hT hC21 keep21 Tryd.func21 (by kernel_rfl) (by kernel_rfl) fun ds hl hp => by
  obtain ⟨a, rfl⟩ := ds_one hl
  refine ⟨0, ?_⟩
  rw [f21_start]
  show _ = some [Dat.s (valS a)]
  unfold valS
  cases h : valOk a
  · rfl
  · have h1 := valOk_i64 h
    have h2 := valOk_range h
    have h3 := itoaS_size (n := (a.fld 1).int) (by omega) (by omega)
    simp only [Bool.not_true, cond_false, cond_true, h1, decide_eq_true (show (ByteArray.mk #[64]).size + (itoaS (a.fld 1).int).size ≤ 4611686018427387904 by show 1 + _ ≤ _; omega)]
    cases (a.fld 0).bool <;> rfl

theorem con22 : ConOk E Tryd.prog 22 joinSig := con_join (enter_of Tryd.func22 (by kernel_rfl) (by kernel_rfl)) (fun a c sep w => Go.Proofs.Any.strings_Join_none Tryd.lays156 Tryd.Builder_Extra_156 a c sep w) fun bk o c xs sep w h1 h2 h3 h4 h5 => Go.Proofs.Any.strings_Join Tryd.lays156 Tryd.Builder_Extra_156 bk o c xs sep w h1 h2 h3 h4 h5

/-! impl.ThreadText -/
abbrev C9 : FuncId → Option Sig := tabC [(19, ⟨[s6, s9], [.bool], fun l => fit 1048576 s6 (l.getD 0 (.n [])) && fit 1048576 s9 (l.getD 1 (.n [])), fun l => [.b (threadOk (l.getD 0 (.n [])) (l.getD 1 (.n [])))]⟩), (20, itoaSig), (21, oneSig s7 .str fun a => .s (valS a)), (22, joinSig)]
theorem hC9 : ∀ g sg, C9 g = some sg → ConOk E Tryd.prog g sg := (tabC_cons con19 (tabC_cons con20 (tabC_cons con21 (tabC_cons con22 tabC_nil))))
abbrev keep9 : Nat → List Nat | 0 => [8, 59, 60, 61] | _ => []
def S9_0 (x59 : Dat) (x60 : Int) (x61 : Int) (l0 : (List Dat)) : St := ⟨us 8 ++ [.hd 0] ++ us 50 ++ [.ro s7 x59, .int .i64 x60, .int .i64 x61] ++ us 11, [.arr .str l0]⟩
theorem f9_round0 (K n : Nat) (x59 : Dat) (x60 : Int) (x61 : Int) (l0 : (List Dat)) :
    loopE T C9 K keep9 Tryd.f9 0 0 (behind T C9 K keep9 Tryd.f9 [.str] 0) (n + 1) (S9_0 x59 x60 x61 l0) =
      (bif decide (x61 < x60) then (bif (decide (0 ≤ x61) && decide (x61 < (x59.len : Int))) then (bif decide (l0.length + ([(Dat.s (valS (x59.fld x61.toNat)))]).length ≤ 4294967296) then loopE T C9 K keep9 Tryd.f9 0 0 (behind T C9 K keep9 Tryd.f9 [.str] 0) n (S9_0 x59 x60 (IntKind.i64.wrap (x61 + (1 : Int))) (l0 ++ [(Dat.s (valS (x59.fld x61.toNat)))])) else none) else none) else (bif (Nat.ble l0.length 140737488355328 && Nat.ble (joinS l0 (ByteArray.mk #[32])).size 140737488355328) then some [(Dat.s (joinS l0 (ByteArray.mk #[32])))] else none)) := by kernel_rfl
theorem f9_start (K : Nat) (a : Dat) (b : Dat) : evBody T C9 noL K keep9 Tryd.f9 [s6, s9] [.str] [a, b] =
      (bif (fit 1048576 s6 a && fit 1048576 s9 b) then (bif (!(threadOk a b)) then some [(Dat.s (.empty))] else (bif ((b.fld 2).int != (0 : Int)) then (bif (decide (0 ≤ (b.fld 2).int) && decide ((b.fld 2).int < (([(Dat.s (ByteArray.mk #[114, 117, 110])), (Dat.s (ByteArray.mk #[101, 110, 100])), (Dat.s (ByteArray.mk #[110, 117, 108, 108])), (Dat.s (ByteArray.mk #[111, 119, 110, 101, 114])), (Dat.s (ByteArray.mk #[100, 101, 101, 112])), (Dat.s (ByteArray.mk #[114, 111, 111, 109]))]).length : Int))) then some [(Dat.s ((([(Dat.s (ByteArray.mk #[114, 117, 110])), (Dat.s (ByteArray.mk #[101, 110, 100])), (Dat.s (ByteArray.mk #[110, 117, 108, 108])), (Dat.s (ByteArray.mk #[111, 119, 110, 101, 114])), (Dat.s (ByteArray.mk #[100, 101, 101, 112])), (Dat.s (ByteArray.mk #[114, 111, 111, 109]))]).getD (((b.fld 2).int).toNat) (.n [])).str))] else none) else (bif (decide (0 ≤ (IntKind.i64.wrap (((b.fld 1).len : Int) - (1 : Int)))) && decide ((IntKind.i64.wrap (((b.fld 1).len : Int) - (1 : Int))) < ((b.fld 1).len : Int))) then (bif (decide (0 ≤ (((b.fld 1).fld ((IntKind.i64.wrap (((b.fld 1).len : Int) - (1 : Int))).toNat)).fld 0).int) && decide ((((b.fld 1).fld ((IntKind.i64.wrap (((b.fld 1).len : Int) - (1 : Int))).toNat)).fld 0).int < ((a.fld 0).len : Int))) then (bif (decide (0 ≤ (b.fld 2).int) && decide ((b.fld 2).int < (([(Dat.s (ByteArray.mk #[114, 117, 110])), (Dat.s (ByteArray.mk #[101, 110, 100])), (Dat.s (ByteArray.mk #[110, 117, 108, 108])), (Dat.s (ByteArray.mk #[111, 119, 110, 101, 114])), (Dat.s (ByteArray.mk #[100, 101, 101, 112])), (Dat.s (ByteArray.mk #[114, 111, 111, 109]))]).length : Int))) then (bif decide (((((a.fld 0).fld (((((b.fld 1).fld ((IntKind.i64.wrap (((b.fld 1).len : Int) - (1 : Int))).toNat)).fld 0).int).toNat)).fld 0).str).size + (ByteArray.mk #[46]).size ≤ 4611686018427387904) then (bif (decide (0 ≤ (((b.fld 1).fld ((IntKind.i64.wrap (((b.fld 1).len : Int) - (1 : Int))).toNat)).fld 1).int) && decide ((((b.fld 1).fld ((IntKind.i64.wrap (((b.fld 1).len : Int) - (1 : Int))).toNat)).fld 1).int < ((((a.fld 0).fld (((((b.fld 1).fld ((IntKind.i64.wrap (((b.fld 1).len : Int) - (1 : Int))).toNat)).fld 0).int).toNat)).fld 4).len : Int))) then (bif decide (((((a.fld 0).fld (((((b.fld 1).fld ((IntKind.i64.wrap (((b.fld 1).len : Int) - (1 : Int))).toNat)).fld 0).int).toNat)).fld 0).str ++ (ByteArray.mk #[46])).size + ((((((a.fld 0).fld (((((b.fld 1).fld ((IntKind.i64.wrap (((b.fld 1).len : Int) - (1 : Int))).toNat)).fld 0).int).toNat)).fld 4).fld (((((b.fld 1).fld ((IntKind.i64.wrap (((b.fld 1).len : Int) - (1 : Int))).toNat)).fld 1).int).toNat)).fld 0).str).size ≤ 4611686018427387904) then (bif (i64B ((((b.fld 1).fld ((IntKind.i64.wrap (((b.fld 1).len : Int) - (1 : Int))).toNat)).fld 2).int)) then loopE T C9 K keep9 Tryd.f9 0 0 (behind T C9 K keep9 Tryd.f9 [.str] 0) K (S9_0 (((b.fld 1).fld ((IntKind.i64.wrap (((b.fld 1).len : Int) - (1 : Int))).toNat)).fld 4) ((((b.fld 1).fld ((IntKind.i64.wrap (((b.fld 1).len : Int) - (1 : Int))).toNat)).fld 4).len : Int) (0 : Int) ([(Dat.s ((([(Dat.s (ByteArray.mk #[114, 117, 110])), (Dat.s (ByteArray.mk #[101, 110, 100])), (Dat.s (ByteArray.mk #[110, 117, 108, 108])), (Dat.s (ByteArray.mk #[111, 119, 110, 101, 114])), (Dat.s (ByteArray.mk #[100, 101, 101, 112])), (Dat.s (ByteArray.mk #[114, 111, 111, 109]))]).getD (((b.fld 2).int).toNat) (.n [])).str)), (Dat.s (((((a.fld 0).fld (((((b.fld 1).fld ((IntKind.i64.wrap (((b.fld 1).len : Int) - (1 : Int))).toNat)).fld 0).int).toNat)).fld 0).str ++ (ByteArray.mk #[46])) ++ (((((a.fld 0).fld (((((b.fld 1).fld ((IntKind.i64.wrap (((b.fld 1).len : Int) - (1 : Int))).toNat)).fld 0).int).toNat)).fld 4).fld (((((b.fld 1).fld ((IntKind.i64.wrap (((b.fld 1).len : Int) - (1 : Int))).toNat)).fld 1).int).toNat)).fld 0).str)), (Dat.s (itoaS ((((b.fld 1).fld ((IntKind.i64.wrap (((b.fld 1).len : Int) - (1 : Int))).toNat)).fld 2).int)))])) else none) else none) else none) else none) else none) else none) else none))) else none) := by kernel_rfl
theorem con9 : ConOk E Tryd.prog 9 ⟨[s6, s9], [.str], fun l => fit 1048576 s6 (l.getD 0 (.n [])) && fit 1048576 s9 (l.getD 1 (.n [])), fun l => [.s (thrS (l.getD 0 (.n [])) (l.getD 1 (.n [])))]⟩ := con hM hD hT hC9 keep9 Tryd.func9 (by kernel_rfl) (by kernel_rfl) fun ds hl hp => by
  obtain ⟨a, b, rfl⟩ := ds_two hl
  replace hp : (fit 1048576 s6 a && fit 1048576 s9 b) = true := hp
  obtain ⟨hp1, hp2⟩ := both hp
  obtain ⟨hn, hfe⟩ := fit_sl (show fit 1048576 (.sl s8) (b.fld 1) = true from fit_fld hp2 1 rfl)
  refine ⟨(((lastF b).fld 4).len + 1), ?_⟩
  rw [f9_start, hp, cond_true]
  show _ = some [Dat.s (thrS a b)]
  unfold thrS
  cases h : threadOk a b
  · rfl
  · obtain ⟨hst, hpos, hfr⟩ := threadOk_parts h
    have hs5 := inR_true hst
    have hix : (decide (0 ≤ (b.fld 2).int) && decide ((b.fld 2).int < (([(Dat.s (ByteArray.mk #[114, 117, 110])), (Dat.s (ByteArray.mk #[101, 110, 100])), (Dat.s (ByteArray.mk #[110, 117, 108, 108])), (Dat.s (ByteArray.mk #[111, 119, 110, 101, 114])), (Dat.s (ByteArray.mk #[100, 101, 101, 112])), (Dat.s (ByteArray.mk #[114, 111, 111, 109]))]).length : Int))) = true := by
      show (decide (0 ≤ (b.fld 2).int) && decide ((b.fld 2).int < 6)) = true
      simp; omega
    rw [Bool.not_true, cond_false]
    by_cases h0 : (b.fld 2).int = 0
    · have e0 : ((b.fld 2).int != 0) = false := by simp [h0]
      have hl0 := hpos h0
      have hF := hfr ((b.fld 1).len - 1) (by omega)
      have hfit := hfe ((b.fld 1).len - 1) (by omega)
      obtain ⟨ix, hk, iy, hmm⟩ := methIn_place (frameOk_meth hF)
      have hkd := (fit_sl (show fit 1048576 (.sl s5) (a.fld 0) = true from fit_fld hp1 0 rfl)).2 _ hk
      have hmt := (fit_sl (show fit 1048576 (.sl s4) (((a.fld 0).fld ((lastF b).fld 0).int.toNat).fld 4) = true from fit_fld hkd 4 rfl)).2 _ hmm
      have z1 : ((kindOfF a (lastF b)).fld 0).str.size ≤ 1048576 := fit_str (fit_fld hkd 0 rfl)
      have z2 : ((methAt a ((lastF b).fld 0).int ((lastF b).fld 1).int).fld 0).str.size ≤ 1048576 := fit_str (fit_fld hmt 0 rfl)
      have hpc : i64B ((lastF b).fld 2).int = true := fit_fld hfit 2 rfl
      have hpr := i64_range hpc
      have z3 := itoaS_size hpr.1 hpr.2
      have z4 := z1
      have z5 := z2
      have z6 := z3
      simp only [kindOfF, methAt, lastF] at z4 z5 z6
      obtain ⟨hv, _⟩ := fit_sl (show fit 1048576 (.sl s7) ((lastF b).fld 4) = true from fit_fld hfit 4 rfl)
      have hll : (((b.fld 1).len : Int) - 1).toNat = (b.fld 1).len - 1 := by omega
      have il : (decide (0 ≤ ((b.fld 1).len : Int) - 1) && decide (((b.fld 1).len : Int) - 1 < ((b.fld 1).len : Int))) = true := by simp; omega
      rw [wrap_len (n := (b.fld 1).len) (by omega), hll, il, cond_true, hix, e0, cond_false, cond_false]
      simp only [cond_true, ix, iy, hpc]
      rw [sz_bif, sz_bif]
      · show loopE T C9 (((lastF b).fld 4).len + 1) keep9 Tryd.f9 0 0 (behind T C9 (((lastF b).fld 4).len + 1) keep9 Tryd.f9 [.str] 0) (((lastF b).fld 4).len + 1) (S9_0 ((lastF b).fld 4) (((lastF b).fld 4).len : Int) 0 ([(Dat.s (((([(Dat.s (ByteArray.mk #[114, 117, 110])), (Dat.s (ByteArray.mk #[101, 110, 100])), (Dat.s (ByteArray.mk #[110, 117, 108, 108])), (Dat.s (ByteArray.mk #[111, 119, 110, 101, 114])), (Dat.s (ByteArray.mk #[100, 101, 101, 112])), (Dat.s (ByteArray.mk #[114, 111, 111, 109]))]).getD (((b.fld 2).int).toNat) (.n [])).str))), (Dat.s (((kindOfF a (lastF b)).fld 0).str ++ (ByteArray.mk #[46]) ++ ((methAt a ((lastF b).fld 0).int ((lastF b).fld 1).int).fld 0).str)), (Dat.s (itoaS ((lastF b).fld 2).int))])) = _
        rw [h0]
        refine iter_loop (E := fun n j (x : List Dat) => loopE T C9 (((lastF b).fld 4).len + 1) keep9 Tryd.f9 0 0 (behind T C9 (((lastF b).fld 4).len + 1) keep9 Tryd.f9 [.str] 0) n (S9_0 ((lastF b).fld 4) (((lastF b).fld 4).len : Int) ((j : Nat) : Int) x)) (N := ((lastF b).fld 4).len) (acc := fun i => (thrW a (lastF b) i)) (fun n j hj => ?_) (fun n => ?_) _ (Nat.lt_succ_self _)
        · have s2 := valS_size (((lastF b).fld 4).fld j)
          have s3 := thrW_size (i := j) z1 z2 z3 (by omega)
          show loopE T C9 (((lastF b).fld 4).len + 1) keep9 Tryd.f9 0 0 (behind T C9 (((lastF b).fld 4).len + 1) keep9 Tryd.f9 [.str] 0) (n + 1) (S9_0 ((lastF b).fld 4) (((lastF b).fld 4).len : Int) ((j : Nat) : Int) (thrW a (lastF b) j)) = _
          rw [f9_round0]
          simp only [dlt hj, dge, Bool.and_self, cond_true, Int.toNat_natCast, wrap_succ hj (show _ ≤ M by unfold M; omega)]
          rw [decide_eq_true, cond_true]
          · rw [thrW_succ]
          · rw [thrW_length]; simp; omega
        · have s3 := thrW_size (i := ((lastF b).fld 4).len) z1 z2 z3 (by omega)
          show loopE T C9 (((lastF b).fld 4).len + 1) keep9 Tryd.f9 0 0 (behind T C9 (((lastF b).fld 4).len + 1) keep9 Tryd.f9 [.str] 0) (n + 1) (S9_0 ((lastF b).fld 4) (((lastF b).fld 4).len : Int) ((((lastF b).fld 4).len : Nat) : Int) (thrW a (lastF b) ((lastF b).fld 4).len)) = _
          rw [f9_round0, dnlt (Nat.lt_irrefl _), cond_false]
          rw [Nat.ble_eq_true_of_le (show (thrW a (lastF b) ((lastF b).fld 4).len).length ≤ 140737488355328 by rw [thrW_length]; omega), Nat.ble_eq_true_of_le (show (joinS (thrW a (lastF b) ((lastF b).fld 4).len) (ByteArray.mk #[32])).size ≤ 140737488355328 by omega)]
          rfl
      all_goals (simp only [app_size, mk_size, List.size_toArray, List.length_cons, List.length_nil]; omega)
    · have e0 : ((b.fld 2).int != 0) = true := by simpa using h0
      rw [hix, e0]; rfl

/-! laws.eqConst -/
abbrev C75 : FuncId → Option Sig := tabC []
theorem hC75 : ∀ g sg, C75 g = some sg → ConOk E Tryd.prog g sg := tabC_nil
abbrev keep75 : Nat → List Nat := fun _ => []
theorem f75_start (K : Nat) (a : Dat) (b : Dat) : evBody T C75 noL K keep75 Tryd.f75 [s1, s1] [.bool] [a, b] =
      (bif ((a.fld 0).int != (b.fld 0).int) then some [(Dat.b false)] else (bif ((a.fld 1).int != (b.fld 1).int) then some [(Dat.b false)] else (bif (!(((a.fld 2).str).toList == ((b.fld 2).str).toList)) then some [(Dat.b false)] else (bif (!(((a.fld 3).str).toList == ((b.fld 3).str).toList)) then some [(Dat.b false)] else some [(Dat.b true)])))) := by kernel_rfl
theorem con75 : ConOk E Tryd.prog 75 (eqSig s1) := con hM hD hT hC75 keep75 Tryd.func75 (by kernel_rfl) (by kernel_rfl) fun ds hl hp => by
  obtain ⟨a, b, rfl⟩ := ds_two hl
  obtain ⟨ha, hb⟩ := both (show (fit M s1 a && fit M s1 b) = true from hp)
  refine ⟨0, ?_⟩
  rw [f75_start]
  show _ = some [Dat.b (((a.fld 0).int == (b.fld 0).int) && (((a.fld 1).int == (b.fld 1).int) && (((a.fld 2).str.toList == (b.fld 2).str.toList) && (((a.fld 3).str.toList == (b.fld 3).str.toList) && true))))]
  exact (and_step (and_step (and_step (and_step rfl))))


/-! laws.eqConstS -/
abbrev C58 : FuncId → Option Sig := tabC [(75, eqSig s1)]
theorem hC58 : ∀ g sg, C58 g = some sg → ConOk E Tryd.prog g sg := (tabC_cons con75 tabC_nil)
abbrev keep58 : Nat → List Nat | 0 => [0, 1, 4, 5] | _ => []
def S58_0 (x0 : Dat) (x1 : Dat) (x5 : Int) : St := ⟨[.ro s1 x0, .ro s1 x1, .u, .u, .bool false, .int .i64 x5] ++ us 21, []⟩
theorem f58_round0 (K n : Nat) (x0 : Dat) (x1 : Dat) (x5 : Int) :
    loopE T C58 K keep58 Tryd.f58 0 0 (behind T C58 K keep58 Tryd.f58 [.bool] 0) (n + 1) (S58_0 x0 x1 x5) =
      (bif decide (x5 < (x0.len : Int)) then (bif (decide (0 ≤ x5) && decide (x5 < (x0.len : Int))) then (bif (decide (0 ≤ x5) && decide (x5 < (x1.len : Int))) then (bif (fit M s1 (x0.fld x5.toNat) && fit M s1 (x1.fld x5.toNat)) then (bif (!(deq s1 (x0.fld x5.toNat) (x1.fld x5.toNat))) then some [(Dat.b false)] else loopE T C58 K keep58 Tryd.f58 0 0 (behind T C58 K keep58 Tryd.f58 [.bool] 0) n (S58_0 x0 x1 (IntKind.i64.wrap (x5 + (1 : Int))))) else none) else none) else none) else some [(Dat.b true)]) := by kernel_rfl
theorem f58_start (K : Nat) (a : Dat) (b : Dat) : evBody T C58 noL K keep58 Tryd.f58 [(.sl s1), (.sl s1)] [.bool] [a, b] =
      (bif ((a.len : Int) != (b.len : Int)) then some [(Dat.b false)] else loopE T C58 K keep58 Tryd.f58 0 0 (behind T C58 K keep58 Tryd.f58 [.bool] 0) K (S58_0 a b (0 : Int))) := by kernel_rfl
theorem con58 : ConOk E Tryd.prog 58 (eqSig (.sl s1)) := con hM hD hT hC58 keep58 Tryd.func58 (by kernel_rfl) (by kernel_rfl) fun ds hl hp => by
  obtain ⟨a, b, rfl⟩ := ds_two hl
  obtain ⟨ha, hb⟩ := both (show (fit M (.sl s1) a && fit M (.sl s1) b) = true from hp)
  obtain ⟨hn, he⟩ := fit_sl ha
  obtain ⟨hn2, he2⟩ := fit_sl hb
  refine ⟨a.len + 1, ?_⟩
  rw [f58_start]
  show _ = some [Dat.b (deq (.sl s1) a b)]
  rw [deq_sl]
  by_cases hlen : a.len = b.len
  · have c1 : ((a.len : Int) != (b.len : Int)) = false := by simp [hlen]
    have c2 : (a.len == b.len) = true := by simp [hlen]
    rw [c1, cond_false, c2, Bool.true_and]
    refine (all_loop (E := fun n j => loopE T C58 (a.len + 1) keep58 Tryd.f58 0 0 (behind T C58 (a.len + 1) keep58 Tryd.f58 [.bool] 0) n (S58_0 a b ((j : Nat) : Int))) (N := a.len) (p := fun j => deq s1 (a.fld j) (b.fld j)) (kT := some [.b true]) (kF := some [.b false]) (fun n j hj => ?_) (fun n => ?_)).trans ?_
    · have hj2 : j < b.len := by omega
      have f1 := he j hj
      have f2 := he2 j hj2
      show loopE T C58 (a.len + 1) keep58 Tryd.f58 0 0 (behind T C58 (a.len + 1) keep58 Tryd.f58 [.bool] 0) (n + 1) (S58_0 a b ((j : Nat) : Int)) = _
      rw [f58_round0]
      simp only [dlt hj, dge, dlt hj2, Int.toNat_natCast, f1, f2, Bool.and_self, cond_true, wrap_succ hj hn]
      cases deq s1 (a.fld j) (b.fld j) <;> rfl
    · show loopE T C58 (a.len + 1) keep58 Tryd.f58 0 0 (behind T C58 (a.len + 1) keep58 Tryd.f58 [.bool] 0) (n + 1) (S58_0 a b ((a.len : Nat) : Int)) = _
      rw [f58_round0, dnlt (Nat.lt_irrefl _)]; rfl
    · cases (List.range a.len).all fun j => deq s1 (a.fld j) (b.fld j) <;> rfl
  · have c1 : ((a.len : Int) != (b.len : Int)) = true := by simp; omega
    have c2 : (a.len == b.len) = false := by simp [hlen]
    rw [c1, cond_true, c2]; rfl


/-! laws.eqField -/
abbrev C76 : FuncId → Option Sig := tabC []
theorem hC76 : ∀ g sg, C76 g = some sg → ConOk E Tryd.prog g sg := tabC_nil
abbrev keep76 : Nat → List Nat := fun _ => []
theorem f76_start (K : Nat) (a : Dat) (b : Dat) : evBody T C76 noL K keep76 Tryd.f76 [s2, s2] [.bool] [a, b] =
      (bif (!(((a.fld 0).str).toList == ((b.fld 0).str).toList)) then some [(Dat.b false)] else (bif (!(((a.fld 1).str).toList == ((b.fld 1).str).toList)) then some [(Dat.b false)] else some [(Dat.b true)])) := by kernel_rfl
theorem con76 : ConOk E Tryd.prog 76 (eqSig s2) := con hM hD hT hC76 keep76 Tryd.func76 (by kernel_rfl) (by kernel_rfl) fun ds hl hp => by
  obtain ⟨a, b, rfl⟩ := ds_two hl
  obtain ⟨ha, hb⟩ := both (show (fit M s2 a && fit M s2 b) = true from hp)
  refine ⟨0, ?_⟩
  rw [f76_start]
  show _ = some [Dat.b (((a.fld 0).str.toList == (b.fld 0).str.toList) && (((a.fld 1).str.toList == (b.fld 1).str.toList) && true))]
  exact (and_step (and_step rfl))


/-! laws.eqFieldS -/
abbrev C59 : FuncId → Option Sig := tabC [(76, eqSig s2)]
theorem hC59 : ∀ g sg, C59 g = some sg → ConOk E Tryd.prog g sg := (tabC_cons con76 tabC_nil)
abbrev keep59 : Nat → List Nat | 0 => [0, 1, 4, 5] | _ => []
def S59_0 (x0 : Dat) (x1 : Dat) (x5 : Int) : St := ⟨[.ro s2 x0, .ro s2 x1, .u, .u, .bool false, .int .i64 x5] ++ us 21, []⟩
theorem f59_round0 (K n : Nat) (x0 : Dat) (x1 : Dat) (x5 : Int) :
    loopE T C59 K keep59 Tryd.f59 0 0 (behind T C59 K keep59 Tryd.f59 [.bool] 0) (n + 1) (S59_0 x0 x1 x5) =
      (bif decide (x5 < (x0.len : Int)) then (bif (decide (0 ≤ x5) && decide (x5 < (x0.len : Int))) then (bif (decide (0 ≤ x5) && decide (x5 < (x1.len : Int))) then (bif (fit M s2 (x0.fld x5.toNat) && fit M s2 (x1.fld x5.toNat)) then (bif (!(deq s2 (x0.fld x5.toNat) (x1.fld x5.toNat))) then some [(Dat.b false)] else loopE T C59 K keep59 Tryd.f59 0 0 (behind T C59 K keep59 Tryd.f59 [.bool] 0) n (S59_0 x0 x1 (IntKind.i64.wrap (x5 + (1 : Int))))) else none) else none) else none) else some [(Dat.b true)]) := by kernel_rfl
theorem f59_start (K : Nat) (a : Dat) (b : Dat) : evBody T C59 noL K keep59 Tryd.f59 [(.sl s2), (.sl s2)] [.bool] [a, b] =
      (bif ((a.len : Int) != (b.len : Int)) then some [(Dat.b false)] else loopE T C59 K keep59 Tryd.f59 0 0 (behind T C59 K keep59 Tryd.f59 [.bool] 0) K (S59_0 a b (0 : Int))) := by kernel_rfl
theorem con59 : ConOk E Tryd.prog 59 (eqSig (.sl s2)) := con hM hD hT hC59 keep59 Tryd.func59 (by kernel_rfl) (by kernel_rfl) fun ds hl hp => by
  obtain ⟨a, b, rfl⟩ := ds_two hl
  obtain ⟨ha, hb⟩ := both (show (fit M (.sl s2) a && fit M (.sl s2) b) = true from hp)
  obtain ⟨hn, he⟩ := fit_sl ha
  obtain ⟨hn2, he2⟩ := fit_sl hb
  refine ⟨a.len + 1, ?_⟩
  rw [f59_start]
  show _ = some [Dat.b (deq (.sl s2) a b)]
  rw [deq_sl]
  by_cases hlen : a.len = b.len
  · have c1 : ((a.len : Int) != (b.len : Int)) = false := by simp [hlen]
    have c2 : (a.len == b.len) = true := by simp [hlen]
    rw [c1, cond_false, c2, Bool.true_and]
    refine (all_loop (E := fun n j => loopE T C59 (a.len + 1) keep59 Tryd.f59 0 0 (behind T C59 (a.len + 1) keep59 Tryd.f59 [.bool] 0) n (S59_0 a b ((j : Nat) : Int))) (N := a.len) (p := fun j => deq s2 (a.fld j) (b.fld j)) (kT := some [.b true]) (kF := some [.b false]) (fun n j hj => ?_) (fun n => ?_)).trans ?_
    · have hj2 : j < b.len := by omega
      have f1 := he j hj
      have f2 := he2 j hj2
      show loopE T C59 (a.len + 1) keep59 Tryd.f59 0 0 (behind T C59 (a.len + 1) keep59 Tryd.f59 [.bool] 0) (n + 1) (S59_0 a b ((j : Nat) : Int)) = _
      rw [f59_round0]
      simp only [dlt hj, dge, dlt hj2, Int.toNat_natCast, f1, f2, Bool.and_self, cond_true, wrap_succ hj hn]
      cases deq s2 (a.fld j) (b.fld j) <;> rfl
    · show loopE T C59 (a.len + 1) keep59 Tryd.f59 0 0 (behind T C59 (a.len + 1) keep59 Tryd.f59 [.bool] 0) (n + 1) (S59_0 a b ((a.len : Nat) : Int)) = _
      rw [f59_round0, dnlt (Nat.lt_irrefl _)]; rfl
    · cases (List.range a.len).all fun j => deq s2 (a.fld j) (b.fld j) <;> rfl
  · have c1 : ((a.len : Int) != (b.len : Int)) = true := by simp; omega
    have c2 : (a.len == b.len) = false := by simp [hlen]
    rw [c1, cond_true, c2]; rfl


/-! laws.eqStringS -/
abbrev C88 : FuncId → Option Sig := tabC []
theorem hC88 : ∀ g sg, C88 g = some sg → ConOk E Tryd.prog g sg := tabC_nil
abbrev keep88 : Nat → List Nat | 0 => [0, 1, 4, 5] | _ => []
def S88_0 (x0 : Dat) (x1 : Dat) (x5 : Int) : St := ⟨[.ro .str x0, .ro .str x1, .u, .u, .bool false, .int .i64 x5] ++ us 20, []⟩
theorem f88_round0 (K n : Nat) (x0 : Dat) (x1 : Dat) (x5 : Int) :
    loopE T C88 K keep88 Tryd.f88 0 0 (behind T C88 K keep88 Tryd.f88 [.bool] 0) (n + 1) (S88_0 x0 x1 x5) =
      (bif decide (x5 < (x0.len : Int)) then (bif (decide (0 ≤ x5) && decide (x5 < (x0.len : Int))) then (bif (decide (0 ≤ x5) && decide (x5 < (x1.len : Int))) then (bif (!(((x0.fld x5.toNat).str).toList == ((x1.fld x5.toNat).str).toList)) then some [(Dat.b false)] else loopE T C88 K keep88 Tryd.f88 0 0 (behind T C88 K keep88 Tryd.f88 [.bool] 0) n (S88_0 x0 x1 (IntKind.i64.wrap (x5 + (1 : Int))))) else none) else none) else some [(Dat.b true)]) := by kernel_rfl
theorem f88_start (K : Nat) (a : Dat) (b : Dat) : evBody T C88 noL K keep88 Tryd.f88 [(.sl .str), (.sl .str)] [.bool] [a, b] =
      (bif ((a.len : Int) != (b.len : Int)) then some [(Dat.b false)] else loopE T C88 K keep88 Tryd.f88 0 0 (behind T C88 K keep88 Tryd.f88 [.bool] 0) K (S88_0 a b (0 : Int))) := by kernel_rfl
theorem con88 : ConOk E Tryd.prog 88 (eqSig (.sl .str)) := con hM hD hT hC88 keep88 Tryd.func88 (by kernel_rfl) (by kernel_rfl) fun ds hl hp => by
  obtain ⟨a, b, rfl⟩ := ds_two hl
  obtain ⟨ha, hb⟩ := both (show (fit M (.sl .str) a && fit M (.sl .str) b) = true from hp)
  obtain ⟨hn, he⟩ := fit_sl ha
  obtain ⟨hn2, he2⟩ := fit_sl hb
  refine ⟨a.len + 1, ?_⟩
  rw [f88_start]
  show _ = some [Dat.b (deq (.sl .str) a b)]
  rw [deq_sl]
  by_cases hlen : a.len = b.len
  · have c1 : ((a.len : Int) != (b.len : Int)) = false := by simp [hlen]
    have c2 : (a.len == b.len) = true := by simp [hlen]
    rw [c1, cond_false, c2, Bool.true_and]
    refine (all_loop (E := fun n j => loopE T C88 (a.len + 1) keep88 Tryd.f88 0 0 (behind T C88 (a.len + 1) keep88 Tryd.f88 [.bool] 0) n (S88_0 a b ((j : Nat) : Int))) (N := a.len) (p := fun j => deq .str (a.fld j) (b.fld j)) (kT := some [.b true]) (kF := some [.b false]) (fun n j hj => ?_) (fun n => ?_)).trans ?_
    · have hj2 : j < b.len := by omega
      show loopE T C88 (a.len + 1) keep88 Tryd.f88 0 0 (behind T C88 (a.len + 1) keep88 Tryd.f88 [.bool] 0) (n + 1) (S88_0 a b ((j : Nat) : Int)) = _
      rw [f88_round0]
      simp only [dlt hj, dge, dlt hj2, Int.toNat_natCast, Bool.and_self, cond_true, wrap_succ hj hn]
      simp only [deq]; cases (a.fld j).str.toList == (b.fld j).str.toList <;> rfl
    · show loopE T C88 (a.len + 1) keep88 Tryd.f88 0 0 (behind T C88 (a.len + 1) keep88 Tryd.f88 [.bool] 0) (n + 1) (S88_0 a b ((a.len : Nat) : Int)) = _
      rw [f88_round0, dnlt (Nat.lt_irrefl _)]; rfl
    · cases (List.range a.len).all fun j => deq .str (a.fld j) (b.fld j) <;> rfl
  · have c1 : ((a.len : Int) != (b.len : Int)) = true := by simp; omega
    have c2 : (a.len == b.len) = false := by simp [hlen]
    rw [c1, cond_true, c2]; rfl


/-! laws.eqIns -/
abbrev C93 : FuncId → Option Sig := tabC []
theorem hC93 : ∀ g sg, C93 g = some sg → ConOk E Tryd.prog g sg := tabC_nil
abbrev keep93 : Nat → List Nat := fun _ => []
theorem f93_start (K : Nat) (a : Dat) (b : Dat) : evBody T C93 noL K keep93 Tryd.f93 [s3, s3] [.bool] [a, b] =
      (bif ((a.fld 0).int != (b.fld 0).int) then some [(Dat.b false)] else (bif ((a.fld 1).int != (b.fld 1).int) then some [(Dat.b false)] else some [(Dat.b true)])) := by kernel_rfl
theorem con93 : ConOk E Tryd.prog 93 (eqSig s3) := con hM hD hT hC93 keep93 Tryd.func93 (by kernel_rfl) (by kernel_rfl) fun ds hl hp => by
  obtain ⟨a, b, rfl⟩ := ds_two hl
  obtain ⟨ha, hb⟩ := both (show (fit M s3 a && fit M s3 b) = true from hp)
  refine ⟨0, ?_⟩
  rw [f93_start]
  show _ = some [Dat.b (((a.fld 0).int == (b.fld 0).int) && (((a.fld 1).int == (b.fld 1).int) && true))]
  exact (and_step (and_step rfl))


/-! laws.eqInsS -/
abbrev C89 : FuncId → Option Sig := tabC [(93, eqSig s3)]
theorem hC89 : ∀ g sg, C89 g = some sg → ConOk E Tryd.prog g sg := (tabC_cons con93 tabC_nil)
abbrev keep89 : Nat → List Nat | 0 => [0, 1, 4, 5] | _ => []
def S89_0 (x0 : Dat) (x1 : Dat) (x5 : Int) : St := ⟨[.ro s3 x0, .ro s3 x1, .u, .u, .bool false, .int .i64 x5] ++ us 21, []⟩
theorem f89_round0 (K n : Nat) (x0 : Dat) (x1 : Dat) (x5 : Int) :
    loopE T C89 K keep89 Tryd.f89 0 0 (behind T C89 K keep89 Tryd.f89 [.bool] 0) (n + 1) (S89_0 x0 x1 x5) =
      (bif decide (x5 < (x0.len : Int)) then (bif (decide (0 ≤ x5) && decide (x5 < (x0.len : Int))) then (bif (decide (0 ≤ x5) && decide (x5 < (x1.len : Int))) then (bif (fit M s3 (x0.fld x5.toNat) && fit M s3 (x1.fld x5.toNat)) then (bif (!(deq s3 (x0.fld x5.toNat) (x1.fld x5.toNat))) then some [(Dat.b false)] else loopE T C89 K keep89 Tryd.f89 0 0 (behind T C89 K keep89 Tryd.f89 [.bool] 0) n (S89_0 x0 x1 (IntKind.i64.wrap (x5 + (1 : Int))))) else none) else none) else none) else some [(Dat.b true)]) := by kernel_rfl
theorem f89_start (K : Nat) (a : Dat) (b : Dat) : evBody T C89 noL K keep89 Tryd.f89 [(.sl s3), (.sl s3)] [.bool] [a, b] =
      (bif ((a.len : Int) != (b.len : Int)) then some [(Dat.b false)] else loopE T C89 K keep89 Tryd.f89 0 0 (behind T C89 K keep89 Tryd.f89 [.bool] 0) K (S89_0 a b (0 : Int))) := by kernel_rfl
theorem con89 : ConOk E Tryd.prog 89 (eqSig (.sl s3)) := con hM hD hT hC89 keep89 Tryd.func89 (by kernel_rfl) (by kernel_rfl) fun ds hl hp => by
  obtain ⟨a, b, rfl⟩ := ds_two hl
  obtain ⟨ha, hb⟩ := both (show (fit M (.sl s3) a && fit M (.sl s3) b) = true from hp)
  obtain ⟨hn, he⟩ := fit_sl ha
  obtain ⟨hn2, he2⟩ := fit_sl hb
  refine ⟨a.len + 1, ?_⟩
  rw [f89_start]
  show _ = some [Dat.b (deq (.sl s3) a b)]
  rw [deq_sl]
  by_cases hlen : a.len = b.len
  · have c1 : ((a.len : Int) != (b.len : Int)) = false := by simp [hlen]
    have c2 : (a.len == b.len) = true := by simp [hlen]
    rw [c1, cond_false, c2, Bool.true_and]
    refine (all_loop (E := fun n j => loopE T C89 (a.len + 1) keep89 Tryd.f89 0 0 (behind T C89 (a.len + 1) keep89 Tryd.f89 [.bool] 0) n (S89_0 a b ((j : Nat) : Int))) (N := a.len) (p := fun j => deq s3 (a.fld j) (b.fld j)) (kT := some [.b true]) (kF := some [.b false]) (fun n j hj => ?_) (fun n => ?_)).trans ?_
    · have hj2 : j < b.len := by omega
      have f1 := he j hj
      have f2 := he2 j hj2
      show loopE T C89 (a.len + 1) keep89 Tryd.f89 0 0 (behind T C89 (a.len + 1) keep89 Tryd.f89 [.bool] 0) (n + 1) (S89_0 a b ((j : Nat) : Int)) = _
      rw [f89_round0]
      simp only [dlt hj, dge, dlt hj2, Int.toNat_natCast, f1, f2, Bool.and_self, cond_true, wrap_succ hj hn]
      cases deq s3 (a.fld j) (b.fld j) <;> rfl
    · show loopE T C89 (a.len + 1) keep89 Tryd.f89 0 0 (behind T C89 (a.len + 1) keep89 Tryd.f89 [.bool] 0) (n + 1) (S89_0 a b ((a.len : Nat) : Int)) = _
      rw [f89_round0, dnlt (Nat.lt_irrefl _)]; rfl
    · cases (List.range a.len).all fun j => deq s3 (a.fld j) (b.fld j) <;> rfl
  · have c1 : ((a.len : Int) != (b.len : Int)) = true := by simp; omega
    have c2 : (a.len == b.len) = false := by simp [hlen]
    rw [c1, cond_true, c2]; rfl


/-! laws.eqCode -/
abbrev C77 : FuncId → Option Sig := tabC [(88, eqSig (.sl .str)), (89, eqSig (.sl s3))]
theorem hC77 : ∀ g sg, C77 g = some sg → ConOk E Tryd.prog g sg := (tabC_cons con88 (tabC_cons con89 tabC_nil))
abbrev keep77 : Nat → List Nat := fun _ => []
theorem f77_start (K : Nat) (a : Dat) (b : Dat) : evBody T C77 noL K keep77 Tryd.f77 [s4, s4] [.bool] [a, b] =
      (bif (!(((a.fld 0).str).toList == ((b.fld 0).str).toList)) then some [(Dat.b false)] else (bif ((a.fld 1).int != (b.fld 1).int) then some [(Dat.b false)] else (bif (fit M (.sl .str) (a.fld 2) && fit M (.sl .str) (b.fld 2)) then (bif (!(deq (.sl .str) (a.fld 2) (b.fld 2))) then some [(Dat.b false)] else (bif (!(((a.fld 3).str).toList == ((b.fld 3).str).toList)) then some [(Dat.b false)] else (bif ((a.fld 4).int != (b.fld 4).int) then some [(Dat.b false)] else (bif (fit M (.sl s3) (a.fld 5) && fit M (.sl s3) (b.fld 5)) then (bif (!(deq (.sl s3) (a.fld 5) (b.fld 5))) then some [(Dat.b false)] else some [(Dat.b true)]) else none)))) else none))) := by kernel_rfl
theorem con77 : ConOk E Tryd.prog 77 (eqSig s4) := con hM hD hT hC77 keep77 Tryd.func77 (by kernel_rfl) (by kernel_rfl) fun ds hl hp => by
  obtain ⟨a, b, rfl⟩ := ds_two hl
  obtain ⟨ha, hb⟩ := both (show (fit M s4 a && fit M s4 b) = true from hp)
  refine ⟨0, ?_⟩
  have h2 : (fit M (.sl .str) (a.fld 2) && fit M (.sl .str) (b.fld 2)) = true := and_both (fit_fld ha 2 rfl) (fit_fld hb 2 rfl)
  have h5 : (fit M (.sl s3) (a.fld 5) && fit M (.sl s3) (b.fld 5)) = true := and_both (fit_fld ha 5 rfl) (fit_fld hb 5 rfl)
  rw [f77_start]
  simp only [h2, h5, cond_true]
  show _ = some [Dat.b (((a.fld 0).str.toList == (b.fld 0).str.toList) && (((a.fld 1).int == (b.fld 1).int) && (deq (.sl .str) (a.fld 2) (b.fld 2) && (((a.fld 3).str.toList == (b.fld 3).str.toList) && (((a.fld 4).int == (b.fld 4).int) && (deq (.sl s3) (a.fld 5) (b.fld 5) && true))))))]
  exact (and_step (and_step (and_step (and_step (and_step (and_step rfl))))))


/-! laws.eqCodeS -/
abbrev C60 : FuncId → Option Sig := tabC [(77, eqSig s4)]
theorem hC60 : ∀ g sg, C60 g = some sg → ConOk E Tryd.prog g sg := (tabC_cons con77 tabC_nil)
abbrev keep60 : Nat → List Nat | 0 => [0, 1, 4, 5] | _ => []
def S60_0 (x0 : Dat) (x1 : Dat) (x5 : Int) : St := ⟨[.ro s4 x0, .ro s4 x1, .u, .u, .bool false, .int .i64 x5] ++ us 21, []⟩
theorem f60_round0 (K n : Nat) (x0 : Dat) (x1 : Dat) (x5 : Int) :
    loopE T C60 K keep60 Tryd.f60 0 0 (behind T C60 K keep60 Tryd.f60 [.bool] 0) (n + 1) (S60_0 x0 x1 x5) =
      (bif decide (x5 < (x0.len : Int)) then (bif (decide (0 ≤ x5) && decide (x5 < (x0.len : Int))) then (bif (decide (0 ≤ x5) && decide (x5 < (x1.len : Int))) then (bif (fit M s4 (x0.fld x5.toNat) && fit M s4 (x1.fld x5.toNat)) then (bif (!(deq s4 (x0.fld x5.toNat) (x1.fld x5.toNat))) then some [(Dat.b false)] else loopE T C60 K keep60 Tryd.f60 0 0 (behind T C60 K keep60 Tryd.f60 [.bool] 0) n (S60_0 x0 x1 (IntKind.i64.wrap (x5 + (1 : Int))))) else none) else none) else none) else some [(Dat.b true)]) := by kernel_rfl
theorem f60_start (K : Nat) (a : Dat) (b : Dat) : evBody T C60 noL K keep60 Tryd.f60 [(.sl s4), (.sl s4)] [.bool] [a, b] =
      (bif ((a.len : Int) != (b.len : Int)) then some [(Dat.b false)] else loopE T C60 K keep60 Tryd.f60 0 0 (behind T C60 K keep60 Tryd.f60 [.bool] 0) K (S60_0 a b (0 : Int))) := by kernel_rfl
theorem con60 : ConOk E Tryd.prog 60 (eqSig (.sl s4)) := con hM hD hT hC60 keep60 Tryd.func60 (by kernel_rfl) (by kernel_rfl) fun ds hl hp => by
  obtain ⟨a, b, rfl⟩ := ds_two hl
  obtain ⟨ha, hb⟩ := both (show (fit M (.sl s4) a && fit M (.sl s4) b) = true from hp)
  obtain ⟨hn, he⟩ := fit_sl ha
  obtain ⟨hn2, he2⟩ := fit_sl hb
  refine ⟨a.len + 1, ?_⟩
  rw [f60_start]
  show _ = some [Dat.b (deq (.sl s4) a b)]
  rw [deq_sl]
  by_cases hlen : a.len = b.len
  · have c1 : ((a.len : Int) != (b.len : Int)) = false := by simp [hlen]
    have c2 : (a.len == b.len) = true := by simp [hlen]
    rw [c1, cond_false, c2, Bool.true_and]
    refine (all_loop (E := fun n j => loopE T C60 (a.len + 1) keep60 Tryd.f60 0 0 (behind T C60 (a.len + 1) keep60 Tryd.f60 [.bool] 0) n (S60_0 a b ((j : Nat) : Int))) (N := a.len) (p := fun j => deq s4 (a.fld j) (b.fld j)) (kT := some [.b true]) (kF := some [.b false]) (fun n j hj => ?_) (fun n => ?_)).trans ?_
    · have hj2 : j < b.len := by omega
      have f1 := he j hj
      have f2 := he2 j hj2
      show loopE T C60 (a.len + 1) keep60 Tryd.f60 0 0 (behind T C60 (a.len + 1) keep60 Tryd.f60 [.bool] 0) (n + 1) (S60_0 a b ((j : Nat) : Int)) = _
      rw [f60_round0]
      simp only [dlt hj, dge, dlt hj2, Int.toNat_natCast, f1, f2, Bool.and_self, cond_true, wrap_succ hj hn]
      cases deq s4 (a.fld j) (b.fld j) <;> rfl
    · show loopE T C60 (a.len + 1) keep60 Tryd.f60 0 0 (behind T C60 (a.len + 1) keep60 Tryd.f60 [.bool] 0) (n + 1) (S60_0 a b ((a.len : Nat) : Int)) = _
      rw [f60_round0, dnlt (Nat.lt_irrefl _)]; rfl
    · cases (List.range a.len).all fun j => deq s4 (a.fld j) (b.fld j) <;> rfl
  · have c1 : ((a.len : Int) != (b.len : Int)) = true := by simp; omega
    have c2 : (a.len == b.len) = false := by simp [hlen]
    rw [c1, cond_true, c2]; rfl


/-! laws.eqKind -/
abbrev C41 : FuncId → Option Sig := tabC [(58, eqSig (.sl s1)), (59, eqSig (.sl s2)), (60, eqSig (.sl s4))]
theorem hC41 : ∀ g sg, C41 g = some sg → ConOk E Tryd.prog g sg := (tabC_cons con58 (tabC_cons con59 (tabC_cons con60 tabC_nil)))
abbrev keep41 : Nat → List Nat := fun _ => []
theorem f41_start (K : Nat) (a : Dat) (b : Dat) : evBody T C41 noL K keep41 Tryd.f41 [s5, s5] [.bool] [a, b] =
      (bif (!(((a.fld 0).str).toList == ((b.fld 0).str).toList)) then some [(Dat.b false)] else (bif ((a.fld 1).int != (b.fld 1).int) then some [(Dat.b false)] else (bif (fit M (.sl s1) (a.fld 2) && fit M (.sl s1) (b.fld 2)) then (bif (!(deq (.sl s1) (a.fld 2) (b.fld 2))) then some [(Dat.b false)] else (bif (fit M (.sl s2) (a.fld 3) && fit M (.sl s2) (b.fld 3)) then (bif (!(deq (.sl s2) (a.fld 3) (b.fld 3))) then some [(Dat.b false)] else (bif (fit M (.sl s4) (a.fld 4) && fit M (.sl s4) (b.fld 4)) then (bif (!(deq (.sl s4) (a.fld 4) (b.fld 4))) then some [(Dat.b false)] else some [(Dat.b true)]) else none)) else none)) else none))) := by kernel_rfl
theorem con41 : ConOk E Tryd.prog 41 (eqSig s5) := con hM hD hT hC41 keep41 Tryd.func41 (by kernel_rfl) (by kernel_rfl) fun ds hl hp => by
  obtain ⟨a, b, rfl⟩ := ds_two hl
  obtain ⟨ha, hb⟩ := both (show (fit M s5 a && fit M s5 b) = true from hp)
  refine ⟨0, ?_⟩
  have h2 : (fit M (.sl s1) (a.fld 2) && fit M (.sl s1) (b.fld 2)) = true := and_both (fit_fld ha 2 rfl) (fit_fld hb 2 rfl)
  have h3 : (fit M (.sl s2) (a.fld 3) && fit M (.sl s2) (b.fld 3)) = true := and_both (fit_fld ha 3 rfl) (fit_fld hb 3 rfl)
  have h4 : (fit M (.sl s4) (a.fld 4) && fit M (.sl s4) (b.fld 4)) = true := and_both (fit_fld ha 4 rfl) (fit_fld hb 4 rfl)
  rw [f41_start]
  simp only [h2, h3, h4, cond_true]
  show _ = some [Dat.b (((a.fld 0).str.toList == (b.fld 0).str.toList) && (((a.fld 1).int == (b.fld 1).int) && (deq (.sl s1) (a.fld 2) (b.fld 2) && (deq (.sl s2) (a.fld 3) (b.fld 3) && (deq (.sl s4) (a.fld 4) (b.fld 4) && true)))))]
  exact (and_step (and_step (and_step (and_step (and_step rfl)))))


/-! laws.eqKindS -/
abbrev C23 : FuncId → Option Sig := tabC [(41, eqSig s5)]
theorem hC23 : ∀ g sg, C23 g = some sg → ConOk E Tryd.prog g sg := (tabC_cons con41 tabC_nil)
abbrev keep23 : Nat → List Nat | 0 => [0, 1, 4, 5] | _ => []
def S23_0 (x0 : Dat) (x1 : Dat) (x5 : Int) : St := ⟨[.ro s5 x0, .ro s5 x1, .u, .u, .bool false, .int .i64 x5] ++ us 21, []⟩
theorem f23_round0 (K n : Nat) (x0 : Dat) (x1 : Dat) (x5 : Int) :
    loopE T C23 K keep23 Tryd.f23 0 0 (behind T C23 K keep23 Tryd.f23 [.bool] 0) (n + 1) (S23_0 x0 x1 x5) =
      (bif decide (x5 < (x0.len : Int)) then (bif (decide (0 ≤ x5) && decide (x5 < (x0.len : Int))) then (bif (decide (0 ≤ x5) && decide (x5 < (x1.len : Int))) then (bif (fit M s5 (x0.fld x5.toNat) && fit M s5 (x1.fld x5.toNat)) then (bif (!(deq s5 (x0.fld x5.toNat) (x1.fld x5.toNat))) then some [(Dat.b false)] else loopE T C23 K keep23 Tryd.f23 0 0 (behind T C23 K keep23 Tryd.f23 [.bool] 0) n (S23_0 x0 x1 (IntKind.i64.wrap (x5 + (1 : Int))))) else none) else none) else none) else some [(Dat.b true)]) := by kernel_rfl
theorem f23_start (K : Nat) (a : Dat) (b : Dat) : evBody T C23 noL K keep23 Tryd.f23 [(.sl s5), (.sl s5)] [.bool] [a, b] =
      (bif ((a.len : Int) != (b.len : Int)) then some [(Dat.b false)] else loopE T C23 K keep23 Tryd.f23 0 0 (behind T C23 K keep23 Tryd.f23 [.bool] 0) K (S23_0 a b (0 : Int))) := by kernel_rfl
theorem con23 : ConOk E Tryd.prog 23 (eqSig (.sl s5)) := con hM hD hT hC23 keep23 Tryd.func23 (by kernel_rfl) (by kernel_rfl) fun ds hl hp => by
  obtain ⟨a, b, rfl⟩ := ds_two hl
  obtain ⟨ha, hb⟩ := both (show (fit M (.sl s5) a && fit M (.sl s5) b) = true from hp)
  obtain ⟨hn, he⟩ := fit_sl ha
  obtain ⟨hn2, he2⟩ := fit_sl hb
  refine ⟨a.len + 1, ?_⟩
  rw [f23_start]
  show _ = some [Dat.b (deq (.sl s5) a b)]
  rw [deq_sl]
  by_cases hlen : a.len = b.len
  · have c1 : ((a.len : Int) != (b.len : Int)) = false := by simp [hlen]
    have c2 : (a.len == b.len) = true := by simp [hlen]
    rw [c1, cond_false, c2, Bool.true_and]
    refine (all_loop (E := fun n j => loopE T C23 (a.len + 1) keep23 Tryd.f23 0 0 (behind T C23 (a.len + 1) keep23 Tryd.f23 [.bool] 0) n (S23_0 a b ((j : Nat) : Int))) (N := a.len) (p := fun j => deq s5 (a.fld j) (b.fld j)) (kT := some [.b true]) (kF := some [.b false]) (fun n j hj => ?_) (fun n => ?_)).trans ?_
    · have hj2 : j < b.len := by omega
      have f1 := he j hj
      have f2 := he2 j hj2
      show loopE T C23 (a.len + 1) keep23 Tryd.f23 0 0 (behind T C23 (a.len + 1) keep23 Tryd.f23 [.bool] 0) (n + 1) (S23_0 a b ((j : Nat) : Int)) = _
      rw [f23_round0]
      simp only [dlt hj, dge, dlt hj2, Int.toNat_natCast, f1, f2, Bool.and_self, cond_true, wrap_succ hj hn]
      cases deq s5 (a.fld j) (b.fld j) <;> rfl
    · show loopE T C23 (a.len + 1) keep23 Tryd.f23 0 0 (behind T C23 (a.len + 1) keep23 Tryd.f23 [.bool] 0) (n + 1) (S23_0 a b ((a.len : Nat) : Int)) = _
      rw [f23_round0, dnlt (Nat.lt_irrefl _)]; rfl
    · cases (List.range a.len).all fun j => deq s5 (a.fld j) (b.fld j) <;> rfl
  · have c1 : ((a.len : Int) != (b.len : Int)) = true := by simp; omega
    have c2 : (a.len == b.len) = false := by simp [hlen]
    rw [c1, cond_true, c2]; rfl


/-! laws.eqProg -/
abbrev C10 : FuncId → Option Sig := tabC [(23, eqSig (.sl s5))]
theorem hC10 : ∀ g sg, C10 g = some sg → ConOk E Tryd.prog g sg := (tabC_cons con23 tabC_nil)
abbrev keep10 : Nat → List Nat := fun _ => []
theorem f10_start (K : Nat) (a : Dat) (b : Dat) : evBody T C10 noL K keep10 Tryd.f10 [s6, s6] [.bool] [a, b] =
      (bif (fit M (.sl s5) (a.fld 0) && fit M (.sl s5) (b.fld 0)) then (bif (!(deq (.sl s5) (a.fld 0) (b.fld 0))) then some [(Dat.b false)] else some [(Dat.b true)]) else none) := by kernel_rfl
theorem con10 : ConOk E Tryd.prog 10 (eqSig s6) := con hM hD hT hC10 keep10 Tryd.func10 (by kernel_rfl) (by kernel_rfl) fun ds hl hp => by
  obtain ⟨a, b, rfl⟩ := ds_two hl
  obtain ⟨ha, hb⟩ := both (show (fit M s6 a && fit M s6 b) = true from hp)
  refine ⟨0, ?_⟩
  have h0 : (fit M (.sl s5) (a.fld 0) && fit M (.sl s5) (b.fld 0)) = true := and_both (fit_fld ha 0 rfl) (fit_fld hb 0 rfl)
  rw [f10_start]
  simp only [h0, cond_true]
  show _ = some [Dat.b (deq (.sl s5) (a.fld 0) (b.fld 0) && true)]
  exact (and_step rfl)


/-! laws.eqVal -/
abbrev C78 : FuncId → Option Sig := tabC []
theorem hC78 : ∀ g sg, C78 g = some sg → ConOk E Tryd.prog g sg := tabC_nil
abbrev keep78 : Nat → List Nat := fun _ => []
theorem f78_start (K : Nat) (a : Dat) (b : Dat) : evBody T C78 noL K keep78 Tryd.f78 [s7, s7] [.bool] [a, b] =
      (bif (!((a.fld 0).bool == (b.fld 0).bool)) then some [(Dat.b false)] else (bif ((a.fld 1).int != (b.fld 1).int) then some [(Dat.b false)] else some [(Dat.b true)])) := by kernel_rfl
theorem con78 : ConOk E Tryd.prog 78 (eqSig s7) := con hM hD hT hC78 keep78 Tryd.func78 (by kernel_rfl) (by kernel_rfl) fun ds hl hp => by
  obtain ⟨a, b, rfl⟩ := ds_two hl
  obtain ⟨ha, hb⟩ := both (show (fit M s7 a && fit M s7 b) = true from hp)
  refine ⟨0, ?_⟩
  rw [f78_start]
  show _ = some [Dat.b (((a.fld 0).bool == (b.fld 0).bool) && (((a.fld 1).int == (b.fld 1).int) && true))]
  exact (and_step (and_step rfl))


/-! laws.eqValS -/
abbrev C61 : FuncId → Option Sig := tabC [(78, eqSig s7)]
theorem hC61 : ∀ g sg, C61 g = some sg → ConOk E Tryd.prog g sg := (tabC_cons con78 tabC_nil)
abbrev keep61 : Nat → List Nat | 0 => [0, 1, 4, 5] | _ => []
def S61_0 (x0 : Dat) (x1 : Dat) (x5 : Int) : St := ⟨[.ro s7 x0, .ro s7 x1, .u, .u, .bool false, .int .i64 x5] ++ us 21, []⟩
theorem f61_round0 (K n : Nat) (x0 : Dat) (x1 : Dat) (x5 : Int) :
    loopE T C61 K keep61 Tryd.f61 0 0 (behind T C61 K keep61 Tryd.f61 [.bool] 0) (n + 1) (S61_0 x0 x1 x5) =
      (bif decide (x5 < (x0.len : Int)) then (bif (decide (0 ≤ x5) && decide (x5 < (x0.len : Int))) then (bif (decide (0 ≤ x5) && decide (x5 < (x1.len : Int))) then (bif (fit M s7 (x0.fld x5.toNat) && fit M s7 (x1.fld x5.toNat)) then (bif (!(deq s7 (x0.fld x5.toNat) (x1.fld x5.toNat))) then some [(Dat.b false)] else loopE T C61 K keep61 Tryd.f61 0 0 (behind T C61 K keep61 Tryd.f61 [.bool] 0) n (S61_0 x0 x1 (IntKind.i64.wrap (x5 + (1 : Int))))) else none) else none) else none) else some [(Dat.b true)]) := by kernel_rfl
theorem f61_start (K : Nat) (a : Dat) (b : Dat) : evBody T C61 noL K keep61 Tryd.f61 [(.sl s7), (.sl s7)] [.bool] [a, b] =
      (bif ((a.len : Int) != (b.len : Int)) then some [(Dat.b false)] else loopE T C61 K keep61 Tryd.f61 0 0 (behind T C61 K keep61 Tryd.f61 [.bool] 0) K (S61_0 a b (0 : Int))) := by kernel_rfl
theorem con61 : ConOk E Tryd.prog 61 (eqSig (.sl s7)) := con hM hD hT hC61 keep61 Tryd.func61 (by kernel_rfl) (by kernel_rfl) fun ds hl hp => by
  obtain ⟨a, b, rfl⟩ := ds_two hl
  obtain ⟨ha, hb⟩ := both (show (fit M (.sl s7) a && fit M (.sl s7) b) = true from hp)
  obtain ⟨hn, he⟩ := fit_sl ha
  obtain ⟨hn2, he2⟩ := fit_sl hb
  refine ⟨a.len + 1, ?_⟩
  rw [f61_start]
  show _ = some [Dat.b (deq (.sl s7) a b)]
  rw [deq_sl]
  by_cases hlen : a.len = b.len
  · have c1 : ((a.len : Int) != (b.len : Int)) = false := by simp [hlen]
    have c2 : (a.len == b.len) = true := by simp [hlen]
    rw [c1, cond_false, c2, Bool.true_and]
    refine (all_loop (E := fun n j => loopE T C61 (a.len + 1) keep61 Tryd.f61 0 0 (behind T C61 (a.len + 1) keep61 Tryd.f61 [.bool] 0) n (S61_0 a b ((j : Nat) : Int))) (N := a.len) (p := fun j => deq s7 (a.fld j) (b.fld j)) (kT := some [.b true]) (kF := some [.b false]) (fun n j hj => ?_) (fun n => ?_)).trans ?_
    · have hj2 : j < b.len := by omega
      have f1 := he j hj
      have f2 := he2 j hj2
      show loopE T C61 (a.len + 1) keep61 Tryd.f61 0 0 (behind T C61 (a.len + 1) keep61 Tryd.f61 [.bool] 0) (n + 1) (S61_0 a b ((j : Nat) : Int)) = _
      rw [f61_round0]
      simp only [dlt hj, dge, dlt hj2, Int.toNat_natCast, f1, f2, Bool.and_self, cond_true, wrap_succ hj hn]
      cases deq s7 (a.fld j) (b.fld j) <;> rfl
    · show loopE T C61 (a.len + 1) keep61 Tryd.f61 0 0 (behind T C61 (a.len + 1) keep61 Tryd.f61 [.bool] 0) (n + 1) (S61_0 a b ((a.len : Nat) : Int)) = _
      rw [f61_round0, dnlt (Nat.lt_irrefl _)]; rfl
    · cases (List.range a.len).all fun j => deq s7 (a.fld j) (b.fld j) <;> rfl
  · have c1 : ((a.len : Int) != (b.len : Int)) = true := by simp; omega
    have c2 : (a.len == b.len) = false := by simp [hlen]
    rw [c1, cond_true, c2]; rfl


/-! laws.eqFrame -/
abbrev C42 : FuncId → Option Sig := tabC [(61, eqSig (.sl s7))]
theorem hC42 : ∀ g sg, C42 g = some sg → ConOk E Tryd.prog g sg := (tabC_cons con61 tabC_nil)
abbrev keep42 : Nat → List Nat := fun _ => []
theorem f42_start (K : Nat) (a : Dat) (b : Dat) : evBody T C42 noL K keep42 Tryd.f42 [s8, s8] [.bool] [a, b] =
      (bif ((a.fld 0).int != (b.fld 0).int) then some [(Dat.b false)] else (bif ((a.fld 1).int != (b.fld 1).int) then some [(Dat.b false)] else (bif ((a.fld 2).int != (b.fld 2).int) then some [(Dat.b false)] else (bif (fit M (.sl s7) (a.fld 3) && fit M (.sl s7) (b.fld 3)) then (bif (!(deq (.sl s7) (a.fld 3) (b.fld 3))) then some [(Dat.b false)] else (bif (fit M (.sl s7) (a.fld 4) && fit M (.sl s7) (b.fld 4)) then (bif (!(deq (.sl s7) (a.fld 4) (b.fld 4))) then some [(Dat.b false)] else some [(Dat.b true)]) else none)) else none)))) := by kernel_rfl
theorem con42 : ConOk E Tryd.prog 42 (eqSig s8) := con hM hD hT hC42 keep42 Tryd.func42 (by kernel_rfl) (by kernel_rfl) fun ds hl hp => by
  obtain ⟨a, b, rfl⟩ := ds_two hl
  obtain ⟨ha, hb⟩ := both (show (fit M s8 a && fit M s8 b) = true from hp)
  refine ⟨0, ?_⟩
  have h3 : (fit M (.sl s7) (a.fld 3) && fit M (.sl s7) (b.fld 3)) = true := and_both (fit_fld ha 3 rfl) (fit_fld hb 3 rfl)
  have h4 : (fit M (.sl s7) (a.fld 4) && fit M (.sl s7) (b.fld 4)) = true := and_both (fit_fld ha 4 rfl) (fit_fld hb 4 rfl)
  rw [f42_start]
  simp only [h3, h4, cond_true]
  show _ = some [Dat.b (((a.fld 0).int == (b.fld 0).int) && (((a.fld 1).int == (b.fld 1).int) && (((a.fld 2).int == (b.fld 2).int) && (deq (.sl s7) (a.fld 3) (b.fld 3) && (deq (.sl s7) (a.fld 4) (b.fld 4) && true)))))]
  exact (and_step (and_step (and_step (and_step (and_step rfl)))))


/-! laws.eqFrameS -/
abbrev C24 : FuncId → Option Sig := tabC [(42, eqSig s8)]
theorem hC24 : ∀ g sg, C24 g = some sg → ConOk E Tryd.prog g sg := (tabC_cons con42 tabC_nil)
abbrev keep24 : Nat → List Nat | 0 => [0, 1, 4, 5] | _ => []
def S24_0 (x0 : Dat) (x1 : Dat) (x5 : Int) : St := ⟨[.ro s8 x0, .ro s8 x1, .u, .u, .bool false, .int .i64 x5] ++ us 21, []⟩
theorem f24_round0 (K n : Nat) (x0 : Dat) (x1 : Dat) (x5 : Int) :
    loopE T C24 K keep24 Tryd.f24 0 0 (behind T C24 K keep24 Tryd.f24 [.bool] 0) (n + 1) (S24_0 x0 x1 x5) =
      (bif decide (x5 < (x0.len : Int)) then (bif (decide (0 ≤ x5) && decide (x5 < (x0.len : Int))) then (bif (decide (0 ≤ x5) && decide (x5 < (x1.len : Int))) then (bif (fit M s8 (x0.fld x5.toNat) && fit M s8 (x1.fld x5.toNat)) then (bif (!(deq s8 (x0.fld x5.toNat) (x1.fld x5.toNat))) then some [(Dat.b false)] else loopE T C24 K keep24 Tryd.f24 0 0 (behind T C24 K keep24 Tryd.f24 [.bool] 0) n (S24_0 x0 x1 (IntKind.i64.wrap (x5 + (1 : Int))))) else none) else none) else none) else some [(Dat.b true)]) := by kernel_rfl
theorem f24_start (K : Nat) (a : Dat) (b : Dat) : evBody T C24 noL K keep24 Tryd.f24 [(.sl s8), (.sl s8)] [.bool] [a, b] =
      (bif ((a.len : Int) != (b.len : Int)) then some [(Dat.b false)] else loopE T C24 K keep24 Tryd.f24 0 0 (behind T C24 K keep24 Tryd.f24 [.bool] 0) K (S24_0 a b (0 : Int))) := by kernel_rfl
theorem con24 : ConOk E Tryd.prog 24 (eqSig (.sl s8)) := con hM hD hT hC24 keep24 Tryd.func24 (by kernel_rfl) (by kernel_rfl) fun ds hl hp => by
  obtain ⟨a, b, rfl⟩ := ds_two hl
  obtain ⟨ha, hb⟩ := both (show (fit M (.sl s8) a && fit M (.sl s8) b) = true from hp)
  obtain ⟨hn, he⟩ := fit_sl ha
  obtain ⟨hn2, he2⟩ := fit_sl hb
  refine ⟨a.len + 1, ?_⟩
  rw [f24_start]
  show _ = some [Dat.b (deq (.sl s8) a b)]
  rw [deq_sl]
  by_cases hlen : a.len = b.len
  · have c1 : ((a.len : Int) != (b.len : Int)) = false := by simp [hlen]
    have c2 : (a.len == b.len) = true := by simp [hlen]
    rw [c1, cond_false, c2, Bool.true_and]
    refine (all_loop (E := fun n j => loopE T C24 (a.len + 1) keep24 Tryd.f24 0 0 (behind T C24 (a.len + 1) keep24 Tryd.f24 [.bool] 0) n (S24_0 a b ((j : Nat) : Int))) (N := a.len) (p := fun j => deq s8 (a.fld j) (b.fld j)) (kT := some [.b true]) (kF := some [.b false]) (fun n j hj => ?_) (fun n => ?_)).trans ?_
    · have hj2 : j < b.len := by omega
      have f1 := he j hj
      have f2 := he2 j hj2
      show loopE T C24 (a.len + 1) keep24 Tryd.f24 0 0 (behind T C24 (a.len + 1) keep24 Tryd.f24 [.bool] 0) (n + 1) (S24_0 a b ((j : Nat) : Int)) = _
      rw [f24_round0]
      simp only [dlt hj, dge, dlt hj2, Int.toNat_natCast, f1, f2, Bool.and_self, cond_true, wrap_succ hj hn]
      cases deq s8 (a.fld j) (b.fld j) <;> rfl
    · show loopE T C24 (a.len + 1) keep24 Tryd.f24 0 0 (behind T C24 (a.len + 1) keep24 Tryd.f24 [.bool] 0) (n + 1) (S24_0 a b ((a.len : Nat) : Int)) = _
      rw [f24_round0, dnlt (Nat.lt_irrefl _)]; rfl
    · cases (List.range a.len).all fun j => deq s8 (a.fld j) (b.fld j) <;> rfl
  · have c1 : ((a.len : Int) != (b.len : Int)) = true := by simp; omega
    have c2 : (a.len == b.len) = false := by simp [hlen]
    rw [c1, cond_true, c2]; rfl


/-! laws.eqThread -/
abbrev C11 : FuncId → Option Sig := tabC [(24, eqSig (.sl s8))]
theorem hC11 : ∀ g sg, C11 g = some sg → ConOk E Tryd.prog g sg := (tabC_cons con24 tabC_nil)
abbrev keep11 : Nat → List Nat := fun _ => []
theorem f11_start (K : Nat) (a : Dat) (b : Dat) : evBody T C11 noL K keep11 Tryd.f11 [s9, s9] [.bool] [a, b] =
      (bif ((a.fld 0).int != (b.fld 0).int) then some [(Dat.b false)] else (bif (fit M (.sl s8) (a.fld 1) && fit M (.sl s8) (b.fld 1)) then (bif (!(deq (.sl s8) (a.fld 1) (b.fld 1))) then some [(Dat.b false)] else (bif ((a.fld 2).int != (b.fld 2).int) then some [(Dat.b false)] else (bif ((a.fld 3).int != (b.fld 3).int) then some [(Dat.b false)] else some [(Dat.b true)]))) else none)) := by kernel_rfl
theorem con11 : ConOk E Tryd.prog 11 (eqSig s9) := con hM hD hT hC11 keep11 Tryd.func11 (by kernel_rfl) (by kernel_rfl) fun ds hl hp => by
  obtain ⟨a, b, rfl⟩ := ds_two hl
  obtain ⟨ha, hb⟩ := both (show (fit M s9 a && fit M s9 b) = true from hp)
  refine ⟨0, ?_⟩
  have h1 : (fit M (.sl s8) (a.fld 1) && fit M (.sl s8) (b.fld 1)) = true := and_both (fit_fld ha 1 rfl) (fit_fld hb 1 rfl)
  rw [f11_start]
  simp only [h1, cond_true]
  show _ = some [Dat.b (((a.fld 0).int == (b.fld 0).int) && (deq (.sl s8) (a.fld 1) (b.fld 1) && (((a.fld 2).int == (b.fld 2).int) && (((a.fld 3).int == (b.fld 3).int) && true))))]
  exact (and_step (and_step (and_step (and_step rfl))))


/-! laws.FnExactThreadText -/
abbrev C3 : FuncId → Option Sig := tabC [(4, szSig s6), (5, szSig s9), (7, toSig s6 s6), (8, toSig s9 s9), (6, ⟨[s6, s9], [.str], fun l => fit 1048576 s6 (l.getD 0 (.n [])) && fit 1048576 s9 (l.getD 1 (.n [])), fun l => [.s (thrS (l.getD 0 (.n [])) (l.getD 1 (.n [])))]⟩), (9, ⟨[s6, s9], [.str], fun l => fit 1048576 s6 (l.getD 0 (.n [])) && fit 1048576 s9 (l.getD 1 (.n [])), fun l => [.s (thrS (l.getD 0 (.n [])) (l.getD 1 (.n [])))]⟩), (10, eqSig s6), (11, eqSig s9)]
theorem hC3 : ∀ g sg, C3 g = some sg → ConOk E Tryd.prog g sg := (tabC_cons con4 (tabC_cons con5 (tabC_cons con7 (tabC_cons con8 (tabC_cons con6 (tabC_cons con9 (tabC_cons con10 (tabC_cons con11 tabC_nil))))))))
abbrev keep3 : Nat → List Nat := fun _ => []
theorem f3_start (K : Nat) (a : Dat) (b : Dat) : evBody T C3 noL K keep3 Tryd.f3 [s6, s9] [.bool] [a, b] =
      (bif (fit M s6 a && (decide (0 ≤ (1048576 : Int)) && decide ((1048576 : Int) ≤ 1048576))) then (bif decide ((szR s6 a (1048576 : Int)) < (0 : Int)) then some [(Dat.b true)] else (bif (fit M s9 b && (decide (0 ≤ (szR s6 a (1048576 : Int))) && decide ((szR s6 a (1048576 : Int)) ≤ 1048576))) then (bif decide ((szR s9 b (szR s6 a (1048576 : Int))) < (0 : Int)) then some [(Dat.b true)] else (bif fit 1048576 s6 a then (bif fit 1048576 s9 b then (bif (fit 1048576 s6 (can s6 a) && fit 1048576 s9 (can s9 b)) then (bif fit 1048576 s6 a then (bif fit 1048576 s9 b then (bif (fit 1048576 s6 (can s6 a) && fit 1048576 s9 (can s9 b)) then (bif (!((thrS (can s6 a) (can s9 b)).toList == (thrS (can s6 a) (can s9 b)).toList)) then some [(Dat.b false)] else (bif fit 1048576 s6 a then (bif (fit M s6 (can s6 a) && fit M s6 (can s6 a)) then (bif (!(deq s6 (can s6 a) (can s6 a))) then some [(Dat.b false)] else (bif fit 1048576 s9 b then (bif (fit M s9 (can s9 b) && fit M s9 (can s9 b)) then (bif (!(deq s9 (can s9 b) (can s9 b))) then some [(Dat.b false)] else some [(Dat.b true)]) else none) else none)) else none) else none)) else none) else none) else none) else none) else none) else none)) else none)) else none) := by kernel_rfl
theorem con3 : ConOk E Tryd.prog 3 (lawSig [s6, s9]) := con hM hD hT hC3 keep3 Tryd.func3 (by kernel_rfl) (by kernel_rfl) fun ds hl hp => by
  obtain ⟨a, b, rfl⟩ := ds_two hl
  obtain ⟨ha, hb0⟩ := both (show (fit M s6 a && (fit M s9 b && true)) = true from hp)
  obtain ⟨hb, _⟩ := both hb0
  refine ⟨0, ?_⟩
  show _ = some [Dat.b true]
  rw [f3_start, sz_arg ha (by omega) (by omega), cond_true]
  by_cases n1 : szR s6 a 1048576 < 0
  · rw [decide_eq_true n1]; rfl
  · have q1 := sz_ok n1
    rw [decide_eq_false n1, cond_false, sz_arg hb q1.2.1 q1.2.2, cond_true]
    by_cases n2 : szR s9 b (szR s6 a 1048576) < 0
    · rw [decide_eq_true n2]; rfl
    · rw [decide_eq_false n2, cond_false]
      have hf := fit_of_sz ha n1 (by omega)
      have hg := fit_of_sz hb n2 q1.2.2
      have hf2 : fit 1048576 s6 (can s6 a) = true := by rw [fit_can]; exact hf
      have hg2 : fit 1048576 s9 (can s9 b) = true := by rw [fit_can]; exact hg
      simp only [hf, hg, hf2, hg2, fitM_can ha, fitM_can hb, deq_refl, Bool.and_self, cond_true, beq_self_eq_true, Bool.not_true, cond_false]


end Go.F1
