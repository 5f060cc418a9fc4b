/- Contracts of functions, by program. -/
import Derived.Test.YthdgcninegkaladGreatDoorEvY
import Derived.Test.YthdgcninegkaladGreatDoorFVal
import Derived.Test.YthdgcninegkaladGreatDoorFL
import Derived.Test.YthdgcninegkaladGreatDoorRows
namespace Go.F1
open Go Go.Ev Go.Proofs
set_option maxRecDepth 100000
abbrev tabName : String := Go.Proofs.YthdgcninegkaladGreatDoor.Rows.fnExactNodeTextRow.named.getD 0 default
theorem tabG : Tryz.prog.globalNamed tabName = some 0 := by kernel_rfl
abbrev E : Env := tabEnv Tryz.prog tabName .u64 Lib.pow10Tab 0 tabG
theorem hM : Tryz.prog.follows .mixedOrders = true := by kernel_rfl
theorem hD : 16 ≤ Tryz.prog.depth := of_decide_eq_true (by kernel_rfl)
abbrev tInt : Ty := .int .i64
abbrev s0 : Ty := (.st [tInt, tInt, .bool, (.int .u8)])
abbrev s1 : Ty := (.st [.bool, tInt])
abbrev s2 : Ty := (.st [tInt, tInt, tInt, .bool, (.sl s1), (.sl s1)])
abbrev s3 : Ty := (.st [tInt, tInt, tInt, (.sl s1)])
abbrev s4 : Ty := (.st [tInt, tInt])
abbrev s5 : Ty := (.st [tInt, tInt, (.sl tInt), (.sl s4)])
abbrev s6 : Ty := (.st [tInt, tInt, tInt, (.sl s1), (.sl s1)])
abbrev s7 : Ty := (.st [tInt, (.sl s6), tInt, tInt])
abbrev s8 : Ty := (.st [tInt, tInt, tInt])
abbrev s9 : Ty := (.st [s7, tInt, tInt, (.sl s8)])
abbrev s10 : Ty := (.st [tInt, (.sl s4), (.sl tInt)])
abbrev s11 : Ty := (.st [tInt, s1])
abbrev s12 : Ty := (.st [tInt, tInt, tInt, tInt, tInt, (.sl s11), (.sl s4)])
abbrev s13 : Ty := (.st [tInt, (.sl s12)])
abbrev s14 : Ty := (.st [s13, tInt])
abbrev s15 : Ty := (.st [tInt, (.sl s2), (.sl s3), (.sl s4), (.sl s5), (.sl s4), (.sl s9), (.sl s10), (.sl tInt), (.sl s14)])
def tab : TyTab := [none, none, none, some tInt, some (.bool), some (.int .u8), none, none, none, some (.str)] ++ List.replicate 12 none ++ [some (.sl s2), some (.sl s3), some (.sl s4), some (.sl s5), some (.sl s4), some (.sl s9), some (.sl s10), some (.sl tInt), some (.sl s14), none, some s15, none, none, some (.sl s2), some (.sl s3), some (.sl s4), some (.sl s5), some (.sl s4), some (.sl s9), some (.sl s10), some (.sl s14), none, some s15] ++ List.replicate 32 none ++ [some (.sl s1), none, some s2, none, none, some s3, none, none, some s5, none, some (.sl s6), none, some s7, some (.sl s8), none, some s9, none, none, some s10, none, some (.sl s12), none, some s13, none, some s14, some (.sl (.int .u8)), some (.sl s1), none, some s2, none, none, some s3, none, none, some s4, none, some s4, none, some s5, none, none, some s4, none, some s4, some (.sl s6), none, some s7, some (.sl s8), none, some s9, none, none, some s10, none, some (.sl s12), none, some s13, none, some s14] ++ List.replicate 25 none ++ [some s1, none, some s1, none, none, some s8, none, some s8] ++ List.replicate 13 none ++ [some s6, none, some (.sl s11), none, some s12, none, some s6, none, some (.sl s11), none, some s12] ++ List.replicate 16 none ++ [some s11, none, none, some s11] ++ List.replicate 19 none
abbrev T : TypeId → Option Ty := TyTab.get tab
theorem hT : ∀ t ty, T t = some ty → TyOk Tryz.prog t ty := tab_ok (by kernel_rfl)
/-- How a node is shown. -/
def nodeS (n : Dat) : ByteArray := (ByteArray.mk #[99, 111, 112, 105, 101, 115, 32] ++ itoaS (((n.fld 1).len : Nat) : Int) ++ ByteArray.mk #[32, 109, 97, 115, 116, 101, 114, 115, 32] ++ itoaS (((n.fld 2).len : Nat) : Int) ++ ByteArray.mk #[32, 116, 97, 115, 107, 115, 32] ++ itoaS (((n.fld 6).len : Nat) : Int) ++ ByteArray.mk #[32, 115, 101, 110, 116, 32] ++ itoaS (((n.fld 8).len : Nat) : Int))

/-! laws.szValS -/
abbrev C61 : FuncId → Option Sig := tabC []
theorem hC61 : ∀ g sg, C61 g = some sg → ConOk E Tryz.prog g sg := tabC_nil
abbrev keep61 : Nat → List Nat := fun _ => []
theorem f61_start (K : Nat) (a : Dat) (l : Dat) : evBody T C61 noL K keep61 Tryz.f61 [(.sl s1), tInt] [tInt] [a, l] =
      (bif decide ((IntKind.i64.wrap (l.int - (a.len : Int))) < (0 : Int)) then some [(Dat.i (-1 : Int))] else some [(Dat.i (IntKind.i64.wrap (l.int - (a.len : Int))))]) := by kernel_rfl
theorem con61 : ConOk E Tryz.prog 61 (szSig (.sl s1)) := con hM hD hT hC61 keep61 Tryz.func61 (by kernel_rfl) (by kernel_rfl) fun ds hl hp => by
  obtain ⟨a, l, rfl⟩ := ds_two hl
  obtain ⟨ha, h0, h1⟩ := sz_pre (show (fit M (.sl s1) a && (decide (0 ≤ l.int) && decide (l.int ≤ 1048576))) = true from hp)
  obtain ⟨hn, he⟩ := fit_sl ha
  refine ⟨0, ?_⟩
  show _ = some [Dat.i (szr (wt (.sl s1) a) l.int)]
  rw [wt_sl, f61_start, sum_zero (fun i => show wt s1 (a.fld i) = 0 from rfl)]
  exact sz_len hn h0 h1 fun l' p0 _ => by rw [szr_zero p0]


/-! laws.szCopy -/
abbrev C38 : FuncId → Option Sig := tabC [(61, szSig (.sl s1))]
theorem hC38 : ∀ g sg, C38 g = some sg → ConOk E Tryz.prog g sg := (tabC_cons con61 tabC_nil)
abbrev keep38 : Nat → List Nat := fun _ => []
theorem f38_start (K : Nat) (a : Dat) (l : Dat) : evBody T C38 noL K keep38 Tryz.f38 [s2, tInt] [tInt] [a, l] =
      (bif (fit M (.sl s1) (a.fld 4) && (decide (0 ≤ l.int) && decide (l.int ≤ 1048576))) then (bif decide ((szR (.sl s1) (a.fld 4) l.int) < (0 : Int)) then some [(Dat.i (-1 : Int))] else (bif (fit M (.sl s1) (a.fld 5) && (decide (0 ≤ (szR (.sl s1) (a.fld 4) l.int)) && decide ((szR (.sl s1) (a.fld 4) l.int) ≤ 1048576))) then (bif decide ((szR (.sl s1) (a.fld 5) (szR (.sl s1) (a.fld 4) l.int)) < (0 : Int)) then some [(Dat.i (-1 : Int))] else some [(Dat.i (szR (.sl s1) (a.fld 5) (szR (.sl s1) (a.fld 4) l.int)))]) else none)) else none) := by kernel_rfl
theorem con38 : ConOk E Tryz.prog 38 (szSig s2) := con hM hD hT hC38 keep38 Tryz.func38 (by kernel_rfl) (by kernel_rfl) fun ds hl hp => by
  obtain ⟨a, l, rfl⟩ := ds_two hl
  obtain ⟨ha, h0, h1⟩ := sz_pre (show (fit M s2 a && (decide (0 ≤ l.int) && decide (l.int ≤ 1048576))) = true from hp)
  refine ⟨0, ?_⟩
  have k5 : fit M (.sl s1) (a.fld 5) = true := fit_fld ha 5 rfl
  have k4 : fit M (.sl s1) (a.fld 4) = true := fit_fld ha 4 rfl
  have hw : wt s2 a = (wt (.sl s1) (a.fld 4) + (wt (.sl s1) (a.fld 5) + 0)) := by
    simp only [wt_st, wts_cons, wts_nil, wt_int, wt_bool, Nat.zero_add, Nat.add_zero]
  show _ = some [Dat.i (szr (wt s2 a) l.int)]
  rw [f38_start, hw]
  exact sz_call (k := fun l0 => (bif (fit M (.sl s1) (a.fld 5) && (decide (0 ≤ l0) && decide (l0 ≤ 1048576))) then (bif decide ((szR (.sl s1) (a.fld 5) l0) < (0 : Int)) then some [(Dat.i (-1 : Int))] else some [(Dat.i (szR (.sl s1) (a.fld 5) l0))]) else none)) k4 h0 h1 (fun l0 p0 q0 => sz_call (k := fun l1 => some [(Dat.i l1)]) k5 p0 q0 (fun l1 p1 q1 => (by rw [szr_zero p1])))


/-! laws.szCopyS -/
abbrev C9 : FuncId → Option Sig := tabC [(38, szSig s2)]
theorem hC9 : ∀ g sg, C9 g = some sg → ConOk E Tryz.prog g sg := (tabC_cons con38 tabC_nil)
abbrev keep9 : Nat → List Nat | 0 => [0, 1, 4, 5] | _ => []
def S9_0 (x0 : Dat) (x1 : Int) (x5 : Int) : St := ⟨[.ro s2 x0, .int .i64 x1, .u, .u, .int .i64 (0 : Int), .int .i64 x5] ++ us 21, []⟩
theorem f9_round0 (K n : Nat) (x0 : Dat) (x1 : Int) (x5 : Int) :
    loopE T C9 K keep9 Tryz.f9 0 0 (behind T C9 K keep9 Tryz.f9 [tInt] 0) (n + 1) (S9_0 x0 x1 x5) =
      (bif decide (x5 < (x0.len : Int)) then (bif (decide (0 ≤ x5) && decide (x5 < (x0.len : Int))) then (bif (fit M s2 (x0.fld x5.toNat) && (decide (0 ≤ x1) && decide (x1 ≤ 1048576))) then (bif decide ((szR s2 (x0.fld x5.toNat) x1) < (0 : Int)) then some [(Dat.i (-1 : Int))] else loopE T C9 K keep9 Tryz.f9 0 0 (behind T C9 K keep9 Tryz.f9 [tInt] 0) n (S9_0 x0 (szR s2 (x0.fld x5.toNat) x1) (IntKind.i64.wrap (x5 + (1 : Int))))) else none) else none) else some [(Dat.i x1)]) := by kernel_rfl
theorem f9_start (K : Nat) (a : Dat) (l : Dat) : evBody T C9 noL K keep9 Tryz.f9 [(.sl s2), tInt] [tInt] [a, l] =
      (bif decide ((IntKind.i64.wrap (l.int - (a.len : Int))) < (0 : Int)) then some [(Dat.i (-1 : Int))] else loopE T C9 K keep9 Tryz.f9 0 0 (behind T C9 K keep9 Tryz.f9 [tInt] 0) K (S9_0 a (IntKind.i64.wrap (l.int - (a.len : Int))) (0 : Int))) := by kernel_rfl
theorem con9 : ConOk E Tryz.prog 9 (szSig (.sl s2)) := con hM hD hT hC9 keep9 Tryz.func9 (by kernel_rfl) (by kernel_rfl) fun ds hl hp => by
  obtain ⟨a, l, rfl⟩ := ds_two hl
  obtain ⟨ha, h0, h1⟩ := sz_pre (show (fit M (.sl s2) a && (decide (0 ≤ l.int) && decide (l.int ≤ 1048576))) = true from hp)
  obtain ⟨hn, he⟩ := fit_sl ha
  refine ⟨a.len + 1, ?_⟩
  show _ = some [Dat.i (szr (wt (.sl s2) a) l.int)]
  rw [wt_sl]
  rw [f9_start]
  refine sz_len (k := fun l' => loopE T C9 (a.len + 1) keep9 Tryz.f9 0 0 (behind T C9 (a.len + 1) keep9 Tryz.f9 [tInt] 0) (a.len + 1) (S9_0 a l' 0)) hn h0 h1 fun l' p0 p1 => ?_
  exact sz_loop (E := fun n j l => loopE T C9 (a.len + 1) keep9 Tryz.f9 0 0 (behind T C9 (a.len + 1) keep9 Tryz.f9 [tInt] 0) n (S9_0 a l (j : Int))) (N := a.len) (g := fun j => wt s2 (a.fld j)) (fun n j l hj q0 q1 => by
    have f1 := he j hj
    have e1 : decide (0 ≤ l) = true := by simpa using q0
    have e2 : decide (l ≤ 1048576) = true := by simpa using q1
    show loopE T C9 (a.len + 1) keep9 Tryz.f9 0 0 (behind T C9 (a.len + 1) keep9 Tryz.f9 [tInt] 0) (n + 1) (S9_0 a l (j : Int)) = _
    rw [f9_round0]
    simp only [dlt hj, dge, Int.toNat_natCast, f1, e1, e2, Bool.and_self, cond_true, wrap_succ hj hn]
    rfl)
    (fun n l => by
    show loopE T C9 (a.len + 1) keep9 Tryz.f9 0 0 (behind T C9 (a.len + 1) keep9 Tryz.f9 [tInt] 0) (n + 1) (S9_0 a l (a.len : Int)) = _
    rw [f9_round0, dnlt (Nat.lt_irrefl _)]; rfl) l' p0 p1


/-! laws.szMaster -/
abbrev C39 : FuncId → Option Sig := tabC [(61, szSig (.sl s1))]
theorem hC39 : ∀ g sg, C39 g = some sg → ConOk E Tryz.prog g sg := (tabC_cons con61 tabC_nil)
abbrev keep39 : Nat → List Nat := fun _ => []
theorem f39_start (K : Nat) (a : Dat) (l : Dat) : evBody T C39 noL K keep39 Tryz.f39 [s3, tInt] [tInt] [a, l] =
      (bif (fit M (.sl s1) (a.fld 3) && (decide (0 ≤ l.int) && decide (l.int ≤ 1048576))) then (bif decide ((szR (.sl s1) (a.fld 3) l.int) < (0 : Int)) then some [(Dat.i (-1 : Int))] else some [(Dat.i (szR (.sl s1) (a.fld 3) l.int))]) else none) := by kernel_rfl
theorem con39 : ConOk E Tryz.prog 39 (szSig s3) := con hM hD hT hC39 keep39 Tryz.func39 (by kernel_rfl) (by kernel_rfl) fun ds hl hp => by
  obtain ⟨a, l, rfl⟩ := ds_two hl
  obtain ⟨ha, h0, h1⟩ := sz_pre (show (fit M s3 a && (decide (0 ≤ l.int) && decide (l.int ≤ 1048576))) = true from hp)
  refine ⟨0, ?_⟩
  have k3 : fit M (.sl s1) (a.fld 3) = true := fit_fld ha 3 rfl
  have hw : wt s3 a = (wt (.sl s1) (a.fld 3) + 0) := by
    simp only [wt_st, wts_cons, wts_nil, wt_int, Nat.zero_add, Nat.add_zero]
  show _ = some [Dat.i (szr (wt s3 a) l.int)]
  rw [f39_start, hw]
  exact sz_call (k := fun l0 => some [(Dat.i l0)]) k3 h0 h1 (fun l0 p0 q0 => (by rw [szr_zero p0]))


/-! laws.szMasterS -/
abbrev C10 : FuncId → Option Sig := tabC [(39, szSig s3)]
theorem hC10 : ∀ g sg, C10 g = some sg → ConOk E Tryz.prog g sg := (tabC_cons con39 tabC_nil)
abbrev keep10 : Nat → List Nat | 0 => [0, 1, 4, 5] | _ => []
def S10_0 (x0 : Dat) (x1 : Int) (x5 : Int) : St := ⟨[.ro s3 x0, .int .i64 x1, .u, .u, .int .i64 (0 : Int), .int .i64 x5] ++ us 21, []⟩
theorem f10_round0 (K n : Nat) (x0 : Dat) (x1 : Int) (x5 : Int) :
    loopE T C10 K keep10 Tryz.f10 0 0 (behind T C10 K keep10 Tryz.f10 [tInt] 0) (n + 1) (S10_0 x0 x1 x5) =
      (bif decide (x5 < (x0.len : Int)) then (bif (decide (0 ≤ x5) && decide (x5 < (x0.len : Int))) then (bif (fit M s3 (x0.fld x5.toNat) && (decide (0 ≤ x1) && decide (x1 ≤ 1048576))) then (bif decide ((szR s3 (x0.fld x5.toNat) x1) < (0 : Int)) then some [(Dat.i (-1 : Int))] else loopE T C10 K keep10 Tryz.f10 0 0 (behind T C10 K keep10 Tryz.f10 [tInt] 0) n (S10_0 x0 (szR s3 (x0.fld x5.toNat) x1) (IntKind.i64.wrap (x5 + (1 : Int))))) else none) else none) else some [(Dat.i x1)]) := by kernel_rfl
theorem f10_start (K : Nat) (a : Dat) (l : Dat) : evBody T C10 noL K keep10 Tryz.f10 [(.sl s3), tInt] [tInt] [a, l] =
      (bif decide ((IntKind.i64.wrap (l.int - (a.len : Int))) < (0 : Int)) then some [(Dat.i (-1 : Int))] else loopE T C10 K keep10 Tryz.f10 0 0 (behind T C10 K keep10 Tryz.f10 [tInt] 0) K (S10_0 a (IntKind.i64.wrap (l.int - (a.len : Int))) (0 : Int))) := by kernel_rfl
theorem con10 : ConOk E Tryz.prog 10 (szSig (.sl s3)) := con hM hD hT hC10 keep10 Tryz.func10 (by kernel_rfl) (by kernel_rfl) fun ds hl hp => by
  obtain ⟨a, l, rfl⟩ := ds_two hl
  obtain ⟨ha, h0, h1⟩ := sz_pre (show (fit M (.sl s3) a && (decide (0 ≤ l.int) && decide (l.int ≤ 1048576))) = true from hp)
  obtain ⟨hn, he⟩ := fit_sl ha
  refine ⟨a.len + 1, ?_⟩
  show _ = some [Dat.i (szr (wt (.sl s3) a) l.int)]
  rw [wt_sl]
  rw [f10_start]
  refine sz_len (k := fun l' => loopE T C10 (a.len + 1) keep10 Tryz.f10 0 0 (behind T C10 (a.len + 1) keep10 Tryz.f10 [tInt] 0) (a.len + 1) (S10_0 a l' 0)) hn h0 h1 fun l' p0 p1 => ?_
  exact sz_loop (E := fun n j l => loopE T C10 (a.len + 1) keep10 Tryz.f10 0 0 (behind T C10 (a.len + 1) keep10 Tryz.f10 [tInt] 0) n (S10_0 a l (j : Int))) (N := a.len) (g := fun j => wt s3 (a.fld j)) (fun n j l hj q0 q1 => by
    have f1 := he j hj
    have e1 : decide (0 ≤ l) = true := by simpa using q0
    have e2 : decide (l ≤ 1048576) = true := by simpa using q1
    show loopE T C10 (a.len + 1) keep10 Tryz.f10 0 0 (behind T C10 (a.len + 1) keep10 Tryz.f10 [tInt] 0) (n + 1) (S10_0 a l (j : Int)) = _
    rw [f10_round0]
    simp only [dlt hj, dge, Int.toNat_natCast, f1, e1, e2, Bool.and_self, cond_true, wrap_succ hj hn]
    rfl)
    (fun n l => by
    show loopE T C10 (a.len + 1) keep10 Tryz.f10 0 0 (behind T C10 (a.len + 1) keep10 Tryz.f10 [tInt] 0) (n + 1) (S10_0 a l (a.len : Int)) = _
    rw [f10_round0, dnlt (Nat.lt_irrefl _)]; rfl) l' p0 p1


/-! laws.szWantS -/
abbrev C11 : FuncId → Option Sig := tabC []
theorem hC11 : ∀ g sg, C11 g = some sg → ConOk E Tryz.prog g sg := tabC_nil
abbrev keep11 : Nat → List Nat := fun _ => []
theorem f11_start (K : Nat) (a : Dat) (l : Dat) : evBody T C11 noL K keep11 Tryz.f11 [(.sl s4), tInt] [tInt] [a, l] =
      (bif decide ((IntKind.i64.wrap (l.int - (a.len : Int))) < (0 : Int)) then some [(Dat.i (-1 : Int))] else some [(Dat.i (IntKind.i64.wrap (l.int - (a.len : Int))))]) := by kernel_rfl
theorem con11 : ConOk E Tryz.prog 11 (szSig (.sl s4)) := con hM hD hT hC11 keep11 Tryz.func11 (by kernel_rfl) (by kernel_rfl) fun ds hl hp => by
  obtain ⟨a, l, rfl⟩ := ds_two hl
  obtain ⟨ha, h0, h1⟩ := sz_pre (show (fit M (.sl s4) a && (decide (0 ≤ l.int) && decide (l.int ≤ 1048576))) = true from hp)
  obtain ⟨hn, he⟩ := fit_sl ha
  refine ⟨0, ?_⟩
  show _ = some [Dat.i (szr (wt (.sl s4) a) l.int)]
  rw [wt_sl, f11_start, sum_zero (fun i => show wt s4 (a.fld i) = 0 from rfl)]
  exact sz_len hn h0 h1 fun l' p0 _ => by rw [szr_zero p0]


/-! laws.szIntS -/
abbrev C16 : FuncId → Option Sig := tabC []
theorem hC16 : ∀ g sg, C16 g = some sg → ConOk E Tryz.prog g sg := tabC_nil
abbrev keep16 : Nat → List Nat := fun _ => []
theorem f16_start (K : Nat) (a : Dat) (l : Dat) : evBody T C16 noL K keep16 Tryz.f16 [(.sl tInt), tInt] [tInt] [a, l] =
      (bif decide ((IntKind.i64.wrap (l.int - (a.len : Int))) < (0 : Int)) then some [(Dat.i (-1 : Int))] else some [(Dat.i (IntKind.i64.wrap (l.int - (a.len : Int))))]) := by kernel_rfl
theorem con16 : ConOk E Tryz.prog 16 (szSig (.sl tInt)) := con hM hD hT hC16 keep16 Tryz.func16 (by kernel_rfl) (by kernel_rfl) fun ds hl hp => by
  obtain ⟨a, l, rfl⟩ := ds_two hl
  obtain ⟨ha, h0, h1⟩ := sz_pre (show (fit M (.sl tInt) a && (decide (0 ≤ l.int) && decide (l.int ≤ 1048576))) = true from hp)
  obtain ⟨hn, he⟩ := fit_sl ha
  refine ⟨0, ?_⟩
  show _ = some [Dat.i (szr (wt (.sl tInt) a) l.int)]
  rw [wt_sl, f16_start, sum_zero (fun i => show wt tInt (a.fld i) = 0 from rfl)]
  exact sz_len hn h0 h1 fun l' p0 _ => by rw [szr_zero p0]


/-! laws.szNoteS -/
abbrev C13 : FuncId → Option Sig := tabC []
theorem hC13 : ∀ g sg, C13 g = some sg → ConOk E Tryz.prog g sg := tabC_nil
abbrev keep13 : Nat → List Nat := fun _ => []
theorem f13_start (K : Nat) (a : Dat) (l : Dat) : evBody T C13 noL K keep13 Tryz.f13 [(.sl s4), tInt] [tInt] [a, l] =
      (bif decide ((IntKind.i64.wrap (l.int - (a.len : Int))) < (0 : Int)) then some [(Dat.i (-1 : Int))] else some [(Dat.i (IntKind.i64.wrap (l.int - (a.len : Int))))]) := by kernel_rfl
theorem con13 : ConOk E Tryz.prog 13 (szSig (.sl s4)) := con hM hD hT hC13 keep13 Tryz.func13 (by kernel_rfl) (by kernel_rfl) fun ds hl hp => by
  obtain ⟨a, l, rfl⟩ := ds_two hl
  obtain ⟨ha, h0, h1⟩ := sz_pre (show (fit M (.sl s4) a && (decide (0 ≤ l.int) && decide (l.int ≤ 1048576))) = true from hp)
  obtain ⟨hn, he⟩ := fit_sl ha
  refine ⟨0, ?_⟩
  show _ = some [Dat.i (szr (wt (.sl s4) a) l.int)]
  rw [wt_sl, f13_start, sum_zero (fun i => show wt s4 (a.fld i) = 0 from rfl)]
  exact sz_len hn h0 h1 fun l' p0 _ => by rw [szr_zero p0]


/-! laws.szToken -/
abbrev C40 : FuncId → Option Sig := tabC [(16, szSig (.sl tInt)), (13, szSig (.sl s4))]
theorem hC40 : ∀ g sg, C40 g = some sg → ConOk E Tryz.prog g sg := (tabC_cons con16 (tabC_cons con13 tabC_nil))
abbrev keep40 : Nat → List Nat := fun _ => []
theorem f40_start (K : Nat) (a : Dat) (l : Dat) : evBody T C40 noL K keep40 Tryz.f40 [s5, tInt] [tInt] [a, l] =
      (bif (fit M (.sl tInt) (a.fld 2) && (decide (0 ≤ l.int) && decide (l.int ≤ 1048576))) then (bif decide ((szR (.sl tInt) (a.fld 2) l.int) < (0 : Int)) then some [(Dat.i (-1 : Int))] else (bif (fit M (.sl s4) (a.fld 3) && (decide (0 ≤ (szR (.sl tInt) (a.fld 2) l.int)) && decide ((szR (.sl tInt) (a.fld 2) l.int) ≤ 1048576))) then (bif decide ((szR (.sl s4) (a.fld 3) (szR (.sl tInt) (a.fld 2) l.int)) < (0 : Int)) then some [(Dat.i (-1 : Int))] else some [(Dat.i (szR (.sl s4) (a.fld 3) (szR (.sl tInt) (a.fld 2) l.int)))]) else none)) else none) := by kernel_rfl
theorem con40 : ConOk E Tryz.prog 40 (szSig s5) := con hM hD hT hC40 keep40 Tryz.func40 (by kernel_rfl) (by kernel_rfl) fun ds hl hp => by
  obtain ⟨a, l, rfl⟩ := ds_two hl
  obtain ⟨ha, h0, h1⟩ := sz_pre (show (fit M s5 a && (decide (0 ≤ l.int) && decide (l.int ≤ 1048576))) = true from hp)
  refine ⟨0, ?_⟩
  have k3 : fit M (.sl s4) (a.fld 3) = true := fit_fld ha 3 rfl
  have k2 : fit M (.sl tInt) (a.fld 2) = true := fit_fld ha 2 rfl
  have hw : wt s5 a = (wt (.sl tInt) (a.fld 2) + (wt (.sl s4) (a.fld 3) + 0)) := by
    simp only [wt_st, wts_cons, wts_nil, wt_int, Nat.zero_add, Nat.add_zero]
  show _ = some [Dat.i (szr (wt s5 a) l.int)]
  rw [f40_start, hw]
  exact sz_call (k := fun l0 => (bif (fit M (.sl s4) (a.fld 3) && (decide (0 ≤ l0) && decide (l0 ≤ 1048576))) then (bif decide ((szR (.sl s4) (a.fld 3) l0) < (0 : Int)) then some [(Dat.i (-1 : Int))] else some [(Dat.i (szR (.sl s4) (a.fld 3) l0))]) else none)) k2 h0 h1 (fun l0 p0 q0 => sz_call (k := fun l1 => some [(Dat.i l1)]) k3 p0 q0 (fun l1 p1 q1 => (by rw [szr_zero p1])))


/-! laws.szTokenS -/
abbrev C12 : FuncId → Option Sig := tabC [(40, szSig s5)]
theorem hC12 : ∀ g sg, C12 g = some sg → ConOk E Tryz.prog g sg := (tabC_cons con40 tabC_nil)
abbrev keep12 : Nat → List Nat | 0 => [0, 1, 4, 5] | _ => []
def S12_0 (x0 : Dat) (x1 : Int) (x5 : Int) : St := ⟨[.ro s5 x0, .int .i64 x1, .u, .u, .int .i64 (0 : Int), .int .i64 x5] ++ us 21, []⟩
theorem f12_round0 (K n : Nat) (x0 : Dat) (x1 : Int) (x5 : Int) :
    loopE T C12 K keep12 Tryz.f12 0 0 (behind T C12 K keep12 Tryz.f12 [tInt] 0) (n + 1) (S12_0 x0 x1 x5) =
      (bif decide (x5 < (x0.len : Int)) then (bif (decide (0 ≤ x5) && decide (x5 < (x0.len : Int))) then (bif (fit M s5 (x0.fld x5.toNat) && (decide (0 ≤ x1) && decide (x1 ≤ 1048576))) then (bif decide ((szR s5 (x0.fld x5.toNat) x1) < (0 : Int)) then some [(Dat.i (-1 : Int))] else loopE T C12 K keep12 Tryz.f12 0 0 (behind T C12 K keep12 Tryz.f12 [tInt] 0) n (S12_0 x0 (szR s5 (x0.fld x5.toNat) x1) (IntKind.i64.wrap (x5 + (1 : Int))))) else none) else none) else some [(Dat.i x1)]) := by kernel_rfl
theorem f12_start (K : Nat) (a : Dat) (l : Dat) : evBody T C12 noL K keep12 Tryz.f12 [(.sl s5), tInt] [tInt] [a, l] =
      (bif decide ((IntKind.i64.wrap (l.int - (a.len : Int))) < (0 : Int)) then some [(Dat.i (-1 : Int))] else loopE T C12 K keep12 Tryz.f12 0 0 (behind T C12 K keep12 Tryz.f12 [tInt] 0) K (S12_0 a (IntKind.i64.wrap (l.int - (a.len : Int))) (0 : Int))) := by kernel_rfl
theorem con12 : ConOk E Tryz.prog 12 (szSig (.sl s5)) := con hM hD hT hC12 keep12 Tryz.func12 (by kernel_rfl) (by kernel_rfl) fun ds hl hp => by
  obtain ⟨a, l, rfl⟩ := ds_two hl
  obtain ⟨ha, h0, h1⟩ := sz_pre (show (fit M (.sl s5) a && (decide (0 ≤ l.int) && decide (l.int ≤ 1048576))) = true from hp)
  obtain ⟨hn, he⟩ := fit_sl ha
  refine ⟨a.len + 1, ?_⟩
  show _ = some [Dat.i (szr (wt (.sl s5) a) l.int)]
  rw [wt_sl]
  rw [f12_start]
  refine sz_len (k := fun l' => loopE T C12 (a.len + 1) keep12 Tryz.f12 0 0 (behind T C12 (a.len + 1) keep12 Tryz.f12 [tInt] 0) (a.len + 1) (S12_0 a l' 0)) hn h0 h1 fun l' p0 p1 => ?_
  exact sz_loop (E := fun n j l => loopE T C12 (a.len + 1) keep12 Tryz.f12 0 0 (behind T C12 (a.len + 1) keep12 Tryz.f12 [tInt] 0) n (S12_0 a l (j : Int))) (N := a.len) (g := fun j => wt s5 (a.fld j)) (fun n j l hj q0 q1 => by
    have f1 := he j hj
    have e1 : decide (0 ≤ l) = true := by simpa using q0
    have e2 : decide (l ≤ 1048576) = true := by simpa using q1
    show loopE T C12 (a.len + 1) keep12 Tryz.f12 0 0 (behind T C12 (a.len + 1) keep12 Tryz.f12 [tInt] 0) (n + 1) (S12_0 a l (j : Int)) = _
    rw [f12_round0]
    simp only [dlt hj, dge, Int.toNat_natCast, f1, e1, e2, Bool.and_self, cond_true, wrap_succ hj hn]
    rfl)
    (fun n l => by
    show loopE T C12 (a.len + 1) keep12 Tryz.f12 0 0 (behind T C12 (a.len + 1) keep12 Tryz.f12 [tInt] 0) (n + 1) (S12_0 a l (a.len : Int)) = _
    rw [f12_round0, dnlt (Nat.lt_irrefl _)]; rfl) l' p0 p1


/-! laws.szFrame -/
abbrev C88 : FuncId → Option Sig := tabC [(61, szSig (.sl s1))]
theorem hC88 : ∀ g sg, C88 g = some sg → ConOk E Tryz.prog g sg := (tabC_cons con61 tabC_nil)
abbrev keep88 : Nat → List Nat := fun _ => []
theorem f88_start (K : Nat) (a : Dat) (l : Dat) : evBody T C88 noL K keep88 Tryz.f88 [s6, tInt] [tInt] [a, l] =
      (bif (fit M (.sl s1) (a.fld 3) && (decide (0 ≤ l.int) && decide (l.int ≤ 1048576))) then (bif decide ((szR (.sl s1) (a.fld 3) l.int) < (0 : Int)) then some [(Dat.i (-1 : Int))] else (bif (fit M (.sl s1) (a.fld 4) && (decide (0 ≤ (szR (.sl s1) (a.fld 3) l.int)) && decide ((szR (.sl s1) (a.fld 3) l.int) ≤ 1048576))) then (bif decide ((szR (.sl s1) (a.fld 4) (szR (.sl s1) (a.fld 3) l.int)) < (0 : Int)) then some [(Dat.i (-1 : Int))] else some [(Dat.i (szR (.sl s1) (a.fld 4) (szR (.sl s1) (a.fld 3) l.int)))]) else none)) else none) := by kernel_rfl
theorem con88 : ConOk E Tryz.prog 88 (szSig s6) := con hM hD hT hC88 keep88 Tryz.func88 (by kernel_rfl) (by kernel_rfl) fun ds hl hp => by
  obtain ⟨a, l, rfl⟩ := ds_two hl
  obtain ⟨ha, h0, h1⟩ := sz_pre (show (fit M s6 a && (decide (0 ≤ l.int) && decide (l.int ≤ 1048576))) = true from hp)
  refine ⟨0, ?_⟩
  have k4 : fit M (.sl s1) (a.fld 4) = true := fit_fld ha 4 rfl
  have k3 : fit M (.sl s1) (a.fld 3) = true := fit_fld ha 3 rfl
  have hw : wt s6 a = (wt (.sl s1) (a.fld 3) + (wt (.sl s1) (a.fld 4) + 0)) := by
    simp only [wt_st, wts_cons, wts_nil, wt_int, Nat.zero_add, Nat.add_zero]
  show _ = some [Dat.i (szr (wt s6 a) l.int)]
  rw [f88_start, hw]
  exact sz_call (k := fun l0 => (bif (fit M (.sl s1) (a.fld 4) && (decide (0 ≤ l0) && decide (l0 ≤ 1048576))) then (bif decide ((szR (.sl s1) (a.fld 4) l0) < (0 : Int)) then some [(Dat.i (-1 : Int))] else some [(Dat.i (szR (.sl s1) (a.fld 4) l0))]) else none)) k3 h0 h1 (fun l0 p0 q0 => sz_call (k := fun l1 => some [(Dat.i l1)]) k4 p0 q0 (fun l1 p1 q1 => (by rw [szr_zero p1])))


/-! laws.szFrameS -/
abbrev C74 : FuncId → Option Sig := tabC [(88, szSig s6)]
theorem hC74 : ∀ g sg, C74 g = some sg → ConOk E Tryz.prog g sg := (tabC_cons con88 tabC_nil)
abbrev keep74 : Nat → List Nat | 0 => [0, 1, 4, 5] | _ => []
def S74_0 (x0 : Dat) (x1 : Int) (x5 : Int) : St := ⟨[.ro s6 x0, .int .i64 x1, .u, .u, .int .i64 (0 : Int), .int .i64 x5] ++ us 21, []⟩
theorem f74_round0 (K n : Nat) (x0 : Dat) (x1 : Int) (x5 : Int) :
    loopE T C74 K keep74 Tryz.f74 0 0 (behind T C74 K keep74 Tryz.f74 [tInt] 0) (n + 1) (S74_0 x0 x1 x5) =
      (bif decide (x5 < (x0.len : Int)) then (bif (decide (0 ≤ x5) && decide (x5 < (x0.len : Int))) then (bif (fit M s6 (x0.fld x5.toNat) && (decide (0 ≤ x1) && decide (x1 ≤ 1048576))) then (bif decide ((szR s6 (x0.fld x5.toNat) x1) < (0 : Int)) then some [(Dat.i (-1 : Int))] else loopE T C74 K keep74 Tryz.f74 0 0 (behind T C74 K keep74 Tryz.f74 [tInt] 0) n (S74_0 x0 (szR s6 (x0.fld x5.toNat) x1) (IntKind.i64.wrap (x5 + (1 : Int))))) else none) else none) else some [(Dat.i x1)]) := by kernel_rfl
theorem f74_start (K : Nat) (a : Dat) (l : Dat) : evBody T C74 noL K keep74 Tryz.f74 [(.sl s6), tInt] [tInt] [a, l] =
      (bif decide ((IntKind.i64.wrap (l.int - (a.len : Int))) < (0 : Int)) then some [(Dat.i (-1 : Int))] else loopE T C74 K keep74 Tryz.f74 0 0 (behind T C74 K keep74 Tryz.f74 [tInt] 0) K (S74_0 a (IntKind.i64.wrap (l.int - (a.len : Int))) (0 : Int))) := by kernel_rfl
theorem con74 : ConOk E Tryz.prog 74 (szSig (.sl s6)) := con hM hD hT hC74 keep74 Tryz.func74 (by kernel_rfl) (by kernel_rfl) fun ds hl hp => by
  obtain ⟨a, l, rfl⟩ := ds_two hl
  obtain ⟨ha, h0, h1⟩ := sz_pre (show (fit M (.sl s6) a && (decide (0 ≤ l.int) && decide (l.int ≤ 1048576))) = true from hp)
  obtain ⟨hn, he⟩ := fit_sl ha
  refine ⟨a.len + 1, ?_⟩
  show _ = some [Dat.i (szr (wt (.sl s6) a) l.int)]
  rw [wt_sl]
  rw [f74_start]
  refine sz_len (k := fun l' => loopE T C74 (a.len + 1) keep74 Tryz.f74 0 0 (behind T C74 (a.len + 1) keep74 Tryz.f74 [tInt] 0) (a.len + 1) (S74_0 a l' 0)) hn h0 h1 fun l' p0 p1 => ?_
  exact sz_loop (E := fun n j l => loopE T C74 (a.len + 1) keep74 Tryz.f74 0 0 (behind T C74 (a.len + 1) keep74 Tryz.f74 [tInt] 0) n (S74_0 a l (j : Int))) (N := a.len) (g := fun j => wt s6 (a.fld j)) (fun n j l hj q0 q1 => by
    have f1 := he j hj
    have e1 : decide (0 ≤ l) = true := by simpa using q0
    have e2 : decide (l ≤ 1048576) = true := by simpa using q1
    show loopE T C74 (a.len + 1) keep74 Tryz.f74 0 0 (behind T C74 (a.len + 1) keep74 Tryz.f74 [tInt] 0) (n + 1) (S74_0 a l (j : Int)) = _
    rw [f74_round0]
    simp only [dlt hj, dge, Int.toNat_natCast, f1, e1, e2, Bool.and_self, cond_true, wrap_succ hj hn]
    rfl)
    (fun n l => by
    show loopE T C74 (a.len + 1) keep74 Tryz.f74 0 0 (behind T C74 (a.len + 1) keep74 Tryz.f74 [tInt] 0) (n + 1) (S74_0 a l (a.len : Int)) = _
    rw [f74_round0, dnlt (Nat.lt_irrefl _)]; rfl) l' p0 p1


/-! laws.szThread -/
abbrev C62 : FuncId → Option Sig := tabC [(74, szSig (.sl s6))]
theorem hC62 : ∀ g sg, C62 g = some sg → ConOk E Tryz.prog g sg := (tabC_cons con74 tabC_nil)
abbrev keep62 : Nat → List Nat := fun _ => []
theorem f62_start (K : Nat) (a : Dat) (l : Dat) : evBody T C62 noL K keep62 Tryz.f62 [s7, tInt] [tInt] [a, l] =
      (bif (fit M (.sl s6) (a.fld 1) && (decide (0 ≤ l.int) && decide (l.int ≤ 1048576))) then (bif decide ((szR (.sl s6) (a.fld 1) l.int) < (0 : Int)) then some [(Dat.i (-1 : Int))] else some [(Dat.i (szR (.sl s6) (a.fld 1) l.int))]) else none) := by kernel_rfl
theorem con62 : ConOk E Tryz.prog 62 (szSig s7) := con hM hD hT hC62 keep62 Tryz.func62 (by kernel_rfl) (by kernel_rfl) fun ds hl hp => by
  obtain ⟨a, l, rfl⟩ := ds_two hl
  obtain ⟨ha, h0, h1⟩ := sz_pre (show (fit M s7 a && (decide (0 ≤ l.int) && decide (l.int ≤ 1048576))) = true from hp)
  refine ⟨0, ?_⟩
  have k1 : fit M (.sl s6) (a.fld 1) = true := fit_fld ha 1 rfl
  have hw : wt s7 a = (wt (.sl s6) (a.fld 1) + 0) := by
    simp only [wt_st, wts_cons, wts_nil, wt_int, Nat.zero_add, Nat.add_zero]
  show _ = some [Dat.i (szr (wt s7 a) l.int)]
  rw [f62_start, hw]
  exact sz_call (k := fun l0 => some [(Dat.i l0)]) k1 h0 h1 (fun l0 p0 q0 => (by rw [szr_zero p0]))


/-! laws.szLockS -/
abbrev C63 : FuncId → Option Sig := tabC []
theorem hC63 : ∀ g sg, C63 g = some sg → ConOk E Tryz.prog g sg := tabC_nil
abbrev keep63 : Nat → List Nat := fun _ => []
theorem f63_start (K : Nat) (a : Dat) (l : Dat) : evBody T C63 noL K keep63 Tryz.f63 [(.sl s8), tInt] [tInt] [a, l] =
      (bif decide ((IntKind.i64.wrap (l.int - (a.len : Int))) < (0 : Int)) then some [(Dat.i (-1 : Int))] else some [(Dat.i (IntKind.i64.wrap (l.int - (a.len : Int))))]) := by kernel_rfl
theorem con63 : ConOk E Tryz.prog 63 (szSig (.sl s8)) := con hM hD hT hC63 keep63 Tryz.func63 (by kernel_rfl) (by kernel_rfl) fun ds hl hp => by
  obtain ⟨a, l, rfl⟩ := ds_two hl
  obtain ⟨ha, h0, h1⟩ := sz_pre (show (fit M (.sl s8) a && (decide (0 ≤ l.int) && decide (l.int ≤ 1048576))) = true from hp)
  obtain ⟨hn, he⟩ := fit_sl ha
  refine ⟨0, ?_⟩
  show _ = some [Dat.i (szr (wt (.sl s8) a) l.int)]
  rw [wt_sl, f63_start, sum_zero (fun i => show wt s8 (a.fld i) = 0 from rfl)]
  exact sz_len hn h0 h1 fun l' p0 _ => by rw [szr_zero p0]


/-! laws.szTask -/
abbrev C41 : FuncId → Option Sig := tabC [(62, szSig s7), (63, szSig (.sl s8))]
theorem hC41 : ∀ g sg, C41 g = some sg → ConOk E Tryz.prog g sg := (tabC_cons con62 (tabC_cons con63 tabC_nil))
abbrev keep41 : Nat → List Nat := fun _ => []
theorem f41_start (K : Nat) (a : Dat) (l : Dat) : evBody T C41 noL K keep41 Tryz.f41 [s9, tInt] [tInt] [a, l] =
      (bif (fit M s7 (a.fld 0) && (decide (0 ≤ l.int) && decide (l.int ≤ 1048576))) then (bif decide ((szR s7 (a.fld 0) l.int) < (0 : Int)) then some [(Dat.i (-1 : Int))] else (bif (fit M (.sl s8) (a.fld 3) && (decide (0 ≤ (szR s7 (a.fld 0) l.int)) && decide ((szR s7 (a.fld 0) l.int) ≤ 1048576))) then (bif decide ((szR (.sl s8) (a.fld 3) (szR s7 (a.fld 0) l.int)) < (0 : Int)) then some [(Dat.i (-1 : Int))] else some [(Dat.i (szR (.sl s8) (a.fld 3) (szR s7 (a.fld 0) l.int)))]) else none)) else none) := by kernel_rfl
theorem con41 : ConOk E Tryz.prog 41 (szSig s9) := con hM hD hT hC41 keep41 Tryz.func41 (by kernel_rfl) (by kernel_rfl) fun ds hl hp => by
  obtain ⟨a, l, rfl⟩ := ds_two hl
  obtain ⟨ha, h0, h1⟩ := sz_pre (show (fit M s9 a && (decide (0 ≤ l.int) && decide (l.int ≤ 1048576))) = true from hp)
  refine ⟨0, ?_⟩
  have k3 : fit M (.sl s8) (a.fld 3) = true := fit_fld ha 3 rfl
  have k0 : fit M s7 (a.fld 0) = true := fit_fld ha 0 rfl
  have hw : wt s9 a = (wt s7 (a.fld 0) + (wt (.sl s8) (a.fld 3) + 0)) := by
    simp only [wt_st, wts_cons, wts_nil, wt_int, Nat.zero_add, Nat.add_zero]
  show _ = some [Dat.i (szr (wt s9 a) l.int)]
  rw [f41_start, hw]
  exact sz_call (k := fun l0 => (bif (fit M (.sl s8) (a.fld 3) && (decide (0 ≤ l0) && decide (l0 ≤ 1048576))) then (bif decide ((szR (.sl s8) (a.fld 3) l0) < (0 : Int)) then some [(Dat.i (-1 : Int))] else some [(Dat.i (szR (.sl s8) (a.fld 3) l0))]) else none)) k0 h0 h1 (fun l0 p0 q0 => sz_call (k := fun l1 => some [(Dat.i l1)]) k3 p0 q0 (fun l1 p1 q1 => (by rw [szr_zero p1])))


/-! laws.szTaskS -/
abbrev C14 : FuncId → Option Sig := tabC [(41, szSig s9)]
theorem hC14 : ∀ g sg, C14 g = some sg → ConOk E Tryz.prog g sg := (tabC_cons con41 tabC_nil)
abbrev keep14 : Nat → List Nat | 0 => [0, 1, 4, 5] | _ => []
def S14_0 (x0 : Dat) (x1 : Int) (x5 : Int) : St := ⟨[.ro s9 x0, .int .i64 x1, .u, .u, .int .i64 (0 : Int), .int .i64 x5] ++ us 21, []⟩
theorem f14_round0 (K n : Nat) (x0 : Dat) (x1 : Int) (x5 : Int) :
    loopE T C14 K keep14 Tryz.f14 0 0 (behind T C14 K keep14 Tryz.f14 [tInt] 0) (n + 1) (S14_0 x0 x1 x5) =
      (bif decide (x5 < (x0.len : Int)) then (bif (decide (0 ≤ x5) && decide (x5 < (x0.len : Int))) then (bif (fit M s9 (x0.fld x5.toNat) && (decide (0 ≤ x1) && decide (x1 ≤ 1048576))) then (bif decide ((szR s9 (x0.fld x5.toNat) x1) < (0 : Int)) then some [(Dat.i (-1 : Int))] else loopE T C14 K keep14 Tryz.f14 0 0 (behind T C14 K keep14 Tryz.f14 [tInt] 0) n (S14_0 x0 (szR s9 (x0.fld x5.toNat) x1) (IntKind.i64.wrap (x5 + (1 : Int))))) else none) else none) else some [(Dat.i x1)]) := by kernel_rfl
theorem f14_start (K : Nat) (a : Dat) (l : Dat) : evBody T C14 noL K keep14 Tryz.f14 [(.sl s9), tInt] [tInt] [a, l] =
      (bif decide ((IntKind.i64.wrap (l.int - (a.len : Int))) < (0 : Int)) then some [(Dat.i (-1 : Int))] else loopE T C14 K keep14 Tryz.f14 0 0 (behind T C14 K keep14 Tryz.f14 [tInt] 0) K (S14_0 a (IntKind.i64.wrap (l.int - (a.len : Int))) (0 : Int))) := by kernel_rfl
theorem con14 : ConOk E Tryz.prog 14 (szSig (.sl s9)) := con hM hD hT hC14 keep14 Tryz.func14 (by kernel_rfl) (by kernel_rfl) fun ds hl hp => by
  obtain ⟨a, l, rfl⟩ := ds_two hl
  obtain ⟨ha, h0, h1⟩ := sz_pre (show (fit M (.sl s9) a && (decide (0 ≤ l.int) && decide (l.int ≤ 1048576))) = true from hp)
  obtain ⟨hn, he⟩ := fit_sl ha
  refine ⟨a.len + 1, ?_⟩
  show _ = some [Dat.i (szr (wt (.sl s9) a) l.int)]
  rw [wt_sl]
  rw [f14_start]
  refine sz_len (k := fun l' => loopE T C14 (a.len + 1) keep14 Tryz.f14 0 0 (behind T C14 (a.len + 1) keep14 Tryz.f14 [tInt] 0) (a.len + 1) (S14_0 a l' 0)) hn h0 h1 fun l' p0 p1 => ?_
  exact sz_loop (E := fun n j l => loopE T C14 (a.len + 1) keep14 Tryz.f14 0 0 (behind T C14 (a.len + 1) keep14 Tryz.f14 [tInt] 0) n (S14_0 a l (j : Int))) (N := a.len) (g := fun j => wt s9 (a.fld j)) (fun n j l hj q0 q1 => by
    have f1 := he j hj
    have e1 : decide (0 ≤ l) = true := by simpa using q0
    have e2 : decide (l ≤ 1048576) = true := by simpa using q1
    show loopE T C14 (a.len + 1) keep14 Tryz.f14 0 0 (behind T C14 (a.len + 1) keep14 Tryz.f14 [tInt] 0) (n + 1) (S14_0 a l (j : Int)) = _
    rw [f14_round0]
    simp only [dlt hj, dge, Int.toNat_natCast, f1, e1, e2, Bool.and_self, cond_true, wrap_succ hj hn]
    rfl)
    (fun n l => by
    show loopE T C14 (a.len + 1) keep14 Tryz.f14 0 0 (behind T C14 (a.len + 1) keep14 Tryz.f14 [tInt] 0) (n + 1) (S14_0 a l (a.len : Int)) = _
    rw [f14_round0, dnlt (Nat.lt_irrefl _)]; rfl) l' p0 p1


/-! laws.szEnd -/
abbrev C42 : FuncId → Option Sig := tabC [(13, szSig (.sl s4)), (16, szSig (.sl tInt))]
theorem hC42 : ∀ g sg, C42 g = some sg → ConOk E Tryz.prog g sg := (tabC_cons con13 (tabC_cons con16 tabC_nil))
abbrev keep42 : Nat → List Nat := fun _ => []
theorem f42_start (K : Nat) (a : Dat) (l : Dat) : evBody T C42 noL K keep42 Tryz.f42 [s10, tInt] [tInt] [a, l] =
      (bif (fit M (.sl s4) (a.fld 1) && (decide (0 ≤ l.int) && decide (l.int ≤ 1048576))) then (bif decide ((szR (.sl s4) (a.fld 1) l.int) < (0 : Int)) then some [(Dat.i (-1 : Int))] else (bif (fit M (.sl tInt) (a.fld 2) && (decide (0 ≤ (szR (.sl s4) (a.fld 1) l.int)) && decide ((szR (.sl s4) (a.fld 1) l.int) ≤ 1048576))) then (bif decide ((szR (.sl tInt) (a.fld 2) (szR (.sl s4) (a.fld 1) l.int)) < (0 : Int)) then some [(Dat.i (-1 : Int))] else some [(Dat.i (szR (.sl tInt) (a.fld 2) (szR (.sl s4) (a.fld 1) l.int)))]) else none)) else none) := by kernel_rfl
theorem con42 : ConOk E Tryz.prog 42 (szSig s10) := con hM hD hT hC42 keep42 Tryz.func42 (by kernel_rfl) (by kernel_rfl) fun ds hl hp => by
  obtain ⟨a, l, rfl⟩ := ds_two hl
  obtain ⟨ha, h0, h1⟩ := sz_pre (show (fit M s10 a && (decide (0 ≤ l.int) && decide (l.int ≤ 1048576))) = true from hp)
  refine ⟨0, ?_⟩
  have k2 : fit M (.sl tInt) (a.fld 2) = true := fit_fld ha 2 rfl
  have k1 : fit M (.sl s4) (a.fld 1) = true := fit_fld ha 1 rfl
  have hw : wt s10 a = (wt (.sl s4) (a.fld 1) + (wt (.sl tInt) (a.fld 2) + 0)) := by
    simp only [wt_st, wts_cons, wts_nil, wt_int, Nat.zero_add, Nat.add_zero]
  show _ = some [Dat.i (szr (wt s10 a) l.int)]
  rw [f42_start, hw]
  exact sz_call (k := fun l0 => (bif (fit M (.sl tInt) (a.fld 2) && (decide (0 ≤ l0) && decide (l0 ≤ 1048576))) then (bif decide ((szR (.sl tInt) (a.fld 2) l0) < (0 : Int)) then some [(Dat.i (-1 : Int))] else some [(Dat.i (szR (.sl tInt) (a.fld 2) l0))]) else none)) k1 h0 h1 (fun l0 p0 q0 => sz_call (k := fun l1 => some [(Dat.i l1)]) k2 p0 q0 (fun l1 p1 q1 => (by rw [szr_zero p1])))


/-! laws.szEndS -/
abbrev C15 : FuncId → Option Sig := tabC [(42, szSig s10)]
theorem hC15 : ∀ g sg, C15 g = some sg → ConOk E Tryz.prog g sg := (tabC_cons con42 tabC_nil)
abbrev keep15 : Nat → List Nat | 0 => [0, 1, 4, 5] | _ => []
def S15_0 (x0 : Dat) (x1 : Int) (x5 : Int) : St := ⟨[.ro s10 x0, .int .i64 x1, .u, .u, .int .i64 (0 : Int), .int .i64 x5] ++ us 21, []⟩
theorem f15_round0 (K n : Nat) (x0 : Dat) (x1 : Int) (x5 : Int) :
    loopE T C15 K keep15 Tryz.f15 0 0 (behind T C15 K keep15 Tryz.f15 [tInt] 0) (n + 1) (S15_0 x0 x1 x5) =
      (bif decide (x5 < (x0.len : Int)) then (bif (decide (0 ≤ x5) && decide (x5 < (x0.len : Int))) then (bif (fit M s10 (x0.fld x5.toNat) && (decide (0 ≤ x1) && decide (x1 ≤ 1048576))) then (bif decide ((szR s10 (x0.fld x5.toNat) x1) < (0 : Int)) then some [(Dat.i (-1 : Int))] else loopE T C15 K keep15 Tryz.f15 0 0 (behind T C15 K keep15 Tryz.f15 [tInt] 0) n (S15_0 x0 (szR s10 (x0.fld x5.toNat) x1) (IntKind.i64.wrap (x5 + (1 : Int))))) else none) else none) else some [(Dat.i x1)]) := by kernel_rfl
theorem f15_start (K : Nat) (a : Dat) (l : Dat) : evBody T C15 noL K keep15 Tryz.f15 [(.sl s10), tInt] [tInt] [a, l] =
      (bif decide ((IntKind.i64.wrap (l.int - (a.len : Int))) < (0 : Int)) then some [(Dat.i (-1 : Int))] else loopE T C15 K keep15 Tryz.f15 0 0 (behind T C15 K keep15 Tryz.f15 [tInt] 0) K (S15_0 a (IntKind.i64.wrap (l.int - (a.len : Int))) (0 : Int))) := by kernel_rfl
theorem con15 : ConOk E Tryz.prog 15 (szSig (.sl s10)) := con hM hD hT hC15 keep15 Tryz.func15 (by kernel_rfl) (by kernel_rfl) fun ds hl hp => by
  obtain ⟨a, l, rfl⟩ := ds_two hl
  obtain ⟨ha, h0, h1⟩ := sz_pre (show (fit M (.sl s10) a && (decide (0 ≤ l.int) && decide (l.int ≤ 1048576))) = true from hp)
  obtain ⟨hn, he⟩ := fit_sl ha
  refine ⟨a.len + 1, ?_⟩
  show _ = some [Dat.i (szr (wt (.sl s10) a) l.int)]
  rw [wt_sl]
  rw [f15_start]
  refine sz_len (k := fun l' => loopE T C15 (a.len + 1) keep15 Tryz.f15 0 0 (behind T C15 (a.len + 1) keep15 Tryz.f15 [tInt] 0) (a.len + 1) (S15_0 a l' 0)) hn h0 h1 fun l' p0 p1 => ?_
  exact sz_loop (E := fun n j l => loopE T C15 (a.len + 1) keep15 Tryz.f15 0 0 (behind T C15 (a.len + 1) keep15 Tryz.f15 [tInt] 0) n (S15_0 a l (j : Int))) (N := a.len) (g := fun j => wt s10 (a.fld j)) (fun n j l hj q0 q1 => by
    have f1 := he j hj
    have e1 : decide (0 ≤ l) = true := by simpa using q0
    have e2 : decide (l ≤ 1048576) = true := by simpa using q1
    show loopE T C15 (a.len + 1) keep15 Tryz.f15 0 0 (behind T C15 (a.len + 1) keep15 Tryz.f15 [tInt] 0) (n + 1) (S15_0 a l (j : Int)) = _
    rw [f15_round0]
    simp only [dlt hj, dge, Int.toNat_natCast, f1, e1, e2, Bool.and_self, cond_true, wrap_succ hj hn]
    rfl)
    (fun n l => by
    show loopE T C15 (a.len + 1) keep15 Tryz.f15 0 0 (behind T C15 (a.len + 1) keep15 Tryz.f15 [tInt] 0) (n + 1) (S15_0 a l (a.len : Int)) = _
    rw [f15_round0, dnlt (Nat.lt_irrefl _)]; rfl) l' p0 p1


/-! laws.szCellS -/
abbrev C99 : FuncId → Option Sig := tabC []
theorem hC99 : ∀ g sg, C99 g = some sg → ConOk E Tryz.prog g sg := tabC_nil
abbrev keep99 : Nat → List Nat := fun _ => []
theorem f99_start (K : Nat) (a : Dat) (l : Dat) : evBody T C99 noL K keep99 Tryz.f99 [(.sl s11), tInt] [tInt] [a, l] =
      (bif decide ((IntKind.i64.wrap (l.int - (a.len : Int))) < (0 : Int)) then some [(Dat.i (-1 : Int))] else some [(Dat.i (IntKind.i64.wrap (l.int - (a.len : Int))))]) := by kernel_rfl
theorem con99 : ConOk E Tryz.prog 99 (szSig (.sl s11)) := con hM hD hT hC99 keep99 Tryz.func99 (by kernel_rfl) (by kernel_rfl) fun ds hl hp => by
  obtain ⟨a, l, rfl⟩ := ds_two hl
  obtain ⟨ha, h0, h1⟩ := sz_pre (show (fit M (.sl s11) a && (decide (0 ≤ l.int) && decide (l.int ≤ 1048576))) = true from hp)
  obtain ⟨hn, he⟩ := fit_sl ha
  refine ⟨0, ?_⟩
  show _ = some [Dat.i (szr (wt (.sl s11) a) l.int)]
  rw [wt_sl, f99_start, sum_zero (fun i => show wt s11 (a.fld i) = 0 from rfl)]
  exact sz_len hn h0 h1 fun l' p0 _ => by rw [szr_zero p0]


/-! laws.szMsg -/
abbrev C89 : FuncId → Option Sig := tabC [(99, szSig (.sl s11)), (13, szSig (.sl s4))]
theorem hC89 : ∀ g sg, C89 g = some sg → ConOk E Tryz.prog g sg := (tabC_cons con99 (tabC_cons con13 tabC_nil))
abbrev keep89 : Nat → List Nat := fun _ => []
theorem f89_start (K : Nat) (a : Dat) (l : Dat) : evBody T C89 noL K keep89 Tryz.f89 [s12, tInt] [tInt] [a, l] =
      (bif (fit M (.sl s11) (a.fld 5) && (decide (0 ≤ l.int) && decide (l.int ≤ 1048576))) then (bif decide ((szR (.sl s11) (a.fld 5) l.int) < (0 : Int)) then some [(Dat.i (-1 : Int))] else (bif (fit M (.sl s4) (a.fld 6) && (decide (0 ≤ (szR (.sl s11) (a.fld 5) l.int)) && decide ((szR (.sl s11) (a.fld 5) l.int) ≤ 1048576))) then (bif decide ((szR (.sl s4) (a.fld 6) (szR (.sl s11) (a.fld 5) l.int)) < (0 : Int)) then some [(Dat.i (-1 : Int))] else some [(Dat.i (szR (.sl s4) (a.fld 6) (szR (.sl s11) (a.fld 5) l.int)))]) else none)) else none) := by kernel_rfl
theorem con89 : ConOk E Tryz.prog 89 (szSig s12) := con hM hD hT hC89 keep89 Tryz.func89 (by kernel_rfl) (by kernel_rfl) fun ds hl hp => by
  obtain ⟨a, l, rfl⟩ := ds_two hl
  obtain ⟨ha, h0, h1⟩ := sz_pre (show (fit M s12 a && (decide (0 ≤ l.int) && decide (l.int ≤ 1048576))) = true from hp)
  refine ⟨0, ?_⟩
  have k6 : fit M (.sl s4) (a.fld 6) = true := fit_fld ha 6 rfl
  have k5 : fit M (.sl s11) (a.fld 5) = true := fit_fld ha 5 rfl
  have hw : wt s12 a = (wt (.sl s11) (a.fld 5) + (wt (.sl s4) (a.fld 6) + 0)) := by
    simp only [wt_st, wts_cons, wts_nil, wt_int, Nat.zero_add, Nat.add_zero]
  show _ = some [Dat.i (szr (wt s12 a) l.int)]
  rw [f89_start, hw]
  exact sz_call (k := fun l0 => (bif (fit M (.sl s4) (a.fld 6) && (decide (0 ≤ l0) && decide (l0 ≤ 1048576))) then (bif decide ((szR (.sl s4) (a.fld 6) l0) < (0 : Int)) then some [(Dat.i (-1 : Int))] else some [(Dat.i (szR (.sl s4) (a.fld 6) l0))]) else none)) k5 h0 h1 (fun l0 p0 q0 => sz_call (k := fun l1 => some [(Dat.i l1)]) k6 p0 q0 (fun l1 p1 q1 => (by rw [szr_zero p1])))


/-! laws.szMsgS -/
abbrev C75 : FuncId → Option Sig := tabC [(89, szSig s12)]
theorem hC75 : ∀ g sg, C75 g = some sg → ConOk E Tryz.prog g sg := (tabC_cons con89 tabC_nil)
abbrev keep75 : Nat → List Nat | 0 => [0, 1, 4, 5] | _ => []
def S75_0 (x0 : Dat) (x1 : Int) (x5 : Int) : St := ⟨[.ro s12 x0, .int .i64 x1, .u, .u, .int .i64 (0 : Int), .int .i64 x5] ++ us 21, []⟩
theorem f75_round0 (K n : Nat) (x0 : Dat) (x1 : Int) (x5 : Int) :
    loopE T C75 K keep75 Tryz.f75 0 0 (behind T C75 K keep75 Tryz.f75 [tInt] 0) (n + 1) (S75_0 x0 x1 x5) =
      (bif decide (x5 < (x0.len : Int)) then (bif (decide (0 ≤ x5) && decide (x5 < (x0.len : Int))) then (bif (fit M s12 (x0.fld x5.toNat) && (decide (0 ≤ x1) && decide (x1 ≤ 1048576))) then (bif decide ((szR s12 (x0.fld x5.toNat) x1) < (0 : Int)) then some [(Dat.i (-1 : Int))] else loopE T C75 K keep75 Tryz.f75 0 0 (behind T C75 K keep75 Tryz.f75 [tInt] 0) n (S75_0 x0 (szR s12 (x0.fld x5.toNat) x1) (IntKind.i64.wrap (x5 + (1 : Int))))) else none) else none) else some [(Dat.i x1)]) := by kernel_rfl
theorem f75_start (K : Nat) (a : Dat) (l : Dat) : evBody T C75 noL K keep75 Tryz.f75 [(.sl s12), tInt] [tInt] [a, l] =
      (bif decide ((IntKind.i64.wrap (l.int - (a.len : Int))) < (0 : Int)) then some [(Dat.i (-1 : Int))] else loopE T C75 K keep75 Tryz.f75 0 0 (behind T C75 K keep75 Tryz.f75 [tInt] 0) K (S75_0 a (IntKind.i64.wrap (l.int - (a.len : Int))) (0 : Int))) := by kernel_rfl
theorem con75 : ConOk E Tryz.prog 75 (szSig (.sl s12)) := con hM hD hT hC75 keep75 Tryz.func75 (by kernel_rfl) (by kernel_rfl) fun ds hl hp => by
  obtain ⟨a, l, rfl⟩ := ds_two hl
  obtain ⟨ha, h0, h1⟩ := sz_pre (show (fit M (.sl s12) a && (decide (0 ≤ l.int) && decide (l.int ≤ 1048576))) = true from hp)
  obtain ⟨hn, he⟩ := fit_sl ha
  refine ⟨a.len + 1, ?_⟩
  show _ = some [Dat.i (szr (wt (.sl s12) a) l.int)]
  rw [wt_sl]
  rw [f75_start]
  refine sz_len (k := fun l' => loopE T C75 (a.len + 1) keep75 Tryz.f75 0 0 (behind T C75 (a.len + 1) keep75 Tryz.f75 [tInt] 0) (a.len + 1) (S75_0 a l' 0)) hn h0 h1 fun l' p0 p1 => ?_
  exact sz_loop (E := fun n j l => loopE T C75 (a.len + 1) keep75 Tryz.f75 0 0 (behind T C75 (a.len + 1) keep75 Tryz.f75 [tInt] 0) n (S75_0 a l (j : Int))) (N := a.len) (g := fun j => wt s12 (a.fld j)) (fun n j l hj q0 q1 => by
    have f1 := he j hj
    have e1 : decide (0 ≤ l) = true := by simpa using q0
    have e2 : decide (l ≤ 1048576) = true := by simpa using q1
    show loopE T C75 (a.len + 1) keep75 Tryz.f75 0 0 (behind T C75 (a.len + 1) keep75 Tryz.f75 [tInt] 0) (n + 1) (S75_0 a l (j : Int)) = _
    rw [f75_round0]
    simp only [dlt hj, dge, Int.toNat_natCast, f1, e1, e2, Bool.and_self, cond_true, wrap_succ hj hn]
    rfl)
    (fun n l => by
    show loopE T C75 (a.len + 1) keep75 Tryz.f75 0 0 (behind T C75 (a.len + 1) keep75 Tryz.f75 [tInt] 0) (n + 1) (S75_0 a l (a.len : Int)) = _
    rw [f75_round0, dnlt (Nat.lt_irrefl _)]; rfl) l' p0 p1


/-! laws.szSender -/
abbrev C64 : FuncId → Option Sig := tabC [(75, szSig (.sl s12))]
theorem hC64 : ∀ g sg, C64 g = some sg → ConOk E Tryz.prog g sg := (tabC_cons con75 tabC_nil)
abbrev keep64 : Nat → List Nat := fun _ => []
theorem f64_start (K : Nat) (a : Dat) (l : Dat) : evBody T C64 noL K keep64 Tryz.f64 [s13, tInt] [tInt] [a, l] =
      (bif (fit M (.sl s12) (a.fld 1) && (decide (0 ≤ l.int) && decide (l.int ≤ 1048576))) then (bif decide ((szR (.sl s12) (a.fld 1) l.int) < (0 : Int)) then some [(Dat.i (-1 : Int))] else some [(Dat.i (szR (.sl s12) (a.fld 1) l.int))]) else none) := by kernel_rfl
theorem con64 : ConOk E Tryz.prog 64 (szSig s13) := con hM hD hT hC64 keep64 Tryz.func64 (by kernel_rfl) (by kernel_rfl) fun ds hl hp => by
  obtain ⟨a, l, rfl⟩ := ds_two hl
  obtain ⟨ha, h0, h1⟩ := sz_pre (show (fit M s13 a && (decide (0 ≤ l.int) && decide (l.int ≤ 1048576))) = true from hp)
  refine ⟨0, ?_⟩
  have k1 : fit M (.sl s12) (a.fld 1) = true := fit_fld ha 1 rfl
  have hw : wt s13 a = (wt (.sl s12) (a.fld 1) + 0) := by
    simp only [wt_st, wts_cons, wts_nil, wt_int, Nat.zero_add, Nat.add_zero]
  show _ = some [Dat.i (szr (wt s13 a) l.int)]
  rw [f64_start, hw]
  exact sz_call (k := fun l0 => some [(Dat.i l0)]) k1 h0 h1 (fun l0 p0 q0 => (by rw [szr_zero p0]))


/-! laws.szLine -/
abbrev C43 : FuncId → Option Sig := tabC [(64, szSig s13)]
theorem hC43 : ∀ g sg, C43 g = some sg → ConOk E Tryz.prog g sg := (tabC_cons con64 tabC_nil)
abbrev keep43 : Nat → List Nat := fun _ => []
theorem f43_start (K : Nat) (a : Dat) (l : Dat) : evBody T C43 noL K keep43 Tryz.f43 [s14, tInt] [tInt] [a, l] =
      (bif (fit M s13 (a.fld 0) && (decide (0 ≤ l.int) && decide (l.int ≤ 1048576))) then (bif decide ((szR s13 (a.fld 0) l.int) < (0 : Int)) then some [(Dat.i (-1 : Int))] else some [(Dat.i (szR s13 (a.fld 0) l.int))]) else none) := by kernel_rfl
theorem con43 : ConOk E Tryz.prog 43 (szSig s14) := con hM hD hT hC43 keep43 Tryz.func43 (by kernel_rfl) (by kernel_rfl) fun ds hl hp => by
  obtain ⟨a, l, rfl⟩ := ds_two hl
  obtain ⟨ha, h0, h1⟩ := sz_pre (show (fit M s14 a && (decide (0 ≤ l.int) && decide (l.int ≤ 1048576))) = true from hp)
  refine ⟨0, ?_⟩
  have k0 : fit M s13 (a.fld 0) = true := fit_fld ha 0 rfl
  have hw : wt s14 a = (wt s13 (a.fld 0) + 0) := by
    simp only [wt_st, wts_cons, wts_nil, wt_int, Nat.zero_add, Nat.add_zero]
  show _ = some [Dat.i (szr (wt s14 a) l.int)]
  rw [f43_start, hw]
  exact sz_call (k := fun l0 => some [(Dat.i l0)]) k0 h0 h1 (fun l0 p0 q0 => (by rw [szr_zero p0]))


/-! laws.szLineS -/
abbrev C17 : FuncId → Option Sig := tabC [(43, szSig s14)]
theorem hC17 : ∀ g sg, C17 g = some sg → ConOk E Tryz.prog g sg := (tabC_cons con43 tabC_nil)
abbrev keep17 : Nat → List Nat | 0 => [0, 1, 4, 5] | _ => []
def S17_0 (x0 : Dat) (x1 : Int) (x5 : Int) : St := ⟨[.ro s14 x0, .int .i64 x1, .u, .u, .int .i64 (0 : Int), .int .i64 x5] ++ us 21, []⟩
theorem f17_round0 (K n : Nat) (x0 : Dat) (x1 : Int) (x5 : Int) :
    loopE T C17 K keep17 Tryz.f17 0 0 (behind T C17 K keep17 Tryz.f17 [tInt] 0) (n + 1) (S17_0 x0 x1 x5) =
      (bif decide (x5 < (x0.len : Int)) then (bif (decide (0 ≤ x5) && decide (x5 < (x0.len : Int))) then (bif (fit M s14 (x0.fld x5.toNat) && (decide (0 ≤ x1) && decide (x1 ≤ 1048576))) then (bif decide ((szR s14 (x0.fld x5.toNat) x1) < (0 : Int)) then some [(Dat.i (-1 : Int))] else loopE T C17 K keep17 Tryz.f17 0 0 (behind T C17 K keep17 Tryz.f17 [tInt] 0) n (S17_0 x0 (szR s14 (x0.fld x5.toNat) x1) (IntKind.i64.wrap (x5 + (1 : Int))))) else none) else none) else some [(Dat.i x1)]) := by kernel_rfl
theorem f17_start (K : Nat) (a : Dat) (l : Dat) : evBody T C17 noL K keep17 Tryz.f17 [(.sl s14), tInt] [tInt] [a, l] =
      (bif decide ((IntKind.i64.wrap (l.int - (a.len : Int))) < (0 : Int)) then some [(Dat.i (-1 : Int))] else loopE T C17 K keep17 Tryz.f17 0 0 (behind T C17 K keep17 Tryz.f17 [tInt] 0) K (S17_0 a (IntKind.i64.wrap (l.int - (a.len : Int))) (0 : Int))) := by kernel_rfl
theorem con17 : ConOk E Tryz.prog 17 (szSig (.sl s14)) := con hM hD hT hC17 keep17 Tryz.func17 (by kernel_rfl) (by kernel_rfl) fun ds hl hp => by
  obtain ⟨a, l, rfl⟩ := ds_two hl
  obtain ⟨ha, h0, h1⟩ := sz_pre (show (fit M (.sl s14) a && (decide (0 ≤ l.int) && decide (l.int ≤ 1048576))) = true from hp)
  obtain ⟨hn, he⟩ := fit_sl ha
  refine ⟨a.len + 1, ?_⟩
  show _ = some [Dat.i (szr (wt (.sl s14) a) l.int)]
  rw [wt_sl]
  rw [f17_start]
  refine sz_len (k := fun l' => loopE T C17 (a.len + 1) keep17 Tryz.f17 0 0 (behind T C17 (a.len + 1) keep17 Tryz.f17 [tInt] 0) (a.len + 1) (S17_0 a l' 0)) hn h0 h1 fun l' p0 p1 => ?_
  exact sz_loop (E := fun n j l => loopE T C17 (a.len + 1) keep17 Tryz.f17 0 0 (behind T C17 (a.len + 1) keep17 Tryz.f17 [tInt] 0) n (S17_0 a l (j : Int))) (N := a.len) (g := fun j => wt s14 (a.fld j)) (fun n j l hj q0 q1 => by
    have f1 := he j hj
    have e1 : decide (0 ≤ l) = true := by simpa using q0
    have e2 : decide (l ≤ 1048576) = true := by simpa using q1
    show loopE T C17 (a.len + 1) keep17 Tryz.f17 0 0 (behind T C17 (a.len + 1) keep17 Tryz.f17 [tInt] 0) (n + 1) (S17_0 a l (j : Int)) = _
    rw [f17_round0]
    simp only [dlt hj, dge, Int.toNat_natCast, f1, e1, e2, Bool.and_self, cond_true, wrap_succ hj hn]
    rfl)
    (fun n l => by
    show loopE T C17 (a.len + 1) keep17 Tryz.f17 0 0 (behind T C17 (a.len + 1) keep17 Tryz.f17 [tInt] 0) (n + 1) (S17_0 a l (a.len : Int)) = _
    rw [f17_round0, dnlt (Nat.lt_irrefl _)]; rfl) l' p0 p1


/-! laws.szNode -/
abbrev C4 : FuncId → Option Sig := tabC [(9, szSig (.sl s2)), (10, szSig (.sl s3)), (11, szSig (.sl s4)), (12, szSig (.sl s5)), (13, szSig (.sl s4)), (14, szSig (.sl s9)), (15, szSig (.sl s10)), (16, szSig (.sl tInt)), (17, szSig (.sl s14))]
theorem hC4 : ∀ g sg, C4 g = some sg → ConOk E Tryz.prog g sg := (tabC_cons con9 (tabC_cons con10 (tabC_cons con11 (tabC_cons con12 (tabC_cons con13 (tabC_cons con14 (tabC_cons con15 (tabC_cons con16 (tabC_cons con17 tabC_nil)))))))))
abbrev keep4 : Nat → List Nat := fun _ => []
theorem f4_start (K : Nat) (a : Dat) (l : Dat) : evBody T C4 noL K keep4 Tryz.f4 [s15, tInt] [tInt] [a, l] =
      (bif (fit M (.sl s2) (a.fld 1) && (decide (0 ≤ l.int) && decide (l.int ≤ 1048576))) then (bif decide ((szR (.sl s2) (a.fld 1) l.int) < (0 : Int)) then some [(Dat.i (-1 : Int))] else (bif (fit M (.sl s3) (a.fld 2) && (decide (0 ≤ (szR (.sl s2) (a.fld 1) l.int)) && decide ((szR (.sl s2) (a.fld 1) l.int) ≤ 1048576))) then (bif decide ((szR (.sl s3) (a.fld 2) (szR (.sl s2) (a.fld 1) l.int)) < (0 : Int)) then some [(Dat.i (-1 : Int))] else (bif (fit M (.sl s4) (a.fld 3) && (decide (0 ≤ (szR (.sl s3) (a.fld 2) (szR (.sl s2) (a.fld 1) l.int))) && decide ((szR (.sl s3) (a.fld 2) (szR (.sl s2) (a.fld 1) l.int)) ≤ 1048576))) then (bif decide ((szR (.sl s4) (a.fld 3) (szR (.sl s3) (a.fld 2) (szR (.sl s2) (a.fld 1) l.int))) < (0 : Int)) then some [(Dat.i (-1 : Int))] else (bif (fit M (.sl s5) (a.fld 4) && (decide (0 ≤ (szR (.sl s4) (a.fld 3) (szR (.sl s3) (a.fld 2) (szR (.sl s2) (a.fld 1) l.int)))) && decide ((szR (.sl s4) (a.fld 3) (szR (.sl s3) (a.fld 2) (szR (.sl s2) (a.fld 1) l.int))) ≤ 1048576))) then (bif decide ((szR (.sl s5) (a.fld 4) (szR (.sl s4) (a.fld 3) (szR (.sl s3) (a.fld 2) (szR (.sl s2) (a.fld 1) l.int)))) < (0 : Int)) then some [(Dat.i (-1 : Int))] else (bif (fit M (.sl s4) (a.fld 5) && (decide (0 ≤ (szR (.sl s5) (a.fld 4) (szR (.sl s4) (a.fld 3) (szR (.sl s3) (a.fld 2) (szR (.sl s2) (a.fld 1) l.int))))) && decide ((szR (.sl s5) (a.fld 4) (szR (.sl s4) (a.fld 3) (szR (.sl s3) (a.fld 2) (szR (.sl s2) (a.fld 1) l.int)))) ≤ 1048576))) then (bif decide ((szR (.sl s4) (a.fld 5) (szR (.sl s5) (a.fld 4) (szR (.sl s4) (a.fld 3) (szR (.sl s3) (a.fld 2) (szR (.sl s2) (a.fld 1) l.int))))) < (0 : Int)) then some [(Dat.i (-1 : Int))] else (bif (fit M (.sl s9) (a.fld 6) && (decide (0 ≤ (szR (.sl s4) (a.fld 5) (szR (.sl s5) (a.fld 4) (szR (.sl s4) (a.fld 3) (szR (.sl s3) (a.fld 2) (szR (.sl s2) (a.fld 1) l.int)))))) && decide ((szR (.sl s4) (a.fld 5) (szR (.sl s5) (a.fld 4) (szR (.sl s4) (a.fld 3) (szR (.sl s3) (a.fld 2) (szR (.sl s2) (a.fld 1) l.int))))) ≤ 1048576))) then (bif decide ((szR (.sl s9) (a.fld 6) (szR (.sl s4) (a.fld 5) (szR (.sl s5) (a.fld 4) (szR (.sl s4) (a.fld 3) (szR (.sl s3) (a.fld 2) (szR (.sl s2) (a.fld 1) l.int)))))) < (0 : Int)) then some [(Dat.i (-1 : Int))] else (bif (fit M (.sl s10) (a.fld 7) && (decide (0 ≤ (szR (.sl s9) (a.fld 6) (szR (.sl s4) (a.fld 5) (szR (.sl s5) (a.fld 4) (szR (.sl s4) (a.fld 3) (szR (.sl s3) (a.fld 2) (szR (.sl s2) (a.fld 1) l.int))))))) && decide ((szR (.sl s9) (a.fld 6) (szR (.sl s4) (a.fld 5) (szR (.sl s5) (a.fld 4) (szR (.sl s4) (a.fld 3) (szR (.sl s3) (a.fld 2) (szR (.sl s2) (a.fld 1) l.int)))))) ≤ 1048576))) then (bif decide ((szR (.sl s10) (a.fld 7) (szR (.sl s9) (a.fld 6) (szR (.sl s4) (a.fld 5) (szR (.sl s5) (a.fld 4) (szR (.sl s4) (a.fld 3) (szR (.sl s3) (a.fld 2) (szR (.sl s2) (a.fld 1) l.int))))))) < (0 : Int)) then some [(Dat.i (-1 : Int))] else (bif (fit M (.sl tInt) (a.fld 8) && (decide (0 ≤ (szR (.sl s10) (a.fld 7) (szR (.sl s9) (a.fld 6) (szR (.sl s4) (a.fld 5) (szR (.sl s5) (a.fld 4) (szR (.sl s4) (a.fld 3) (szR (.sl s3) (a.fld 2) (szR (.sl s2) (a.fld 1) l.int)))))))) && decide ((szR (.sl s10) (a.fld 7) (szR (.sl s9) (a.fld 6) (szR (.sl s4) (a.fld 5) (szR (.sl s5) (a.fld 4) (szR (.sl s4) (a.fld 3) (szR (.sl s3) (a.fld 2) (szR (.sl s2) (a.fld 1) l.int))))))) ≤ 1048576))) then (bif decide ((szR (.sl tInt) (a.fld 8) (szR (.sl s10) (a.fld 7) (szR (.sl s9) (a.fld 6) (szR (.sl s4) (a.fld 5) (szR (.sl s5) (a.fld 4) (szR (.sl s4) (a.fld 3) (szR (.sl s3) (a.fld 2) (szR (.sl s2) (a.fld 1) l.int)))))))) < (0 : Int)) then some [(Dat.i (-1 : Int))] else (bif (fit M (.sl s14) (a.fld 9) && (decide (0 ≤ (szR (.sl tInt) (a.fld 8) (szR (.sl s10) (a.fld 7) (szR (.sl s9) (a.fld 6) (szR (.sl s4) (a.fld 5) (szR (.sl s5) (a.fld 4) (szR (.sl s4) (a.fld 3) (szR (.sl s3) (a.fld 2) (szR (.sl s2) (a.fld 1) l.int))))))))) && decide ((szR (.sl tInt) (a.fld 8) (szR (.sl s10) (a.fld 7) (szR (.sl s9) (a.fld 6) (szR (.sl s4) (a.fld 5) (szR (.sl s5) (a.fld 4) (szR (.sl s4) (a.fld 3) (szR (.sl s3) (a.fld 2) (szR (.sl s2) (a.fld 1) l.int)))))))) ≤ 1048576))) then (bif decide ((szR (.sl s14) (a.fld 9) (szR (.sl tInt) (a.fld 8) (szR (.sl s10) (a.fld 7) (szR (.sl s9) (a.fld 6) (szR (.sl s4) (a.fld 5) (szR (.sl s5) (a.fld 4) (szR (.sl s4) (a.fld 3) (szR (.sl s3) (a.fld 2) (szR (.sl s2) (a.fld 1) l.int))))))))) < (0 : Int)) then some [(Dat.i (-1 : Int))] else some [(Dat.i (szR (.sl s14) (a.fld 9) (szR (.sl tInt) (a.fld 8) (szR (.sl s10) (a.fld 7) (szR (.sl s9) (a.fld 6) (szR (.sl s4) (a.fld 5) (szR (.sl s5) (a.fld 4) (szR (.sl s4) (a.fld 3) (szR (.sl s3) (a.fld 2) (szR (.sl s2) (a.fld 1) l.int))))))))))]) else none)) else none)) else none)) else none)) else none)) else none)) else none)) else none)) else none) := by kernel_rfl
theorem con4 : ConOk E Tryz.prog 4 (szSig s15) := con hM hD hT hC4 keep4 Tryz.func4 (by kernel_rfl) (by kernel_rfl) fun ds hl hp => by
  obtain ⟨a, l, rfl⟩ := ds_two hl
  obtain ⟨ha, h0, h1⟩ := sz_pre (show (fit M s15 a && (decide (0 ≤ l.int) && decide (l.int ≤ 1048576))) = true from hp)
  refine ⟨0, ?_⟩
  have k9 : fit M (.sl s14) (a.fld 9) = true := fit_fld ha 9 rfl
  have k8 : fit M (.sl tInt) (a.fld 8) = true := fit_fld ha 8 rfl
  have k7 : fit M (.sl s10) (a.fld 7) = true := fit_fld ha 7 rfl
  have k6 : fit M (.sl s9) (a.fld 6) = true := fit_fld ha 6 rfl
  have k5 : fit M (.sl s4) (a.fld 5) = true := fit_fld ha 5 rfl
  have k4 : fit M (.sl s5) (a.fld 4) = true := fit_fld ha 4 rfl
  have k3 : fit M (.sl s4) (a.fld 3) = true := fit_fld ha 3 rfl
  have k2 : fit M (.sl s3) (a.fld 2) = true := fit_fld ha 2 rfl
  have k1 : fit M (.sl s2) (a.fld 1) = true := fit_fld ha 1 rfl
  have hw : wt s15 a = (wt (.sl s2) (a.fld 1) + (wt (.sl s3) (a.fld 2) + (wt (.sl s4) (a.fld 3) + (wt (.sl s5) (a.fld 4) + (wt (.sl s4) (a.fld 5) + (wt (.sl s9) (a.fld 6) + (wt (.sl s10) (a.fld 7) + (wt (.sl tInt) (a.fld 8) + (wt (.sl s14) (a.fld 9) + 0))))))))) := by
    simp only [wt_st, wts_cons, wts_nil, wt_int, Nat.zero_add, Nat.add_zero]
  show _ = some [Dat.i (szr (wt s15 a) l.int)]
  rw [f4_start, hw]
  exact sz_call (k := fun l0 => (bif (fit M (.sl s3) (a.fld 2) && (decide (0 ≤ l0) && decide (l0 ≤ 1048576))) then (bif decide ((szR (.sl s3) (a.fld 2) l0) < (0 : Int)) then some [(Dat.i (-1 : Int))] else (bif (fit M (.sl s4) (a.fld 3) && (decide (0 ≤ (szR (.sl s3) (a.fld 2) l0)) && decide ((szR (.sl s3) (a.fld 2) l0) ≤ 1048576))) then (bif decide ((szR (.sl s4) (a.fld 3) (szR (.sl s3) (a.fld 2) l0)) < (0 : Int)) then some [(Dat.i (-1 : Int))] else (bif (fit M (.sl s5) (a.fld 4) && (decide (0 ≤ (szR (.sl s4) (a.fld 3) (szR (.sl s3) (a.fld 2) l0))) && decide ((szR (.sl s4) (a.fld 3) (szR (.sl s3) (a.fld 2) l0)) ≤ 1048576))) then (bif decide ((szR (.sl s5) (a.fld 4) (szR (.sl s4) (a.fld 3) (szR (.sl s3) (a.fld 2) l0))) < (0 : Int)) then some [(Dat.i (-1 : Int))] else (bif (fit M (.sl s4) (a.fld 5) && (decide (0 ≤ (szR (.sl s5) (a.fld 4) (szR (.sl s4) (a.fld 3) (szR (.sl s3) (a.fld 2) l0)))) && decide ((szR (.sl s5) (a.fld 4) (szR (.sl s4) (a.fld 3) (szR (.sl s3) (a.fld 2) l0))) ≤ 1048576))) then (bif decide ((szR (.sl s4) (a.fld 5) (szR (.sl s5) (a.fld 4) (szR (.sl s4) (a.fld 3) (szR (.sl s3) (a.fld 2) l0)))) < (0 : Int)) then some [(Dat.i (-1 : Int))] else (bif (fit M (.sl s9) (a.fld 6) && (decide (0 ≤ (szR (.sl s4) (a.fld 5) (szR (.sl s5) (a.fld 4) (szR (.sl s4) (a.fld 3) (szR (.sl s3) (a.fld 2) l0))))) && decide ((szR (.sl s4) (a.fld 5) (szR (.sl s5) (a.fld 4) (szR (.sl s4) (a.fld 3) (szR (.sl s3) (a.fld 2) l0)))) ≤ 1048576))) then (bif decide ((szR (.sl s9) (a.fld 6) (szR (.sl s4) (a.fld 5) (szR (.sl s5) (a.fld 4) (szR (.sl s4) (a.fld 3) (szR (.sl s3) (a.fld 2) l0))))) < (0 : Int)) then some [(Dat.i (-1 : Int))] else (bif (fit M (.sl s10) (a.fld 7) && (decide (0 ≤ (szR (.sl s9) (a.fld 6) (szR (.sl s4) (a.fld 5) (szR (.sl s5) (a.fld 4) (szR (.sl s4) (a.fld 3) (szR (.sl s3) (a.fld 2) l0)))))) && decide ((szR (.sl s9) (a.fld 6) (szR (.sl s4) (a.fld 5) (szR (.sl s5) (a.fld 4) (szR (.sl s4) (a.fld 3) (szR (.sl s3) (a.fld 2) l0))))) ≤ 1048576))) then (bif decide ((szR (.sl s10) (a.fld 7) (szR (.sl s9) (a.fld 6) (szR (.sl s4) (a.fld 5) (szR (.sl s5) (a.fld 4) (szR (.sl s4) (a.fld 3) (szR (.sl s3) (a.fld 2) l0)))))) < (0 : Int)) then some [(Dat.i (-1 : Int))] else (bif (fit M (.sl tInt) (a.fld 8) && (decide (0 ≤ (szR (.sl s10) (a.fld 7) (szR (.sl s9) (a.fld 6) (szR (.sl s4) (a.fld 5) (szR (.sl s5) (a.fld 4) (szR (.sl s4) (a.fld 3) (szR (.sl s3) (a.fld 2) l0))))))) && decide ((szR (.sl s10) (a.fld 7) (szR (.sl s9) (a.fld 6) (szR (.sl s4) (a.fld 5) (szR (.sl s5) (a.fld 4) (szR (.sl s4) (a.fld 3) (szR (.sl s3) (a.fld 2) l0)))))) ≤ 1048576))) then (bif decide ((szR (.sl tInt) (a.fld 8) (szR (.sl s10) (a.fld 7) (szR (.sl s9) (a.fld 6) (szR (.sl s4) (a.fld 5) (szR (.sl s5) (a.fld 4) (szR (.sl s4) (a.fld 3) (szR (.sl s3) (a.fld 2) l0))))))) < (0 : Int)) then some [(Dat.i (-1 : Int))] else (bif (fit M (.sl s14) (a.fld 9) && (decide (0 ≤ (szR (.sl tInt) (a.fld 8) (szR (.sl s10) (a.fld 7) (szR (.sl s9) (a.fld 6) (szR (.sl s4) (a.fld 5) (szR (.sl s5) (a.fld 4) (szR (.sl s4) (a.fld 3) (szR (.sl s3) (a.fld 2) l0)))))))) && decide ((szR (.sl tInt) (a.fld 8) (szR (.sl s10) (a.fld 7) (szR (.sl s9) (a.fld 6) (szR (.sl s4) (a.fld 5) (szR (.sl s5) (a.fld 4) (szR (.sl s4) (a.fld 3) (szR (.sl s3) (a.fld 2) l0))))))) ≤ 1048576))) then (bif decide ((szR (.sl s14) (a.fld 9) (szR (.sl tInt) (a.fld 8) (szR (.sl s10) (a.fld 7) (szR (.sl s9) (a.fld 6) (szR (.sl s4) (a.fld 5) (szR (.sl s5) (a.fld 4) (szR (.sl s4) (a.fld 3) (szR (.sl s3) (a.fld 2) l0)))))))) < (0 : Int)) then some [(Dat.i (-1 : Int))] else some [(Dat.i (szR (.sl s14) (a.fld 9) (szR (.sl tInt) (a.fld 8) (szR (.sl s10) (a.fld 7) (szR (.sl s9) (a.fld 6) (szR (.sl s4) (a.fld 5) (szR (.sl s5) (a.fld 4) (szR (.sl s4) (a.fld 3) (szR (.sl s3) (a.fld 2) l0)))))))))]) else none)) else none)) else none)) else none)) else none)) else none)) else none)) else none)) k1 h0 h1 (fun l0 p0 q0 => sz_call (k := fun l1 => (bif (fit M (.sl s4) (a.fld 3) && (decide (0 ≤ l1) && decide (l1 ≤ 1048576))) then (bif decide ((szR (.sl s4) (a.fld 3) l1) < (0 : Int)) then some [(Dat.i (-1 : Int))] else (bif (fit M (.sl s5) (a.fld 4) && (decide (0 ≤ (szR (.sl s4) (a.fld 3) l1)) && decide ((szR (.sl s4) (a.fld 3) l1) ≤ 1048576))) then (bif decide ((szR (.sl s5) (a.fld 4) (szR (.sl s4) (a.fld 3) l1)) < (0 : Int)) then some [(Dat.i (-1 : Int))] else (bif (fit M (.sl s4) (a.fld 5) && (decide (0 ≤ (szR (.sl s5) (a.fld 4) (szR (.sl s4) (a.fld 3) l1))) && decide ((szR (.sl s5) (a.fld 4) (szR (.sl s4) (a.fld 3) l1)) ≤ 1048576))) then (bif decide ((szR (.sl s4) (a.fld 5) (szR (.sl s5) (a.fld 4) (szR (.sl s4) (a.fld 3) l1))) < (0 : Int)) then some [(Dat.i (-1 : Int))] else (bif (fit M (.sl s9) (a.fld 6) && (decide (0 ≤ (szR (.sl s4) (a.fld 5) (szR (.sl s5) (a.fld 4) (szR (.sl s4) (a.fld 3) l1)))) && decide ((szR (.sl s4) (a.fld 5) (szR (.sl s5) (a.fld 4) (szR (.sl s4) (a.fld 3) l1))) ≤ 1048576))) then (bif decide ((szR (.sl s9) (a.fld 6) (szR (.sl s4) (a.fld 5) (szR (.sl s5) (a.fld 4) (szR (.sl s4) (a.fld 3) l1)))) < (0 : Int)) then some [(Dat.i (-1 : Int))] else (bif (fit M (.sl s10) (a.fld 7) && (decide (0 ≤ (szR (.sl s9) (a.fld 6) (szR (.sl s4) (a.fld 5) (szR (.sl s5) (a.fld 4) (szR (.sl s4) (a.fld 3) l1))))) && decide ((szR (.sl s9) (a.fld 6) (szR (.sl s4) (a.fld 5) (szR (.sl s5) (a.fld 4) (szR (.sl s4) (a.fld 3) l1)))) ≤ 1048576))) then (bif decide ((szR (.sl s10) (a.fld 7) (szR (.sl s9) (a.fld 6) (szR (.sl s4) (a.fld 5) (szR (.sl s5) (a.fld 4) (szR (.sl s4) (a.fld 3) l1))))) < (0 : Int)) then some [(Dat.i (-1 : Int))] else (bif (fit M (.sl tInt) (a.fld 8) && (decide (0 ≤ (szR (.sl s10) (a.fld 7) (szR (.sl s9) (a.fld 6) (szR (.sl s4) (a.fld 5) (szR (.sl s5) (a.fld 4) (szR (.sl s4) (a.fld 3) l1)))))) && decide ((szR (.sl s10) (a.fld 7) (szR (.sl s9) (a.fld 6) (szR (.sl s4) (a.fld 5) (szR (.sl s5) (a.fld 4) (szR (.sl s4) (a.fld 3) l1))))) ≤ 1048576))) then (bif decide ((szR (.sl tInt) (a.fld 8) (szR (.sl s10) (a.fld 7) (szR (.sl s9) (a.fld 6) (szR (.sl s4) (a.fld 5) (szR (.sl s5) (a.fld 4) (szR (.sl s4) (a.fld 3) l1)))))) < (0 : Int)) then some [(Dat.i (-1 : Int))] else (bif (fit M (.sl s14) (a.fld 9) && (decide (0 ≤ (szR (.sl tInt) (a.fld 8) (szR (.sl s10) (a.fld 7) (szR (.sl s9) (a.fld 6) (szR (.sl s4) (a.fld 5) (szR (.sl s5) (a.fld 4) (szR (.sl s4) (a.fld 3) l1))))))) && decide ((szR (.sl tInt) (a.fld 8) (szR (.sl s10) (a.fld 7) (szR (.sl s9) (a.fld 6) (szR (.sl s4) (a.fld 5) (szR (.sl s5) (a.fld 4) (szR (.sl s4) (a.fld 3) l1)))))) ≤ 1048576))) then (bif decide ((szR (.sl s14) (a.fld 9) (szR (.sl tInt) (a.fld 8) (szR (.sl s10) (a.fld 7) (szR (.sl s9) (a.fld 6) (szR (.sl s4) (a.fld 5) (szR (.sl s5) (a.fld 4) (szR (.sl s4) (a.fld 3) l1))))))) < (0 : Int)) then some [(Dat.i (-1 : Int))] else some [(Dat.i (szR (.sl s14) (a.fld 9) (szR (.sl tInt) (a.fld 8) (szR (.sl s10) (a.fld 7) (szR (.sl s9) (a.fld 6) (szR (.sl s4) (a.fld 5) (szR (.sl s5) (a.fld 4) (szR (.sl s4) (a.fld 3) l1))))))))]) else none)) else none)) else none)) else none)) else none)) else none)) else none)) k2 p0 q0 (fun l1 p1 q1 => sz_call (k := fun l2 => (bif (fit M (.sl s5) (a.fld 4) && (decide (0 ≤ l2) && decide (l2 ≤ 1048576))) then (bif decide ((szR (.sl s5) (a.fld 4) l2) < (0 : Int)) then some [(Dat.i (-1 : Int))] else (bif (fit M (.sl s4) (a.fld 5) && (decide (0 ≤ (szR (.sl s5) (a.fld 4) l2)) && decide ((szR (.sl s5) (a.fld 4) l2) ≤ 1048576))) then (bif decide ((szR (.sl s4) (a.fld 5) (szR (.sl s5) (a.fld 4) l2)) < (0 : Int)) then some [(Dat.i (-1 : Int))] else (bif (fit M (.sl s9) (a.fld 6) && (decide (0 ≤ (szR (.sl s4) (a.fld 5) (szR (.sl s5) (a.fld 4) l2))) && decide ((szR (.sl s4) (a.fld 5) (szR (.sl s5) (a.fld 4) l2)) ≤ 1048576))) then (bif decide ((szR (.sl s9) (a.fld 6) (szR (.sl s4) (a.fld 5) (szR (.sl s5) (a.fld 4) l2))) < (0 : Int)) then some [(Dat.i (-1 : Int))] else (bif (fit M (.sl s10) (a.fld 7) && (decide (0 ≤ (szR (.sl s9) (a.fld 6) (szR (.sl s4) (a.fld 5) (szR (.sl s5) (a.fld 4) l2)))) && decide ((szR (.sl s9) (a.fld 6) (szR (.sl s4) (a.fld 5) (szR (.sl s5) (a.fld 4) l2))) ≤ 1048576))) then (bif decide ((szR (.sl s10) (a.fld 7) (szR (.sl s9) (a.fld 6) (szR (.sl s4) (a.fld 5) (szR (.sl s5) (a.fld 4) l2)))) < (0 : Int)) then some [(Dat.i (-1 : Int))] else (bif (fit M (.sl tInt) (a.fld 8) && (decide (0 ≤ (szR (.sl s10) (a.fld 7) (szR (.sl s9) (a.fld 6) (szR (.sl s4) (a.fld 5) (szR (.sl s5) (a.fld 4) l2))))) && decide ((szR (.sl s10) (a.fld 7) (szR (.sl s9) (a.fld 6) (szR (.sl s4) (a.fld 5) (szR (.sl s5) (a.fld 4) l2)))) ≤ 1048576))) then (bif decide ((szR (.sl tInt) (a.fld 8) (szR (.sl s10) (a.fld 7) (szR (.sl s9) (a.fld 6) (szR (.sl s4) (a.fld 5) (szR (.sl s5) (a.fld 4) l2))))) < (0 : Int)) then some [(Dat.i (-1 : Int))] else (bif (fit M (.sl s14) (a.fld 9) && (decide (0 ≤ (szR (.sl tInt) (a.fld 8) (szR (.sl s10) (a.fld 7) (szR (.sl s9) (a.fld 6) (szR (.sl s4) (a.fld 5) (szR (.sl s5) (a.fld 4) l2)))))) && decide ((szR (.sl tInt) (a.fld 8) (szR (.sl s10) (a.fld 7) (szR (.sl s9) (a.fld 6) (szR (.sl s4) (a.fld 5) (szR (.sl s5) (a.fld 4) l2))))) ≤ 1048576))) then (bif decide ((szR (.sl s14) (a.fld 9) (szR (.sl tInt) (a.fld 8) (szR (.sl s10) (a.fld 7) (szR (.sl s9) (a.fld 6) (szR (.sl s4) (a.fld 5) (szR (.sl s5) (a.fld 4) l2)))))) < (0 : Int)) then some [(Dat.i (-1 : Int))] else some [(Dat.i (szR (.sl s14) (a.fld 9) (szR (.sl tInt) (a.fld 8) (szR (.sl s10) (a.fld 7) (szR (.sl s9) (a.fld 6) (szR (.sl s4) (a.fld 5) (szR (.sl s5) (a.fld 4) l2)))))))]) else none)) else none)) else none)) else none)) else none)) else none)) k3 p1 q1 (fun l2 p2 q2 => sz_call (k := fun l3 => (bif (fit M (.sl s4) (a.fld 5) && (decide (0 ≤ l3) && decide (l3 ≤ 1048576))) then (bif decide ((szR (.sl s4) (a.fld 5) l3) < (0 : Int)) then some [(Dat.i (-1 : Int))] else (bif (fit M (.sl s9) (a.fld 6) && (decide (0 ≤ (szR (.sl s4) (a.fld 5) l3)) && decide ((szR (.sl s4) (a.fld 5) l3) ≤ 1048576))) then (bif decide ((szR (.sl s9) (a.fld 6) (szR (.sl s4) (a.fld 5) l3)) < (0 : Int)) then some [(Dat.i (-1 : Int))] else (bif (fit M (.sl s10) (a.fld 7) && (decide (0 ≤ (szR (.sl s9) (a.fld 6) (szR (.sl s4) (a.fld 5) l3))) && decide ((szR (.sl s9) (a.fld 6) (szR (.sl s4) (a.fld 5) l3)) ≤ 1048576))) then (bif decide ((szR (.sl s10) (a.fld 7) (szR (.sl s9) (a.fld 6) (szR (.sl s4) (a.fld 5) l3))) < (0 : Int)) then some [(Dat.i (-1 : Int))] else (bif (fit M (.sl tInt) (a.fld 8) && (decide (0 ≤ (szR (.sl s10) (a.fld 7) (szR (.sl s9) (a.fld 6) (szR (.sl s4) (a.fld 5) l3)))) && decide ((szR (.sl s10) (a.fld 7) (szR (.sl s9) (a.fld 6) (szR (.sl s4) (a.fld 5) l3))) ≤ 1048576))) then (bif decide ((szR (.sl tInt) (a.fld 8) (szR (.sl s10) (a.fld 7) (szR (.sl s9) (a.fld 6) (szR (.sl s4) (a.fld 5) l3)))) < (0 : Int)) then some [(Dat.i (-1 : Int))] else (bif (fit M (.sl s14) (a.fld 9) && (decide (0 ≤ (szR (.sl tInt) (a.fld 8) (szR (.sl s10) (a.fld 7) (szR (.sl s9) (a.fld 6) (szR (.sl s4) (a.fld 5) l3))))) && decide ((szR (.sl tInt) (a.fld 8) (szR (.sl s10) (a.fld 7) (szR (.sl s9) (a.fld 6) (szR (.sl s4) (a.fld 5) l3)))) ≤ 1048576))) then (bif decide ((szR (.sl s14) (a.fld 9) (szR (.sl tInt) (a.fld 8) (szR (.sl s10) (a.fld 7) (szR (.sl s9) (a.fld 6) (szR (.sl s4) (a.fld 5) l3))))) < (0 : Int)) then some [(Dat.i (-1 : Int))] else some [(Dat.i (szR (.sl s14) (a.fld 9) (szR (.sl tInt) (a.fld 8) (szR (.sl s10) (a.fld 7) (szR (.sl s9) (a.fld 6) (szR (.sl s4) (a.fld 5) l3))))))]) else none)) else none)) else none)) else none)) else none)) k4 p2 q2 (fun l3 p3 q3 => sz_call (k := fun l4 => (bif (fit M (.sl s9) (a.fld 6) && (decide (0 ≤ l4) && decide (l4 ≤ 1048576))) then (bif decide ((szR (.sl s9) (a.fld 6) l4) < (0 : Int)) then some [(Dat.i (-1 : Int))] else (bif (fit M (.sl s10) (a.fld 7) && (decide (0 ≤ (szR (.sl s9) (a.fld 6) l4)) && decide ((szR (.sl s9) (a.fld 6) l4) ≤ 1048576))) then (bif decide ((szR (.sl s10) (a.fld 7) (szR (.sl s9) (a.fld 6) l4)) < (0 : Int)) then some [(Dat.i (-1 : Int))] else (bif (fit M (.sl tInt) (a.fld 8) && (decide (0 ≤ (szR (.sl s10) (a.fld 7) (szR (.sl s9) (a.fld 6) l4))) && decide ((szR (.sl s10) (a.fld 7) (szR (.sl s9) (a.fld 6) l4)) ≤ 1048576))) then (bif decide ((szR (.sl tInt) (a.fld 8) (szR (.sl s10) (a.fld 7) (szR (.sl s9) (a.fld 6) l4))) < (0 : Int)) then some [(Dat.i (-1 : Int))] else (bif (fit M (.sl s14) (a.fld 9) && (decide (0 ≤ (szR (.sl tInt) (a.fld 8) (szR (.sl s10) (a.fld 7) (szR (.sl s9) (a.fld 6) l4)))) && decide ((szR (.sl tInt) (a.fld 8) (szR (.sl s10) (a.fld 7) (szR (.sl s9) (a.fld 6) l4))) ≤ 1048576))) then (bif decide ((szR (.sl s14) (a.fld 9) (szR (.sl tInt) (a.fld 8) (szR (.sl s10) (a.fld 7) (szR (.sl s9) (a.fld 6) l4)))) < (0 : Int)) then some [(Dat.i (-1 : Int))] else some [(Dat.i (szR (.sl s14) (a.fld 9) (szR (.sl tInt) (a.fld 8) (szR (.sl s10) (a.fld 7) (szR (.sl s9) (a.fld 6) l4)))))]) else none)) else none)) else none)) else none)) k5 p3 q3 (fun l4 p4 q4 => sz_call (k := fun l5 => (bif (fit M (.sl s10) (a.fld 7) && (decide (0 ≤ l5) && decide (l5 ≤ 1048576))) then (bif decide ((szR (.sl s10) (a.fld 7) l5) < (0 : Int)) then some [(Dat.i (-1 : Int))] else (bif (fit M (.sl tInt) (a.fld 8) && (decide (0 ≤ (szR (.sl s10) (a.fld 7) l5)) && decide ((szR (.sl s10) (a.fld 7) l5) ≤ 1048576))) then (bif decide ((szR (.sl tInt) (a.fld 8) (szR (.sl s10) (a.fld 7) l5)) < (0 : Int)) then some [(Dat.i (-1 : Int))] else (bif (fit M (.sl s14) (a.fld 9) && (decide (0 ≤ (szR (.sl tInt) (a.fld 8) (szR (.sl s10) (a.fld 7) l5))) && decide ((szR (.sl tInt) (a.fld 8) (szR (.sl s10) (a.fld 7) l5)) ≤ 1048576))) then (bif decide ((szR (.sl s14) (a.fld 9) (szR (.sl tInt) (a.fld 8) (szR (.sl s10) (a.fld 7) l5))) < (0 : Int)) then some [(Dat.i (-1 : Int))] else some [(Dat.i (szR (.sl s14) (a.fld 9) (szR (.sl tInt) (a.fld 8) (szR (.sl s10) (a.fld 7) l5))))]) else none)) else none)) else none)) k6 p4 q4 (fun l5 p5 q5 => sz_call (k := fun l6 => (bif (fit M (.sl tInt) (a.fld 8) && (decide (0 ≤ l6) && decide (l6 ≤ 1048576))) then (bif decide ((szR (.sl tInt) (a.fld 8) l6) < (0 : Int)) then some [(Dat.i (-1 : Int))] else (bif (fit M (.sl s14) (a.fld 9) && (decide (0 ≤ (szR (.sl tInt) (a.fld 8) l6)) && decide ((szR (.sl tInt) (a.fld 8) l6) ≤ 1048576))) then (bif decide ((szR (.sl s14) (a.fld 9) (szR (.sl tInt) (a.fld 8) l6)) < (0 : Int)) then some [(Dat.i (-1 : Int))] else some [(Dat.i (szR (.sl s14) (a.fld 9) (szR (.sl tInt) (a.fld 8) l6)))]) else none)) else none)) k7 p5 q5 (fun l6 p6 q6 => sz_call (k := fun l7 => (bif (fit M (.sl s14) (a.fld 9) && (decide (0 ≤ l7) && decide (l7 ≤ 1048576))) then (bif decide ((szR (.sl s14) (a.fld 9) l7) < (0 : Int)) then some [(Dat.i (-1 : Int))] else some [(Dat.i (szR (.sl s14) (a.fld 9) l7))]) else none)) k8 p6 q6 (fun l7 p7 q7 => sz_call (k := fun l8 => some [(Dat.i l8)]) k9 p7 q7 (fun l8 p8 q8 => (by rw [szr_zero p8]))))))))))


/-! laws.toVal -/
abbrev C76 : FuncId → Option Sig := tabC []
theorem hC76 : ∀ g sg, C76 g = some sg → ConOk E Tryz.prog g sg := tabC_nil
abbrev keep76 : Nat → List Nat := fun _ => []
theorem f76_start (K : Nat) (a : Dat) : evBody T C76 noL K keep76 Tryz.f76 [s1] [s1] [a] =
      some [(Dat.n [(Dat.b ((a.fld 0).bool)), (Dat.i ((a.fld 1).int))])] := by kernel_rfl
theorem con76 : ConOk E Tryz.prog 76 (toSig s1 s1) := con hM hD hT hC76 keep76 Tryz.func76 (by kernel_rfl) (by kernel_rfl) fun ds hl hp => by
  obtain ⟨a, rfl⟩ := ds_one hl
  replace hp : fit 1048576 s1 a = true := hp
  refine ⟨0, ?_⟩
  rw [f76_start]
  rfl


/-! laws.toValS -/
abbrev C65 : FuncId → Option Sig := tabC [(76, toSig s1 s1)]
theorem hC65 : ∀ g sg, C65 g = some sg → ConOk E Tryz.prog g sg := (tabC_cons con76 tabC_nil)
abbrev keep65 : Nat → List Nat | 0 => [0, 3, 4] | _ => []
def S65_0 (x0 : Dat) (x4 : Int) (l0 : (List Dat)) : St := ⟨[.ro s1 x0, .u, .u, .hd 0, .int .i64 x4] ++ us 18, [.arr s1 l0]⟩
theorem f65_round0 (K n : Nat) (x0 : Dat) (x4 : Int) (l0 : (List Dat)) :
    loopE T C65 K keep65 Tryz.f65 0 0 (behind T C65 K keep65 Tryz.f65 [(.sl s1)] 0) (n + 1) (S65_0 x0 x4 l0) =
      (bif decide (x4 < (x0.len : Int)) then (bif (decide (0 ≤ x4) && decide (x4 < (x0.len : Int))) then (bif fit 1048576 s1 (x0.fld x4.toNat) then (bif (decide (0 ≤ x4) && decide (x4 < (l0.length : Int))) then loopE T C65 K keep65 Tryz.f65 0 0 (behind T C65 K keep65 Tryz.f65 [(.sl s1)] 0) n (S65_0 x0 (IntKind.i64.wrap (x4 + (1 : Int))) (l0.set x4.toNat (can s1 (x0.fld x4.toNat)))) else none) else none) else none) else some [(Dat.n l0)]) := by kernel_rfl
theorem f65_start (K : Nat) (a : Dat) : evBody T C65 noL K keep65 Tryz.f65 [(.sl s1)] [(.sl s1)] [a] =
      (bif (decide (0 ≤ (a.len : Int)) && (decide ((a.len : Int) ≤ 4294967296) && decide ((a.len : Int) = (a.len : Int)))) then loopE T C65 K keep65 Tryz.f65 0 0 (behind T C65 K keep65 Tryz.f65 [(.sl s1)] 0) K (S65_0 a (0 : Int) (List.replicate (a.len : Int).toNat (zeroD s1))) else none) := by kernel_rfl
theorem con65 : ConOk E Tryz.prog 65 (toSig (.sl s1) (.sl s1)) := con hM hD hT hC65 keep65 Tryz.func65 (by kernel_rfl) (by kernel_rfl) fun ds hl hp => by
  obtain ⟨a, rfl⟩ := ds_one hl
  replace hp : fit 1048576 (.sl s1) a = true := hp
  obtain ⟨hn, he⟩ := fit_sl hp
  refine ⟨a.len + 1, ?_⟩
  have c1 : (decide (0 ≤ (a.len : Int)) && (decide ((a.len : Int) ≤ 4294967296) && decide ((a.len : Int) = (a.len : Int)))) = true := by simp; omega
  rw [f65_start, c1, cond_true, Int.toNat_natCast]
  refine (fill_loop (E := fun n j l => loopE T C65 (a.len + 1) keep65 Tryz.f65 0 0 (behind T C65 (a.len + 1) keep65 Tryz.f65 [(.sl s1)] 0) n (S65_0 a (j : Int) l)) (N := a.len) (g := fun j => can s1 (a.fld j)) (fin := fun l => some [Dat.n l]) (zeroD s1) (fun n j l hj hlen => ?_) (fun n l _ => ?_)).trans ?_
  · have f1 := he j hj
    have hj2 : j < l.length := by omega
    show loopE T C65 (a.len + 1) keep65 Tryz.f65 0 0 (behind T C65 (a.len + 1) keep65 Tryz.f65 [(.sl s1)] 0) (n + 1) (S65_0 a (j : Int) l) = _
    rw [f65_round0]
    simp only [dlt hj, dge, dlt hj2, Int.toNat_natCast, f1, Bool.and_self, cond_true, wrap_succ hj (by unfold M; omega)]
    try rfl
  · show loopE T C65 (a.len + 1) keep65 Tryz.f65 0 0 (behind T C65 (a.len + 1) keep65 Tryz.f65 [(.sl s1)] 0) (n + 1) (S65_0 a (a.len : Int) l) = _
    rw [f65_round0, dnlt (Nat.lt_irrefl _)]; rfl
  · show _ = some [can (.sl s1) a]
    rw [kids_can]


/-! laws.toCopy -/
abbrev C44 : FuncId → Option Sig := tabC [(65, toSig (.sl s1) (.sl s1))]
theorem hC44 : ∀ g sg, C44 g = some sg → ConOk E Tryz.prog g sg := (tabC_cons con65 tabC_nil)
abbrev keep44 : Nat → List Nat := fun _ => []
theorem f44_start (K : Nat) (a : Dat) : evBody T C44 noL K keep44 Tryz.f44 [s2] [s2] [a] =
      (bif fit 1048576 (.sl s1) (a.fld 4) then (bif fit 1048576 (.sl s1) (a.fld 5) then some [(Dat.n [(Dat.i ((a.fld 0).int)), (Dat.i ((a.fld 1).int)), (Dat.i ((a.fld 2).int)), (Dat.b ((a.fld 3).bool)), (Dat.n ((can (.sl s1) (a.fld 4)).kids)), (Dat.n ((can (.sl s1) (a.fld 5)).kids))])] else none) else none) := by kernel_rfl
theorem con44 : ConOk E Tryz.prog 44 (toSig s2 s2) := con hM hD hT hC44 keep44 Tryz.func44 (by kernel_rfl) (by kernel_rfl) fun ds hl hp => by
  obtain ⟨a, rfl⟩ := ds_one hl
  replace hp : fit 1048576 s2 a = true := hp
  refine ⟨0, ?_⟩
  have h4 : fit 1048576 (.sl s1) (a.fld 4) = true := fit_fld hp 4 rfl
  have h5 : fit 1048576 (.sl s1) (a.fld 5) = true := fit_fld hp 5 rfl
  rw [f44_start]
  simp only [h4, h5, cond_true]
  rfl


/-! laws.toCopyS -/
abbrev C19 : FuncId → Option Sig := tabC [(44, toSig s2 s2)]
theorem hC19 : ∀ g sg, C19 g = some sg → ConOk E Tryz.prog g sg := (tabC_cons con44 tabC_nil)
abbrev keep19 : Nat → List Nat | 0 => [0, 3, 4] | _ => []
def S19_0 (x0 : Dat) (x4 : Int) (l0 : (List Dat)) : St := ⟨[.ro s2 x0, .u, .u, .hd 0, .int .i64 x4] ++ us 18, [.arr s2 l0]⟩
theorem f19_round0 (K n : Nat) (x0 : Dat) (x4 : Int) (l0 : (List Dat)) :
    loopE T C19 K keep19 Tryz.f19 0 0 (behind T C19 K keep19 Tryz.f19 [(.sl s2)] 0) (n + 1) (S19_0 x0 x4 l0) =
      (bif decide (x4 < (x0.len : Int)) then (bif (decide (0 ≤ x4) && decide (x4 < (x0.len : Int))) then (bif fit 1048576 s2 (x0.fld x4.toNat) then (bif (decide (0 ≤ x4) && decide (x4 < (l0.length : Int))) then loopE T C19 K keep19 Tryz.f19 0 0 (behind T C19 K keep19 Tryz.f19 [(.sl s2)] 0) n (S19_0 x0 (IntKind.i64.wrap (x4 + (1 : Int))) (l0.set x4.toNat (can s2 (x0.fld x4.toNat)))) else none) else none) else none) else some [(Dat.n l0)]) := by kernel_rfl
theorem f19_start (K : Nat) (a : Dat) : evBody T C19 noL K keep19 Tryz.f19 [(.sl s2)] [(.sl s2)] [a] =
      (bif (decide (0 ≤ (a.len : Int)) && (decide ((a.len : Int) ≤ 4294967296) && decide ((a.len : Int) = (a.len : Int)))) then loopE T C19 K keep19 Tryz.f19 0 0 (behind T C19 K keep19 Tryz.f19 [(.sl s2)] 0) K (S19_0 a (0 : Int) (List.replicate (a.len : Int).toNat (zeroD s2))) else none) := by kernel_rfl
theorem con19 : ConOk E Tryz.prog 19 (toSig (.sl s2) (.sl s2)) := con hM hD hT hC19 keep19 Tryz.func19 (by kernel_rfl) (by kernel_rfl) fun ds hl hp => by
  obtain ⟨a, rfl⟩ := ds_one hl
  replace hp : fit 1048576 (.sl s2) a = true := hp
  obtain ⟨hn, he⟩ := fit_sl hp
  refine ⟨a.len + 1, ?_⟩
  have c1 : (decide (0 ≤ (a.len : Int)) && (decide ((a.len : Int) ≤ 4294967296) && decide ((a.len : Int) = (a.len : Int)))) = true := by simp; omega
  rw [f19_start, c1, cond_true, Int.toNat_natCast]
  refine (fill_loop (E := fun n j l => loopE T C19 (a.len + 1) keep19 Tryz.f19 0 0 (behind T C19 (a.len + 1) keep19 Tryz.f19 [(.sl s2)] 0) n (S19_0 a (j : Int) l)) (N := a.len) (g := fun j => can s2 (a.fld j)) (fin := fun l => some [Dat.n l]) (zeroD s2) (fun n j l hj hlen => ?_) (fun n l _ => ?_)).trans ?_
  · have f1 := he j hj
    have hj2 : j < l.length := by omega
    show loopE T C19 (a.len + 1) keep19 Tryz.f19 0 0 (behind T C19 (a.len + 1) keep19 Tryz.f19 [(.sl s2)] 0) (n + 1) (S19_0 a (j : Int) l) = _
    rw [f19_round0]
    simp only [dlt hj, dge, dlt hj2, Int.toNat_natCast, f1, Bool.and_self, cond_true, wrap_succ hj (by unfold M; omega)]
    try rfl
  · show loopE T C19 (a.len + 1) keep19 Tryz.f19 0 0 (behind T C19 (a.len + 1) keep19 Tryz.f19 [(.sl s2)] 0) (n + 1) (S19_0 a (a.len : Int) l) = _
    rw [f19_round0, dnlt (Nat.lt_irrefl _)]; rfl
  · show _ = some [can (.sl s2) a]
    rw [kids_can]


/-! laws.toMaster -/
abbrev C45 : FuncId → Option Sig := tabC [(65, toSig (.sl s1) (.sl s1))]
theorem hC45 : ∀ g sg, C45 g = some sg → ConOk E Tryz.prog g sg := (tabC_cons con65 tabC_nil)
abbrev keep45 : Nat → List Nat := fun _ => []
theorem f45_start (K : Nat) (a : Dat) : evBody T C45 noL K keep45 Tryz.f45 [s3] [s3] [a] =
      (bif fit 1048576 (.sl s1) (a.fld 3) then some [(Dat.n [(Dat.i ((a.fld 0).int)), (Dat.i ((a.fld 1).int)), (Dat.i ((a.fld 2).int)), (Dat.n ((can (.sl s1) (a.fld 3)).kids))])] else none) := by kernel_rfl
theorem con45 : ConOk E Tryz.prog 45 (toSig s3 s3) := con hM hD hT hC45 keep45 Tryz.func45 (by kernel_rfl) (by kernel_rfl) fun ds hl hp => by
  obtain ⟨a, rfl⟩ := ds_one hl
  replace hp : fit 1048576 s3 a = true := hp
  refine ⟨0, ?_⟩
  have h3 : fit 1048576 (.sl s1) (a.fld 3) = true := fit_fld hp 3 rfl
  rw [f45_start]
  simp only [h3, cond_true]
  rfl


/-! laws.toMasterS -/
abbrev C20 : FuncId → Option Sig := tabC [(45, toSig s3 s3)]
theorem hC20 : ∀ g sg, C20 g = some sg → ConOk E Tryz.prog g sg := (tabC_cons con45 tabC_nil)
abbrev keep20 : Nat → List Nat | 0 => [0, 3, 4] | _ => []
def S20_0 (x0 : Dat) (x4 : Int) (l0 : (List Dat)) : St := ⟨[.ro s3 x0, .u, .u, .hd 0, .int .i64 x4] ++ us 18, [.arr s3 l0]⟩
theorem f20_round0 (K n : Nat) (x0 : Dat) (x4 : Int) (l0 : (List Dat)) :
    loopE T C20 K keep20 Tryz.f20 0 0 (behind T C20 K keep20 Tryz.f20 [(.sl s3)] 0) (n + 1) (S20_0 x0 x4 l0) =
      (bif decide (x4 < (x0.len : Int)) then (bif (decide (0 ≤ x4) && decide (x4 < (x0.len : Int))) then (bif fit 1048576 s3 (x0.fld x4.toNat) then (bif (decide (0 ≤ x4) && decide (x4 < (l0.length : Int))) then loopE T C20 K keep20 Tryz.f20 0 0 (behind T C20 K keep20 Tryz.f20 [(.sl s3)] 0) n (S20_0 x0 (IntKind.i64.wrap (x4 + (1 : Int))) (l0.set x4.toNat (can s3 (x0.fld x4.toNat)))) else none) else none) else none) else some [(Dat.n l0)]) := by kernel_rfl
theorem f20_start (K : Nat) (a : Dat) : evBody T C20 noL K keep20 Tryz.f20 [(.sl s3)] [(.sl s3)] [a] =
      (bif (decide (0 ≤ (a.len : Int)) && (decide ((a.len : Int) ≤ 4294967296) && decide ((a.len : Int) = (a.len : Int)))) then loopE T C20 K keep20 Tryz.f20 0 0 (behind T C20 K keep20 Tryz.f20 [(.sl s3)] 0) K (S20_0 a (0 : Int) (List.replicate (a.len : Int).toNat (zeroD s3))) else none) := by kernel_rfl
theorem con20 : ConOk E Tryz.prog 20 (toSig (.sl s3) (.sl s3)) := con hM hD hT hC20 keep20 Tryz.func20 (by kernel_rfl) (by kernel_rfl) fun ds hl hp => by
  obtain ⟨a, rfl⟩ := ds_one hl
  replace hp : fit 1048576 (.sl s3) a = true := hp
  obtain ⟨hn, he⟩ := fit_sl hp
  refine ⟨a.len + 1, ?_⟩
  have c1 : (decide (0 ≤ (a.len : Int)) && (decide ((a.len : Int) ≤ 4294967296) && decide ((a.len : Int) = (a.len : Int)))) = true := by simp; omega
  rw [f20_start, c1, cond_true, Int.toNat_natCast]
  refine (fill_loop (E := fun n j l => loopE T C20 (a.len + 1) keep20 Tryz.f20 0 0 (behind T C20 (a.len + 1) keep20 Tryz.f20 [(.sl s3)] 0) n (S20_0 a (j : Int) l)) (N := a.len) (g := fun j => can s3 (a.fld j)) (fin := fun l => some [Dat.n l]) (zeroD s3) (fun n j l hj hlen => ?_) (fun n l _ => ?_)).trans ?_
  · have f1 := he j hj
    have hj2 : j < l.length := by omega
    show loopE T C20 (a.len + 1) keep20 Tryz.f20 0 0 (behind T C20 (a.len + 1) keep20 Tryz.f20 [(.sl s3)] 0) (n + 1) (S20_0 a (j : Int) l) = _
    rw [f20_round0]
    simp only [dlt hj, dge, dlt hj2, Int.toNat_natCast, f1, Bool.and_self, cond_true, wrap_succ hj (by unfold M; omega)]
    try rfl
  · show loopE T C20 (a.len + 1) keep20 Tryz.f20 0 0 (behind T C20 (a.len + 1) keep20 Tryz.f20 [(.sl s3)] 0) (n + 1) (S20_0 a (a.len : Int) l) = _
    rw [f20_round0, dnlt (Nat.lt_irrefl _)]; rfl
  · show _ = some [can (.sl s3) a]
    rw [kids_can]


/-! laws.toWant -/
abbrev C46 : FuncId → Option Sig := tabC []
theorem hC46 : ∀ g sg, C46 g = some sg → ConOk E Tryz.prog g sg := tabC_nil
abbrev keep46 : Nat → List Nat := fun _ => []
theorem f46_start (K : Nat) (a : Dat) : evBody T C46 noL K keep46 Tryz.f46 [s4] [s4] [a] =
      some [(Dat.n [(Dat.i ((a.fld 0).int)), (Dat.i ((a.fld 1).int))])] := by kernel_rfl
theorem con46 : ConOk E Tryz.prog 46 (toSig s4 s4) := con hM hD hT hC46 keep46 Tryz.func46 (by kernel_rfl) (by kernel_rfl) fun ds hl hp => by
  obtain ⟨a, rfl⟩ := ds_one hl
  replace hp : fit 1048576 s4 a = true := hp
  refine ⟨0, ?_⟩
  rw [f46_start]
  rfl


/-! laws.toWantS -/
abbrev C21 : FuncId → Option Sig := tabC [(46, toSig s4 s4)]
theorem hC21 : ∀ g sg, C21 g = some sg → ConOk E Tryz.prog g sg := (tabC_cons con46 tabC_nil)
abbrev keep21 : Nat → List Nat | 0 => [0, 3, 4] | _ => []
def S21_0 (x0 : Dat) (x4 : Int) (l0 : (List Dat)) : St := ⟨[.ro s4 x0, .u, .u, .hd 0, .int .i64 x4] ++ us 18, [.arr s4 l0]⟩
theorem f21_round0 (K n : Nat) (x0 : Dat) (x4 : Int) (l0 : (List Dat)) :
    loopE T C21 K keep21 Tryz.f21 0 0 (behind T C21 K keep21 Tryz.f21 [(.sl s4)] 0) (n + 1) (S21_0 x0 x4 l0) =
      (bif decide (x4 < (x0.len : Int)) then (bif (decide (0 ≤ x4) && decide (x4 < (x0.len : Int))) then (bif fit 1048576 s4 (x0.fld x4.toNat) then (bif (decide (0 ≤ x4) && decide (x4 < (l0.length : Int))) then loopE T C21 K keep21 Tryz.f21 0 0 (behind T C21 K keep21 Tryz.f21 [(.sl s4)] 0) n (S21_0 x0 (IntKind.i64.wrap (x4 + (1 : Int))) (l0.set x4.toNat (can s4 (x0.fld x4.toNat)))) else none) else none) else none) else some [(Dat.n l0)]) := by kernel_rfl
theorem f21_start (K : Nat) (a : Dat) : evBody T C21 noL K keep21 Tryz.f21 [(.sl s4)] [(.sl s4)] [a] =
      (bif (decide (0 ≤ (a.len : Int)) && (decide ((a.len : Int) ≤ 4294967296) && decide ((a.len : Int) = (a.len : Int)))) then loopE T C21 K keep21 Tryz.f21 0 0 (behind T C21 K keep21 Tryz.f21 [(.sl s4)] 0) K (S21_0 a (0 : Int) (List.replicate (a.len : Int).toNat (zeroD s4))) else none) := by kernel_rfl
theorem con21 : ConOk E Tryz.prog 21 (toSig (.sl s4) (.sl s4)) := con hM hD hT hC21 keep21 Tryz.func21 (by kernel_rfl) (by kernel_rfl) fun ds hl hp => by
  obtain ⟨a, rfl⟩ := ds_one hl
  replace hp : fit 1048576 (.sl s4) a = true := hp
  obtain ⟨hn, he⟩ := fit_sl hp
  refine ⟨a.len + 1, ?_⟩
  have c1 : (decide (0 ≤ (a.len : Int)) && (decide ((a.len : Int) ≤ 4294967296) && decide ((a.len : Int) = (a.len : Int)))) = true := by simp; omega
  rw [f21_start, c1, cond_true, Int.toNat_natCast]
  refine (fill_loop (E := fun n j l => loopE T C21 (a.len + 1) keep21 Tryz.f21 0 0 (behind T C21 (a.len + 1) keep21 Tryz.f21 [(.sl s4)] 0) n (S21_0 a (j : Int) l)) (N := a.len) (g := fun j => can s4 (a.fld j)) (fin := fun l => some [Dat.n l]) (zeroD s4) (fun n j l hj hlen => ?_) (fun n l _ => ?_)).trans ?_
  · have f1 := he j hj
    have hj2 : j < l.length := by omega
    show loopE T C21 (a.len + 1) keep21 Tryz.f21 0 0 (behind T C21 (a.len + 1) keep21 Tryz.f21 [(.sl s4)] 0) (n + 1) (S21_0 a (j : Int) l) = _
    rw [f21_round0]
    simp only [dlt hj, dge, dlt hj2, Int.toNat_natCast, f1, Bool.and_self, cond_true, wrap_succ hj (by unfold M; omega)]
    try rfl
  · show loopE T C21 (a.len + 1) keep21 Tryz.f21 0 0 (behind T C21 (a.len + 1) keep21 Tryz.f21 [(.sl s4)] 0) (n + 1) (S21_0 a (a.len : Int) l) = _
    rw [f21_round0, dnlt (Nat.lt_irrefl _)]; rfl
  · show _ = some [can (.sl s4) a]
    rw [kids_can]


/-! laws.toIntS -/
abbrev C26 : FuncId → Option Sig := tabC []
theorem hC26 : ∀ g sg, C26 g = some sg → ConOk E Tryz.prog g sg := tabC_nil
abbrev keep26 : Nat → List Nat | 0 => [0, 3, 4] | _ => []
def S26_0 (x0 : Dat) (x4 : Int) (l0 : (List Dat)) : St := ⟨[.ro tInt x0, .u, .u, .hd 0, .int .i64 x4] ++ us 17, [.arr tInt l0]⟩
theorem f26_round0 (K n : Nat) (x0 : Dat) (x4 : Int) (l0 : (List Dat)) :
    loopE T C26 K keep26 Tryz.f26 0 0 (behind T C26 K keep26 Tryz.f26 [(.sl tInt)] 0) (n + 1) (S26_0 x0 x4 l0) =
      (bif decide (x4 < (x0.len : Int)) then (bif (decide (0 ≤ x4) && decide (x4 < (x0.len : Int))) then (bif (decide (0 ≤ x4) && decide (x4 < (l0.length : Int))) then loopE T C26 K keep26 Tryz.f26 0 0 (behind T C26 K keep26 Tryz.f26 [(.sl tInt)] 0) n (S26_0 x0 (IntKind.i64.wrap (x4 + (1 : Int))) (l0.set x4.toNat (Dat.i ((x0.fld x4.toNat).int)))) else none) else none) else some [(Dat.n l0)]) := by kernel_rfl
theorem f26_start (K : Nat) (a : Dat) : evBody T C26 noL K keep26 Tryz.f26 [(.sl tInt)] [(.sl tInt)] [a] =
      (bif (decide (0 ≤ (a.len : Int)) && (decide ((a.len : Int) ≤ 4294967296) && decide ((a.len : Int) = (a.len : Int)))) then loopE T C26 K keep26 Tryz.f26 0 0 (behind T C26 K keep26 Tryz.f26 [(.sl tInt)] 0) K (S26_0 a (0 : Int) (List.replicate (a.len : Int).toNat (zeroD tInt))) else none) := by kernel_rfl
theorem con26 : ConOk E Tryz.prog 26 (toSig (.sl tInt) (.sl tInt)) := con hM hD hT hC26 keep26 Tryz.func26 (by kernel_rfl) (by kernel_rfl) fun ds hl hp => by
  obtain ⟨a, rfl⟩ := ds_one hl
  replace hp : fit 1048576 (.sl tInt) a = true := hp
  obtain ⟨hn, he⟩ := fit_sl hp
  refine ⟨a.len + 1, ?_⟩
  have c1 : (decide (0 ≤ (a.len : Int)) && (decide ((a.len : Int) ≤ 4294967296) && decide ((a.len : Int) = (a.len : Int)))) = true := by simp; omega
  rw [f26_start, c1, cond_true, Int.toNat_natCast]
  refine (fill_loop (E := fun n j l => loopE T C26 (a.len + 1) keep26 Tryz.f26 0 0 (behind T C26 (a.len + 1) keep26 Tryz.f26 [(.sl tInt)] 0) n (S26_0 a (j : Int) l)) (N := a.len) (g := fun j => can tInt (a.fld j)) (fin := fun l => some [Dat.n l]) (zeroD tInt) (fun n j l hj hlen => ?_) (fun n l _ => ?_)).trans ?_
  · have hj2 : j < l.length := by omega
    show loopE T C26 (a.len + 1) keep26 Tryz.f26 0 0 (behind T C26 (a.len + 1) keep26 Tryz.f26 [(.sl tInt)] 0) (n + 1) (S26_0 a (j : Int) l) = _
    rw [f26_round0]
    simp only [dlt hj, dge, dlt hj2, Int.toNat_natCast, Bool.and_self, cond_true, wrap_succ hj (by unfold M; omega)]
    try rfl
  · show loopE T C26 (a.len + 1) keep26 Tryz.f26 0 0 (behind T C26 (a.len + 1) keep26 Tryz.f26 [(.sl tInt)] 0) (n + 1) (S26_0 a (a.len : Int) l) = _
    rw [f26_round0, dnlt (Nat.lt_irrefl _)]; rfl
  · show _ = some [can (.sl tInt) a]
    rw [kids_can]


/-! laws.toNote -/
abbrev C48 : FuncId → Option Sig := tabC []
theorem hC48 : ∀ g sg, C48 g = some sg → ConOk E Tryz.prog g sg := tabC_nil
abbrev keep48 : Nat → List Nat := fun _ => []
theorem f48_start (K : Nat) (a : Dat) : evBody T C48 noL K keep48 Tryz.f48 [s4] [s4] [a] =
      some [(Dat.n [(Dat.i ((a.fld 0).int)), (Dat.i ((a.fld 1).int))])] := by kernel_rfl
theorem con48 : ConOk E Tryz.prog 48 (toSig s4 s4) := con hM hD hT hC48 keep48 Tryz.func48 (by kernel_rfl) (by kernel_rfl) fun ds hl hp => by
  obtain ⟨a, rfl⟩ := ds_one hl
  replace hp : fit 1048576 s4 a = true := hp
  refine ⟨0, ?_⟩
  rw [f48_start]
  rfl


/-! laws.toNoteS -/
abbrev C23 : FuncId → Option Sig := tabC [(48, toSig s4 s4)]
theorem hC23 : ∀ g sg, C23 g = some sg → ConOk E Tryz.prog g sg := (tabC_cons con48 tabC_nil)
abbrev keep23 : Nat → List Nat | 0 => [0, 3, 4] | _ => []
def S23_0 (x0 : Dat) (x4 : Int) (l0 : (List Dat)) : St := ⟨[.ro s4 x0, .u, .u, .hd 0, .int .i64 x4] ++ us 18, [.arr s4 l0]⟩
theorem f23_round0 (K n : Nat) (x0 : Dat) (x4 : Int) (l0 : (List Dat)) :
    loopE T C23 K keep23 Tryz.f23 0 0 (behind T C23 K keep23 Tryz.f23 [(.sl s4)] 0) (n + 1) (S23_0 x0 x4 l0) =
      (bif decide (x4 < (x0.len : Int)) then (bif (decide (0 ≤ x4) && decide (x4 < (x0.len : Int))) then (bif fit 1048576 s4 (x0.fld x4.toNat) then (bif (decide (0 ≤ x4) && decide (x4 < (l0.length : Int))) then loopE T C23 K keep23 Tryz.f23 0 0 (behind T C23 K keep23 Tryz.f23 [(.sl s4)] 0) n (S23_0 x0 (IntKind.i64.wrap (x4 + (1 : Int))) (l0.set x4.toNat (can s4 (x0.fld x4.toNat)))) else none) else none) else none) else some [(Dat.n l0)]) := by kernel_rfl
theorem f23_start (K : Nat) (a : Dat) : evBody T C23 noL K keep23 Tryz.f23 [(.sl s4)] [(.sl s4)] [a] =
      (bif (decide (0 ≤ (a.len : Int)) && (decide ((a.len : Int) ≤ 4294967296) && decide ((a.len : Int) = (a.len : Int)))) then loopE T C23 K keep23 Tryz.f23 0 0 (behind T C23 K keep23 Tryz.f23 [(.sl s4)] 0) K (S23_0 a (0 : Int) (List.replicate (a.len : Int).toNat (zeroD s4))) else none) := by kernel_rfl
theorem con23 : ConOk E Tryz.prog 23 (toSig (.sl s4) (.sl s4)) := con hM hD hT hC23 keep23 Tryz.func23 (by kernel_rfl) (by kernel_rfl) fun ds hl hp => by
  obtain ⟨a, rfl⟩ := ds_one hl
  replace hp : fit 1048576 (.sl s4) a = true := hp
  obtain ⟨hn, he⟩ := fit_sl hp
  refine ⟨a.len + 1, ?_⟩
  have c1 : (decide (0 ≤ (a.len : Int)) && (decide ((a.len : Int) ≤ 4294967296) && decide ((a.len : Int) = (a.len : Int)))) = true := by simp; omega
  rw [f23_start, c1, cond_true, Int.toNat_natCast]
  refine (fill_loop (E := fun n j l => loopE T C23 (a.len + 1) keep23 Tryz.f23 0 0 (behind T C23 (a.len + 1) keep23 Tryz.f23 [(.sl s4)] 0) n (S23_0 a (j : Int) l)) (N := a.len) (g := fun j => can s4 (a.fld j)) (fin := fun l => some [Dat.n l]) (zeroD s4) (fun n j l hj hlen => ?_) (fun n l _ => ?_)).trans ?_
  · have f1 := he j hj
    have hj2 : j < l.length := by omega
    show loopE T C23 (a.len + 1) keep23 Tryz.f23 0 0 (behind T C23 (a.len + 1) keep23 Tryz.f23 [(.sl s4)] 0) (n + 1) (S23_0 a (j : Int) l) = _
    rw [f23_round0]
    simp only [dlt hj, dge, dlt hj2, Int.toNat_natCast, f1, Bool.and_self, cond_true, wrap_succ hj (by unfold M; omega)]
    try rfl
  · show loopE T C23 (a.len + 1) keep23 Tryz.f23 0 0 (behind T C23 (a.len + 1) keep23 Tryz.f23 [(.sl s4)] 0) (n + 1) (S23_0 a (a.len : Int) l) = _
    rw [f23_round0, dnlt (Nat.lt_irrefl _)]; rfl
  · show _ = some [can (.sl s4) a]
    rw [kids_can]


/-! laws.toToken -/
abbrev C47 : FuncId → Option Sig := tabC [(26, toSig (.sl tInt) (.sl tInt)), (23, toSig (.sl s4) (.sl s4))]
theorem hC47 : ∀ g sg, C47 g = some sg → ConOk E Tryz.prog g sg := (tabC_cons con26 (tabC_cons con23 tabC_nil))
abbrev keep47 : Nat → List Nat := fun _ => []
theorem f47_start (K : Nat) (a : Dat) : evBody T C47 noL K keep47 Tryz.f47 [s5] [s5] [a] =
      (bif fit 1048576 (.sl tInt) (a.fld 2) then (bif fit 1048576 (.sl s4) (a.fld 3) then some [(Dat.n [(Dat.i ((a.fld 0).int)), (Dat.i ((a.fld 1).int)), (Dat.n ((can (.sl tInt) (a.fld 2)).kids)), (Dat.n ((can (.sl s4) (a.fld 3)).kids))])] else none) else none) := by kernel_rfl
theorem con47 : ConOk E Tryz.prog 47 (toSig s5 s5) := con hM hD hT hC47 keep47 Tryz.func47 (by kernel_rfl) (by kernel_rfl) fun ds hl hp => by
  obtain ⟨a, rfl⟩ := ds_one hl
  replace hp : fit 1048576 s5 a = true := hp
  refine ⟨0, ?_⟩
  have h2 : fit 1048576 (.sl tInt) (a.fld 2) = true := fit_fld hp 2 rfl
  have h3 : fit 1048576 (.sl s4) (a.fld 3) = true := fit_fld hp 3 rfl
  rw [f47_start]
  simp only [h2, h3, cond_true]
  rfl


/-! laws.toTokenS -/
abbrev C22 : FuncId → Option Sig := tabC [(47, toSig s5 s5)]
theorem hC22 : ∀ g sg, C22 g = some sg → ConOk E Tryz.prog g sg := (tabC_cons con47 tabC_nil)
abbrev keep22 : Nat → List Nat | 0 => [0, 3, 4] | _ => []
def S22_0 (x0 : Dat) (x4 : Int) (l0 : (List Dat)) : St := ⟨[.ro s5 x0, .u, .u, .hd 0, .int .i64 x4] ++ us 18, [.arr s5 l0]⟩
theorem f22_round0 (K n : Nat) (x0 : Dat) (x4 : Int) (l0 : (List Dat)) :
    loopE T C22 K keep22 Tryz.f22 0 0 (behind T C22 K keep22 Tryz.f22 [(.sl s5)] 0) (n + 1) (S22_0 x0 x4 l0) =
      (bif decide (x4 < (x0.len : Int)) then (bif (decide (0 ≤ x4) && decide (x4 < (x0.len : Int))) then (bif fit 1048576 s5 (x0.fld x4.toNat) then (bif (decide (0 ≤ x4) && decide (x4 < (l0.length : Int))) then loopE T C22 K keep22 Tryz.f22 0 0 (behind T C22 K keep22 Tryz.f22 [(.sl s5)] 0) n (S22_0 x0 (IntKind.i64.wrap (x4 + (1 : Int))) (l0.set x4.toNat (can s5 (x0.fld x4.toNat)))) else none) else none) else none) else some [(Dat.n l0)]) := by kernel_rfl
theorem f22_start (K : Nat) (a : Dat) : evBody T C22 noL K keep22 Tryz.f22 [(.sl s5)] [(.sl s5)] [a] =
      (bif (decide (0 ≤ (a.len : Int)) && (decide ((a.len : Int) ≤ 4294967296) && decide ((a.len : Int) = (a.len : Int)))) then loopE T C22 K keep22 Tryz.f22 0 0 (behind T C22 K keep22 Tryz.f22 [(.sl s5)] 0) K (S22_0 a (0 : Int) (List.replicate (a.len : Int).toNat (zeroD s5))) else none) := by kernel_rfl
theorem con22 : ConOk E Tryz.prog 22 (toSig (.sl s5) (.sl s5)) := con hM hD hT hC22 keep22 Tryz.func22 (by kernel_rfl) (by kernel_rfl) fun ds hl hp => by
  obtain ⟨a, rfl⟩ := ds_one hl
  replace hp : fit 1048576 (.sl s5) a = true := hp
  obtain ⟨hn, he⟩ := fit_sl hp
  refine ⟨a.len + 1, ?_⟩
  have c1 : (decide (0 ≤ (a.len : Int)) && (decide ((a.len : Int) ≤ 4294967296) && decide ((a.len : Int) = (a.len : Int)))) = true := by simp; omega
  rw [f22_start, c1, cond_true, Int.toNat_natCast]
  refine (fill_loop (E := fun n j l => loopE T C22 (a.len + 1) keep22 Tryz.f22 0 0 (behind T C22 (a.len + 1) keep22 Tryz.f22 [(.sl s5)] 0) n (S22_0 a (j : Int) l)) (N := a.len) (g := fun j => can s5 (a.fld j)) (fin := fun l => some [Dat.n l]) (zeroD s5) (fun n j l hj hlen => ?_) (fun n l _ => ?_)).trans ?_
  · have f1 := he j hj
    have hj2 : j < l.length := by omega
    show loopE T C22 (a.len + 1) keep22 Tryz.f22 0 0 (behind T C22 (a.len + 1) keep22 Tryz.f22 [(.sl s5)] 0) (n + 1) (S22_0 a (j : Int) l) = _
    rw [f22_round0]
    simp only [dlt hj, dge, dlt hj2, Int.toNat_natCast, f1, Bool.and_self, cond_true, wrap_succ hj (by unfold M; omega)]
    try rfl
  · show loopE T C22 (a.len + 1) keep22 Tryz.f22 0 0 (behind T C22 (a.len + 1) keep22 Tryz.f22 [(.sl s5)] 0) (n + 1) (S22_0 a (a.len : Int) l) = _
    rw [f22_round0, dnlt (Nat.lt_irrefl _)]; rfl
  · show _ = some [can (.sl s5) a]
    rw [kids_can]


/-! laws.toFrame -/
abbrev C90 : FuncId → Option Sig := tabC [(65, toSig (.sl s1) (.sl s1))]
theorem hC90 : ∀ g sg, C90 g = some sg → ConOk E Tryz.prog g sg := (tabC_cons con65 tabC_nil)
abbrev keep90 : Nat → List Nat := fun _ => []
theorem f90_start (K : Nat) (a : Dat) : evBody T C90 noL K keep90 Tryz.f90 [s6] [s6] [a] =
      (bif fit 1048576 (.sl s1) (a.fld 3) then (bif fit 1048576 (.sl s1) (a.fld 4) then some [(Dat.n [(Dat.i ((a.fld 0).int)), (Dat.i ((a.fld 1).int)), (Dat.i ((a.fld 2).int)), (Dat.n ((can (.sl s1) (a.fld 3)).kids)), (Dat.n ((can (.sl s1) (a.fld 4)).kids))])] else none) else none) := by kernel_rfl
theorem con90 : ConOk E Tryz.prog 90 (toSig s6 s6) := con hM hD hT hC90 keep90 Tryz.func90 (by kernel_rfl) (by kernel_rfl) fun ds hl hp => by
  obtain ⟨a, rfl⟩ := ds_one hl
  replace hp : fit 1048576 s6 a = true := hp
  refine ⟨0, ?_⟩
  have h3 : fit 1048576 (.sl s1) (a.fld 3) = true := fit_fld hp 3 rfl
  have h4 : fit 1048576 (.sl s1) (a.fld 4) = true := fit_fld hp 4 rfl
  rw [f90_start]
  simp only [h3, h4, cond_true]
  rfl


/-! laws.toFrameS -/
abbrev C77 : FuncId → Option Sig := tabC [(90, toSig s6 s6)]
theorem hC77 : ∀ g sg, C77 g = some sg → ConOk E Tryz.prog g sg := (tabC_cons con90 tabC_nil)
abbrev keep77 : Nat → List Nat | 0 => [0, 3, 4] | _ => []
def S77_0 (x0 : Dat) (x4 : Int) (l0 : (List Dat)) : St := ⟨[.ro s6 x0, .u, .u, .hd 0, .int .i64 x4] ++ us 18, [.arr s6 l0]⟩
theorem f77_round0 (K n : Nat) (x0 : Dat) (x4 : Int) (l0 : (List Dat)) :
    loopE T C77 K keep77 Tryz.f77 0 0 (behind T C77 K keep77 Tryz.f77 [(.sl s6)] 0) (n + 1) (S77_0 x0 x4 l0) =
      (bif decide (x4 < (x0.len : Int)) then (bif (decide (0 ≤ x4) && decide (x4 < (x0.len : Int))) then (bif fit 1048576 s6 (x0.fld x4.toNat) then (bif (decide (0 ≤ x4) && decide (x4 < (l0.length : Int))) then loopE T C77 K keep77 Tryz.f77 0 0 (behind T C77 K keep77 Tryz.f77 [(.sl s6)] 0) n (S77_0 x0 (IntKind.i64.wrap (x4 + (1 : Int))) (l0.set x4.toNat (can s6 (x0.fld x4.toNat)))) else none) else none) else none) else some [(Dat.n l0)]) := by kernel_rfl
theorem f77_start (K : Nat) (a : Dat) : evBody T C77 noL K keep77 Tryz.f77 [(.sl s6)] [(.sl s6)] [a] =
      (bif (decide (0 ≤ (a.len : Int)) && (decide ((a.len : Int) ≤ 4294967296) && decide ((a.len : Int) = (a.len : Int)))) then loopE T C77 K keep77 Tryz.f77 0 0 (behind T C77 K keep77 Tryz.f77 [(.sl s6)] 0) K (S77_0 a (0 : Int) (List.replicate (a.len : Int).toNat (zeroD s6))) else none) := by kernel_rfl
theorem con77 : ConOk E Tryz.prog 77 (toSig (.sl s6) (.sl s6)) := con hM hD hT hC77 keep77 Tryz.func77 (by kernel_rfl) (by kernel_rfl) fun ds hl hp => by
  obtain ⟨a, rfl⟩ := ds_one hl
  replace hp : fit 1048576 (.sl s6) a = true := hp
  obtain ⟨hn, he⟩ := fit_sl hp
  refine ⟨a.len + 1, ?_⟩
  have c1 : (decide (0 ≤ (a.len : Int)) && (decide ((a.len : Int) ≤ 4294967296) && decide ((a.len : Int) = (a.len : Int)))) = true := by simp; omega
  rw [f77_start, c1, cond_true, Int.toNat_natCast]
  refine (fill_loop (E := fun n j l => loopE T C77 (a.len + 1) keep77 Tryz.f77 0 0 (behind T C77 (a.len + 1) keep77 Tryz.f77 [(.sl s6)] 0) n (S77_0 a (j : Int) l)) (N := a.len) (g := fun j => can s6 (a.fld j)) (fin := fun l => some [Dat.n l]) (zeroD s6) (fun n j l hj hlen => ?_) (fun n l _ => ?_)).trans ?_
  · have f1 := he j hj
    have hj2 : j < l.length := by omega
    show loopE T C77 (a.len + 1) keep77 Tryz.f77 0 0 (behind T C77 (a.len + 1) keep77 Tryz.f77 [(.sl s6)] 0) (n + 1) (S77_0 a (j : Int) l) = _
    rw [f77_round0]
    simp only [dlt hj, dge, dlt hj2, Int.toNat_natCast, f1, Bool.and_self, cond_true, wrap_succ hj (by unfold M; omega)]
    try rfl
  · show loopE T C77 (a.len + 1) keep77 Tryz.f77 0 0 (behind T C77 (a.len + 1) keep77 Tryz.f77 [(.sl s6)] 0) (n + 1) (S77_0 a (a.len : Int) l) = _
    rw [f77_round0, dnlt (Nat.lt_irrefl _)]; rfl
  · show _ = some [can (.sl s6) a]
    rw [kids_can]


/-! laws.toThread -/
abbrev C66 : FuncId → Option Sig := tabC [(77, toSig (.sl s6) (.sl s6))]
theorem hC66 : ∀ g sg, C66 g = some sg → ConOk E Tryz.prog g sg := (tabC_cons con77 tabC_nil)
abbrev keep66 : Nat → List Nat := fun _ => []
theorem f66_start (K : Nat) (a : Dat) : evBody T C66 noL K keep66 Tryz.f66 [s7] [s7] [a] =
      (bif fit 1048576 (.sl s6) (a.fld 1) then some [(Dat.n [(Dat.i ((a.fld 0).int)), (Dat.n ((can (.sl s6) (a.fld 1)).kids)), (Dat.i ((a.fld 2).int)), (Dat.i ((a.fld 3).int))])] else none) := by kernel_rfl
theorem con66 : ConOk E Tryz.prog 66 (toSig s7 s7) := con hM hD hT hC66 keep66 Tryz.func66 (by kernel_rfl) (by kernel_rfl) fun ds hl hp => by
  obtain ⟨a, rfl⟩ := ds_one hl
  replace hp : fit 1048576 s7 a = true := hp
  refine ⟨0, ?_⟩
  have h1 : fit 1048576 (.sl s6) (a.fld 1) = true := fit_fld hp 1 rfl
  rw [f66_start]
  simp only [h1, cond_true]
  rfl


/-! laws.toLock -/
abbrev C78 : FuncId → Option Sig := tabC []
theorem hC78 : ∀ g sg, C78 g = some sg → ConOk E Tryz.prog g sg := tabC_nil
abbrev keep78 : Nat → List Nat := fun _ => []
theorem f78_start (K : Nat) (a : Dat) : evBody T C78 noL K keep78 Tryz.f78 [s8] [s8] [a] =
      some [(Dat.n [(Dat.i ((a.fld 0).int)), (Dat.i ((a.fld 1).int)), (Dat.i ((a.fld 2).int))])] := by kernel_rfl
theorem con78 : ConOk E Tryz.prog 78 (toSig s8 s8) := con hM hD hT hC78 keep78 Tryz.func78 (by kernel_rfl) (by kernel_rfl) fun ds hl hp => by
  obtain ⟨a, rfl⟩ := ds_one hl
  replace hp : fit 1048576 s8 a = true := hp
  refine ⟨0, ?_⟩
  rw [f78_start]
  rfl


/-! laws.toLockS -/
abbrev C67 : FuncId → Option Sig := tabC [(78, toSig s8 s8)]
theorem hC67 : ∀ g sg, C67 g = some sg → ConOk E Tryz.prog g sg := (tabC_cons con78 tabC_nil)
abbrev keep67 : Nat → List Nat | 0 => [0, 3, 4] | _ => []
def S67_0 (x0 : Dat) (x4 : Int) (l0 : (List Dat)) : St := ⟨[.ro s8 x0, .u, .u, .hd 0, .int .i64 x4] ++ us 18, [.arr s8 l0]⟩
theorem f67_round0 (K n : Nat) (x0 : Dat) (x4 : Int) (l0 : (List Dat)) :
    loopE T C67 K keep67 Tryz.f67 0 0 (behind T C67 K keep67 Tryz.f67 [(.sl s8)] 0) (n + 1) (S67_0 x0 x4 l0) =
      (bif decide (x4 < (x0.len : Int)) then (bif (decide (0 ≤ x4) && decide (x4 < (x0.len : Int))) then (bif fit 1048576 s8 (x0.fld x4.toNat) then (bif (decide (0 ≤ x4) && decide (x4 < (l0.length : Int))) then loopE T C67 K keep67 Tryz.f67 0 0 (behind T C67 K keep67 Tryz.f67 [(.sl s8)] 0) n (S67_0 x0 (IntKind.i64.wrap (x4 + (1 : Int))) (l0.set x4.toNat (can s8 (x0.fld x4.toNat)))) else none) else none) else none) else some [(Dat.n l0)]) := by kernel_rfl
theorem f67_start (K : Nat) (a : Dat) : evBody T C67 noL K keep67 Tryz.f67 [(.sl s8)] [(.sl s8)] [a] =
      (bif (decide (0 ≤ (a.len : Int)) && (decide ((a.len : Int) ≤ 4294967296) && decide ((a.len : Int) = (a.len : Int)))) then loopE T C67 K keep67 Tryz.f67 0 0 (behind T C67 K keep67 Tryz.f67 [(.sl s8)] 0) K (S67_0 a (0 : Int) (List.replicate (a.len : Int).toNat (zeroD s8))) else none) := by kernel_rfl
theorem con67 : ConOk E Tryz.prog 67 (toSig (.sl s8) (.sl s8)) := con hM hD hT hC67 keep67 Tryz.func67 (by kernel_rfl) (by kernel_rfl) fun ds hl hp => by
  obtain ⟨a, rfl⟩ := ds_one hl
  replace hp : fit 1048576 (.sl s8) a = true := hp
  obtain ⟨hn, he⟩ := fit_sl hp
  refine ⟨a.len + 1, ?_⟩
  have c1 : (decide (0 ≤ (a.len : Int)) && (decide ((a.len : Int) ≤ 4294967296) && decide ((a.len : Int) = (a.len : Int)))) = true := by simp; omega
  rw [f67_start, c1, cond_true, Int.toNat_natCast]
  refine (fill_loop (E := fun n j l => loopE T C67 (a.len + 1) keep67 Tryz.f67 0 0 (behind T C67 (a.len + 1) keep67 Tryz.f67 [(.sl s8)] 0) n (S67_0 a (j : Int) l)) (N := a.len) (g := fun j => can s8 (a.fld j)) (fin := fun l => some [Dat.n l]) (zeroD s8) (fun n j l hj hlen => ?_) (fun n l _ => ?_)).trans ?_
  · have f1 := he j hj
    have hj2 : j < l.length := by omega
    show loopE T C67 (a.len + 1) keep67 Tryz.f67 0 0 (behind T C67 (a.len + 1) keep67 Tryz.f67 [(.sl s8)] 0) (n + 1) (S67_0 a (j : Int) l) = _
    rw [f67_round0]
    simp only [dlt hj, dge, dlt hj2, Int.toNat_natCast, f1, Bool.and_self, cond_true, wrap_succ hj (by unfold M; omega)]
    try rfl
  · show loopE T C67 (a.len + 1) keep67 Tryz.f67 0 0 (behind T C67 (a.len + 1) keep67 Tryz.f67 [(.sl s8)] 0) (n + 1) (S67_0 a (a.len : Int) l) = _
    rw [f67_round0, dnlt (Nat.lt_irrefl _)]; rfl
  · show _ = some [can (.sl s8) a]
    rw [kids_can]


/-! laws.toTask -/
abbrev C49 : FuncId → Option Sig := tabC [(66, toSig s7 s7), (67, toSig (.sl s8) (.sl s8))]
theorem hC49 : ∀ g sg, C49 g = some sg → ConOk E Tryz.prog g sg := (tabC_cons con66 (tabC_cons con67 tabC_nil))
abbrev keep49 : Nat → List Nat := fun _ => []
theorem f49_start (K : Nat) (a : Dat) : evBody T C49 noL K keep49 Tryz.f49 [s9] [s9] [a] =
      (bif fit 1048576 s7 (a.fld 0) then (bif fit 1048576 (.sl s8) (a.fld 3) then some [(Dat.n [(can s7 (a.fld 0)), (Dat.i ((a.fld 1).int)), (Dat.i ((a.fld 2).int)), (Dat.n ((can (.sl s8) (a.fld 3)).kids))])] else none) else none) := by kernel_rfl
theorem con49 : ConOk E Tryz.prog 49 (toSig s9 s9) := con hM hD hT hC49 keep49 Tryz.func49 (by kernel_rfl) (by kernel_rfl) fun ds hl hp => by
  obtain ⟨a, rfl⟩ := ds_one hl
  replace hp : fit 1048576 s9 a = true := hp
  refine ⟨0, ?_⟩
  have h0 : fit 1048576 s7 (a.fld 0) = true := fit_fld hp 0 rfl
  have h3 : fit 1048576 (.sl s8) (a.fld 3) = true := fit_fld hp 3 rfl
  rw [f49_start]
  simp only [h0, h3, cond_true]
  rfl


/-! laws.toTaskS -/
abbrev C24 : FuncId → Option Sig := tabC [(49, toSig s9 s9)]
theorem hC24 : ∀ g sg, C24 g = some sg → ConOk E Tryz.prog g sg := (tabC_cons con49 tabC_nil)
abbrev keep24 : Nat → List Nat | 0 => [0, 3, 4] | _ => []
def S24_0 (x0 : Dat) (x4 : Int) (l0 : (List Dat)) : St := ⟨[.ro s9 x0, .u, .u, .hd 0, .int .i64 x4] ++ us 18, [.arr s9 l0]⟩
theorem f24_round0 (K n : Nat) (x0 : Dat) (x4 : Int) (l0 : (List Dat)) :
    loopE T C24 K keep24 Tryz.f24 0 0 (behind T C24 K keep24 Tryz.f24 [(.sl s9)] 0) (n + 1) (S24_0 x0 x4 l0) =
      (bif decide (x4 < (x0.len : Int)) then (bif (decide (0 ≤ x4) && decide (x4 < (x0.len : Int))) then (bif fit 1048576 s9 (x0.fld x4.toNat) then (bif (decide (0 ≤ x4) && decide (x4 < (l0.length : Int))) then loopE T C24 K keep24 Tryz.f24 0 0 (behind T C24 K keep24 Tryz.f24 [(.sl s9)] 0) n (S24_0 x0 (IntKind.i64.wrap (x4 + (1 : Int))) (l0.set x4.toNat (Dat.n [(Dat.n [(Dat.i ((((can s9 (x0.fld x4.toNat)).fld 0).fld 0).int)), (Dat.n ((((can s9 (x0.fld x4.toNat)).fld 0).fld 1).kids)), (Dat.i ((((can s9 (x0.fld x4.toNat)).fld 0).fld 2).int)), (Dat.i ((((can s9 (x0.fld x4.toNat)).fld 0).fld 3).int))]), (Dat.i (((can s9 (x0.fld x4.toNat)).fld 1).int)), (Dat.i (((can s9 (x0.fld x4.toNat)).fld 2).int)), (Dat.n (((can s9 (x0.fld x4.toNat)).fld 3).kids))]))) else none) else none) else none) else some [(Dat.n l0)]) := by kernel_rfl
theorem f24_start (K : Nat) (a : Dat) : evBody T C24 noL K keep24 Tryz.f24 [(.sl s9)] [(.sl s9)] [a] =
      (bif (decide (0 ≤ (a.len : Int)) && (decide ((a.len : Int) ≤ 4294967296) && decide ((a.len : Int) = (a.len : Int)))) then loopE T C24 K keep24 Tryz.f24 0 0 (behind T C24 K keep24 Tryz.f24 [(.sl s9)] 0) K (S24_0 a (0 : Int) (List.replicate (a.len : Int).toNat (zeroD s9))) else none) := by kernel_rfl
theorem con24 : ConOk E Tryz.prog 24 (toSig (.sl s9) (.sl s9)) := con hM hD hT hC24 keep24 Tryz.func24 (by kernel_rfl) (by kernel_rfl) fun ds hl hp => by
  obtain ⟨a, rfl⟩ := ds_one hl
  replace hp : fit 1048576 (.sl s9) a = true := hp
  obtain ⟨hn, he⟩ := fit_sl hp
  refine ⟨a.len + 1, ?_⟩
  have c1 : (decide (0 ≤ (a.len : Int)) && (decide ((a.len : Int) ≤ 4294967296) && decide ((a.len : Int) = (a.len : Int)))) = true := by simp; omega
  rw [f24_start, c1, cond_true, Int.toNat_natCast]
  refine (fill_loop (E := fun n j l => loopE T C24 (a.len + 1) keep24 Tryz.f24 0 0 (behind T C24 (a.len + 1) keep24 Tryz.f24 [(.sl s9)] 0) n (S24_0 a (j : Int) l)) (N := a.len) (g := fun j => can s9 (a.fld j)) (fin := fun l => some [Dat.n l]) (zeroD s9) (fun n j l hj hlen => ?_) (fun n l _ => ?_)).trans ?_
  · have f1 := he j hj
    have hj2 : j < l.length := by omega
    show loopE T C24 (a.len + 1) keep24 Tryz.f24 0 0 (behind T C24 (a.len + 1) keep24 Tryz.f24 [(.sl s9)] 0) (n + 1) (S24_0 a (j : Int) l) = _
    rw [f24_round0]
    simp only [dlt hj, dge, dlt hj2, Int.toNat_natCast, f1, Bool.and_self, cond_true, wrap_succ hj (by unfold M; omega)]
    try rfl
  · show loopE T C24 (a.len + 1) keep24 Tryz.f24 0 0 (behind T C24 (a.len + 1) keep24 Tryz.f24 [(.sl s9)] 0) (n + 1) (S24_0 a (a.len : Int) l) = _
    rw [f24_round0, dnlt (Nat.lt_irrefl _)]; rfl
  · show _ = some [can (.sl s9) a]
    rw [kids_can]


/-! laws.toEnd -/
abbrev C50 : FuncId → Option Sig := tabC [(23, toSig (.sl s4) (.sl s4)), (26, toSig (.sl tInt) (.sl tInt))]
theorem hC50 : ∀ g sg, C50 g = some sg → ConOk E Tryz.prog g sg := (tabC_cons con23 (tabC_cons con26 tabC_nil))
abbrev keep50 : Nat → List Nat := fun _ => []
theorem f50_start (K : Nat) (a : Dat) : evBody T C50 noL K keep50 Tryz.f50 [s10] [s10] [a] =
      (bif fit 1048576 (.sl s4) (a.fld 1) then (bif fit 1048576 (.sl tInt) (a.fld 2) then some [(Dat.n [(Dat.i ((a.fld 0).int)), (Dat.n ((can (.sl s4) (a.fld 1)).kids)), (Dat.n ((can (.sl tInt) (a.fld 2)).kids))])] else none) else none) := by kernel_rfl
theorem con50 : ConOk E Tryz.prog 50 (toSig s10 s10) := con hM hD hT hC50 keep50 Tryz.func50 (by kernel_rfl) (by kernel_rfl) fun ds hl hp => by
  obtain ⟨a, rfl⟩ := ds_one hl
  replace hp : fit 1048576 s10 a = true := hp
  refine ⟨0, ?_⟩
  have h1 : fit 1048576 (.sl s4) (a.fld 1) = true := fit_fld hp 1 rfl
  have h2 : fit 1048576 (.sl tInt) (a.fld 2) = true := fit_fld hp 2 rfl
  rw [f50_start]
  simp only [h1, h2, cond_true]
  rfl


/-! laws.toEndS -/
abbrev C25 : FuncId → Option Sig := tabC [(50, toSig s10 s10)]
theorem hC25 : ∀ g sg, C25 g = some sg → ConOk E Tryz.prog g sg := (tabC_cons con50 tabC_nil)
abbrev keep25 : Nat → List Nat | 0 => [0, 3, 4] | _ => []
def S25_0 (x0 : Dat) (x4 : Int) (l0 : (List Dat)) : St := ⟨[.ro s10 x0, .u, .u, .hd 0, .int .i64 x4] ++ us 18, [.arr s10 l0]⟩
theorem f25_round0 (K n : Nat) (x0 : Dat) (x4 : Int) (l0 : (List Dat)) :
    loopE T C25 K keep25 Tryz.f25 0 0 (behind T C25 K keep25 Tryz.f25 [(.sl s10)] 0) (n + 1) (S25_0 x0 x4 l0) =
      (bif decide (x4 < (x0.len : Int)) then (bif (decide (0 ≤ x4) && decide (x4 < (x0.len : Int))) then (bif fit 1048576 s10 (x0.fld x4.toNat) then (bif (decide (0 ≤ x4) && decide (x4 < (l0.length : Int))) then loopE T C25 K keep25 Tryz.f25 0 0 (behind T C25 K keep25 Tryz.f25 [(.sl s10)] 0) n (S25_0 x0 (IntKind.i64.wrap (x4 + (1 : Int))) (l0.set x4.toNat (can s10 (x0.fld x4.toNat)))) else none) else none) else none) else some [(Dat.n l0)]) := by kernel_rfl
theorem f25_start (K : Nat) (a : Dat) : evBody T C25 noL K keep25 Tryz.f25 [(.sl s10)] [(.sl s10)] [a] =
      (bif (decide (0 ≤ (a.len : Int)) && (decide ((a.len : Int) ≤ 4294967296) && decide ((a.len : Int) = (a.len : Int)))) then loopE T C25 K keep25 Tryz.f25 0 0 (behind T C25 K keep25 Tryz.f25 [(.sl s10)] 0) K (S25_0 a (0 : Int) (List.replicate (a.len : Int).toNat (zeroD s10))) else none) := by kernel_rfl
theorem con25 : ConOk E Tryz.prog 25 (toSig (.sl s10) (.sl s10)) := con hM hD hT hC25 keep25 Tryz.func25 (by kernel_rfl) (by kernel_rfl) fun ds hl hp => by
  obtain ⟨a, rfl⟩ := ds_one hl
  replace hp : fit 1048576 (.sl s10) a = true := hp
  obtain ⟨hn, he⟩ := fit_sl hp
  refine ⟨a.len + 1, ?_⟩
  have c1 : (decide (0 ≤ (a.len : Int)) && (decide ((a.len : Int) ≤ 4294967296) && decide ((a.len : Int) = (a.len : Int)))) = true := by simp; omega
  rw [f25_start, c1, cond_true, Int.toNat_natCast]
  refine (fill_loop (E := fun n j l => loopE T C25 (a.len + 1) keep25 Tryz.f25 0 0 (behind T C25 (a.len + 1) keep25 Tryz.f25 [(.sl s10)] 0) n (S25_0 a (j : Int) l)) (N := a.len) (g := fun j => can s10 (a.fld j)) (fin := fun l => some [Dat.n l]) (zeroD s10) (fun n j l hj hlen => ?_) (fun n l _ => ?_)).trans ?_
  · have f1 := he j hj
    have hj2 : j < l.length := by omega
    show loopE T C25 (a.len + 1) keep25 Tryz.f25 0 0 (behind T C25 (a.len + 1) keep25 Tryz.f25 [(.sl s10)] 0) (n + 1) (S25_0 a (j : Int) l) = _
    rw [f25_round0]
    simp only [dlt hj, dge, dlt hj2, Int.toNat_natCast, f1, Bool.and_self, cond_true, wrap_succ hj (by unfold M; omega)]
    try rfl
  · show loopE T C25 (a.len + 1) keep25 Tryz.f25 0 0 (behind T C25 (a.len + 1) keep25 Tryz.f25 [(.sl s10)] 0) (n + 1) (S25_0 a (a.len : Int) l) = _
    rw [f25_round0, dnlt (Nat.lt_irrefl _)]; rfl
  · show _ = some [can (.sl s10) a]
    rw [kids_can]


/-! laws.toCell -/
abbrev C104 : FuncId → Option Sig := tabC [(76, toSig s1 s1)]
theorem hC104 : ∀ g sg, C104 g = some sg → ConOk E Tryz.prog g sg := (tabC_cons con76 tabC_nil)
abbrev keep104 : Nat → List Nat := fun _ => []
theorem f104_start (K : Nat) (a : Dat) : evBody T C104 noL K keep104 Tryz.f104 [s11] [s11] [a] =
      (bif fit 1048576 s1 (a.fld 1) then some [(Dat.n [(Dat.i ((a.fld 0).int)), (can s1 (a.fld 1))])] else none) := by kernel_rfl
theorem con104 : ConOk E Tryz.prog 104 (toSig s11 s11) := con hM hD hT hC104 keep104 Tryz.func104 (by kernel_rfl) (by kernel_rfl) fun ds hl hp => by
  obtain ⟨a, rfl⟩ := ds_one hl
  replace hp : fit 1048576 s11 a = true := hp
  refine ⟨0, ?_⟩
  have h1 : fit 1048576 s1 (a.fld 1) = true := fit_fld hp 1 rfl
  rw [f104_start]
  simp only [h1, cond_true]
  rfl


/-! laws.toCellS -/
abbrev C100 : FuncId → Option Sig := tabC [(104, toSig s11 s11)]
theorem hC100 : ∀ g sg, C100 g = some sg → ConOk E Tryz.prog g sg := (tabC_cons con104 tabC_nil)
abbrev keep100 : Nat → List Nat | 0 => [0, 3, 4] | _ => []
def S100_0 (x0 : Dat) (x4 : Int) (l0 : (List Dat)) : St := ⟨[.ro s11 x0, .u, .u, .hd 0, .int .i64 x4] ++ us 18, [.arr s11 l0]⟩
theorem f100_round0 (K n : Nat) (x0 : Dat) (x4 : Int) (l0 : (List Dat)) :
    loopE T C100 K keep100 Tryz.f100 0 0 (behind T C100 K keep100 Tryz.f100 [(.sl s11)] 0) (n + 1) (S100_0 x0 x4 l0) =
      (bif decide (x4 < (x0.len : Int)) then (bif (decide (0 ≤ x4) && decide (x4 < (x0.len : Int))) then (bif fit 1048576 s11 (x0.fld x4.toNat) then (bif (decide (0 ≤ x4) && decide (x4 < (l0.length : Int))) then loopE T C100 K keep100 Tryz.f100 0 0 (behind T C100 K keep100 Tryz.f100 [(.sl s11)] 0) n (S100_0 x0 (IntKind.i64.wrap (x4 + (1 : Int))) (l0.set x4.toNat (Dat.n [(Dat.i (((can s11 (x0.fld x4.toNat)).fld 0).int)), (Dat.n [(Dat.b ((((can s11 (x0.fld x4.toNat)).fld 1).fld 0).bool)), (Dat.i ((((can s11 (x0.fld x4.toNat)).fld 1).fld 1).int))])]))) else none) else none) else none) else some [(Dat.n l0)]) := by kernel_rfl
theorem f100_start (K : Nat) (a : Dat) : evBody T C100 noL K keep100 Tryz.f100 [(.sl s11)] [(.sl s11)] [a] =
      (bif (decide (0 ≤ (a.len : Int)) && (decide ((a.len : Int) ≤ 4294967296) && decide ((a.len : Int) = (a.len : Int)))) then loopE T C100 K keep100 Tryz.f100 0 0 (behind T C100 K keep100 Tryz.f100 [(.sl s11)] 0) K (S100_0 a (0 : Int) (List.replicate (a.len : Int).toNat (zeroD s11))) else none) := by kernel_rfl
theorem con100 : ConOk E Tryz.prog 100 (toSig (.sl s11) (.sl s11)) := con hM hD hT hC100 keep100 Tryz.func100 (by kernel_rfl) (by kernel_rfl) fun ds hl hp => by
  obtain ⟨a, rfl⟩ := ds_one hl
  replace hp : fit 1048576 (.sl s11) a = true := hp
  obtain ⟨hn, he⟩ := fit_sl hp
  refine ⟨a.len + 1, ?_⟩
  have c1 : (decide (0 ≤ (a.len : Int)) && (decide ((a.len : Int) ≤ 4294967296) && decide ((a.len : Int) = (a.len : Int)))) = true := by simp; omega
  rw [f100_start, c1, cond_true, Int.toNat_natCast]
  refine (fill_loop (E := fun n j l => loopE T C100 (a.len + 1) keep100 Tryz.f100 0 0 (behind T C100 (a.len + 1) keep100 Tryz.f100 [(.sl s11)] 0) n (S100_0 a (j : Int) l)) (N := a.len) (g := fun j => can s11 (a.fld j)) (fin := fun l => some [Dat.n l]) (zeroD s11) (fun n j l hj hlen => ?_) (fun n l _ => ?_)).trans ?_
  · have f1 := he j hj
    have hj2 : j < l.length := by omega
    show loopE T C100 (a.len + 1) keep100 Tryz.f100 0 0 (behind T C100 (a.len + 1) keep100 Tryz.f100 [(.sl s11)] 0) (n + 1) (S100_0 a (j : Int) l) = _
    rw [f100_round0]
    simp only [dlt hj, dge, dlt hj2, Int.toNat_natCast, f1, Bool.and_self, cond_true, wrap_succ hj (by unfold M; omega)]
    try rfl
  · show loopE T C100 (a.len + 1) keep100 Tryz.f100 0 0 (behind T C100 (a.len + 1) keep100 Tryz.f100 [(.sl s11)] 0) (n + 1) (S100_0 a (a.len : Int) l) = _
    rw [f100_round0, dnlt (Nat.lt_irrefl _)]; rfl
  · show _ = some [can (.sl s11) a]
    rw [kids_can]


/-! laws.toMsg -/
abbrev C91 : FuncId → Option Sig := tabC [(100, toSig (.sl s11) (.sl s11)), (23, toSig (.sl s4) (.sl s4))]
theorem hC91 : ∀ g sg, C91 g = some sg → ConOk E Tryz.prog g sg := (tabC_cons con100 (tabC_cons con23 tabC_nil))
abbrev keep91 : Nat → List Nat := fun _ => []
theorem f91_start (K : Nat) (a : Dat) : evBody T C91 noL K keep91 Tryz.f91 [s12] [s12] [a] =
      (bif fit 1048576 (.sl s11) (a.fld 5) then (bif fit 1048576 (.sl s4) (a.fld 6) then some [(Dat.n [(Dat.i ((a.fld 0).int)), (Dat.i ((a.fld 1).int)), (Dat.i ((a.fld 2).int)), (Dat.i ((a.fld 3).int)), (Dat.i ((a.fld 4).int)), (Dat.n ((can (.sl s11) (a.fld 5)).kids)), (Dat.n ((can (.sl s4) (a.fld 6)).kids))])] else none) else none) := by kernel_rfl
theorem con91 : ConOk E Tryz.prog 91 (toSig s12 s12) := con hM hD hT hC91 keep91 Tryz.func91 (by kernel_rfl) (by kernel_rfl) fun ds hl hp => by
  obtain ⟨a, rfl⟩ := ds_one hl
  replace hp : fit 1048576 s12 a = true := hp
  refine ⟨0, ?_⟩
  have h5 : fit 1048576 (.sl s11) (a.fld 5) = true := fit_fld hp 5 rfl
  have h6 : fit 1048576 (.sl s4) (a.fld 6) = true := fit_fld hp 6 rfl
  rw [f91_start]
  simp only [h5, h6, cond_true]
  rfl


/-! laws.toMsgS -/
abbrev C79 : FuncId → Option Sig := tabC [(91, toSig s12 s12)]
theorem hC79 : ∀ g sg, C79 g = some sg → ConOk E Tryz.prog g sg := (tabC_cons con91 tabC_nil)
abbrev keep79 : Nat → List Nat | 0 => [0, 3, 4] | _ => []
def S79_0 (x0 : Dat) (x4 : Int) (l0 : (List Dat)) : St := ⟨[.ro s12 x0, .u, .u, .hd 0, .int .i64 x4] ++ us 18, [.arr s12 l0]⟩
theorem f79_round0 (K n : Nat) (x0 : Dat) (x4 : Int) (l0 : (List Dat)) :
    loopE T C79 K keep79 Tryz.f79 0 0 (behind T C79 K keep79 Tryz.f79 [(.sl s12)] 0) (n + 1) (S79_0 x0 x4 l0) =
      (bif decide (x4 < (x0.len : Int)) then (bif (decide (0 ≤ x4) && decide (x4 < (x0.len : Int))) then (bif fit 1048576 s12 (x0.fld x4.toNat) then (bif (decide (0 ≤ x4) && decide (x4 < (l0.length : Int))) then loopE T C79 K keep79 Tryz.f79 0 0 (behind T C79 K keep79 Tryz.f79 [(.sl s12)] 0) n (S79_0 x0 (IntKind.i64.wrap (x4 + (1 : Int))) (l0.set x4.toNat (can s12 (x0.fld x4.toNat)))) else none) else none) else none) else some [(Dat.n l0)]) := by kernel_rfl
theorem f79_start (K : Nat) (a : Dat) : evBody T C79 noL K keep79 Tryz.f79 [(.sl s12)] [(.sl s12)] [a] =
      (bif (decide (0 ≤ (a.len : Int)) && (decide ((a.len : Int) ≤ 4294967296) && decide ((a.len : Int) = (a.len : Int)))) then loopE T C79 K keep79 Tryz.f79 0 0 (behind T C79 K keep79 Tryz.f79 [(.sl s12)] 0) K (S79_0 a (0 : Int) (List.replicate (a.len : Int).toNat (zeroD s12))) else none) := by kernel_rfl
theorem con79 : ConOk E Tryz.prog 79 (toSig (.sl s12) (.sl s12)) := con hM hD hT hC79 keep79 Tryz.func79 (by kernel_rfl) (by kernel_rfl) fun ds hl hp => by
  obtain ⟨a, rfl⟩ := ds_one hl
  replace hp : fit 1048576 (.sl s12) a = true := hp
  obtain ⟨hn, he⟩ := fit_sl hp
  refine ⟨a.len + 1, ?_⟩
  have c1 : (decide (0 ≤ (a.len : Int)) && (decide ((a.len : Int) ≤ 4294967296) && decide ((a.len : Int) = (a.len : Int)))) = true := by simp; omega
  rw [f79_start, c1, cond_true, Int.toNat_natCast]
  refine (fill_loop (E := fun n j l => loopE T C79 (a.len + 1) keep79 Tryz.f79 0 0 (behind T C79 (a.len + 1) keep79 Tryz.f79 [(.sl s12)] 0) n (S79_0 a (j : Int) l)) (N := a.len) (g := fun j => can s12 (a.fld j)) (fin := fun l => some [Dat.n l]) (zeroD s12) (fun n j l hj hlen => ?_) (fun n l _ => ?_)).trans ?_
  · have f1 := he j hj
    have hj2 : j < l.length := by omega
    show loopE T C79 (a.len + 1) keep79 Tryz.f79 0 0 (behind T C79 (a.len + 1) keep79 Tryz.f79 [(.sl s12)] 0) (n + 1) (S79_0 a (j : Int) l) = _
    rw [f79_round0]
    simp only [dlt hj, dge, dlt hj2, Int.toNat_natCast, f1, Bool.and_self, cond_true, wrap_succ hj (by unfold M; omega)]
    try rfl
  · show loopE T C79 (a.len + 1) keep79 Tryz.f79 0 0 (behind T C79 (a.len + 1) keep79 Tryz.f79 [(.sl s12)] 0) (n + 1) (S79_0 a (a.len : Int) l) = _
    rw [f79_round0, dnlt (Nat.lt_irrefl _)]; rfl
  · show _ = some [can (.sl s12) a]
    rw [kids_can]


/-! laws.toSender -/
abbrev C68 : FuncId → Option Sig := tabC [(79, toSig (.sl s12) (.sl s12))]
theorem hC68 : ∀ g sg, C68 g = some sg → ConOk E Tryz.prog g sg := (tabC_cons con79 tabC_nil)
abbrev keep68 : Nat → List Nat := fun _ => []
theorem f68_start (K : Nat) (a : Dat) : evBody T C68 noL K keep68 Tryz.f68 [s13] [s13] [a] =
      (bif fit 1048576 (.sl s12) (a.fld 1) then some [(Dat.n [(Dat.i ((a.fld 0).int)), (Dat.n ((can (.sl s12) (a.fld 1)).kids))])] else none) := by kernel_rfl
theorem con68 : ConOk E Tryz.prog 68 (toSig s13 s13) := con hM hD hT hC68 keep68 Tryz.func68 (by kernel_rfl) (by kernel_rfl) fun ds hl hp => by
  obtain ⟨a, rfl⟩ := ds_one hl
  replace hp : fit 1048576 s13 a = true := hp
  refine ⟨0, ?_⟩
  have h1 : fit 1048576 (.sl s12) (a.fld 1) = true := fit_fld hp 1 rfl
  rw [f68_start]
  simp only [h1, cond_true]
  rfl


/-! laws.toLine -/
abbrev C51 : FuncId → Option Sig := tabC [(68, toSig s13 s13)]
theorem hC51 : ∀ g sg, C51 g = some sg → ConOk E Tryz.prog g sg := (tabC_cons con68 tabC_nil)
abbrev keep51 : Nat → List Nat := fun _ => []
theorem f51_start (K : Nat) (a : Dat) : evBody T C51 noL K keep51 Tryz.f51 [s14] [s14] [a] =
      (bif fit 1048576 s13 (a.fld 0) then some [(Dat.n [(can s13 (a.fld 0)), (Dat.i ((a.fld 1).int))])] else none) := by kernel_rfl
theorem con51 : ConOk E Tryz.prog 51 (toSig s14 s14) := con hM hD hT hC51 keep51 Tryz.func51 (by kernel_rfl) (by kernel_rfl) fun ds hl hp => by
  obtain ⟨a, rfl⟩ := ds_one hl
  replace hp : fit 1048576 s14 a = true := hp
  refine ⟨0, ?_⟩
  have h0 : fit 1048576 s13 (a.fld 0) = true := fit_fld hp 0 rfl
  rw [f51_start]
  simp only [h0, cond_true]
  rfl


/-! laws.toLineS -/
abbrev C27 : FuncId → Option Sig := tabC [(51, toSig s14 s14)]
theorem hC27 : ∀ g sg, C27 g = some sg → ConOk E Tryz.prog g sg := (tabC_cons con51 tabC_nil)
abbrev keep27 : Nat → List Nat | 0 => [0, 3, 4] | _ => []
def S27_0 (x0 : Dat) (x4 : Int) (l0 : (List Dat)) : St := ⟨[.ro s14 x0, .u, .u, .hd 0, .int .i64 x4] ++ us 18, [.arr s14 l0]⟩
theorem f27_round0 (K n : Nat) (x0 : Dat) (x4 : Int) (l0 : (List Dat)) :
    loopE T C27 K keep27 Tryz.f27 0 0 (behind T C27 K keep27 Tryz.f27 [(.sl s14)] 0) (n + 1) (S27_0 x0 x4 l0) =
      (bif decide (x4 < (x0.len : Int)) then (bif (decide (0 ≤ x4) && decide (x4 < (x0.len : Int))) then (bif fit 1048576 s14 (x0.fld x4.toNat) then (bif (decide (0 ≤ x4) && decide (x4 < (l0.length : Int))) then loopE T C27 K keep27 Tryz.f27 0 0 (behind T C27 K keep27 Tryz.f27 [(.sl s14)] 0) n (S27_0 x0 (IntKind.i64.wrap (x4 + (1 : Int))) (l0.set x4.toNat (Dat.n [(Dat.n [(Dat.i ((((can s14 (x0.fld x4.toNat)).fld 0).fld 0).int)), (Dat.n ((((can s14 (x0.fld x4.toNat)).fld 0).fld 1).kids))]), (Dat.i (((can s14 (x0.fld x4.toNat)).fld 1).int))]))) else none) else none) else none) else some [(Dat.n l0)]) := by kernel_rfl
theorem f27_start (K : Nat) (a : Dat) : evBody T C27 noL K keep27 Tryz.f27 [(.sl s14)] [(.sl s14)] [a] =
      (bif (decide (0 ≤ (a.len : Int)) && (decide ((a.len : Int) ≤ 4294967296) && decide ((a.len : Int) = (a.len : Int)))) then loopE T C27 K keep27 Tryz.f27 0 0 (behind T C27 K keep27 Tryz.f27 [(.sl s14)] 0) K (S27_0 a (0 : Int) (List.replicate (a.len : Int).toNat (zeroD s14))) else none) := by kernel_rfl
theorem con27 : ConOk E Tryz.prog 27 (toSig (.sl s14) (.sl s14)) := con hM hD hT hC27 keep27 Tryz.func27 (by kernel_rfl) (by kernel_rfl) fun ds hl hp => by
  obtain ⟨a, rfl⟩ := ds_one hl
  replace hp : fit 1048576 (.sl s14) a = true := hp
  obtain ⟨hn, he⟩ := fit_sl hp
  refine ⟨a.len + 1, ?_⟩
  have c1 : (decide (0 ≤ (a.len : Int)) && (decide ((a.len : Int) ≤ 4294967296) && decide ((a.len : Int) = (a.len : Int)))) = true := by simp; omega
  rw [f27_start, c1, cond_true, Int.toNat_natCast]
  refine (fill_loop (E := fun n j l => loopE T C27 (a.len + 1) keep27 Tryz.f27 0 0 (behind T C27 (a.len + 1) keep27 Tryz.f27 [(.sl s14)] 0) n (S27_0 a (j : Int) l)) (N := a.len) (g := fun j => can s14 (a.fld j)) (fin := fun l => some [Dat.n l]) (zeroD s14) (fun n j l hj hlen => ?_) (fun n l _ => ?_)).trans ?_
  · have f1 := he j hj
    have hj2 : j < l.length := by omega
    show loopE T C27 (a.len + 1) keep27 Tryz.f27 0 0 (behind T C27 (a.len + 1) keep27 Tryz.f27 [(.sl s14)] 0) (n + 1) (S27_0 a (j : Int) l) = _
    rw [f27_round0]
    simp only [dlt hj, dge, dlt hj2, Int.toNat_natCast, f1, Bool.and_self, cond_true, wrap_succ hj (by unfold M; omega)]
    try rfl
  · show loopE T C27 (a.len + 1) keep27 Tryz.f27 0 0 (behind T C27 (a.len + 1) keep27 Tryz.f27 [(.sl s14)] 0) (n + 1) (S27_0 a (a.len : Int) l) = _
    rw [f27_round0, dnlt (Nat.lt_irrefl _)]; rfl
  · show _ = some [can (.sl s14) a]
    rw [kids_can]


/-! laws.toNode -/
abbrev C6 : FuncId → Option Sig := tabC [(19, toSig (.sl s2) (.sl s2)), (20, toSig (.sl s3) (.sl s3)), (21, toSig (.sl s4) (.sl s4)), (22, toSig (.sl s5) (.sl s5)), (23, toSig (.sl s4) (.sl s4)), (24, toSig (.sl s9) (.sl s9)), (25, toSig (.sl s10) (.sl s10)), (26, toSig (.sl tInt) (.sl tInt)), (27, toSig (.sl s14) (.sl s14))]
theorem hC6 : ∀ g sg, C6 g = some sg → ConOk E Tryz.prog g sg := (tabC_cons con19 (tabC_cons con20 (tabC_cons con21 (tabC_cons con22 (tabC_cons con23 (tabC_cons con24 (tabC_cons con25 (tabC_cons con26 (tabC_cons con27 tabC_nil)))))))))
abbrev keep6 : Nat → List Nat := fun _ => []
theorem f6_start (K : Nat) (a : Dat) : evBody T C6 noL K keep6 Tryz.f6 [s15] [s15] [a] =
      (bif fit 1048576 (.sl s2) (a.fld 1) then (bif fit 1048576 (.sl s3) (a.fld 2) then (bif fit 1048576 (.sl s4) (a.fld 3) then (bif fit 1048576 (.sl s5) (a.fld 4) then (bif fit 1048576 (.sl s4) (a.fld 5) then (bif fit 1048576 (.sl s9) (a.fld 6) then (bif fit 1048576 (.sl s10) (a.fld 7) then (bif fit 1048576 (.sl tInt) (a.fld 8) then (bif fit 1048576 (.sl s14) (a.fld 9) then some [(Dat.n [(Dat.i ((a.fld 0).int)), (Dat.n ((can (.sl s2) (a.fld 1)).kids)), (Dat.n ((can (.sl s3) (a.fld 2)).kids)), (Dat.n ((can (.sl s4) (a.fld 3)).kids)), (Dat.n ((can (.sl s5) (a.fld 4)).kids)), (Dat.n ((can (.sl s4) (a.fld 5)).kids)), (Dat.n ((can (.sl s9) (a.fld 6)).kids)), (Dat.n ((can (.sl s10) (a.fld 7)).kids)), (Dat.n ((can (.sl tInt) (a.fld 8)).kids)), (Dat.n ((can (.sl s14) (a.fld 9)).kids))])] else none) else none) else none) else none) else none) else none) else none) else none) else none) := by kernel_rfl
theorem con6 : ConOk E Tryz.prog 6 (toSig s15 s15) := con hM hD hT hC6 keep6 Tryz.func6 (by kernel_rfl) (by kernel_rfl) fun ds hl hp => by
  obtain ⟨a, rfl⟩ := ds_one hl
  replace hp : fit 1048576 s15 a = true := hp
  refine ⟨0, ?_⟩
  have h1 : fit 1048576 (.sl s2) (a.fld 1) = true := fit_fld hp 1 rfl
  have h2 : fit 1048576 (.sl s3) (a.fld 2) = true := fit_fld hp 2 rfl
  have h3 : fit 1048576 (.sl s4) (a.fld 3) = true := fit_fld hp 3 rfl
  have h4 : fit 1048576 (.sl s5) (a.fld 4) = true := fit_fld hp 4 rfl
  have h5 : fit 1048576 (.sl s4) (a.fld 5) = true := fit_fld hp 5 rfl
  have h6 : fit 1048576 (.sl s9) (a.fld 6) = true := fit_fld hp 6 rfl
  have h7 : fit 1048576 (.sl s10) (a.fld 7) = true := fit_fld hp 7 rfl
  have h8 : fit 1048576 (.sl tInt) (a.fld 8) = true := fit_fld hp 8 rfl
  have h9 : fit 1048576 (.sl s14) (a.fld 9) = true := fit_fld hp 9 rfl
  rw [f6_start]
  simp only [h1, h2, h3, h4, h5, h6, h7, h8, h9, cond_true]
  rfl


/-! spec.l9Digits -/
abbrev C18 : FuncId → Option Sig := tabC []
theorem hC18 : ∀ g sg, C18 g = some sg → ConOk E Tryz.prog g sg := tabC_nil
abbrev keep18 : Nat → List Nat | 0 => [0, 3, 4] | _ => []
def S18_0 (x0 : Int) (x3 : Bool) (x4 : ByteArray) : St := ⟨[.int .i64 x0, .u, .u, .bool x3, .str x4] ++ us 26, []⟩
theorem f18_round0 (K n : Nat) (x0 : Int) (x3 : Bool) (x4 : ByteArray) :
    loopE T C18 K keep18 Tryz.f18 0 0 (behind T C18 K keep18 Tryz.f18 [.str] 0) (n + 1) (S18_0 x0 x3 x4) =
      (bif (x0 != (0 : Int)) then (bif decide ((10 : Int) ≠ 0) then (bif decide ((x0.tmod (10 : Int)) < (0 : Int)) then (bif decide ((bytesOf ([(Dat.i (IntKind.u8.wrap (IntKind.i64.wrap ((48 : Int) + (IntKind.i64.wrap ((0 : Int) - (x0.tmod (10 : Int))))))))])).size + x4.size ≤ 4611686018427387904) then (bif decide ((10 : Int) ≠ 0) then loopE T C18 K keep18 Tryz.f18 0 0 (behind T C18 K keep18 Tryz.f18 [.str] 0) n (S18_0 (IntKind.i64.wrap (x0.tdiv (10 : Int))) x3 ((bytesOf ([(Dat.i (IntKind.u8.wrap (IntKind.i64.wrap ((48 : Int) + (IntKind.i64.wrap ((0 : Int) - (x0.tmod (10 : Int))))))))])) ++ x4)) else none) else none) else (bif decide ((bytesOf ([(Dat.i (IntKind.u8.wrap (IntKind.i64.wrap ((48 : Int) + (x0.tmod (10 : Int))))))])).size + x4.size ≤ 4611686018427387904) then (bif decide ((10 : Int) ≠ 0) then loopE T C18 K keep18 Tryz.f18 0 0 (behind T C18 K keep18 Tryz.f18 [.str] 0) n (S18_0 (IntKind.i64.wrap (x0.tdiv (10 : Int))) x3 ((bytesOf ([(Dat.i (IntKind.u8.wrap (IntKind.i64.wrap ((48 : Int) + (x0.tmod (10 : Int))))))])) ++ x4)) else none) else none)) else none) else (bif x3 then (bif decide ((ByteArray.mk #[45]).size + x4.size ≤ 4611686018427387904) then some [(Dat.s ((ByteArray.mk #[45]) ++ x4))] else none) else some [(Dat.s x4)])) := by kernel_rfl
theorem f18_start (K : Nat) (a : Dat) : evBody T C18 noL K keep18 Tryz.f18 [tInt] [.str] [a] =
      (bif (a.int == (0 : Int)) then some [(Dat.s (ByteArray.mk #[48]))] else loopE T C18 K keep18 Tryz.f18 0 0 (behind T C18 K keep18 Tryz.f18 [.str] 0) K (S18_0 a.int (decide (a.int < (0 : Int))) (.empty))) := by kernel_rfl
theorem con18 : ConOk E Tryz.prog 18 itoaSig := con hM hD hT hC18 keep18 Tryz.func18 (by kernel_rfl) (by kernel_rfl) fun ds hl hp => by
  obtain ⟨a, rfl⟩ := ds_one hl
  obtain ⟨h0, h1⟩ := i64_range (show i64B a.int = true from hp)
  refine ⟨20, ?_⟩
  rw [f18_start]
  show _ = some [Dat.s (itoaS a.int)]
  by_cases hz : a.int = 0
  · rw [hz, itoaS_eq]
    show some [Dat.s (ByteArray.mk #[48])] = some [Dat.s (digB 0)]
    rw [digB_small (by omega)]; rfl
  · have e0 : (a.int == 0) = false := by simpa using hz
    rw [e0, cond_false]
    refine (dig_loop (E := fun n x out => loopE T C18 20 keep18 Tryz.f18 0 0 (behind T C18 20 keep18 Tryz.f18 [.str] 0) n (S18_0 x (decide (a.int < 0)) out)) (fin := fun x4 => (bif (decide (a.int < 0)) then (bif decide ((ByteArray.mk #[45]).size + x4.size ≤ 4611686018427387904) then some [(Dat.s ((ByteArray.mk #[45]) ++ x4))] else none) else some [(Dat.s x4)]))
      (fun n x out hx0 hx1 hx hs => ?_) (fun n out => ?_) 19 20 a.int .empty (by omega) (by omega) h0 h1 (by decide)).trans ?_
    · show loopE T C18 20 keep18 Tryz.f18 0 0 (behind T C18 20 keep18 Tryz.f18 [.str] 0) (n + 1) (S18_0 x (decide (a.int < 0)) out) = _
      rw [f18_round0]
      exact l9_body (k := fun x out => loopE T C18 20 keep18 Tryz.f18 0 0 (behind T C18 20 keep18 Tryz.f18 [.str] 0) n (S18_0 x (decide (a.int < 0)) out)) hx0 hx1 hx hs
    · show loopE T C18 20 keep18 Tryz.f18 0 0 (behind T C18 20 keep18 Tryz.f18 [.str] 0) (n + 1) (S18_0 0 (decide (a.int < 0)) out) = _
      rw [f18_round0]; rfl
    · have h2 := digB_size (n := a.int.natAbs) (by omega)
      rw [e0, cond_false, itoaS_eq, show digB a.int.natAbs ++ ByteArray.empty = digB a.int.natAbs from byte_ext (by rw [byte_app]; simp)]
      cases decide (a.int < 0)
      · rfl
      · rw [cond_true, cond_true, decide_eq_true (show (ByteArray.mk #[45]).size + (digB a.int.natAbs).size ≤ 4611686018427387904 by show 1 + _ ≤ _; omega), cond_true]

/-! spec.NodeText -/
abbrev C5 : FuncId → Option Sig := tabC [(18, itoaSig)]
theorem hC5 : ∀ g sg, C5 g = some sg → ConOk E Tryz.prog g sg := (tabC_cons con18 tabC_nil)
abbrev keep5 : Nat → List Nat := fun _ => []
theorem f5_start (K : Nat) (a : Dat) : evBody T C5 noL K keep5 Tryz.f5 [s15] [.str] [a] =
      (bif (i64B ((a.fld 1).len : Int)) then (bif decide ((ByteArray.mk #[99, 111, 112, 105, 101, 115, 32]).size + (itoaS ((a.fld 1).len : Int)).size ≤ 4611686018427387904) then (bif decide (((ByteArray.mk #[99, 111, 112, 105, 101, 115, 32]) ++ (itoaS ((a.fld 1).len : Int))).size + (ByteArray.mk #[32, 109, 97, 115, 116, 101, 114, 115, 32]).size ≤ 4611686018427387904) then (bif (i64B ((a.fld 2).len : Int)) then (bif decide ((((ByteArray.mk #[99, 111, 112, 105, 101, 115, 32]) ++ (itoaS ((a.fld 1).len : Int))) ++ (ByteArray.mk #[32, 109, 97, 115, 116, 101, 114, 115, 32])).size + (itoaS ((a.fld 2).len : Int)).size ≤ 4611686018427387904) then (bif decide (((((ByteArray.mk #[99, 111, 112, 105, 101, 115, 32]) ++ (itoaS ((a.fld 1).len : Int))) ++ (ByteArray.mk #[32, 109, 97, 115, 116, 101, 114, 115, 32])) ++ (itoaS ((a.fld 2).len : Int))).size + (ByteArray.mk #[32, 116, 97, 115, 107, 115, 32]).size ≤ 4611686018427387904) then (bif (i64B ((a.fld 6).len : Int)) then (bif decide ((((((ByteArray.mk #[99, 111, 112, 105, 101, 115, 32]) ++ (itoaS ((a.fld 1).len : Int))) ++ (ByteArray.mk #[32, 109, 97, 115, 116, 101, 114, 115, 32])) ++ (itoaS ((a.fld 2).len : Int))) ++ (ByteArray.mk #[32, 116, 97, 115, 107, 115, 32])).size + (itoaS ((a.fld 6).len : Int)).size ≤ 4611686018427387904) then (bif decide (((((((ByteArray.mk #[99, 111, 112, 105, 101, 115, 32]) ++ (itoaS ((a.fld 1).len : Int))) ++ (ByteArray.mk #[32, 109, 97, 115, 116, 101, 114, 115, 32])) ++ (itoaS ((a.fld 2).len : Int))) ++ (ByteArray.mk #[32, 116, 97, 115, 107, 115, 32])) ++ (itoaS ((a.fld 6).len : Int))).size + (ByteArray.mk #[32, 115, 101, 110, 116, 32]).size ≤ 4611686018427387904) then (bif (i64B ((a.fld 8).len : Int)) then (bif decide ((((((((ByteArray.mk #[99, 111, 112, 105, 101, 115, 32]) ++ (itoaS ((a.fld 1).len : Int))) ++ (ByteArray.mk #[32, 109, 97, 115, 116, 101, 114, 115, 32])) ++ (itoaS ((a.fld 2).len : Int))) ++ (ByteArray.mk #[32, 116, 97, 115, 107, 115, 32])) ++ (itoaS ((a.fld 6).len : Int))) ++ (ByteArray.mk #[32, 115, 101, 110, 116, 32])).size + (itoaS ((a.fld 8).len : Int)).size ≤ 4611686018427387904) then some [(Dat.s ((((((((ByteArray.mk #[99, 111, 112, 105, 101, 115, 32]) ++ (itoaS ((a.fld 1).len : Int))) ++ (ByteArray.mk #[32, 109, 97, 115, 116, 101, 114, 115, 32])) ++ (itoaS ((a.fld 2).len : Int))) ++ (ByteArray.mk #[32, 116, 97, 115, 107, 115, 32])) ++ (itoaS ((a.fld 6).len : Int))) ++ (ByteArray.mk #[32, 115, 101, 110, 116, 32])) ++ (itoaS ((a.fld 8).len : Int))))] else none) else none) else none) else none) else none) else none) else none) else none) else none) else none) else none) := by kernel_rfl
theorem con5 : ConOk E Tryz.prog 5 ⟨[s15], [.str], fun l => fit 1048576 s15 (l.getD 0 (.n [])), fun l => [.s (nodeS (l.getD 0 (.n [])))]⟩ := con hM hD hT hC5 keep5 Tryz.func5 (by kernel_rfl) (by kernel_rfl) fun ds hl hp => by
  obtain ⟨a, rfl⟩ := ds_one hl
  replace hp : fit 1048576 s15 a = true := hp
  refine ⟨0, ?_⟩
  rw [f5_start]
  show _ = some [Dat.s (nodeS a)]
  unfold nodeS
  have l1 : (a.fld 1).len ≤ 1048576 := (fit_sl (fit_fld hp 1 rfl)).1
  have i1 : i64B (((a.fld 1).len : Nat) : Int) = true := i64B_nat (by omega)
  have z1 := itoaS_size (n := (((a.fld 1).len : Nat) : Int)) (by omega) (by omega)
  have l2 : (a.fld 2).len ≤ 1048576 := (fit_sl (fit_fld hp 2 rfl)).1
  have i2 : i64B (((a.fld 2).len : Nat) : Int) = true := i64B_nat (by omega)
  have z2 := itoaS_size (n := (((a.fld 2).len : Nat) : Int)) (by omega) (by omega)
  have l6 : (a.fld 6).len ≤ 1048576 := (fit_sl (fit_fld hp 6 rfl)).1
  have i6 : i64B (((a.fld 6).len : Nat) : Int) = true := i64B_nat (by omega)
  have z6 := itoaS_size (n := (((a.fld 6).len : Nat) : Int)) (by omega) (by omega)
  have l8 : (a.fld 8).len ≤ 1048576 := (fit_sl (fit_fld hp 8 rfl)).1
  have i8 : i64B (((a.fld 8).len : Nat) : Int) = true := i64B_nat (by omega)
  have z8 := itoaS_size (n := (((a.fld 8).len : Nat) : Int)) (by omega) (by omega)
  simp only [i1, i2, i6, i8, cond_true]
  rw [sz_bif, sz_bif, sz_bif, sz_bif, sz_bif, sz_bif, sz_bif]
  all_goals (simp only [app_size, mk_size, List.size_toArray, List.length_cons, List.length_nil]; omega)

theorem con28 : ConOk E Tryz.prog 28 itoaSig := con_itoa (enter_of Tryz.func28 (by kernel_rfl) (by kernel_rfl)) fun n h0 h1 w hw => Go.Proofs.Any.strconv_Itoa Tryz.laysM171 n h0 h1 w hw

/-! impl.NodeText -/
abbrev C7 : FuncId → Option Sig := tabC [(28, itoaSig)]
theorem hC7 : ∀ g sg, C7 g = some sg → ConOk E Tryz.prog g sg := (tabC_cons con28 tabC_nil)
abbrev keep7 : Nat → List Nat := fun _ => []
theorem f7_start (K : Nat) (a : Dat) : evBody T C7 noL K keep7 Tryz.f7 [s15] [.str] [a] =
      (bif (i64B ((a.fld 1).len : Int)) then (bif decide ((ByteArray.mk #[99, 111, 112, 105, 101, 115, 32]).size + (itoaS ((a.fld 1).len : Int)).size ≤ 4611686018427387904) then (bif decide (((ByteArray.mk #[99, 111, 112, 105, 101, 115, 32]) ++ (itoaS ((a.fld 1).len : Int))).size + (ByteArray.mk #[32, 109, 97, 115, 116, 101, 114, 115, 32]).size ≤ 4611686018427387904) then (bif (i64B ((a.fld 2).len : Int)) then (bif decide ((((ByteArray.mk #[99, 111, 112, 105, 101, 115, 32]) ++ (itoaS ((a.fld 1).len : Int))) ++ (ByteArray.mk #[32, 109, 97, 115, 116, 101, 114, 115, 32])).size + (itoaS ((a.fld 2).len : Int)).size ≤ 4611686018427387904) then (bif decide (((((ByteArray.mk #[99, 111, 112, 105, 101, 115, 32]) ++ (itoaS ((a.fld 1).len : Int))) ++ (ByteArray.mk #[32, 109, 97, 115, 116, 101, 114, 115, 32])) ++ (itoaS ((a.fld 2).len : Int))).size + (ByteArray.mk #[32, 116, 97, 115, 107, 115, 32]).size ≤ 4611686018427387904) then (bif (i64B ((a.fld 6).len : Int)) then (bif decide ((((((ByteArray.mk #[99, 111, 112, 105, 101, 115, 32]) ++ (itoaS ((a.fld 1).len : Int))) ++ (ByteArray.mk #[32, 109, 97, 115, 116, 101, 114, 115, 32])) ++ (itoaS ((a.fld 2).len : Int))) ++ (ByteArray.mk #[32, 116, 97, 115, 107, 115, 32])).size + (itoaS ((a.fld 6).len : Int)).size ≤ 4611686018427387904) then (bif decide (((((((ByteArray.mk #[99, 111, 112, 105, 101, 115, 32]) ++ (itoaS ((a.fld 1).len : Int))) ++ (ByteArray.mk #[32, 109, 97, 115, 116, 101, 114, 115, 32])) ++ (itoaS ((a.fld 2).len : Int))) ++ (ByteArray.mk #[32, 116, 97, 115, 107, 115, 32])) ++ (itoaS ((a.fld 6).len : Int))).size + (ByteArray.mk #[32, 115, 101, 110, 116, 32]).size ≤ 4611686018427387904) then (bif (i64B ((a.fld 8).len : Int)) then (bif decide ((((((((ByteArray.mk #[99, 111, 112, 105, 101, 115, 32]) ++ (itoaS ((a.fld 1).len : Int))) ++ (ByteArray.mk #[32, 109, 97, 115, 116, 101, 114, 115, 32])) ++ (itoaS ((a.fld 2).len : Int))) ++ (ByteArray.mk #[32, 116, 97, 115, 107, 115, 32])) ++ (itoaS ((a.fld 6).len : Int))) ++ (ByteArray.mk #[32, 115, 101, 110, 116, 32])).size + (itoaS ((a.fld 8).len : Int)).size ≤ 4611686018427387904) then some [(Dat.s ((((((((ByteArray.mk #[99, 111, 112, 105, 101, 115, 32]) ++ (itoaS ((a.fld 1).len : Int))) ++ (ByteArray.mk #[32, 109, 97, 115, 116, 101, 114, 115, 32])) ++ (itoaS ((a.fld 2).len : Int))) ++ (ByteArray.mk #[32, 116, 97, 115, 107, 115, 32])) ++ (itoaS ((a.fld 6).len : Int))) ++ (ByteArray.mk #[32, 115, 101, 110, 116, 32])) ++ (itoaS ((a.fld 8).len : Int))))] else none) else none) else none) else none) else none) else none) else none) else none) else none) else none) else none) := by kernel_rfl
theorem con7 : ConOk E Tryz.prog 7 ⟨[s15], [.str], fun l => fit 1048576 s15 (l.getD 0 (.n [])), fun l => [.s (nodeS (l.getD 0 (.n [])))]⟩ := con hM hD hT hC7 keep7 Tryz.func7 (by kernel_rfl) (by kernel_rfl) fun ds hl hp => by
  obtain ⟨a, rfl⟩ := ds_one hl
  replace hp : fit 1048576 s15 a = true := hp
  refine ⟨0, ?_⟩
  rw [f7_start]
  show _ = some [Dat.s (nodeS a)]
  unfold nodeS
  have l1 : (a.fld 1).len ≤ 1048576 := (fit_sl (fit_fld hp 1 rfl)).1
  have i1 : i64B (((a.fld 1).len : Nat) : Int) = true := i64B_nat (by omega)
  have z1 := itoaS_size (n := (((a.fld 1).len : Nat) : Int)) (by omega) (by omega)
  have l2 : (a.fld 2).len ≤ 1048576 := (fit_sl (fit_fld hp 2 rfl)).1
  have i2 : i64B (((a.fld 2).len : Nat) : Int) = true := i64B_nat (by omega)
  have z2 := itoaS_size (n := (((a.fld 2).len : Nat) : Int)) (by omega) (by omega)
  have l6 : (a.fld 6).len ≤ 1048576 := (fit_sl (fit_fld hp 6 rfl)).1
  have i6 : i64B (((a.fld 6).len : Nat) : Int) = true := i64B_nat (by omega)
  have z6 := itoaS_size (n := (((a.fld 6).len : Nat) : Int)) (by omega) (by omega)
  have l8 : (a.fld 8).len ≤ 1048576 := (fit_sl (fit_fld hp 8 rfl)).1
  have i8 : i64B (((a.fld 8).len : Nat) : Int) = true := i64B_nat (by omega)
  have z8 := itoaS_size (n := (((a.fld 8).len : Nat) : Int)) (by omega) (by omega)
  simp only [i1, i2, i6, i8, cond_true]
  rw [sz_bif, sz_bif, sz_bif, sz_bif, sz_bif, sz_bif, sz_bif]
  all_goals (simp only [app_size, mk_size, List.size_toArray, List.length_cons, List.length_nil]; omega)

/-! laws.eqVal -/
abbrev C84 : FuncId → Option Sig := tabC []
theorem hC84 : ∀ g sg, C84 g = some sg → ConOk E Tryz.prog g sg := tabC_nil
abbrev keep84 : Nat → List Nat := fun _ => []
theorem f84_start (K : Nat) (a : Dat) (b : Dat) : evBody T C84 noL K keep84 Tryz.f84 [s1, s1] [.bool] [a, b] =
      (bif (!((a.fld 0).bool == (b.fld 0).bool)) then some [(Dat.b false)] else (bif ((a.fld 1).int != (b.fld 1).int) then some [(Dat.b false)] else some [(Dat.b true)])) := by kernel_rfl
theorem con84 : ConOk E Tryz.prog 84 (eqSig s1) := con hM hD hT hC84 keep84 Tryz.func84 (by kernel_rfl) (by kernel_rfl) fun ds hl hp => by
  obtain ⟨a, b, rfl⟩ := ds_two hl
  obtain ⟨ha, hb⟩ := both (show (fit M s1 a && fit M s1 b) = true from hp)
  refine ⟨0, ?_⟩
  rw [f84_start]
  show _ = some [Dat.b (((a.fld 0).bool == (b.fld 0).bool) && (((a.fld 1).int == (b.fld 1).int) && true))]
  exact (and_step (and_step rfl))


/-! laws.eqValS -/
abbrev C70 : FuncId → Option Sig := tabC [(84, eqSig s1)]
theorem hC70 : ∀ g sg, C70 g = some sg → ConOk E Tryz.prog g sg := (tabC_cons con84 tabC_nil)
abbrev keep70 : Nat → List Nat | 0 => [0, 1, 4, 5] | _ => []
def S70_0 (x0 : Dat) (x1 : Dat) (x5 : Int) : St := ⟨[.ro s1 x0, .ro s1 x1, .u, .u, .bool false, .int .i64 x5] ++ us 21, []⟩
theorem f70_round0 (K n : Nat) (x0 : Dat) (x1 : Dat) (x5 : Int) :
    loopE T C70 K keep70 Tryz.f70 0 0 (behind T C70 K keep70 Tryz.f70 [.bool] 0) (n + 1) (S70_0 x0 x1 x5) =
      (bif decide (x5 < (x0.len : Int)) then (bif (decide (0 ≤ x5) && decide (x5 < (x0.len : Int))) then (bif (decide (0 ≤ x5) && decide (x5 < (x1.len : Int))) then (bif (fit M s1 (x0.fld x5.toNat) && fit M s1 (x1.fld x5.toNat)) then (bif (!(deq s1 (x0.fld x5.toNat) (x1.fld x5.toNat))) then some [(Dat.b false)] else loopE T C70 K keep70 Tryz.f70 0 0 (behind T C70 K keep70 Tryz.f70 [.bool] 0) n (S70_0 x0 x1 (IntKind.i64.wrap (x5 + (1 : Int))))) else none) else none) else none) else some [(Dat.b true)]) := by kernel_rfl
theorem f70_start (K : Nat) (a : Dat) (b : Dat) : evBody T C70 noL K keep70 Tryz.f70 [(.sl s1), (.sl s1)] [.bool] [a, b] =
      (bif ((a.len : Int) != (b.len : Int)) then some [(Dat.b false)] else loopE T C70 K keep70 Tryz.f70 0 0 (behind T C70 K keep70 Tryz.f70 [.bool] 0) K (S70_0 a b (0 : Int))) := by kernel_rfl
theorem con70 : ConOk E Tryz.prog 70 (eqSig (.sl s1)) := con hM hD hT hC70 keep70 Tryz.func70 (by kernel_rfl) (by kernel_rfl) fun ds hl hp => by
  obtain ⟨a, b, rfl⟩ := ds_two hl
  obtain ⟨ha, hb⟩ := both (show (fit M (.sl s1) a && fit M (.sl s1) b) = true from hp)
  obtain ⟨hn, he⟩ := fit_sl ha
  obtain ⟨hn2, he2⟩ := fit_sl hb
  refine ⟨a.len + 1, ?_⟩
  rw [f70_start]
  show _ = some [Dat.b (deq (.sl s1) a b)]
  rw [deq_sl]
  by_cases hlen : a.len = b.len
  · have c1 : ((a.len : Int) != (b.len : Int)) = false := by simp [hlen]
    have c2 : (a.len == b.len) = true := by simp [hlen]
    rw [c1, cond_false, c2, Bool.true_and]
    refine (all_loop (E := fun n j => loopE T C70 (a.len + 1) keep70 Tryz.f70 0 0 (behind T C70 (a.len + 1) keep70 Tryz.f70 [.bool] 0) n (S70_0 a b ((j : Nat) : Int))) (N := a.len) (p := fun j => deq s1 (a.fld j) (b.fld j)) (kT := some [.b true]) (kF := some [.b false]) (fun n j hj => ?_) (fun n => ?_)).trans ?_
    · have hj2 : j < b.len := by omega
      have f1 := he j hj
      have f2 := he2 j hj2
      show loopE T C70 (a.len + 1) keep70 Tryz.f70 0 0 (behind T C70 (a.len + 1) keep70 Tryz.f70 [.bool] 0) (n + 1) (S70_0 a b ((j : Nat) : Int)) = _
      rw [f70_round0]
      simp only [dlt hj, dge, dlt hj2, Int.toNat_natCast, f1, f2, Bool.and_self, cond_true, wrap_succ hj hn]
      cases deq s1 (a.fld j) (b.fld j) <;> rfl
    · show loopE T C70 (a.len + 1) keep70 Tryz.f70 0 0 (behind T C70 (a.len + 1) keep70 Tryz.f70 [.bool] 0) (n + 1) (S70_0 a b ((a.len : Nat) : Int)) = _
      rw [f70_round0, dnlt (Nat.lt_irrefl _)]; rfl
    · cases (List.range a.len).all fun j => deq s1 (a.fld j) (b.fld j) <;> rfl
  · have c1 : ((a.len : Int) != (b.len : Int)) = true := by simp; omega
    have c2 : (a.len == b.len) = false := by simp [hlen]
    rw [c1, cond_true, c2]; rfl


/-! laws.eqCopy -/
abbrev C53 : FuncId → Option Sig := tabC [(70, eqSig (.sl s1))]
theorem hC53 : ∀ g sg, C53 g = some sg → ConOk E Tryz.prog g sg := (tabC_cons con70 tabC_nil)
abbrev keep53 : Nat → List Nat := fun _ => []
theorem f53_start (K : Nat) (a : Dat) (b : Dat) : evBody T C53 noL K keep53 Tryz.f53 [s2, s2] [.bool] [a, b] =
      (bif ((a.fld 0).int != (b.fld 0).int) then some [(Dat.b false)] else (bif ((a.fld 1).int != (b.fld 1).int) then some [(Dat.b false)] else (bif ((a.fld 2).int != (b.fld 2).int) then some [(Dat.b false)] else (bif (!((a.fld 3).bool == (b.fld 3).bool)) then some [(Dat.b false)] else (bif (fit M (.sl s1) (a.fld 4) && fit M (.sl s1) (b.fld 4)) then (bif (!(deq (.sl s1) (a.fld 4) (b.fld 4))) then some [(Dat.b false)] else (bif (fit M (.sl s1) (a.fld 5) && fit M (.sl s1) (b.fld 5)) then (bif (!(deq (.sl s1) (a.fld 5) (b.fld 5))) then some [(Dat.b false)] else some [(Dat.b true)]) else none)) else none))))) := by kernel_rfl
theorem con53 : ConOk E Tryz.prog 53 (eqSig s2) := con hM hD hT hC53 keep53 Tryz.func53 (by kernel_rfl) (by kernel_rfl) fun ds hl hp => by
  obtain ⟨a, b, rfl⟩ := ds_two hl
  obtain ⟨ha, hb⟩ := both (show (fit M s2 a && fit M s2 b) = true from hp)
  refine ⟨0, ?_⟩
  have h4 : (fit M (.sl s1) (a.fld 4) && fit M (.sl s1) (b.fld 4)) = true := and_both (fit_fld ha 4 rfl) (fit_fld hb 4 rfl)
  have h5 : (fit M (.sl s1) (a.fld 5) && fit M (.sl s1) (b.fld 5)) = true := and_both (fit_fld ha 5 rfl) (fit_fld hb 5 rfl)
  rw [f53_start]
  simp only [h4, h5, cond_true]
  show _ = some [Dat.b (((a.fld 0).int == (b.fld 0).int) && (((a.fld 1).int == (b.fld 1).int) && (((a.fld 2).int == (b.fld 2).int) && (((a.fld 3).bool == (b.fld 3).bool) && (deq (.sl s1) (a.fld 4) (b.fld 4) && (deq (.sl s1) (a.fld 5) (b.fld 5) && true))))))]
  exact (and_step (and_step (and_step (and_step (and_step (and_step rfl))))))


/-! laws.eqCopyS -/
abbrev C29 : FuncId → Option Sig := tabC [(53, eqSig s2)]
theorem hC29 : ∀ g sg, C29 g = some sg → ConOk E Tryz.prog g sg := (tabC_cons con53 tabC_nil)
abbrev keep29 : Nat → List Nat | 0 => [0, 1, 4, 5] | _ => []
def S29_0 (x0 : Dat) (x1 : Dat) (x5 : Int) : St := ⟨[.ro s2 x0, .ro s2 x1, .u, .u, .bool false, .int .i64 x5] ++ us 21, []⟩
theorem f29_round0 (K n : Nat) (x0 : Dat) (x1 : Dat) (x5 : Int) :
    loopE T C29 K keep29 Tryz.f29 0 0 (behind T C29 K keep29 Tryz.f29 [.bool] 0) (n + 1) (S29_0 x0 x1 x5) =
      (bif decide (x5 < (x0.len : Int)) then (bif (decide (0 ≤ x5) && decide (x5 < (x0.len : Int))) then (bif (decide (0 ≤ x5) && decide (x5 < (x1.len : Int))) then (bif (fit M s2 (x0.fld x5.toNat) && fit M s2 (x1.fld x5.toNat)) then (bif (!(deq s2 (x0.fld x5.toNat) (x1.fld x5.toNat))) then some [(Dat.b false)] else loopE T C29 K keep29 Tryz.f29 0 0 (behind T C29 K keep29 Tryz.f29 [.bool] 0) n (S29_0 x0 x1 (IntKind.i64.wrap (x5 + (1 : Int))))) else none) else none) else none) else some [(Dat.b true)]) := by kernel_rfl
theorem f29_start (K : Nat) (a : Dat) (b : Dat) : evBody T C29 noL K keep29 Tryz.f29 [(.sl s2), (.sl s2)] [.bool] [a, b] =
      (bif ((a.len : Int) != (b.len : Int)) then some [(Dat.b false)] else loopE T C29 K keep29 Tryz.f29 0 0 (behind T C29 K keep29 Tryz.f29 [.bool] 0) K (S29_0 a b (0 : Int))) := by kernel_rfl
theorem con29 : ConOk E Tryz.prog 29 (eqSig (.sl s2)) := con hM hD hT hC29 keep29 Tryz.func29 (by kernel_rfl) (by kernel_rfl) fun ds hl hp => by
  obtain ⟨a, b, rfl⟩ := ds_two hl
  obtain ⟨ha, hb⟩ := both (show (fit M (.sl s2) a && fit M (.sl s2) b) = true from hp)
  obtain ⟨hn, he⟩ := fit_sl ha
  obtain ⟨hn2, he2⟩ := fit_sl hb
  refine ⟨a.len + 1, ?_⟩
  rw [f29_start]
  show _ = some [Dat.b (deq (.sl s2) a b)]
  rw [deq_sl]
  by_cases hlen : a.len = b.len
  · have c1 : ((a.len : Int) != (b.len : Int)) = false := by simp [hlen]
    have c2 : (a.len == b.len) = true := by simp [hlen]
    rw [c1, cond_false, c2, Bool.true_and]
    refine (all_loop (E := fun n j => loopE T C29 (a.len + 1) keep29 Tryz.f29 0 0 (behind T C29 (a.len + 1) keep29 Tryz.f29 [.bool] 0) n (S29_0 a b ((j : Nat) : Int))) (N := a.len) (p := fun j => deq s2 (a.fld j) (b.fld j)) (kT := some [.b true]) (kF := some [.b false]) (fun n j hj => ?_) (fun n => ?_)).trans ?_
    · have hj2 : j < b.len := by omega
      have f1 := he j hj
      have f2 := he2 j hj2
      show loopE T C29 (a.len + 1) keep29 Tryz.f29 0 0 (behind T C29 (a.len + 1) keep29 Tryz.f29 [.bool] 0) (n + 1) (S29_0 a b ((j : Nat) : Int)) = _
      rw [f29_round0]
      simp only [dlt hj, dge, dlt hj2, Int.toNat_natCast, f1, f2, Bool.and_self, cond_true, wrap_succ hj hn]
      cases deq s2 (a.fld j) (b.fld j) <;> rfl
    · show loopE T C29 (a.len + 1) keep29 Tryz.f29 0 0 (behind T C29 (a.len + 1) keep29 Tryz.f29 [.bool] 0) (n + 1) (S29_0 a b ((a.len : Nat) : Int)) = _
      rw [f29_round0, dnlt (Nat.lt_irrefl _)]; rfl
    · cases (List.range a.len).all fun j => deq s2 (a.fld j) (b.fld j) <;> rfl
  · have c1 : ((a.len : Int) != (b.len : Int)) = true := by simp; omega
    have c2 : (a.len == b.len) = false := by simp [hlen]
    rw [c1, cond_true, c2]; rfl


/-! laws.eqMaster -/
abbrev C54 : FuncId → Option Sig := tabC [(70, eqSig (.sl s1))]
theorem hC54 : ∀ g sg, C54 g = some sg → ConOk E Tryz.prog g sg := (tabC_cons con70 tabC_nil)
abbrev keep54 : Nat → List Nat := fun _ => []
theorem f54_start (K : Nat) (a : Dat) (b : Dat) : evBody T C54 noL K keep54 Tryz.f54 [s3, s3] [.bool] [a, b] =
      (bif ((a.fld 0).int != (b.fld 0).int) then some [(Dat.b false)] else (bif ((a.fld 1).int != (b.fld 1).int) then some [(Dat.b false)] else (bif ((a.fld 2).int != (b.fld 2).int) then some [(Dat.b false)] else (bif (fit M (.sl s1) (a.fld 3) && fit M (.sl s1) (b.fld 3)) then (bif (!(deq (.sl s1) (a.fld 3) (b.fld 3))) then some [(Dat.b false)] else some [(Dat.b true)]) else none)))) := by kernel_rfl
theorem con54 : ConOk E Tryz.prog 54 (eqSig s3) := con hM hD hT hC54 keep54 Tryz.func54 (by kernel_rfl) (by kernel_rfl) fun ds hl hp => by
  obtain ⟨a, b, rfl⟩ := ds_two hl
  obtain ⟨ha, hb⟩ := both (show (fit M s3 a && fit M s3 b) = true from hp)
  refine ⟨0, ?_⟩
  have h3 : (fit M (.sl s1) (a.fld 3) && fit M (.sl s1) (b.fld 3)) = true := and_both (fit_fld ha 3 rfl) (fit_fld hb 3 rfl)
  rw [f54_start]
  simp only [h3, cond_true]
  show _ = some [Dat.b (((a.fld 0).int == (b.fld 0).int) && (((a.fld 1).int == (b.fld 1).int) && (((a.fld 2).int == (b.fld 2).int) && (deq (.sl s1) (a.fld 3) (b.fld 3) && true))))]
  exact (and_step (and_step (and_step (and_step rfl))))


/-! laws.eqMasterS -/
abbrev C30 : FuncId → Option Sig := tabC [(54, eqSig s3)]
theorem hC30 : ∀ g sg, C30 g = some sg → ConOk E Tryz.prog g sg := (tabC_cons con54 tabC_nil)
abbrev keep30 : Nat → List Nat | 0 => [0, 1, 4, 5] | _ => []
def S30_0 (x0 : Dat) (x1 : Dat) (x5 : Int) : St := ⟨[.ro s3 x0, .ro s3 x1, .u, .u, .bool false, .int .i64 x5] ++ us 21, []⟩
theorem f30_round0 (K n : Nat) (x0 : Dat) (x1 : Dat) (x5 : Int) :
    loopE T C30 K keep30 Tryz.f30 0 0 (behind T C30 K keep30 Tryz.f30 [.bool] 0) (n + 1) (S30_0 x0 x1 x5) =
      (bif decide (x5 < (x0.len : Int)) then (bif (decide (0 ≤ x5) && decide (x5 < (x0.len : Int))) then (bif (decide (0 ≤ x5) && decide (x5 < (x1.len : Int))) then (bif (fit M s3 (x0.fld x5.toNat) && fit M s3 (x1.fld x5.toNat)) then (bif (!(deq s3 (x0.fld x5.toNat) (x1.fld x5.toNat))) then some [(Dat.b false)] else loopE T C30 K keep30 Tryz.f30 0 0 (behind T C30 K keep30 Tryz.f30 [.bool] 0) n (S30_0 x0 x1 (IntKind.i64.wrap (x5 + (1 : Int))))) else none) else none) else none) else some [(Dat.b true)]) := by kernel_rfl
theorem f30_start (K : Nat) (a : Dat) (b : Dat) : evBody T C30 noL K keep30 Tryz.f30 [(.sl s3), (.sl s3)] [.bool] [a, b] =
      (bif ((a.len : Int) != (b.len : Int)) then some [(Dat.b false)] else loopE T C30 K keep30 Tryz.f30 0 0 (behind T C30 K keep30 Tryz.f30 [.bool] 0) K (S30_0 a b (0 : Int))) := by kernel_rfl
theorem con30 : ConOk E Tryz.prog 30 (eqSig (.sl s3)) := con hM hD hT hC30 keep30 Tryz.func30 (by kernel_rfl) (by kernel_rfl) fun ds hl hp => by
  obtain ⟨a, b, rfl⟩ := ds_two hl
  obtain ⟨ha, hb⟩ := both (show (fit M (.sl s3) a && fit M (.sl s3) b) = true from hp)
  obtain ⟨hn, he⟩ := fit_sl ha
  obtain ⟨hn2, he2⟩ := fit_sl hb
  refine ⟨a.len + 1, ?_⟩
  rw [f30_start]
  show _ = some [Dat.b (deq (.sl s3) a b)]
  rw [deq_sl]
  by_cases hlen : a.len = b.len
  · have c1 : ((a.len : Int) != (b.len : Int)) = false := by simp [hlen]
    have c2 : (a.len == b.len) = true := by simp [hlen]
    rw [c1, cond_false, c2, Bool.true_and]
    refine (all_loop (E := fun n j => loopE T C30 (a.len + 1) keep30 Tryz.f30 0 0 (behind T C30 (a.len + 1) keep30 Tryz.f30 [.bool] 0) n (S30_0 a b ((j : Nat) : Int))) (N := a.len) (p := fun j => deq s3 (a.fld j) (b.fld j)) (kT := some [.b true]) (kF := some [.b false]) (fun n j hj => ?_) (fun n => ?_)).trans ?_
    · have hj2 : j < b.len := by omega
      have f1 := he j hj
      have f2 := he2 j hj2
      show loopE T C30 (a.len + 1) keep30 Tryz.f30 0 0 (behind T C30 (a.len + 1) keep30 Tryz.f30 [.bool] 0) (n + 1) (S30_0 a b ((j : Nat) : Int)) = _
      rw [f30_round0]
      simp only [dlt hj, dge, dlt hj2, Int.toNat_natCast, f1, f2, Bool.and_self, cond_true, wrap_succ hj hn]
      cases deq s3 (a.fld j) (b.fld j) <;> rfl
    · show loopE T C30 (a.len + 1) keep30 Tryz.f30 0 0 (behind T C30 (a.len + 1) keep30 Tryz.f30 [.bool] 0) (n + 1) (S30_0 a b ((a.len : Nat) : Int)) = _
      rw [f30_round0, dnlt (Nat.lt_irrefl _)]; rfl
    · cases (List.range a.len).all fun j => deq s3 (a.fld j) (b.fld j) <;> rfl
  · have c1 : ((a.len : Int) != (b.len : Int)) = true := by simp; omega
    have c2 : (a.len == b.len) = false := by simp [hlen]
    rw [c1, cond_true, c2]; rfl


/-! laws.eqWant -/
abbrev C55 : FuncId → Option Sig := tabC []
theorem hC55 : ∀ g sg, C55 g = some sg → ConOk E Tryz.prog g sg := tabC_nil
abbrev keep55 : Nat → List Nat := fun _ => []
theorem f55_start (K : Nat) (a : Dat) (b : Dat) : evBody T C55 noL K keep55 Tryz.f55 [s4, s4] [.bool] [a, b] =
      (bif ((a.fld 0).int != (b.fld 0).int) then some [(Dat.b false)] else (bif ((a.fld 1).int != (b.fld 1).int) then some [(Dat.b false)] else some [(Dat.b true)])) := by kernel_rfl
theorem con55 : ConOk E Tryz.prog 55 (eqSig s4) := con hM hD hT hC55 keep55 Tryz.func55 (by kernel_rfl) (by kernel_rfl) fun ds hl hp => by
  obtain ⟨a, b, rfl⟩ := ds_two hl
  obtain ⟨ha, hb⟩ := both (show (fit M s4 a && fit M s4 b) = true from hp)
  refine ⟨0, ?_⟩
  rw [f55_start]
  show _ = some [Dat.b (((a.fld 0).int == (b.fld 0).int) && (((a.fld 1).int == (b.fld 1).int) && true))]
  exact (and_step (and_step rfl))


/-! laws.eqWantS -/
abbrev C31 : FuncId → Option Sig := tabC [(55, eqSig s4)]
theorem hC31 : ∀ g sg, C31 g = some sg → ConOk E Tryz.prog g sg := (tabC_cons con55 tabC_nil)
abbrev keep31 : Nat → List Nat | 0 => [0, 1, 4, 5] | _ => []
def S31_0 (x0 : Dat) (x1 : Dat) (x5 : Int) : St := ⟨[.ro s4 x0, .ro s4 x1, .u, .u, .bool false, .int .i64 x5] ++ us 21, []⟩
theorem f31_round0 (K n : Nat) (x0 : Dat) (x1 : Dat) (x5 : Int) :
    loopE T C31 K keep31 Tryz.f31 0 0 (behind T C31 K keep31 Tryz.f31 [.bool] 0) (n + 1) (S31_0 x0 x1 x5) =
      (bif decide (x5 < (x0.len : Int)) then (bif (decide (0 ≤ x5) && decide (x5 < (x0.len : Int))) then (bif (decide (0 ≤ x5) && decide (x5 < (x1.len : Int))) then (bif (fit M s4 (x0.fld x5.toNat) && fit M s4 (x1.fld x5.toNat)) then (bif (!(deq s4 (x0.fld x5.toNat) (x1.fld x5.toNat))) then some [(Dat.b false)] else loopE T C31 K keep31 Tryz.f31 0 0 (behind T C31 K keep31 Tryz.f31 [.bool] 0) n (S31_0 x0 x1 (IntKind.i64.wrap (x5 + (1 : Int))))) else none) else none) else none) else some [(Dat.b true)]) := by kernel_rfl
theorem f31_start (K : Nat) (a : Dat) (b : Dat) : evBody T C31 noL K keep31 Tryz.f31 [(.sl s4), (.sl s4)] [.bool] [a, b] =
      (bif ((a.len : Int) != (b.len : Int)) then some [(Dat.b false)] else loopE T C31 K keep31 Tryz.f31 0 0 (behind T C31 K keep31 Tryz.f31 [.bool] 0) K (S31_0 a b (0 : Int))) := by kernel_rfl
theorem con31 : ConOk E Tryz.prog 31 (eqSig (.sl s4)) := con hM hD hT hC31 keep31 Tryz.func31 (by kernel_rfl) (by kernel_rfl) fun ds hl hp => by
  obtain ⟨a, b, rfl⟩ := ds_two hl
  obtain ⟨ha, hb⟩ := both (show (fit M (.sl s4) a && fit M (.sl s4) b) = true from hp)
  obtain ⟨hn, he⟩ := fit_sl ha
  obtain ⟨hn2, he2⟩ := fit_sl hb
  refine ⟨a.len + 1, ?_⟩
  rw [f31_start]
  show _ = some [Dat.b (deq (.sl s4) a b)]
  rw [deq_sl]
  by_cases hlen : a.len = b.len
  · have c1 : ((a.len : Int) != (b.len : Int)) = false := by simp [hlen]
    have c2 : (a.len == b.len) = true := by simp [hlen]
    rw [c1, cond_false, c2, Bool.true_and]
    refine (all_loop (E := fun n j => loopE T C31 (a.len + 1) keep31 Tryz.f31 0 0 (behind T C31 (a.len + 1) keep31 Tryz.f31 [.bool] 0) n (S31_0 a b ((j : Nat) : Int))) (N := a.len) (p := fun j => deq s4 (a.fld j) (b.fld j)) (kT := some [.b true]) (kF := some [.b false]) (fun n j hj => ?_) (fun n => ?_)).trans ?_
    · have hj2 : j < b.len := by omega
      have f1 := he j hj
      have f2 := he2 j hj2
      show loopE T C31 (a.len + 1) keep31 Tryz.f31 0 0 (behind T C31 (a.len + 1) keep31 Tryz.f31 [.bool] 0) (n + 1) (S31_0 a b ((j : Nat) : Int)) = _
      rw [f31_round0]
      simp only [dlt hj, dge, dlt hj2, Int.toNat_natCast, f1, f2, Bool.and_self, cond_true, wrap_succ hj hn]
      cases deq s4 (a.fld j) (b.fld j) <;> rfl
    · show loopE T C31 (a.len + 1) keep31 Tryz.f31 0 0 (behind T C31 (a.len + 1) keep31 Tryz.f31 [.bool] 0) (n + 1) (S31_0 a b ((a.len : Nat) : Int)) = _
      rw [f31_round0, dnlt (Nat.lt_irrefl _)]; rfl
    · cases (List.range a.len).all fun j => deq s4 (a.fld j) (b.fld j) <;> rfl
  · have c1 : ((a.len : Int) != (b.len : Int)) = true := by simp; omega
    have c2 : (a.len == b.len) = false := by simp [hlen]
    rw [c1, cond_true, c2]; rfl


/-! laws.eqIntS -/
abbrev C36 : FuncId → Option Sig := tabC []
theorem hC36 : ∀ g sg, C36 g = some sg → ConOk E Tryz.prog g sg := tabC_nil
abbrev keep36 : Nat → List Nat | 0 => [0, 1, 4, 5] | _ => []
def S36_0 (x0 : Dat) (x1 : Dat) (x5 : Int) : St := ⟨[.ro tInt x0, .ro tInt x1, .u, .u, .bool false, .int .i64 x5] ++ us 20, []⟩
theorem f36_round0 (K n : Nat) (x0 : Dat) (x1 : Dat) (x5 : Int) :
    loopE T C36 K keep36 Tryz.f36 0 0 (behind T C36 K keep36 Tryz.f36 [.bool] 0) (n + 1) (S36_0 x0 x1 x5) =
      (bif decide (x5 < (x0.len : Int)) then (bif (decide (0 ≤ x5) && decide (x5 < (x0.len : Int))) then (bif (decide (0 ≤ x5) && decide (x5 < (x1.len : Int))) then (bif ((x0.fld x5.toNat).int != (x1.fld x5.toNat).int) then some [(Dat.b false)] else loopE T C36 K keep36 Tryz.f36 0 0 (behind T C36 K keep36 Tryz.f36 [.bool] 0) n (S36_0 x0 x1 (IntKind.i64.wrap (x5 + (1 : Int))))) else none) else none) else some [(Dat.b true)]) := by kernel_rfl
theorem f36_start (K : Nat) (a : Dat) (b : Dat) : evBody T C36 noL K keep36 Tryz.f36 [(.sl tInt), (.sl tInt)] [.bool] [a, b] =
      (bif ((a.len : Int) != (b.len : Int)) then some [(Dat.b false)] else loopE T C36 K keep36 Tryz.f36 0 0 (behind T C36 K keep36 Tryz.f36 [.bool] 0) K (S36_0 a b (0 : Int))) := by kernel_rfl
theorem con36 : ConOk E Tryz.prog 36 (eqSig (.sl tInt)) := con hM hD hT hC36 keep36 Tryz.func36 (by kernel_rfl) (by kernel_rfl) fun ds hl hp => by
  obtain ⟨a, b, rfl⟩ := ds_two hl
  obtain ⟨ha, hb⟩ := both (show (fit M (.sl tInt) a && fit M (.sl tInt) b) = true from hp)
  obtain ⟨hn, he⟩ := fit_sl ha
  obtain ⟨hn2, he2⟩ := fit_sl hb
  refine ⟨a.len + 1, ?_⟩
  rw [f36_start]
  show _ = some [Dat.b (deq (.sl tInt) a b)]
  rw [deq_sl]
  by_cases hlen : a.len = b.len
  · have c1 : ((a.len : Int) != (b.len : Int)) = false := by simp [hlen]
    have c2 : (a.len == b.len) = true := by simp [hlen]
    rw [c1, cond_false, c2, Bool.true_and]
    refine (all_loop (E := fun n j => loopE T C36 (a.len + 1) keep36 Tryz.f36 0 0 (behind T C36 (a.len + 1) keep36 Tryz.f36 [.bool] 0) n (S36_0 a b ((j : Nat) : Int))) (N := a.len) (p := fun j => deq tInt (a.fld j) (b.fld j)) (kT := some [.b true]) (kF := some [.b false]) (fun n j hj => ?_) (fun n => ?_)).trans ?_
    · have hj2 : j < b.len := by omega
      show loopE T C36 (a.len + 1) keep36 Tryz.f36 0 0 (behind T C36 (a.len + 1) keep36 Tryz.f36 [.bool] 0) (n + 1) (S36_0 a b ((j : Nat) : Int)) = _
      rw [f36_round0]
      simp only [dlt hj, dge, dlt hj2, Int.toNat_natCast, Bool.and_self, cond_true, wrap_succ hj hn]
      simp only [deq, bne]; cases (a.fld j).int == (b.fld j).int <;> rfl
    · show loopE T C36 (a.len + 1) keep36 Tryz.f36 0 0 (behind T C36 (a.len + 1) keep36 Tryz.f36 [.bool] 0) (n + 1) (S36_0 a b ((a.len : Nat) : Int)) = _
      rw [f36_round0, dnlt (Nat.lt_irrefl _)]; rfl
    · cases (List.range a.len).all fun j => deq tInt (a.fld j) (b.fld j) <;> rfl
  · have c1 : ((a.len : Int) != (b.len : Int)) = true := by simp; omega
    have c2 : (a.len == b.len) = false := by simp [hlen]
    rw [c1, cond_true, c2]; rfl


/-! laws.eqNote -/
abbrev C57 : FuncId → Option Sig := tabC []
theorem hC57 : ∀ g sg, C57 g = some sg → ConOk E Tryz.prog g sg := tabC_nil
abbrev keep57 : Nat → List Nat := fun _ => []
theorem f57_start (K : Nat) (a : Dat) (b : Dat) : evBody T C57 noL K keep57 Tryz.f57 [s4, s4] [.bool] [a, b] =
      (bif ((a.fld 0).int != (b.fld 0).int) then some [(Dat.b false)] else (bif ((a.fld 1).int != (b.fld 1).int) then some [(Dat.b false)] else some [(Dat.b true)])) := by kernel_rfl
theorem con57 : ConOk E Tryz.prog 57 (eqSig s4) := con hM hD hT hC57 keep57 Tryz.func57 (by kernel_rfl) (by kernel_rfl) fun ds hl hp => by
  obtain ⟨a, b, rfl⟩ := ds_two hl
  obtain ⟨ha, hb⟩ := both (show (fit M s4 a && fit M s4 b) = true from hp)
  refine ⟨0, ?_⟩
  rw [f57_start]
  show _ = some [Dat.b (((a.fld 0).int == (b.fld 0).int) && (((a.fld 1).int == (b.fld 1).int) && true))]
  exact (and_step (and_step rfl))


/-! laws.eqNoteS -/
abbrev C33 : FuncId → Option Sig := tabC [(57, eqSig s4)]
theorem hC33 : ∀ g sg, C33 g = some sg → ConOk E Tryz.prog g sg := (tabC_cons con57 tabC_nil)
abbrev keep33 : Nat → List Nat | 0 => [0, 1, 4, 5] | _ => []
def S33_0 (x0 : Dat) (x1 : Dat) (x5 : Int) : St := ⟨[.ro s4 x0, .ro s4 x1, .u, .u, .bool false, .int .i64 x5] ++ us 21, []⟩
theorem f33_round0 (K n : Nat) (x0 : Dat) (x1 : Dat) (x5 : Int) :
    loopE T C33 K keep33 Tryz.f33 0 0 (behind T C33 K keep33 Tryz.f33 [.bool] 0) (n + 1) (S33_0 x0 x1 x5) =
      (bif decide (x5 < (x0.len : Int)) then (bif (decide (0 ≤ x5) && decide (x5 < (x0.len : Int))) then (bif (decide (0 ≤ x5) && decide (x5 < (x1.len : Int))) then (bif (fit M s4 (x0.fld x5.toNat) && fit M s4 (x1.fld x5.toNat)) then (bif (!(deq s4 (x0.fld x5.toNat) (x1.fld x5.toNat))) then some [(Dat.b false)] else loopE T C33 K keep33 Tryz.f33 0 0 (behind T C33 K keep33 Tryz.f33 [.bool] 0) n (S33_0 x0 x1 (IntKind.i64.wrap (x5 + (1 : Int))))) else none) else none) else none) else some [(Dat.b true)]) := by kernel_rfl
theorem f33_start (K : Nat) (a : Dat) (b : Dat) : evBody T C33 noL K keep33 Tryz.f33 [(.sl s4), (.sl s4)] [.bool] [a, b] =
      (bif ((a.len : Int) != (b.len : Int)) then some [(Dat.b false)] else loopE T C33 K keep33 Tryz.f33 0 0 (behind T C33 K keep33 Tryz.f33 [.bool] 0) K (S33_0 a b (0 : Int))) := by kernel_rfl
theorem con33 : ConOk E Tryz.prog 33 (eqSig (.sl s4)) := con hM hD hT hC33 keep33 Tryz.func33 (by kernel_rfl) (by kernel_rfl) fun ds hl hp => by
  obtain ⟨a, b, rfl⟩ := ds_two hl
  obtain ⟨ha, hb⟩ := both (show (fit M (.sl s4) a && fit M (.sl s4) b) = true from hp)
  obtain ⟨hn, he⟩ := fit_sl ha
  obtain ⟨hn2, he2⟩ := fit_sl hb
  refine ⟨a.len + 1, ?_⟩
  rw [f33_start]
  show _ = some [Dat.b (deq (.sl s4) a b)]
  rw [deq_sl]
  by_cases hlen : a.len = b.len
  · have c1 : ((a.len : Int) != (b.len : Int)) = false := by simp [hlen]
    have c2 : (a.len == b.len) = true := by simp [hlen]
    rw [c1, cond_false, c2, Bool.true_and]
    refine (all_loop (E := fun n j => loopE T C33 (a.len + 1) keep33 Tryz.f33 0 0 (behind T C33 (a.len + 1) keep33 Tryz.f33 [.bool] 0) n (S33_0 a b ((j : Nat) : Int))) (N := a.len) (p := fun j => deq s4 (a.fld j) (b.fld j)) (kT := some [.b true]) (kF := some [.b false]) (fun n j hj => ?_) (fun n => ?_)).trans ?_
    · have hj2 : j < b.len := by omega
      have f1 := he j hj
      have f2 := he2 j hj2
      show loopE T C33 (a.len + 1) keep33 Tryz.f33 0 0 (behind T C33 (a.len + 1) keep33 Tryz.f33 [.bool] 0) (n + 1) (S33_0 a b ((j : Nat) : Int)) = _
      rw [f33_round0]
      simp only [dlt hj, dge, dlt hj2, Int.toNat_natCast, f1, f2, Bool.and_self, cond_true, wrap_succ hj hn]
      cases deq s4 (a.fld j) (b.fld j) <;> rfl
    · show loopE T C33 (a.len + 1) keep33 Tryz.f33 0 0 (behind T C33 (a.len + 1) keep33 Tryz.f33 [.bool] 0) (n + 1) (S33_0 a b ((a.len : Nat) : Int)) = _
      rw [f33_round0, dnlt (Nat.lt_irrefl _)]; rfl
    · cases (List.range a.len).all fun j => deq s4 (a.fld j) (b.fld j) <;> rfl
  · have c1 : ((a.len : Int) != (b.len : Int)) = true := by simp; omega
    have c2 : (a.len == b.len) = false := by simp [hlen]
    rw [c1, cond_true, c2]; rfl


/-! laws.eqToken -/
abbrev C56 : FuncId → Option Sig := tabC [(36, eqSig (.sl tInt)), (33, eqSig (.sl s4))]
theorem hC56 : ∀ g sg, C56 g = some sg → ConOk E Tryz.prog g sg := (tabC_cons con36 (tabC_cons con33 tabC_nil))
abbrev keep56 : Nat → List Nat := fun _ => []
theorem f56_start (K : Nat) (a : Dat) (b : Dat) : evBody T C56 noL K keep56 Tryz.f56 [s5, s5] [.bool] [a, b] =
      (bif ((a.fld 0).int != (b.fld 0).int) then some [(Dat.b false)] else (bif ((a.fld 1).int != (b.fld 1).int) then some [(Dat.b false)] else (bif (fit M (.sl tInt) (a.fld 2) && fit M (.sl tInt) (b.fld 2)) then (bif (!(deq (.sl tInt) (a.fld 2) (b.fld 2))) then some [(Dat.b false)] else (bif (fit M (.sl s4) (a.fld 3) && fit M (.sl s4) (b.fld 3)) then (bif (!(deq (.sl s4) (a.fld 3) (b.fld 3))) then some [(Dat.b false)] else some [(Dat.b true)]) else none)) else none))) := by kernel_rfl
theorem con56 : ConOk E Tryz.prog 56 (eqSig s5) := con hM hD hT hC56 keep56 Tryz.func56 (by kernel_rfl) (by kernel_rfl) fun ds hl hp => by
  obtain ⟨a, b, rfl⟩ := ds_two hl
  obtain ⟨ha, hb⟩ := both (show (fit M s5 a && fit M s5 b) = true from hp)
  refine ⟨0, ?_⟩
  have h2 : (fit M (.sl tInt) (a.fld 2) && fit M (.sl tInt) (b.fld 2)) = true := and_both (fit_fld ha 2 rfl) (fit_fld hb 2 rfl)
  have h3 : (fit M (.sl s4) (a.fld 3) && fit M (.sl s4) (b.fld 3)) = true := and_both (fit_fld ha 3 rfl) (fit_fld hb 3 rfl)
  rw [f56_start]
  simp only [h2, h3, cond_true]
  show _ = some [Dat.b (((a.fld 0).int == (b.fld 0).int) && (((a.fld 1).int == (b.fld 1).int) && (deq (.sl tInt) (a.fld 2) (b.fld 2) && (deq (.sl s4) (a.fld 3) (b.fld 3) && true))))]
  exact (and_step (and_step (and_step (and_step rfl))))


/-! laws.eqTokenS -/
abbrev C32 : FuncId → Option Sig := tabC [(56, eqSig s5)]
theorem hC32 : ∀ g sg, C32 g = some sg → ConOk E Tryz.prog g sg := (tabC_cons con56 tabC_nil)
abbrev keep32 : Nat → List Nat | 0 => [0, 1, 4, 5] | _ => []
def S32_0 (x0 : Dat) (x1 : Dat) (x5 : Int) : St := ⟨[.ro s5 x0, .ro s5 x1, .u, .u, .bool false, .int .i64 x5] ++ us 21, []⟩
theorem f32_round0 (K n : Nat) (x0 : Dat) (x1 : Dat) (x5 : Int) :
    loopE T C32 K keep32 Tryz.f32 0 0 (behind T C32 K keep32 Tryz.f32 [.bool] 0) (n + 1) (S32_0 x0 x1 x5) =
      (bif decide (x5 < (x0.len : Int)) then (bif (decide (0 ≤ x5) && decide (x5 < (x0.len : Int))) then (bif (decide (0 ≤ x5) && decide (x5 < (x1.len : Int))) then (bif (fit M s5 (x0.fld x5.toNat) && fit M s5 (x1.fld x5.toNat)) then (bif (!(deq s5 (x0.fld x5.toNat) (x1.fld x5.toNat))) then some [(Dat.b false)] else loopE T C32 K keep32 Tryz.f32 0 0 (behind T C32 K keep32 Tryz.f32 [.bool] 0) n (S32_0 x0 x1 (IntKind.i64.wrap (x5 + (1 : Int))))) else none) else none) else none) else some [(Dat.b true)]) := by kernel_rfl
theorem f32_start (K : Nat) (a : Dat) (b : Dat) : evBody T C32 noL K keep32 Tryz.f32 [(.sl s5), (.sl s5)] [.bool] [a, b] =
      (bif ((a.len : Int) != (b.len : Int)) then some [(Dat.b false)] else loopE T C32 K keep32 Tryz.f32 0 0 (behind T C32 K keep32 Tryz.f32 [.bool] 0) K (S32_0 a b (0 : Int))) := by kernel_rfl
theorem con32 : ConOk E Tryz.prog 32 (eqSig (.sl s5)) := con hM hD hT hC32 keep32 Tryz.func32 (by kernel_rfl) (by kernel_rfl) fun ds hl hp => by
  obtain ⟨a, b, rfl⟩ := ds_two hl
  obtain ⟨ha, hb⟩ := both (show (fit M (.sl s5) a && fit M (.sl s5) b) = true from hp)
  obtain ⟨hn, he⟩ := fit_sl ha
  obtain ⟨hn2, he2⟩ := fit_sl hb
  refine ⟨a.len + 1, ?_⟩
  rw [f32_start]
  show _ = some [Dat.b (deq (.sl s5) a b)]
  rw [deq_sl]
  by_cases hlen : a.len = b.len
  · have c1 : ((a.len : Int) != (b.len : Int)) = false := by simp [hlen]
    have c2 : (a.len == b.len) = true := by simp [hlen]
    rw [c1, cond_false, c2, Bool.true_and]
    refine (all_loop (E := fun n j => loopE T C32 (a.len + 1) keep32 Tryz.f32 0 0 (behind T C32 (a.len + 1) keep32 Tryz.f32 [.bool] 0) n (S32_0 a b ((j : Nat) : Int))) (N := a.len) (p := fun j => deq s5 (a.fld j) (b.fld j)) (kT := some [.b true]) (kF := some [.b false]) (fun n j hj => ?_) (fun n => ?_)).trans ?_
    · have hj2 : j < b.len := by omega
      have f1 := he j hj
      have f2 := he2 j hj2
      show loopE T C32 (a.len + 1) keep32 Tryz.f32 0 0 (behind T C32 (a.len + 1) keep32 Tryz.f32 [.bool] 0) (n + 1) (S32_0 a b ((j : Nat) : Int)) = _
      rw [f32_round0]
      simp only [dlt hj, dge, dlt hj2, Int.toNat_natCast, f1, f2, Bool.and_self, cond_true, wrap_succ hj hn]
      cases deq s5 (a.fld j) (b.fld j) <;> rfl
    · show loopE T C32 (a.len + 1) keep32 Tryz.f32 0 0 (behind T C32 (a.len + 1) keep32 Tryz.f32 [.bool] 0) (n + 1) (S32_0 a b ((a.len : Nat) : Int)) = _
      rw [f32_round0, dnlt (Nat.lt_irrefl _)]; rfl
    · cases (List.range a.len).all fun j => deq s5 (a.fld j) (b.fld j) <;> rfl
  · have c1 : ((a.len : Int) != (b.len : Int)) = true := by simp; omega
    have c2 : (a.len == b.len) = false := by simp [hlen]
    rw [c1, cond_true, c2]; rfl


/-! laws.eqFrame -/
abbrev C97 : FuncId → Option Sig := tabC [(70, eqSig (.sl s1))]
theorem hC97 : ∀ g sg, C97 g = some sg → ConOk E Tryz.prog g sg := (tabC_cons con70 tabC_nil)
abbrev keep97 : Nat → List Nat := fun _ => []
theorem f97_start (K : Nat) (a : Dat) (b : Dat) : evBody T C97 noL K keep97 Tryz.f97 [s6, s6] [.bool] [a, b] =
      (bif ((a.fld 0).int != (b.fld 0).int) then some [(Dat.b false)] else (bif ((a.fld 1).int != (b.fld 1).int) then some [(Dat.b false)] else (bif ((a.fld 2).int != (b.fld 2).int) then some [(Dat.b false)] else (bif (fit M (.sl s1) (a.fld 3) && fit M (.sl s1) (b.fld 3)) then (bif (!(deq (.sl s1) (a.fld 3) (b.fld 3))) then some [(Dat.b false)] else (bif (fit M (.sl s1) (a.fld 4) && fit M (.sl s1) (b.fld 4)) then (bif (!(deq (.sl s1) (a.fld 4) (b.fld 4))) then some [(Dat.b false)] else some [(Dat.b true)]) else none)) else none)))) := by kernel_rfl
theorem con97 : ConOk E Tryz.prog 97 (eqSig s6) := con hM hD hT hC97 keep97 Tryz.func97 (by kernel_rfl) (by kernel_rfl) fun ds hl hp => by
  obtain ⟨a, b, rfl⟩ := ds_two hl
  obtain ⟨ha, hb⟩ := both (show (fit M s6 a && fit M s6 b) = true from hp)
  refine ⟨0, ?_⟩
  have h3 : (fit M (.sl s1) (a.fld 3) && fit M (.sl s1) (b.fld 3)) = true := and_both (fit_fld ha 3 rfl) (fit_fld hb 3 rfl)
  have h4 : (fit M (.sl s1) (a.fld 4) && fit M (.sl s1) (b.fld 4)) = true := and_both (fit_fld ha 4 rfl) (fit_fld hb 4 rfl)
  rw [f97_start]
  simp only [h3, h4, cond_true]
  show _ = some [Dat.b (((a.fld 0).int == (b.fld 0).int) && (((a.fld 1).int == (b.fld 1).int) && (((a.fld 2).int == (b.fld 2).int) && (deq (.sl s1) (a.fld 3) (b.fld 3) && (deq (.sl s1) (a.fld 4) (b.fld 4) && true)))))]
  exact (and_step (and_step (and_step (and_step (and_step rfl)))))


/-! laws.eqFrameS -/
abbrev C85 : FuncId → Option Sig := tabC [(97, eqSig s6)]
theorem hC85 : ∀ g sg, C85 g = some sg → ConOk E Tryz.prog g sg := (tabC_cons con97 tabC_nil)
abbrev keep85 : Nat → List Nat | 0 => [0, 1, 4, 5] | _ => []
def S85_0 (x0 : Dat) (x1 : Dat) (x5 : Int) : St := ⟨[.ro s6 x0, .ro s6 x1, .u, .u, .bool false, .int .i64 x5] ++ us 21, []⟩
theorem f85_round0 (K n : Nat) (x0 : Dat) (x1 : Dat) (x5 : Int) :
    loopE T C85 K keep85 Tryz.f85 0 0 (behind T C85 K keep85 Tryz.f85 [.bool] 0) (n + 1) (S85_0 x0 x1 x5) =
      (bif decide (x5 < (x0.len : Int)) then (bif (decide (0 ≤ x5) && decide (x5 < (x0.len : Int))) then (bif (decide (0 ≤ x5) && decide (x5 < (x1.len : Int))) then (bif (fit M s6 (x0.fld x5.toNat) && fit M s6 (x1.fld x5.toNat)) then (bif (!(deq s6 (x0.fld x5.toNat) (x1.fld x5.toNat))) then some [(Dat.b false)] else loopE T C85 K keep85 Tryz.f85 0 0 (behind T C85 K keep85 Tryz.f85 [.bool] 0) n (S85_0 x0 x1 (IntKind.i64.wrap (x5 + (1 : Int))))) else none) else none) else none) else some [(Dat.b true)]) := by kernel_rfl
theorem f85_start (K : Nat) (a : Dat) (b : Dat) : evBody T C85 noL K keep85 Tryz.f85 [(.sl s6), (.sl s6)] [.bool] [a, b] =
      (bif ((a.len : Int) != (b.len : Int)) then some [(Dat.b false)] else loopE T C85 K keep85 Tryz.f85 0 0 (behind T C85 K keep85 Tryz.f85 [.bool] 0) K (S85_0 a b (0 : Int))) := by kernel_rfl
theorem con85 : ConOk E Tryz.prog 85 (eqSig (.sl s6)) := con hM hD hT hC85 keep85 Tryz.func85 (by kernel_rfl) (by kernel_rfl) fun ds hl hp => by
  obtain ⟨a, b, rfl⟩ := ds_two hl
  obtain ⟨ha, hb⟩ := both (show (fit M (.sl s6) a && fit M (.sl s6) b) = true from hp)
  obtain ⟨hn, he⟩ := fit_sl ha
  obtain ⟨hn2, he2⟩ := fit_sl hb
  refine ⟨a.len + 1, ?_⟩
  rw [f85_start]
  show _ = some [Dat.b (deq (.sl s6) a b)]
  rw [deq_sl]
  by_cases hlen : a.len = b.len
  · have c1 : ((a.len : Int) != (b.len : Int)) = false := by simp [hlen]
    have c2 : (a.len == b.len) = true := by simp [hlen]
    rw [c1, cond_false, c2, Bool.true_and]
    refine (all_loop (E := fun n j => loopE T C85 (a.len + 1) keep85 Tryz.f85 0 0 (behind T C85 (a.len + 1) keep85 Tryz.f85 [.bool] 0) n (S85_0 a b ((j : Nat) : Int))) (N := a.len) (p := fun j => deq s6 (a.fld j) (b.fld j)) (kT := some [.b true]) (kF := some [.b false]) (fun n j hj => ?_) (fun n => ?_)).trans ?_
    · have hj2 : j < b.len := by omega
      have f1 := he j hj
      have f2 := he2 j hj2
      show loopE T C85 (a.len + 1) keep85 Tryz.f85 0 0 (behind T C85 (a.len + 1) keep85 Tryz.f85 [.bool] 0) (n + 1) (S85_0 a b ((j : Nat) : Int)) = _
      rw [f85_round0]
      simp only [dlt hj, dge, dlt hj2, Int.toNat_natCast, f1, f2, Bool.and_self, cond_true, wrap_succ hj hn]
      cases deq s6 (a.fld j) (b.fld j) <;> rfl
    · show loopE T C85 (a.len + 1) keep85 Tryz.f85 0 0 (behind T C85 (a.len + 1) keep85 Tryz.f85 [.bool] 0) (n + 1) (S85_0 a b ((a.len : Nat) : Int)) = _
      rw [f85_round0, dnlt (Nat.lt_irrefl _)]; rfl
    · cases (List.range a.len).all fun j => deq s6 (a.fld j) (b.fld j) <;> rfl
  · have c1 : ((a.len : Int) != (b.len : Int)) = true := by simp; omega
    have c2 : (a.len == b.len) = false := by simp [hlen]
    rw [c1, cond_true, c2]; rfl


/-! laws.eqThread -/
abbrev C71 : FuncId → Option Sig := tabC [(85, eqSig (.sl s6))]
theorem hC71 : ∀ g sg, C71 g = some sg → ConOk E Tryz.prog g sg := (tabC_cons con85 tabC_nil)
abbrev keep71 : Nat → List Nat := fun _ => []
theorem f71_start (K : Nat) (a : Dat) (b : Dat) : evBody T C71 noL K keep71 Tryz.f71 [s7, s7] [.bool] [a, b] =
      (bif ((a.fld 0).int != (b.fld 0).int) then some [(Dat.b false)] else (bif (fit M (.sl s6) (a.fld 1) && fit M (.sl s6) (b.fld 1)) then (bif (!(deq (.sl s6) (a.fld 1) (b.fld 1))) then some [(Dat.b false)] else (bif ((a.fld 2).int != (b.fld 2).int) then some [(Dat.b false)] else (bif ((a.fld 3).int != (b.fld 3).int) then some [(Dat.b false)] else some [(Dat.b true)]))) else none)) := by kernel_rfl
theorem con71 : ConOk E Tryz.prog 71 (eqSig s7) := con hM hD hT hC71 keep71 Tryz.func71 (by kernel_rfl) (by kernel_rfl) fun ds hl hp => by
  obtain ⟨a, b, rfl⟩ := ds_two hl
  obtain ⟨ha, hb⟩ := both (show (fit M s7 a && fit M s7 b) = true from hp)
  refine ⟨0, ?_⟩
  have h1 : (fit M (.sl s6) (a.fld 1) && fit M (.sl s6) (b.fld 1)) = true := and_both (fit_fld ha 1 rfl) (fit_fld hb 1 rfl)
  rw [f71_start]
  simp only [h1, cond_true]
  show _ = some [Dat.b (((a.fld 0).int == (b.fld 0).int) && (deq (.sl s6) (a.fld 1) (b.fld 1) && (((a.fld 2).int == (b.fld 2).int) && (((a.fld 3).int == (b.fld 3).int) && true))))]
  exact (and_step (and_step (and_step (and_step rfl))))


/-! laws.eqLock -/
abbrev C86 : FuncId → Option Sig := tabC []
theorem hC86 : ∀ g sg, C86 g = some sg → ConOk E Tryz.prog g sg := tabC_nil
abbrev keep86 : Nat → List Nat := fun _ => []
theorem f86_start (K : Nat) (a : Dat) (b : Dat) : evBody T C86 noL K keep86 Tryz.f86 [s8, s8] [.bool] [a, b] =
      (bif ((a.fld 0).int != (b.fld 0).int) then some [(Dat.b false)] else (bif ((a.fld 1).int != (b.fld 1).int) then some [(Dat.b false)] else (bif ((a.fld 2).int != (b.fld 2).int) then some [(Dat.b false)] else some [(Dat.b true)]))) := by kernel_rfl
theorem con86 : ConOk E Tryz.prog 86 (eqSig s8) := con hM hD hT hC86 keep86 Tryz.func86 (by kernel_rfl) (by kernel_rfl) fun ds hl hp => by
  obtain ⟨a, b, rfl⟩ := ds_two hl
  obtain ⟨ha, hb⟩ := both (show (fit M s8 a && fit M s8 b) = true from hp)
  refine ⟨0, ?_⟩
  rw [f86_start]
  show _ = some [Dat.b (((a.fld 0).int == (b.fld 0).int) && (((a.fld 1).int == (b.fld 1).int) && (((a.fld 2).int == (b.fld 2).int) && true)))]
  exact (and_step (and_step (and_step rfl)))


/-! laws.eqLockS -/
abbrev C72 : FuncId → Option Sig := tabC [(86, eqSig s8)]
theorem hC72 : ∀ g sg, C72 g = some sg → ConOk E Tryz.prog g sg := (tabC_cons con86 tabC_nil)
abbrev keep72 : Nat → List Nat | 0 => [0, 1, 4, 5] | _ => []
def S72_0 (x0 : Dat) (x1 : Dat) (x5 : Int) : St := ⟨[.ro s8 x0, .ro s8 x1, .u, .u, .bool false, .int .i64 x5] ++ us 21, []⟩
theorem f72_round0 (K n : Nat) (x0 : Dat) (x1 : Dat) (x5 : Int) :
    loopE T C72 K keep72 Tryz.f72 0 0 (behind T C72 K keep72 Tryz.f72 [.bool] 0) (n + 1) (S72_0 x0 x1 x5) =
      (bif decide (x5 < (x0.len : Int)) then (bif (decide (0 ≤ x5) && decide (x5 < (x0.len : Int))) then (bif (decide (0 ≤ x5) && decide (x5 < (x1.len : Int))) then (bif (fit M s8 (x0.fld x5.toNat) && fit M s8 (x1.fld x5.toNat)) then (bif (!(deq s8 (x0.fld x5.toNat) (x1.fld x5.toNat))) then some [(Dat.b false)] else loopE T C72 K keep72 Tryz.f72 0 0 (behind T C72 K keep72 Tryz.f72 [.bool] 0) n (S72_0 x0 x1 (IntKind.i64.wrap (x5 + (1 : Int))))) else none) else none) else none) else some [(Dat.b true)]) := by kernel_rfl
theorem f72_start (K : Nat) (a : Dat) (b : Dat) : evBody T C72 noL K keep72 Tryz.f72 [(.sl s8), (.sl s8)] [.bool] [a, b] =
      (bif ((a.len : Int) != (b.len : Int)) then some [(Dat.b false)] else loopE T C72 K keep72 Tryz.f72 0 0 (behind T C72 K keep72 Tryz.f72 [.bool] 0) K (S72_0 a b (0 : Int))) := by kernel_rfl
theorem con72 : ConOk E Tryz.prog 72 (eqSig (.sl s8)) := con hM hD hT hC72 keep72 Tryz.func72 (by kernel_rfl) (by kernel_rfl) fun ds hl hp => by
  obtain ⟨a, b, rfl⟩ := ds_two hl
  obtain ⟨ha, hb⟩ := both (show (fit M (.sl s8) a && fit M (.sl s8) b) = true from hp)
  obtain ⟨hn, he⟩ := fit_sl ha
  obtain ⟨hn2, he2⟩ := fit_sl hb
  refine ⟨a.len + 1, ?_⟩
  rw [f72_start]
  show _ = some [Dat.b (deq (.sl s8) a b)]
  rw [deq_sl]
  by_cases hlen : a.len = b.len
  · have c1 : ((a.len : Int) != (b.len : Int)) = false := by simp [hlen]
    have c2 : (a.len == b.len) = true := by simp [hlen]
    rw [c1, cond_false, c2, Bool.true_and]
    refine (all_loop (E := fun n j => loopE T C72 (a.len + 1) keep72 Tryz.f72 0 0 (behind T C72 (a.len + 1) keep72 Tryz.f72 [.bool] 0) n (S72_0 a b ((j : Nat) : Int))) (N := a.len) (p := fun j => deq s8 (a.fld j) (b.fld j)) (kT := some [.b true]) (kF := some [.b false]) (fun n j hj => ?_) (fun n => ?_)).trans ?_
    · have hj2 : j < b.len := by omega
      have f1 := he j hj
      have f2 := he2 j hj2
      show loopE T C72 (a.len + 1) keep72 Tryz.f72 0 0 (behind T C72 (a.len + 1) keep72 Tryz.f72 [.bool] 0) (n + 1) (S72_0 a b ((j : Nat) : Int)) = _
      rw [f72_round0]
      simp only [dlt hj, dge, dlt hj2, Int.toNat_natCast, f1, f2, Bool.and_self, cond_true, wrap_succ hj hn]
      cases deq s8 (a.fld j) (b.fld j) <;> rfl
    · show loopE T C72 (a.len + 1) keep72 Tryz.f72 0 0 (behind T C72 (a.len + 1) keep72 Tryz.f72 [.bool] 0) (n + 1) (S72_0 a b ((a.len : Nat) : Int)) = _
      rw [f72_round0, dnlt (Nat.lt_irrefl _)]; rfl
    · cases (List.range a.len).all fun j => deq s8 (a.fld j) (b.fld j) <;> rfl
  · have c1 : ((a.len : Int) != (b.len : Int)) = true := by simp; omega
    have c2 : (a.len == b.len) = false := by simp [hlen]
    rw [c1, cond_true, c2]; rfl


/-! laws.eqTask -/
abbrev C58 : FuncId → Option Sig := tabC [(71, eqSig s7), (72, eqSig (.sl s8))]
theorem hC58 : ∀ g sg, C58 g = some sg → ConOk E Tryz.prog g sg := (tabC_cons con71 (tabC_cons con72 tabC_nil))
abbrev keep58 : Nat → List Nat := fun _ => []
theorem f58_start (K : Nat) (a : Dat) (b : Dat) : evBody T C58 noL K keep58 Tryz.f58 [s9, s9] [.bool] [a, b] =
      (bif (fit M s7 (a.fld 0) && fit M s7 (b.fld 0)) then (bif (!(deq s7 (a.fld 0) (b.fld 0))) then some [(Dat.b false)] else (bif ((a.fld 1).int != (b.fld 1).int) then some [(Dat.b false)] else (bif ((a.fld 2).int != (b.fld 2).int) then some [(Dat.b false)] else (bif (fit M (.sl s8) (a.fld 3) && fit M (.sl s8) (b.fld 3)) then (bif (!(deq (.sl s8) (a.fld 3) (b.fld 3))) then some [(Dat.b false)] else some [(Dat.b true)]) else none)))) else none) := by kernel_rfl
theorem con58 : ConOk E Tryz.prog 58 (eqSig s9) := con hM hD hT hC58 keep58 Tryz.func58 (by kernel_rfl) (by kernel_rfl) fun ds hl hp => by
  obtain ⟨a, b, rfl⟩ := ds_two hl
  obtain ⟨ha, hb⟩ := both (show (fit M s9 a && fit M s9 b) = true from hp)
  refine ⟨0, ?_⟩
  have h0 : (fit M s7 (a.fld 0) && fit M s7 (b.fld 0)) = true := and_both (fit_fld ha 0 rfl) (fit_fld hb 0 rfl)
  have h3 : (fit M (.sl s8) (a.fld 3) && fit M (.sl s8) (b.fld 3)) = true := and_both (fit_fld ha 3 rfl) (fit_fld hb 3 rfl)
  rw [f58_start]
  simp only [h0, h3, cond_true]
  show _ = some [Dat.b (deq s7 (a.fld 0) (b.fld 0) && (((a.fld 1).int == (b.fld 1).int) && (((a.fld 2).int == (b.fld 2).int) && (deq (.sl s8) (a.fld 3) (b.fld 3) && true))))]
  exact (and_step (and_step (and_step (and_step rfl))))


/-! laws.eqTaskS -/
abbrev C34 : FuncId → Option Sig := tabC [(58, eqSig s9)]
theorem hC34 : ∀ g sg, C34 g = some sg → ConOk E Tryz.prog g sg := (tabC_cons con58 tabC_nil)
abbrev keep34 : Nat → List Nat | 0 => [0, 1, 4, 5] | _ => []
def S34_0 (x0 : Dat) (x1 : Dat) (x5 : Int) : St := ⟨[.ro s9 x0, .ro s9 x1, .u, .u, .bool false, .int .i64 x5] ++ us 21, []⟩
theorem f34_round0 (K n : Nat) (x0 : Dat) (x1 : Dat) (x5 : Int) :
    loopE T C34 K keep34 Tryz.f34 0 0 (behind T C34 K keep34 Tryz.f34 [.bool] 0) (n + 1) (S34_0 x0 x1 x5) =
      (bif decide (x5 < (x0.len : Int)) then (bif (decide (0 ≤ x5) && decide (x5 < (x0.len : Int))) then (bif (decide (0 ≤ x5) && decide (x5 < (x1.len : Int))) then (bif (fit M s9 (x0.fld x5.toNat) && fit M s9 (x1.fld x5.toNat)) then (bif (!(deq s9 (x0.fld x5.toNat) (x1.fld x5.toNat))) then some [(Dat.b false)] else loopE T C34 K keep34 Tryz.f34 0 0 (behind T C34 K keep34 Tryz.f34 [.bool] 0) n (S34_0 x0 x1 (IntKind.i64.wrap (x5 + (1 : Int))))) else none) else none) else none) else some [(Dat.b true)]) := by kernel_rfl
theorem f34_start (K : Nat) (a : Dat) (b : Dat) : evBody T C34 noL K keep34 Tryz.f34 [(.sl s9), (.sl s9)] [.bool] [a, b] =
      (bif ((a.len : Int) != (b.len : Int)) then some [(Dat.b false)] else loopE T C34 K keep34 Tryz.f34 0 0 (behind T C34 K keep34 Tryz.f34 [.bool] 0) K (S34_0 a b (0 : Int))) := by kernel_rfl
theorem con34 : ConOk E Tryz.prog 34 (eqSig (.sl s9)) := con hM hD hT hC34 keep34 Tryz.func34 (by kernel_rfl) (by kernel_rfl) fun ds hl hp => by
  obtain ⟨a, b, rfl⟩ := ds_two hl
  obtain ⟨ha, hb⟩ := both (show (fit M (.sl s9) a && fit M (.sl s9) b) = true from hp)
  obtain ⟨hn, he⟩ := fit_sl ha
  obtain ⟨hn2, he2⟩ := fit_sl hb
  refine ⟨a.len + 1, ?_⟩
  rw [f34_start]
  show _ = some [Dat.b (deq (.sl s9) a b)]
  rw [deq_sl]
  by_cases hlen : a.len = b.len
  · have c1 : ((a.len : Int) != (b.len : Int)) = false := by simp [hlen]
    have c2 : (a.len == b.len) = true := by simp [hlen]
    rw [c1, cond_false, c2, Bool.true_and]
    refine (all_loop (E := fun n j => loopE T C34 (a.len + 1) keep34 Tryz.f34 0 0 (behind T C34 (a.len + 1) keep34 Tryz.f34 [.bool] 0) n (S34_0 a b ((j : Nat) : Int))) (N := a.len) (p := fun j => deq s9 (a.fld j) (b.fld j)) (kT := some [.b true]) (kF := some [.b false]) (fun n j hj => ?_) (fun n => ?_)).trans ?_
    · have hj2 : j < b.len := by omega
      have f1 := he j hj
      have f2 := he2 j hj2
      show loopE T C34 (a.len + 1) keep34 Tryz.f34 0 0 (behind T C34 (a.len + 1) keep34 Tryz.f34 [.bool] 0) (n + 1) (S34_0 a b ((j : Nat) : Int)) = _
      rw [f34_round0]
      simp only [dlt hj, dge, dlt hj2, Int.toNat_natCast, f1, f2, Bool.and_self, cond_true, wrap_succ hj hn]
      cases deq s9 (a.fld j) (b.fld j) <;> rfl
    · show loopE T C34 (a.len + 1) keep34 Tryz.f34 0 0 (behind T C34 (a.len + 1) keep34 Tryz.f34 [.bool] 0) (n + 1) (S34_0 a b ((a.len : Nat) : Int)) = _
      rw [f34_round0, dnlt (Nat.lt_irrefl _)]; rfl
    · cases (List.range a.len).all fun j => deq s9 (a.fld j) (b.fld j) <;> rfl
  · have c1 : ((a.len : Int) != (b.len : Int)) = true := by simp; omega
    have c2 : (a.len == b.len) = false := by simp [hlen]
    rw [c1, cond_true, c2]; rfl


/-! laws.eqEnd -/
abbrev C59 : FuncId → Option Sig := tabC [(33, eqSig (.sl s4)), (36, eqSig (.sl tInt))]
theorem hC59 : ∀ g sg, C59 g = some sg → ConOk E Tryz.prog g sg := (tabC_cons con33 (tabC_cons con36 tabC_nil))
abbrev keep59 : Nat → List Nat := fun _ => []
theorem f59_start (K : Nat) (a : Dat) (b : Dat) : evBody T C59 noL K keep59 Tryz.f59 [s10, s10] [.bool] [a, b] =
      (bif ((a.fld 0).int != (b.fld 0).int) then some [(Dat.b false)] else (bif (fit M (.sl s4) (a.fld 1) && fit M (.sl s4) (b.fld 1)) then (bif (!(deq (.sl s4) (a.fld 1) (b.fld 1))) then some [(Dat.b false)] else (bif (fit M (.sl tInt) (a.fld 2) && fit M (.sl tInt) (b.fld 2)) then (bif (!(deq (.sl tInt) (a.fld 2) (b.fld 2))) then some [(Dat.b false)] else some [(Dat.b true)]) else none)) else none)) := by kernel_rfl
theorem con59 : ConOk E Tryz.prog 59 (eqSig s10) := con hM hD hT hC59 keep59 Tryz.func59 (by kernel_rfl) (by kernel_rfl) fun ds hl hp => by
  obtain ⟨a, b, rfl⟩ := ds_two hl
  obtain ⟨ha, hb⟩ := both (show (fit M s10 a && fit M s10 b) = true from hp)
  refine ⟨0, ?_⟩
  have h1 : (fit M (.sl s4) (a.fld 1) && fit M (.sl s4) (b.fld 1)) = true := and_both (fit_fld ha 1 rfl) (fit_fld hb 1 rfl)
  have h2 : (fit M (.sl tInt) (a.fld 2) && fit M (.sl tInt) (b.fld 2)) = true := and_both (fit_fld ha 2 rfl) (fit_fld hb 2 rfl)
  rw [f59_start]
  simp only [h1, h2, cond_true]
  show _ = some [Dat.b (((a.fld 0).int == (b.fld 0).int) && (deq (.sl s4) (a.fld 1) (b.fld 1) && (deq (.sl tInt) (a.fld 2) (b.fld 2) && true)))]
  exact (and_step (and_step (and_step rfl)))


/-! laws.eqEndS -/
abbrev C35 : FuncId → Option Sig := tabC [(59, eqSig s10)]
theorem hC35 : ∀ g sg, C35 g = some sg → ConOk E Tryz.prog g sg := (tabC_cons con59 tabC_nil)
abbrev keep35 : Nat → List Nat | 0 => [0, 1, 4, 5] | _ => []
def S35_0 (x0 : Dat) (x1 : Dat) (x5 : Int) : St := ⟨[.ro s10 x0, .ro s10 x1, .u, .u, .bool false, .int .i64 x5] ++ us 21, []⟩
theorem f35_round0 (K n : Nat) (x0 : Dat) (x1 : Dat) (x5 : Int) :
    loopE T C35 K keep35 Tryz.f35 0 0 (behind T C35 K keep35 Tryz.f35 [.bool] 0) (n + 1) (S35_0 x0 x1 x5) =
      (bif decide (x5 < (x0.len : Int)) then (bif (decide (0 ≤ x5) && decide (x5 < (x0.len : Int))) then (bif (decide (0 ≤ x5) && decide (x5 < (x1.len : Int))) then (bif (fit M s10 (x0.fld x5.toNat) && fit M s10 (x1.fld x5.toNat)) then (bif (!(deq s10 (x0.fld x5.toNat) (x1.fld x5.toNat))) then some [(Dat.b false)] else loopE T C35 K keep35 Tryz.f35 0 0 (behind T C35 K keep35 Tryz.f35 [.bool] 0) n (S35_0 x0 x1 (IntKind.i64.wrap (x5 + (1 : Int))))) else none) else none) else none) else some [(Dat.b true)]) := by kernel_rfl
theorem f35_start (K : Nat) (a : Dat) (b : Dat) : evBody T C35 noL K keep35 Tryz.f35 [(.sl s10), (.sl s10)] [.bool] [a, b] =
      (bif ((a.len : Int) != (b.len : Int)) then some [(Dat.b false)] else loopE T C35 K keep35 Tryz.f35 0 0 (behind T C35 K keep35 Tryz.f35 [.bool] 0) K (S35_0 a b (0 : Int))) := by kernel_rfl
theorem con35 : ConOk E Tryz.prog 35 (eqSig (.sl s10)) := con hM hD hT hC35 keep35 Tryz.func35 (by kernel_rfl) (by kernel_rfl) fun ds hl hp => by
  obtain ⟨a, b, rfl⟩ := ds_two hl
  obtain ⟨ha, hb⟩ := both (show (fit M (.sl s10) a && fit M (.sl s10) b) = true from hp)
  obtain ⟨hn, he⟩ := fit_sl ha
  obtain ⟨hn2, he2⟩ := fit_sl hb
  refine ⟨a.len + 1, ?_⟩
  rw [f35_start]
  show _ = some [Dat.b (deq (.sl s10) a b)]
  rw [deq_sl]
  by_cases hlen : a.len = b.len
  · have c1 : ((a.len : Int) != (b.len : Int)) = false := by simp [hlen]
    have c2 : (a.len == b.len) = true := by simp [hlen]
    rw [c1, cond_false, c2, Bool.true_and]
    refine (all_loop (E := fun n j => loopE T C35 (a.len + 1) keep35 Tryz.f35 0 0 (behind T C35 (a.len + 1) keep35 Tryz.f35 [.bool] 0) n (S35_0 a b ((j : Nat) : Int))) (N := a.len) (p := fun j => deq s10 (a.fld j) (b.fld j)) (kT := some [.b true]) (kF := some [.b false]) (fun n j hj => ?_) (fun n => ?_)).trans ?_
    · have hj2 : j < b.len := by omega
      have f1 := he j hj
      have f2 := he2 j hj2
      show loopE T C35 (a.len + 1) keep35 Tryz.f35 0 0 (behind T C35 (a.len + 1) keep35 Tryz.f35 [.bool] 0) (n + 1) (S35_0 a b ((j : Nat) : Int)) = _
      rw [f35_round0]
      simp only [dlt hj, dge, dlt hj2, Int.toNat_natCast, f1, f2, Bool.and_self, cond_true, wrap_succ hj hn]
      cases deq s10 (a.fld j) (b.fld j) <;> rfl
    · show loopE T C35 (a.len + 1) keep35 Tryz.f35 0 0 (behind T C35 (a.len + 1) keep35 Tryz.f35 [.bool] 0) (n + 1) (S35_0 a b ((a.len : Nat) : Int)) = _
      rw [f35_round0, dnlt (Nat.lt_irrefl _)]; rfl
    · cases (List.range a.len).all fun j => deq s10 (a.fld j) (b.fld j) <;> rfl
  · have c1 : ((a.len : Int) != (b.len : Int)) = true := by simp; omega
    have c2 : (a.len == b.len) = false := by simp [hlen]
    rw [c1, cond_true, c2]; rfl


/-! laws.eqCell -/
abbrev C105 : FuncId → Option Sig := tabC [(84, eqSig s1)]
theorem hC105 : ∀ g sg, C105 g = some sg → ConOk E Tryz.prog g sg := (tabC_cons con84 tabC_nil)
abbrev keep105 : Nat → List Nat := fun _ => []
theorem f105_start (K : Nat) (a : Dat) (b : Dat) : evBody T C105 noL K keep105 Tryz.f105 [s11, s11] [.bool] [a, b] =
      (bif ((a.fld 0).int != (b.fld 0).int) then some [(Dat.b false)] else (bif (fit M s1 (a.fld 1) && fit M s1 (b.fld 1)) then (bif (!(deq s1 (a.fld 1) (b.fld 1))) then some [(Dat.b false)] else some [(Dat.b true)]) else none)) := by kernel_rfl
theorem con105 : ConOk E Tryz.prog 105 (eqSig s11) := con hM hD hT hC105 keep105 Tryz.func105 (by kernel_rfl) (by kernel_rfl) fun ds hl hp => by
  obtain ⟨a, b, rfl⟩ := ds_two hl
  obtain ⟨ha, hb⟩ := both (show (fit M s11 a && fit M s11 b) = true from hp)
  refine ⟨0, ?_⟩
  have h1 : (fit M s1 (a.fld 1) && fit M s1 (b.fld 1)) = true := and_both (fit_fld ha 1 rfl) (fit_fld hb 1 rfl)
  rw [f105_start]
  simp only [h1, cond_true]
  show _ = some [Dat.b (((a.fld 0).int == (b.fld 0).int) && (deq s1 (a.fld 1) (b.fld 1) && true))]
  exact (and_step (and_step rfl))


/-! laws.eqCellS -/
abbrev C103 : FuncId → Option Sig := tabC [(105, eqSig s11)]
theorem hC103 : ∀ g sg, C103 g = some sg → ConOk E Tryz.prog g sg := (tabC_cons con105 tabC_nil)
abbrev keep103 : Nat → List Nat | 0 => [0, 1, 4, 5] | _ => []
def S103_0 (x0 : Dat) (x1 : Dat) (x5 : Int) : St := ⟨[.ro s11 x0, .ro s11 x1, .u, .u, .bool false, .int .i64 x5] ++ us 21, []⟩
theorem f103_round0 (K n : Nat) (x0 : Dat) (x1 : Dat) (x5 : Int) :
    loopE T C103 K keep103 Tryz.f103 0 0 (behind T C103 K keep103 Tryz.f103 [.bool] 0) (n + 1) (S103_0 x0 x1 x5) =
      (bif decide (x5 < (x0.len : Int)) then (bif (decide (0 ≤ x5) && decide (x5 < (x0.len : Int))) then (bif (decide (0 ≤ x5) && decide (x5 < (x1.len : Int))) then (bif (fit M s11 (x0.fld x5.toNat) && fit M s11 (x1.fld x5.toNat)) then (bif (!(deq s11 (x0.fld x5.toNat) (x1.fld x5.toNat))) then some [(Dat.b false)] else loopE T C103 K keep103 Tryz.f103 0 0 (behind T C103 K keep103 Tryz.f103 [.bool] 0) n (S103_0 x0 x1 (IntKind.i64.wrap (x5 + (1 : Int))))) else none) else none) else none) else some [(Dat.b true)]) := by kernel_rfl
theorem f103_start (K : Nat) (a : Dat) (b : Dat) : evBody T C103 noL K keep103 Tryz.f103 [(.sl s11), (.sl s11)] [.bool] [a, b] =
      (bif ((a.len : Int) != (b.len : Int)) then some [(Dat.b false)] else loopE T C103 K keep103 Tryz.f103 0 0 (behind T C103 K keep103 Tryz.f103 [.bool] 0) K (S103_0 a b (0 : Int))) := by kernel_rfl
theorem con103 : ConOk E Tryz.prog 103 (eqSig (.sl s11)) := con hM hD hT hC103 keep103 Tryz.func103 (by kernel_rfl) (by kernel_rfl) fun ds hl hp => by
  obtain ⟨a, b, rfl⟩ := ds_two hl
  obtain ⟨ha, hb⟩ := both (show (fit M (.sl s11) a && fit M (.sl s11) b) = true from hp)
  obtain ⟨hn, he⟩ := fit_sl ha
  obtain ⟨hn2, he2⟩ := fit_sl hb
  refine ⟨a.len + 1, ?_⟩
  rw [f103_start]
  show _ = some [Dat.b (deq (.sl s11) a b)]
  rw [deq_sl]
  by_cases hlen : a.len = b.len
  · have c1 : ((a.len : Int) != (b.len : Int)) = false := by simp [hlen]
    have c2 : (a.len == b.len) = true := by simp [hlen]
    rw [c1, cond_false, c2, Bool.true_and]
    refine (all_loop (E := fun n j => loopE T C103 (a.len + 1) keep103 Tryz.f103 0 0 (behind T C103 (a.len + 1) keep103 Tryz.f103 [.bool] 0) n (S103_0 a b ((j : Nat) : Int))) (N := a.len) (p := fun j => deq s11 (a.fld j) (b.fld j)) (kT := some [.b true]) (kF := some [.b false]) (fun n j hj => ?_) (fun n => ?_)).trans ?_
    · have hj2 : j < b.len := by omega
      have f1 := he j hj
      have f2 := he2 j hj2
      show loopE T C103 (a.len + 1) keep103 Tryz.f103 0 0 (behind T C103 (a.len + 1) keep103 Tryz.f103 [.bool] 0) (n + 1) (S103_0 a b ((j : Nat) : Int)) = _
      rw [f103_round0]
      simp only [dlt hj, dge, dlt hj2, Int.toNat_natCast, f1, f2, Bool.and_self, cond_true, wrap_succ hj hn]
      cases deq s11 (a.fld j) (b.fld j) <;> rfl
    · show loopE T C103 (a.len + 1) keep103 Tryz.f103 0 0 (behind T C103 (a.len + 1) keep103 Tryz.f103 [.bool] 0) (n + 1) (S103_0 a b ((a.len : Nat) : Int)) = _
      rw [f103_round0, dnlt (Nat.lt_irrefl _)]; rfl
    · cases (List.range a.len).all fun j => deq s11 (a.fld j) (b.fld j) <;> rfl
  · have c1 : ((a.len : Int) != (b.len : Int)) = true := by simp; omega
    have c2 : (a.len == b.len) = false := by simp [hlen]
    rw [c1, cond_true, c2]; rfl


/-! laws.eqMsg -/
abbrev C98 : FuncId → Option Sig := tabC [(103, eqSig (.sl s11)), (33, eqSig (.sl s4))]
theorem hC98 : ∀ g sg, C98 g = some sg → ConOk E Tryz.prog g sg := (tabC_cons con103 (tabC_cons con33 tabC_nil))
abbrev keep98 : Nat → List Nat := fun _ => []
theorem f98_start (K : Nat) (a : Dat) (b : Dat) : evBody T C98 noL K keep98 Tryz.f98 [s12, s12] [.bool] [a, b] =
      (bif ((a.fld 0).int != (b.fld 0).int) then some [(Dat.b false)] else (bif ((a.fld 1).int != (b.fld 1).int) then some [(Dat.b false)] else (bif ((a.fld 2).int != (b.fld 2).int) then some [(Dat.b false)] else (bif ((a.fld 3).int != (b.fld 3).int) then some [(Dat.b false)] else (bif ((a.fld 4).int != (b.fld 4).int) then some [(Dat.b false)] else (bif (fit M (.sl s11) (a.fld 5) && fit M (.sl s11) (b.fld 5)) then (bif (!(deq (.sl s11) (a.fld 5) (b.fld 5))) then some [(Dat.b false)] else (bif (fit M (.sl s4) (a.fld 6) && fit M (.sl s4) (b.fld 6)) then (bif (!(deq (.sl s4) (a.fld 6) (b.fld 6))) then some [(Dat.b false)] else some [(Dat.b true)]) else none)) else none)))))) := by kernel_rfl
theorem con98 : ConOk E Tryz.prog 98 (eqSig s12) := con hM hD hT hC98 keep98 Tryz.func98 (by kernel_rfl) (by kernel_rfl) fun ds hl hp => by
  obtain ⟨a, b, rfl⟩ := ds_two hl
  obtain ⟨ha, hb⟩ := both (show (fit M s12 a && fit M s12 b) = true from hp)
  refine ⟨0, ?_⟩
  have h5 : (fit M (.sl s11) (a.fld 5) && fit M (.sl s11) (b.fld 5)) = true := and_both (fit_fld ha 5 rfl) (fit_fld hb 5 rfl)
  have h6 : (fit M (.sl s4) (a.fld 6) && fit M (.sl s4) (b.fld 6)) = true := and_both (fit_fld ha 6 rfl) (fit_fld hb 6 rfl)
  rw [f98_start]
  simp only [h5, h6, cond_true]
  show _ = some [Dat.b (((a.fld 0).int == (b.fld 0).int) && (((a.fld 1).int == (b.fld 1).int) && (((a.fld 2).int == (b.fld 2).int) && (((a.fld 3).int == (b.fld 3).int) && (((a.fld 4).int == (b.fld 4).int) && (deq (.sl s11) (a.fld 5) (b.fld 5) && (deq (.sl s4) (a.fld 6) (b.fld 6) && true)))))))]
  exact (and_step (and_step (and_step (and_step (and_step (and_step (and_step rfl)))))))


/-! laws.eqMsgS -/
abbrev C87 : FuncId → Option Sig := tabC [(98, eqSig s12)]
theorem hC87 : ∀ g sg, C87 g = some sg → ConOk E Tryz.prog g sg := (tabC_cons con98 tabC_nil)
abbrev keep87 : Nat → List Nat | 0 => [0, 1, 4, 5] | _ => []
def S87_0 (x0 : Dat) (x1 : Dat) (x5 : Int) : St := ⟨[.ro s12 x0, .ro s12 x1, .u, .u, .bool false, .int .i64 x5] ++ us 21, []⟩
theorem f87_round0 (K n : Nat) (x0 : Dat) (x1 : Dat) (x5 : Int) :
    loopE T C87 K keep87 Tryz.f87 0 0 (behind T C87 K keep87 Tryz.f87 [.bool] 0) (n + 1) (S87_0 x0 x1 x5) =
      (bif decide (x5 < (x0.len : Int)) then (bif (decide (0 ≤ x5) && decide (x5 < (x0.len : Int))) then (bif (decide (0 ≤ x5) && decide (x5 < (x1.len : Int))) then (bif (fit M s12 (x0.fld x5.toNat) && fit M s12 (x1.fld x5.toNat)) then (bif (!(deq s12 (x0.fld x5.toNat) (x1.fld x5.toNat))) then some [(Dat.b false)] else loopE T C87 K keep87 Tryz.f87 0 0 (behind T C87 K keep87 Tryz.f87 [.bool] 0) n (S87_0 x0 x1 (IntKind.i64.wrap (x5 + (1 : Int))))) else none) else none) else none) else some [(Dat.b true)]) := by kernel_rfl
theorem f87_start (K : Nat) (a : Dat) (b : Dat) : evBody T C87 noL K keep87 Tryz.f87 [(.sl s12), (.sl s12)] [.bool] [a, b] =
      (bif ((a.len : Int) != (b.len : Int)) then some [(Dat.b false)] else loopE T C87 K keep87 Tryz.f87 0 0 (behind T C87 K keep87 Tryz.f87 [.bool] 0) K (S87_0 a b (0 : Int))) := by kernel_rfl
theorem con87 : ConOk E Tryz.prog 87 (eqSig (.sl s12)) := con hM hD hT hC87 keep87 Tryz.func87 (by kernel_rfl) (by kernel_rfl) fun ds hl hp => by
  obtain ⟨a, b, rfl⟩ := ds_two hl
  obtain ⟨ha, hb⟩ := both (show (fit M (.sl s12) a && fit M (.sl s12) b) = true from hp)
  obtain ⟨hn, he⟩ := fit_sl ha
  obtain ⟨hn2, he2⟩ := fit_sl hb
  refine ⟨a.len + 1, ?_⟩
  rw [f87_start]
  show _ = some [Dat.b (deq (.sl s12) a b)]
  rw [deq_sl]
  by_cases hlen : a.len = b.len
  · have c1 : ((a.len : Int) != (b.len : Int)) = false := by simp [hlen]
    have c2 : (a.len == b.len) = true := by simp [hlen]
    rw [c1, cond_false, c2, Bool.true_and]
    refine (all_loop (E := fun n j => loopE T C87 (a.len + 1) keep87 Tryz.f87 0 0 (behind T C87 (a.len + 1) keep87 Tryz.f87 [.bool] 0) n (S87_0 a b ((j : Nat) : Int))) (N := a.len) (p := fun j => deq s12 (a.fld j) (b.fld j)) (kT := some [.b true]) (kF := some [.b false]) (fun n j hj => ?_) (fun n => ?_)).trans ?_
    · have hj2 : j < b.len := by omega
      have f1 := he j hj
      have f2 := he2 j hj2
      show loopE T C87 (a.len + 1) keep87 Tryz.f87 0 0 (behind T C87 (a.len + 1) keep87 Tryz.f87 [.bool] 0) (n + 1) (S87_0 a b ((j : Nat) : Int)) = _
      rw [f87_round0]
      simp only [dlt hj, dge, dlt hj2, Int.toNat_natCast, f1, f2, Bool.and_self, cond_true, wrap_succ hj hn]
      cases deq s12 (a.fld j) (b.fld j) <;> rfl
    · show loopE T C87 (a.len + 1) keep87 Tryz.f87 0 0 (behind T C87 (a.len + 1) keep87 Tryz.f87 [.bool] 0) (n + 1) (S87_0 a b ((a.len : Nat) : Int)) = _
      rw [f87_round0, dnlt (Nat.lt_irrefl _)]; rfl
    · cases (List.range a.len).all fun j => deq s12 (a.fld j) (b.fld j) <;> rfl
  · have c1 : ((a.len : Int) != (b.len : Int)) = true := by simp; omega
    have c2 : (a.len == b.len) = false := by simp [hlen]
    rw [c1, cond_true, c2]; rfl


/-! laws.eqSender -/
abbrev C73 : FuncId → Option Sig := tabC [(87, eqSig (.sl s12))]
theorem hC73 : ∀ g sg, C73 g = some sg → ConOk E Tryz.prog g sg := (tabC_cons con87 tabC_nil)
abbrev keep73 : Nat → List Nat := fun _ => []
theorem f73_start (K : Nat) (a : Dat) (b : Dat) : evBody T C73 noL K keep73 Tryz.f73 [s13, s13] [.bool] [a, b] =
      (bif ((a.fld 0).int != (b.fld 0).int) then some [(Dat.b false)] else (bif (fit M (.sl s12) (a.fld 1) && fit M (.sl s12) (b.fld 1)) then (bif (!(deq (.sl s12) (a.fld 1) (b.fld 1))) then some [(Dat.b false)] else some [(Dat.b true)]) else none)) := by kernel_rfl
theorem con73 : ConOk E Tryz.prog 73 (eqSig s13) := con hM hD hT hC73 keep73 Tryz.func73 (by kernel_rfl) (by kernel_rfl) fun ds hl hp => by
  obtain ⟨a, b, rfl⟩ := ds_two hl
  obtain ⟨ha, hb⟩ := both (show (fit M s13 a && fit M s13 b) = true from hp)
  refine ⟨0, ?_⟩
  have h1 : (fit M (.sl s12) (a.fld 1) && fit M (.sl s12) (b.fld 1)) = true := and_both (fit_fld ha 1 rfl) (fit_fld hb 1 rfl)
  rw [f73_start]
  simp only [h1, cond_true]
  show _ = some [Dat.b (((a.fld 0).int == (b.fld 0).int) && (deq (.sl s12) (a.fld 1) (b.fld 1) && true))]
  exact (and_step (and_step rfl))


/-! laws.eqLine -/
abbrev C60 : FuncId → Option Sig := tabC [(73, eqSig s13)]
theorem hC60 : ∀ g sg, C60 g = some sg → ConOk E Tryz.prog g sg := (tabC_cons con73 tabC_nil)
abbrev keep60 : Nat → List Nat := fun _ => []
theorem f60_start (K : Nat) (a : Dat) (b : Dat) : evBody T C60 noL K keep60 Tryz.f60 [s14, s14] [.bool] [a, b] =
      (bif (fit M s13 (a.fld 0) && fit M s13 (b.fld 0)) then (bif (!(deq s13 (a.fld 0) (b.fld 0))) then some [(Dat.b false)] else (bif ((a.fld 1).int != (b.fld 1).int) then some [(Dat.b false)] else some [(Dat.b true)])) else none) := by kernel_rfl
theorem con60 : ConOk E Tryz.prog 60 (eqSig s14) := con hM hD hT hC60 keep60 Tryz.func60 (by kernel_rfl) (by kernel_rfl) fun ds hl hp => by
  obtain ⟨a, b, rfl⟩ := ds_two hl
  obtain ⟨ha, hb⟩ := both (show (fit M s14 a && fit M s14 b) = true from hp)
  refine ⟨0, ?_⟩
  have h0 : (fit M s13 (a.fld 0) && fit M s13 (b.fld 0)) = true := and_both (fit_fld ha 0 rfl) (fit_fld hb 0 rfl)
  rw [f60_start]
  simp only [h0, cond_true]
  show _ = some [Dat.b (deq s13 (a.fld 0) (b.fld 0) && (((a.fld 1).int == (b.fld 1).int) && true))]
  exact (and_step (and_step rfl))


/-! laws.eqLineS -/
abbrev C37 : FuncId → Option Sig := tabC [(60, eqSig s14)]
theorem hC37 : ∀ g sg, C37 g = some sg → ConOk E Tryz.prog g sg := (tabC_cons con60 tabC_nil)
abbrev keep37 : Nat → List Nat | 0 => [0, 1, 4, 5] | _ => []
def S37_0 (x0 : Dat) (x1 : Dat) (x5 : Int) : St := ⟨[.ro s14 x0, .ro s14 x1, .u, .u, .bool false, .int .i64 x5] ++ us 21, []⟩
theorem f37_round0 (K n : Nat) (x0 : Dat) (x1 : Dat) (x5 : Int) :
    loopE T C37 K keep37 Tryz.f37 0 0 (behind T C37 K keep37 Tryz.f37 [.bool] 0) (n + 1) (S37_0 x0 x1 x5) =
      (bif decide (x5 < (x0.len : Int)) then (bif (decide (0 ≤ x5) && decide (x5 < (x0.len : Int))) then (bif (decide (0 ≤ x5) && decide (x5 < (x1.len : Int))) then (bif (fit M s14 (x0.fld x5.toNat) && fit M s14 (x1.fld x5.toNat)) then (bif (!(deq s14 (x0.fld x5.toNat) (x1.fld x5.toNat))) then some [(Dat.b false)] else loopE T C37 K keep37 Tryz.f37 0 0 (behind T C37 K keep37 Tryz.f37 [.bool] 0) n (S37_0 x0 x1 (IntKind.i64.wrap (x5 + (1 : Int))))) else none) else none) else none) else some [(Dat.b true)]) := by kernel_rfl
theorem f37_start (K : Nat) (a : Dat) (b : Dat) : evBody T C37 noL K keep37 Tryz.f37 [(.sl s14), (.sl s14)] [.bool] [a, b] =
      (bif ((a.len : Int) != (b.len : Int)) then some [(Dat.b false)] else loopE T C37 K keep37 Tryz.f37 0 0 (behind T C37 K keep37 Tryz.f37 [.bool] 0) K (S37_0 a b (0 : Int))) := by kernel_rfl
theorem con37 : ConOk E Tryz.prog 37 (eqSig (.sl s14)) := con hM hD hT hC37 keep37 Tryz.func37 (by kernel_rfl) (by kernel_rfl) fun ds hl hp => by
  obtain ⟨a, b, rfl⟩ := ds_two hl
  obtain ⟨ha, hb⟩ := both (show (fit M (.sl s14) a && fit M (.sl s14) b) = true from hp)
  obtain ⟨hn, he⟩ := fit_sl ha
  obtain ⟨hn2, he2⟩ := fit_sl hb
  refine ⟨a.len + 1, ?_⟩
  rw [f37_start]
  show _ = some [Dat.b (deq (.sl s14) a b)]
  rw [deq_sl]
  by_cases hlen : a.len = b.len
  · have c1 : ((a.len : Int) != (b.len : Int)) = false := by simp [hlen]
    have c2 : (a.len == b.len) = true := by simp [hlen]
    rw [c1, cond_false, c2, Bool.true_and]
    refine (all_loop (E := fun n j => loopE T C37 (a.len + 1) keep37 Tryz.f37 0 0 (behind T C37 (a.len + 1) keep37 Tryz.f37 [.bool] 0) n (S37_0 a b ((j : Nat) : Int))) (N := a.len) (p := fun j => deq s14 (a.fld j) (b.fld j)) (kT := some [.b true]) (kF := some [.b false]) (fun n j hj => ?_) (fun n => ?_)).trans ?_
    · have hj2 : j < b.len := by omega
      have f1 := he j hj
      have f2 := he2 j hj2
      show loopE T C37 (a.len + 1) keep37 Tryz.f37 0 0 (behind T C37 (a.len + 1) keep37 Tryz.f37 [.bool] 0) (n + 1) (S37_0 a b ((j : Nat) : Int)) = _
      rw [f37_round0]
      simp only [dlt hj, dge, dlt hj2, Int.toNat_natCast, f1, f2, Bool.and_self, cond_true, wrap_succ hj hn]
      cases deq s14 (a.fld j) (b.fld j) <;> rfl
    · show loopE T C37 (a.len + 1) keep37 Tryz.f37 0 0 (behind T C37 (a.len + 1) keep37 Tryz.f37 [.bool] 0) (n + 1) (S37_0 a b ((a.len : Nat) : Int)) = _
      rw [f37_round0, dnlt (Nat.lt_irrefl _)]; rfl
    · cases (List.range a.len).all fun j => deq s14 (a.fld j) (b.fld j) <;> rfl
  · have c1 : ((a.len : Int) != (b.len : Int)) = true := by simp; omega
    have c2 : (a.len == b.len) = false := by simp [hlen]
    rw [c1, cond_true, c2]; rfl


/-! laws.eqNode -/
abbrev C8 : FuncId → Option Sig := tabC [(29, eqSig (.sl s2)), (30, eqSig (.sl s3)), (31, eqSig (.sl s4)), (32, eqSig (.sl s5)), (33, eqSig (.sl s4)), (34, eqSig (.sl s9)), (35, eqSig (.sl s10)), (36, eqSig (.sl tInt)), (37, eqSig (.sl s14))]
theorem hC8 : ∀ g sg, C8 g = some sg → ConOk E Tryz.prog g sg := (tabC_cons con29 (tabC_cons con30 (tabC_cons con31 (tabC_cons con32 (tabC_cons con33 (tabC_cons con34 (tabC_cons con35 (tabC_cons con36 (tabC_cons con37 tabC_nil)))))))))
abbrev keep8 : Nat → List Nat := fun _ => []
theorem f8_start (K : Nat) (a : Dat) (b : Dat) : evBody T C8 noL K keep8 Tryz.f8 [s15, s15] [.bool] [a, b] =
      (bif ((a.fld 0).int != (b.fld 0).int) then some [(Dat.b false)] else (bif (fit M (.sl s2) (a.fld 1) && fit M (.sl s2) (b.fld 1)) then (bif (!(deq (.sl s2) (a.fld 1) (b.fld 1))) then some [(Dat.b false)] else (bif (fit M (.sl s3) (a.fld 2) && fit M (.sl s3) (b.fld 2)) then (bif (!(deq (.sl s3) (a.fld 2) (b.fld 2))) then some [(Dat.b false)] else (bif (fit M (.sl s4) (a.fld 3) && fit M (.sl s4) (b.fld 3)) then (bif (!(deq (.sl s4) (a.fld 3) (b.fld 3))) then some [(Dat.b false)] else (bif (fit M (.sl s5) (a.fld 4) && fit M (.sl s5) (b.fld 4)) then (bif (!(deq (.sl s5) (a.fld 4) (b.fld 4))) then some [(Dat.b false)] else (bif (fit M (.sl s4) (a.fld 5) && fit M (.sl s4) (b.fld 5)) then (bif (!(deq (.sl s4) (a.fld 5) (b.fld 5))) then some [(Dat.b false)] else (bif (fit M (.sl s9) (a.fld 6) && fit M (.sl s9) (b.fld 6)) then (bif (!(deq (.sl s9) (a.fld 6) (b.fld 6))) then some [(Dat.b false)] else (bif (fit M (.sl s10) (a.fld 7) && fit M (.sl s10) (b.fld 7)) then (bif (!(deq (.sl s10) (a.fld 7) (b.fld 7))) then some [(Dat.b false)] else (bif (fit M (.sl tInt) (a.fld 8) && fit M (.sl tInt) (b.fld 8)) then (bif (!(deq (.sl tInt) (a.fld 8) (b.fld 8))) then some [(Dat.b false)] else (bif (fit M (.sl s14) (a.fld 9) && fit M (.sl s14) (b.fld 9)) then (bif (!(deq (.sl s14) (a.fld 9) (b.fld 9))) then some [(Dat.b false)] else some [(Dat.b true)]) else none)) else none)) else none)) else none)) else none)) else none)) else none)) else none)) else none)) := by kernel_rfl
theorem con8 : ConOk E Tryz.prog 8 (eqSig s15) := con hM hD hT hC8 keep8 Tryz.func8 (by kernel_rfl) (by kernel_rfl) fun ds hl hp => by
  obtain ⟨a, b, rfl⟩ := ds_two hl
  obtain ⟨ha, hb⟩ := both (show (fit M s15 a && fit M s15 b) = true from hp)
  refine ⟨0, ?_⟩
  have h1 : (fit M (.sl s2) (a.fld 1) && fit M (.sl s2) (b.fld 1)) = true := and_both (fit_fld ha 1 rfl) (fit_fld hb 1 rfl)
  have h2 : (fit M (.sl s3) (a.fld 2) && fit M (.sl s3) (b.fld 2)) = true := and_both (fit_fld ha 2 rfl) (fit_fld hb 2 rfl)
  have h3 : (fit M (.sl s4) (a.fld 3) && fit M (.sl s4) (b.fld 3)) = true := and_both (fit_fld ha 3 rfl) (fit_fld hb 3 rfl)
  have h4 : (fit M (.sl s5) (a.fld 4) && fit M (.sl s5) (b.fld 4)) = true := and_both (fit_fld ha 4 rfl) (fit_fld hb 4 rfl)
  have h5 : (fit M (.sl s4) (a.fld 5) && fit M (.sl s4) (b.fld 5)) = true := and_both (fit_fld ha 5 rfl) (fit_fld hb 5 rfl)
  have h6 : (fit M (.sl s9) (a.fld 6) && fit M (.sl s9) (b.fld 6)) = true := and_both (fit_fld ha 6 rfl) (fit_fld hb 6 rfl)
  have h7 : (fit M (.sl s10) (a.fld 7) && fit M (.sl s10) (b.fld 7)) = true := and_both (fit_fld ha 7 rfl) (fit_fld hb 7 rfl)
  have h8 : (fit M (.sl tInt) (a.fld 8) && fit M (.sl tInt) (b.fld 8)) = true := and_both (fit_fld ha 8 rfl) (fit_fld hb 8 rfl)
  have h9 : (fit M (.sl s14) (a.fld 9) && fit M (.sl s14) (b.fld 9)) = true := and_both (fit_fld ha 9 rfl) (fit_fld hb 9 rfl)
  rw [f8_start]
  simp only [h1, h2, h3, h4, h5, h6, h7, h8, h9, cond_true]
  show _ = some [Dat.b (((a.fld 0).int == (b.fld 0).int) && (deq (.sl s2) (a.fld 1) (b.fld 1) && (deq (.sl s3) (a.fld 2) (b.fld 2) && (deq (.sl s4) (a.fld 3) (b.fld 3) && (deq (.sl s5) (a.fld 4) (b.fld 4) && (deq (.sl s4) (a.fld 5) (b.fld 5) && (deq (.sl s9) (a.fld 6) (b.fld 6) && (deq (.sl s10) (a.fld 7) (b.fld 7) && (deq (.sl tInt) (a.fld 8) (b.fld 8) && (deq (.sl s14) (a.fld 9) (b.fld 9) && true))))))))))]
  exact (and_step (and_step (and_step (and_step (and_step (and_step (and_step (and_step (and_step (and_step rfl))))))))))


/-! laws.FnExactNodeText -/
abbrev C3 : FuncId → Option Sig := tabC [(4, szSig s15), (6, toSig s15 s15), (5, ⟨[s15], [.str], fun l => fit 1048576 s15 (l.getD 0 (.n [])), fun l => [.s (nodeS (l.getD 0 (.n [])))]⟩), (7, ⟨[s15], [.str], fun l => fit 1048576 s15 (l.getD 0 (.n [])), fun l => [.s (nodeS (l.getD 0 (.n [])))]⟩), (8, eqSig s15)]
theorem hC3 : ∀ g sg, C3 g = some sg → ConOk E Tryz.prog g sg := (tabC_cons con4 (tabC_cons con6 (tabC_cons con5 (tabC_cons con7 (tabC_cons con8 tabC_nil)))))
abbrev keep3 : Nat → List Nat := fun _ => []
theorem f3_start (K : Nat) (a : Dat) : evBody T C3 noL K keep3 Tryz.f3 [s15] [.bool] [a] =
      (bif (fit M s15 a && (decide (0 ≤ (1048576 : Int)) && decide ((1048576 : Int) ≤ 1048576))) then (bif decide ((szR s15 a (1048576 : Int)) < (0 : Int)) then some [(Dat.b true)] else (bif fit 1048576 s15 a then (bif fit 1048576 s15 (can s15 a) then (bif fit 1048576 s15 a then (bif fit 1048576 s15 (can s15 a) then (bif (!((nodeS (can s15 a)).toList == (nodeS (can s15 a)).toList)) then some [(Dat.b false)] else (bif fit 1048576 s15 a then (bif (fit M s15 (can s15 a) && fit M s15 (can s15 a)) then (bif (!(deq s15 (can s15 a) (can s15 a))) then some [(Dat.b false)] else some [(Dat.b true)]) else none) else none)) else none) else none) else none) else none)) else none) := by kernel_rfl
theorem con3 : ConOk E Tryz.prog 3 (lawSig [s15]) := con hM hD hT hC3 keep3 Tryz.func3 (by kernel_rfl) (by kernel_rfl) fun ds hl hp => by
  obtain ⟨a, rfl⟩ := ds_one hl
  obtain ⟨ha, _⟩ := both (show (fit M s15 a && true) = true from hp)
  refine ⟨0, ?_⟩
  show _ = some [Dat.b true]
  rw [f3_start, sz_arg ha (by omega) (by omega), cond_true]
  by_cases n1 : szR s15 a 1048576 < 0
  · rw [decide_eq_true n1]; rfl
  · have hf := fit_of_sz ha n1 (by omega)
    have hf2 : fit 1048576 s15 (can s15 a) = true := by rw [fit_can]; exact hf
    rw [decide_eq_false n1, cond_false]
    simp only [hf, hf2, fitM_can ha, deq_refl, Bool.and_self, cond_true, beq_self_eq_true, Bool.not_true, cond_false]


end Go.F1
