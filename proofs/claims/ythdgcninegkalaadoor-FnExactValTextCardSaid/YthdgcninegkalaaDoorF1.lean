/- Contracts of functions, by program. -/
import Derived.Test.YthdgcninegkalaaDoorEvY
import Derived.Test.YthdgcninegkalaaDoorFVal
import Derived.Test.YthdgcninegkalaaDoorFL
import Derived.Test.YthdgcninegkalaaDoorRows
namespace Go.F1
open Go Go.Ev Go.Proofs
set_option maxRecDepth 100000
abbrev tabName : String := Go.Proofs.YthdgcninegkalaaDoor.Rows.fnExactValTextRow.named.getD 0 default
theorem tabG : Tryd.prog.globalNamed tabName = some 0 := by kernel_rfl
abbrev E : Env := tabEnv Tryd.prog tabName .u64 Lib.pow10Tab 0 tabG
theorem hM : Tryd.prog.follows .mixedOrders = true := by kernel_rfl
theorem hD : 16 ≤ Tryd.prog.depth := of_decide_eq_true (by kernel_rfl)
abbrev tInt : Ty := .int .i64
abbrev s0 : Ty := (.st [tInt, tInt, .bool, (.int .u8)])
abbrev s1 : Ty := (.st [.bool, tInt])
def tab : TyTab := [none, none, none, some tInt, some (.bool), some (.int .u8), none, none, none, some (.str)] ++ List.replicate 13 none ++ [some s1, none, some s1] ++ List.replicate 6 none ++ [some (.sl (.int .u8))] ++ List.replicate 33 none
abbrev T : TypeId → Option Ty := TyTab.get tab
theorem hT : ∀ t ty, T t = some ty → TyOk Tryd.prog t ty := tab_ok (by kernel_rfl)

/-! laws.toVal -/
abbrev C5 : FuncId → Option Sig := tabC []
theorem hC5 : ∀ g sg, C5 g = some sg → ConOk E Tryd.prog g sg := tabC_nil
abbrev keep5 : Nat → List Nat := fun _ => []
theorem f5_start (K : Nat) (a : Dat) : evBody T C5 noL K keep5 Tryd.f5 [s1] [s1] [a] =
      some [(Dat.n [(Dat.b ((a.fld 0).bool)), (Dat.i ((a.fld 1).int))])] := by kernel_rfl
theorem con5 : ConOk E Tryd.prog 5 (toSig s1 s1) := con hM hD hT hC5 keep5 Tryd.func5 (by kernel_rfl) (by kernel_rfl) fun ds hl hp => by
  obtain ⟨a, rfl⟩ := ds_one hl
  replace hp : fit 1048576 s1 a = true := hp
  refine ⟨0, ?_⟩
  rw [f5_start]
  rfl


/-! spec.l1In -/
abbrev C11 : FuncId → Option Sig := tabC []
theorem hC11 : ∀ g sg, C11 g = some sg → ConOk E Tryd.prog g sg := tabC_nil
abbrev keep11 : Nat → List Nat := fun _ => []
theorem f11_start (K : Nat) (a : Dat) (b : Dat) (c : Dat) : evBody T C11 noL K keep11 Tryd.f11 [tInt, tInt, tInt] [.bool] [a, b, c] =
      (bif decide (a.int ≥ b.int) then some [(Dat.b (decide (a.int ≤ c.int)))] else some [(Dat.b false)]) := by kernel_rfl
theorem con11 : ConOk E Tryd.prog 11 inSig := con hM hD hT hC11 keep11 Tryd.func11 (by kernel_rfl) (by kernel_rfl) fun ds hl hp => by
  obtain ⟨a, b, c, rfl⟩ := ds_three hl
  refine ⟨0, ?_⟩
  rw [f11_start]
  show _ = some [Dat.b (inR a.int b.int c.int)]
  exact inR_if _ _ _

/-! spec.l1Word -/
abbrev C12 : FuncId → Option Sig := tabC [(11, inSig)]
theorem hC12 : ∀ g sg, C12 g = some sg → ConOk E Tryd.prog g sg := (tabC_cons con11 tabC_nil)
abbrev keep12 : Nat → List Nat := fun _ => []
theorem f12_start (K : Nat) (a : Dat) : evBody T C12 noL K keep12 Tryd.f12 [tInt] [.bool] [a] =
      some [(Dat.b (inR a.int (-2147483648 : Int) (2147483647 : Int)))] := by kernel_rfl
theorem con12 : ConOk E Tryd.prog 12 (oneSig tInt .bool fun a => .b (inR a.int (-2147483648) 2147483647)) := con hM hD hT hC12 keep12 Tryd.func12 (by kernel_rfl) (by kernel_rfl) fun ds hl hp => by
  obtain ⟨a, rfl⟩ := ds_one hl
  exact ⟨0, f12_start 0 a⟩

/-! spec.ValOk -/
abbrev C7 : FuncId → Option Sig := tabC [(11, inSig), (12, oneSig tInt .bool fun a => .b (inR a.int (-2147483648) 2147483647))]
theorem hC7 : ∀ g sg, C7 g = some sg → ConOk E Tryd.prog g sg := (tabC_cons con11 (tabC_cons con12 tabC_nil))
abbrev keep7 : Nat → List Nat := fun _ => []
theorem f7_start (K : Nat) (a : Dat) : evBody T C7 noL K keep7 Tryd.f7 [s1] [.bool] [a] =
      (bif (a.fld 0).bool then some [(Dat.b (inR ((a.fld 1).int) (0 : Int) (1000000 : Int)))] else some [(Dat.b (inR ((a.fld 1).int) (-2147483648) 2147483647))]) := by kernel_rfl
theorem con7 : ConOk E Tryd.prog 7 (oneSig s1 .bool fun a => .b (valOk a)) := con hM hD hT hC7 keep7 Tryd.func7 (by kernel_rfl) (by kernel_rfl) fun ds hl hp => by
  obtain ⟨a, rfl⟩ := ds_one hl
  refine ⟨0, ?_⟩
  rw [f7_start]
  show _ = some [Dat.b (valOk a)]
  unfold valOk
  cases (a.fld 0).bool <;> rfl

/-! spec.l9Digits -/
abbrev C8 : FuncId → Option Sig := tabC []
theorem hC8 : ∀ g sg, C8 g = some sg → ConOk E Tryd.prog g sg := tabC_nil
abbrev keep8 : Nat → List Nat | 0 => [0, 3, 4] | _ => []
def S8_0 (x0 : Int) (x3 : Bool) (x4 : ByteArray) : St := ⟨[.int .i64 x0, .u, .u, .bool x3, .str x4] ++ us 26, []⟩
theorem f8_round0 (K n : Nat) (x0 : Int) (x3 : Bool) (x4 : ByteArray) :
    loopE T C8 K keep8 Tryd.f8 0 0 (behind T C8 K keep8 Tryd.f8 [.str] 0) (n + 1) (S8_0 x0 x3 x4) =
      (bif (x0 != (0 : Int)) then (bif decide ((10 : Int) ≠ 0) then (bif decide ((x0.tmod (10 : Int)) < (0 : Int)) then (bif decide ((bytesOf ([(Dat.i (IntKind.u8.wrap (IntKind.i64.wrap ((48 : Int) + (IntKind.i64.wrap ((0 : Int) - (x0.tmod (10 : Int))))))))])).size + x4.size ≤ 4611686018427387904) then (bif decide ((10 : Int) ≠ 0) then loopE T C8 K keep8 Tryd.f8 0 0 (behind T C8 K keep8 Tryd.f8 [.str] 0) n (S8_0 (IntKind.i64.wrap (x0.tdiv (10 : Int))) x3 ((bytesOf ([(Dat.i (IntKind.u8.wrap (IntKind.i64.wrap ((48 : Int) + (IntKind.i64.wrap ((0 : Int) - (x0.tmod (10 : Int))))))))])) ++ x4)) else none) else none) else (bif decide ((bytesOf ([(Dat.i (IntKind.u8.wrap (IntKind.i64.wrap ((48 : Int) + (x0.tmod (10 : Int))))))])).size + x4.size ≤ 4611686018427387904) then (bif decide ((10 : Int) ≠ 0) then loopE T C8 K keep8 Tryd.f8 0 0 (behind T C8 K keep8 Tryd.f8 [.str] 0) n (S8_0 (IntKind.i64.wrap (x0.tdiv (10 : Int))) x3 ((bytesOf ([(Dat.i (IntKind.u8.wrap (IntKind.i64.wrap ((48 : Int) + (x0.tmod (10 : Int))))))])) ++ x4)) else none) else none)) else none) else (bif x3 then (bif decide ((ByteArray.mk #[45]).size + x4.size ≤ 4611686018427387904) then some [(Dat.s ((ByteArray.mk #[45]) ++ x4))] else none) else some [(Dat.s x4)])) := by kernel_rfl
theorem f8_start (K : Nat) (a : Dat) : evBody T C8 noL K keep8 Tryd.f8 [tInt] [.str] [a] =
      (bif (a.int == (0 : Int)) then some [(Dat.s (ByteArray.mk #[48]))] else loopE T C8 K keep8 Tryd.f8 0 0 (behind T C8 K keep8 Tryd.f8 [.str] 0) K (S8_0 a.int (decide (a.int < (0 : Int))) (.empty))) := by kernel_rfl
theorem con8 : ConOk E Tryd.prog 8 itoaSig := con hM hD hT hC8 keep8 Tryd.func8 (by kernel_rfl) (by kernel_rfl) fun ds hl hp => by
  obtain ⟨a, rfl⟩ := ds_one hl
  obtain ⟨h0, h1⟩ := i64_range (show i64B a.int = true from hp)
  refine ⟨20, ?_⟩
  rw [f8_start]
  show _ = some [Dat.s (itoaS a.int)]
  by_cases hz : a.int = 0
  · rw [hz, itoaS_eq]
    show some [Dat.s (ByteArray.mk #[48])] = some [Dat.s (digB 0)]
    rw [digB_small (by omega)]; rfl
  · have e0 : (a.int == 0) = false := by simpa using hz
    rw [e0, cond_false]
    refine (dig_loop (E := fun n x out => loopE T C8 20 keep8 Tryd.f8 0 0 (behind T C8 20 keep8 Tryd.f8 [.str] 0) n (S8_0 x (decide (a.int < 0)) out)) (fin := fun x4 => (bif (decide (a.int < 0)) then (bif decide ((ByteArray.mk #[45]).size + x4.size ≤ 4611686018427387904) then some [(Dat.s ((ByteArray.mk #[45]) ++ x4))] else none) else some [(Dat.s x4)]))
      (fun n x out hx0 hx1 hx hs => ?_) (fun n out => ?_) 19 20 a.int .empty (by omega) (by omega) h0 h1 (by decide)).trans ?_
    · show loopE T C8 20 keep8 Tryd.f8 0 0 (behind T C8 20 keep8 Tryd.f8 [.str] 0) (n + 1) (S8_0 x (decide (a.int < 0)) out) = _
      rw [f8_round0]
      exact l9_body (k := fun x out => loopE T C8 20 keep8 Tryd.f8 0 0 (behind T C8 20 keep8 Tryd.f8 [.str] 0) n (S8_0 x (decide (a.int < 0)) out)) hx0 hx1 hx hs
    · show loopE T C8 20 keep8 Tryd.f8 0 0 (behind T C8 20 keep8 Tryd.f8 [.str] 0) (n + 1) (S8_0 0 (decide (a.int < 0)) out) = _
      rw [f8_round0]; rfl
    · have h2 := digB_size (n := a.int.natAbs) (by omega)
      rw [e0, cond_false, itoaS_eq, show digB a.int.natAbs ++ ByteArray.empty = digB a.int.natAbs from byte_ext (by rw [byte_app]; simp)]
      cases decide (a.int < 0)
      · rfl
      · rw [cond_true, cond_true, decide_eq_true (show (ByteArray.mk #[45]).size + (digB a.int.natAbs).size ≤ 4611686018427387904 by show 1 + _ ≤ _; omega), cond_true]

/-! spec.ValText -/
abbrev C4 : FuncId → Option Sig := tabC [(7, oneSig s1 .bool fun a => .b (valOk a)), (8, itoaSig)]
theorem hC4 : ∀ g sg, C4 g = some sg → ConOk E Tryd.prog g sg := (tabC_cons con7 (tabC_cons con8 tabC_nil))
abbrev keep4 : Nat → List Nat := fun _ => []
theorem f4_start (K : Nat) (a : Dat) : evBody T C4 noL K keep4 Tryd.f4 [s1] [.str] [a] =
      (bif (!(valOk a)) then some [(Dat.s (.empty))] else (bif (a.fld 0).bool then (bif (i64B ((a.fld 1).int)) then (bif decide ((ByteArray.mk #[64]).size + (itoaS ((a.fld 1).int)).size ≤ 4611686018427387904) then some [(Dat.s ((ByteArray.mk #[64]) ++ (itoaS ((a.fld 1).int))))] else none) else none) else (bif (i64B ((a.fld 1).int)) then some [(Dat.s (itoaS ((a.fld 1).int)))] else none))) := by kernel_rfl
theorem con4 : ConOk E Tryd.prog 4 (oneSig s1 .str fun a => .s (valS a)) := con hM hD hT hC4 keep4 Tryd.func4 (by kernel_rfl) (by kernel_rfl) fun ds hl hp => by
  obtain ⟨a, rfl⟩ := ds_one hl
  refine ⟨0, ?_⟩
  rw [f4_start]
  show _ = some [Dat.s (valS a)]
  unfold valS
  cases h : valOk a
  · rfl
  · have h1 := valOk_i64 h
    have h2 := valOk_range h
    have h3 := itoaS_size (n := (a.fld 1).int) (by omega) (by omega)
    simp only [Bool.not_true, cond_false, cond_true, h1, decide_eq_true (show (ByteArray.mk #[64]).size + (itoaS (a.fld 1).int).size ≤ 4611686018427387904 by show 1 + _ ≤ _; omega)]
    cases (a.fld 0).bool <;> rfl

/-! impl.within -/
abbrev C13 : FuncId → Option Sig := tabC []
theorem hC13 : ∀ g sg, C13 g = some sg → ConOk E Tryd.prog g sg := tabC_nil
abbrev keep13 : Nat → List Nat := fun _ => []
theorem f13_start (K : Nat) (a : Dat) (b : Dat) (c : Dat) : evBody T C13 noL K keep13 Tryd.f13 [tInt, tInt, tInt] [.bool] [a, b, c] =
      (bif decide (a.int ≥ b.int) then some [(Dat.b (decide (a.int ≤ c.int)))] else some [(Dat.b false)]) := by kernel_rfl
theorem con13 : ConOk E Tryd.prog 13 inSig := con hM hD hT hC13 keep13 Tryd.func13 (by kernel_rfl) (by kernel_rfl) fun ds hl hp => by
  obtain ⟨a, b, c, rfl⟩ := ds_three hl
  refine ⟨0, ?_⟩
  rw [f13_start]
  show _ = some [Dat.b (inR a.int b.int c.int)]
  exact inR_if _ _ _

/-! impl.isWord -/
abbrev C14 : FuncId → Option Sig := tabC [(13, inSig)]
theorem hC14 : ∀ g sg, C14 g = some sg → ConOk E Tryd.prog g sg := (tabC_cons con13 tabC_nil)
abbrev keep14 : Nat → List Nat := fun _ => []
theorem f14_start (K : Nat) (a : Dat) : evBody T C14 noL K keep14 Tryd.f14 [tInt] [.bool] [a] =
      some [(Dat.b (inR a.int (-2147483648 : Int) (2147483647 : Int)))] := by kernel_rfl
theorem con14 : ConOk E Tryd.prog 14 (oneSig tInt .bool fun a => .b (inR a.int (-2147483648) 2147483647)) := con hM hD hT hC14 keep14 Tryd.func14 (by kernel_rfl) (by kernel_rfl) fun ds hl hp => by
  obtain ⟨a, rfl⟩ := ds_one hl
  exact ⟨0, f14_start 0 a⟩

/-! impl.ValOk -/
abbrev C9 : FuncId → Option Sig := tabC [(13, inSig), (14, oneSig tInt .bool fun a => .b (inR a.int (-2147483648) 2147483647))]
theorem hC9 : ∀ g sg, C9 g = some sg → ConOk E Tryd.prog g sg := (tabC_cons con13 (tabC_cons con14 tabC_nil))
abbrev keep9 : Nat → List Nat := fun _ => []
theorem f9_start (K : Nat) (a : Dat) : evBody T C9 noL K keep9 Tryd.f9 [s1] [.bool] [a] =
      (bif (a.fld 0).bool then some [(Dat.b (inR ((a.fld 1).int) (0 : Int) (1000000 : Int)))] else some [(Dat.b (inR ((a.fld 1).int) (-2147483648) 2147483647))]) := by kernel_rfl
theorem con9 : ConOk E Tryd.prog 9 (oneSig s1 .bool fun a => .b (valOk a)) := con hM hD hT hC9 keep9 Tryd.func9 (by kernel_rfl) (by kernel_rfl) fun ds hl hp => by
  obtain ⟨a, rfl⟩ := ds_one hl
  refine ⟨0, ?_⟩
  rw [f9_start]
  show _ = some [Dat.b (valOk a)]
  unfold valOk
  cases (a.fld 0).bool <;> rfl

theorem con10 : ConOk E Tryd.prog 10 itoaSig := con_itoa (enter_of Tryd.func10 (by kernel_rfl) (by kernel_rfl)) fun n h0 h1 w hw => Go.Proofs.Any.strconv_Itoa Tryd.laysM171 n h0 h1 w hw

/-! impl.ValText -/
abbrev C6 : FuncId → Option Sig := tabC [(9, oneSig s1 .bool fun a => .b (valOk a)), (10, itoaSig)]
theorem hC6 : ∀ g sg, C6 g = some sg → ConOk E Tryd.prog g sg := (tabC_cons con9 (tabC_cons con10 tabC_nil))
abbrev keep6 : Nat → List Nat := fun _ => []
theorem f6_start (K : Nat) (a : Dat) : evBody T C6 noL K keep6 Tryd.f6 [s1] [.str] [a] =
      (bif (!(valOk a)) then some [(Dat.s (.empty))] else (bif (a.fld 0).bool then (bif (i64B ((a.fld 1).int)) then (bif decide ((ByteArray.mk #[64]).size + (itoaS ((a.fld 1).int)).size ≤ 4611686018427387904) then some [(Dat.s ((ByteArray.mk #[64]) ++ (itoaS ((a.fld 1).int))))] else none) else none) else (bif (i64B ((a.fld 1).int)) then some [(Dat.s (itoaS ((a.fld 1).int)))] else none))) := by kernel_rfl
theorem con6 : ConOk E Tryd.prog 6 (oneSig s1 .str fun a => .s (valS a)) := con hM hD hT hC6 keep6 Tryd.func6 (by kernel_rfl) (by kernel_rfl) fun ds hl hp => by
  obtain ⟨a, rfl⟩ := ds_one hl
  refine ⟨0, ?_⟩
  rw [f6_start]
  show _ = some [Dat.s (valS a)]
  unfold valS
  cases h : valOk a
  · rfl
  · have h1 := valOk_i64 h
    have h2 := valOk_range h
    have h3 := itoaS_size (n := (a.fld 1).int) (by omega) (by omega)
    simp only [Bool.not_true, cond_false, cond_true, h1, decide_eq_true (show (ByteArray.mk #[64]).size + (itoaS (a.fld 1).int).size ≤ 4611686018427387904 by show 1 + _ ≤ _; omega)]
    cases (a.fld 0).bool <;> rfl

/-! laws.FnExactValText -/
abbrev C3 : FuncId → Option Sig := tabC [(5, toSig s1 s1), (4, oneSig s1 .str fun a => .s (valS a)), (6, oneSig s1 .str fun a => .s (valS a))]
theorem hC3 : ∀ g sg, C3 g = some sg → ConOk E Tryd.prog g sg := (tabC_cons con5 (tabC_cons con4 (tabC_cons con6 tabC_nil)))
abbrev keep3 : Nat → List Nat := fun _ => []
theorem f3_start (K : Nat) (a : Dat) : evBody T C3 noL K keep3 Tryd.f3 [s1] [.bool] [a] =
      (bif fit 1048576 s1 a then (bif fit 1048576 s1 a then (bif (!((valS (can s1 a)).toList == (valS (can s1 a)).toList)) then some [(Dat.b false)] else some [(Dat.b true)]) else none) else none) := by kernel_rfl
theorem con3 : ConOk E Tryd.prog 3 (lawSig [s1]) := con hM hD hT hC3 keep3 Tryd.func3 (by kernel_rfl) (by kernel_rfl) fun ds hl hp => by
  obtain ⟨a, rfl⟩ := ds_one hl
  replace hp : (fit M s1 a && true) = true := hp
  refine ⟨0, ?_⟩
  rw [f3_start]
  show _ = some [Dat.b true]
  have h1 : fit 1048576 s1 a = true := (both hp).1
  rw [h1, cond_true, cond_true, beq_self_eq_true]; rfl

end Go.F1
