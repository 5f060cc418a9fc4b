import Derived.Test.YtphmkfbidiljiaaGreatF2b
namespace Go.F2
open Go Go.Ev Go.Proofs
set_option maxRecDepth 100000
/-! laws.FnExactRunning -/
abbrev C3 : FuncId → Option Sig := tabC [(4, szSig s23), (6, toSig s23 s23), (5, ⟨[s23], [tInt], fun l => fit 1048576 s23 (l.getD 0 (.n [])), fun l => [.i ((runC (l.getD 0 (.n [])) : Nat) : Int)]⟩), (7, ⟨[s23], [tInt], fun l => fit 1048576 s23 (l.getD 0 (.n [])), fun l => [.i ((runC (l.getD 0 (.n [])) : Nat) : Int)]⟩), (8, eqSig s23)]
theorem hC3 : ∀ g sg, C3 g = some sg → ConOk Tryz.prog g sg := (tabC_cons con4 (tabC_cons con6 (tabC_cons con5 (tabC_cons con7 (tabC_cons con8 tabC_nil)))))
abbrev keep3 : Nat → List Nat := fun _ => []
theorem f3_start (K : Nat) (a : Dat) : evBody T C3 noL K keep3 Tryz.f3 [s23] [.bool] [a] =
      (bif (fit M s23 a && (decide (0 ≤ (1048576 : Int)) && decide ((1048576 : Int) ≤ 1048576))) then (bif decide ((szR s23 a (1048576 : Int)) < (0 : Int)) then some [(Dat.b true)] else (bif fit 1048576 s23 a then (bif fit 1048576 s23 (can s23 a) then (bif fit 1048576 s23 a then (bif fit 1048576 s23 (can s23 a) then (bif (((runC (can s23 a) : Nat) : Int) != ((runC (can s23 a) : Nat) : Int)) then some [(Dat.b false)] else (bif fit 1048576 s23 a then (bif (fit M s23 (can s23 a) && fit M s23 (can s23 a)) then (bif (!(deq s23 (can s23 a) (can s23 a))) then some [(Dat.b false)] else some [(Dat.b true)]) else none) else none)) else none) else none) else none) else none)) else none) := by kernel_rfl
theorem con3 : ConOk Tryz.prog 3 (lawSig [s23]) := con hM hD hT hC3 keep3 Tryz.func3 (by kernel_rfl) (by kernel_rfl) fun ds hl hp => by
  obtain ⟨a, rfl⟩ := ds_one hl
  obtain ⟨ha, _⟩ := both (show (fit M s23 a && true) = true from hp)
  refine ⟨0, ?_⟩
  show _ = some [Dat.b true]
  rw [f3_start, sz_arg ha (by omega) (by omega), cond_true]
  by_cases n1 : szR s23 a 1048576 < 0
  · rw [decide_eq_true n1]; rfl
  · have hf := fit_of_sz ha n1 (by omega)
    have hf2 : fit 1048576 s23 (can s23 a) = true := by rw [fit_can]; exact hf
    rw [decide_eq_false n1, cond_false]
    simp only [hf, hf2, fitM_can ha, deq_refl, Bool.and_self, cond_true, bne_self_eq_false, Bool.not_true, cond_false]

end Go.F2
