/-
  Loops by name: a function's loop, what stands behind it, and data that is compared, counted and copied by type.
-/
import Derived.Test.YthdgcninegkalacDoorEvQ
import Derived.KernelRfl
namespace Go.Ev

section
variable {α : Type} (T : TypeId → Option Ty) (C : FuncId → Option Sig) (K : Nat) (keep : Nat → List Nat)

abbrev noL : Nat → Option LoopSum := fun _ => none

/-- What stands behind the loop of block 'b'. -/
def contOf (b : Nat) : Nat → Code → (Ex → St → Option α) → Option (Ex → St → Option α)
  | c, .seq x y, k =>
    match contOf b c x (fun e s' => match e with | .normal => evC T C noL K keep c y s' k | e => k e s') with
    | some k' => some k'
    | none => contOf b c y k
  | c, .cond _ x y, k => match contOf b c x k with | some k' => some k' | none => contOf b c y k
  | _, .block id x, k => contOf b id x (fun e s' => match e with | .exit i => if i = id then k .normal s' else k (.exit i) s' | e => k e s')
  | c, .loop _, k => if c = b then some k else none
  | _, _, _ => none

def bodyC (fn : Func) : Code := fn.body.getD .skip
/-- The end of a function. -/
def endK (fn : Func) (rs : List Ty) : Ex → St → Option (List Dat) := fun e s =>
  match e with
  | .exit _ => none
  | _ => match evRes T s fn.results.toList with
    | some vs => match grabs rs vs s.hp with | some (ds, _) => some ds | none => none
    | none => none
/-- What stands behind the loop of block 'b' of a function. -/
def behind (fn : Func) (rs : List Ty) (b : Nat) : Ex → St → Option (List Dat) := (contOf T C K keep b 0 (bodyC fn) (endK T fn rs)).getD fun _ _ => none
/-- The loop of block 'b' ('i': its number) from a state at its head on. -/
def loopE (fn : Func) (i b : Nat) (k : Ex → St → Option α) (n : Nat) (s : St) : Option α :=
  evLoop (fun s k => evC T C noL K keep b (loopN (bodyC fn) i) s k) (norm (keep b)) k n s
end

section
variable {α : Type} (T : TypeId → Option Ty) (C : FuncId → Option Sig) (K : Nat) (keep : Nat → List Nat)
/-- What stands behind the loop of block 'b2' in a round of the loop of block 'b' ('i': its number), 'n' rounds of which are left. -/
def inside (fn : Func) (i b : Nat) (k : Ex → St → Option α) (n b2 : Nat) : Ex → St → Option α :=
  (contOf T C K keep b2 b (loopN (bodyC fn) i) fun e s' => match e with | .normal => loopE T C K keep fn i b k n (norm (keep b) s') | e => k e (norm (keep b) s')).getD fun _ _ => none
end

theorem noLoops {T : TypeId → Option Ty} {C : FuncId → Option Sig} {K : Nat} {keep : Nat → List Nat} {l : List (Nat × Code)} : LoopsOk T C noL K keep l :=
  fun p _ f hf => by cases hf

/-- The contract of a function: its loops by rounds. -/
theorem con {E : Env} {P : Program} {T : TypeId → Option Ty} (hM : P.follows .mixedOrders = true) (hD : 16 ≤ P.depth) {C : FuncId → Option Sig} (hT : ∀ t ty, T t = some ty → TyOk P t ty) (hC : ∀ f sg, C f = some sg → ConOk E P f sg)
    (keep : Nat → List Nat) {f : FuncId} {fn : Func} {sg : Sig} (hf : P.funcs[f]? = some fn) (hb : fn.body = some (bodyC fn)) (hn : (fn.name == "runtime.NumGoroutine") = false)
    (h : ∀ ds, ds.length = sg.ps.length → sg.pre ds = true → ∃ K, evBody T C noL K keep fn sg.ps sg.rs ds = some (sg.res ds)) : ConOk E P f sg :=
  conOk_of hM hD hT hC (L := noL) hf hb hn fun ds h1 h2 => let ⟨K, h3⟩ := h ds h1 h2; ⟨K, h3, noLoops⟩

/-! ### Data by type -/
mutual
/-- Are they equal, as data of a type? -/
def deq : Ty → Dat → Dat → Bool
  | .int _, a, b => a.int == b.int
  | .bool, a, b => a.bool == b.bool
  | .str, a, b => a.str.toList == b.str.toList
  | .sl e, a, b => a.len == b.len && (List.range a.len).all fun i => deq e (a.fld i) (b.fld i)
  | .st fs, a, b => deqs fs 0 a b
def deqs : List Ty → Nat → Dat → Dat → Bool
  | [], _, _, _ => true
  | t :: ts, j, a, b => deq t (a.fld j) (b.fld j) && deqs ts (j + 1) a b
end
mutual
/-- The same data, in the one form that a type gives. -/
def can : Ty → Dat → Dat
  | .int _, d => .i d.int
  | .bool, d => .b d.bool
  | .str, d => .s d.str
  | .sl e, d => .n ((List.range d.len).map fun i => can e (d.fld i))
  | .st fs, d => .n (cans fs 0 d)
def cans : List Ty → Nat → Dat → List Dat
  | [], _, _ => []
  | t :: ts, j, d => can t (d.fld j) :: cans ts (j + 1) d
end
mutual
/-- Do the numbers fit, and are the rows no longer than this? -/
def fit (B : Nat) : Ty → Dat → Bool
  | .int k, d => decide (k.min ≤ d.int) && decide (d.int ≤ k.max)
  | .bool, _ => true
  | .str, d => Nat.ble d.str.size B
  | .sl e, d => Nat.ble d.len B && (List.range d.len).all fun i => fit B e (d.fld i)
  | .st fs, d => fits B fs 0 d
def fits (B : Nat) : List Ty → Nat → Dat → Bool
  | [], _, _ => true
  | t :: ts, j, d => fit B t (d.fld j) && fits B ts (j + 1) d
end
mutual
/-- How many elements and letters there are. -/
def wt : Ty → Dat → Nat
  | .int _, _ => 0
  | .bool, _ => 0
  | .str, d => d.str.size
  | .sl e, d => d.len + ((List.range d.len).map fun i => wt e (d.fld i)).sum
  | .st fs, d => wts fs 0 d
def wts : List Ty → Nat → Dat → Nat
  | [], _, _ => 0
  | t :: ts, j, d => wt t (d.fld j) + wts ts (j + 1) d
end
/-- The greatest length. -/
abbrev M : Nat := 9223372036854775807
/-- What is left of a count. -/
def szR (t : Ty) (d : Dat) (l : Int) : Int := if (wt t d : Int) ≤ l then l - wt t d else -1
abbrev szSig (t : Ty) : Sig := ⟨[t, .int .i64], [.int .i64], fun l => fit M t (l.getD 0 (.n [])) && (decide (0 ≤ (l.getD 1 (.n [])).int) && decide ((l.getD 1 (.n [])).int ≤ 1048576)),
  fun l => [.i (szR t (l.getD 0 (.n [])) (l.getD 1 (.n [])).int)]⟩
abbrev toSig (t t' : Ty) : Sig := ⟨[t], [t'], fun l => fit 1048576 t (l.getD 0 (.n [])), fun l => [can t (l.getD 0 (.n []))]⟩
abbrev eqSig (t : Ty) : Sig := ⟨[t, t], [.bool], fun l => fit M t (l.getD 0 (.n [])) && fit M t (l.getD 1 (.n [])), fun l => [.b (deq t (l.getD 0 (.n [])) (l.getD 1 (.n [])))]⟩
end Go.Ev
