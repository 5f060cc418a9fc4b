/-
  The evaluator: abstract values, and what a function's code does to them.
-/
import Derived.Test.YthdgcninegkalacDoorEvA
import Derived.Orders
namespace Go.Ev

inductive V where
  | u
  | int (k : IntKind) (n : Int) | bool (b : Bool) | str (s : ByteArray)
  | st (l : List V)
  | nil
  | ro (e : Ty) (d : Dat)
  | hd (b : Nat)
  | hs (b lo len : Nat)
  | pt (b : Nat) (p : List Nat) (off : Nat)
  | ap (b i : Nat) (p : List Nat) (off : Nat)
  | rp (t : Ty) (d : Dat)
  | tup (l : List V)

inductive Blk where
  | dead
  | box (v : V)
  | arr (e : Ty) (l : List Dat)

structure St where
  tm : List V
  hp : List Blk

mutual
def V.sz : V → Nat
  | .st l => V.szs l
  | _ => 1
def V.szs : List V → Nat
  | [] => 0
  | v :: l => v.sz + V.szs l
end

def V.isSt : V → Bool | .st _ => true | _ => false
mutual
/-- May it lie in memory? -/
def V.mem : V → Bool
  | .st l => V.mems l
  | .tup _ => false
  | _ => true
def V.mems : List V → Bool
  | [] => true
  | v :: l => v.mem && V.mems l
end
def V.memT : V → Bool | .u => false | v => v.mem
def Ty.isSt : Ty → Bool | .st _ => true | _ => false

mutual
def Ty.dep : Ty → Nat
  | .st fs => Ty.deps fs + 1
  | _ => 0
def Ty.deps : List Ty → Nat
  | [] => 0
  | t :: ts => max t.dep (Ty.deps ts)
end

/-! ### Places inside values, types and data -/
def vat : List Nat → V → Option V
  | [], v => some v
  | i :: p, .st l => match l[i]? with | some x => vat p x | none => none
  | _ :: _, _ => none
def voff : List Nat → V → Nat
  | [], _ => 0
  | i :: p, .st l => V.szs (l.take i) + voff p (l.getD i .u)
  | _ :: _, _ => 0
def vset : List Nat → V → V → V
  | [], _, x => x
  | i :: p, .st l, x => .st (l.set i (vset p (l.getD i .u) x))
  | _ :: _, v, _ => v
def tat : List Nat → Ty → Option Ty
  | [], t => some t
  | i :: p, .st l => match l[i]? with | some x => tat p x | none => none
  | _ :: _, _ => none
def toff : List Nat → Ty → Nat
  | [], _ => 0
  | i :: p, .st l => Ty.szs (l.take i) + toff p (l.getD i .bool)
  | _ :: _, _ => 0
def dat : List Nat → Dat → Dat
  | [], d => d
  | i :: p, d => dat p (d.fld i)
def flds : Nat → Nat → Dat → List Dat
  | 0, _, _ => []
  | n + 1, j, d => d.fld j :: flds n (j + 1) d
def dset : List Nat → Ty → Dat → Dat → Dat
  | [], _, _, x => x
  | i :: p, .st l, d, x => .n ((flds l.length 0 d).set i (dset p (l.getD i .bool) (d.fld i) x))
  | _ :: _, _, d, _ => d

/-! ### Values of data -/
mutual
def ofRo : Ty → Dat → V
  | .int k, d => .int k d.int
  | .bool, d => .bool d.bool
  | .str, d => .str d.str
  | .sl e, d => .ro e d
  | .st fs, d => .st (ofRos fs 0 d)
def ofRos : List Ty → Nat → Dat → List V
  | [], _, _ => []
  | t :: ts, j, d => ofRo t (d.fld j) :: ofRos ts (j + 1) d
end
mutual
/-- Of an element of an own row: what lies in rows of its own is not followed. -/
def ofOw : Ty → Dat → V
  | .int k, d => .int k d.int
  | .bool, d => .bool d.bool
  | .str, d => .str d.str
  | .sl _, _ => .u
  | .st fs, d => .st (ofOws fs 0 d)
def ofOws : List Ty → Nat → Dat → List V
  | [], _, _ => []
  | t :: ts, j, d => ofOw t (d.fld j) :: ofOws ts (j + 1) d
end
mutual
def zeroV : Ty → V
  | .int k => .int k 0
  | .bool => .bool false
  | .str => .str .empty
  | .sl _ => .nil
  | .st fs => .st (zeroVs fs)
def zeroVs : List Ty → List V
  | [] => []
  | t :: ts => zeroV t :: zeroVs ts
end
mutual
def zeroD : Ty → Dat
  | .int _ => .i 0
  | .bool => .b false
  | .str => .s .empty
  | .sl _ => .n []
  | .st fs => .n (zeroDs fs)
def zeroDs : List Ty → List Dat
  | [] => []
  | t :: ts => zeroD t :: zeroDs ts
end
mutual
/-- What a call has made: its rows are rows of their own. -/
def mkRes : Ty → Dat → List Blk → V × List Blk
  | .int k, d, h => (.int k d.int, h)
  | .bool, d, h => (.bool d.bool, h)
  | .str, d, h => (.str d.str, h)
  | .sl e, d, h => (.hd h.length, h ++ [.arr e d.kids])
  | .st fs, d, h => (.st (mkRess fs 0 d h).1, (mkRess fs 0 d h).2)
def mkRess : List Ty → Nat → Dat → List Blk → List V × List Blk
  | [], _, _, h => ([], h)
  | t :: ts, j, d, h => ((mkRes t (d.fld j) h).1 :: (mkRess ts (j + 1) d (mkRes t (d.fld j) h).2).1, (mkRess ts (j + 1) d (mkRes t (d.fld j) h).2).2)
end

def getB (h : List Blk) (b : Nat) : Blk := h.getD b .dead

mutual
/-- The data of a value that is read by a callee. -/
def argD (h : List Blk) : Ty → V → Option Dat
  | .int k, .int k' n => if k = k' then some (.i n) else none
  | .bool, .bool b => some (.b b)
  | .str, .str s => some (.s s)
  | .sl e, .ro e' d => if Ty.beq e e' then some d else none
  | .sl _, .nil => some (.n [])
  | .sl e, .hd b => match getB h b with | .arr e' l => if Ty.beq e e' then some (.n l) else none | _ => none
  | .sl e, .hs b lo len => match getB h b with | .arr e' l => if Ty.beq e e' then some (.n ((l.drop lo).take len)) else none | _ => none
  | .st fs, .st l => match argDs h fs l with | some ds => some (.n ds) | none => none
  | _, _ => none
def argDs (h : List Blk) : List Ty → List V → Option (List Dat)
  | [], [] => some []
  | t :: ts, v :: vs => match argD h t v with
    | some d => match argDs h ts vs with | some ds => some (d :: ds) | none => none
    | none => none
  | _, _ => none
end
mutual
/-- The data of a value that is handed on: rows of its own go with it. -/
def grab : Ty → V → List Blk → Option (Dat × List Blk)
  | .int k, .int k' n, h => if k = k' then some (.i n, h) else none
  | .bool, .bool b, h => some (.b b, h)
  | .str, .str s, h => some (.s s, h)
  | .sl _, .nil, h => some (.n [], h)
  | .sl e, .hd b, h => match getB h b with | .arr e' l => if Ty.beq e e' then some (.n l, h.set b .dead) else none | _ => none
  | .sl e, .hs b lo len, h => match getB h b with | .arr e' l => if Ty.beq e e' then some (.n ((l.drop lo).take len), h.set b .dead) else none | _ => none
  | .st fs, .st l, h => match grabs fs l h with | some (ds, h') => some (.n ds, h') | none => none
  | _, _, _ => none
def grabs : List Ty → List V → List Blk → Option (List Dat × List Blk)
  | [], [], h => some ([], h)
  | t :: ts, v :: vs, h => match grab t v h with
    | some (d, h') => match grabs ts vs h' with | some (ds, h'') => some (d :: ds, h'') | none => none
    | none => none
  | _, _, _ => none
end

/-! ### Constants -/
mutual
def cellsV : Ty → List Value → Option (V × List Value)
  | .int k, r => match r with | .int k' n :: r' => if k = k' then some (.int k n, r') else none | _ => none
  | .bool, r => match r with | .bool b :: r' => some (.bool b, r') | _ => none
  | .str, r => match r with | .string s :: r' => some (.str s, r') | _ => none
  | .sl _, r => match r with | .slice none 0 0 :: r' => some (.nil, r') | _ => none
  | .st fs, r => match cellsVs fs r with | some (l, r') => some (.st l, r') | none => none
def cellsVs : List Ty → List Value → Option (List V × List Value)
  | [], r => some ([], r)
  | t :: ts, r => match cellsV t r with
    | some (v, r') => match cellsVs ts r' with | some (l, r'') => some (v :: l, r'') | none => none
    | none => none
end
def ofVal (t : Option Ty) : Value → V
  | .int k n => .int k n
  | .bool b => .bool b
  | .string s => .str s
  | .slice none 0 0 => .nil
  | .agg cs => match t with
    | some (.st fs) => match cellsV (.st fs) cs.toList with | some (v, []) => v | _ => .u
    | _ => .u
  | _ => .u

def look (_ : Option (Nat × Bool)) (tm : List V) (t : Option Ty) : Operand → V
  | .tmp n => tm.getD n .u
  | .const v => ofVal t v
  | _ => .u

/-! ### Contracts -/
structure Sig where
  ps : List Ty
  rs : List Ty
  pre : List Dat → Bool
  res : List Dat → List Dat

/-! ### Operations: a condition, a value, the rows -/
def binI (op : BinOp) (k : IntKind) (x y : Int) : Option (Bool × V) :=
  match op with
  | .add => some (true, .int k (k.wrap (x + y)))
  | .sub => some (true, .int k (k.wrap (x - y)))
  | .mul => some (true, .int k (k.wrap (x * y)))
  | .quo => some (decide (y ≠ 0), .int k (k.wrap (x.tdiv y)))
  | .rem => some (decide (y ≠ 0), .int k (x.tmod y))
  | .and => some (true, .int k (k.wrap (BitVec.ofInt k.bits x &&& BitVec.ofInt k.bits y).toNat))
  | .or => some (true, .int k (k.wrap (BitVec.ofInt k.bits x ||| BitVec.ofInt k.bits y).toNat))
  | .xor => some (true, .int k (k.wrap (BitVec.ofInt k.bits x ^^^ BitVec.ofInt k.bits y).toNat))
  | .eql => some (true, .bool (x == y))
  | .neq => some (true, .bool (x != y))
  | .lss => some (true, .bool (decide (x < y)))
  | .leq => some (true, .bool (decide (x ≤ y)))
  | .gtr => some (true, .bool (decide (x > y)))
  | .geq => some (true, .bool (decide (x ≥ y)))
  | _ => none

def binS (op : BinOp) (x y : ByteArray) : Option (Bool × V) :=
  match op with
  | .add => some (decide (x.size + y.size ≤ 4611686018427387904), .str (x ++ y))
  | .eql => some (true, .bool (x.toList == y.toList))
  | .neq => some (true, .bool (!(x.toList == y.toList)))
  | .lss => some (true, .bool (Op.bytesLess x.toList y.toList))
  | .leq => some (true, .bool (Op.bytesLess x.toList y.toList || x.toList == y.toList))
  | .gtr => some (true, .bool (!(Op.bytesLess x.toList y.toList || x.toList == y.toList)))
  | .geq => some (true, .bool (!Op.bytesLess x.toList y.toList))
  | _ => none

mutual
/-- Go's '==' of two values of a type without rows. -/
def eqV : Ty → V → V → Option Bool
  | .int k, .int k1 a, .int k2 b => if k = k1 ∧ k = k2 then some (a == b) else none
  | .bool, .bool a, .bool b => some (a == b)
  | .str, .str a, .str b => some (a == b)
  | .st fs, .st l, .st m => eqVs fs l m
  | _, _, _ => none
def eqVs : List Ty → List V → List V → Option Bool
  | [], [], [] => some true
  | t :: ts, v :: vs, x :: xs => match eqV t v x with
    | some b => match eqVs ts vs xs with | some c => some (b && c) | none => none
    | none => none
  | _, _, _ => none
end

/-- What an operation gives: a condition, a value, the rows. -/
structure R where
  c : Bool
  v : V
  h : List Blk

/-- The letters of a row of bytes; the bytes of a text. -/
def bytesOf (l : List Dat) : ByteArray := ⟨(l.map fun d => UInt8.ofNat d.int.toNat).toArray⟩
def ofBytes (s : ByteArray) : List Dat := s.data.toList.map fun b => .i (b.toNat : Int)
mutual
/-- No rows inside. -/
def Ty.noSl : Ty → Bool
  | .sl _ => false
  | .st fs => Ty.noSls fs
  | _ => true
def Ty.noSls : List Ty → Bool
  | [] => true
  | t :: ts => t.noSl && Ty.noSls ts
end
/-- A bound of a slicing. -/
def bnd (ctx : Option (Nat × Bool)) (tm : List V) (d : Int) : Option Operand → Option Int
  | none => some d
  | some x => match look ctx tm none x with | .int _ n => some n | _ => none
def bndB (l h n : Int) : Bool := decide (0 ≤ l) && (decide (l ≤ h) && decide (h ≤ n))
/-- A struct of parts. -/
def buildV (ctx : Option (Nat × Bool)) (tm : List V) (fs : List Ty) : List (Nat × Operand) → List V → Option (List V)
  | [], l => some l
  | (i, x) :: r, l =>
    match fs[i]? with
    | some t =>
      let v := look ctx tm (some t) x
      if v.sz = t.sz ∧ v.isSt = t.isSt ∧ v.memT = true then buildV ctx tm fs r (l.set i v) else none
    | none => none

/-- Operations that neither make nor turn memory. -/
def evPure (T : TypeId → Option Ty) (ctx : Option (Nat × Bool)) (tm : List V) (hp : List Blk) (ty : TypeId) (o : Op) : Option (Bool × V) :=
  match o with
  | .move x | .assign x => some (true, look ctx tm (T ty) x)
  | .pick c a b =>
    match c with
    | .tmp n =>
      match tm.getD n .u with
      | .bool x =>
        match look (some (n, true)) tm none a, look (some (n, false)) tm none b with
        | .bool y, .bool z => some (true, .bool (bif x then y else z))
        | va, vb => bif x then (match va with | .bool y => some (true, .bool y) | _ => none) else (match vb with | .bool z => some (true, .bool z) | _ => none)
      | _ => none
    | _ => none
  | .load t a =>
    match T t with
    | none => none
    | some ty =>
      match look ctx tm none a with
      | .rp t' d => if Ty.beq ty t' then some (true, ofRo ty d) else none
      | .pt b p off =>
        match getB hp b with
        | .box v =>
          match vat p v with
          | some x => if x.sz = ty.sz ∧ x.isSt = ty.isSt ∧ voff p v = off then some (true, x) else none
          | none => none
        | _ => none
      | .ap b i p off =>
        match getB hp b with
        | .arr e l =>
          match tat p e with
          | some t' => if Ty.beq ty t' = true ∧ toff p e = off then some (true, ofOw ty (dat p (l.getD i (.n [])))) else none
          | none => none
        | _ => none
      | _ => none
  | .nilCheck x =>
    match look ctx tm none x with
    | .pt b p off => match getB hp b with | .box _ => some (true, .pt b p off) | _ => none
    | .rp t d => some (true, .rp t d)
    | _ => none
  | .fieldAddr s x f =>
    match T s with
    | some (.st fs) =>
      match fs[f]? with
      | none => none
      | some tf =>
        match look ctx tm none x with
        | .rp t d => if Ty.beq (.st fs) t then some (true, .rp tf (d.fld f)) else none
        | .pt b p off => match getB hp b with | .box _ => some (true, .pt b (p ++ [f]) (off + Ty.szs (fs.take f))) | _ => none
        | .ap b i p off => match getB hp b with | .arr _ _ => some (true, .ap b i (p ++ [f]) (off + Ty.szs (fs.take f))) | _ => none
        | _ => none
    | _ => none
  | .indexAddr t x ix =>
    match T t with
    | some (.sl e) =>
      match look ctx tm none ix with
      | .int _ n =>
        match look ctx tm none x with
        | .ro e' d => if Ty.beq e e' then some (decide (0 ≤ n) && decide (n < d.len), .rp e (d.fld n.toNat)) else none
        | .hd b => match getB hp b with
          | .arr e' l => if Ty.beq e e' then some (decide (0 ≤ n) && decide (n < l.length), .ap b n.toNat [] 0) else none
          | _ => none
        | .hs b lo len => match getB hp b with
          | .arr e' _ => if Ty.beq e e' then some (decide (0 ≤ n) && decide (n < len), .ap b (lo + n.toNat) [] 0) else none
          | _ => none
        | _ => none
      | _ => none
    | _ => none
  | .index t x ix =>
    match T t with
    | some .str =>
      match look ctx tm none ix with
      | .int _ n =>
        match look ctx tm none x with
        | .str s => some (decide (0 ≤ n) && decide (n < s.size), .int .u8 ((s.data.getD n.toNat 0).toNat : Int))
        | _ => none
      | _ => none
    | _ => none
  | .field t x f =>
    match T t with
    | some (.st fs) =>
      match look ctx tm (some (.st fs)) x with
      | .st l =>
        match l[f]?, fs[f]? with
        | some v, some tf => if V.szs (l.take f) = Ty.szs (fs.take f) ∧ v.sz = tf.sz ∧ v.isSt = tf.isSt then some (true, v) else none
        | _, _ => none
      | _ => none
    | _ => none
  | .extract x i =>
    match look ctx tm none x with
    | .tup l => match l[i]? with | some v => some (true, v) | none => none
    | _ => none
  | .binOp op xt x y _ =>
    match look ctx tm (T xt) x, look ctx tm (T xt) y with
    | .int k a, .int k' b =>
      match op with
      | .shl => some (decide (0 ≤ b), .int k (k.wrap (a * 2 ^ (min b.toNat k.bits))))
      | .shr => some (decide (0 ≤ b), .int k (a.fdiv (2 ^ (min b.toNat k.bits))))
      | _ => if k = k' then binI op k a b else none
    | .str a, .str b => binS op a b
    | a, b =>
      match T xt with
      | some t =>
        match eqV t a b with
        | some r => if t.dep < 16 then match op with
          | .eql => some (true, .bool r)
          | .neq => some (true, .bool (!r))
          | _ => none
          else none
        | none => none
      | none => none
  | .unOp op _ x =>
    match op, look ctx tm none x with
    | .not, .bool b => some (true, .bool (!b))
    | .neg, .int k n => some (true, .int k (k.wrap (0 - n)))
    | _, _ => none
  | .convert src dst x =>
    match T src, T dst, look ctx tm none x with
    | some _, some (.int k), .int _ n => some (true, .int k (k.wrap n))
    | some .str, some .str, .str s => some (true, .str s)
    | some (.sl (.int .u8)), some .str, v => match argD hp (.sl (.int .u8)) v with | some d => some (true, .str (bytesOf d.kids)) | none => none
    | _, _, _ => none
  | .build t parts =>
    match T t with
    | some (.st fs) => match buildV ctx tm fs parts.toList (zeroVs fs) with | some l => some (true, .st l) | none => none
    | _ => none
  | .slice t x lo hi none =>
    match T t with
    | some .str =>
      match look ctx tm none x with
      | .str s => match bnd ctx tm 0 lo, bnd ctx tm s.size hi with
        | some l, some h => some (bndB l h s.size, .str (s.extract l.toNat h.toNat))
        | _, _ => none
      | _ => none
    | some (.sl e) =>
      match look ctx tm none x with
      | .nil => match bnd ctx tm 0 lo, bnd ctx tm 0 hi with
        | some l, some h => some (bndB l h 0, .nil)
        | _, _ => none
      | .ro e' d => match bnd ctx tm 0 lo, bnd ctx tm d.len hi with
        | some l, some h => if Ty.beq e e' then some (bndB l h d.len, .ro e (.n ((d.kids.drop l.toNat).take (h.toNat - l.toNat)))) else none
        | _, _ => none
      | .hd b => match getB hp b with
        | .arr e' L => match bnd ctx tm 0 lo, bnd ctx tm L.length hi with
          | some l, some h => if Ty.beq e e' then some (bndB l h L.length, .hs b l.toNat (h.toNat - l.toNat)) else none
          | _, _ => none
        | _ => none
      | .hs b lo0 n => match getB hp b with
        | .arr e' _ => match bnd ctx tm 0 lo, bnd ctx tm n hi with
          | some l, some h => if Ty.beq e e' then some (bndB l h n, .hs b (lo0 + l.toNat) (h.toNat - l.toNat)) else none
          | _, _ => none
        | _ => none
      | _ => none
    | _ => none
  | .call c =>
    match c.callee with
    | .builtin .len =>
      match c.args.toList with
      | [x] =>
        match c.argTypes.toList with
        | [t] =>
          match T t with
          | some .str => match look ctx tm none x with
            | .str s => some (true, .int .i64 s.size)
            | _ => none
          | some (.sl _) => match look ctx tm none x with
            | .ro _ d => some (true, .int .i64 d.len)
            | .nil => some (true, .int .i64 0)
            | .hd b => match getB hp b with | .arr _ l => some (true, .int .i64 l.length) | _ => none
            | .hs b _ len => match getB hp b with | .arr _ _ => some (true, .int .i64 len) | _ => none
            | _ => none
          | _ => none
        | _ => none
      | _ => none
    | .builtin .min =>
      match c.args.toList with
      | [x, y] => match look ctx tm none x, look ctx tm none y with
        | .int k a, .int _ b => some (true, .int k (if b < a then b else a))
        | _, _ => none
      | _ => none
    | .builtin .max =>
      match c.args.toList with
      | [x, y] => match look ctx tm none x, look ctx tm none y with
        | .int k a, .int _ b => some (true, .int k (if b > a then b else a))
        | _, _ => none
      | _ => none
    | _ => none
  | _ => none

/-- The elements of a new row. -/
def fillL (tm : List V) (e : Ty) : List (Nat × Operand) → List Dat → List Blk → Option (List Dat × List Blk)
  | [], l, hp => some (l, hp)
  | (i, x) :: r, l, hp =>
    match grab e (look none tm (some e) x) hp with
    | some (d, hp') => if i < l.length then fillL tm e r (l.set i d) hp' else none
    | none => none
/-- What is appended. -/
def srcL (t : Option Ty) (e : Ty) (v : V) (hp : List Blk) : Option (List Dat × List Blk) :=
  match t with
  | some .str => match e, v with | .int .u8, .str s => some (ofBytes s, hp) | _, _ => none
  | some (.sl _) => if e.noSl then (match argD hp (.sl e) v with | some d => some (d.kids, hp) | none => none) else (match grab (.sl e) v hp with | some (d, hp') => some (d.kids, hp') | none => none)
  | _ => none

/-- Operations that make or turn memory. -/
def evEff (T : TypeId → Option Ty) (tm : List V) (hp : List Blk) (o : Op) : Option R :=
  match o with
  | .store t a x =>
    match T t with
    | none => none
    | some ty =>
      match look none tm none a with
      | .pt b p off =>
        match getB hp b with
        | .box v =>
          match vat p v with
          | some x0 =>
            let y := look none tm (some ty) x
            if x0.sz = ty.sz ∧ y.sz = ty.sz ∧ y.isSt = ty.isSt ∧ voff p v = off ∧ y.memT = true then some ⟨true, .u, hp.set b (.box (vset p v y))⟩ else none
          | none => none
        | _ => none
      | .ap b i p off =>
        match grab ty (look none tm (some ty) x) hp with
        | some (d, hp') =>
          match getB hp' b with
          | .arr e l =>
            match tat p e with
            | some t' => if Ty.beq ty t' = true ∧ toff p e = off then some ⟨true, .u, hp'.set b (.arr e (l.set i (dset p e (l.getD i (.n [])) d)))⟩ else none
            | none => none
          | _ => none
        | none => none
      | _ => none
  | .box t x =>
    match T t with
    | some ty =>
      let v := look none tm (some ty) x
      if v.sz = ty.sz ∧ v.isSt = ty.isSt ∧ v.memT = true then some ⟨true, .pt hp.length [] 0, hp ++ [.box v]⟩ else none
    | none => none
  | .alloc t =>
    match T t with
    | some ty => some ⟨true, .pt hp.length [] 0, hp ++ [.box (zeroV ty)]⟩
    | none => none
  | .makeSlice t l c =>
    match T t with
    | some (.sl e) =>
      match look none tm none l, look none tm none c with
      | .int _ n, .int _ m => some ⟨decide (0 ≤ n) && (decide (n ≤ 4294967296) && decide (n = m)), .hd hp.length, hp ++ [.arr e (List.replicate n.toNat (zeroD e))]⟩
      | _, _ => none
    | _ => none
  | .buildSlice t n parts =>
    match T t with
    | some (.sl e) =>
      if n * e.sz ≤ 16777216 then
        match fillL tm e parts.toList (List.replicate n (zeroD e)) hp with
        | some (l, hp') => some ⟨true, .hd hp'.length, hp' ++ [.arr e l]⟩
        | none => none
      else none
    | _ => none
  | .call c =>
    match c.callee with
    | .builtin .append =>
      match c.args.toList, c.argTypes.toList with
      | [x, y], [t, t'] =>
        match T t with
        | some (.sl e) =>
          match grab (.sl e) (look none tm (some (.sl e)) x) hp with
          | some (d, hp1) => match srcL (T t') e (look none tm (T t') y) hp1 with
            | some (m, hp2) => some ⟨decide (d.len + m.length ≤ 4294967296), .hd hp2.length, hp2 ++ [.arr e (d.kids ++ m)]⟩
            | none => none
          | none => none
        | _ => none
      | _, _ => none
    | .builtin .copy =>
      match c.args.toList, c.argTypes.toList with
      | [x, y], [t, t'] =>
        match T t with
        | some (.sl e) =>
          if e.noSl then
            match look none tm (some (.sl e)) x with
            | .hd b => match getB hp b with
              | .arr e' l => if Ty.beq e e' then
                  match srcL (T t') e (look none tm (T t') y) hp with
                  | some (m, _) => some ⟨decide (m.length ≤ l.length), .int .i64 m.length, hp.set b (.arr e (m ++ l.drop m.length))⟩
                  | none => none
                else none
              | _ => none
            | _ => none
          else none
        | _ => none
      | _, _ => none
    | _ => none
  | _ => none

/-- Calls of functions that have a contract. -/
def evCall (C : FuncId → Option Sig) (ctx : Option (Nat × Bool)) (tm : List V) (hp : List Blk) (o : Op) : Option R :=
  match o with
  | .call c =>
    match c.callee with
    | .value (.func f) =>
      match C f with
      | some s =>
        if c.args.size = s.ps.length then
          match argDs hp s.ps ((c.args.toList.zip s.ps).map fun x => look ctx tm (some x.2) x.1) with
          | some ds =>
            match s.rs with
            | [t] => some ⟨s.pre ds, (mkRes t ((s.res ds).getD 0 (.n [])) hp).1, (mkRes t ((s.res ds).getD 0 (.n [])) hp).2⟩
            | ts => some ⟨s.pre ds, .tup (mkRess ts 0 (.n (s.res ds)) hp).1, (mkRess ts 0 (.n (s.res ds)) hp).2⟩
          | none => none
        else none
      | none => none
    | _ => none
  | _ => none

/-! ### Code -/
def putT (tm : List V) (dst : Option Tmp) (v : V) : List V :=
  match dst with
  | some d => tm.set d v
  | none => tm

mutual
/-- Numbers, bools, strings and what is made of these alone. -/
def V.flat : V → Bool
  | .int _ _ => true | .bool _ => true | .str _ => true
  | .st l => V.flats l
  | .tup l => V.flats l
  | _ => false
def V.flats : List V → Bool
  | [] => true
  | v :: l => v.flat && V.flats l
end

/-- An operation that leaves memory alone but for what a callee makes for itself. -/
def evStill (T : TypeId → Option Ty) (C : FuncId → Option Sig) (ctx : Option (Nat × Bool)) (tm : List V) (hp : List Blk) (ty : TypeId) (o : Op) : Option (Bool × V) :=
  match evPure T ctx tm hp ty o with
  | some r => some r
  | none => match evCall C ctx tm hp o with
    | some r => if r.v.flat then some (r.c, r.v) else none
    | none => none

def evOp (T : TypeId → Option Ty) (C : FuncId → Option Sig) (tm : List V) (hp : List Blk) (ty : TypeId) (o : Op) : Option R :=
  match evPure T none tm hp ty o with
  | some r => some ⟨r.1, r.2, hp⟩
  | none => match evCall C none tm hp o with
    | some r => some r
    | none => evEff T tm hp o

/-- One operation. -/
def evAct {α : Type} (T : TypeId → Option Ty) (C : FuncId → Option Sig) (quiet : Bool) (o : Oper) (s : St) (k : St → Option α) : Option α :=
  match quiet with
  | true =>
    match evStill T C none s.tm s.hp o.type o.op with
    | some r => bif r.1 then k ⟨putT s.tm o.dst r.2, s.hp⟩ else none
    | none => none
  | false =>
    match evOp T C s.tm s.hp o.type o.op with
    | some r => bif r.c then k ⟨putT s.tm o.dst r.v, r.h⟩ else none
    | none => none

/-- The operations of a region, one behind the other; 'quiet': none of them may make or turn memory. A guard parts the ways. -/
def evOps {α : Type} (T : TypeId → Option Ty) (C : FuncId → Option Sig) (quiet : Bool) (ops : Array Oper) : List Oper → St → (St → Option α) → Option α
  | [], s, k => k s
  | o :: rest, s, k =>
    match o.guard with
    | none => evAct T C quiet o s fun s' => evOps T C quiet ops rest s' k
    | some (j, w) =>
      match (ops[j]?).bind (·.dst) with
      | some t =>
        match s.tm.getD t .u with
        | .bool b =>
          bif b then
            bif w then evAct T C quiet o ⟨s.tm.set t (.bool true), s.hp⟩ fun s' => evOps T C quiet ops rest s' k
            else evOps T C quiet ops rest ⟨putT (s.tm.set t (.bool true)) o.dst (.tup []), s.hp⟩ k
          else
            bif w then evOps T C quiet ops rest ⟨putT (s.tm.set t (.bool false)) o.dst (.tup []), s.hp⟩ k
            else evAct T C quiet o ⟨s.tm.set t (.bool false), s.hp⟩ fun s' => evOps T C quiet ops rest s' k
        | .tup _ => evOps T C quiet ops rest ⟨putT s.tm o.dst (.tup []), s.hp⟩ k
        | _ => none
      | none => none

def refs : V → List Nat
  | .hd b => [b]
  | .hs b _ _ => [b]
  | .pt b _ _ => [b]
  | .ap b _ _ _ => [b]
  | _ => []
mutual
def V.refs : V → List Nat
  | .st l => V.refss l
  | .tup l => V.refss l
  | v => Ev.refs v
def V.refss : List V → List Nat
  | [] => []
  | v :: l => V.refs v ++ V.refss l
end

/-! ### Regions whose order is open -/
def opTmps (o : Op) : List Nat := o.operands.toList.filterMap fun | .tmp t => some t | _ => none
def opRefs (tm : List V) (o : Op) : List Nat := (opTmps o).flatMap fun t => V.refs (tm.getD t .u)
/-- The rows that an operation has turned or made. -/
def wrOf (tm : List V) (n : Nat) (o : Op) (n' : Nat) : List Nat := (match o with | .store _ _ _ | .buildSlice _ _ _ => opRefs tm o | .call c => (match c.callee with | .builtin _ => opRefs tm o | _ => []) | _ => []) ++ List.range' n (n' - n)

/-- One operation as it came up: its number, does it leave the rows alone, behind which ones it comes, what it reads and what it turns. -/
structure It where
  i : Nat
  o : Oper
  res : Nat
  pure : Bool
  anc : List Nat
  rd : List Nat
  wr : List Nat

def disj2 (l m : List Nat) : Bool := l.all fun x => !m.contains x
def okPair (ops : Array Oper) (x y : It) : Bool :=
  y.anc.contains x.i || (x.o.apart ops y.o &&
    match x.pure, y.pure with
    | true, true => true
    | true, false => disj2 x.rd y.wr
    | false, true => disj2 x.wr y.rd
    | false, false => false)
def awaits (o : Oper) : List Nat := (o.after.toList.filter fun e => Region.binds .any e).map (·.on)
def ancOf (log : List It) (aw : List Nat) : List Nat := aw ++ log.flatMap fun x => bif aw.contains x.i then x.anc else []
def isAlloc (o : Oper) : Option TypeId := match o.op with | .alloc t => some t | _ => none
/-- A box for each variable that the region makes. -/
def resBlks (T : TypeId → Option Ty) (l : List Oper) : List Blk := l.filterMap fun o => match isAlloc o with | some t => (match T t with | some ty => some (.box (zeroV ty)) | none => some .dead) | none => none

/-- What an operation does, once it is carried out. -/
def execC {α : Type} (T : TypeId → Option Ty) (C : FuncId → Option Sig) (res : Nat) (o : Oper) (s : St) (K : Bool → List Nat → List Nat → St → Option α) : Option α :=
  match isAlloc o with
  | some t => match T t with | some _ => K true [] [] ⟨putT s.tm o.dst (.pt res [] 0), s.hp⟩ | none => none
  | none =>
    match evPure T none s.tm s.hp o.type o.op with
    | some r => bif r.1 then K true (opRefs s.tm o.op) [] ⟨putT s.tm o.dst r.2, s.hp⟩ else none
    | none =>
      match evOp T C s.tm s.hp o.type o.op with
      | some r => bif r.c then K false [] (wrOf s.tm s.hp.length o.op r.h.length) ⟨putT s.tm o.dst r.v, r.h⟩ else none
      | none => none
/-- One operation, carried out or not, as its guard says. -/
def stepC {α : Type} (T : TypeId → Option Ty) (C : FuncId → Option Sig) (ops : Array Oper) (res : Nat) (o : Oper) (s : St) (K : Bool → List Nat → List Nat → St → Option α) : Option α :=
  match o.guard with
  | none => execC T C res o s K
  | some (j, w) =>
    match (ops[j]?).bind (·.dst) with
    | some t =>
      match s.tm.getD t .u with
      | .bool b =>
        bif b then
          bif w then execC T C res o ⟨s.tm.set t (.bool true), s.hp⟩ K else K true [] [] ⟨putT (s.tm.set t (.bool true)) o.dst (.tup []), s.hp⟩
        else
          bif w then K true [] [] ⟨putT (s.tm.set t (.bool false)) o.dst (.tup []), s.hp⟩ else execC T C res o ⟨s.tm.set t (.bool false), s.hp⟩ K
      | .tup _ => K true [] [] ⟨putT s.tm o.dst (.tup []), s.hp⟩
      | _ => none
    | none => none
def evDraw {α : Type} (T : TypeId → Option Ty) (C : FuncId → Option Sig) (ops : Array Oper) : List Oper → Nat → Nat → List It → St → (St → Option α) → Option α
  | [], _, _, _, s, k => k s
  | o :: rest, i, res, log, s, k =>
    bif (awaits o).all (fun j => Nat.blt j i) then
      stepC T C ops res o s fun p rd wr s' =>
        let it : It := ⟨i, o, res, p, ancOf log (awaits o), rd, wr⟩
        bif log.all (fun x => okPair ops x it) then evDraw T C ops rest (i + 1) (match isAlloc o with | some _ => res + 1 | none => res) (it :: log) s' k else none
    else none

inductive Ex where
  | normal | exit (id : Nat) | ret

mutual
def V.ren (f : Nat → Option Nat) : V → V
  | .hd b => match f b with | some b' => .hd b' | none => .u
  | .hs b lo len => match f b with | some b' => .hs b' lo len | none => .u
  | .pt b p o => match f b with | some b' => .pt b' p o | none => .u
  | .ap b i p o => match f b with | some b' => .ap b' i p o | none => .u
  | .st l => .st (V.rens f l)
  | .tup l => .tup (V.rens f l)
  | v => v
def V.rens (f : Nat → Option Nat) : List V → List V
  | [] => []
  | v :: l => V.ren f v :: V.rens f l
end
def addNew : List Nat → List Nat → List Nat
  | acc, [] => acc
  | acc, b :: r => if acc.contains b then addNew acc r else addNew (acc ++ [b]) r
def keepT : List Nat → Nat → List V → List V
  | _, _, [] => []
  | keep, i, v :: l => (if keep.contains i then v else .u) :: keepT keep (i + 1) l
def blkRefs : Blk → List Nat | .box v => v.refs | _ => []
def close : Nat → List Blk → List Nat → List Nat
  | 0, _, acc => acc
  | n + 1, h, acc => close n h (addNew acc (acc.flatMap fun b => blkRefs (getB h b)))
def renB (f : Nat → Option Nat) : Blk → Blk
  | .box v => .box (v.ren f)
  | b => b
def idx (l : List Nat) (b : Nat) : Option Nat := l.findIdx? (· == b)
def norm (keep : List Nat) (s : St) : St :=
  let tm := keepT keep 0 s.tm
  let l := close 4 s.hp (addNew [] (V.refss tm))
  ⟨V.rens (idx l) tm, l.map fun b => renB (idx l) (getB s.hp b)⟩

/-- A loop, so many rounds at most. -/
def evLoop {α : Type} (body : St → (Ex → St → Option α) → Option α) (nm : St → St) (k : Ex → St → Option α) : Nat → St → Option α
  | 0, _ => none
  | n + 1, s => body s fun e s' => match e with | .normal => evLoop body nm k n (nm s') | e => k e (nm s')

/-- What a loop does from its head on, told in one go. -/
abbrev LoopSum := (α : Type) → St → (Ex → St → Option α) → Option α

/-- 'L': loops that are told in one go, by the block that they stand in; 'K': how many rounds of the others; 'keep': of the block that a loop stands in, the slots that go from round to round and on. -/
def evC {α : Type} (T : TypeId → Option Ty) (C : FuncId → Option Sig) (L : Nat → Option LoopSum) (K : Nat) (keep : Nat → List Nat) : Nat → Code → St → (Ex → St → Option α) → Option α
  | _, .skip, s, k => k .normal s
  | _, .label _, s, k => k .normal s
  | _, .region _ ops draw, s, k =>
    match draw with
    | false => evOps T C false ops ops.toList s (k .normal)
    | true => evDraw T C ops ops.toList 0 s.hp.length [] ⟨s.tm, s.hp ++ resBlks T ops.toList⟩ (k .normal)
  | c, .seq a b, s, k => evC T C L K keep c a s fun e s' => match e with | .normal => evC T C L K keep c b s' k | e => k e s'
  | c, .cond x a b, s, k =>
    match look none s.tm none x with
    | .bool t => bif t then evC T C L K keep c a s k else evC T C L K keep c b s k
    | _ => none
  | _, .block id a, s, k => evC T C L K keep id a s fun e s' => match e with | .exit i => if i = id then k .normal s' else k (.exit i) s' | e => k e s'
  | c, .loop a, s, k =>
    match L c with
    | some f => f α (norm (keep c) s) k
    | none => evLoop (fun s k => evC T C L K keep c a s k) (norm (keep c)) k K (norm (keep c) s)
  | _, .exit id, s, k => k (.exit id) s
  | _, .ret, s, k => k .ret s
  | _, _, _, _ => none

/-- What a function hands back. -/
def evRes (T : TypeId → Option Ty) (s : St) : List ResultVar → Option (List V)
  | [] => some []
  | .tmp t :: r => match evRes T s r with | some l => some (s.tm.getD t .u :: l) | none => none
  | .cell t ty :: r =>
    match T ty with
    | none => none
    | some ty =>
      match s.tm.getD t .u with
      | .pt b p off =>
        match getB s.hp b with
        | .box v =>
          match vat p v with
          | some x => if x.sz = ty.sz ∧ x.isSt = ty.isSt ∧ voff p v = off then match evRes T s r with | some l => some (x :: l) | none => none else none
          | none => none
        | _ => none
      | _ => none

def evBody (T : TypeId → Option Ty) (C : FuncId → Option Sig) (L : Nat → Option LoopSum) (K : Nat) (keep : Nat → List Nat) (fn : Func) (ps rs : List Ty) (ds : List Dat) : Option (List Dat) :=
  match fn.body with
  | none => none
  | some c =>
    if ds.length = ps.length ∧ ps.length ≤ fn.ntmps then
      evC T C L K keep 0 c ⟨ofRos ps 0 (.n ds) ++ List.replicate (fn.ntmps - ps.length) .u, []⟩ fun e s =>
        match e with
        | .exit _ => none
        | _ => match evRes T s fn.results.toList with
          | some vs => match grabs rs vs s.hp with | some (ds, _) => some ds | none => none
          | none => none
    else none
end Go.Ev
