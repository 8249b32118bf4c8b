/-
The evaluator: operations, regions, code, calls, functions.
-/
import Derived.Test.YtiboikgoaihccaaR1
namespace Go.Proofs.Ytiboikgoaihccaa.R

/-- If all of these hold: x; else nothing is told. -/
def chk {R : Type} (b : Bool) (x : Option R) : Option R := bif b then x else none

def chks {R : Type} : List Bool → Option R → Option R
  | [], x => x
  | b :: bs, x => chk b (chks bs x)

def bitsI (op : BinOp) (k : IntKind) (x y : Int) : Int :=
  let a := BitVec.ofInt k.bits x
  let b := BitVec.ofInt k.bits y
  k.wrap (match op with
    | .and => a &&& b
    | .or => a ||| b
    | .xor => a ^^^ b
    | _ => a &&& ~~~b).toNat

def byteAt (s : ByteArray) (i : Int) : Int := ((s.data.toList.getD i.toNat 0).toNat : Int)

/-- The cells of two plain structs, one by one; the first: those of the type's zero. -/
def eqCells : List V → List V → List V → Option Bool
  | [], [], [] => some true
  | .int k _ :: zs, .int k1 a :: xs, .int k2 b :: ys => if k1 = k ∧ k2 = k then (match eqCells zs xs ys with
    | some r => some (a == b && r)
    | none => none) else none
  | .bool _ :: zs, .bool a :: xs, .bool b :: ys => match eqCells zs xs ys with
    | some r => some (a == b && r)
    | none => none
  | .str _ :: zs, .str a :: xs, .str b :: ys => match eqCells zs xs ys with
    | some r => some (a == b && r)
    | none => none
  | _, _, _ => none

/-- A step's answer: what must hold, the value, the state. -/
abbrev Ans := Option (List Bool × V × St)

def pureA (v : V) (σ : St) : Ans := some ([], v, σ)

def binI (op : BinOp) (k : IntKind) (a b : Int) (σ : St) : Ans :=
  match op with
  | .add => pureA (.int k (k.wrap (a + b))) σ
  | .sub => pureA (.int k (k.wrap (a - b))) σ
  | .mul => pureA (.int k (k.wrap (a * b))) σ
  | .quo => some ([!(b == 0)], .int k (k.wrap (a.tdiv b)), σ)
  | .rem => some ([!(b == 0)], .int k (a.tmod b), σ)
  | .and => pureA (.int k (bitsI .and k a b)) σ
  | .or => pureA (.int k (bitsI .or k a b)) σ
  | .xor => pureA (.int k (bitsI .xor k a b)) σ
  | .andNot => pureA (.int k (bitsI .andNot k a b)) σ
  | .eql => pureA (.bool (a == b)) σ
  | .neq => pureA (.bool (a != b)) σ
  | .lss => pureA (.bool (decide (a < b))) σ
  | .leq => pureA (.bool (decide (a ≤ b))) σ
  | .gtr => pureA (.bool (decide (a > b))) σ
  | .geq => pureA (.bool (decide (a ≥ b))) σ
  | _ => none

def binA (E : Env) (op : BinOp) (t : TypeId) (x y : V) (σ : St) : Ans :=
  match x, y with
  | .int k a, .int yk b =>
    match op with
    | .shl => some ([decide (0 ≤ b)], .int k (k.wrap (a * 2 ^ (min b.toNat k.bits))), σ)
    | .shr => some ([decide (0 ≤ b)], .int k (a.fdiv (2 ^ (min b.toNat k.bits))), σ)
    | _ => if k = yk then binI op k a b σ else none
  | .bool a, .bool b =>
    match (E.tt t).kind, op with
    | .bool, .eql => pureA (.bool (a == b)) σ
    | .bool, .neq => pureA (.bool (!(a == b))) σ
    | _, _ => none
  | .str a, .str b =>
    match op with
    | .add => some ([decide (a.size + b.size ≤ 9223372036854775807)], .str (a ++ b), σ)
    | .eql => pureA (.bool (a == b)) σ
    | .neq => pureA (.bool (!(a == b))) σ
    | _ => none
  | .agg xs, .agg ys =>
    match (E.tt t).eqs, eqCells (E.tt t).zero xs ys, op with
    | true, some r, .eql => pureA (.bool r) σ
    | true, some r, .neq => pureA (.bool (!r)) σ
    | _, _, _ => none
  | .ptr _ _ _, .nilp | .nilp, .ptr _ _ _ =>
    match (E.tt t).kind, op with
    | .ptr _, .eql => pureA (.bool false) σ
    | .ptr _, .neq => pureA (.bool true) σ
    | _, _ => none
  | .nilp, .nilp =>
    match (E.tt t).kind, op with
    | .ptr _, .eql => pureA (.bool true) σ
    | .ptr _, .neq => pureA (.bool false) σ
    | _, _ => none
  | _, _ => none

/-- n cells from an address on. -/
def loadC (σ : St) (p : V) (n : Nat) : Option (List V) :=
  match p with
  | .rop cs => bif n.ble cs.length && Nat.blt 0 n then some (cs.take n) else none
  | .ptr e i o =>
    match look σ.mem e with
    | some (.row t l) =>
      let cs := (enc t (rd t l i)).drop o
      bif n.ble cs.length && Nat.blt 0 n then some (cs.take n) else none
    | some (.box cs) =>
      let cs := cs.drop o
      bif n.ble cs.length && Nat.blt 0 n then some (cs.take n) else none
    | none => none
  | _ => none

/-- No cell is told as nothing. -/
def known : List V → Bool
  | [] => true
  | v :: vs => match v with
    | .undef | .own _ _ | .agg _ | .tup _ => false
    | _ => known vs

def storeC (σ : St) (p : V) (n : Nat) (v : V) : Option St :=
  let vs := v.cells
  bif n == vs.length && Nat.blt 0 n && known vs then
    match p with
    | .ptr e i o =>
      match look σ.mem e with
      | some (.row _ _) =>
        let σ' := σ.frzAll vs
        match look σ'.mem e with
        | some (.row t l) =>
          let cs := enc t (rd t l i)
          match decAll t (cs.take o ++ vs.map (pure1 σ) ++ cs.drop (o + n)) with
          | some x => some { σ' with mem := updE σ'.mem e (.row t (l.set i x)) }
          | none => none
        | _ => none
      | some (.box cs) =>
        bif (o + n).ble cs.length then some { σ with mem := updE σ.mem e (.box (cs.take o ++ vs ++ cs.drop (o + n))) } else none
      | none => none
    | _ => none
  else none

/-- A slice's parts, read as data of one type. -/
def rowOf (σ : St) (t : Ty) (v : V) : Option (List t.den) :=
  decAll (.list t) [pure1 σ v]

/-- The length of what can be sliced. -/
def lenV (σ : St) : V → Option Int
  | .ro _ l => some (l.length : Int)
  | .nil => some 0
  | .str s => some (s.size : Int)
  | .slw e => match look σ.mem e with
    | some (.row _ l) => some (l.length : Int)
    | _ => none
  | .sl _ _ n => some (n : Int)
  | _ => none

/-- A bound of a slice expression; none: it is not there. -/
def bound (σ : St) : Option Operand → Option (Option Int)
  | none => some none
  | some o => match σ.eval o with
    | .int _ n => some (some n)
    | _ => none

def sliceStr (s : ByteArray) (lo hi : Option Int) (σ : St) : Ans :=
  let b := hi.getD s.size
  let a := lo.getD 0
  some ([decide (0 ≤ a ∧ a ≤ b), decide (b ≤ s.size)], .str (s.extract a.toNat b.toNat), σ)

/-- Of n elements, behind which there is room up to m: those between two bounds. -/
def cutA (lo hi : Option Int) (n m : Nat) (mk : Nat → Nat → V) (σ : St) : Ans :=
  let b := hi.getD n
  let a := lo.getD 0
  some ([decide (0 ≤ a ∧ a ≤ b), decide (b ≤ m)], mk a.toNat (b.toNat - a.toNat), σ)

def sliceA (sz : Nat) (x : V) (lo hi : Option Int) (σ : St) : Ans :=
  match x with
  | .ro t l => bif t.size == sz then cutA lo hi l.length l.length (fun o n => .ro t ((l.drop o).take n)) σ else none
  | .slw e =>
    match look σ.mem e with
    | some (.row t l) => bif t.size == sz then cutA lo hi l.length l.length (fun o n => .sl e o n) σ else none
    | _ => none
  | .sl e o n =>
    match look σ.mem e with
    | some (.row t l) => bif t.size == sz then cutA lo hi n (l.length - o) (fun o' n' => .sl e (o + o') n') σ else none
    | _ => none
  | _ => none

/-- The whole of what a slice has, with no room behind it. -/
def clipA (sz : Nat) (x : V) (lo : Option Int) (b c : Int) (σ : St) : Ans :=
  match x with
  | .nil => some ([Nat.blt 0 sz, decide (lo.getD 0 = 0), decide (b = 0), decide (c = 0)], .nil, σ)
  | .slw e =>
    match look σ.mem e with
    | some (.row t l) => bif t.size == sz then some ([decide (lo.getD 0 = 0), decide (b = l.length), decide (c = l.length)], .slw e, σ) else none
    | _ => none
  | .sl e o n =>
    match look σ.mem e with
    | some (.row t l) =>
      let σ' := σ.map1 (rebV e o n)
      bif t.size == sz then some ([decide (lo.getD 0 = 0), decide (b = n), decide (c = n)], .slw e, { σ' with mem := updE σ'.mem e (.row t ((l.drop o).take n)) }) else none
    | _ => none
  | _ => none

/-- What a slice of the call's own holds, and its row's name. -/
def ownRow (σ : St) (t : Ty) : V → Option (List t.den × Option Nat)
  | .nil => some ([], none)
  | .slw e => match look σ.mem e with
    | some (.row t' l) => if h : t' = t then some (h ▸ l, some e) else none
    | _ => none
  | .sl e o n => match look σ.mem e with
    | some (.row t' l) => if h : t' = t then some (((h ▸ l : List t.den).drop o).take n, some e) else none
    | _ => none
  | _ => none

def appendA (E : Env) (nm : Nat) (st : TypeId) (s x : V) (σ : St) : Ans :=
  match (E.tt st).kind with
  | .slice e =>
    match (E.tt e).ty with
    | some t =>
      match ownRow σ t s, rowOf σ t x with
      | some (l, e?), some xs =>
        let r := l ++ xs
        some ([Nat.blt 0 (E.tt e).bytes, decide (r.length * (E.tt e).bytes ≤ 140737488355328)], .slw nm, match e? with
          | some en => σ.repl en nm (.row t r)
          | none => σ.new nm (.row t r))
      | _, _ => none
    | none => none
  | _ => none

/-- Cells with some of them replaced. -/
def fillAt (cs : List V) (o : Nat) (vs : List V) : List V := cs.take o ++ vs ++ cs.drop (o + vs.length)

/-- Parts laid into cells: each with its place and its size. -/
def fillC (place : Nat → Option (Nat × Nat)) : List (Nat × V) → List V → Option (List V)
  | [], cs => some cs
  | (i, v) :: ps, cs => match place i with
    | some (o, n) => bif n == v.cells.length && known v.cells && (o + v.cells.length).ble cs.length then fillC place ps (fillAt cs o v.cells) else none
    | none => none

def zerosL (zero : List V) (n : Nat) : List V := (List.range n).map fun j => zero.getD (j % zero.length) .undef

/-- Cells as so many elements. -/
def decN (t : Ty) : Nat → List V → Option (List t.den)
  | 0, [] => some []
  | 0, _ => none
  | n + 1, cs => match dec t cs with
    | some (x, r) => match decN t n r with
      | some xs => some (x :: xs)
      | none => none
    | none => none

def intsOf (σ : St) : List Operand → Option (IntKind × List Int)
  | [] => none
  | [o] => match σ.eval o with
    | .int k n => some (k, [n])
    | _ => none
  | o :: os => match σ.eval o, intsOf σ os with
    | .int k n, some (k', ns) => if k = k' then some (k, n :: ns) else none
    | _, _ => none

def min2I (x y : Int) : Int := bif decide (y < x) then y else x
def max2I (x y : Int) : Int := bif decide (y > x) then y else x

def isSl : V → Bool
  | .ro _ _ | .slw _ | .sl _ _ _ | .nil => true
  | _ => false

/-- Can it be captured? -/
def plain : V → Bool
  | .fn _ _ | .agg _ | .tup _ | .own _ _ => false
  | _ => true

/-- What one operation does that calls no function of the program. nm: the name of what it makes. -/
def op1 (E : Env) (nm : Nat) (ty : TypeId) (op : Op) (σ : St) : Ans :=
  match op with
  | .move x => pureA (σ.eval x) σ
  | .assign x =>
    match σ.eval x with
    | .nil => match (E.tt ty).kind with
      | .slice e => match (E.tt e).ty with
        | some t => pureA (.slw nm) (σ.new nm (.row t []))
        | none => pureA .nil σ
      | _ => pureA .nil σ
    | v => pureA v σ
  | .pick c a b => match σ.eval c with
    | .bool x => pureA (bif x then σ.eval a else σ.eval b) σ
    | _ => none
  | .alloc t => bif Nat.blt 0 (E.tt t).size then pureA (.ptr nm 0 0) (σ.new nm (.box (E.tt t).zero)) else none
  | .box _ x =>
    let v := σ.eval x
    bif known v.cells then pureA (.ptr nm 0 0) (σ.new nm (.box (v.cells.map (V.mapC (killV nm))))) else none
  | .build t ps => match (E.tt t).kind with
    | .struct fs =>
      bif Nat.blt 0 (E.tt t).size then
        match fillC (fun i => (fs[i]?).map fun f => (f.1, (E.tt f.2).size)) (ps.toList.map fun p => (p.1, σ.eval p.2)) (E.tt t).zero with
        | some cs => pureA (.agg cs) σ
        | none => none
      else none
    | _ => none
  | .buildSlice t len ps => match (E.tt t).kind with
    | .slice e => match (E.tt e).ty with
      | some te =>
        let vs := ps.toList.map fun p => (p.1, σ.eval p.2)
        match fillC (fun i => some (i * (E.tt e).size, (E.tt e).size)) vs (zerosL (E.tt e).zero (len * (E.tt e).size)) with
        | some cs => match decN te len (cs.map (pure1 σ)) with
          | some l => bif (len * (E.tt e).size).ble 16777216 then pureA (.slw nm) ((σ.frzAll cs).new nm (.row te l)) else none
          | none => none
        | none => none
      | none => none
    | _ => none
  | .load t a =>
    match loadC σ (σ.eval a) (E.tt t).size with
    | some cs => pureA (asV (E.tt t).agg cs) σ
    | none => none
  | .store t a x =>
    match storeC σ (σ.eval a) (E.tt t).size (σ.eval x) with
    | some σ' => pureA .undef σ'
    | none => none
  | .nilCheck x => match σ.eval x with
    | .ptr e i o => pureA (.ptr e i o) σ
    | .rop cs => pureA (.rop cs) σ
    | .fn f cs => pureA (.fn f cs) σ
    | _ => none
  | .binOp op t x y _ => binA E op t (σ.eval x) (σ.eval y) σ
  | .unOp op _ x => match op, σ.eval x with
    | .not, .bool b => pureA (.bool (!b)) σ
    | .neg, .int k n => pureA (.int k (k.wrap (0 - n))) σ
    | _, _ => none
  | .convert src dst x => match (E.tt src).kind, (E.tt dst).kind, σ.eval x with
    | .int _, .int k, .int _ n => pureA (.int k (k.wrap n)) σ
    | _, _, _ => none
  | .makeFunc (.func f) fst caps => match fst.toList with
    | [] => bif (caps.toList.map σ.eval).all plain then pureA (.fn f (caps.toList.map σ.eval)) σ else none
    | _ => none
  | .makeSlice t l c => match (E.tt t).kind, σ.eval l, σ.eval c with
    | .slice e, .int .i64 n, .int .i64 m => match (E.tt e).ty with
      | some te => some ([decide (0 ≤ n ∧ n ≤ m), decide (0 < (E.tt e).bytes ∧ m * (E.tt e).bytes ≤ 140737488355328)], .slw nm, σ.new nm (.row te (List.replicate n.toNat (dflt te))))
      | none => none
    | _, _, _ => none
  | .slice t x lo hi mx => match (E.tt t).kind, bound σ lo, bound σ hi, mx with
    | .slice e, some a, some b, none => sliceA (E.tt e).size (σ.eval x) a b σ
    | .str, some a, some b, none => match σ.eval x with
      | .str s => sliceStr s a b σ
      | _ => none
    | .slice e, some a, some (some b), some (.tmp m) => match bound σ (some (.tmp m)) with
      | some (some c) => clipA (E.tt e).size (σ.eval x) a b c σ
      | _ => none
    | .slice e, some a, some (some b), some m => match (E.tt e).ty, bound σ (some m) with
      | some te, some (some c) => bif isSl (σ.eval x) && (a.getD 0 == 0 && (b == 0 && c == 0)) then pureA (.slw nm) (σ.new nm (.row te [])) else none
      | _, _ => none
    | _, _, _, _ => none
  | .fieldAddr s x f => match (E.tt s).kind, σ.eval x with
    | .struct fs, .ptr e i o => match fs[f]? with
      | some (off, ft) => bif Nat.blt 0 (E.tt ft).size then (match look σ.mem e with
        | some (.row t _) => bif (o + off).ble t.size then pureA (.ptr e i (o + off)) σ else none
        | some (.box _) => pureA (.ptr e i (o + off)) σ
        | none => none) else none
      | none => none
    | .struct fs, .rop cs => match fs[f]? with
      | some (off, ft) => bif Nat.blt 0 (E.tt ft).size then pureA (.rop (cs.drop off)) σ else none
      | none => none
    | _, _ => none
  | .field t x f => match (E.tt t).kind, σ.eval x with
    | .struct fs, .agg cs => match fs[f]? with
      | some (off, ft) => bif (off + (E.tt ft).size).ble cs.length && Nat.blt 0 (E.tt ft).size then pureA (asV (E.tt ft).agg ((cs.drop off).take (E.tt ft).size)) σ else none
      | none => none
    | _, _ => none
  | .indexAddr t x i => match (E.tt t).kind, σ.eval i with
    | .slice e, .int _ n => match σ.eval x with
      | .ro te l => bif te.size == (E.tt e).size then some ([decide (0 ≤ n ∧ n < l.length)], .rop (enc te (rd te l n)), σ) else none
      | .slw en => match look σ.mem en with
        | some (.row te l) => bif te.size == (E.tt e).size then some ([decide (0 ≤ n ∧ n < l.length)], .ptr en n.toNat 0, σ) else none
        | _ => none
      | .sl en o len => match look σ.mem en with
        | some (.row te _) => bif te.size == (E.tt e).size then some ([decide (0 ≤ n ∧ n < len)], .ptr en (o + n.toNat) 0, σ) else none
        | _ => none
      | _ => none
    | .array len e, .int _ n => match σ.eval x with
      | .ptr en i o => bif Nat.blt 0 (E.tt e).size then (match look σ.mem en with
        | some (.row te _) => bif (o + len * (E.tt e).size).ble te.size then some ([decide (0 ≤ n ∧ n < len)], .ptr en i (o + n.toNat * (E.tt e).size), σ) else none
        | some (.box _) => some ([decide (0 ≤ n ∧ n < len)], .ptr en i (o + n.toNat * (E.tt e).size), σ)
        | none => none) else none
      | _ => none
    | _, _ => none
  | .index t x i => match (E.tt t).kind, σ.eval x, σ.eval i with
    | .str, .str s, .int _ n => some ([decide (0 ≤ n ∧ n < s.size)], .int .u8 (byteAt s n), σ)
    | _, _, _ => none
  | .extract x i => match σ.eval x with
    | .tup vs => match vs[i]? with
      | some v => pureA v σ
      | none => none
    | _ => none
  | .call c => match c.callee with
    | .builtin .len => match c.argTypes.toList, c.args.toList with
      | [t], [x] => match (E.tt t).kind, lenV σ (σ.eval x) with
        | .slice _, some n => match σ.eval x with
          | .str _ => none
          | _ => pureA (.int .i64 n) σ
        | .str, some n => match σ.eval x with
          | .str _ => pureA (.int .i64 n) σ
          | _ => none
        | _, _ => none
      | _, _ => none
    | .builtin .append => match c.argTypes.toList, c.args.toList with
      | [t, t2], [s, x] => match (E.tt t2).kind with
        | .slice _ => appendA E nm t (σ.eval s) (σ.eval x) σ
        | _ => none
      | _, _ => none
    | .builtin .min => match intsOf σ c.args.toList with
      | some (k, n :: ns) => pureA (.int k (ns.foldl min2I n)) σ
      | _ => none
    | .builtin .max => match intsOf σ c.args.toList with
      | some (k, n :: ns) => pureA (.int k (ns.foldl max2I n)) σ
      | _ => none
    | _ => none
  | _ => none

/-! ### Calls -/
/-- What calls a function: the base of the names, the arguments, the state, what follows. -/
abbrev Handler (R : Type) := FuncId → Nat → List V → St → (V → St → Option R) → Option R

/-- Is a result free of what is read-only (that might be a part of an argument)? -/
def Ty.flat : Ty → Bool
  | .list _ => false
  | .pair a b => a.flat && b.flat
  | .one a => a.flat
  | _ => true

def flat1 : V → Bool
  | .int _ _ | .bool _ | .str _ => true
  | .own t _ => t.flat
  | _ => false

def flatV : V → Bool
  | .agg cs => cs.all flat1
  | .tup vs => vs.all fun v => match v with
    | .agg cs => cs.all flat1
    | v => flat1 v
  | v => flat1 v

/-- What is handed back as the caller's own gets names: k, k + 1, .. -/
def relab1 (k : Nat) : V → V
  | .own _ _ => .slw k
  | v => v

def cnt1 : V → Nat
  | .own _ _ => 1
  | _ => 0

def relabL : Nat → List V → List V
  | _, [] => []
  | k, v :: vs => relab1 k v :: relabL (k + cnt1 v) vs

def cntL : List V → Nat
  | [] => 0
  | v :: vs => cnt1 v + cntL vs

def relab2 (k : Nat) : V → V
  | .agg cs => .agg (relabL k cs)
  | v => relab1 k v

def relabT : Nat → List V → List V
  | _, [] => []
  | k, v :: vs => relab2 k v :: relabT (k + cntL v.cells) vs

def relab (k : Nat) : V → V
  | .tup vs => .tup (relabT k vs)
  | v => relab2 k v

/-- All cells of a value. -/
def V.flat : V → List V
  | .tup vs => vs.flatMap V.cells
  | v => v.cells

def owns : List V → List Entry
  | [] => []
  | .own t l :: vs => .row t l :: owns vs
  | _ :: vs => owns vs

def addE : Nat → List Entry → List (Nat × Entry) → List (Nat × Entry)
  | _, [], m => m
  | k, x :: xs, m => (k, x) :: addE (k + 1) xs m

def St.clearN (k : Nat) : Nat → St → St
  | 0, σ => σ
  | n + 1, σ => St.clearN (k + 1) n (σ.clear k)

def adopt (nm : Nat) (v : V) (σ : St) : V × St :=
  let es := owns v.flat
  let σ := St.clearN nm es.length σ
  (relab nm v, { σ with mem := addE nm es σ.mem })

def argCells : List V → List V
  | [] => []
  | v :: vs => v.cells ++ argCells vs

/-- A call by what is known of the function. -/
def callS {R : Type} (s : Summ) (nm : Nat) (vs : List V) (σ : St) (K : V → St → Option R) : Option R :=
  (s.call (vs.map (pureV σ))).bind fun x =>
    let σ := bif flatV (s.res x) then σ else σ.frzAll (argCells vs)
    let (v, σ') := adopt nm (s.res x) σ
    K v σ'

def noRef : V → Bool
  | .slw _ | .sl _ _ _ | .ptr _ _ _ | .fn _ _ => false
  | _ => true

/-- The entries to which a value refers. -/
def ref0 : V → List Nat
  | .slw e => [e]
  | .sl e _ _ => [e]
  | .ptr e _ _ => [e]
  | _ => []

def refs1 : V → List Nat
  | .fn _ caps => caps.flatMap ref0
  | v => ref0 v

def refs2 : V → List Nat
  | .agg cs => cs.flatMap refs1
  | v => refs1 v

def refs3 : V → List Nat
  | .tup vs => vs.flatMap refs2
  | v => refs2 v

def name (d t : Nat) : Nat := (d * 4096 + t) * 64

/-! ### Tidy states: entries by the slots that refer to them -/
def nameRef (σ : St) (v : V) (e2 : Nat) : St := match refE v with
  | some e => σ.ren e e2
  | none => σ

def nameCells (base res : Nat) : Nat → List V → St → St
  | _, [], σ => σ
  | c, v :: vs, σ => nameCells base res (c + 1) vs (nameRef σ v ((base * 4096 + c) * 64 + res))

def nameSlots (d : Nat) : Nat → List V → St → St
  | _, [], σ => σ
  | s, v :: vs, σ => nameSlots d (s + 1) vs (nameCells (d * 4096 + s) 16 0 v.cells σ)

def nameOuts : Nat → List (List V) → St → St
  | _, [], σ => σ
  | d, fr :: outs, σ => nameOuts (d + 1) outs (nameSlots (d + 1) 0 fr σ)

def nameBoxes : List (Nat × Entry) → St → St
  | [], σ => σ
  | (e, .box cs) :: m, σ => nameBoxes m (nameCells e 48 0 cs σ)
  | _ :: m, σ => nameBoxes m σ

def awayNames : List (Nat × Entry) → St → St
  | [], σ => σ
  | (e, _) :: m, σ => awayNames m (bif Nat.ble 16 (e % 64) then σ.ren e (e * 64 + 32) else σ)

def boxRefs (L : List Nat) : List (Nat × Entry) → List Nat
  | [] => []
  | (e, .box cs) :: m => bif L.contains e then cs.flatMap refs1 ++ boxRefs L m else boxRefs L m
  | _ :: m => boxRefs L m

def reachS (σ : St) : List Nat :=
  let a := σ.fr.flatMap refs3 ++ σ.outs.flatMap fun fr => fr.flatMap refs3
  let b := a ++ boxRefs a σ.mem
  let c := b ++ boxRefs b σ.mem
  c ++ boxRefs c σ.mem

def insN (x : Nat) : List Nat → List Nat
  | [] => [x]
  | y :: ys => bif x == y then y :: ys else bif Nat.blt x y then x :: y :: ys else y :: insN x ys

/-! ### Code -/
def doGhost (σ : St) : Ghost → St
  | .kill ts => ts.foldl (fun σ t => σ.set t .undef) σ
  | .frz s c => match (σ.get s).cells[c]? with
    | some v => frz1 σ v
    | none => σ
  | .reb s => match σ.get s with
    | .sl e o n => match look σ.mem e with
      | some (.row t l) =>
        let σ := σ.map1 (rebV e o n)
        { σ with mem := updE σ.mem e (.row t ((l.drop o).take n)) }
      | _ => σ
    | _ => σ
  | .ren e e2 => σ.ren e e2
  | .drop e => σ.kill e
  | .nameS s c e2 => match (σ.get s).cells[c]? with
    | some v => match refE v with
      | some e => σ.ren e e2
      | none => σ
    | none => σ
  | .only es => σ.mem.foldl (fun τ p => bif es.contains p.1 then τ else τ.kill p.1) σ
  | .tidy => bif σ.mem.isEmpty then σ else
    let σ := awayNames σ.mem σ
    let σ := nameOuts 0 σ.outs (nameSlots 0 0 σ.fr σ)
    let σ := nameBoxes σ.mem σ
    let σ := nameBoxes σ.mem σ
    let es := (reachS σ).foldl (fun L x => insN x L) []
    let σ := σ.mem.foldl (fun τ p => bif es.contains p.1 then τ else τ.kill p.1) σ
    bif σ.mem.all (fun p => es.contains p.1) then { σ with mem := es.filterMap fun e => (look σ.mem e).map fun x => (e, x) } else σ
  | .keep es => bif σ.mem.all (fun p => es.contains p.1) then { σ with mem := es.filterMap fun e => (look σ.mem e).map fun x => (e, x) } else σ

def doGhosts (σ : St) (gs : List Ghost) : St := gs.foldl doGhost σ

/-- The number by which a loop's directives are found: the first region in its body. -/
def firstRegion : Code → Nat
  | .region id _ _ => id
  | .seq a _ => firstRegion a
  | .cond _ a _ => firstRegion a
  | .block _ c => firstRegion c
  | .loop c => firstRegion c
  | .scope c => firstRegion c
  | _ => 0


abbrev Kl (R : Type) := Exit → St → Option R

/-- What follows a piece of code that may end normally. -/
def seqK {R : Type} (N : St → Option R) (K : Kl R) : Kl R := fun e σ => match e with
  | .normal => N σ
  | e => K e σ

def blockK {R : Type} (id : Nat) (K : Kl R) : Kl R := fun e σ => match e with
  | .exit id' => bif id' == id then K .normal σ else K (.exit id') σ
  | e => K e σ

/-! ### Regions whose order is drawn -/
def aliveB (σ : St) (o : Oper) : Bool := o.op.operands.toList.all fun x => (refs3 (σ.eval x)).all fun e => (look σ.mem e).isSome

def deadN (m : List (Nat × Entry)) (k : Nat) : Nat → Bool
  | 0 => true
  | n + 1 => (look m k).isNone && deadN m (k + 1) n

def pureOp : Op → Bool
  | .move _ | .pick _ _ _ | .build _ _ | .load _ _ | .nilCheck _ | .binOp _ _ _ _ _ | .unOp _ _ _ | .convert _ _ _ | .makeFunc _ _ _ | .slice _ _ _ _ none
  | .fieldAddr _ _ _ | .field _ _ _ | .indexAddr _ _ _ | .index _ _ _ | .extract _ _ => true
  | .call c => match c.callee with
    | .builtin .len | .builtin .min | .builtin .max => true
    | _ => false
  | _ => false

/-- All other operations of the region come ahead of it or behind it. -/
def isBar (o : Oper) : Bool :=
  match o.op with
  | .store _ _ _ | .alloc _ | .box _ _ | .makeSlice _ _ _ => true
  | .call c => match c.callee with
    | .builtin .append => true
    | _ => false
  | _ => false

/-- What must come ahead of an operation, as bits. -/
def maskOf (M : List Nat) (o : Oper) : Nat := o.after.toList.foldl (fun m e => bif Region.binds .any e then m ||| ((1 <<< e.on) ||| M.getD e.on 0) else m) 0

def masks : List Oper → List Nat → List Nat
  | [], M => M
  | o :: os, M => masks os (M ++ [maskOf M o])

def okPair (ops : Array Oper) (M : List Nat) (i j : Nat) (x y : Oper) : Bool :=
  -- x at i, y at j, i < j
  (match x.dst with
   | some t => y.dst != some t && (!(y.looksAt ops).contains t || Nat.testBit (M.getD j 0) i)
   | none => true) &&
  (match y.dst with
   | some t => !(x.looksAt ops).contains t || Nat.testBit (M.getD j 0) i
   | none => true) &&
  (!(isBar x || isBar y) || Nat.testBit (M.getD j 0) i)

def okPairs (ops : Array Oper) (M : List Nat) (i : Nat) (x : Oper) : Nat → List Oper → Bool
  | _, [] => true
  | j, y :: ys => okPair ops M i j x y && okPairs ops M i x (j + 1) ys

def okFrom (ops : Array Oper) (M : List Nat) : Nat → List Oper → Bool
  | _, [] => true
  | i, x :: xs =>
    (M.getD i 0 == maskOf M x) && (x.after.toList.all fun e => !Region.binds .any e || Nat.blt e.on i) && (match x.dst with
      | some t => Nat.blt t 4095
      | none => true) && (match x.guard with
      | some (g, _) => Nat.blt g i
      | none => true) && okPairs ops M i x (i + 1) xs && okFrom ops M (i + 1) xs

def okDraw (ops : Array Oper) : Bool := okFrom ops (masks ops.toList []) 0 ops.toList

/-- What both ways come to. -/
noncomputable def both {R : Type} (x y : Option R) : Option R := open Classical in if x = y then x else none

section
variable {R : Type} (E : Env) (H : Handler R)

def putK (dst : Option Nat) (K : St → Option R) : V → St → Option R := fun v σ => K (σ.put dst v)

/-- A slice held against nil: an empty one may be either. -/
noncomputable def evNil (op : BinOp) (t : TypeId) (x y : V) (n : Option Int) (K : V → Option R) : Option (Option R) :=
  match (E.tt t).kind, y with
  | .slice _, .nil =>
    match op with
    | .eql => some (match x, n with
      | .nil, _ => K (.bool true)
      | .str _, _ => none
      | _, some n => bif n == 0 then both (K (.bool true)) (K (.bool false)) else K (.bool false)
      | _, none => none)
    | .neq => some (match x, n with
      | .nil, _ => K (.bool false)
      | .str _, _ => none
      | _, some n => bif n == 0 then both (K (.bool false)) (K (.bool true)) else K (.bool true)
      | _, none => none)
    | _ => none
  | _, _ => none

noncomputable def evOp (d : Nat) (o : Oper) (σ : St) (K : St → Option R) : Option R :=
  let nm := name d (o.dst.getD 4095)
  match o.op with
  | .call c => match c.callee with
    | .value f => match σ.eval f with
      | .fn g caps => H g nm (c.args.toList.map σ.eval ++ caps) σ (putK o.dst K)
      | _ => none
    | _ => match op1 E nm o.type o.op σ with
      | some (bs, v, σ') => chks bs (K (σ'.put o.dst v))
      | none => none
  | .binOp op t x y _ => match evNil op t (E := E) (σ.eval x) (σ.eval y) (lenV σ (σ.eval x)) (fun v => K (σ.put o.dst v)) with
    | some r => r
    | none => match op1 E nm o.type o.op σ with
      | some (bs, v, σ') => chks bs (K (σ'.put o.dst v))
      | none => none
  | op => match op1 E nm o.type op σ with
    | some (bs, v, σ') => chks bs (K (σ'.put o.dst v))
    | none => none

noncomputable def evOps (d : Nat) (ops : Array Oper) : List Oper → St → (St → Option R) → Option R
  | [], σ, K => K σ
  | o :: rest, σ, K =>
    match o.guard with
    | none => evOp E H d o σ fun σ => evOps d ops rest σ K
    | some (j, want) => match (ops[j]?).bind (·.dst) with
      | some t => match σ.get t with
        | .bool b =>
          bif b then
            (let σ := σ.set t (.bool true)
             bif want then evOp E H d o σ (fun σ => evOps d ops rest σ K) else evOps d ops rest (σ.put o.dst (.tup [])) K)
          else
            (let σ := σ.set t (.bool false)
             bif want then evOps d ops rest (σ.put o.dst (.tup [])) K else evOp E H d o σ (fun σ => evOps d ops rest σ K))
        | .tup [] => evOps d ops rest (σ.put o.dst (.tup [])) K
        | _ => none
      | none => none

/-- The rounds of a loop: gs: what is done at its head; d f r: which it is (told for a reader alone). -/
def loopN (d f r : Nat) (body : St → Kl R → Option R) (gs : List Ghost) : Nat → St → Kl R → Option R
  | 0, _, _ => none
  | n + 1, σ, K => body σ (seqK (fun σ' => loopN d f r body gs n (doGhosts σ' gs) K) K)

/-- What follows when nothing but a value and fresh entries come of an operation. -/
def opD (nm : Nat) (o : Oper) (σ : St) (K : V → List Entry → Option R) : Option R :=
  match o.op with
  | .buildSlice t len ps => match (E.tt t).kind with
    | .slice e => match (E.tt e).ty with
      | some te =>
        match fillC (fun i => some (i * (E.tt e).size, (E.tt e).size)) (ps.toList.map fun p => (p.1, σ.eval p.2)) (zerosL (E.tt e).zero (len * (E.tt e).size)) with
        | some cs => match decN te len (cs.map (pure1 σ)) with
          | some l => bif (len * (E.tt e).size).ble 16777216 && cs.all noRef then K (.slw nm) [.row te l] else none
          | none => none
        | none => none
      | none => none
    | _ => none
  | .assign x => match σ.eval x with
    | .nil => none
    | v => K v []
  | .call c => match c.callee with
    | .value f => match σ.eval f with
      | .fn g caps => match lookS E.sums g with
        | some s => (s.call ((c.args.toList.map σ.eval ++ caps).map (pureV σ))).bind fun x =>
          bif caps.all plain && (flatV (s.res x) || (argCells (c.args.toList.map σ.eval ++ caps)).all noRef) then K (relab nm (s.res x)) (owns (s.res x).flat) else none
        | none => none
      | _ => none
    | _ => bif pureOp o.op then (match op1 E nm o.type o.op σ with
      | some (bs, v, _) => chks bs (K v [])
      | none => none) else none
  | _ => bif pureOp o.op then (match op1 E nm o.type o.op σ with
    | some (bs, v, _) => chks bs (K v [])
    | none => none) else none

/-- An operation of a region whose order is drawn. -/
noncomputable def evDOp (d : Nat) (o : Oper) (σ : St) (K : St → Option R) : Option R :=
  bif isBar o then evOp E H d o σ K else
    bif aliveB σ o then opD E (name d (o.dst.getD 4095)) o σ fun v es =>
      bif deadN σ.mem (name d (o.dst.getD 4095)) es.length && (Nat.blt es.length 64 && (o.dst.isSome || es.isEmpty)) then K (St.put { σ with mem := addE (name d (o.dst.getD 4095)) es σ.mem } o.dst v) else none
    else none

noncomputable def evDs (d : Nat) (ops : Array Oper) : List Oper → St → (St → Option R) → Option R
  | [], σ, K => K σ
  | o :: rest, σ, K =>
    match o.guard with
    | none => evDOp E H d o σ fun σ => evDs d ops rest σ K
    | some (j, want) => match (ops[j]?).bind (·.dst) with
      | some t => match σ.get t with
        | .bool b =>
          bif b then
            (let σ := σ.set t (.bool true)
             bif want then evDOp E H d o σ (fun σ => evDs d ops rest σ K) else bif isBar o then none else evDs d ops rest (σ.put o.dst (.tup [])) K)
          else
            (let σ := σ.set t (.bool false)
             bif want then bif isBar o then none else evDs d ops rest (σ.put o.dst (.tup [])) K else evDOp E H d o σ (fun σ => evDs d ops rest σ K))
        | .tup [] => bif isBar o then none else evDs d ops rest (σ.put o.dst (.tup [])) K
        | _ => none
      | none => none

/-- A region whose order is drawn. -/
noncomputable def evDraw (d f id : Nat) (ops : Array Oper) (σ : St) (K : St → Option R) : Option R :=
  bif okDraw ops then evDs E H d ops ops.toList (doGhosts σ (E.dirs f id)) K else none

/-- d: how many frames stand below; f: the function's number. -/
noncomputable def evCode (d f : Nat) : Code → St → Kl R → Option R
  | .skip, σ, K => K .normal σ
  | .region id ops draw, σ, K => bif draw then evDraw E H d f id ops σ (K .normal) else evOps E H d ops ops.toList σ (K .normal)
  | .seq a b, σ, K => evCode d f a σ (seqK (fun σ => evCode d f b σ K) K)
  | .cond c x y, σ, K => match σ.eval c with
    | .bool b => bif b then evCode d f x σ K else evCode d f y σ K
    | _ => none
  | .block id c, σ, K => evCode d f c σ (blockK id K)
  | .loop c, σ, K => loopN d f (firstRegion c) (evCode d f c) (E.dirs f (firstRegion c)) E.fuel (doGhosts σ (E.dirs f (firstRegion c))) K
  | .exit id, σ, K => K (.exit id) σ
  | .ret, σ, K => K .ret σ
  | _, _, _ => none
end

def resultVs (tt : Nat → TI) (σ : St) : List ResultVar → Option (List V)
  | [] => some []
  | ResultVar.tmp t :: rs => match resultVs tt σ rs with
    | some vs => some (σ.get t :: vs)
    | none => none
  | ResultVar.cell t ty :: rs => match loadC σ (σ.get t) (tt ty).size, resultVs tt σ rs with
    | some cs, some vs => some (asV (tt ty).agg cs :: vs)
    | _, _ => none

def untup : V → Bool
  | .tup _ => false
  | _ => true

/-- What a function hands back. -/
def resultV (tt : Nat → TI) (σ : St) (fn : Func) : Option V :=
  match fn.results.toList with
  | [] => some (.tup [])
  | [ResultVar.tmp t] => some (σ.get t)
  | [ResultVar.cell t ty] => match loadC σ (σ.get t) (tt ty).size with
    | some cs => some (asV (tt ty).agg cs)
    | none => none
  | rs => match resultVs tt σ rs with
    | some vs => bif vs.all untup then some (.tup vs) else none
    | none => none

def entry (fn : Func) (vs : List V) : List V := vs ++ List.replicate (fn.ntmps - vs.length) .undef

/-- What follows the end of a function whose text was entered. -/
def retK {R : Type} (tt : Nat → TI) (fn : Func) (K : V → St → Option R) : Kl R := fun e σ =>
  match e with
  | .normal | .ret => match resultV tt σ fn with
    | some v => match σ.outs with
      | fr :: outs => K v { fr := fr, outs := outs, mem := σ.mem }
      | [] => none
    | none => none
  | _ => none

/-- A call: c: how deep texts may be entered, d: how many frames stand below the caller. -/
noncomputable def callD {R : Type} (E : Env) : Nat → Nat → Handler R
  | 0, _ => fun g nm vs σ K => match lookS E.sums g with
    | some s => callS s nm vs σ K
    | none => none
  | c + 1, d => fun g nm vs σ K => match lookS E.sums g with
    | some s => callS s nm vs σ K
    | none => match lookF E.inl g with
      | some fn => match fn.body with
        | some code => evCode E (callD E c (d + 1)) (d + 1) g code { fr := entry fn vs, outs := (doGhost σ (.kill (E.dead g nm))).fr :: σ.outs, mem := σ.mem } (retK E.tt fn K)
        | none => none
      | none => none

/-- What is handed back, told to a caller: rows of the call's own as such. -/
def own1 (m : List (Nat × Entry)) : V → Option V
  | .slw e => match look m e with
    | some (.row t l) => some (.own t l)
    | _ => none
  | .sl e o n => match look m e with
    | some (.row t l) => some (.own t ((l.drop o).take n))
    | _ => none
  | .int k n => some (.int k n)
  | .bool b => some (.bool b)
  | .str s => some (.str s)
  | .ro t l => some (.ro t l)
  | _ => none

def allS (f : V → Option V) : List V → Option (List V)
  | [] => some []
  | v :: vs => match f v, allS f vs with
    | some x, some xs => some (x :: xs)
    | _, _ => none

def own2 (m : List (Nat × Entry)) : V → Option V
  | .agg cs => (allS (own1 m) cs).map V.agg
  | v => own1 m v

/-- The rows that are handed back. -/
def srcs : List V → List (Nat × Nat)
  | [] => []
  | .slw e :: vs => (e, 0) :: srcs vs
  | .sl e o _ :: vs => (e, o) :: srcs vs
  | _ :: vs => srcs vs

def nodupB : List Nat → Bool
  | [] => true
  | x :: xs => !xs.contains x && nodupB xs

/-- Each of them once. -/
def give (m : List (Nat × Entry)) (v : V) : Option V :=
  bif nodupB ((srcs v.flat).map (·.1)) then (match v with
    | .tup vs => (allS (own2 m) vs).map V.tup
    | v => own2 m v) else none

/-- What follows the end of a function that is looked at as a whole. -/
def finK (tt : Nat → TI) (fn : Func) : Kl V := fun e σ =>
  match e with
  | .normal | .ret => match resultV tt σ fn with
    | some v => give σ.mem v
    | none => none
  | _ => none

/-- A function as a whole. c: how deep texts may be entered. -/
noncomputable def evFn (E : Env) (c f : Nat) (fn : Func) (vs : List V) : Option V :=
  match fn.body with
  | some code => evCode E (callD E c 0) 0 f code { fr := entry fn vs, outs := [], mem := [] } (finK E.tt fn)
  | none => none

/-! ### A loop within a function, by its path -/
/-- A step down: 0, 1: the parts of a sequence or a test, the body of a block or a loop; ops i: into the text that operation i calls. -/
inductive Step where
  | c (i : Nat) | call (i g : Nat)

/-- The loop at the end of a path, from the state σ on, with n rounds at hand; ns: those of the loops around it. -/
noncomputable def atPath {R : Type} (E : Env) (n : Nat) (σ : St) : (c d f : Nat) → List Step → List Nat → Code → Kl R → Option R
  | c, d, f, [], _, .loop b, K => loopN d f (firstRegion b) (evCode E (callD E c d) d f b) (E.dirs f (firstRegion b)) n σ K
  | c, d, f, .c 0 :: p, ns, .seq a b, K => atPath E n σ c d f p ns a (seqK (fun σ => evCode E (callD E c d) d f b σ K) K)
  | c, d, f, .c 1 :: p, ns, .seq _ b, K => atPath E n σ c d f p ns b K
  | c, d, f, .c 0 :: p, ns, .cond _ x _, K => atPath E n σ c d f p ns x K
  | c, d, f, .c 1 :: p, ns, .cond _ _ y, K => atPath E n σ c d f p ns y K
  | c, d, f, .c 0 :: p, ns, .block id x, K => atPath E n σ c d f p ns x (blockK id K)
  | c, d, f, .c 0 :: p, m :: ns, .loop b, K => atPath E n σ c d f p ns b (seqK (fun σ' => loopN d f (firstRegion b) (evCode E (callD E c d) d f b) (E.dirs f (firstRegion b)) m (doGhosts σ' (E.dirs f (firstRegion b))) K) K)
  | c + 1, d, _, .call i g :: p, ns, .region _ ops _, K => match lookF E.inl g with
    | some fn => match fn.body with
      | some code => atPath E n σ c (d + 1) g p ns code (retK E.tt fn (putK ((ops[i]?).bind (·.dst)) fun σ => evOps E (callD E (c + 1) d) d ops (ops.toList.drop (i + 1)) σ (K .normal)))
      | none => none
    | none => none
  | _, _, _, _, _, _, _ => none

end Go.Proofs.Ytiboikgoaihccaa.R
