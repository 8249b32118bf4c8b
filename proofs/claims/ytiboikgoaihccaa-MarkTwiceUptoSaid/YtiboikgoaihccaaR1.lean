/-
An evaluator over abstract values for the bodies of translated functions: typed pure data, rows and boxes that a call owns. No program in sight.
-/
import Derived.Calls
import Derived.Orders
namespace Go.Proofs.Ytiboikgoaihccaa.R

/-- Codes of pure data. 'pair' and 'one' are structs (one: of one field); their cells lie flat. -/
inductive Ty where
  | int (k : IntKind) | bool | str | list (a : Ty) | pair (a b : Ty) | one (a : Ty)
  deriving DecidableEq, Inhabited

@[reducible] def Ty.den : Ty → Type
  | .int _ => Int
  | .bool => Bool
  | .str => ByteArray
  | .list a => List a.den
  | .pair a b => a.den × b.den
  | .one a => a.den

def Ty.size : Ty → Nat
  | .pair a b => a.size + b.size
  | .one a => a.size
  | _ => 1

def Ty.agg : Ty → Bool
  | .pair _ _ | .one _ => true
  | _ => false

def dflt : (t : Ty) → t.den
  | .int _ => (0 : Int)
  | .bool => false
  | .str => ByteArray.empty
  | .list _ => []
  | .pair a b => (dflt a, dflt b)
  | .one a => dflt a

/-- Element number i of a list (within its bounds). -/
def rd (t : Ty) (l : List t.den) (i : Int) : t.den := l.getD i.toNat (dflt t)

inductive V where
  | int (k : IntKind) (n : Int) | bool (b : Bool) | str (s : ByteArray)
  | ro (t : Ty) (l : List t.den)
  | own (t : Ty) (l : List t.den)
  | nil | nilp | undef
  | slw (e : Nat) | sl (e off len : Nat)
  | ptr (e i o : Nat)
  | rop (cs : List V)
  | fn (f : Nat) (caps : List V)
  | agg (cs : List V) | tup (vs : List V)
  deriving Inhabited

def V.cells : V → List V
  | .agg cs => cs
  | v => [v]

def enc : (t : Ty) → t.den → List V
  | .int k, n => [.int k n]
  | .bool, b => [.bool b]
  | .str, s => [.str s]
  | .list a, l => [.ro a l]
  | .pair a b, x => enc a x.1 ++ enc b x.2
  | .one a, x => enc a x

/-- Cells as one value. -/
def asV (agg : Bool) (cs : List V) : V :=
  bif agg then .agg cs else match cs with
    | [v] => v
    | _ => .undef

def encV (t : Ty) (x : t.den) : V := asV t.agg (enc t x)

def dec : (t : Ty) → List V → Option (t.den × List V)
  | .int k, .int k' n :: r => if k' = k then some (n, r) else none
  | .bool, .bool b :: r => some (b, r)
  | .str, .str s :: r => some (s, r)
  | .list _, .nil :: r => some ([], r)
  | .list a, .ro a' l :: r => if h : a' = a then some (h ▸ l, r) else none
  | .pair a b, cs =>
    match dec a cs with
    | some (x, r) => match dec b r with
      | some (y, r') => some ((x, y), r')
      | none => none
    | none => none
  | .one a, cs => dec a cs
  | _, _ => none

def decAll (t : Ty) (cs : List V) : Option t.den :=
  match dec t cs with
  | some (x, []) => some x
  | _ => none

inductive Entry where
  | row (t : Ty) (l : List t.den)
  | box (cs : List V)
  deriving Inhabited

structure St where
  fr : List V
  outs : List (List V)
  mem : List (Nat × Entry)
  deriving Inhabited

def look : List (Nat × Entry) → Nat → Option Entry
  | [], _ => none
  | (k, x) :: m, e => bif k == e then some x else look m e

def dropE : List (Nat × Entry) → Nat → List (Nat × Entry)
  | [], _ => []
  | (k, x) :: m, e => bif k == e then dropE m e else (k, x) :: dropE m e

def setE (m : List (Nat × Entry)) (e : Nat) (x : Entry) : List (Nat × Entry) := (e, x) :: dropE m e

/-- In place, if it is there. -/
def updE : List (Nat × Entry) → Nat → Entry → List (Nat × Entry)
  | [], _, _ => []
  | (k, x) :: m, e, y => bif k == e then (k, y) :: m else (k, x) :: updE m e y

def V.mapC (g : V → V) : V → V
  | .fn f caps => .fn f (caps.map g)
  | v => g v

def V.mapA (g : V → V) : V → V
  | .agg cs => .agg (cs.map (V.mapC g))
  | v => v.mapC g

def V.map1 (g : V → V) : V → V
  | .tup vs => .tup (vs.map (V.mapA g))
  | v => v.mapA g

def Entry.map1 (g : V → V) : Entry → Entry
  | .row t l => .row t l
  | .box cs => .box (cs.map (V.mapC g))

def St.map1 (g : V → V) (σ : St) : St :=
  { fr := σ.fr.map (V.map1 g), outs := σ.outs.map (List.map (V.map1 g)), mem := σ.mem.map fun p => (p.1, p.2.map1 g) }

def killV (e : Nat) : V → V
  | .slw e' => bif e' == e then .undef else .slw e'
  | .sl e' o n => bif e' == e then .undef else .sl e' o n
  | .ptr e' i o => bif e' == e then .undef else .ptr e' i o
  | v => v

def frzV (e : Nat) (t : Ty) (l : List t.den) : V → V
  | .slw e' => bif e' == e then .ro t l else .slw e'
  | .sl e' o n => bif e' == e then .ro t ((l.drop o).take n) else .sl e' o n
  | .ptr e' i o => bif e' == e then .undef else .ptr e' i o
  | v => v

/-- e is called e2; what was called e2 dies. -/
def renV (e e2 : Nat) : V → V
  | .slw e' => bif e' == e then .slw e2 else bif e' == e2 then .undef else .slw e'
  | .sl e' o n => bif e' == e then .sl e2 o n else bif e' == e2 then .undef else .sl e' o n
  | .ptr e' i o => bif e' == e then .ptr e2 i o else bif e' == e2 then .undef else .ptr e' i o
  | v => v

/-- A reference to a part of a row becomes the whole of what is left of it; all others die. -/
def rebV (e o n : Nat) : V → V
  | .sl e' o' n' => bif e' == e then (bif o' == o && n' == n then .slw e else .undef) else .sl e' o' n'
  | v => killV e v

/-- Entry e is no more; references to it die. -/
def St.kill (σ : St) (e : Nat) : St :=
  let σ := { σ with mem := dropE σ.mem e }
  σ.map1 (killV e)

/-- Row e is read-only from here on. -/
def St.frz (σ : St) (e : Nat) : St :=
  match look σ.mem e with
  | some (.row t l) =>
    let σ := { σ with mem := dropE σ.mem e }
    σ.map1 (frzV e t l)
  | _ => σ

def St.ren (σ : St) (e e2 : Nat) : St :=
  match look σ.mem e with
  | some x =>
    bif e == e2 then σ else
      let σ := St.map1 (renV e e2) { σ with mem := dropE (dropE σ.mem e) e2 }
      { σ with mem := (e2, x.map1 (renV e e2)) :: σ.mem }
  | none => σ

/-- The name e is free. -/
def St.clear (σ : St) (e : Nat) : St := bif (look σ.mem e).isSome then σ.kill e else σ

/-- A fresh entry under the name e. -/
def St.new (σ : St) (e : Nat) (x : Entry) : St :=
  let σ := σ.clear e
  { σ with mem := (e, x) :: σ.mem }

/-- Entry e gives way to an entry under the name nm. -/
def St.repl (σ : St) (e nm : Nat) (x : Entry) : St :=
  let σ := (bif e == nm then σ else σ.kill e).kill nm
  { σ with mem := (nm, x) :: σ.mem }

def refE : V → Option Nat
  | .slw e => some e
  | .sl e _ _ => some e
  | .ptr e _ _ => some e
  | _ => none

/-- A value as pure data, for a reader: what refers to rows becomes what they hold now. -/
def pure1 (σ : St) : V → V
  | .slw e => match look σ.mem e with
    | some (.row t l) => .ro t l
    | _ => .undef
  | .sl e o n => match look σ.mem e with
    | some (.row t l) => .ro t ((l.drop o).take n)
    | _ => .undef
  | .int k n => .int k n
  | .bool b => .bool b
  | .str s => .str s
  | .ro t l => .ro t l
  | .nil => .nil
  | .nilp => .nilp
  | .rop cs => .rop cs
  | _ => .undef

def pureV (σ : St) : V → V
  | .agg cs => .agg (cs.map (pure1 σ))
  | v => pure1 σ v

def frz1 (σ : St) : V → St
  | .slw e => σ.frz e
  | .sl e _ _ => σ.frz e
  | _ => σ

/-- All rows to which these cells refer are read-only from here on. -/
def St.frzAll (σ : St) : List V → St
  | [] => σ
  | v :: vs => (frz1 σ v).frzAll vs

def St.get (σ : St) (t : Nat) : V := σ.fr.getD t .undef
def St.set (σ : St) (t : Nat) (v : V) : St := { σ with fr := σ.fr.set t v }
def St.put (σ : St) (d : Option Nat) (v : V) : St :=
  match d with
  | some t => σ.set t v
  | none => σ

/-- A constant of the program's text. -/
def ofValue1 : Value → V
  | .int k n => .int k n
  | .bool b => .bool b
  | .string s => .str s
  | .slice none 0 0 => .nil
  | .pointer none => .nilp
  | _ => .undef

def ofValue : Value → V
  | .agg cs => .agg (cs.toList.map ofValue1)
  | v => ofValue1 v

def St.eval (σ : St) : Operand → V
  | .tmp t => σ.get t
  | .const v => ofValue v
  | .func f => .fn f []
  | .global _ => .undef

/-! ### What the program's table tells of a type -/
inductive TK where
  | int (k : IntKind) | bool | str | slice (e : TypeId) | struct (fs : List (Nat × TypeId)) | array (n : Nat) (e : TypeId) | ptr (e : TypeId) | other
  deriving Inhabited

structure TI where
  size : Nat
  bytes : Nat
  agg : Bool
  kind : TK
  zero : List V
  eqs : Bool
  ty : Option Ty
  deriving Inhabited

/-! ### What can be seen of a function by its callers -/
structure Summ : Type 1 where
  rt : Type
  call : List V → Option rt
  res : rt → V

inductive Ghost where
  | kill (slots : List Nat) | frz (slot cell : Nat) | reb (slot : Nat) | ren (e e2 : Nat) | drop (e : Nat) | keep (es : List Nat) | nameS (slot cell e2 : Nat) | only (es : List Nat) | tidy
  deriving Inhabited

structure Env : Type 1 where
  tt : Nat → TI
  sums : List (Nat × Summ)
  inl : List (Nat × Func)
  dirs : Nat → Nat → List Ghost
  dead : Nat → Nat → List Nat
  fuel : Nat

def lookS : List (Nat × Summ) → Nat → Option Summ
  | [], _ => none
  | (k, x) :: m, e => bif k == e then some x else lookS m e

def lookF : List (Nat × Func) → Nat → Option Func
  | [], _ => none
  | (k, x) :: m, e => bif k == e then some x else lookF m e

end Go.Proofs.Ytiboikgoaihccaa.R
