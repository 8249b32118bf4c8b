import Derived.Calls
import Derived.Orders
import Derived.Below
import Derived.Laws.Rows
import Derived.Laws.IdiomCopy
import Derived.Deep.MidRow
import Derived.Laws.Tables
import Derived.Laws.CopyRow
import Derived.Laws.MakeOwn
import Derived.Laws.AppendOwn
import Derived.Laws.Entries
import Derived.Laws.Append
namespace Go.Proofs.YtkflbkcfabnomaaGreat.R
set_option linter.unusedVariables false
set_option linter.unusedSimpArgs false
section
theorem dT {p:Prop} [Decidable p] (h:p):decide p=true:=decide_eq_true h
theorem dF {p:Prop} [Decidable p] (h:¬p):decide p=false:=decide_eq_false h
theorem oD {p:Prop} [Decidable p] (h:decide p=true):p:=of_decide_eq_true h
theorem gE {α:Type _} {l:List α} {i:Nat} (h:i<l.length):l[i]? = some l[i]:=List.getElem?_eq_getElem h
theorem sI {α:Type _} (a b:α):(some a=some b)=(a=b):=Option.some.injEq a b
theorem bA (a b:Bool):((a&&b)=true)=(a=true∧b=true):=Bool.and_eq_true a b
theorem oJ {α:Type _} {a b:α} (h:some a=some b):a=b:=Option.some.inj h
theorem tA (b:Bool):(true&&b)=b:=Bool.true_and b
theorem fA (b:Bool):(false&&b)=false:=Bool.false_and b
theorem nT:(!true)=false:=Bool.not_true
theorem nF:(!false)=true:=Bool.not_false
theorem lA {α:Type _} {a b:List α}:(a++b).length=a.length+b.length:=List.length_append
theorem dE {p:Prop} [Decidable p]:(decide p=true)=p:=decide_eq_true_eq
inductive Ty where
 |int (k:IntKind)|bool|str|list (a:Ty)|pair (a b:Ty)|one (a:Ty)
 deriving DecidableEq,Inhabited
@[reducible] def Ty.den:Ty→Type
 |.int _=>Int
 |.bool=>Bool
 |.str=>ByteArray
 |.list a=>List a.den
 |.pair a b=>a.den×b.den
 |.one a=>a.den
def Ty.size:Ty→Nat
 |.pair a b=>a.size+b.size
 |.one a=>a.size
 |_=>1
def Ty.agg:Ty→Bool
 |.pair _ _|.one _=>true
 |_=>false
def dflt:(t:Ty)→t.den
 |.int _=>(0:Int)
 |.bool=>false
 |.str=>ByteArray.empty
 |.list _=>[]
 |.pair a b=>(dflt a,dflt b)
 |.one a=>dflt a
def rd (t:Ty) (l:List t.den) (i:Int):t.den:=l.getD i.toNat (dflt t)
inductive V where
 |int (k:IntKind) (n:Int)|bool (b:Bool)|str (s:ByteArray)
 |ro (t:Ty) (l:List t.den)
 |own (t:Ty) (l:List t.den)
 |nil|nilp|undef
 |slw (e:Nat)|sl (e off len:Nat)
 |ptr (e i o:Nat)
 |rop (cs:List V)
 |fn (f:Nat) (caps:List V)
 |agg (cs:List V)|tup (vs:List V)
 deriving Inhabited
def V.cells:V→List V
 |.agg cs=>cs
 |v=>[v]
def enc:(t:Ty)→t.den→List V
 |.int k,n=>[.int k n]
 |.bool,b=>[.bool b]
 |.str,s=>[.str s]
 |.list a,l=>[.ro a l]
 |.pair a b,x=>enc a x.1++enc b x.2
 |.one a,x=>enc a x
def asV (agg:Bool) (cs:List V):V :=
 bif agg then .agg cs else match cs with
  | [v]=>v
  |_=>.undef
def encV (t:Ty) (x:t.den):V:=asV t.agg (enc t x)
def dec:(t:Ty)→List V→Option (t.den×List V)
 |.int k,.int k' n::r=>if k'=k then some (n,r) else none
 |.bool,.bool b::r=>some (b,r)
 |.str,.str s::r=>some (s,r)
 |.list _,.nil::r=>some ([],r)
 |.list a,.ro a' l::r=>if h:a'=a then some (h▸l,r) else none
 |.pair a b,cs =>
  match dec a cs with
  |some (x,r)=>match dec b r with
   |some (y,r')=>some ((x,y),r')
   |none=>none
  |none=>none
 |.one a,cs=>dec a cs
 |_,_=>none
def decAll (t:Ty) (cs:List V):Option t.den :=
 match dec t cs with
 |some (x,[])=>some x
 |_=>none
inductive Entry where
 |row (t:Ty) (l:List t.den)
 |box (cs:List V)
 |nest (t:Ty) (ll:List (List t.den)) (k:Option Nat)
 deriving Inhabited
structure St where
 fr:List V
 outs:List (List V)
 mem:List (Nat×Entry)
 deriving Inhabited
def look:List (Nat×Entry)→Nat→Option Entry
 | [],_=>none
 |(k,x)::m,e=>bif k==e then some x else look m e
def dropE:List (Nat×Entry)→Nat→List (Nat×Entry)
 | [],_=>[]
 |(k,x)::m,e=>bif k==e then dropE m e else (k,x)::dropE m e
def updE:List (Nat×Entry)→Nat→Entry→List (Nat×Entry)
 | [],_,_=>[]
 |(k,x)::m,e,y=>bif k==e then (k,y)::m else (k,x)::updE m e y
def V.mapC (g:V→V):V→V
 |.fn f caps=>.fn f (caps.map g)
 |v=>g v
def V.mapA (g:V→V):V→V
 |.agg cs=>.agg (cs.map (V.mapC g))
 |v=>v.mapC g
def V.map1 (g:V→V):V→V
 |.tup vs=>.tup (vs.map (V.mapA g))
 |v=>v.mapA g
def Entry.map1 (g:V→V):Entry→Entry
 |.row t l=>.row t l
 |.box cs=>.box (cs.map (V.mapC g))
 |.nest t ll k=>.nest t ll k
def St.map1 (g:V→V) (σ:St):St :=
 { fr:=σ.fr.map (V.map1 g),outs:=σ.outs.map (List.map (V.map1 g)),mem:=σ.mem.map fun (e,x)=>(e,x.map1 g) }
def killV (e:Nat):V→V
 |.slw e'=>bif e'==e then .undef else .slw e'
 |.sl e' o n=>bif e'==e then .undef else .sl e' o n
 |.ptr e' i o=>bif e'==e then .undef else .ptr e' i o
 |v=>v
def frzV (e:Nat) (t:Ty) (l:List t.den):V→V
 |.slw e'=>bif e'==e then .ro t l else .slw e'
 |.sl e' o n=>bif e'==e then .ro t ((l.drop o).take n) else .sl e' o n
 |.ptr e' i o=>bif e'==e then .undef else .ptr e' i o
 |v=>v
def renV (e e2:Nat):V→V
 |.slw e'=>bif e'==e then .slw e2 else bif e'==e2 then .undef else .slw e'
 |.sl e' o n=>bif e'==e then .sl e2 o n else bif e'==e2 then .undef else .sl e' o n
 |.ptr e' i o=>bif e'==e then .ptr e2 i o else bif e'==e2 then .undef else .ptr e' i o
 |v=>v
def rebV (e o n:Nat):V→V
 |.sl e' o' n'=>bif e'==e then (bif o'==o&&n'==n then .slw e else .undef) else .sl e' o' n'
 |v=>killV e v
def St.kill (σ:St) (e:Nat):St :=
 let σ:={ σ with mem:=dropE σ.mem e }
 σ.map1 (killV e)
def St.frz (σ:St) (e:Nat):St :=
 match look σ.mem e with
 |some (.row t l) =>
  let σ:={ σ with mem:=dropE σ.mem e }
  σ.map1 (frzV e t l)
 |_=>σ
def St.ren (σ:St) (e e2:Nat):St :=
 match look σ.mem e with
 |some x =>
  bif e==e2 then σ else
   let σ:=St.map1 (renV e e2) { σ with mem:=dropE (dropE σ.mem e) e2 }
   { σ with mem:=(e2,x.map1 (renV e e2))::σ.mem }
 |none=>σ
def St.clear (σ:St) (e:Nat):St:=bif (look σ.mem e).isSome then σ.kill e else σ
def St.new (σ:St) (e:Nat) (x:Entry):St :=
 let σ:=σ.clear e
 { σ with mem:=(e,x)::σ.mem }
def St.repl (σ:St) (e nm:Nat) (x:Entry):St :=
 let σ:=(bif e==nm then σ else σ.kill e).kill nm
 { σ with mem:=(nm,x)::σ.mem }
def refE:V→Option Nat
 |.slw e=>some e
 |.sl e _ _=>some e
 |.ptr e _ _=>some e
 |_=>none
def pure1 (σ:St):V→V
 |.slw e=>match look σ.mem e with
  |some (.row t l)=>.ro t l
  |_=>.undef
 |.sl e o n=>match look σ.mem e with
  |some (.row t l)=>.ro t ((l.drop o).take n)
  |_=>.undef
 |.int k n=>.int k n
 |.bool b=>.bool b
 |.str s=>.str s
 |.ro t l=>.ro t l
 |.nil=>.nil
 |.nilp=>.nilp
 |.rop cs=>.rop cs
 |_=>.undef
def pureV (σ:St):V→V
 |.agg cs=>.agg (cs.map (pure1 σ))
 |v=>pure1 σ v
def frz1 (σ:St):V→St
 |.slw e=>σ.frz e
 |.sl e _ _=>σ.frz e
 |_=>σ
def St.frzAll (σ:St):List V→St
 | []=>σ
 |v::vs=>(frz1 σ v).frzAll vs
def St.get (σ:St) (t:Nat):V:=σ.fr.getD t .undef
def St.set (σ:St) (t:Nat) (v:V):St:={ σ with fr:=σ.fr.set t v }
def St.put (σ:St) (d:Option Nat) (v:V):St :=
 match d with
 |some t=>σ.set t v
 |none=>σ
def ofValue1:Value→V
 |.int k n=>.int k n
 |.bool b=>.bool b
 |.string s=>.str s
 |.slice none 0 0=>.nil
 |.pointer none=>.nilp
 |_=>.undef
def ofValue:Value→V
 |.agg cs=>.agg (cs.toList.map ofValue1)
 |v=>ofValue1 v
def St.eval (σ:St):Operand→V
 |.tmp t=>σ.get t
 |.const v=>ofValue v
 |.func f=>.fn f []
 |.global _=>.undef
inductive TK where
 |int (k:IntKind)|bool|str|slice (e:TypeId)|struct (fs:List (Nat×TypeId))|array (n:Nat) (e:TypeId)|ptr (e:TypeId)|other
 deriving Inhabited
structure TI where
 size:Nat
 bytes:Nat
 agg:Bool
 kind:TK
 zero:List V
 eqs:Bool
 ty:Option Ty
 deriving Inhabited
structure Mut where
 t:Ty
 f:List t.den→Option (List t.den)
 n:Option (List t.den→Nat)
structure Summ:Type 1 where
 rt:Type
 call:List V→Option rt
 res:rt→V
 alt:Option Mut:=none
inductive Ghost where
 |kill (slots:List Nat)|frz (slot cell:Nat)|reb (slot:Nat)|ren (e e2:Nat)|drop (e:Nat)|keep (es:List Nat)|nameS (slot cell e2:Nat)|only (es:List Nat)|tidy|nil1 (s c nm:Nat) (t:Ty)
 deriving Inhabited
structure Env:Type 1 where
 tt:Nat→TI
 sums:List (Nat×Summ)
 inl:List (Nat×Func)
 dirs:Nat→Nat→List Ghost
 dead:Nat→Nat→List Nat
 fuel:Nat
def lookS:List (Nat×Summ)→Nat→Option Summ
 | [],_=>none
 |(k,x)::m,e=>bif k==e then some x else lookS m e
def lookF:List (Nat×Func)→Nat→Option Func
 | [],_=>none
 |(k,x)::m,e=>bif k==e then some x else lookF m e
def chk {R:Type} (b:Bool) (x:Option R):Option R:=bif b then x else none
def chks {R:Type}:List Bool→Option R→Option R
 | [],x=>x
 |b::bs,x=>chk b (chks bs x)
def bitsI (op:BinOp) (k:IntKind) (x y:Int):Int :=
 let a:=BitVec.ofInt k.bits x
 let b:=BitVec.ofInt k.bits y
 k.wrap (match op with
  |.and=>a &&& b
  |.or=>a ||| b
  |.xor=>a ^^^ b
  |_=>a &&& ~~~b).toNat
def byteAt (s:ByteArray) (i:Int):Int:=((s.data.toList.getD i.toNat 0).toNat:Int)
def eqCells:List V→List V→List V→Option Bool
 | [],[],[]=>some true
 |.int k _::zs,.int k1 a::xs,.int k2 b::ys=>if k1=k∧k2=k then (match eqCells zs xs ys with
  |some r=>some (a==b&&r)
  |none=>none) else none
 |.bool _::zs,.bool a::xs,.bool b::ys=>match eqCells zs xs ys with
  |some r=>some (a==b&&r)
  |none=>none
 |.str _::zs,.str a::xs,.str b::ys=>match eqCells zs xs ys with
  |some r=>some (a==b&&r)
  |none=>none
 |_,_,_=>none
abbrev Ans:=Option (List Bool×V×St)
def pureA (v:V) (σ:St):Ans:=some ([],v,σ)
def binI (op:BinOp) (k:IntKind) (a b:Int) (σ:St):Ans :=
 match op with
 |.add=>pureA (.int k (k.wrap (a+b))) σ
 |.sub=>pureA (.int k (k.wrap (a - b))) σ
 |.mul=>pureA (.int k (k.wrap (a*b))) σ
 |.quo=>some ([!(b==0)],.int k (k.wrap (a.tdiv b)),σ)
 |.rem=>some ([!(b==0)],.int k (a.tmod b),σ)
 |.and=>pureA (.int k (bitsI .and k a b)) σ
 |.or=>pureA (.int k (bitsI .or k a b)) σ
 |.xor=>pureA (.int k (bitsI .xor k a b)) σ
 |.andNot=>pureA (.int k (bitsI .andNot k a b)) σ
 |.eql=>pureA (.bool (a==b)) σ
 |.neq=>pureA (.bool (a != b)) σ
 |.lss=>pureA (.bool (decide (a<b))) σ
 |.leq=>pureA (.bool (decide (a≤b))) σ
 |.gtr=>pureA (.bool (decide (a>b))) σ
 |.geq=>pureA (.bool (decide (a ≥ b))) σ
 |_=>none
def binA (E:Env) (op:BinOp) (t:TypeId) (x y:V) (σ:St):Ans :=
 match x,y with
 |.int k a,.int yk b =>
  match op with
  |.shl=>some ([decide (0≤b)],.int k (k.wrap (a*2 ^ (min b.toNat k.bits))),σ)
  |.shr=>some ([decide (0≤b)],.int k (a.fdiv (2 ^ (min b.toNat k.bits))),σ)
  |_=>if k=yk then binI op k a b σ else none
 |.bool a,.bool b =>
  match (E.tt t).kind,op with
  |.bool,.eql=>pureA (.bool (a==b)) σ
  |.bool,.neq=>pureA (.bool (!(a==b))) σ
  |_,_=>none
 |.str a,.str b =>
  match op with
  |.add=>some ([decide (a.size+b.size≤9223372036854775807)],.str (a++b),σ)
  |.eql=>pureA (.bool (a==b)) σ
  |.neq=>pureA (.bool (!(a==b))) σ
  |_=>none
 |.agg xs,.agg ys =>
  match (E.tt t).eqs,eqCells (E.tt t).zero xs ys,op with
  |true,some r,.eql=>pureA (.bool r) σ
  |true,some r,.neq=>pureA (.bool (!r)) σ
  |_,_,_=>none
 |.ptr _ _ _,.nilp|.nilp,.ptr _ _ _ =>
  match (E.tt t).kind,op with
  |.ptr _,.eql=>pureA (.bool false) σ
  |.ptr _,.neq=>pureA (.bool true) σ
  |_,_=>none
 |.nilp,.nilp =>
  match (E.tt t).kind,op with
  |.ptr _,.eql=>pureA (.bool true) σ
  |.ptr _,.neq=>pureA (.bool false) σ
  |_,_=>none
 |_,_=>none
def loadC (σ:St) (p:V) (n:Nat):Option (List V) :=
 match p with
 |.rop cs=>bif n.ble cs.length&&Nat.blt 0 n then some (cs.take n) else none
 |.ptr e i o =>
  match look σ.mem e with
  |some (.row t l) =>
   let cs:=(enc t (rd t l i)).drop o
   bif n.ble cs.length&&Nat.blt 0 n then some (cs.take n) else none
  |some (.box cs) =>
   let cs:=cs.drop o
   bif n.ble cs.length&&Nat.blt 0 n then some (cs.take n) else none
  |some (.nest _ ll none)=>bif n==1 then some [.sl e i (ll.getD i []).length] else none
  |_=>none
 |_=>none
def known:List V→Bool
 | []=>true
 |v::vs=>match v with
  |.undef|.own _ _|.agg _|.tup _=>false
  |_=>known vs
def storeC (σ:St) (p:V) (n:Nat) (v:V):Option St :=
 let vs:=v.cells
 bif n==vs.length&&Nat.blt 0 n&&known vs then
  match p with
  |.ptr e i o =>
   match look σ.mem e with
   |some (.row _ _) =>
    let σ':=σ.frzAll vs
    match look σ'.mem e with
    |some (.row t l) =>
     let cs:=enc t (rd t l i)
     match decAll t (cs.take o++vs.map (pure1 σ)++cs.drop (o+n)) with
     |some x=>some { σ' with mem:=updE σ'.mem e (.row t (l.set i x)) }
     |none=>none
    |_=>none
   |some (.box cs) =>
    bif (o+n).ble cs.length then some { σ with mem:=updE σ.mem e (.box (cs.take o++vs++cs.drop (o+n))) } else none
   |_=>none
  |_=>none
 else none
def killSl (e:Nat):V→V
 |.sl e' o n=>bif e'==e then .undef else .sl e' o n
 |v=>v
def giveN (σ:St) (p:V) (n:Nat) (v:V):Option (Bool×St) :=
 match p with
 |.ptr e i _=>match look σ.mem e with
  |some (.nest t ll (some j))=>match v with
   |.slw en=>match look σ.mem en with
    |some (.row t' l)=>if h:t'=t then bif n==1 then some (Nat.beq j i,St.kill { σ with mem:=updE σ.mem e (.nest t (ll.set i (h▸l)) none) } en) else none else none
    |_=>none
   |_=>none
  |_=>none
 |_=>none
def takeN (σ:St) (nm:Nat) (v:V):Option St :=
 match v with
 |.sl e o _=>match look σ.mem e with
  |some (.nest t ll none)=>bif e==nm then none else
   let τ:=(σ.clear nm).map1 (killSl e)
   some { τ with mem:=(nm,.row t (ll.getD o []))::updE τ.mem e (.nest t ll (some o)) }
  |_=>none
 |_=>none
def unnest (σ:St) (v:V):St :=
 match v with
 |.slw e=>match look σ.mem e with
  |some (.nest t ll none) =>
   let τ:=σ.map1 (killSl e)
   { τ with mem:=updE τ.mem e (.row (.list t) ll) }
  |_=>σ
 |_=>σ
def rowOf (σ:St) (t:Ty) (v:V):Option (List t.den) :=
 decAll (.list t) [pure1 σ v]
def lenV (σ:St):V→Option Int
 |.ro _ l=>some (l.length:Int)
 |.nil=>some 0
 |.str s=>some (s.size:Int)
 |.slw e=>match look σ.mem e with
  |some (.row _ l)=>some (l.length:Int)
  |some (.box cs)=>some (cs.length:Int)
  |some (.nest _ ll _)=>some (ll.length:Int)
  |none=>none
 |.sl _ _ n=>some (n:Int)
 |_=>none
def bound (σ:St):Option Operand→Option (Option Int)
 |none=>some none
 |some o=>match σ.eval o with
  |.int _ n=>some (some n)
  |_=>none
def sliceStr (s:ByteArray) (lo hi:Option Int) (σ:St):Ans :=
 let b:=hi.getD s.size
 let a:=lo.getD 0
 some ([decide (0≤a∧a≤b),decide (b≤s.size)],.str (s.extract a.toNat b.toNat),σ)
def cutA (lo hi:Option Int) (n m:Nat) (mk:Nat→Nat→V) (σ:St):Ans :=
 let b:=hi.getD n
 let a:=lo.getD 0
 some ([decide (0≤a∧a≤b),decide (b≤m)],mk a.toNat (b.toNat - a.toNat),σ)
def sliceA (sz:Nat) (x:V) (lo hi:Option Int) (σ:St):Ans :=
 match x with
 |.ro t l=>bif t.size==sz then cutA lo hi l.length l.length (fun o n=>.ro t ((l.drop o).take n)) σ else none
 |.slw e =>
  match look σ.mem e with
  |some (.row t l)=>bif t.size==sz then cutA lo hi l.length l.length (fun o n=>.sl e o n) σ else none
  |_=>none
 |.sl e o n =>
  match look σ.mem e with
  |some (.row t l)=>bif t.size==sz then cutA lo hi n (l.length - o) (fun o' n'=>.sl e (o+o') n') σ else none
  |_=>none
 |_=>none
def clipA (sz:Nat) (x:V) (lo:Option Int) (b c:Int) (σ:St):Ans :=
 match x with
 |.nil=>some ([Nat.blt 0 sz,decide (lo.getD 0=0),decide (b=0),decide (c=0)],.nil,σ)
 |.slw e =>
  match look σ.mem e with
  |some (.row t l)=>bif t.size==sz then some ([decide (lo.getD 0=0),decide (b=l.length),decide (c=l.length)],.slw e,σ) else none
  |_=>none
 |.sl e o n =>
  match look σ.mem e with
  |some (.row t l) =>
   let σ':=σ.map1 (rebV e o n)
   bif t.size==sz then some ([decide (lo.getD 0=0),decide (b=n),decide (c=n)],.slw e,{ σ' with mem:=updE σ'.mem e (.row t ((l.drop o).take n)) }) else none
  |_=>none
 |_=>none
def boundsA (sz:Nat) (x:V) (lo:Option Int) (b c:Int) (σ:St):Ans :=
 match x with
 |.slw e =>
  match look σ.mem e with
  |some (.row t l)=>bif t.size==sz then some ([decide (0≤lo.getD 0∧lo.getD 0≤b),decide (b≤c),decide (c≤l.length)],.undef,σ) else none
  |_=>none
 |_=>none
def ownRow (σ:St) (t:Ty):V→Option (List t.den×Option Nat)
 |.nil=>some ([],none)
 |.slw e=>match look σ.mem e with
  |some (.row t' l)=>if h:t'=t then some (h▸l,some e) else none
  |_=>none
 |.sl e o n=>match look σ.mem e with
  |some (.row t' l)=>if h:t'=t then some (((h▸l:List t.den).drop o).take n,some e) else none
  |_=>none
 |_=>none
def appendB (E:Env) (nm:Nat) (st:TypeId) (s x:V) (σ:St):Ans :=
 match (E.tt st).kind with
 |.slice e =>
  match (E.tt e).ty with
  |some t =>
   match ownRow σ t s,rowOf σ t x with
   |some (l,e?),some xs =>
    let r:=l++xs
    some ([Nat.blt 0 (E.tt e).bytes,decide (r.length*(E.tt e).bytes≤140737488355328)],.slw nm,match e? with
     |some en=>σ.repl en nm (.row t r)
     |none=>σ.new nm (.row t r))
   |_,_=>none
  |none=>none
 |_=>none
def appendIn (E:Env) (st:TypeId) (s x:V) (σ:St):Ans :=
 match (E.tt st).kind,s with
 |.slice e,.sl en off n =>
  match (E.tt e).ty,look σ.mem en with
  |some t,some (.row t' l)=>if h:t'=t then (match rowOf σ t x with
   |some xs=>some ([Nat.blt 0 (E.tt e).bytes,decide (off+n+xs.length≤l.length)],.sl en off (n+xs.length),{ σ with mem:=updE σ.mem en (.row t ((h▸l:List t.den).take (off+n)++xs++(h▸l:List t.den).drop (off+n+xs.length))) })
   |none=>none) else none
  |_,_=>none
 |_,_=>none
def appendA (E:Env) (nm:Nat) (st:TypeId) (s x:V) (σ:St):Ans :=
 bif !(E.dirs 0 nm).isEmpty then appendIn E st s x σ else
 match takeN σ (nm+9) s with
 |some σ'=>match s with
  |.sl e _ _=>appendB E nm st (.slw (nm+9)) ((x.map1 (killV (nm+9))).map1 (killSl e)) σ'
  |_=>none
 |none=>appendB E nm st s x σ
def Ty.flat:Ty→Bool
 |.list _=>false
 |.pair a b=>a.flat&&b.flat
 |.one a=>a.flat
 |_=>true
def partRow (σ:St) (t:Ty):V→Option (List t.den×Nat×Nat×Nat)
 |.slw e=>match look σ.mem e with
  |some (.row t' l)=>if h:t'=t then some (h▸l,e,0,l.length) else none
  |_=>none
 |.sl e o n=>match look σ.mem e with
  |some (.row t' l)=>if h:t'=t then some (h▸l,e,o,n) else none
  |_=>none
 |_=>none
def copyL {α:Type} (l xs:List α) (off n:Nat):List α:=l.take off++xs.take (min xs.length n)++l.drop (off+(xs.take (min xs.length n)).length)
def copyA (E:Env) (st:TypeId) (d x:V) (σ:St):Ans :=
 match (E.tt st).kind with
 |.slice e =>
  match (E.tt e).ty with
  |some t=>bif t.flat&&t.size==1 then (match partRow σ t d,rowOf σ t x with
   |some (l,en,off,n),some xs=>some ([decide (0<min xs.length n)],.int .i64 ((min xs.length n:Nat):Int),{ σ with mem:=updE σ.mem en (.row t (copyL l xs off n)) })
   |_,_=>none) else none
  |none=>none
 |_=>none
def clearA (E:Env) (st:TypeId) (x:V) (σ:St):Ans :=
 match (E.tt st).kind with
 |.slice e =>
  match (E.tt e).ty with
  |some t=>match partRow σ t x with
   |some (l,en,off,n)=>some ([],.tup [],{ σ with mem:=updE σ.mem en (.row t (l.take off++List.replicate n (dflt t)++l.drop (off+n))) })
   |none=>none
  |none=>none
 |_=>none
def fillAt (cs:List V) (o:Nat) (vs:List V):List V:=cs.take o++vs++cs.drop (o+vs.length)
def fillC (place:Nat→Option (Nat×Nat)):List (Nat×V)→List V→Option (List V)
 | [],cs=>some cs
 |(i,v)::ps,cs=>match place i with
  |some (o,n)=>bif n==v.cells.length&&known v.cells&&(o+v.cells.length).ble cs.length then fillC place ps (fillAt cs o v.cells) else none
  |none=>none
def zerosL (zero:List V) (n:Nat):List V:=(List.range n).map fun j=>zero.getD (j % zero.length) .undef
def decN (t:Ty):Nat→List V→Option (List t.den)
 |0,[]=>some []
 |0,_=>none
 |n+1,cs=>match dec t cs with
  |some (x,r)=>match decN t n r with
   |some xs=>some (x::xs)
   |none=>none
  |none=>none
def intsOf (σ:St):List Operand→Option (IntKind×List Int)
 | []=>none
 | [o]=>match σ.eval o with
  |.int k n=>some (k,[n])
  |_=>none
 |o::os=>match σ.eval o,intsOf σ os with
  |.int k n,some (k',ns)=>if k=k' then some (k,n::ns) else none
  |_,_=>none
def min2I (x y:Int):Int:=bif decide (y<x) then y else x
def max2I (x y:Int):Int:=bif decide (y>x) then y else x
def isSl:V→Bool
 |.ro _ _|.slw _|.sl _ _ _|.nil=>true
 |_=>false
def plain:V→Bool
 |.fn _ _|.agg _|.tup _|.own _ _=>false
 |_=>true
def isNilZ:List V→Bool
 | [.nil]=>true
 |_=>false
def op1 (E:Env) (nm:Nat) (ty:TypeId) (op:Op) (σ:St):Ans :=
 match op with
 |.move x=>pureA (σ.eval x) σ
 |.assign x =>
  match σ.eval x with
  |.nil=>match (E.tt ty).kind with
   |.slice e=>match (E.tt e).ty with
    |some t=>pureA (.slw nm) (σ.new nm (.row t []))
    |none=>pureA .nil σ
   |_=>pureA .nil σ
  |v=>pureA v σ
 |.pick c a b=>match σ.eval c with
  |.bool x=>pureA (bif x then σ.eval a else σ.eval b) σ
  |_=>none
 |.alloc t=>bif Nat.blt 0 (E.tt t).size then pureA (.ptr nm 0 0) (σ.new nm (.box (E.tt t).zero)) else none
 |.box _ x =>
  let v:=σ.eval x
  bif known v.cells then pureA (.ptr nm 0 0) (σ.new nm (.box (v.cells.map (V.mapC (killV nm))))) else none
 |.build t ps=>match (E.tt t).kind with
  |.struct fs =>
   bif Nat.blt 0 (E.tt t).size then
    match fillC (fun i=>(fs[i]?).map fun f=>(f.1,(E.tt f.2).size)) (ps.toList.map fun p=>(p.1,σ.eval p.2)) (E.tt t).zero with
    |some cs=>pureA (.agg cs) σ
    |none=>none
   else none
  |_=>none
 |.buildSlice t len ps=>match (E.tt t).kind with
  |.slice e=>match (E.tt e).ty with
   |some te =>
    let vs:=ps.toList.map fun p=>(p.1,σ.eval p.2)
    match fillC (fun i=>some (i*(E.tt e).size,(E.tt e).size)) vs (zerosL (E.tt e).zero (len*(E.tt e).size)) with
    |some cs=>match decN te len (cs.map (pure1 σ)) with
     |some l=>bif (len*(E.tt e).size).ble 16777216 then pureA (.slw nm) ((σ.frzAll cs).new nm (.row te l)) else none
     |none=>none
    |none=>none
   |none =>
    match fillC (fun i=>some (i*(E.tt e).size,(E.tt e).size)) (ps.toList.map fun p=>(p.1,σ.eval p.2)) (zerosL (E.tt e).zero (len*(E.tt e).size)) with
    |some cs=>bif (E.tt e).size==1&&(cs.length==len&&(known cs&&((len*(E.tt e).size).ble 16777216&&(Nat.blt 0 len&&Nat.blt 0 (E.tt e).zero.length)))) then pureA (.slw nm) (σ.new nm (.box (cs.map (V.mapC (killV nm))))) else none
    |none=>none
  |_=>none
 |.load t a =>
  match loadC σ (σ.eval a) (E.tt t).size with
  |some cs=>pureA (asV (E.tt t).agg cs) σ
  |none=>none
 |.store t a x =>
  match storeC σ (σ.eval a) (E.tt t).size (σ.eval x) with
  |some σ'=>pureA .undef σ'
  |none=>match giveN σ (σ.eval a) (E.tt t).size (σ.eval x) with
   |some (b,σ')=>some ([b],.undef,σ')
   |none=>none
 |.nilCheck x=>match σ.eval x with
  |.ptr e i o=>pureA (.ptr e i o) σ
  |.rop cs=>pureA (.rop cs) σ
  |.fn f cs=>pureA (.fn f cs) σ
  |_=>none
 |.binOp op t x y _=>binA E op t (σ.eval x) (σ.eval y) σ
 |.unOp op _ x=>match op,σ.eval x with
  |.not,.bool b=>pureA (.bool (!b)) σ
  |.neg,.int k n=>pureA (.int k (k.wrap (0 - n))) σ
  |_,_=>none
 |.convert src dst x=>match (E.tt src).kind,(E.tt dst).kind,σ.eval x with
  |.int _,.int k,.int _ n=>pureA (.int k (k.wrap n)) σ
  |_,_,_=>none
 |.makeFunc (.func f) fst caps=>match fst.toList with
  | []=>bif (caps.toList.map σ.eval).all plain then pureA (.fn f (caps.toList.map σ.eval)) σ else none
  |_=>none
 |.makeSlice t l c=>match (E.tt t).kind,σ.eval l,σ.eval c with
  |.slice e,.int .i64 n,.int .i64 m=>match (E.tt e).ty with
   |some te=>some ([decide (0≤n∧n≤m),decide (0<(E.tt e).bytes∧m*(E.tt e).bytes≤140737488355328)],.slw nm,σ.new nm (match te with
    |.list t=>bif (E.dirs 0 nm).isEmpty || !isNilZ (E.tt e).zero then .row (.list t) (List.replicate n.toNat []) else .nest t (List.replicate n.toNat []) none
    |te=>.row te (List.replicate n.toNat (dflt te))))
   |none=>none
  |_,_,_=>none
 |.slice t x lo hi mx=>match (E.tt t).kind,bound σ lo,bound σ hi,mx with
  |.slice e,some a,some b,none=>sliceA (E.tt e).size (σ.eval x) a b σ
  |.str,some a,some b,none=>match σ.eval x with
   |.str s=>sliceStr s a b σ
   |_=>none
  |.slice e,some a,some (some b),some (.tmp m)=>match bound σ (some (.tmp m)) with
   |some (some c)=>bif (E.dirs 0 nm).isEmpty then clipA (E.tt e).size (σ.eval x) a b c σ else boundsA (E.tt e).size (σ.eval x) a b c σ
   |_=>none
  |.slice e,some a,some (some b),some m=>match (E.tt e).ty,bound σ (some m) with
   |some te,some (some c)=>bif isSl (σ.eval x)&&(a.getD 0==0&&(b==0&&c==0)) then pureA (.slw nm) (σ.new nm (.row te [])) else none
   |_,_=>none
  |_,_,_,_=>none
 |.fieldAddr s x f=>match (E.tt s).kind,σ.eval x with
  |.struct fs,.ptr e i o=>match fs[f]? with
   |some (off,ft)=>bif Nat.blt 0 (E.tt ft).size then (match look σ.mem e with
    |some (.row t _)=>bif (o+off).ble t.size then pureA (.ptr e i (o+off)) σ else none
    |some (.box _)=>pureA (.ptr e i (o+off)) σ
    |_=>none) else none
   |none=>none
  |.struct fs,.rop cs=>match fs[f]? with
   |some (off,ft)=>bif Nat.blt 0 (E.tt ft).size then pureA (.rop (cs.drop off)) σ else none
   |none=>none
  |_,_=>none
 |.field t x f=>match (E.tt t).kind,σ.eval x with
  |.struct fs,.agg cs=>match fs[f]? with
   |some (off,ft)=>bif (off+(E.tt ft).size).ble cs.length&&Nat.blt 0 (E.tt ft).size then pureA (asV (E.tt ft).agg ((cs.drop off).take (E.tt ft).size)) σ else none
   |none=>none
  |_,_=>none
 |.indexAddr t x i=>match (E.tt t).kind,σ.eval i with
  |.slice e,.int _ n=>match σ.eval x with
   |.ro te l=>bif te.size==(E.tt e).size then some ([decide (0≤n∧n<l.length)],.rop (enc te (rd te l n)),σ) else none
   |.slw en=>match look σ.mem en with
    |some (.row te l)=>bif te.size==(E.tt e).size then some ([decide (0≤n∧n<l.length)],.ptr en n.toNat 0,σ) else none
    |some (.box cs)=>bif (E.tt e).size==1 then some ([decide (0≤n∧n<cs.length)],.ptr en 0 n.toNat,σ) else none
    |some (.nest _ ll _)=>bif (E.tt e).size==1 then some ([decide (0≤n∧n<ll.length)],.ptr en n.toNat 0,σ) else none
    |none=>none
   |.sl en o len=>match look σ.mem en with
    |some (.row te _)=>bif te.size==(E.tt e).size then some ([decide (0≤n∧n<len)],.ptr en (o+n.toNat) 0,σ) else none
    |_=>none
   |_=>none
  |.array len e,.int _ n=>match σ.eval x with
   |.ptr en i o=>bif Nat.blt 0 (E.tt e).size then (match look σ.mem en with
    |some (.row te _)=>bif (o+len*(E.tt e).size).ble te.size then some ([decide (0≤n∧n<len)],.ptr en i (o+n.toNat*(E.tt e).size),σ) else none
    |some (.box _)=>some ([decide (0≤n∧n<len)],.ptr en i (o+n.toNat*(E.tt e).size),σ)
    |_=>none) else none
   |_=>none
  |_,_=>none
 |.index t x i=>match (E.tt t).kind,σ.eval x,σ.eval i with
  |.str,.str s,.int _ n=>some ([decide (0≤n∧n<s.size)],.int .u8 (byteAt s n),σ)
  |_,_,_=>none
 |.extract x i=>match σ.eval x with
  |.tup vs=>match vs[i]? with
   |some v=>pureA v σ
   |none=>none
  |_=>none
 |.call c=>match c.callee with
  |.builtin .len=>match c.argTypes.toList,c.args.toList with
   | [t],[x]=>match (E.tt t).kind,lenV σ (σ.eval x) with
    |.slice _,some n=>match σ.eval x with
     |.str _=>none
     |_=>pureA (.int .i64 n) σ
    |.str,some n=>match σ.eval x with
     |.str _=>pureA (.int .i64 n) σ
     |_=>none
    |_,_=>none
   |_,_=>none
  |.builtin .append=>match c.argTypes.toList,c.args.toList with
   | [t,t2],[s,x]=>match (E.tt t2).kind with
    |.slice _=>appendA E nm t (σ.eval s) (σ.eval x) σ
    |_=>none
   |_,_=>none
  |.builtin .copy=>match c.argTypes.toList,c.args.toList with
   | [t,_],[d,x]=>copyA E t (σ.eval d) (σ.eval x) σ
   |_,_=>none
  |.builtin .clear=>match c.argTypes.toList,c.args.toList with
   | [t],[x]=>clearA E t (σ.eval x) σ
   |_,_=>none
  |.builtin .min=>match intsOf σ c.args.toList with
   |some (k,n::ns)=>pureA (.int k (ns.foldl min2I n)) σ
   |_=>none
  |.builtin .max=>match intsOf σ c.args.toList with
   |some (k,n::ns)=>pureA (.int k (ns.foldl max2I n)) σ
   |_=>none
  |_=>none
 |_=>none
abbrev Handler (R:Type):=FuncId→Nat→List V→St→(V→St→Option R)→Option R
def flat1:V→Bool
 |.int _ _|.bool _|.str _=>true
 |.own t _=>t.flat
 |_=>false
def flatV:V→Bool
 |.agg cs=>cs.all flat1
 |.tup vs=>vs.all fun v=>match v with
  |.agg cs=>cs.all flat1
  |v=>flat1 v
 |v=>flat1 v
def relab1 (k:Nat):V→V
 |.own _ _=>.slw k
 |v=>v
def cnt1:V→Nat
 |.own _ _=>1
 |_=>0
def relabL:Nat→List V→List V
 |_,[]=>[]
 |k,v::vs=>relab1 k v::relabL (k+cnt1 v) vs
def cntL:List V→Nat
 | []=>0
 |v::vs=>cnt1 v+cntL vs
def relab2 (k:Nat):V→V
 |.agg cs=>.agg (relabL k cs)
 |v=>relab1 k v
def relabT:Nat→List V→List V
 |_,[]=>[]
 |k,v::vs=>relab2 k v::relabT (k+cntL v.cells) vs
def relab (k:Nat):V→V
 |.tup vs=>.tup (relabT k vs)
 |v=>relab2 k v
def relabC {R:Type}:Nat→List V→(List V→Nat→R)→R
 |k,[],K=>K [] k
 |k,v::vs,K=>match v with
  |.own _ _=>relabC (k+1) vs fun cs k'=>K (.slw k::cs) k'
  |v=>relabC k vs fun cs k'=>K (v::cs) k'
def relabTF:Nat→List V→List V
 |_,[]=>[]
 |k,v::vs=>match v with
  |.agg cs=>relabC k cs fun cs' k'=>.agg cs'::relabTF k' vs
  |.own _ _=>.slw k::relabTF (k+1) vs
  |v=>v::relabTF k vs
def relabF (k:Nat):V→V
 |.tup vs=>.tup (relabTF k vs)
 |.agg cs=>relabC k cs fun cs' _=>.agg cs'
 |v=>relab1 k v
theorem relabC_eq {R:Type}:∀ (vs:List V) (k:Nat) (K:List V→Nat→R),relabC k vs K=K (relabL k vs) (k+cntL vs)
 | [],k,K=>rfl
 |v::vs,k,K=>by
  cases v <;> simp only [relabC,relabL,relab1,cnt1,cntL,Nat.zero_add,Nat.add_zero] <;> rw [relabC_eq vs] <;> first|rfl|rw [Nat.add_assoc]
theorem relabTF_eq:∀ (vs:List V) (k:Nat),relabTF k vs=relabT k vs
 | [],k=>rfl
 |v::vs,k=>by
  cases v <;> simp only [relabTF,relabT,relab2,relab1,V.cells,cnt1,cntL,Nat.add_zero] <;> first|rw [relabTF_eq vs]|rw [relabC_eq,relabTF_eq vs]
theorem relabF_eq (v:V) (k:Nat):relabF k v=relab k v:=by
 cases v <;> simp only [relabF,relab,relab2] <;> first|rw [relabTF_eq]|rw [relabC_eq]
def V.flat:V→List V
 |.tup vs=>vs.flatMap V.cells
 |v=>v.cells
def owns:List V→List Entry
 | []=>[]
 |.own t l::vs=>.row t l::owns vs
 |_::vs=>owns vs
def addE:Nat→List Entry→List (Nat×Entry)→List (Nat×Entry)
 |_,[],m=>m
 |k,x::xs,m=>(k,x)::addE (k+1) xs m
def St.clearN (k:Nat):Nat→St→St
 |0,σ=>σ
 |n+1,σ=>St.clearN (k+1) n (σ.clear k)
def adopt (nm:Nat) (v:V) (σ:St):V×St :=
 let es:=owns v.flat
 let σ:=St.clearN nm es.length σ
 (relabF nm v,{ σ with mem:=addE nm es σ.mem })
def argCells:List V→List V
 | []=>[]
 |v::vs=>v.cells++argCells vs
def callA (m:Mut) (vs:List V) (σ:St):Option (V×St) :=
 match vs with
 | [.slw e]=>match look σ.mem e with
  |some (.row t l)=>if h:t=m.t then (m.f (h▸l)).bind fun l'=>some ((match m.n with
   |some g=>.sl e 0 (g (h▸l))
   |none=>.tup []),{ σ with mem:=updE σ.mem e (.row m.t l') }) else none
  |_=>none
 |_=>none
def callAK {R:Type} (m:Mut) (vs:List V) (σ:St) (K:V→St→Option R):Option R :=
 match vs with
 | [.slw e]=>match look σ.mem e with
  |some (.row t l)=>if h:t=m.t then (m.f (h▸l)).bind fun l'=>K (match m.n with
   |some g=>.sl e 0 (g (h▸l))
   |none=>.tup []) { σ with mem:=updE σ.mem e (.row m.t l') } else none
  |_=>none
 |_=>none
theorem callAK_eq {R:Type} (m:Mut) (vs:List V) (σ:St) (K:V→St→Option R):callAK m vs σ K=(callA m vs σ).bind fun p=>K p.1 p.2:=by
 unfold callAK callA
 split
 ·rename_i e
  cases look σ.mem e with
  |none=>rfl
  |some x =>
   cases x with
   |box cs=>rfl
   |nest t ll k=>rfl
   |row t l =>
    simp only []
    by_cases h:t=m.t
    ·rw [dif_pos h,dif_pos h,Option.bind_assoc]
     rfl
    ·rw [dif_neg h,dif_neg h]
     rfl
 ·rfl
def callS {R:Type} (s:Summ) (nm:Nat) (vs:List V) (σ:St) (K:V→St→Option R):Option R :=
 match s.alt with
 |some m=>callAK m vs σ K
 |none=>(s.call (vs.map (pureV σ))).bind fun x =>
  let σ:=bif flatV (s.res x) then σ else σ.frzAll (argCells vs)
  let (v,σ'):=adopt nm (s.res x) σ
  K v σ'
def noRef:V→Bool
 |.slw _|.sl _ _ _|.ptr _ _ _|.fn _ _=>false
 |_=>true
def ref0:V→List Nat
 |.slw e=>[e]
 |.sl e _ _=>[e]
 |.ptr e _ _=>[e]
 |_=>[]
def refs1:V→List Nat
 |.fn _ caps=>caps.flatMap ref0
 |v=>ref0 v
def refs2:V→List Nat
 |.agg cs=>cs.flatMap refs1
 |v=>refs1 v
def refs3:V→List Nat
 |.tup vs=>vs.flatMap refs2
 |v=>refs2 v
def name (d t:Nat):Nat:=(d*4096+t)*64
def nameRef (σ:St) (v:V) (e2:Nat):St:=match refE v with
 |some e=>σ.ren e e2
 |none=>σ
def nameCells (base res:Nat):Nat→List V→St→St
 |_,[],σ=>σ
 |c,v::vs,σ=>nameCells base res (c+1) vs (nameRef σ v ((base*4096+c)*64+res))
def nameSlots (d:Nat):Nat→List V→St→St
 |_,[],σ=>σ
 |s,v::vs,σ=>nameSlots d (s+1) vs (nameCells (d*4096+s) 16 0 v.cells σ)
def nameOuts:Nat→List (List V)→St→St
 |_,[],σ=>σ
 |d,fr::outs,σ=>nameOuts (d+1) outs (nameSlots (d+1) 0 fr σ)
def nameBoxes:List (Nat×Entry)→St→St
 | [],σ=>σ
 |(e,.box cs)::m,σ=>nameBoxes m (nameCells e 48 0 cs σ)
 |_::m,σ=>nameBoxes m σ
def awayNames:List (Nat×Entry)→St→St
 | [],σ=>σ
 |(e,_)::m,σ=>awayNames m (bif Nat.ble 16 (e % 64) then σ.ren e (e*64+32) else σ)
def boxRefs (L:List Nat):List (Nat×Entry)→List Nat
 | []=>[]
 |(e,.box cs)::m=>bif L.contains e then cs.flatMap refs1++boxRefs L m else boxRefs L m
 |_::m=>boxRefs L m
def reachS (σ:St):List Nat :=
 let a:=σ.fr.flatMap refs3++σ.outs.flatMap fun fr=>fr.flatMap refs3
 let b:=a++boxRefs a σ.mem
 let c:=b++boxRefs b σ.mem
 c++boxRefs c σ.mem
def insN (x:Nat):List Nat→List Nat
 | []=>[x]
 |y::ys=>bif x==y then y::ys else bif Nat.blt x y then x::y::ys else y::insN x ys
def nilCell (σ:St) (e c nm:Nat) (t:Ty):St :=
 let τ:=σ.new nm (.row t [])
 match look τ.mem e with
 |some (.box cs)=>match cs[c]? with
  |some .nil=>{ τ with mem:=updE τ.mem e (.box (cs.set c (.slw nm))) }
  |_=>σ
 |_=>σ
def doGhost (σ:St):Ghost→St
 |.nil1 s c nm t=>match σ.get s with
  |.ptr e _ _=>nilCell σ e c nm t
  |_=>σ
 |.kill ts=>ts.foldl (fun σ t=>σ.set t .undef) σ
 |.frz s c=>match (σ.get s).cells[c]? with
  |some v=>frz1 σ v
  |none=>σ
 |.reb s=>match σ.get s with
  |.sl e o n=>match look σ.mem e with
   |some (.row t l) =>
    let σ:=St.set { σ with fr:=σ.fr.map fun v=>bif (refs3 v).contains e then .undef else v } s (.sl e o n)
    let σ:=σ.map1 (rebV e o n)
    St.set { σ with mem:=updE σ.mem e (.row t ((l.drop o).take n)) } s (.slw e)
   |_=>σ
  |_=>σ
 |.ren e e2=>σ.ren e e2
 |.drop e=>σ.kill e
 |.nameS s c e2=>match (σ.get s).cells[c]? with
  |some v=>match refE v with
   |some e=>σ.ren e e2
   |none=>σ
  |none=>σ
 |.only es=>σ.mem.foldl (fun τ (e,_)=>bif es.contains e then τ else τ.kill e) σ
 |.tidy=>bif σ.mem.isEmpty then σ else
  let σ:=awayNames σ.mem σ
  let σ:=nameOuts 0 σ.outs (nameSlots 0 0 σ.fr σ)
  let σ:=nameBoxes σ.mem σ
  let σ:=nameBoxes σ.mem σ
  let es:=(reachS σ).foldl (fun L x=>insN x L) []
  let σ:=σ.mem.foldl (fun τ (e,_)=>bif es.contains e then τ else τ.kill e) σ
  bif σ.mem.all (fun (e,_)=>es.contains e) then { σ with mem:=es.filterMap fun e=>(look σ.mem e).map fun x=>(e,x) } else σ
 |.keep es=>bif σ.mem.all (fun (e,_)=>es.contains e) then { σ with mem:=es.filterMap fun e=>(look σ.mem e).map fun x=>(e,x) } else σ
def doGhosts (σ:St) (gs:List Ghost):St:=gs.foldl doGhost σ
def firstRegion:Code→Nat
 |.region id _ _=>id
 |.seq a _=>firstRegion a
 |.cond _ a _=>firstRegion a
 |.block _ c=>firstRegion c
 |.loop c=>firstRegion c
 |.scope c=>firstRegion c
 |_=>0
abbrev Kl (R:Type):=Exit→St→Option R
def seqK {R:Type} (N:St→Option R) (K:Kl R):Kl R:=fun e σ=>match e with
 |.normal=>N σ
 |e=>K e σ
def blockK {R:Type} (id:Nat) (K:Kl R):Kl R:=fun e σ=>match e with
 |.exit id'=>bif id'==id then K .normal σ else K (.exit id') σ
 |e=>K e σ
def aliveB (σ:St) (o:Oper):Bool:=o.op.operands.toList.all fun x=>(refs3 (σ.eval x)).all fun e=>(look σ.mem e).isSome
def deadN (m:List (Nat×Entry)) (k:Nat):Nat→Bool
 |0=>true
 |n+1=>(look m k).isNone&&deadN m (k+1) n
def pureOp:Op→Bool
 |.move _|.pick _ _ _|.build _ _|.load _ _|.nilCheck _|.binOp _ _ _ _ _|.unOp _ _ _|.convert _ _ _|.makeFunc _ _ _|.slice _ _ _ _ none
 |.fieldAddr _ _ _|.field _ _ _|.indexAddr _ _ _|.index _ _ _|.extract _ _=>true
 |.call c=>match c.callee with
  |.builtin .len|.builtin .min|.builtin .max=>true
  |_=>false
 |_=>false
def isBar (o:Oper):Bool :=
 match o.op with
 |.store _ _ _|.box _ _=>true
 |.call c=>match c.callee with
  |.builtin .append|.builtin .copy=>true
  |_=>false
 |_=>false
def maskOf (M:List Nat) (o:Oper):Nat:=o.after.toList.foldl (fun m e=>bif Region.binds .any e then m ||| ((1 <<< e.on) ||| M.getD e.on 0) else m) 0
def masks:List Oper→List Nat→List Nat
 | [],M=>M
 |o::os,M=>masks os (M++[maskOf M o])
def isMv:Op→Bool
 |.move _|.extract _ _|.pick _ _ _|.nilCheck _|.fieldAddr _ _ _|.indexAddr _ _ _=>true
 |_=>false
def lateOk (ops:Array Oper) (M:List Nat) (i j:Nat) (x y:Oper):Bool :=
 isBar y&&(isMv x.op&&(x.guard.isNone&&(Region.noSelect ops&&((x.after.toList.all fun e=>!Region.binds .any e || Nat.testBit (M.getD j 0) e.on) &&
  ((
   List.range ops.size).all fun k=>k==i || Nat.testBit (M.getD j 0) k || match ops[k]? with
   |some o=>(o.after.any fun e=>Region.binds .any e&&e.on==i) || Oper.apart ops x o
   |none=>true)))))
def okPair (l:Bool) (ops:Array Oper) (M:List Nat) (i j:Nat) (x y:Oper):Bool :=
 (
  match x.dst with
  |some t=>y.dst != some t&&(!(y.looksAt ops).contains t || Nat.testBit (M.getD j 0) i)
  |none=>true) &&
 (
  match y.dst with
  |some t=>!(x.looksAt ops).contains t || Nat.testBit (M.getD j 0) i
  |none=>true) &&
 (!(isBar x || isBar y) || Nat.testBit (M.getD j 0) i || (l&&lateOk ops M i j x y))
def okPairs (l:Bool) (ops:Array Oper) (M:List Nat) (i:Nat) (x:Oper):Nat→List Oper→Bool
 |_,[]=>true
 |j,y::ys=>okPair l ops M i j x y&&okPairs l ops M i x (j+1) ys
def okFrom (l:Bool) (ops:Array Oper) (M:List Nat):Nat→List Oper→Bool
 |_,[]=>true
 |i,x::xs =>
  (M.getD i 0==maskOf M x)&&(x.after.toList.all fun e=>!Region.binds .any e || Nat.blt e.on i)&&(match x.dst with
   |some t=>Nat.blt t 4095
   |none=>true)&&(match x.guard with
   |some (g,_)=>Nat.blt g i
   |none=>true)&&okPairs l ops M i x (i+1) xs&&okFrom l ops M (i+1) xs
def okDraw (l:Bool) (ops:Array Oper):Bool:=okFrom l ops (masks ops.toList []) 0 ops.toList
noncomputable def both {R:Type} (x y:Option R):Option R:=open Classical in if x=y then x else none
section
variable {R:Type} (E:Env) (H:Handler R)
def putK (dst:Option Nat) (K:St→Option R):V→St→Option R:=fun v σ=>K (σ.put dst v)
noncomputable def evNil (op:BinOp) (t:TypeId) (x y:V) (n:Option Int) (K:V→Option R):Option (Option R) :=
 match (E.tt t).kind,y with
 |.slice _,.nil =>
  match op with
  |.eql=>some (match x,n with
   |.nil,_=>K (.bool true)
   |.str _,_=>none
   |_,some n=>bif n==0 then both (K (.bool true)) (K (.bool false)) else K (.bool false)
   |_,none=>none)
  |.neq=>some (match x,n with
   |.nil,_=>K (.bool false)
   |.str _,_=>none
   |_,some n=>bif n==0 then both (K (.bool false)) (K (.bool true)) else K (.bool true)
   |_,none=>none)
  |_=>none
 |_,_=>none
noncomputable def evOp (d:Nat) (o:Oper) (σ:St) (K:St→Option R):Option R :=
 let nm:=name d (o.dst.getD 4095)
 match o.op with
 |.call c=>match c.callee with
  |.value f=>match σ.eval f with
   |.fn g caps=>H g nm (c.args.toList.map σ.eval++caps) σ (putK o.dst K)
   |_=>none
  |_=>match op1 E nm o.type o.op σ with
   |some (bs,v,σ')=>chks bs (K (σ'.put o.dst v))
   |none=>none
 |.binOp op t x y _=>match evNil op t (E:=E) (σ.eval x) (σ.eval y) (lenV σ (σ.eval x)) (fun v=>K (σ.put o.dst v)) with
  |some r=>r
  |none=>match op1 E nm o.type o.op σ with
   |some (bs,v,σ')=>chks bs (K (σ'.put o.dst v))
   |none=>none
 |op=>match op1 E nm o.type op σ with
  |some (bs,v,σ')=>chks bs (K (σ'.put o.dst v))
  |none=>none
noncomputable def evOps (d:Nat) (ops:Array Oper):List Oper→St→(St→Option R)→Option R
 | [],σ,K=>K σ
 |o::rest,σ,K =>
  match o.guard with
  |none=>evOp E H d o σ fun σ=>evOps d ops rest σ K
  |some (j,want)=>match (ops[j]?).bind (·.dst) with
   |some t=>match σ.get t with
    |.bool b =>
     bif b then
      (
       let σ:=σ.set t (.bool true)
       bif want then evOp E H d o σ (fun σ=>evOps d ops rest σ K) else evOps d ops rest (σ.put o.dst (.tup [])) K)
     else
      (
       let σ:=σ.set t (.bool false)
       bif want then evOps d ops rest (σ.put o.dst (.tup [])) K else evOp E H d o σ (fun σ=>evOps d ops rest σ K))
    |.tup []=>evOps d ops rest (σ.put o.dst (.tup [])) K
    |_=>none
   |none=>none
def loopN (d f r:Nat) (body:St→Kl R→Option R) (gs:List Ghost):Nat→St→Kl R→Option R
 |0,_,_=>none
 |n+1,σ,K=>body σ (seqK (fun σ'=>loopN d f r body gs n (doGhosts σ' gs) K) K)
def opD (nm:Nat) (o:Oper) (σ:St) (K:V→List Entry→Option R):Option R :=
 match o.op with
 |.buildSlice t len ps=>match (E.tt t).kind with
  |.slice e=>match (E.tt e).ty with
   |some te =>
    match fillC (fun i=>some (i*(E.tt e).size,(E.tt e).size)) (ps.toList.map fun p=>(p.1,σ.eval p.2)) (zerosL (E.tt e).zero (len*(E.tt e).size)) with
    |some cs=>match decN te len (cs.map (pure1 σ)) with
     |some l=>bif (len*(E.tt e).size).ble 16777216&&cs.all noRef then K (.slw nm) [.row te l] else none
     |none=>none
    |none=>none
   |none=>none
  |_=>none
 |.alloc t=>bif Nat.blt 0 (E.tt t).size then K (.ptr nm 0 0) [.box (E.tt t).zero] else none
 |.box _ x=>bif known (σ.eval x).cells&&(σ.eval x).cells.all noRef then K (.ptr nm 0 0) [.box (σ.eval x).cells] else none
 |.makeSlice t l c=>match (E.tt t).kind,σ.eval l,σ.eval c with
  |.slice e,.int .i64 n,.int .i64 m=>match (E.tt e).ty with
   |some te=>chks [decide (0≤n∧n≤m),decide (0<(E.tt e).bytes∧m*(E.tt e).bytes≤140737488355328)] (K (.slw nm) [.row te (List.replicate n.toNat (dflt te))])
   |none=>none
  |_,_,_=>none
 |.assign x=>match σ.eval x with
  |.nil=>none
  |v=>K v []
 |.call c=>match c.callee with
  |.value f=>match σ.eval f with
   |.fn g caps=>match lookS E.sums g with
    |some s=>(s.call ((c.args.toList.map σ.eval++caps).map (pureV σ))).bind fun x =>
     bif (caps.all plain&&s.alt.isNone)&&(flatV (s.res x) || (argCells (c.args.toList.map σ.eval++caps)).all noRef) then K (relabF nm (s.res x)) (owns (s.res x).flat) else none
    |none=>none
   |_=>none
  |_=>bif pureOp o.op then (match op1 E nm o.type o.op σ with
   |some (bs,v,_)=>chks bs (K v [])
   |none=>none) else none
 |_=>bif pureOp o.op then (match op1 E nm o.type o.op σ with
  |some (bs,v,_)=>chks bs (K v [])
  |none=>none) else none
noncomputable def evDOp (d:Nat) (o:Oper) (σ:St) (K:St→Option R):Option R :=
 bif isBar o then evOp E H d o σ K else
  bif aliveB σ o then opD E (name d (o.dst.getD 4095)) o σ fun v es =>
   bif deadN σ.mem (name d (o.dst.getD 4095)) es.length&&(Nat.blt es.length 64&&(o.dst.isSome || es.isEmpty)) then K (St.put { σ with mem:=addE (name d (o.dst.getD 4095)) es σ.mem } o.dst v) else none
  else none
noncomputable def evDs (d:Nat) (ops:Array Oper):List Oper→St→(St→Option R)→Option R
 | [],σ,K=>K σ
 |o::rest,σ,K =>
  match o.guard with
  |none=>evDOp E H d o σ fun σ=>evDs d ops rest σ K
  |some (j,want)=>match (ops[j]?).bind (·.dst) with
   |some t=>match σ.get t with
    |.bool b =>
     bif b then
      (
       let σ:=σ.set t (.bool true)
       bif want then evDOp E H d o σ (fun σ=>evDs d ops rest σ K) else bif isBar o then none else evDs d ops rest (σ.put o.dst (.tup [])) K)
     else
      (
       let σ:=σ.set t (.bool false)
       bif want then bif isBar o then none else evDs d ops rest (σ.put o.dst (.tup [])) K else evDOp E H d o σ (fun σ=>evDs d ops rest σ K))
    |.tup []=>bif isBar o then none else evDs d ops rest (σ.put o.dst (.tup [])) K
    |_=>none
   |none=>none
noncomputable def evStep (d:Nat) (ops:Array Oper) (o:Oper) (σ:St) (K:St→Option R):Option R :=
 match o.guard with
 |none=>evOp E H d o σ K
 |some (j,want)=>match (ops[j]?).bind (·.dst) with
  |some t=>match σ.get t with
   |.bool b =>
    bif b then
     (
      let σ:=σ.set t (.bool true)
      bif want then evOp E H d o σ K else K (σ.put o.dst (.tup [])))
    else
     (
      let σ:=σ.set t (.bool false)
      bif want then K (σ.put o.dst (.tup [])) else evOp E H d o σ K)
   |.tup []=>K (σ.put o.dst (.tup []))
   |_=>none
  |none=>none
noncomputable def bothL:List (Option R)→Option R
 | []=>none
 | [x]=>x
 |x::xs=>both x (bothL xs)
def eager (ops:Array Oper) (listed:Array Bool) (i:Nat):Bool :=
 (
  match ops[i]? with
  |some o=>isMv o.op
  |none=>false)&&(Region.noSelect ops&&Region.free .any ops listed i)
def eqD:(t:Ty)→t.den→t.den→Bool
 |.int _,(a:Int),(b:Int)=>decide (a=b)
 |.bool,(a:Bool),(b:Bool)=>a==b
 |.str,(a:ByteArray),(b:ByteArray)=>decide (a.data.toList=b.data.toList)
 |.list t,a,b=>eqDs (eqD t) a b
 |.pair t u,a,b=>eqD t a.1 b.1&&eqD u a.2 b.2
 |.one t,a,b=>eqD t a b
where
 eqDs {α:Type} (f:α→α→Bool):List α→List α→Bool
  | [],[]=>true
  |x::xs,y::ys=>f x y&&eqDs f xs ys
  |_,_=>false
def eqVs (f:V→V→Bool):List V→List V→Bool
 | [],[]=>true
 |x::xs,y::ys=>f x y&&eqVs f xs ys
 |_,_=>false
def eqV:Nat→V→V→Bool
 |0,_,_=>false
 |n+1,a,b=>match a,b with
  |.int k x,.int k' y=>decide (k=k')&&decide (x=y)
  |.bool x,.bool y=>x==y
  |.str x,.str y=>decide (x.data.toList=y.data.toList)
  |.ro t l,.ro t' l'=>if h:t=t' then eqD.eqDs (eqD t') (h▸l) l' else false
  |.nil,.nil=>true
  |.nilp,.nilp=>true
  |.undef,.undef=>true
  |.slw e,.slw e'=>e==e'
  |.sl e o m,.sl e' o' m'=>e==e'&&(o==o'&&m==m')
  |.ptr e i o,.ptr e' i' o'=>e==e'&&(i==i'&&o==o')
  |.rop cs,.rop cs'=>eqVs (eqV n) cs cs'
  |.fn f cs,.fn f' cs'=>f==f'&&eqVs (eqV n) cs cs'
  |.agg cs,.agg cs'=>eqVs (eqV n) cs cs'
  |.tup cs,.tup cs'=>eqVs (eqV n) cs cs'
  |_,_=>false
def eqE:Entry→Entry→Bool
 |.row t l,.row t' l'=>if h:t=t' then eqD.eqDs (eqD t') (h▸l) l' else false
 |.box cs,.box cs'=>eqVs (eqV 4) cs cs'
 |.nest t ll k,.nest t' ll' k'=>if h:t=t' then eqD.eqDs (eqD (.list t')) (h▸ll) ll'&&decide (k=k') else false
 |_,_=>false
def eqM:List (Nat×Entry)→List (Nat×Entry)→Bool
 | [],[]=>true
 |(e,x)::m,(e',x')::m'=>e==e'&&(eqE x x'&&eqM m m')
 |_,_=>false
def eqFs:List (List V)→List (List V)→Bool
 | [],[]=>true
 |x::xs,y::ys=>eqVs (eqV 4) x y&&eqFs xs ys
 |_,_=>false
def eqSt (a b:St):Bool:=eqVs (eqV 4) a.fr b.fr&&(eqFs a.outs b.outs&&eqM a.mem b.mem)
def normS (σ:St):St:=doGhost σ (.keep (σ.mem.foldl (fun L (e,_)=>insN e L) []))
def sameSt:St→List (Option St)→Bool
 |_,[]=>true
 |a,some b::xs=>eqSt a b&&sameSt a xs
 |_,none::_=>false
def sameL:List (Option St)→Option St
 |some a::xs=>bif sameSt a xs then some a else none
 |_=>none
noncomputable def evM (E:Env) (d:Nat) (ops:Array Oper):Nat→Array Bool→St→Option St
 |0,_,_=>none
 |n+1,listed,σ=>match (Region.ready .any ops listed).find? (eager ops listed) with
  |some i=>(match ops[i]? with
   |some o=>evStep E (fun g nm vs σ K=>match lookS E.sums g with
    |some s=>callS s nm vs σ K
    |none=>none) d ops o σ fun σ'=>evM E d ops n (listed.setIfInBounds i true) σ'
   |none=>none)
  |none=>match Region.ready .any ops listed with
   | []=>some (normS σ)
   |is=>sameL (is.map fun i=>match ops[i]? with
    |some o=>evStep E (fun g nm vs σ K=>match lookS E.sums g with
     |some s=>callS s nm vs σ K
     |none=>none) d ops o σ fun σ'=>evM E d ops n (listed.setIfInBounds i true) σ'
    |none=>none)
noncomputable def evAll (d:Nat) (ops:Array Oper):Nat→Array Bool→St→(St→Option R)→Option R
 |0,_,_,_=>none
 |n+1,listed,σ,K=>match (Region.ready .any ops listed).find? (eager ops listed) with
  |some i=>(match ops[i]? with
   |some o=>evStep E H d ops o σ fun σ'=>evAll d ops n (listed.setIfInBounds i true) σ' K
   |none=>none)
  |none=>match Region.ready .any ops listed with
   | []=>K σ
   |is=>bothL (is.map fun i=>match ops[i]? with
    |some o=>evStep E H d ops o σ fun σ'=>evAll d ops n (listed.setIfInBounds i true) σ' K
    |none=>none)
def stillOp (o:Oper):Bool:=o.guard.isNone&&(pureOp o.op || match o.op with
 |.call c=>(match c.callee with
  |.value (.func g)=>(lookS E.sums g).isSome
  |_=>false)
 |_=>false)
def freeR (ops:Array Oper) (M:List Nat) (listed:Array Bool) (i:Nat):Bool :=
 match ops[i]? with
 |some x=>stillOp E x&&(List.range ops.size).all fun j=>j==i || (listed.getD j true || (Nat.testBit (M.getD j 0) i || match ops[j]? with
  |some y=>stillOp E y&&x.apart ops y
  |none=>true))
 |none=>false
def mOk (ops:Array Oper) (M:List Nat):Bool:=(List.range ops.size).all fun i=>match ops[i]? with
 |some x=>M.getD i 0==maskOf M x&&x.after.toList.all fun e=>!Region.binds .any e || Nat.blt e.on i
 |none=>true
def stillK (d:Nat) (o:Oper) (σ:St) (K:St→Option R):Option R:=opD E (name d (o.dst.getD 4095)) o σ fun v es=>match es with
 | []=>K (σ.put o.dst v)
 |_=>none
noncomputable def evAllR (d:Nat) (ops:Array Oper) (M:List Nat):Nat→Array Bool→St→(St→Option R)→Option R
 |0,_,_,_=>none
 |n+1,listed,σ,K=>match (Region.ready .any ops listed).find? (freeR E ops M listed) with
  |some i=>(match ops[i]? with
   |some o=>stillK E d o σ fun σ'=>evAllR d ops M n (listed.setIfInBounds i true) σ' K
   |none=>none)
  |none=>match Region.ready .any ops listed with
   | []=>K σ
   |is=>bothL (is.map fun i=>match ops[i]? with
    |some o=>bif stillOp E o then stillK E d o σ fun σ'=>evAllR d ops M n (listed.setIfInBounds i true) σ' K
     else evStep E H d ops o σ fun σ'=>evAllR d ops M n (listed.setIfInBounds i true) σ' K
    |none=>none)
def allG (k:Nat):List Ghost→Bool
 | []=>false
 |.drop n::gs=>n==k || allG k gs
 |_::gs=>allG k gs
def fuelOf (n:Nat) (gs:List Ghost):Nat:=bif allG 61 gs then 12 else n
noncomputable def evDraw (d f id:Nat) (ops:Array Oper) (σ:St) (K:St→Option R):Option R :=
 bif allG 58 (E.dirs f id)&&mOk ops (masks ops.toList []) then evAllR E H d ops (masks ops.toList []) (ops.size+1) (Array.replicate ops.size false) (doGhosts σ (E.dirs f id)) K else
 bif allG 62 (E.dirs f id) then (evM E d ops (ops.size+1) (Array.replicate ops.size false) (doGhosts σ (E.dirs f id))).bind K else
 bif okDraw (allG 59 (E.dirs f id)) ops && !allG 63 (E.dirs f id) then evDs E H d ops ops.toList (doGhosts σ (E.dirs f id)) K else evAll E H d ops (ops.size+1) (Array.replicate ops.size false) (doGhosts σ (E.dirs f id)) K
noncomputable def evCode (d f:Nat):Code→St→Kl R→Option R
 |.skip,σ,K=>K .normal σ
 |.region id ops draw,σ,K=>bif draw then evDraw E H d f id ops σ (K .normal) else evOps E H d ops ops.toList σ (K .normal)
 |.seq a b,σ,K=>evCode d f a σ (seqK (fun σ=>evCode d f b σ K) K)
 |.cond c x y,σ,K=>match σ.eval c with
  |.bool b=>bif b then evCode d f x σ K else evCode d f y σ K
  |_=>none
 |.block id c,σ,K=>evCode d f c σ (blockK id K)
 |.loop c,σ,K=>loopN d f (firstRegion c) (evCode d f c) (E.dirs f (firstRegion c)) (fuelOf E.fuel (E.dirs f (firstRegion c))) (doGhosts σ (E.dirs f (firstRegion c))) K
 |.exit id,σ,K=>K (.exit id) σ
 |.ret,σ,K=>K .ret σ
 |_,_,_=>none
end
def resultVs (tt:Nat→TI) (σ:St):List ResultVar→Option (List V)
 | []=>some []
 |ResultVar.tmp t::rs=>match resultVs tt σ rs with
  |some vs=>some (σ.get t::vs)
  |none=>none
 |ResultVar.cell t ty::rs=>match loadC σ (σ.get t) (tt ty).size,resultVs tt σ rs with
  |some cs,some vs=>some (asV (tt ty).agg cs::vs)
  |_,_=>none
def untup:V→Bool
 |.tup _=>false
 |_=>true
def resultV (tt:Nat→TI) (σ:St) (fn:Func):Option V :=
 match fn.results.toList with
 | []=>some (.tup [])
 | [ResultVar.tmp t]=>some (σ.get t)
 | [ResultVar.cell t ty]=>match loadC σ (σ.get t) (tt ty).size with
  |some cs=>some (asV (tt ty).agg cs)
  |none=>none
 |rs=>match resultVs tt σ rs with
  |some vs=>bif vs.all untup then some (.tup vs) else none
  |none=>none
def entry (fn:Func) (vs:List V):List V:=vs++List.replicate (fn.ntmps - vs.length) .undef
def retK {R:Type} (tt:Nat→TI) (fn:Func) (K:V→St→Option R):Kl R:=fun e σ =>
 match e with
 |.normal|.ret=>match resultV tt σ fn with
  |some v=>match σ.outs with
   |fr::outs=>K v { fr:=fr,outs:=outs,mem:=σ.mem }
   | []=>none
  |none=>none
 |_=>none
def retN {R:Type} (nm:Nat) (K:V→St→Option R):V→St→Option R:=fun v σ =>
 let σ':=nameCells (nm / 64) 8 0 v.flat { fr:=[v],outs:=σ.fr::σ.outs,mem:=σ.mem }
 match σ'.fr,σ'.outs with
 | [v'],fr::outs=>K v' { fr:=fr,outs:=outs,mem:=σ'.mem }
 |_,_=>none
noncomputable def callD {R:Type} (E:Env):Nat→Nat→Handler R
 |0,_=>fun g nm vs σ K=>match lookS E.sums g with
  |some s=>callS s nm vs σ K
  |none=>none
 |c+1,d=>fun g nm vs σ K=>match lookS E.sums g with
  |some s=>callS s nm vs σ K
  |none=>match lookF E.inl g with
   |some fn=>match fn.body with
    |some code=>evCode E (callD E c (d+1)) (d+1) g code { fr:=entry fn vs,outs:=(doGhost σ (.kill (E.dead g nm))).fr::σ.outs,mem:=σ.mem } (retK E.tt fn (retN nm K))
    |none=>none
   |none=>none
def own1 (m:List (Nat×Entry)):V→Option V
 |.slw e=>match look m e with
  |some (.row t l)=>some (.own t l)
  |_=>none
 |.sl e o n=>match look m e with
  |some (.row t l)=>some (.own t ((l.drop o).take n))
  |_=>none
 |.int k n=>some (.int k n)
 |.bool b=>some (.bool b)
 |.str s=>some (.str s)
 |.ro t l=>some (.ro t l)
 |_=>none
def allS (f:V→Option V):List V→Option (List V)
 | []=>some []
 |v::vs=>match f v,allS f vs with
  |some x,some xs=>some (x::xs)
  |_,_=>none
def own2 (m:List (Nat×Entry)):V→Option V
 |.agg cs=>(allS (own1 m) cs).map V.agg
 |v=>own1 m v
def srcs:List V→List (Nat×Nat)
 | []=>[]
 |.slw e::vs=>(e,0)::srcs vs
 |.sl e o _::vs=>(e,o)::srcs vs
 |_::vs=>srcs vs
def nodupB:List Nat→Bool
 | []=>true
 |x::xs=>!xs.contains x&&nodupB xs
def give (m:List (Nat×Entry)) (v:V):Option V :=
 bif nodupB ((srcs v.flat).map (·.1)) then (match v with
  |.tup vs=>(allS (own2 m) vs).map V.tup
  |v=>own2 m v) else none
def Ty.rows:Ty→List (Option Ty)
 |.list a=>[some a]
 |.pair a b=>a.rows++b.rows
 |.one a=>a.rows
 |_=>[none]
def rowsOf (tt:Nat→TI) (ty:Nat):List (Option Ty):=match (tt ty).ty with
 |some t=>t.rows
 |none=>[]
def fixCells {R:Type}:Nat→List (Option Ty)→List V→St→(Nat→List V→St→Option R)→Option R
 |nm,some t::ts,.nil::vs,σ,K=>bif (look σ.mem nm).isNone then fixCells (nm+1) ts vs (σ.new nm (.row t [])) fun nm' vs' σ'=>K nm' (.slw nm::vs') σ' else none
 |nm,_::ts,v::vs,σ,K=>fixCells nm ts vs σ fun nm' vs' σ'=>K nm' (v::vs') σ'
 |nm,_,vs,σ,K=>K nm vs σ
def fixTup {R:Type} (tt:Nat→TI):Nat→List Nat→List V→St→(List V→St→Option R)→Option R
 |nm,ty::ts,.agg cs::vs,σ,K=>fixCells nm (rowsOf tt ty) cs σ fun nm' cs' σ'=>fixTup tt nm' ts vs σ' fun vs' σ'=>K (.agg cs'::vs') σ'
 |nm,_::ts,v::vs,σ,K=>fixTup tt nm ts vs σ fun vs' σ'=>K (v::vs') σ'
 |_,_,vs,σ,K=>K vs σ
def fixV {R:Type} (tt:Nat→TI) (fn:Func) (v:V) (σ:St) (K:V→St→Option R):Option R :=
 match v,fn.resultTypes.toList with
 |.agg cs,[ty]=>fixCells 1000000000000000000000000000000 (rowsOf tt ty) cs σ fun _ cs' σ'=>K (.agg cs') σ'
 |.tup vs,ts=>fixTup tt 1000000000000000000000000000000 ts vs σ fun vs' σ'=>K (.tup vs') σ'
 |v,_=>K v σ
def finK (tt:Nat→TI) (fn:Func):Kl V:=fun e σ =>
 match e with
 |.normal|.ret=>match resultV tt σ fn with
  |some v=>fixV tt fn v σ fun v σ=>give (unnest σ v).mem v
  |none=>none
 |_=>none
noncomputable def evFn (E:Env) (c f:Nat) (fn:Func) (vs:List V):Option V :=
 match fn.body with
 |some code=>evCode E (callD E c 0) 0 f code { fr:=entry fn vs,outs:=[],mem:=[] } (finK E.tt fn)
 |none=>none
inductive Step where
 |c (i:Nat)|call (i g:Nat)
noncomputable def atPath {R:Type} (E:Env) (n:Nat) (σ:St):(c d f:Nat)→List Step→List Nat→Code→Kl R→Option R
 |c,d,f,[],_,.loop b,K=>loopN d f (firstRegion b) (evCode E (callD E c d) d f b) (E.dirs f (firstRegion b)) n σ K
 |c,d,f,.c 0::p,ns,.seq a b,K=>atPath E n σ c d f p ns a (seqK (fun σ=>evCode E (callD E c d) d f b σ K) K)
 |c,d,f,.c 1::p,ns,.seq _ b,K=>atPath E n σ c d f p ns b K
 |c,d,f,.c 0::p,ns,.cond _ x _,K=>atPath E n σ c d f p ns x K
 |c,d,f,.c 1::p,ns,.cond _ _ y,K=>atPath E n σ c d f p ns y K
 |c,d,f,.c 0::p,ns,.block id x,K=>atPath E n σ c d f p ns x (blockK id K)
 |c,d,f,.c 0::p,m::ns,.loop b,K=>atPath E n σ c d f p ns b (seqK (fun σ'=>loopN d f (firstRegion b) (evCode E (callD E c d) d f b) (E.dirs f (firstRegion b)) m (doGhosts σ' (E.dirs f (firstRegion b))) K) K)
 |c+1,d,_,.call i g::p,ns,.region _ ops _,K=>match lookF E.inl g with
  |some fn=>match fn.body with
   |some code=>atPath E n σ c (d+1) g p ns code (retK E.tt fn (retN (name d (((ops[i]?).bind (·.dst)).getD 4095)) (putK ((ops[i]?).bind (·.dst)) fun σ=>evOps E (callD E (c+1) d) d ops (ops.toList.drop (i+1)) σ (K .normal))))
   |none=>none
  |none=>none
 |_,_,_,_,_,_,_=>none
open Go.RowKit
theorem Ty.size_pos (t:Ty):0<t.size:=by
 induction t with
 |pair a b iha _=>simp only [Ty.size];omega
 |one a ih=>simpa [Ty.size] using ih
 |_=>simp [Ty.size]
def All2 {α β:Type} (R:α→β→Prop):List α→List β→Prop
 | [],[]=>True
 |a::as,b::bs=>R a b∧All2 R as bs
 |_,_=>False
section
variable {α β:Type} {R R':α→β→Prop}
theorem All2.length {as:List α} {bs:List β} (h:All2 R as bs):as.length=bs.length:=by
 induction as generalizing bs with
 |nil=>cases bs <;> simp_all [All2]
 |cons a as ih=>cases bs with
  |nil=>simp [All2] at h
  |cons b bs=>simp [ih h.2]
theorem All2.mono {as:List α} {bs:List β} (hR:∀ a b,R a b→R' a b) (h:All2 R as bs):All2 R' as bs:=by
 induction as generalizing bs with
 |nil=>cases bs <;> simp_all [All2]
 |cons a as ih=>cases bs with
  |nil=>simp [All2] at h
  |cons b bs=>exact ⟨hR _ _ h.1,ih h.2⟩
theorem All2.mono_mem {as:List α} {bs:List β} (hR:∀ a b,a∈as→R a b→R' a b) (h:All2 R as bs):All2 R' as bs:=by
 induction as generalizing bs with
 |nil=>cases bs <;> simp_all [All2]
 |cons a as ih=>cases bs with
  |nil=>simp [All2] at h
  |cons b bs=>exact ⟨hR _ _ (by simp) h.1,ih (fun a b ha=>hR a b (by simp [ha])) h.2⟩
theorem All2.get {as:List α} {bs:List β} (h:All2 R as bs) {i:Nat} {a:α} (ha:as[i]? = some a):∃ b,bs[i]? = some b∧R a b:=by
 induction as generalizing bs i with
 |nil=>simp at ha
 |cons x as ih=>cases bs with
  |nil=>simp [All2] at h
  |cons b bs=>cases i with
   |zero=>simp at ha;subst ha;exact ⟨b,by simp,h.1⟩
   |succ i=>simpa using ih h.2 (by simpa using ha)
theorem All2.getL {as:List α} {bs:List β} (h:All2 R as bs) {i:Nat} {b:β} (hb:bs[i]? = some b):∃ a,as[i]? = some a∧R a b:=by
 induction as generalizing bs i with
 |nil=>cases bs <;> simp_all [All2]
 |cons x as ih=>cases bs with
  |nil=>simp [All2] at h
  |cons y bs=>cases i with
   |zero=>simp at hb;subst hb;exact ⟨x,by simp,h.1⟩
   |succ i=>simpa using ih h.2 (by simpa using hb)
theorem All2.map {γ:Type} (f:α→γ) {Q:γ→β→Prop} (hR:∀ a b,R a b→Q (f a) b) {as:List α} {bs:List β} (h:All2 R as bs):All2 Q (as.map f) bs:=by
 induction as generalizing bs with
 |nil=>cases bs <;> simp_all [All2]
 |cons a as ih=>cases bs with
  |nil=>simp [All2] at h
  |cons b bs=>exact ⟨hR _ _ h.1,ih h.2⟩
theorem All2.append {as as':List α} {bs bs':List β} (h:All2 R as bs) (h':All2 R as' bs'):All2 R (as++as') (bs++bs'):=by
 induction as generalizing bs with
 |nil=>cases bs <;> simp_all [All2]
 |cons a as ih=>cases bs with
  |nil=>simp [All2] at h
  |cons b bs=>exact ⟨h.1,ih h.2⟩
theorem All2.take {as:List α} {bs:List β} (h:All2 R as bs) (n:Nat):All2 R (as.take n) (bs.take n):=by
 induction as generalizing bs n with
 |nil=>cases bs <;> simp_all [All2]
 |cons a as ih=>cases bs with
  |nil=>simp [All2] at h
  |cons b bs=>cases n with
   |zero=>simp [All2]
   |succ n=>exact ⟨h.1,ih h.2 n⟩
theorem All2.drop {as:List α} {bs:List β} (h:All2 R as bs) (n:Nat):All2 R (as.drop n) (bs.drop n):=by
 induction as generalizing bs n with
 |nil=>cases bs <;> simp_all [All2]
 |cons a as ih=>cases bs with
  |nil=>simp [All2] at h
  |cons b bs=>cases n with
   |zero=>simpa using h
   |succ n=>simpa using ih h.2 n
theorem All2.set {as:List α} {bs:List β} (h:All2 R as bs) (i:Nat) {a:α} {b:β} (hab:R a b):All2 R (as.set i a) (bs.set i b):=by
 induction as generalizing bs i with
 |nil=>cases bs <;> simp_all [All2]
 |cons x as ih=>cases bs with
  |nil=>simp [All2] at h
  |cons y bs=>cases i with
   |zero=>exact ⟨hab,h.2⟩
   |succ i=>exact ⟨h.1,ih h.2 i⟩
theorem All2.of {as:List α} {bs:List β} (hl:as.length=bs.length) (h:∀ (i:Nat) (a:α) (b:β),as[i]? = some a→bs[i]? = some b→R a b):All2 R as bs:=by
 induction as generalizing bs with
 |nil=>cases bs <;> simp_all [All2]
 |cons x as ih=>cases bs with
  |nil=>simp at hl
  |cons y bs=>exact ⟨h 0 x y (by simp) (by simp),ih (by simpa using hl) fun i a b ha hb=>h (i+1) a b (by simpa using ha) (by simpa using hb)⟩
end
def One (v:Value):Prop:=v.oneCell'=true
def DRel (B:Ty×Nat→Prop) (w:World):(t:Ty)→t.den→List Value→Prop
 |.int k,n,ys=>ys=[.int k n]
 |.bool,b,ys=>ys=[.bool b]
 |.str,s,ys=>ys=[.string s]
 |.list a,l,ys=>∃ A c,ys=[.slice A l.length c]∧l.length≤c ∧
   ∀ (i:Nat) (x:a.den),l[i]? = some x→∃ ad zs,A=some ad∧B (a,ad.block)∧DRel B w a x zs∧∀ (j:Nat) (z:Value),zs[j]? = some z→w.cell? (ad.add (i*a.size+j))=some z
 |.pair a b,x,ys=>∃ y1 y2,ys=y1++y2∧DRel B w a x.1 y1∧DRel B w b x.2 y2
 |.one a,x,ys=>DRel B w a x ys
theorem DRel.length {B:Ty×Nat→Prop} {w:World}:∀ {t:Ty} {x:t.den} {ys:List Value},DRel B w t x ys→ys.length=t.size
 |.int _,_,_,h=>by simp only [DRel] at h;subst h;rfl
 |.bool,_,_,h=>by simp only [DRel] at h;subst h;rfl
 |.str,_,_,h=>by simp only [DRel] at h;subst h;rfl
 |.list _,_,_,h=>by obtain ⟨A,c,h,_⟩:=h;subst h;rfl
 |.pair a b,_,_,h=>by obtain ⟨y1,y2,rfl,h1,h2⟩:=h;rw [lA,h1.length,h2.length];rfl
 |.one a,_,_,h=>by simp only [DRel] at h;exact h.length
theorem DRel.one {B:Ty×Nat→Prop} {w:World}:∀ {t:Ty} {x:t.den} {ys:List Value},DRel B w t x ys→∀ y∈ys,One y
 |.int _,_,_,h=>by simp only [DRel] at h;subst h;simp [One,Value.oneCell']
 |.bool,_,_,h=>by simp only [DRel] at h;subst h;simp [One,Value.oneCell']
 |.str,_,_,h=>by simp only [DRel] at h;subst h;simp [One,Value.oneCell']
 |.list _,_,_,h=>by obtain ⟨A,c,h,_⟩:=h;subst h;simp [One,Value.oneCell']
 |.pair a b,_,_,h=>by
  obtain ⟨y1,y2,rfl,h1,h2⟩:=h
  intro y hy
  rcases List.mem_append.1 hy with hy|hy
  ·exact h1.one y hy
  ·exact h2.one y hy
 |.one a,_,_,h=>by simp only [DRel] at h;exact h.one
theorem DRel.mono {B B':Ty×Nat→Prop} {w w':World} (hB:∀ g,B g→B' g) (hw:∀ g,B g→w'.heap[g.2]? = w.heap[g.2]?) :
  ∀ {t:Ty} {x:t.den} {ys:List Value},DRel B w t x ys→DRel B' w' t x ys
 |.int _,_,_,h=>h
 |.bool,_,_,h=>h
 |.str,_,_,h=>h
 |.list a,l,_,h=>by
  obtain ⟨A,c,e,hc,h⟩:=h
  refine ⟨A,c,e,hc,fun i x hx=>?_⟩
  obtain ⟨ad,zs,e1,e2,e3,e4⟩:=h i x hx
  refine ⟨ad,zs,e1,hB _ e2,e3.mono hB hw,fun j z hz=>?_⟩
  rw [← e4 j z hz]
  refine World.cell?_of_block (w:=w) ?_
  have hb:(ad.add (i*a.size+j)).block=ad.block:=by unfold Addr.add;split <;> rfl
  rw [hb]
  exact hw _ e2
 |.pair a b,_,_,h=>by
  obtain ⟨y1,y2,e,h1,h2⟩:=h
  exact ⟨y1,y2,e,h1.mono hB hw,h2.mono hB hw⟩
 |.one a,_,_,h=>by simp only [DRel] at h ⊢;exact h.mono hB hw
theorem DRel.flat {B B':Ty×Nat→Prop} {w w':World}:∀ {t:Ty} {x:t.den} {ys:List Value},t.flat=true→DRel B w t x ys→DRel B' w' t x ys
 |.int _,_,_,_,h=>h
 |.bool,_,_,_,h=>h
 |.str,_,_,_,h=>h
 |.list _,_,_,hf,_=>by simp [Ty.flat] at hf
 |.pair a b,_,_,hf,h=>by
  simp only [Ty.flat,bA] at hf
  obtain ⟨y1,y2,e,h1,h2⟩:=h
  exact ⟨y1,y2,e,h1.flat hf.1,h2.flat hf.2⟩
 |.one a,_,_,hf,h=>by
  simp only [DRel] at h ⊢
  simp only [Ty.flat] at hf
  exact h.flat hf
structure Loc where
 g:Nat
 base:Nat
 cells:Nat
 inn:Nat→Option (Nat×Nat×Nat)
def noI:Nat→Option (Nat×Nat×Nat):=fun _=>none
def Loc.inner (L:Loc) (i:Nat):Option Loc:=(L.inn i).map fun p=>⟨p.1,p.2.1,p.2.2,noI⟩
def Loc.has (L:Loc) (g:Nat):Prop:=L.g=g∨∃ i p,L.inn i=some p∧p.1=g
theorem Loc.has_g (L:Loc):L.has L.g:=.inl rfl
theorem Loc.has_noI {g b c g':Nat} (h:Loc.has ⟨g,b,c,noI⟩ g'):g=g':=h.elim id fun ⟨_,_,h1,_⟩=>by cases h1
def Entry.wide:Entry→Option Nat
 |.row _ _=>none
 |.box cs=>some cs.length
 |.nest _ ll _=>some ll.length
structure Cx where
 m:List (Nat×Entry)
 β:Nat→Option Loc
 B:Ty×Nat→Prop
 w:World
def SlAt (lo:Option Loc) (sz off n:Nat) (x:Value):Prop :=
 ∃ A c,x=.slice A n c∧n≤c∧(c=0∨∃ L,lo=some L∧A=some ⟨L.g,L.base+off*sz,none⟩∧L.base+(off+c)*sz≤L.cells)
def CapAt (m:Nat) (x:Value):Prop:=∃ A n c,x=.slice A n c∧m≤c
def C0 (B:Ty×Nat→Prop) (w:World):V→Value→Prop
 |.int k n,x=>x=.int k n
 |.bool b,x=>x=.bool b
 |.str s,x=>x=.string s
 |.ro t l,x=>DRel B w (.list t) l [x]
 |_,_=>False
def V0 (S:Cx):V→Value→Prop
 |.int k n,x=>x=.int k n
 |.bool b,x=>x=.bool b
 |.str s,x=>x=.string s
 |.ro t l,x=>DRel S.B S.w (.list t) l [x]
 |.nil,x=>x=.slice none 0 0
 |.nilp,x=>x=.pointer none
 |.undef,_=>True
 |.slw e,x=>(∃ t l,look S.m e=some (.row t l)∧SlAt (S.β e) t.size 0 l.length x)∨∃ E n,look S.m e=some E∧E.wide=some n∧SlAt (S.β e) 1 0 n x
 |.sl e o n,x=>(∃ t l,look S.m e=some (.row t l)∧o+n≤l.length∧SlAt (S.β e) t.size o n x∧CapAt (l.length - o) x) ∨
   ∃ t ll k l L,look S.m e=some (.nest t ll k)∧k ≠ some o∧S.β e=some L∧ll[o]? = some l∧l.length=n∧SlAt (L.inner o) t.size 0 n x
 |.ptr e i o,x=>∃ E L,look S.m e=some E∧S.β e=some L∧match E with
  |.row t l=>i<l.length∧o≤t.size∧x=.pointer (some ⟨L.g,L.base+i*t.size+o,none⟩)
  |.box _=>i=0∧x=.pointer (some ⟨L.g,L.base+o,none⟩)
  |.nest _ ll _=>i<ll.length∧o=0∧x=.pointer (some ⟨L.g,L.base+i,none⟩)
 |.rop cs,x=>∃ a k,x=.pointer (some a)∧S.B (k,a.block)∧∀ (j:Nat) v,cs[j]? = some v→∃ y,S.w.cell? (a.add j)=some y∧C0 S.B S.w v y
 |_,_=>False
def V1 (S:Cx) (v:V) (x:Value):Prop :=
 match v with
 |.fn f caps=>∃ ys,x=.func (.func f) #[] ys∧All2 (V0 S) caps ys.toList
 |v=>V0 S v x
def V2 (S:Cx) (v:V) (x:Value):Prop :=
 match v with
 |.agg cs=>∃ ys,x=.agg ys∧All2 (V1 S) cs ys.toList
 |v=>V1 S v x
def V3 (S:Cx) (v:V) (x:Value):Prop :=
 match v with
 |.tup vs=>∃ ys,x=.tuple ys∧All2 (V2 S) vs ys.toList
 |v=>V2 S v x
def V.isFn:V→Bool
 |.fn _ _=>true
 |_=>false
def V.isAgg:V→Bool
 |.agg _=>true
 |_=>false
def V.isTup:V→Bool
 |.tup _=>true
 |_=>false
section
variable {S:Cx} {v:V} {x:Value}
theorem V1.of (h:v.isFn=false) (h0:V0 S v x):V1 S v x:=by
 cases v <;> simp only [V.isFn,Bool.true_eq_false] at h <;> exact h0
theorem V1.cases (hv:V1 S v x):(∃ f caps,v=.fn f caps∧∃ ys,x=.func (.func f) #[] ys∧All2 (V0 S) caps ys.toList)∨(v.isFn=false∧V0 S v x):=by
 cases v <;> first|exact .inr ⟨rfl,hv⟩|exact .inl ⟨_,_,rfl,hv⟩
theorem V2.of (h:v.isAgg=false) (h0:V1 S v x):V2 S v x:=by
 cases v <;> simp only [V.isAgg,Bool.true_eq_false] at h <;> exact h0
theorem V2.cases (hv:V2 S v x):(∃ cs,v=.agg cs∧∃ ys,x=.agg ys∧All2 (V1 S) cs ys.toList)∨(v.isAgg=false∧V1 S v x):=by
 cases v <;> first|exact .inr ⟨rfl,hv⟩|exact .inl ⟨_,rfl,hv⟩
theorem V3.of (h:v.isTup=false) (h0:V2 S v x):V3 S v x:=by
 cases v <;> simp only [V.isTup,Bool.true_eq_false] at h <;> exact h0
theorem V3.cases (hv:V3 S v x):(∃ cs,v=.tup cs∧∃ ys,x=.tuple ys∧All2 (V2 S) cs ys.toList)∨(v.isTup=false∧V2 S v x):=by
 cases v <;> first|exact .inr ⟨rfl,hv⟩|exact .inl ⟨_,rfl,hv⟩
end
def RowAt (S:Cx) (t:Ty) (l:List t.den) (lo:Option Loc):Prop :=
 (l=[]∧lo=none)∨∃ L cs el,lo=some L∧S.w.heap[L.g]? = some (.cells cs el (0,0))∧cs.size=L.cells∧L.base+l.length*t.size≤L.cells ∧
   ∀ (i:Nat) x,l[i]? = some x→∃ zs,DRel S.B S.w t x zs∧∀ (j:Nat) z,zs[j]? = some z→cs[L.base+i*t.size+j]? = some z
def EntOk (S:Cx) (e:Nat) (E:Entry):Prop :=
 match E with
 |.row t l=>(l=[]∧S.β e=none)∨∃ L cs el,S.β e=some L∧S.w.heap[L.g]? = some (.cells cs el (0,0))∧cs.size=L.cells∧L.base+l.length*t.size≤L.cells ∧
   ∀ (i:Nat) x,l[i]? = some x→∃ zs,DRel S.B S.w t x zs∧∀ (j:Nat) z,zs[j]? = some z→cs[L.base+i*t.size+j]? = some z
 |.box vs=>∃ L cs el,S.β e=some L∧S.w.heap[L.g]? = some (.cells cs el (0,0))∧cs.size=L.cells ∧
   ∀ (j:Nat) v,vs[j]? = some v→∃ y,cs[L.base+j]? = some y∧V1 S v y∧One y
 |.nest t ll k=>∃ L cs el,S.β e=some L∧S.w.heap[L.g]? = some (.cells cs el (0,0))∧cs.size=L.cells∧L.base+ll.length≤L.cells ∧
   (∀ i p,L.inn i=some p→p.1 ≠ L.g∧k ≠ some i∧i<ll.length)∧(∀ i i' p p',L.inn i=some p→L.inn i'=some p'→p.1=p'.1→i=i') ∧
   ∀ (i:Nat) l,ll[i]? = some l→k ≠ some i→RowAt S t l (L.inner i)∧∃ z,cs[L.base+i]? = some z∧SlAt (L.inner i) t.size 0 l.length z
structure Frm where
 w0:World
 G:Nat→Prop
 hid:Ty×Nat→Prop
 hidOk:∀ g,hid g→g.2<w0.heap.size∧¬ G g.2
structure FrmOk (C:Frm) (w:World):Prop where
 os:w.os=C.w0.os
 tape:w.tape=C.w0.tape
 output:w.output=C.w0.output
 size:C.w0.heap.size≤w.heap.size
 block:∀ g,g<C.w0.heap.size→¬ C.G g→w.heap[g]? = C.w0.heap[g]?
def Own (m:List (Nat×Entry)) (β:Nat→Option Loc) (g:Nat):Prop:=∃ e L,(look m e).isSome=true∧β e=some L∧L.has g
def Frzd (lo:Nat) (w:World) (b:Nat):Prop:=lo≤b∧∃ cs el fz,w.heap[b]? = some (.cells cs el fz)∧fz ≠ (0,0)
theorem Frzd.same {lo:Nat} {w w':World} {b:Nat} (h:w'.heap[b]? = w.heap[b]?) (hf:Frzd lo w' b):Frzd lo w b:=⟨hf.1,by rw [← h];exact hf.2⟩
theorem Frzd.not {lo:Nat} {w:World} {b:Nat} {cs:Array Value} {el:TypeId} (h:w.heap[b]? = some (.cells cs el (0,0))) (hf:Frzd lo w b):False:=by
 obtain ⟨_,cs',el',fz,h1,h2⟩:=hf
 rw [h] at h1
 injection h1 with h1
 injection h1 with _ _ h1
 exact h2 h1.symm
def Free (C:Frm) (m:List (Nat×Entry)) (β:Nat→Option Loc) (w:World) (g:Ty×Nat):Prop:=g.2<w.heap.size∧¬ (Own m β g.2∨(C.hid g∨Frzd C.w0.heap.size w g.2))
def FrRel (S:Cx) (fr:List V) (tmps:Array Value):Prop:=fr.length≤tmps.size∧∀ t,V3 S (fr.getD t .undef) (tmps.getD t undef)
structure Sim (C:Frm) (β:Nat→Option Loc) (σ:St) (as:List (Array Value)) (w:World):Prop where
 frm:FrmOk C w
 fr:All2 (FrRel ⟨σ.mem,β,Free C σ.mem β w,w⟩) (σ.fr::σ.outs) as
 ent:∀ e E,look σ.mem e=some E→EntOk ⟨σ.mem,β,Free C σ.mem β w,w⟩ e E
 inj:∀ e e' L L' g,(look σ.mem e).isSome=true→(look σ.mem e').isSome=true→β e=some L→β e'=some L'→L.has g→L'.has g→e=e'
 own:∀ e L g,(look σ.mem e).isSome=true→β e=some L→L.has g→g<w.heap.size∧(C.w0.heap.size≤g∨C.G g)
def Entry.like:Entry→Entry→Prop
 |.row t l,.row t' l'=>∃ h:t=t',l.length=l'.length∧h=h
 |.box cs,.box cs'=>cs.length=cs'.length
 |.nest t ll k,E=>E=.nest t ll k
 |_,_=>False
theorem Entry.like_refl (E:Entry):E.like E:=by cases E <;> simp [Entry.like]
structure Keeps (S S':Cx):Prop where
 m:∀ e E,look S.m e=some E→∃ E',look S'.m e=some E'∧E.like E'
 β:∀ e,(look S.m e).isSome=true→S'.β e=S.β e
 B:∀ g,S.B g→S'.B g
 w:∀ g,S.B g→S'.w.heap[g.2]? = S.w.heap[g.2]?
theorem Keeps.row {S S':Cx} (h:Keeps S S') {e:Nat} {t:Ty} {l:List t.den} (hl:look S.m e=some (.row t l)):∃ l',look S'.m e=some (.row t l')∧l.length=l'.length:=by
 obtain ⟨E',h1,h2⟩:=h.m e _ hl
 cases E' with
 |row t' l' =>
  obtain ⟨ht,h2,_⟩:=h2
  subst ht
  exact ⟨l',h1,h2⟩
 |box cs=>simp [Entry.like] at h2
 |nest t ll k=>simp [Entry.like] at h2
theorem Keeps.wide {S S':Cx} (h:Keeps S S') {e n:Nat} {E:Entry} (hl:look S.m e=some E) (hw:E.wide=some n):∃ E',look S'.m e=some E'∧E'.wide=some n:=by
 obtain ⟨E',h1,h2⟩:=h.m e _ hl
 refine ⟨E',h1,?_⟩
 cases E with
 |row t l=>cases hw
 |box cs=>cases E' with
  |box cs' =>
   have h2:cs.length=cs'.length:=h2
   rw [← hw]
   show some cs'.length=some cs.length
   rw [h2]
  |_=>simp [Entry.like] at h2
 |nest t ll k =>
  have h2:E'=.nest t ll k:=h2
  rw [h2]
  exact hw
theorem Keeps.nest {S S':Cx} (h:Keeps S S') {e:Nat} {t:Ty} {ll:List (List t.den)} {k:Option Nat} (hl:look S.m e=some (.nest t ll k)):look S'.m e=some (.nest t ll k):=by
 obtain ⟨E',h1,h2⟩:=h.m e _ hl
 have h2:E'=.nest t ll k:=h2
 rw [← h2]
 exact h1
theorem Keeps.is {S S':Cx} (h:Keeps S S') {e:Nat} {E:Entry} (hl:look S.m e=some E):S'.β e=S.β e:=h.β e (by simp [hl])
theorem C0.keeps {S S':Cx} (h:Keeps S S') {v:V} {x:Value} (hv:C0 S.B S.w v x):C0 S'.B S'.w v x:=by
 cases v <;> simp only [C0] at hv ⊢ <;> first|exact hv|exact hv.mono h.B h.w
theorem cell_block {w w':World} {a:Addr} {j:Nat} (h:w'.heap[a.block]? = w.heap[a.block]?):w'.cell? (a.add j)=w.cell? (a.add j):=by
 refine World.cell?_of_block (w:=w) ?_
 have hb:(a.add j).block=a.block:=by unfold Addr.add;split <;> rfl
 rw [hb,h]
theorem V0.keeps {S S':Cx} (h:Keeps S S') {v:V} {x:Value} (hv:V0 S v x):V0 S' v x:=by
 cases v with
 |ro t l=>exact DRel.mono h.B h.w hv
 |slw e =>
  rcases hv with ⟨t,l,hl,hs⟩|⟨E,n,hl,hw,hs⟩
  ·obtain ⟨l',hl',he⟩:=h.row hl
   exact .inl ⟨t,l',hl',by rw [h.is hl,← he];exact hs⟩
  ·obtain ⟨E',h1,h2⟩:=h.wide hl hw
   exact .inr ⟨E',n,h1,h2,by rw [h.is hl];exact hs⟩
 |sl e o n =>
  rcases hv with ⟨t,l,hl,ho,hs,hcap⟩|⟨t,ll,k,l,L,hl,hk,hL,hll,hn,hs⟩
  ·obtain ⟨l',hl',he⟩:=h.row hl
   exact .inl ⟨t,l',hl',by omega,by rw [h.is hl];exact hs,by rw [← he];exact hcap⟩
  ·exact .inr ⟨t,ll,k,l,L,h.nest hl,hk,by rw [h.is hl];exact hL,hll,hn,hs⟩
 |ptr e i o =>
  obtain ⟨E,L,hl,hL,hx⟩:=hv
  obtain ⟨E',h1,h2⟩:=h.m e _ hl
  refine ⟨E',L,h1,by rw [h.is hl];exact hL,?_⟩
  cases E with
  |row t l=>cases E' with
   |row t' l' =>
    obtain ⟨ht,h2,_⟩:=h2
    subst ht
    exact ⟨by have:=hx.1;omega,hx.2⟩
   |box _=>simp [Entry.like] at h2
   |nest _ _ _=>simp [Entry.like] at h2
  |box cs=>cases E' with
   |row t' l'=>simp [Entry.like] at h2
   |box _=>exact hx
   |nest _ _ _=>simp [Entry.like] at h2
  |nest t ll k =>
   have h2:E'=.nest t ll k:=h2
   subst h2
   exact hx
 |rop cs =>
  obtain ⟨a,k,hx,hB,hc⟩:=hv
  refine ⟨a,k,hx,h.B _ hB,fun j v hj=>?_⟩
  obtain ⟨y,hy,h0⟩:=hc j v hj
  exact ⟨y,by rw [cell_block (h.w _ hB)];exact hy,h0.keeps h⟩
 |_=>exact hv
theorem V1.keeps {S S':Cx} (h:Keeps S S') {v:V} {x:Value} (hv:V1 S v x):V1 S' v x:=by
 rcases V1.cases hv with ⟨f,caps,rfl,ys,hx,ha⟩|⟨h1,h0⟩
 ·exact ⟨ys,hx,ha.mono fun _ _=>V0.keeps h⟩
 ·exact V1.of h1 (V0.keeps h h0)
theorem V2.keeps {S S':Cx} (h:Keeps S S') {v:V} {x:Value} (hv:V2 S v x):V2 S' v x:=by
 rcases V2.cases hv with ⟨cs,rfl,ys,hx,ha⟩|⟨h1,h0⟩
 ·exact ⟨ys,hx,ha.mono fun _ _=>V1.keeps h⟩
 ·exact V2.of h1 (V1.keeps h h0)
theorem V3.keeps {S S':Cx} (h:Keeps S S') {v:V} {x:Value} (hv:V3 S v x):V3 S' v x:=by
 rcases V3.cases hv with ⟨cs,rfl,ys,hx,ha⟩|⟨h1,h0⟩
 ·exact ⟨ys,hx,ha.mono fun _ _=>V2.keeps h⟩
 ·exact V3.of h1 (V2.keeps h h0)
theorem FrRel.keeps {S S':Cx} (h:Keeps S S') {fr:List V} {tmps:Array Value} (hv:FrRel S fr tmps):FrRel S' fr tmps:=⟨hv.1,fun t=>(hv.2 t).keeps h⟩
theorem Loc.has_inner (L:Loc) {i:Nat} {L':Loc} (h:L.inner i=some L') {g:Nat} (hg:L'.has g):L.has g:=by
 unfold Loc.inner at h
 cases hp:L.inn i with
 |none=>rw [hp] at h;cases h
 |some p =>
  rw [hp] at h
  have h:=oJ h
  subst h
  exact .inr ⟨i,p,hp,Loc.has_noI hg⟩
theorem RowAt.mono {S S':Cx} (hB:∀ g,S.B g→S'.B g) (hw:∀ g,S.B g→S'.w.heap[g.2]? = S.w.heap[g.2]?) {t:Ty} {l:List t.den} {lo:Option Loc} (hb:∀ L g,lo=some L→L.has g→S'.w.heap[g]? = S.w.heap[g]?) (h:RowAt S t l lo):RowAt S' t l lo:=by
 rcases h with h|⟨L,cs,el,h1,h2,h3,h4,h5⟩
 ·exact .inl h
 ·refine .inr ⟨L,cs,el,h1,by rw [hb L _ h1 L.has_g];exact h2,h3,h4,fun i x hx=>?_⟩
  obtain ⟨zs,hz,hc⟩:=h5 i x hx
  exact ⟨zs,hz.mono hB hw,hc⟩
theorem EntOk.keeps {S S':Cx} (h:Keeps S S') {e:Nat} {E:Entry} (hl:look S.m e=some E) (hb:∀ L g,S.β e=some L→L.has g→S'.w.heap[g]? = S.w.heap[g]?) (hv:EntOk S e E):EntOk S' e E:=by
 cases E with
 |row t l =>
  rcases hv with ⟨h0,h1⟩|⟨L,cs,el,h1,h2,h3,h4,h5⟩
  ·exact .inl ⟨h0,by rw [h.is hl];exact h1⟩
  ·refine .inr ⟨L,cs,el,by rw [h.is hl];exact h1,by rw [hb L _ h1 L.has_g];exact h2,h3,h4,fun i x hx=>?_⟩
   obtain ⟨zs,hz,hc⟩:=h5 i x hx
   exact ⟨zs,hz.mono h.B h.w,hc⟩
 |box vs =>
  obtain ⟨L,cs,el,h1,h2,h3,h5⟩:=hv
  refine ⟨L,cs,el,by rw [h.is hl];exact h1,by rw [hb L _ h1 L.has_g];exact h2,h3,fun j v hj=>?_⟩
  obtain ⟨y,hy,h0,ho⟩:=h5 j v hj
  exact ⟨y,hy,h0.keeps h,ho⟩
 |nest t ll k =>
  obtain ⟨L,cs,el,h1,h2,h3,h4,h5,h6,h7⟩:=hv
  refine ⟨L,cs,el,by rw [h.is hl];exact h1,by rw [hb L _ h1 L.has_g];exact h2,h3,h4,h5,h6,fun i l hi hk=>?_⟩
  obtain ⟨h8,h9⟩:=h7 i l hi hk
  exact ⟨h8.mono h.B h.w fun L' g hL' hg=>hb L g h1 (L.has_inner hL' hg),h9⟩
theorem look_dropE_same (m:List (Nat×Entry)) (e:Nat):look (dropE m e) e=none:=by
 induction m with
 |nil=>rfl
 |cons p m ih =>
  obtain ⟨k,x⟩:=p
  by_cases hk:(k==e)=true
  ·simp [dropE,hk,ih]
  ·simp only [Bool.not_eq_true] at hk
   simp [dropE,look,hk,ih]
theorem look_dropE_other (m:List (Nat×Entry)) {e e':Nat} (h:e' ≠ e):look (dropE m e) e'=look m e':=by
 induction m with
 |nil=>rfl
 |cons p m ih =>
  obtain ⟨k,x⟩:=p
  by_cases hk:(k==e)=true
  ·have hk':(k==e')=false:=by
    simp only [beq_iff_eq] at hk;subst hk;simpa using fun h'=>h h'.symm
   simp [dropE,look,hk,hk',ih]
  ·simp only [Bool.not_eq_true] at hk
   by_cases hk':(k==e')=true
   ·simp [dropE,look,hk,hk']
   ·simp only [Bool.not_eq_true] at hk'
    simp [dropE,look,hk,hk',ih]
theorem look_cons (m:List (Nat×Entry)) (e e':Nat) (x:Entry):look ((e,x)::m) e'=if e=e' then some x else look m e':=by
 by_cases h:e=e'
 ·subst h;simp [look]
 ·have:(e==e')=false:=by simpa using h
  simp [look,this,h]
theorem look_updE (m:List (Nat×Entry)) (e e':Nat) (x:Entry):look (updE m e x) e'=if e=e'∧(look m e).isSome=true then some x else look m e':=by
 induction m with
 |nil=>simp [updE,look]
 |cons p m ih =>
  obtain ⟨k,y⟩:=p
  by_cases hk:k=e
  ·subst hk
   by_cases h:k=e'
   ·subst h;simp [updE,look]
   ·have:(k==e')=false:=by simpa using h
    simp [updE,look,this,h]
  ·have hk':(k==e)=false:=by simpa using hk
   simp only [updE,hk',cond_false,look]
   by_cases h:k=e'
   ·subst h
    have:¬ e=k:=fun h=>hk h.symm
    simp [this]
   ·have h':(k==e')=false:=by simpa using h
    simp only [h',cond_false,ih]
theorem updE_self:∀ {m:List (Nat×Entry)} {e:Nat} {x:Entry},look m e=some x→updE m e x=m
 | [],_,_,h=>by cases h
 |(k,y)::m,e,x,h=>by
  simp only [look,updE] at h ⊢
  by_cases hk:k=e
  ·subst hk
   simp only [beq_self_eq_true,cond_true,sI] at h ⊢
   rw [h]
  ·have hb:(k==e)=false:=by simpa using hk
   simp only [hb,cond_false] at h ⊢
   rw [updE_self h]
theorem look_map (m:List (Nat×Entry)) (f:Entry→Entry) (e:Nat):look (m.map fun p=>(p.1,f p.2)) e=(look m e).map f:=by
 induction m with
 |nil=>rfl
 |cons p m ih =>
  obtain ⟨k,x⟩:=p
  by_cases hk:(k==e)=true
  ·simp [look,hk]
  ·simp only [Bool.not_eq_true] at hk
   simp [look,hk,ih]
open Go.RowKit
abbrev cx (C:Frm) (β:Nat→Option Loc) (σ:St) (w:World):Cx:=⟨σ.mem,β,Free C σ.mem β w,w⟩
section
variable {S S':Cx} {v:V} {x:Value}
theorem V0.isFn (h:V0 S v x):v.isFn=false:=by cases v <;> first|rfl|exact h.elim
theorem V0.isAgg (h:V0 S v x):v.isAgg=false:=by cases v <;> first|rfl|exact h.elim
theorem V0.isTup (h:V0 S v x):v.isTup=false:=by cases v <;> first|rfl|exact h.elim
theorem V1.isAgg (h:V1 S v x):v.isAgg=false:=by cases v <;> first|rfl|exact h.elim
theorem V1.isTup (h:V1 S v x):v.isTup=false:=by cases v <;> first|rfl|exact h.elim
theorem V2.isTup (h:V2 S v x):v.isTup=false:=by cases v <;> first|rfl|exact h.elim
theorem V1.of0 (h:V0 S v x):V1 S v x:=V1.of h.isFn h
theorem V2.of1 (h:V1 S v x):V2 S v x:=V2.of h.isAgg h
theorem V3.of2 (h:V2 S v x):V3 S v x:=V3.of h.isTup h
theorem V2.of0 (h:V0 S v x):V2 S v x:=.of1 (.of0 h)
theorem V3.of0 (h:V0 S v x):V3 S v x:=.of2 (.of0 h)
theorem V3.of1 (h:V1 S v x):V3 S v x:=.of2 (.of1 h)
theorem V3.undef:V3 S .undef x:=trivial
theorem V1.map {g:V→V} (hg:∀ v x,V0 S v x→V0 S' (g v) x) (h:V1 S v x):V1 S' (v.mapC g) x:=by
 rcases V1.cases h with ⟨f,caps,rfl,ys,hx,ha⟩|⟨h1,h0⟩
 ·exact ⟨ys,hx,ha.map g hg⟩
 ·have:v.mapC g=g v:=by cases v <;> first|rfl|simp [V.isFn] at h1
  rw [this]
  exact .of0 (hg _ _ h0)
theorem V2.map {g:V→V} (hg:∀ v x,V0 S v x→V0 S' (g v) x) (h:V2 S v x):V2 S' (v.mapA g) x:=by
 rcases V2.cases h with ⟨cs,rfl,ys,hx,ha⟩|⟨h1,h0⟩
 ·exact ⟨ys,hx,ha.map (V.mapC g) fun a b h=>V1.map (v:=a) (x:=b) hg h⟩
 ·have:v.mapA g=v.mapC g:=by cases v <;> first|rfl|simp [V.isAgg] at h1
  rw [this]
  exact .of1 (h0.map hg)
theorem V3.map {g:V→V} (hg:∀ v x,V0 S v x→V0 S' (g v) x) (h:V3 S v x):V3 S' (v.map1 g) x:=by
 rcases V3.cases h with ⟨cs,rfl,ys,hx,ha⟩|⟨h1,h0⟩
 ·exact ⟨ys,hx,ha.map (V.mapA g) fun a b h=>V2.map (v:=a) (x:=b) hg h⟩
 ·have:v.map1 g=v.mapA g:=by cases v <;> first|rfl|simp [V.isTup] at h1
  rw [this]
  exact .of2 (h0.map hg)
theorem FrRel.map {g:V→V} (hg:∀ v x,V0 S v x→V0 S' (g v) x) (hu:g .undef=.undef) {fr:List V} {tmps:Array Value} (h:FrRel S fr tmps):FrRel S' (fr.map (V.map1 g)) tmps:=by
 refine ⟨by simpa using h.1,fun t=>?_⟩
 have h1:=(h.2 t).map hg
 have h2:(fr.map (V.map1 g)).getD t .undef=(fr.getD t .undef).map1 g:=by
  have h3:V.undef.map1 g=.undef:=hu
  simp only [List.getD_eq_getElem?_getD,List.getElem?_map]
  cases fr[t]? with
  |none=>simp [h3]
  |some v=>simp
 rw [h2]
 exact h1
end
section
variable {C:Frm} {β:Nat→Option Loc} {σ:St} {as:List (Array Value)} {w:World}
theorem Sim.top {a:Array Value} (h:Sim C β σ (a::as) w):FrRel (cx C β σ w) σ.fr a:=h.fr.1
theorem Sim.get {a:Array Value} (h:Sim C β σ (a::as) w) (t:Nat):V3 (cx C β σ w) (σ.get t) (a.getD t undef):=h.top.2 t
theorem Sim.set {a:Array Value} (h:Sim C β σ (a::as) w) (t:Nat) {v:V} {x:Value} (hv:V3 (cx C β σ w) v x):Sim C β (σ.set t v) (a.setIfInBounds t x::as) w:=by
 refine ⟨h.frm,⟨⟨by simpa [St.set] using h.top.1,fun s=>?_⟩,h.fr.2⟩,h.ent,h.inj,h.own⟩
 have h0:=h.top.2 s
 have hl:=h.top.1
 show V3 _ ((σ.fr.set t v).getD s .undef) ((a.setIfInBounds t x).getD s undef)
 simp only [List.getD_eq_getElem?_getD,List.getElem?_set]
 by_cases hs:t=s
 ·subst hs
  by_cases hb:t<σ.fr.length
  ·have hb':t<a.size:=by omega
   simp only [if_true,hb,Option.getD_some]
   have:(a.setIfInBounds t x).getD t undef=x:=by simp [hb']
   rw [this];exact hv
  ·simp only [if_true,hb,if_false,Option.getD_none]
   exact V3.undef
 ·simp only [hs,if_false]
  have:(a.setIfInBounds t x).getD s undef=a.getD s undef:=by
   simp only [Array.getD_eq_getD_getElem?,Array.getElem?_setIfInBounds,hs,if_false]
  rw [this]
  rw [List.getD_eq_getElem?_getD] at h0
  exact h0
theorem Sim.mapW (h:Sim C β σ as w) (g:V→V) (m':List (Nat×Entry)) (β':Nat→Option Loc) (old:Nat→Nat) {w':World}
  (hfrm:FrmOk C w') (hsz:w.heap.size≤w'.heap.size) (hfz:∀ gg,Free C σ.mem β w gg→w'.heap[gg.2]? = w.heap[gg.2]?)
  (hu:g .undef=.undef)
  (hm:∀ e',(look m' e').isSome=true→(look σ.mem (old e')).isSome=true∧∀ L',β' e'=some L'→∃ L,β (old e')=some L∧∀ g,L'.has g→L.has g)
  (hinj:∀ e1 e2,(look m' e1).isSome=true→(look m' e2).isSome=true→old e1=old e2→e1=e2)
  (hV0:(∀ gg,Free C σ.mem β w gg→Free C m' β' w' gg)→∀ v x,V0 (cx C β σ w) v x→V0 ⟨m',β',Free C m' β' w',w'⟩ (g v) x)
  (hent:(∀ gg,Free C σ.mem β w gg→Free C m' β' w' gg)→∀ e' E',look m' e'=some E'→EntOk ⟨m',β',Free C m' β' w',w'⟩ e' E') :
  Sim C β' { fr:=σ.fr.map (V.map1 g),outs:=σ.outs.map (List.map (V.map1 g)),mem:=m' } as w':=by
 have hF:∀ gg,Free C σ.mem β w gg→Free C m' β' w' gg:=by
  rintro gg ⟨h1,h2⟩
  refine ⟨Nat.lt_of_lt_of_le h1 hsz,?_⟩
  refine fun hoh=>h2 (hoh.imp ?_ (Or.imp id (Frzd.same (hfz gg ⟨h1,h2⟩))))
  rintro ⟨e',L',h3,h4,h5⟩
  obtain ⟨h6,h7⟩:=hm e' h3
  obtain ⟨L,h8,h9⟩:=h7 L' h4
  exact ⟨old e',L,h6,h8,h9 _ h5⟩
 refine ⟨hfrm,?_,hent hF,?_,?_⟩
 ·have:=h.fr.map (List.map (V.map1 g)) (Q:=FrRel ⟨m',β',Free C m' β' w',w'⟩) fun fr tmps hr=>hr.map (hV0 hF) hu
  simpa using this
 ·intro e e' L L' g h1 h2 h3 h4 h5 h5'
  obtain ⟨h6,h7⟩:=hm e h1
  obtain ⟨h8,h9⟩:=hm e' h2
  obtain ⟨L1,h10,h11⟩:=h7 L h3
  obtain ⟨L2,h12,h13⟩:=h9 L' h4
  exact hinj e e' h1 h2 (h.inj _ _ L1 L2 g h6 h8 h10 h12 (h11 g h5) (h13 g h5'))
 ·intro e L g h1 h2 h3
  obtain ⟨h6,h7⟩:=hm e h1
  obtain ⟨L1,h10,h11⟩:=h7 L h2
  exact ⟨Nat.lt_of_lt_of_le (h.own _ L1 g h6 h10 (h11 g h3)).1 hsz,(h.own _ L1 g h6 h10 (h11 g h3)).2⟩
theorem Sim.map (h:Sim C β σ as w) (g:V→V) (m':List (Nat×Entry)) (β':Nat→Option Loc) (old:Nat→Nat)
  (hu:g .undef=.undef)
  (hm:∀ e',(look m' e').isSome=true→(look σ.mem (old e')).isSome=true∧∀ L',β' e'=some L'→∃ L,β (old e')=some L∧∀ g,L'.has g→L.has g)
  (hinj:∀ e1 e2,(look m' e1).isSome=true→(look m' e2).isSome=true→old e1=old e2→e1=e2)
  (hV0:(∀ gg,Free C σ.mem β w gg→Free C m' β' w gg)→∀ v x,V0 (cx C β σ w) v x→V0 ⟨m',β',Free C m' β' w,w⟩ (g v) x)
  (hent:(∀ gg,Free C σ.mem β w gg→Free C m' β' w gg)→∀ e' E',look m' e'=some E'→EntOk ⟨m',β',Free C m' β' w,w⟩ e' E') :
  Sim C β' { fr:=σ.fr.map (V.map1 g),outs:=σ.outs.map (List.map (V.map1 g)),mem:=m' } as w :=
 h.mapW g m' β' old h.frm (Nat.le_refl _) (fun _ _=>rfl) hu hm hinj hV0 hent
theorem EntOk.map {S S':Cx} {g:V→V} {e e':Nat} {E:Entry} (hg:∀ v x,V0 S v x→V0 S' (g v) x) (hB:∀ gg,S.B gg→S'.B gg) (hw:∀ gg,S.B gg→S'.w.heap[gg.2]? = S.w.heap[gg.2]?) (hb:∀ L g,S.β e=some L→L.has g→S'.w.heap[g]? = S.w.heap[g]?) (hβ:S'.β e'=S.β e) (h:EntOk S e E):EntOk S' e' (E.map1 g):=by
 cases E with
 |row t l =>
  rcases h with ⟨h0,h1⟩|⟨L,cs,el,h1,h2,h3,h4,h5⟩
  ·exact .inl ⟨h0,by rw [hβ];exact h1⟩
  ·refine .inr ⟨L,cs,el,by rw [hβ];exact h1,by rw [hb L _ h1 L.has_g];exact h2,h3,h4,fun i x hx=>?_⟩
   obtain ⟨zs,hz,hc⟩:=h5 i x hx
   exact ⟨zs,hz.mono hB hw,hc⟩
 |box vs =>
  obtain ⟨L,cs,el,h1,h2,h3,h5⟩:=h
  refine ⟨L,cs,el,by rw [hβ];exact h1,by rw [hb L _ h1 L.has_g];exact h2,h3,fun j v hj=>?_⟩
  rw [List.getElem?_map] at hj
  cases hv:vs[j]? with
  |none=>simp [hv] at hj
  |some u =>
   simp only [hv,Option.map_some,sI] at hj
   subst hj
   obtain ⟨y,hy,h0,ho⟩:=h5 j u hv
   exact ⟨y,hy,h0.map hg,ho⟩
 |nest t ll k =>
  obtain ⟨L,cs,el,h1,h2,h3,h4,h5,h6,h7⟩:=h
  refine ⟨L,cs,el,by rw [hβ];exact h1,by rw [hb L _ h1 L.has_g];exact h2,h3,h4,h5,h6,fun i l hi hk=>?_⟩
  obtain ⟨h8,h9⟩:=h7 i l hi hk
  exact ⟨h8.mono hB hw fun L' g hL' hg=>hb L g h1 (L.has_inner hL' hg),h9⟩
theorem wide_map1 (g:V→V) (E:Entry):(E.map1 g).wide=E.wide:=by
 cases E <;> simp [Entry.wide,Entry.map1]
theorem row_of_map {m:List (Nat×Entry)} {e:Nat} {g:V→V} {t:Ty} {l:List t.den} (h:look m e=some (.row t l)):(look m e).map (Entry.map1 g)=some (.row t l):=by rw [h];rfl
def refOf:V→Option Nat
 |.slw e=>some e
 |.sl e _ _=>some e
 |.ptr e _ _=>some e
 |_=>none
theorem V0.other {S S':Cx} {g:V→V} (hB:∀ gg,S.B gg→S'.B gg) (hw:∀ gg,S.B gg→S'.w.heap[gg.2]? = S.w.heap[gg.2]?) {v:V} {x:Value} (h:V0 S v x)
  (hv:∀ e,refOf v=some e→look S'.m e=(look S.m e).map (Entry.map1 g)∧S'.β e=S.β e):V0 S' v x:=by
 cases v with
 |slw e =>
  obtain ⟨h1,h2⟩:=hv e rfl
  rcases h with ⟨t,l,hl,hs⟩|⟨E,n,hl,hw,hs⟩
  ·exact .inl ⟨t,l,by rw [h1];exact row_of_map hl,by rw [h2];exact hs⟩
  ·exact .inr ⟨E.map1 g,n,by rw [h1,hl];rfl,by rw [wide_map1];exact hw,by rw [h2];exact hs⟩
 |sl e o n =>
  obtain ⟨h1,h2⟩:=hv e rfl
  rcases h with ⟨t,l,hl,ho,hs,hcap⟩|⟨t,ll,k,l,L,hl,hk,hL,hll,hn,hs⟩
  ·exact .inl ⟨t,l,by rw [h1];exact row_of_map hl,ho,by rw [h2];exact hs,hcap⟩
  ·exact .inr ⟨t,ll,k,l,L,by rw [h1,hl];rfl,hk,by rw [h2];exact hL,hll,hn,hs⟩
 |ptr e i o =>
  obtain ⟨h1,h2⟩:=hv e rfl
  obtain ⟨E,L,hl,hL,hx⟩:=h
  refine ⟨E.map1 g,L,by rw [h1,hl];rfl,by rw [h2];exact hL,?_⟩
  cases E <;> exact hx
 |ro t l=>exact DRel.mono hB hw h
 |rop cs =>
  obtain ⟨a,k,hx,hb,hc⟩:=h
  refine ⟨a,k,hx,hB _ hb,fun j v hj=>?_⟩
  obtain ⟨y,hy,h0⟩:=hc j v hj
  refine ⟨y,by rw [cell_block (hw _ hb)];exact hy,?_⟩
  cases v <;> simp only [C0] at h0 ⊢ <;> first|exact h0|exact h0.mono hB hw
 |_=>exact h
theorem killV_other {e:Nat} {v:V} (h:refOf v ≠ some e):killV e v=v:=by
 cases v <;> first|rfl|(simp only [refOf,ne_eq,sI] at h;rw [← Ne,← beq_eq_false_iff_ne] at h;simp [killV,h])
theorem frzV_other {e:Nat} {t:Ty} {l:List t.den} {v:V} (h:refOf v ≠ some e):frzV e t l v=v:=by
 cases v <;> first|rfl|(simp only [refOf,ne_eq,sI] at h;rw [← Ne,← beq_eq_false_iff_ne] at h;simp [frzV,h])
theorem renV_other {e e2:Nat} {v:V} (h:refOf v ≠ some e) (h2:refOf v ≠ some e2):renV e e2 v=v:=by
 cases v <;> first|rfl|(simp only [refOf,ne_eq,sI] at h h2;rw [← Ne,← beq_eq_false_iff_ne] at h h2;simp [renV,h,h2])
theorem Sim.less (h:Sim C β σ as w) (e:Nat) (g:V→V) (hu:g .undef=.undef) (hg:∀ v,refOf v ≠ some e→g v=v)
  (he:(∀ gg,Free C σ.mem β w gg→Free C ((dropE σ.mem e).map fun p=>(p.1,p.2.map1 g)) β w gg)→∀ v x,refOf v=some e→V0 (cx C β σ w) v x→V0 ⟨(dropE σ.mem e).map fun p=>(p.1,p.2.map1 g),β,Free C ((dropE σ.mem e).map fun p=>(p.1,p.2.map1 g)) β w,w⟩ (g v) x) :
  Sim C β (St.map1 g { σ with mem:=dropE σ.mem e }) as w:=by
 have lk:∀ e',look ((dropE σ.mem e).map fun p=>(p.1,p.2.map1 g)) e'=if e'=e then none else (look σ.mem e').map (Entry.map1 g):=by
  intro e'
  rw [look_map]
  by_cases h:e'=e
  ·subst h;simp [look_dropE_same]
  ·simp [look_dropE_other _ h,h]
 have hs:∀ e',(look ((dropE σ.mem e).map fun p=>(p.1,p.2.map1 g)) e').isSome=true→e' ≠ e∧(look σ.mem e').isSome=true:=by
  intro e' h1
  rw [lk] at h1
  by_cases he:e'=e
  ·simp [he] at h1
  ·simp only [he,if_false,Option.isSome_map] at h1
   exact ⟨he,h1⟩
 have key:(∀ gg,Free C σ.mem β w gg→Free C ((dropE σ.mem e).map fun p=>(p.1,p.2.map1 g)) β w gg)→∀ v x,V0 (cx C β σ w) v x→V0 ⟨(dropE σ.mem e).map fun p=>(p.1,p.2.map1 g),β,Free C ((dropE σ.mem e).map fun p=>(p.1,p.2.map1 g)) β w,w⟩ (g v) x:=by
  intro hF v x hv
  by_cases hr:refOf v=some e
  ·exact he hF v x hr hv
  ·rw [hg v hr]
   refine V0.other (S:=cx C β σ w) (S':=⟨(dropE σ.mem e).map fun p=>(p.1,p.2.map1 g),β,Free C ((dropE σ.mem e).map fun p=>(p.1,p.2.map1 g)) β w,w⟩) (g:=g) hF (fun _ _=>rfl) hv fun e' he'=>⟨?_,rfl⟩
   show look ((dropE σ.mem e).map fun p=>(p.1,p.2.map1 g)) e'=_
   rw [lk,if_neg (fun he2=>hr (by rw [he',he2]))]
 refine h.map g _ β id hu (fun e' h1=>⟨(hs e' h1).2,fun L hL=>⟨L,hL,fun _ hg=>hg⟩⟩) (fun _ _ _ _ h1=>h1) key fun hF e' E' hE=>?_
 have h1:=hs e' (by rw [hE];rfl)
 rw [lk,if_neg h1.1] at hE
 cases hl:look σ.mem e' with
 |none=>simp [hl] at hE
 |some E =>
  simp only [hl,Option.map_some,sI] at hE
  subst hE
  exact (h.ent e' E hl).map (S:=cx C β σ w) (e:=e') (key hF) hF (fun _ _=>rfl) (fun _ _ _ _=>rfl) rfl
theorem Sim.kill (h:Sim C β σ as w) (e:Nat):Sim C β (σ.kill e) as w :=
 h.less e (killV e) rfl (fun _=>killV_other) fun _ v x hr _=>by
  cases v <;> simp only [refOf,sI,reduceCtorEq] at hr <;> subst hr <;> simp [killV,V0]
theorem look_kill (σ:St) (e e':Nat):look (σ.kill e).mem e'=if e'=e then none else (look σ.mem e').map (Entry.map1 (killV e)):=by
 show look ((dropE σ.mem e).map fun p=>(p.1,p.2.map1 (killV e))) e'=_
 rw [look_map]
 by_cases h:e'=e
 ·subst h;simp [look_dropE_same]
 ·simp [look_dropE_other _ h,h]
theorem Sim.clear (h:Sim C β σ as w) (e:Nat):Sim C β (σ.clear e) as w:=by
 unfold St.clear
 cases (look σ.mem e).isSome
 ·exact h
 ·exact h.kill e
theorem look_clear_self (σ:St) (e:Nat):look (σ.clear e).mem e=none:=by
 unfold St.clear
 cases hl:look σ.mem e with
 |none=>exact hl
 |some x=>show look (σ.kill e).mem e=none;rw [look_kill,if_pos rfl]
theorem clear_sub {σ:St} {e e':Nat} (h:(look (σ.clear e).mem e').isSome=true):(look σ.mem e').isSome=true:=by
 unfold St.clear at h
 cases hl:look σ.mem e with
 |none=>rw [hl] at h;exact h
 |some x =>
  rw [hl] at h
  have h:(look (σ.kill e).mem e').isSome=true:=h
  rw [look_kill] at h
  by_cases he:e'=e
  ·simp [he] at h
  ·simpa [he] using h
theorem clear_free {e:Nat} {g:Ty×Nat} (hg:Free C σ.mem β w g):Free C (σ.clear e).mem β w g:=by
 obtain ⟨h1,h2⟩:=hg
 exact ⟨h1,fun hoh=>h2 (hoh.imp_left fun ⟨e',L,h3,h4,h5⟩=>⟨e',L,clear_sub h3,h4,h5⟩)⟩
theorem V0.row {S:Cx} {e:Nat} {t:Ty} {l:List t.den} {x:Value} (h:V0 S (.slw e) x) (hl:look S.m e=some (.row t l)):∃ t l,look S.m e=some (.row t l)∧SlAt (S.β e) t.size 0 l.length x:=by
 rcases h with h|⟨E,n,h1,h2,_⟩
 ·exact h
 ·rw [hl] at h1
  obtain rfl:=oJ h1
  cases h2
theorem V0.part {S:Cx} {e o n:Nat} {t:Ty} {l:List t.den} {x:Value} (h:V0 S (.sl e o n) x) (hl:look S.m e=some (.row t l)):∃ t l,look S.m e=some (.row t l)∧o+n≤l.length∧SlAt (S.β e) t.size o n x∧CapAt (l.length - o) x:=by
 rcases h with h|⟨t',ll,k,l',L,h1,_⟩
 ·exact h
 ·rw [hl] at h1
  cases h1
theorem own_reads {S:Cx} {B':Ty×Nat→Prop} {w':World} {e:Nat} {t:Ty} {l:List t.den} {o n:Nat} {x:Value} (hent:EntOk S e (.row t l)) (ho:o+n≤l.length) (hs:SlAt (S.β e) t.size o n x)
  (hB:∀ g,S.B g→B' g) (hg:∀ L,S.β e=some L→B' (t,L.g)) (hw:∀ g,B' g→w'.heap[g.2]? = S.w.heap[g.2]?):DRel B' w' (.list t) ((l.drop o).take n) [x]:=by
 obtain ⟨A,c,rfl,hc,h⟩:=hs
 have hlen:((l.drop o).take n).length=n:=by simp;omega
 refine ⟨A,c,by rw [hlen],by omega,fun i y hy=>?_⟩
 have hi:i<n:=by
  rcases Nat.lt_or_ge i n with h'|h'
  ·exact h'
  ·rw [List.getElem?_eq_none (by omega)] at hy;cases hy
 rw [List.getElem?_take_of_lt hi,List.getElem?_drop] at hy
 rcases h with h0|⟨L,hL,rfl,hfit⟩
 ·omega
 rcases hent with ⟨h0,h1⟩|⟨L',cs,el,h1,h2,h3,h4,h5⟩
 ·subst h0;simp at hy
 ·rw [hL] at h1
  injection h1 with h1
  subst h1
  obtain ⟨zs,hz,hcell⟩:=h5 (o+i) y hy
  refine ⟨_,zs,rfl,hg L hL,hz.mono hB (fun g hh=>hw g (hB g hh)),fun j z hj=>?_⟩
  have:=hcell j z hj
  rw [Addr.add_mid]
  have hb:w'.heap[L.g]? = some (.cells cs el (0,0)):=by rw [hw _ (hg L hL)];exact h2
  rw [cell_of_row w' L.g _ cs el (0,0) hb,← this]
  congr 1
  rw [Nat.add_mul];omega
theorem Sim.frz (h:Sim C β σ as w) (e:Nat):Sim C β (σ.frz e) as w:=by
 unfold St.frz
 cases hl:look σ.mem e with
 |none=>simpa using h
 |some E =>
  cases E with
  |box cs=>simpa using h
  |nest t ll k=>simpa using h
  |row t l =>
   simp only []
   refine h.less e (frzV e t l) rfl (fun _=>frzV_other) fun hF v x hr hv=>?_
   have hent:=h.ent e _ hl
   have hg:∀ L,β e=some L→Free C ((dropE σ.mem e).map fun p=>(p.1,p.2.map1 (frzV e t l))) β w (t,L.g):=by
    intro L hL
    refine ⟨?_,?_⟩
    ·rcases hent with ⟨_,h1⟩|⟨L',cs,el,h1,h2,_⟩
     ·have h1:=hL.symm.trans h1;cases h1
     ·have h1:=hL.symm.trans h1
      injection h1 with h1
      subst h1
      rcases Nat.lt_or_ge L.g w.heap.size with h'|h'
      ·exact h'
      ·have h2:w.heap[L.g]? = _:=h2
       rw [Array.getElem?_eq_none h'] at h2;cases h2
    ·rintro (⟨e',L',h1,h2,h3⟩|hh)
     rotate_left
     ·rcases hh with hh|hh
      ·have h1:=C.hidOk _ hh
       rcases (h.own e L _ (by rw [hl];rfl) hL L.has_g).2 with h2|h2
       ·omega
       ·exact h1.2 h2
      ·rcases hent with ⟨_,h1⟩|⟨L',cs,el,h1,h2,_⟩
       ·have h1:=hL.symm.trans h1;cases h1
       ·have h1:=hL.symm.trans h1
        injection h1 with h1
        subst h1
        exact hh.not h2
     rw [look_map] at h1
     by_cases he:e'=e
     ·subst he;simp [look_dropE_same] at h1
     ·rw [look_dropE_other _ he] at h1
      exact he (h.inj e' e L' L _ (by simpa using h1) (by rw [hl];rfl) h2 hL h3 L.has_g)
   cases v <;> simp only [refOf,sI,reduceCtorEq] at hr <;> subst hr
   ·rename_i e
    obtain ⟨t',l',hl',hs⟩:=hv.row hl
    have:=hl.symm.trans hl'
    injection this with this
    injection this with h1 h2
    subst h1
    have h2:=eq_of_heq h2
    subst h2
    have:=own_reads (S:=cx C β σ w) hent (by omega:0+l.length≤l.length) hs hF hg (fun _ _=>rfl)
    simpa [frzV,V0] using this
   ·rename_i e o n
    obtain ⟨t',l',hl',ho,hs,_⟩:=hv.part hl
    have:=hl.symm.trans hl'
    injection this with this
    injection this with h1 h2
    subst h1
    have h2:=eq_of_heq h2
    subst h2
    have:=own_reads (S:=cx C β σ w) hent ho hs hF hg (fun _ _=>rfl)
    simpa [frzV,V0] using this
   ·simp [frzV,V0]
theorem Sim.frz1 (h:Sim C β σ as w) (v:V):Sim C β (frz1 σ v) as w:=by
 cases v <;> first|exact h|exact h.frz _
theorem Sim.frzAll:∀ (vs:List V) {σ:St},Sim C β σ as w→Sim C β (σ.frzAll vs) as w
 | [],_,h=>h
 |v::vs,_,h=>Sim.frzAll vs (h.frz1 v)
end
open Go.RowKit
structure Grows (w w':World):Prop where
 os:w'.os=w.os
 tape:w'.tape=w.tape
 output:w'.output=w.output
 size:w.heap.size≤w'.heap.size
 block:∀ g,g<w.heap.size→w'.heap[g]? = w.heap[g]?
theorem Grows.refl (w:World):Grows w w:=⟨rfl,rfl,rfl,Nat.le_refl _,fun _ _=>rfl⟩
theorem Grows.trans {a b c:World} (h:Grows a b) (h':Grows b c):Grows a c :=
 ⟨h'.os.trans h.os,h'.tape.trans h.tape,h'.output.trans h.output,Nat.le_trans h.size h'.size,fun g hg=>(h'.block g (Nat.lt_of_lt_of_le hg h.size)).trans (h.block g hg)⟩
theorem Grows.alloc (w:World) (o:Obj):Grows w (w.alloc o):=⟨rfl,rfl,rfl,by simp,fun g hg=>heap_alloc_old w o g hg⟩
theorem Grows.drew (w:World):Grows w { w with drawn:=w.drawn+1 }:=⟨rfl,rfl,rfl,Nat.le_refl _,fun _ _=>rfl⟩
theorem Grows.below {w w':World} (h:Below w.heap.size w w'):Grows w w':=⟨h.os,h.tape,h.output,h.size,h.block⟩
theorem FrmOk.grows {C:Frm} {w w':World} (h:FrmOk C w) (hg:Grows w w'):FrmOk C w' :=
 ⟨hg.os.trans h.os,hg.tape.trans h.tape,hg.output.trans h.output,Nat.le_trans h.size hg.size,fun g h1 h2=>(hg.block g (Nat.lt_of_lt_of_le h1 h.size)).trans (h.block g h1 h2)⟩
section
variable {C:Frm} {β:Nat→Option Loc} {σ:St} {as:List (Array Value)} {w:World}
theorem Sim.lt' (h:Sim C β σ as w) {e:Nat} {E:Entry} {L:Loc} {g:Nat} (hl:look σ.mem e=some E) (hL:β e=some L) (hg:L.has g):g<w.heap.size:=(h.own e L g (by rw [hl];rfl) hL hg).1
theorem Sim.lt (h:Sim C β σ as w) {e:Nat} {E:Entry} {L:Loc} (hl:look σ.mem e=some E) (hL:β e=some L):L.g<w.heap.size:=h.lt' hl hL L.has_g
theorem Sim.grow (h:Sim C β σ as w) {m':List (Nat×Entry)} {β':Nat→Option Loc} {w':World} (hg:Grows w w')
  (hold:∀ e E,look σ.mem e=some E→look m' e=some E∧β' e=β e)
  (hnew:∀ e L g,(look m' e).isSome=true→look σ.mem e=none→β' e=some L→L.has g→w.heap.size≤g∧g<w'.heap.size)
  (hinj:∀ e e' L L' g,(look m' e).isSome=true→(look m' e').isSome=true→look σ.mem e=none→look σ.mem e'=none→β' e=some L→β' e'=some L'→L.has g→L'.has g→e=e')
  (hent:Keeps (cx C β σ w) ⟨m',β',Free C m' β' w',w'⟩→∀ e E,look σ.mem e=none→look m' e=some E→EntOk ⟨m',β',Free C m' β' w',w'⟩ e E) :
  Sim C β' { σ with mem:=m' } as w'∧Keeps (cx C β σ w) ⟨m',β',Free C m' β' w',w'⟩:=by
 have hkeep:Keeps (cx C β σ w) ⟨m',β',Free C m' β' w',w'⟩:=by
  refine ⟨fun e E hE=>⟨E,(hold e E hE).1,E.like_refl⟩,fun e he=>?_,fun g hf=>⟨Nat.lt_of_lt_of_le hf.1 hg.size,?_⟩,fun g hf=>hg.block g.2 hf.1⟩
  ·cases hE:look σ.mem e with
   |none =>
    have he:(look σ.mem e).isSome=true:=he
    rw [hE] at he;cases he
   |some E=>exact (hold e E hE).2
  ·rintro (⟨e,L,h1,h2,h3⟩|hh)
   rotate_left
   ·exact hf.2 (.inr (hh.imp id (Frzd.same (hg.block g.2 hf.1))))
   cases hE:look σ.mem e with
   |none =>
    have:=hnew e L _ h1 hE h2 h3
    have:=hf.1
    omega
   |some E=>exact hf.2 (.inl ⟨e,L,by rw [hE];rfl,by rw [← (hold e E hE).2];exact h2,h3⟩)
 refine ⟨⟨h.frm.grows hg,h.fr.mono fun _ _ hr=>hr.keeps hkeep,?_,?_,?_⟩,hkeep⟩
 ·intro e E hE
  cases hE':look σ.mem e with
  |none=>exact hent hkeep e E hE' hE
  |some E' =>
   have:=(hold e E' hE').1.symm.trans hE
   injection this with this
   subst this
   refine EntOk.keeps hkeep hE' (fun L g hL hh=>hg.block _ (h.lt' hE' hL hh)) (h.ent e E' hE')
 ·intro e e' L L' g h1 h2 h3 h4 h5 h5'
  cases hE:look σ.mem e with
  |none =>
   cases hE':look σ.mem e' with
   |none=>exact hinj e e' L L' g h1 h2 hE hE' h3 h4 h5 h5'
   |some E' =>
    have h6:=hnew e L g h1 hE h3 h5
    have h7:=h.lt' hE' (L:=L') (by rw [← (hold e' E' hE').2];exact h4) h5'
    omega
  |some E =>
   cases hE':look σ.mem e' with
   |none =>
    have h6:=hnew e' L' g h2 hE' h4 h5'
    have h7:=h.lt' hE (L:=L) (by rw [← (hold e E hE).2];exact h3) h5
    omega
   |some E'=>exact h.inj e e' L L' g (by rw [hE];rfl) (by rw [hE'];rfl) (by rw [← (hold e E hE).2];exact h3) (by rw [← (hold e' E' hE').2];exact h4) h5 h5'
 ·intro e L g h1 h2 h3
  cases hE:look σ.mem e with
  |none =>
   have h4:=hnew e L g h1 hE h2 h3
   have:=h.frm.size
   exact ⟨h4.2,.inl (by omega)⟩
  |some E =>
   have h4:=h.own e L g (by rw [hE];rfl) (by rw [← (hold e E hE).2];exact h2) h3
   exact ⟨Nat.lt_of_lt_of_le h4.1 hg.size,h4.2⟩
theorem Sim.grows (h:Sim C β σ as w) {w':World} (hg:Grows w w'):Sim C β σ as w'∧Keeps (cx C β σ w) (cx C β σ w'):=by
 have:=h.grow (m':=σ.mem) (β':=β) hg (fun _ _ hE=>⟨hE,rfl⟩) (fun e L g h1 h2 _ _=>by rw [h2] at h1;cases h1) (fun e e' L L' g h1 _ h3 _ _ _ _ _=>by rw [h3] at h1;cases h1) (fun _ e E h1 h2=>by rw [h1] at h2;cases h2)
 exact this
def setβ (β:Nat→Option Loc) (e:Nat) (L:Option Loc):Nat→Option Loc:=fun e'=>if e'=e then L else β e'
theorem look_kill_self (σ:St) (e:Nat):look (σ.kill e).mem e=none:=by rw [look_kill,if_pos rfl]
theorem Sim.new (h:Sim C β σ as w) (e:Nat) (E:Entry) (cs:Array Value) (el:TypeId)
  (hent:∀ S':Cx,Keeps (cx C β (σ.clear e) w) S'→S'.w=w.alloc (.cells cs el)→S'.β e=some ⟨w.heap.size,0,cs.size,noI⟩→EntOk S' e E) :
  Sim C (setβ β e (some ⟨w.heap.size,0,cs.size,noI⟩)) (σ.new e E) as (w.alloc (.cells cs el))∧Keeps (cx C β (σ.clear e) w) (cx C (setβ β e (some ⟨w.heap.size,0,cs.size,noI⟩)) (σ.new e E) (w.alloc (.cells cs el))):=by
 have hk:=h.clear e
 refine hk.grow (m':=(e,E)::(σ.clear e).mem) (Grows.alloc w _) ?_ ?_ ?_ ?_
 ·intro e' E' hE
  have:e ≠ e':=by rintro rfl;rw [look_clear_self] at hE;cases hE
  exact ⟨by rw [look_cons,if_neg this];exact hE,by simp [setβ,Ne.symm this]⟩
 ·intro e' L g h1 h2 h3 h4
  by_cases he:e'=e
  ·subst he;simp only [setβ,if_true,sI] at h3;subst h3
   have:=Loc.has_noI h4
   subst this
   exact ⟨Nat.le_refl _,by simp⟩
  ·rw [look_cons,if_neg (Ne.symm he),h2] at h1;cases h1
 ·intro e1 e2 L L' g h1 h2 h3 h4 _ _ _ _
  have key:∀ e',(look ((e,E)::(σ.clear e).mem) e').isSome=true→look (σ.clear e).mem e'=none→e'=e:=by
   intro e' h1 h2
   by_cases he:e'=e
   ·exact he
   ·rw [look_cons,if_neg (Ne.symm he),h2] at h1;cases h1
  rw [key e1 h1 h3,key e2 h2 h4]
 ·intro hkeep e' E' h1 h2
  have:e'=e:=by
   by_cases he:e'=e
   ·exact he
   ·rw [look_cons,if_neg (Ne.symm he),h1] at h2;cases h2
  subst this
  rw [look_cons,if_pos rfl] at h2
  injection h2 with h2
  subst h2
  exact hent _ hkeep rfl (by simp [setβ])
theorem Sim.newNil (h:Sim C β σ as w) (e:Nat) (t:Ty) :
  Sim C (setβ β e none) (σ.new e (.row t [])) as w∧Keeps (cx C β (σ.clear e) w) (cx C (setβ β e none) (σ.new e (.row t [])) w):=by
 have hk:=h.clear e
 refine hk.grow (m':=(e,.row t [])::(σ.clear e).mem) (Grows.refl w) ?_ ?_ ?_ ?_
 ·intro e' E' hE
  have:e ≠ e':=by rintro rfl;rw [look_clear_self] at hE;cases hE
  exact ⟨by rw [look_cons,if_neg this];exact hE,by simp [setβ,Ne.symm this]⟩
 ·intro e' L g h1 h2 h3 h4
  by_cases he:e'=e
  ·subst he;simp [setβ] at h3
  ·rw [look_cons,if_neg (Ne.symm he),h2] at h1;cases h1
 ·intro e1 e2 L L' g h1 h2 h3 h4 _ _ _ _
  have key:∀ e',(look ((e,Entry.row t [])::(σ.clear e).mem) e').isSome=true→look (σ.clear e).mem e'=none→e'=e:=by
   intro e' h1 h2
   by_cases he:e'=e
   ·exact he
   ·rw [look_cons,if_neg (Ne.symm he),h2] at h1;cases h1
  rw [key e1 h1 h3,key e2 h2 h4]
 ·intro hkeep e' E' h1 h2
  have:e'=e:=by
   by_cases he:e'=e
   ·exact he
   ·rw [look_cons,if_neg (Ne.symm he),h1] at h2;cases h2
  subst this
  rw [look_cons,if_pos rfl] at h2
  injection h2 with h2
  subst h2
  exact .inl ⟨rfl,by simp [setβ]⟩
theorem Sim.upd (h:Sim C β σ as w) {e:Nat} {E E':Entry} {L:Loc} {w':World} (hl:look σ.mem e=some E) (hlike:E.like E') (hL:β e=some L)
  (hos:w'.os=w.os) (htape:w'.tape=w.tape) (hout:w'.output=w.output) (hsize:w'.heap.size=w.heap.size)
  (hblock:∀ g,g ≠ L.g→w'.heap[g]? = w.heap[g]?)
  (hent:Keeps (cx C β σ w) ⟨updE σ.mem e E',β,Free C (updE σ.mem e E') β w',w'⟩→EntOk ⟨updE σ.mem e E',β,Free C (updE σ.mem e E') β w',w'⟩ e E') :
  Sim C β { σ with mem:=updE σ.mem e E' } as w':=by
 have lk:∀ e',look (updE σ.mem e E') e'=if e=e' then some E' else look σ.mem e':=by
  intro e'
  rw [look_updE,hl]
  by_cases he:e=e' <;> simp [he]
 have hs:∀ e',(look (updE σ.mem e E') e').isSome=true↔(look σ.mem e').isSome=true:=by
  intro e'
  rw [lk]
  by_cases he:e=e'
  ·subst he;simp [hl]
  ·simp [he]
 have hO:∀ g,Own (updE σ.mem e E') β g↔Own σ.mem β g:=by
  intro g
  constructor <;> rintro ⟨e',L',h1,h2,h3⟩
  ·exact ⟨e',L',(hs e').1 h1,h2,h3⟩
  ·exact ⟨e',L',(hs e').2 h1,h2,h3⟩
 have hne:∀ g,Free C σ.mem β w g→g.2 ≠ L.g:=by
  intro g hf hg
  exact hf.2 (.inl ⟨e,L,by rw [hl];rfl,hL,.inl hg.symm⟩)
 have hkeep:Keeps (cx C β σ w) ⟨updE σ.mem e E',β,Free C (updE σ.mem e E') β w',w'⟩:=by
  refine ⟨fun e' E1 hE=>?_,fun _ _=>rfl,fun g hf=>⟨by rw [hsize];exact hf.1,fun ho=>hf.2 (ho.imp (hO g.2).1 (Or.imp id (Frzd.same (hblock g.2 (hne g hf)))))⟩,fun g hf=>hblock g.2 (hne g hf)⟩
  by_cases he:e=e'
  ·subst he
   have:=hl.symm.trans hE
   injection this with this
   subst this
   exact ⟨E',by rw [lk,if_pos rfl],hlike⟩
  ·exact ⟨E1,by rw [lk,if_neg he];exact hE,E1.like_refl⟩
 refine ⟨⟨hos.trans h.frm.os,htape.trans h.frm.tape,hout.trans h.frm.output,by rw [hsize];exact h.frm.size,fun g h1 h2=>?_⟩,h.fr.mono fun _ _ hr=>hr.keeps hkeep,?_,?_,?_⟩
 ·rw [hblock g ?_]
  ·exact h.frm.block g h1 h2
  ·rintro rfl
   rcases (h.own e L _ (by rw [hl];rfl) hL L.has_g).2 with h3|h3
   ·omega
   ·exact h2 h3
 ·intro e' E1 hE
  by_cases he:e=e'
  ·subst he
   rw [lk,if_pos rfl] at hE
   injection hE with hE
   subst hE
   exact hent hkeep
  ·rw [lk,if_neg he] at hE
   refine EntOk.keeps hkeep hE (fun L' g hL' hh=>hblock _ fun hg=>he (h.inj e e' L L' g (by rw [hl];rfl) (by rw [hE];rfl) hL hL' (.inl hg.symm) hh)) (h.ent e' E1 hE)
 ·intro e1 e2 L1 L2 g h1 h2 h3 h4 h5
  exact h.inj e1 e2 L1 L2 g ((hs e1).1 h1) ((hs e2).1 h2) h3 h4 h5
 ·intro e1 L1 g h1 h2 h3
  rw [hsize]
  exact h.own e1 L1 g ((hs e1).1 h1) h2 h3
theorem Sim.keepOnly (h:Sim C β σ as w) (es:List Nat):∀ {m':List (Nat×Entry)},m'=(es.filterMap fun e=>(look σ.mem e).map fun x=>(e,x))→(∀ e,(look σ.mem e).isSome=true→(look m' e).isSome=true)→Sim C β { σ with mem:=m' } as w:=by
 rintro m' rfl hall
 have lk:∀ e,look (es.filterMap fun e=>(look σ.mem e).map fun x=>(e,x)) e=if e∈es then look σ.mem e else none:=by
  intro e
  induction es with
  |nil=>rfl
  |cons a es ih =>
   have ih:=fun hall=>ih hall
   simp only [List.filterMap_cons]
   cases ha:look σ.mem a with
   |none =>
    simp only [Option.map_none]
    have:∀ (es:List Nat),look (es.filterMap fun e=>(look σ.mem e).map fun x=>(e,x)) e=if e∈es then look σ.mem e else none:=by
     intro es
     induction es with
     |nil=>rfl
     |cons b es ih2 =>
      simp only [List.filterMap_cons]
      cases hb:look σ.mem b with
      |none =>
       simp only [Option.map_none,ih2]
       by_cases he:e=b
       ·subst he;simp [hb]
       ·simp [he]
      |some x =>
       simp only [Option.map_some,look_cons,ih2]
       by_cases he:b=e
       ·subst he;simp [hb]
       ·simp [he,Ne.symm he]
    rw [this]
    by_cases he:e=a
    ·subst he;simp [ha]
    ·simp [he]
   |some x =>
    have:∀ (es:List Nat),look (es.filterMap fun e=>(look σ.mem e).map fun x=>(e,x)) e=if e∈es then look σ.mem e else none:=by
     intro es
     induction es with
     |nil=>rfl
     |cons b es ih2 =>
      simp only [List.filterMap_cons]
      cases hb:look σ.mem b with
      |none =>
       simp only [Option.map_none,ih2]
       by_cases he:e=b
       ·subst he;simp [hb]
       ·simp [he]
      |some x =>
       simp only [Option.map_some,look_cons,ih2]
       by_cases he:b=e
       ·subst he;simp [hb]
       ·simp [he,Ne.symm he]
    simp only [Option.map_some,look_cons,this]
    by_cases he:a=e
    ·subst he;simp [ha]
    ·simp [he,Ne.symm he]
 have heq:∀ e,look (es.filterMap fun e=>(look σ.mem e).map fun x=>(e,x)) e=look σ.mem e:=by
  intro e
  rw [lk]
  by_cases he:e∈es
  ·simp [he]
  ·cases hE:look σ.mem e with
   |none=>simp [he]
   |some E =>
    have:=hall e (by rw [hE];rfl)
    rw [lk,if_neg he] at this
    cases this
 have:=h.grow (m':=es.filterMap fun e=>(look σ.mem e).map fun x=>(e,x)) (β':=β) (Grows.refl w) (fun e E hE=>⟨by rw [heq];exact hE,rfl⟩) (fun e L g h1 h2 _ _=>by rw [heq,h2] at h1;cases h1) (fun e e' L L' g h1 _ h3 _ _ _ _ _=>by rw [heq,h3] at h1;cases h1) (fun _ e E h1 h2=>by rw [heq,h1] at h2;cases h2)
 exact this.1
end
open Go.RowKit
section
variable {C:Frm} {β:Nat→Option Loc} {σ:St} {as:List (Array Value)} {w:World}
theorem Sim.ren (h:Sim C β σ as w) (e e2:Nat):∃ β',Sim C β' (σ.ren e e2) as w:=by
 unfold St.ren
 cases hl:look σ.mem e with
 |none=>exact ⟨β,h⟩
 |some E =>
  simp only []
  by_cases hee:e=e2
  ·subst hee;simp only [beq_self_eq_true,cond_true];exact ⟨β,h⟩
  ·have hee':(e==e2)=false:=by simpa using hee
   simp only [hee',cond_false]
   have lk:∀ e',look ((e2,E.map1 (renV e e2))::(dropE (dropE σ.mem e) e2).map fun p=>(p.1,p.2.map1 (renV e e2))) e'=if e'=e2 then some (E.map1 (renV e e2)) else if e'=e then none else (look σ.mem e').map (Entry.map1 (renV e e2)):=by
    intro e'
    rw [look_cons]
    by_cases h1:e'=e2
    ·subst h1;simp
    ·rw [if_neg (Ne.symm h1),if_neg h1,look_map,look_dropE_other _ h1]
     by_cases h2:e'=e
     ·subst h2;simp [look_dropE_same]
     ·rw [look_dropE_other _ h2,if_neg h2]
   have key:(∀ gg,Free C σ.mem β w gg→Free C ((e2,E.map1 (renV e e2))::(dropE (dropE σ.mem e) e2).map fun p=>(p.1,p.2.map1 (renV e e2))) (setβ β e2 (β e)) w gg)→∀ v x,V0 (cx C β σ w) v x→V0 ⟨(e2,E.map1 (renV e e2))::(dropE (dropE σ.mem e) e2).map fun p=>(p.1,p.2.map1 (renV e e2)),setβ β e2 (β e),Free C ((e2,E.map1 (renV e e2))::(dropE (dropE σ.mem e) e2).map fun p=>(p.1,p.2.map1 (renV e e2))) (setβ β e2 (β e)) w,w⟩ (renV e e2 v) x:=by
    intro hF v x hv
    have lk2:look ((e2,E.map1 (renV e e2))::(dropE (dropE σ.mem e) e2).map fun p=>(p.1,p.2.map1 (renV e e2))) e2=some (E.map1 (renV e e2)):=by rw [lk,if_pos rfl]
    have hb:setβ β e2 (β e) e2=β e:=by simp [setβ]
    by_cases hr:refOf v=some e
    ·cases v <;> simp only [refOf,sI,reduceCtorEq] at hr <;> subst hr
     ·rename_i e
      simp only [renV,beq_self_eq_true,cond_true]
      rcases hv with ⟨t,l,hl',hs⟩|⟨E1,n,hl',hw,hs⟩
      ·have:=hl.symm.trans hl'
       injection this with this
       subst this
       exact .inl ⟨t,l,lk2,by show SlAt (setβ β e2 (β e) e2) _ _ _ _;rw [hb];exact hs⟩
      ·have:=hl.symm.trans hl'
       injection this with this
       subst this
       exact .inr ⟨_,n,lk2,by rw [wide_map1];exact hw,by show SlAt (setβ β e2 (β e) e2) _ _ _ _;rw [hb];exact hs⟩
     ·rename_i e o n
      simp only [renV,beq_self_eq_true,cond_true]
      rcases hv with ⟨t,l,hl',ho,hs,hcap⟩|⟨t,ll,k,l,L,hl',hk,hL,hll,hn,hs⟩
      ·have:=hl.symm.trans hl'
       injection this with this
       subst this
       exact .inl ⟨t,l,lk2,ho,by show SlAt (setβ β e2 (β e) e2) _ _ _ _;rw [hb];exact hs,hcap⟩
      ·have:=hl.symm.trans hl'
       injection this with this
       subst this
       exact .inr ⟨t,ll,k,l,L,lk2,hk,hb.trans hL,hll,hn,hs⟩
     ·rename_i e i o
      obtain ⟨E1,L,hl',hL,hx⟩:=hv
      have:=hl.symm.trans hl'
      injection this with this
      subst this
      simp only [renV,beq_self_eq_true,cond_true]
      refine ⟨_,L,lk2,hb.trans hL,?_⟩
      cases E <;> exact hx
    ·by_cases hr2:refOf v=some e2
     ·cases v <;> simp only [refOf,sI,reduceCtorEq] at hr2 <;> subst hr2
      ·rename_i e2
       have:(e2==e)=false:=by simpa using Ne.symm hee
       simp [renV,this,V0]
      ·rename_i e2 _ _
       have:(e2==e)=false:=by simpa using Ne.symm hee
       simp [renV,this,V0]
      ·rename_i e2 _ _
       have:(e2==e)=false:=by simpa using Ne.symm hee
       simp [renV,this,V0]
     ·rw [renV_other hr hr2]
      refine V0.other (S:=cx C β σ w) (S':=⟨_,setβ β e2 (β e),_,w⟩) (g:=renV e e2) hF (fun _ _=>rfl) hv fun e' he'=>⟨?_,?_⟩
      ·show look ((e2,E.map1 (renV e e2))::(dropE (dropE σ.mem e) e2).map fun p=>(p.1,p.2.map1 (renV e e2))) e'=_
       rw [lk,if_neg (fun he=>hr2 (by rw [he',he])),if_neg (fun he=>hr (by rw [he',he]))]
      ·show setβ β e2 (β e) e'=β e'
       simp only [setβ]
       rw [if_neg (fun he=>hr2 (by rw [he',he]))]
   refine ⟨setβ β e2 (β e),h.map (renV e e2) ((e2,E.map1 (renV e e2))::(dropE (dropE σ.mem e) e2).map fun (p:Nat×Entry)=>(p.1,p.2.map1 (renV e e2))) (setβ β e2 (β e)) (fun e'=>if e'=e2 then e else e') rfl ?_ ?_ key ?_⟩
   ·intro e' h1
    by_cases h2:e'=e2
    ·subst h2
     simp only [if_true]
     exact ⟨by rw [hl];rfl,fun L hL=>⟨L,by simpa [setβ] using hL,fun _ hg=>hg⟩⟩
    ·rw [lk,if_neg h2] at h1
     simp only [h2,if_false]
     by_cases h3:e'=e
     ·simp [h3] at h1
     ·rw [if_neg h3] at h1
      exact ⟨by simpa using h1,fun L hL=>⟨L,by simpa [setβ,h2] using hL,fun _ hg=>hg⟩⟩
   ·intro e1 e3 h1 h3 h4
    have hne:∀ e',(look ((e2,E.map1 (renV e e2))::(dropE (dropE σ.mem e) e2).map fun p=>(p.1,p.2.map1 (renV e e2))) e').isSome=true→e' ≠ e:=by
     rintro e' h1 rfl
     rw [lk,if_neg hee,if_pos rfl] at h1
     cases h1
    by_cases h5:e1=e2 <;> by_cases h6:e3=e2
    ·rw [h5,h6]
    ·simp only [h5,h6,if_true,if_false] at h4;exact absurd h4.symm (hne e3 h3)
    ·simp only [h5,h6,if_true,if_false] at h4;exact absurd h4 (hne e1 h1)
    ·simpa [h5,h6] using h4
   ·intro hF e' E' hE
    by_cases h2:e'=e2
    ·subst h2
     rw [lk,if_pos rfl] at hE
     injection hE with hE
     subst hE
     exact (h.ent e E hl).map (S:=cx C β σ w) (e:=e) (key hF) hF (fun _ _=>rfl) (fun _ _ _ _=>rfl) (by simp [setβ])
    ·rw [lk,if_neg h2] at hE
     by_cases h3:e'=e
     ·simp [h3] at hE
     ·rw [if_neg h3] at hE
      cases hl':look σ.mem e' with
      |none=>simp [hl'] at hE
      |some E1 =>
       simp only [hl',Option.map_some,sI] at hE
       subst hE
       exact (h.ent e' E1 hl').map (S:=cx C β σ w) (e:=e') (key hF) hF (fun _ _=>rfl) (fun _ _ _ _=>rfl) (by simp [setβ,h2])
theorem rebV_other {e o n:Nat} {v:V} (h:refOf v ≠ some e):rebV e o n v=v:=by
 cases v <;> first|rfl|(simp only [refOf,ne_eq,sI] at h;rw [← Ne,← beq_eq_false_iff_ne] at h;simp [rebV,killV,h])
theorem Sim.reb (h:Sim C β σ as w) {e o n:Nat} {t:Ty} {l:List t.den} (hl:look σ.mem e=some (.row t l)) (ho:o+n≤l.length) :
  ∃ β',Sim C β' (let σ:=σ.map1 (rebV e o n);{ σ with mem:=updE σ.mem e (.row t ((l.drop o).take n)) }) as w:=by
 have hlen:((l.drop o).take n).length=n:=by simp;omega
 have lk:∀ e',look (updE (σ.mem.map fun p=>(p.1,p.2.map1 (rebV e o n))) e (.row t ((l.drop o).take n))) e'=if e'=e then some (.row t ((l.drop o).take n)) else (look σ.mem e').map (Entry.map1 (rebV e o n)):=by
  intro e'
  rw [look_updE,look_map,hl]
  by_cases he:e'=e
  ·subst he;simp
  ·rw [if_neg (fun hh=>he hh.1.symm),look_map,if_neg he]
 let β':Nat→Option Loc:=setβ β e ((β e).map fun L=>⟨L.g,L.base+o*t.size,L.cells,L.inn⟩)
 have hs:∀ e',(look (updE (σ.mem.map fun p=>(p.1,p.2.map1 (rebV e o n))) e (.row t ((l.drop o).take n))) e').isSome=true→(look σ.mem e').isSome=true:=by
  intro e' h1
  rw [lk] at h1
  by_cases he:e'=e
  ·subst he;rw [hl];rfl
  ·simpa [he] using h1
 have hβ':∀ e' L',β' e'=some L'→∃ L,β e'=some L∧∀ g,L'.has g→L.has g:=by
  intro e' L' h1
  by_cases he:e'=e
  ·subst he
   simp only [β',setβ,if_true,Option.map_eq_some_iff] at h1
   obtain ⟨L,h2,rfl⟩:=h1
   exact ⟨L,h2,fun _ hg=>hg⟩
  ·simp only [β',setβ,he,if_false] at h1
   exact ⟨L',h1,fun _ hg=>hg⟩
 have key:(∀ gg,Free C σ.mem β w gg→Free C (updE (σ.mem.map fun p=>(p.1,p.2.map1 (rebV e o n))) e (.row t ((l.drop o).take n))) β' w gg)→∀ v x,V0 (cx C β σ w) v x→V0 ⟨updE (σ.mem.map fun p=>(p.1,p.2.map1 (rebV e o n))) e (.row t ((l.drop o).take n)),β',Free C (updE (σ.mem.map fun p=>(p.1,p.2.map1 (rebV e o n))) e (.row t ((l.drop o).take n))) β' w,w⟩ (rebV e o n v) x:=by
  intro hF v x hv
  by_cases hr:refOf v=some e
  ·cases v <;> simp only [refOf,sI,reduceCtorEq] at hr <;> subst hr
   ·simp [rebV,killV,V0]
   ·rename_i e o' n'
    simp only [rebV,beq_self_eq_true,cond_true]
    by_cases hon:o'=o∧n'=n
    ·obtain ⟨rfl,rfl⟩:=hon
     simp only [beq_self_eq_true,Bool.and_true,cond_true]
     obtain ⟨t',l',hl',_,hs,_⟩:=hv.part hl
     have:=hl.symm.trans hl'
     injection this with this
     injection this with h1 h2
     subst h1
     refine .inl ⟨t,_,by rw [lk,if_pos rfl],?_⟩
     rw [hlen]
     obtain ⟨A,c,hx,hc,hh⟩:=hs
     refine ⟨A,c,hx,hc,?_⟩
     rcases hh with hh|⟨L,hL,hA,hfit⟩
     ·exact .inl hh
     ·have hL:β e=some L:=hL
      refine .inr ⟨⟨L.g,L.base+o'*t.size,L.cells,L.inn⟩,by simp [β',setβ,hL],by simpa using hA,?_⟩
      show L.base+o'*t.size+(0+c)*t.size≤L.cells
      rw [Nat.add_mul] at hfit
      simp only [Nat.zero_add];omega
    ·have:(o'==o&&n'==n)=false:=by
      rw [Bool.eq_false_iff]
      intro hh
      simp only [bA,beq_iff_eq] at hh
      exact hon hh
     simp [this,V0]
   ·simp [rebV,killV,V0]
  ·rw [rebV_other hr]
   refine V0.other (S:=cx C β σ w) (S':=⟨_,β',_,w⟩) (g:=rebV e o n) hF (fun _ _=>rfl) hv fun e' he'=>⟨?_,?_⟩
   ·show look (updE (σ.mem.map fun p=>(p.1,p.2.map1 (rebV e o n))) e (.row t ((l.drop o).take n))) e'=_
    rw [lk,if_neg (fun he=>hr (by rw [he',he]))]
   ·show β' e'=β e'
    simp only [β',setβ]
    rw [if_neg (fun he=>hr (by rw [he',he]))]
 refine ⟨β',h.map (rebV e o n) (updE (σ.mem.map fun (p:Nat×Entry)=>(p.1,p.2.map1 (rebV e o n))) e (.row t ((l.drop o).take n))) β' id rfl (fun e' h1=>⟨hs e' h1,fun L' hL'=>hβ' e' L' hL'⟩) (fun _ _ _ _ h1=>h1) key fun hF e' E' hE=>?_⟩
 by_cases he:e'=e
 ·subst he
  rw [lk,if_pos rfl] at hE
  injection hE with hE
  subst hE
  rcases h.ent e' _ hl with ⟨h0,h1⟩|⟨L,cs,el,h1,h2,h3,h4,h5⟩
  ·have h1:β e'=none:=h1
   exact .inl ⟨by subst h0;simp,by simp [β',setβ,h1]⟩
  ·have h1:β e'=some L:=h1
   refine .inr ⟨⟨L.g,L.base+o*t.size,L.cells,L.inn⟩,cs,el,by simp [β',setβ,h1],h2,h3,?_,fun i x hx=>?_⟩
   ·rw [hlen]
    show L.base+o*t.size+n*t.size≤L.cells
    have:=Nat.mul_le_mul_right t.size ho
    rw [Nat.add_mul] at this
    have h4:L.base+l.length*t.size≤L.cells:=h4
    omega
   ·have hi:i<n:=by
     rcases Nat.lt_or_ge i n with h'|h'
     ·exact h'
     ·rw [List.getElem?_eq_none (by omega)] at hx;cases hx
    rw [List.getElem?_take_of_lt hi,List.getElem?_drop] at hx
    obtain ⟨zs,hz,hcell⟩:=h5 (o+i) x hx
    refine ⟨zs,hz.mono hF (fun _ _=>rfl),fun j z hj=>?_⟩
    have:=hcell j z hj
    rw [← this]
    congr 1
    show L.base+o*t.size+i*t.size+j=_
    rw [Nat.add_mul];omega
 ·rw [lk,if_neg he] at hE
  cases hl':look σ.mem e' with
  |none=>simp [hl'] at hE
  |some E =>
   simp only [hl',Option.map_some,sI] at hE
   subst hE
   exact (h.ent e' E hl').map (S:=cx C β σ w) (e:=e') (key hF) hF (fun _ _=>rfl) (fun _ _ _ _=>rfl) (by simp [β',setβ,he])
theorem Sim.setTo {a:Array Value} (h:Sim C β σ (a::as) w) (t:Nat) (v:V) (hv:V3 (cx C β σ w) v (a.getD t undef)):Sim C β (σ.set t v) (a::as) w:=by
 refine ⟨h.frm,⟨⟨by simpa [St.set] using h.top.1,fun s=>?_⟩,h.fr.2⟩,h.ent,h.inj,h.own⟩
 have h0:=h.top.2 s
 show V3 _ ((σ.fr.set t v).getD s .undef) _
 simp only [List.getD_eq_getElem?_getD,List.getElem?_set]
 by_cases hs:t=s
 ·subst hs
  by_cases hb:t<σ.fr.length
  ·simp only [if_true,hb,Option.getD_some];exact hv
  ·simp only [if_true,hb,if_false,Option.getD_none];exact V3.undef
 ·simp only [hs,if_false]
  rw [List.getD_eq_getElem?_getD] at h0
  exact h0
theorem Sim.only1 {a:Array Value} (h:Sim C β σ (a::as) w) (e:Nat):Sim C β { σ with fr:=σ.fr.map fun v=>bif (refs3 v).contains e then .undef else v } (a::as) w:=by
 refine ⟨h.frm,⟨⟨by simpa using h.top.1,fun s=>?_⟩,h.fr.2⟩,h.ent,h.inj,h.own⟩
 have h0:=h.top.2 s
 show V3 _ ((σ.fr.map fun v=>bif (refs3 v).contains e then .undef else v).getD s .undef) _
 rw [List.getD_eq_getElem?_getD] at h0 ⊢
 rw [List.getElem?_map]
 cases hx:σ.fr[s]? with
 |none=>exact V3.undef
 |some v =>
  rw [hx] at h0
  simp only [Option.map_some,Option.getD_some] at h0 ⊢
  cases (refs3 v).contains e with
  |true=>exact V3.undef
  |false=>exact h0
theorem Sim.setUndef {a:Array Value} (h:Sim C β σ (a::as) w) (t:Nat):Sim C β (σ.set t .undef) (a::as) w:=by
 refine ⟨h.frm,⟨⟨by simpa [St.set] using h.top.1,fun s=>?_⟩,h.fr.2⟩,h.ent,h.inj,h.own⟩
 have h0:=h.top.2 s
 show V3 _ ((σ.fr.set t .undef).getD s .undef) _
 simp only [List.getD_eq_getElem?_getD,List.getElem?_set]
 by_cases hs:t=s
 ·subst hs
  by_cases hb:t<σ.fr.length
  ·simp only [if_true,hb,Option.getD_some];exact V3.undef
  ·simp only [if_true,hb,if_false,Option.getD_none];exact V3.undef
 ·simp only [hs,if_false]
  rw [List.getD_eq_getElem?_getD] at h0
  exact h0
theorem Sim.onlyG {as:List (Array Value)} (h:Sim C β σ as w) (es:List Nat) (m:List (Nat×Entry)):Sim C β (m.foldl (fun τ p=>bif es.contains p.1 then τ else τ.kill p.1) σ) as w:=by
 induction m generalizing σ with
 |nil=>exact h
 |cons p m ih =>
  simp only [List.foldl_cons]
  refine ih ?_
  cases es.contains p.1
  ·exact h.kill p.1
  ·exact h
theorem Sim.keepG {a:Array Value} (h:Sim C β σ (a::as) w) (es:List Nat):∃ β',Sim C β' (doGhost σ (.keep es)) (a::as) w:=by
 simp only [doGhost]
 cases hc:σ.mem.all fun p=>es.contains p.1 with
 |false=>exact ⟨β,h⟩
 |true =>
  refine ⟨β,h.keepOnly es rfl fun e he=>?_⟩
  have hmem:e∈es:=by
   have:∀ (m:List (Nat×Entry)),(m.all fun p=>es.contains p.1)=true→(look m e).isSome=true→e∈es:=by
    intro m
    induction m with
    |nil=>intro _ h;cases h
    |cons p m ih =>
     intro h1 h2
     simp only [List.all_cons,bA] at h1
     obtain ⟨k,x⟩:=p
     rw [look_cons] at h2
     by_cases hk:k=e
     ·subst hk;simpa using h1.1
     ·rw [if_neg hk] at h2;exact ih h1.2 h2
   exact this _ hc he
  have:∀ (es:List Nat),e∈es→(look (es.filterMap fun e=>(look σ.mem e).map fun x=>(e,x)) e).isSome=true:=by
   intro es
   induction es with
   |nil=>intro h;cases h
   |cons b es ih =>
    intro h1
    simp only [List.filterMap_cons]
    by_cases hb:e=b
    ·subst hb
     cases hE:look σ.mem e with
     |none=>rw [hE] at he;cases he
     |some x=>simp [look_cons]
    ·have h2:=ih (by simpa [hb] using h1)
     cases look σ.mem b with
     |none=>simpa using h2
     |some x=>simpa [look_cons,Ne.symm hb] using h2
  exact this es hmem
theorem Sim.nameRef (h:Sim C β σ as w) (v:V) (e2:Nat):∃ β',Sim C β' (nameRef σ v e2) as w:=by
 unfold R.nameRef
 split
 ·exact h.ren _ e2
 ·exact ⟨β,h⟩
theorem Sim.nameCells {base res:Nat}:∀ (vs:List V) {c:Nat} {β:Nat→Option Loc} {σ:St},Sim C β σ as w→∃ β',Sim C β' (nameCells base res c vs σ) as w
 | [],_,β,_,h=>⟨β,h⟩
 |v::vs,c,_,_,h=>by
  obtain ⟨β',h'⟩:=h.nameRef v ((base*4096+c)*64+res)
  exact Sim.nameCells vs h'
theorem Sim.nameSlots {d:Nat}:∀ (vs:List V) {s:Nat} {β:Nat→Option Loc} {σ:St},Sim C β σ as w→∃ β',Sim C β' (nameSlots d s vs σ) as w
 | [],_,β,_,h=>⟨β,h⟩
 |v::vs,s,_,_,h=>by
  obtain ⟨β',h'⟩:=Sim.nameCells (base:=d*4096+s) (res:=16) v.cells (c:=0) h
  exact Sim.nameSlots vs h'
theorem Sim.nameOuts:∀ (frs:List (List V)) {d:Nat} {β:Nat→Option Loc} {σ:St},Sim C β σ as w→∃ β',Sim C β' (nameOuts d frs σ) as w
 | [],_,β,_,h=>⟨β,h⟩
 |fr::frs,d,_,_,h=>by
  obtain ⟨β',h'⟩:=Sim.nameSlots (d:=d+1) fr (s:=0) h
  exact Sim.nameOuts frs h'
theorem Sim.nameBoxes:∀ (m:List (Nat×Entry)) {β:Nat→Option Loc} {σ:St},Sim C β σ as w→∃ β',Sim C β' (nameBoxes m σ) as w
 | [],β,_,h=>⟨β,h⟩
 |(e,.box cs)::m,_,_,h=>by
  obtain ⟨β',h'⟩:=Sim.nameCells (base:=e) (res:=48) cs (c:=0) h
  exact Sim.nameBoxes m h'
 |(e,.row t l)::m,_,_,h=>Sim.nameBoxes m h
 |(e,.nest t ll k)::m,_,_,h=>Sim.nameBoxes m h
theorem Sim.awayNames:∀ (m:List (Nat×Entry)) {β:Nat→Option Loc} {σ:St},Sim C β σ as w→∃ β',Sim C β' (awayNames m σ) as w
 | [],β,_,h=>⟨β,h⟩
 |(e,x)::m,β,σ,h=>by
  simp only [R.awayNames]
  cases Nat.ble 16 (e % 64) with
  |false=>exact Sim.awayNames m h
  |true =>
   obtain ⟨β',h'⟩:=h.ren e (e*64+32)
   exact Sim.awayNames m h'
theorem Sim.nilCell (h:Sim C β σ as w) (e c nm:Nat) (t:Ty):∃ β',Sim C β' (R.nilCell σ e c nm t) as w:=by
 simp only [R.nilCell]
 obtain ⟨h1,_⟩:=h.newNil nm t
 have hnm:look (σ.new nm (.row t [])).mem nm=some (.row t []):=by simp [St.new,look_cons]
 generalize σ.new nm (.row t [])=τ at h1 hnm
 split
 ·rename_i cs hl
  split
  ·rename_i hc
   have hne:e ≠ nm:=by
    rintro rfl
    rw [hl] at hnm
    cases hnm
   obtain ⟨L,hs,el,a1,a2,a3,a4⟩:=h1.ent e _ hl
   refine ⟨_,h1.upd hl (E':=.box (cs.set c (.slw nm))) (by simp [Entry.like]) a1 rfl rfl rfl rfl (fun _ _=>rfl) fun hk=>⟨L,hs,el,a1,a2,a3,fun j v hj=>?_⟩⟩
   by_cases hjc:c=j
   ·subst hjc
    obtain ⟨y,hy,hv,ho⟩:=a4 c _ hc
    have hlt:c<cs.length:=(List.getElem?_eq_some_iff.1 hc).1
    rw [List.getElem?_set_self hlt] at hj
    injection hj with hj
    subst hj
    have hv:y=.slice none 0 0:=hv
    refine ⟨y,hy,?_,ho⟩
    refine V1.of rfl (.inl ⟨t,[],?_,none,0,hv,Nat.le_refl _,.inl rfl⟩)
    show look (updE τ.mem e _) nm=_
    rw [look_updE,if_neg fun h=>hne h.1]
    exact hnm
   ·rw [List.getElem?_set_ne hjc] at hj
    obtain ⟨y,hy,hv,ho⟩:=a4 j _ hj
    exact ⟨y,hy,hv.keeps hk,ho⟩
  ·exact ⟨β,h⟩
 ·exact ⟨β,h⟩
theorem Sim.ghost {a:Array Value} (h:Sim C β σ (a::as) w) (g:Ghost):∃ β',Sim C β' (doGhost σ g) (a::as) w:=by
 cases g with
 |kill ts =>
  refine ⟨β,?_⟩
  simp only [doGhost]
  induction ts generalizing σ with
  |nil=>exact h
  |cons t ts ih=>exact ih (h.setUndef t)
 |frz s c =>
  simp only [doGhost]
  split
  ·exact ⟨β,h.frz1 _⟩
  ·exact ⟨β,h⟩
 |reb s =>
  simp only [doGhost]
  split
  ·rename_i e o n hs
   split
   ·rename_i t l hl
    have h1:=h.get s
    rw [hs] at h1
    obtain ⟨t',l',hl',ho,_⟩:=V0.part h1 hl
    have:=hl.symm.trans hl'
    injection this with this
    injection this with h2 h3
    subst h2
    have h3:=eq_of_heq h3
    subst h3
    have hlt:s<σ.fr.length:=by
     rcases Nat.lt_or_ge s σ.fr.length with h'|h'
     ·exact h'
     ·simp only [St.get,List.getD_eq_getElem?_getD,List.getElem?_eq_none h',Option.getD_none] at hs;cases hs
    have g1:=h.only1 e
    have hv:=h.get s
    rw [hs] at hv
    have g2:=g1.setTo s (.sl e o n) hv
    obtain ⟨β',g3⟩:=g2.reb hl ho
    have hv3:=g3.get s
    have e1:St.get (let σ':=(St.set { σ with fr:=σ.fr.map fun v=>bif (refs3 v).contains e then .undef else v } s (.sl e o n)).map1 (rebV e o n);({ σ' with mem:=updE σ'.mem e (.row t ((l.drop o).take n)) }:St)) s=.slw e:=by
     simp [St.get,St.map1,St.set,hlt,V.map1,V.mapA,V.mapC,rebV]
    rw [e1] at hv3
    exact ⟨β',g3.setTo s (.slw e) hv3⟩
   ·exact ⟨β,h⟩
  ·exact ⟨β,h⟩
 |ren e e2=>exact h.ren e e2
 |drop e=>exact ⟨β,h.kill e⟩
 |nameS s c e2 =>
  simp only [doGhost]
  split
  ·split
   ·exact h.ren _ e2
   ·exact ⟨β,h⟩
  ·exact ⟨β,h⟩
 |only es=>exact ⟨β,h.onlyG es _⟩
 |tidy =>
  simp only [doGhost]
  cases σ.mem.isEmpty with
  |true=>exact ⟨β,h⟩
  |false =>
  obtain ⟨β1,h1⟩:=Sim.awayNames σ.mem h
  obtain ⟨β2,h2⟩:=Sim.nameSlots (d:=0) (R.awayNames σ.mem σ).fr (s:=0) h1
  obtain ⟨β5,h5⟩:=Sim.nameOuts (d:=0) (R.awayNames σ.mem σ).outs h2
  obtain ⟨β3,h3⟩:=Sim.nameBoxes _ h5
  obtain ⟨β4,h4⟩:=Sim.nameBoxes _ h3
  exact (h4.onlyG _ _).keepG _
 |keep es=>exact h.keepG es
 |nil1 s c nm t =>
  simp only [doGhost]
  split
  ·exact h.nilCell _ _ _ _
  ·exact ⟨β,h⟩
theorem Sim.ghosts {a:Array Value} (gs:List Ghost):∀ {β:Nat→Option Loc} {σ:St},Sim C β σ (a::as) w→∃ β',Sim C β' (doGhosts σ gs) (a::as) w:=by
 induction gs with
 |nil=>intro β σ h;exact ⟨β,h⟩
 |cons g gs ih =>
  intro β σ h
  obtain ⟨β',h'⟩:=h.ghost g
  exact ih h'
end
open Go.RowKit
def EqsOk (P:Program) (t:TypeId) (z:List V):Prop :=
 ∀ (S:Cx) (xs ys:List V) (as bs:Array Value) (r:Bool) (w:World),eqCells z xs ys=some r→All2 (V1 S) xs as.toList→All2 (V1 S) ys bs.toList →
  ∀ x y,(do eqGuard .eql t x y (.agg as) (.agg bs);binOp .eql t (.agg as) (.agg bs):Sem Value).run P w=.ok (.bool r) w ∧
   (do eqGuard .neq t x y (.agg as) (.agg bs);binOp .neq t (.agg as) (.agg bs):Sem Value).run P w=.ok (.bool (!r)) w
structure TtOk (P:Program) (tt:Nat→TI):Prop where
 slice:∀ t e,(tt t).kind=.slice e→P.underlying t=some (.slice e)
 struct:∀ t fs,(tt t).kind=.struct fs→∃ F:Array Field,P.underlying t=some (.struct F)∧F.toList.map (fun f=>(f.offset,f.type))=fs∧∀ f∈F.toList,∃ i,P.info? f.type=some i∧i.size=(tt f.type).size
 array:∀ t n e,(tt t).kind=.array n e→P.underlying t=some (.array n e)
 int:∀ t k,(tt t).kind=.int k→P.underlying t=some (.int k)
 bool:∀ t,(tt t).kind=.bool→P.underlying t=some .bool
 str:∀ t,(tt t).kind=.str→P.underlying t=some .string
 ptr:∀ t e,(tt t).kind=.ptr e→P.underlying t=some (.pointer e)
 info:∀ t,(tt t).size ≠ 0→∃ i z,P.info? t=some i∧i.size=(tt t).size∧i.bytes=(tt t).bytes∧i.zero=some z ∧
  All2 (fun v y=>(∀ S,V1 S v y)∧One y) (tt t).zero z.cells.toList
 agg:∀ t,(tt t).size ≠ 0→∃ d,P.underlying t=some d∧(tt t).agg=(match d with|.struct _|.array _ _=>true|_=>false)
 one:∀ t,(tt t).size ≠ 0→(tt t).agg=false→(tt t).size=1
 ty:∀ t τ,(tt t).ty=some τ→(tt t).size ≠ 0∧τ.size=(tt t).size∧τ.agg=(tt t).agg∧∀ i z,P.info? t=some i→i.zero=some z→∀ B w,DRel B w τ (dflt τ) z.cells.toList
 eqs:∀ t,(tt t).eqs=true→EqsOk P t (tt t).zero
section
variable {S:Cx}
theorem V3_ofValue (v:Value):V3 S (ofValue v) v:=by
 have h1:∀ y,V1 S (ofValue1 y) y:=by
  intro y
  unfold ofValue1
  split <;> first|rfl|trivial
 have h3:∀ y,V3 S (ofValue1 y) y:=fun y=>V3.of1 (h1 y)
 cases v with
 |agg cs =>
  refine ⟨cs,rfl,?_⟩
  refine All2.of (by simp) fun i a b ha hb=>?_
  rw [List.getElem?_map,hb] at ha
  simp only [Option.map_some,sI] at ha
  subst ha
  exact h1 b
 |bool b=>exact h3 (.bool b)
 |int k n=>exact h3 (.int k n)
 |float k n=>exact h3 (.float k n)
 |complex k n m=>exact h3 (.complex k n m)
 |string s=>exact h3 (.string s)
 |pointer a=>exact h3 (.pointer a)
 |slice a n c=>exact h3 (.slice a n c)
 |map r=>exact h3 (.map r)
 |chan r=>exact h3 (.chan r)
 |func f a c=>exact h3 (.func f a c)
 |nilFunc=>exact h3 .nilFunc
 |iface t v=>exact h3 (.iface t v)
 |nilIface=>exact h3 .nilIface
 |tuple vs=>exact h3 (.tuple vs)
theorem Sim.eval {C:Frm} {β:Nat→Option Loc} {σ:St} {a:Act} {as:List (Array Value)} {w:World} (h:Sim C β σ (a.tmps::as) w) (x:Operand):V3 (cx C β σ w) (σ.eval x) (a.eval x):=by
 cases x with
 |tmp t=>exact h.get t
 |const v=>exact V3_ofValue v
 |func f=>exact ⟨#[],rfl,trivial⟩
 |global g=>exact V3.undef
theorem V1.one {v:V} {y:Value} (h:V1 S v y) (hk:known [v]=true):One y:=by
 cases v with
 |int k n=>have h:y=_:=h;subst h;rfl
 |bool b=>have h:y=_:=h;subst h;rfl
 |str s=>have h:y=_:=h;subst h;rfl
 |ro t l=>obtain ⟨A,c,h,_⟩:=h;injection h with h;subst h;rfl
 |own t l=>simp [known] at hk
 |nil=>have h:y=_:=h;subst h;rfl
 |nilp=>have h:y=_:=h;subst h;rfl
 |undef=>simp [known] at hk
 |slw e=>rcases h with ⟨t,l,_,A,c,h,_⟩|⟨_,_,_,_,A,c,h,_⟩ <;> subst h <;> rfl
 |sl e o n=>rcases h with ⟨t,l,_,_,⟨A,c,h,_⟩,_⟩|⟨_,_,_,_,_,_,_,_,_,_,A,c,h,_⟩ <;> subst h <;> rfl
 |ptr e i o =>
  obtain ⟨E,L,_,_,h⟩:=h
  cases E with
  |row t l=>obtain ⟨_,_,h⟩:=h;subst h;rfl
  |box cs=>obtain ⟨_,h⟩:=h;subst h;rfl
  |nest t ll k=>obtain ⟨_,_,h⟩:=h;subst h;rfl
 |rop cs=>obtain ⟨a,_,h,_⟩:=h;subst h;rfl
 |fn f caps=>obtain ⟨ys,h,_⟩:=h;subst h;rfl
 |agg cs=>simp [known] at hk
 |tup vs=>simp [known] at hk
theorem known_cons {v:V} {vs:List V} (h:known (v::vs)=true):known [v]=true∧known vs=true:=by
 cases v <;> simp_all [known]
theorem All2.ones {vs:List V} {ys:List Value} (h:All2 (V1 S) vs ys) (hk:known vs=true):∀ y∈ys,One y:=by
 induction vs generalizing ys with
 |nil=>cases ys <;> simp_all [All2]
 |cons v vs ih=>cases ys with
  |nil=>simp
  |cons y ys =>
   obtain ⟨h1,h2⟩:=known_cons hk
   intro z hz
   rcases List.mem_cons.1 hz with rfl|hz
   ·exact h.1.one h1
   ·exact ih h.2 h2 z hz
theorem One.cells {y:Value} (h:One y):y.cells=#[y]:=by cases y <;> first|rfl|(simp [One,Value.oneCell'] at h)
theorem V3.cells {v:V} {x:Value} (h:V3 S v x) (hk:known v.cells=true):All2 (V1 S) v.cells x.cells.toList∧∀ y∈x.cells.toList,One y:=by
 rcases V3.cases h with ⟨vs,rfl,_⟩|⟨_,h⟩
 ·simp [V.cells,known] at hk
 rcases V2.cases h with ⟨cs,rfl,ys,rfl,h0⟩|⟨h1,h⟩
 ·exact ⟨h0,h0.ones hk⟩
 ·have hc:v.cells=[v]:=by cases v <;> first|rfl|simp [V.isAgg] at h1
  rw [hc] at hk ⊢
  have ho:=h.one hk
  rw [ho.cells]
  exact ⟨⟨h,trivial⟩,by simpa using ho⟩
theorem V3_asV {g:Bool} {cs:List V} {ys:Array Value} (h:All2 (V1 S) cs ys.toList) (h1:g=false→cs.length=1):V3 S (asV g cs) (if g then .agg ys else ys.toList.headD undef):=by
 cases g with
 |true=>exact ⟨ys,rfl,h⟩
 |false =>
  have h1:=h1 rfl
  match cs,h1 with
  | [v],_ =>
   have hl:=h.length
   match hy:ys.toList,hl with
   | [y],_ =>
    rw [hy] at h
    exact V3.of1 h.1
theorem C0.to {v:V} {y:Value} (h:C0 S.B S.w v y):V1 S v y:=by
 cases v <;> first|exact h|exact h.elim
theorem DRel.enc:∀ {t:Ty} {x:t.den} {ys:List Value},DRel S.B S.w t x ys→All2 (C0 S.B S.w) (enc t x) ys
 |.int _,_,_,h=>by simp only [DRel] at h;subst h;exact ⟨rfl,trivial⟩
 |.bool,_,_,h=>by simp only [DRel] at h;subst h;exact ⟨rfl,trivial⟩
 |.str,_,_,h=>by simp only [DRel] at h;subst h;exact ⟨rfl,trivial⟩
 |.list a,l,ys,h=>by
  have h':=h
  obtain ⟨A,c,rfl,_⟩:=h'
  exact ⟨h,trivial⟩
 |.pair a b,x,_,h=>by
  obtain ⟨y1,y2,rfl,h1,h2⟩:=h
  exact h1.enc.append h2.enc
 |.one a,_,_,h=>by simp only [DRel] at h;exact h.enc
theorem enc_length:∀ (t:Ty) (x:t.den),(enc t x).length=t.size
 |.int _,_=>rfl
 |.bool,_=>rfl
 |.str,_=>rfl
 |.list _,_=>rfl
 |.pair a b,x=>by simp only [enc,lA,enc_length a,enc_length b,Ty.size]
 |.one a,x=>by simp only [enc,enc_length a,Ty.size]
theorem dec_rel {B:Ty×Nat→Prop} {w:World}:∀ (t:Ty) {cs:List V} {ys:List Value} {x:t.den} {r:List V},(∀ v y,V0 S v y→V0 ⟨[],fun _=>none,B,w⟩ v y)→All2 (V1 S) cs ys→dec t cs=some (x,r) →
  ∃ y1 y2,ys=y1++y2∧DRel B w t x y1∧All2 (V1 S) r y2
 |.int k,[],_,_,_,_,_,h=>by simp [dec] at h
 |.int k,v::cs,ys,x,r,hv,ha,h=>by
  cases v <;> simp only [dec,reduceCtorEq] at h
  rename_i k' n
  split at h
  ·rename_i hk
   subst hk
   simp only [sI,Prod.mk.injEq] at h
   obtain ⟨rfl,rfl⟩:=h
   cases ys with
   |nil=>exact ha.elim
   |cons y ys =>
    have h1:y=_:=ha.1
    subst h1
    exact ⟨[_],ys,rfl,rfl,ha.2⟩
  ·cases h
 |.bool,[],_,_,_,_,_,h=>by simp [dec] at h
 |.bool,v::cs,ys,x,r,hv,ha,h=>by
  cases v <;> simp only [dec,reduceCtorEq] at h
  simp only [sI,Prod.mk.injEq] at h
  obtain ⟨rfl,rfl⟩:=h
  cases ys with
  |nil=>exact ha.elim
  |cons y ys =>
   have h1:y=_:=ha.1
   subst h1
   exact ⟨[_],ys,rfl,rfl,ha.2⟩
 |.str,[],_,_,_,_,_,h=>by simp [dec] at h
 |.str,v::cs,ys,x,r,hv,ha,h=>by
  cases v <;> simp only [dec,reduceCtorEq] at h
  simp only [sI,Prod.mk.injEq] at h
  obtain ⟨rfl,rfl⟩:=h
  cases ys with
  |nil=>exact ha.elim
  |cons y ys =>
   have h1:y=_:=ha.1
   subst h1
   exact ⟨[_],ys,rfl,rfl,ha.2⟩
 |.list a,[],_,_,_,_,_,h=>by simp [dec] at h
 |.list a,v::cs,ys,x,r,hv,ha,h=>by
  cases v <;> simp only [dec,reduceCtorEq] at h
  ·rename_i a' l
   split at h
   ·rename_i hk
    subst hk
    simp only [sI,Prod.mk.injEq] at h
    obtain ⟨rfl,rfl⟩:=h
    cases ys with
    |nil=>exact ha.elim
    |cons y ys=>exact ⟨[y],ys,rfl,hv (.ro _ _) y ha.1,ha.2⟩
   ·cases h
  ·simp only [sI,Prod.mk.injEq] at h
   obtain ⟨rfl,rfl⟩:=h
   cases ys with
   |nil=>exact ha.elim
   |cons y ys =>
    have h1:y=_:=ha.1
    subst h1
    exact ⟨[_],ys,rfl,⟨none,0,rfl,Nat.le_refl _,fun i x hx=>by simp at hx⟩,ha.2⟩
 |.pair a b,cs,ys,x,r,hv,ha,h=>by
  simp only [dec] at h
  cases h1:dec a cs with
  |none=>simp [h1] at h
  |some p =>
   obtain ⟨x1,r1⟩:=p
   simp only [h1] at h
   cases h2:dec b r1 with
   |none=>simp [h2] at h
   |some q =>
    obtain ⟨x2,r2⟩:=q
    simp only [h2,sI,Prod.mk.injEq] at h
    obtain ⟨rfl,rfl⟩:=h
    obtain ⟨y1,y2,rfl,d1,a1⟩:=dec_rel a hv ha h1
    obtain ⟨z1,z2,rfl,d2,a2⟩:=dec_rel b hv a1 h2
    exact ⟨y1++z1,z2,by rw [List.append_assoc],⟨y1,z1,rfl,d1,d2⟩,a2⟩
 |.one a,cs,ys,x,r,hv,ha,h=>by
  simp only [dec] at h
  obtain ⟨y1,y2,e,d,a2⟩:=dec_rel a hv ha h
  exact ⟨y1,y2,e,d,a2⟩
theorem decAll_rel {B:Ty×Nat→Prop} {w:World} (t:Ty) {cs:List V} {ys:List Value} {x:t.den} (hv:∀ v y,V0 S v y→V0 ⟨[],fun _=>none,B,w⟩ v y) (ha:All2 (V1 S) cs ys) (h:decAll t cs=some x):DRel B w t x ys:=by
 unfold decAll at h
 split at h
 ·rename_i x' h1
  injection h with h
  subst h
  obtain ⟨y1,y2,rfl,d,a2⟩:=dec_rel t hv ha h1
  cases y2 with
  |nil=>simpa using d
  |cons y y2=>exact a2.elim
 ·cases h
end
abbrev allB (w:World):Ty×Nat→Prop:=fun g=>g.2<w.heap.size
abbrev cxP (B:Ty×Nat→Prop) (w:World):Cx:=⟨[],fun _=>none,B,w⟩
section
variable {C:Frm} {β:Nat→Option Loc} {σ:St} {as:List (Array Value)} {w:World}
theorem Sim.pure1 (h:Sim C β σ as w) {v:V} {x:Value} (hv:V1 (cx C β σ w) v x):V1 (cxP (allB w) w) (pure1 σ v) x:=by
 have hF:∀ g,Free C σ.mem β w g→allB w g:=fun g hf=>hf.1
 cases v with
 |slw e =>
  rcases hv with ⟨t,l,hl,hs⟩|⟨E,n,hl,hw,hs⟩
  rotate_left
  ·have hl:look σ.mem e=_:=hl
   cases E with
   |row t l=>cases hw
   |box cs=>simp only [R.pure1,hl];exact trivial
   |nest t ll k=>simp only [R.pure1,hl];exact trivial
  have hl:look σ.mem e=_:=hl
  simp only [R.pure1,hl]
  have:=own_reads (S:=cx C β σ w) (B':=allB w) (w':=w) (h.ent e _ hl) (by omega:0+l.length≤l.length) hs hF (fun L hL=>h.lt hl hL) (fun _ _=>rfl)
  simpa [V1,V0] using this
 |sl e o n =>
  rcases hv with ⟨t,l,hl,ho,hs,_⟩|⟨t,ll,k,l,L,hl,_⟩
  rotate_left
  ·have hl:look σ.mem e=_:=hl
   simp only [R.pure1,hl]
   exact trivial
  have hl:look σ.mem e=_:=hl
  simp only [R.pure1,hl]
  exact own_reads (S:=cx C β σ w) (B':=allB w) (w':=w) (h.ent e _ hl) ho hs hF (fun L hL=>h.lt hl hL) (fun _ _=>rfl)
 |ro t l=>exact DRel.mono (t:=.list t) hF (fun _ _=>rfl) hv
 |rop cs =>
  obtain ⟨a,k,hx,hb,hc⟩:=hv
  refine ⟨a,k,hx,hF _ hb,fun j v hj=>?_⟩
  obtain ⟨y,hy,h0⟩:=hc j v hj
  refine ⟨y,hy,?_⟩
  cases v <;> simp only [C0] at h0 ⊢ <;> first|exact h0|exact h0.mono hF (fun _ _=>rfl)
 |int k n=>exact hv
 |bool b=>exact hv
 |str s=>exact hv
 |nil=>exact hv
 |nilp=>exact hv
 |_=>exact trivial
theorem Sim.pureV (h:Sim C β σ as w) {v:V} {x:Value} (hv:V3 (cx C β σ w) v x):V3 (cxP (allB w) w) (pureV σ v) x:=by
 rcases V3.cases hv with ⟨vs,rfl,_⟩|⟨_,h2⟩
 ·exact trivial
 rcases V2.cases h2 with ⟨cs,rfl,ys,rfl,h3⟩|⟨h4,h3⟩
 ·exact ⟨ys,rfl,h3.map (R.pure1 σ) fun a b hab=>h.pure1 hab⟩
 ·have:R.pureV σ v=R.pure1 σ v:=by cases v <;> first|rfl|simp [V.isAgg] at h4
  rw [this]
  exact V3.of1 (h.pure1 h3)
end
theorem V0.idP {B:Ty×Nat→Prop} {w:World}:∀ v y,V0 (cxP B w) v y→V0 ⟨[],fun _=>none,B,w⟩ v y:=fun _ _ h=>h
open Go.RowKit
def Done (P:Program) (C:Frm) (o:Oper) (a:Act) (as:List (Array Value)) (w:World) (v:V) (σ':St):Prop :=
 ∃ x w' β',((execOp a.eval o).run P w=.ok (.value x) w'∨((execOp a.eval o).run P w=.ok .skip w'∧x=undef))∧Sim C β' σ' (a.tmps::as) w'∧V3 (cx C β' σ' w') v x
section
variable {P:Program} {E:Env} {C:Frm} {β:Nat→Option Loc} {σ σ':St} {a:Act} {as:List (Array Value)} {w:World} {o:Oper} {nm:Nat} {ty:TypeId} {bs:List Bool} {v:V}
theorem Done.same {x:Value} (h:Sim C β σ (a.tmps::as) w) (hr:(execOp a.eval o).run P w=.ok (.value x) w) (hv:V3 (cx C β σ w) v x):Done P C o a as w v σ:=⟨x,w,β,.inl hr,h,hv⟩
theorem done_move (h:Sim C β σ (a.tmps::as) w) {x:Operand} (hop:o.op=.move x∨o.op=.assign x):Done P C o a as w (σ.eval x) σ :=
 .same h (by rcases hop with hop|hop <;> simp only [execOp,hop,Sem.run_pure]) (h.eval x)
theorem done_nil (h:Sim C β σ (a.tmps::as) w) {x:Operand} (hop:o.op=.assign x) (hx:σ.eval x=.nil) (t:Ty):Done P C o a as w (.slw nm) (σ.new nm (.row t [])):=by
 have h1:=h.eval x
 rw [hx] at h1
 have h1:a.eval x=.slice none 0 0:=h1
 obtain ⟨h2,_⟩:=h.newNil nm t
 refine ⟨a.eval x,w,_,.inl (by simp only [execOp,hop,Sem.run_pure]),h2,?_⟩
 rw [h1]
 refine V3.of0 (.inl ⟨t,[],by simp [St.new,look_cons],none,0,rfl,Nat.le_refl _,.inl rfl⟩)
theorem run_asBool (b:Bool) (w:World):(asBool (.bool b)).run P w=.ok b w:=rfl
theorem done_pick (h:Sim C β σ (a.tmps::as) w) {c x y:Operand} {b:Bool} (hop:o.op=.pick c x y) (hc:σ.eval c=.bool b):Done P C o a as w (bif b then σ.eval x else σ.eval y) σ:=by
 have h1:=h.eval c
 rw [hc] at h1
 have h1:a.eval c=.bool b:=h1
 refine .same (x:=if b then a.eval x else a.eval y) h ?_ ?_
 ·simp only [execOp,hop,h1,Sem.run_bind,run_asBool,Result.andThen_ok,Sem.run_pure]
 ·cases b
  ·exact h.eval y
  ·exact h.eval x
theorem done_box (h:Sim C β σ (a.tmps::as) w) {cs:List V} {ys:Array Value} {el:TypeId} (hr:(execOp a.eval o).run P w=.ok (.value (.pointer (some ⟨w.heap.size,0,none⟩))) (w.alloc (.cells ys el)))
  (hc:All2 (fun v y=>V1 (cx C β (σ.clear nm) w) v y∧One y) cs ys.toList):Done P C o a as w (.ptr nm 0 0) (σ.new nm (.box cs)):=by
 obtain ⟨h1,hk⟩:=h.new nm (.box cs) ys el (fun S' hS hw hβ=>by
  refine ⟨_,ys,el,hβ,by rw [hw];exact heap_alloc_new w _,rfl,fun j v hj=>?_⟩
  obtain ⟨y,hy,hv,ho⟩:=hc.get hj
  exact ⟨y,by simpa using hy,hv.keeps hS,ho⟩)
 refine ⟨_,_,_,.inl hr,h1,V3.of0 ⟨.box cs,⟨w.heap.size,0,ys.size,noI⟩,by simp [St.new,look_cons],by simp [setβ],rfl,rfl⟩⟩
theorem All2.and {α β:Type} {R R':α→β→Prop} {as:List α} {bs:List β} (h:All2 R as bs) (h':∀ b∈bs,∀ a,R' a b):All2 (fun a b=>R a b∧R' a b) as bs:=by
 induction as generalizing bs with
 |nil=>cases bs <;> simp_all [All2]
 |cons a as ih=>cases bs with
  |nil=>exact h.elim
  |cons b bs=>exact ⟨⟨h.1,h' b (by simp) a⟩,ih h.2 fun c hc=>h' c (by simp [hc])⟩
theorem V1.clear {v:V} {x:Value} (e:Nat) (hv:V1 (cx C β σ w) v x):V1 (cx C β (σ.clear e) w) (v.mapC (killV e)) x:=by
 refine hv.map (S:=cx C β σ w) fun v x hv=>?_
 by_cases hr:refOf v=some e
 ·cases v <;> simp only [refOf,sI,reduceCtorEq] at hr <;> subst hr <;> simp [killV,V0]
 ·rw [killV_other hr]
  cases hl:look σ.mem e with
  |none =>
   have:σ.clear e=σ:=by unfold St.clear;rw [hl];rfl
   rw [this];exact hv
  |some E =>
   have hc:σ.clear e=σ.kill e:=by unfold St.clear;rw [hl];rfl
   rw [hc]
   refine V0.other (S:=cx C β σ w) (S':=cx C β (σ.kill e) w) (g:=killV e) (fun g hg=>by rw [← hc];exact clear_free hg) (fun _ _=>rfl) hv fun e' he'=>⟨?_,rfl⟩
   show look (σ.kill e).mem e'=_
   rw [look_kill,if_neg fun he2=>hr (by rw [he',he2])]
theorem done_opBox (h:Sim C β σ (a.tmps::as) w) {t:TypeId} {x:Operand} (hop:o.op=.box t x) (hk:known (σ.eval x).cells=true):Done P C o a as w (.ptr nm 0 0) (σ.new nm (.box ((σ.eval x).cells.map (V.mapC (killV nm))))):=by
 obtain ⟨h1,h2⟩:=(h.eval x).cells hk
 refine done_box (ys:=(a.eval x).cells) (el:=t) h ?_ ?_
 ·simp only [execOp,hop,Instr.box,newVar,newRow,Sem.run_bind,run_newObj,Result.andThen_ok,Sem.run_pure,World.alloc_eq]
 ·exact (h1.map (Q:=V1 (cx C β (σ.clear nm) w)) (V.mapC (killV nm)) fun v y hv=>V1.clear nm hv).and fun y hy _=>h2 y hy
theorem run_zeroValue {t:TypeId} {i:TypeInfo} {z:Value} (hi:P.info? t=some i) (hz:i.zero=some z) (w:World):(zeroValue t).run P w=.ok z w:=by
 simp [zeroValue,typeInfo,hi,hz]
theorem run_sizeOf' {t:TypeId} {i:TypeInfo} (hi:P.info? t=some i) (w:World):(sizeOf t).run P w=.ok i.size w:=by
 simp [sizeOf,typeInfo,hi]
theorem done_alloc (hT:TtOk P E.tt) (h:Sim C β σ (a.tmps::as) w) {t:TypeId} (hop:o.op=.alloc t) (hs:(E.tt t).size ≠ 0):Done P C o a as w (.ptr nm 0 0) (σ.new nm (.box (E.tt t).zero)):=by
 obtain ⟨i,z,hi,_,_,hz,hzz⟩:=hT.info t hs
 refine done_box (ys:=z.cells) (el:=t) h ?_ (hzz.mono fun v y hh=>⟨hh.1 _,hh.2⟩)
 simp only [execOp,hop,Instr.alloc,Sem.run_bind,run_zeroValue hi hz,Result.andThen_ok,newVar,newRow,run_newObj,Sem.run_pure,World.alloc_eq]
theorem zipIdx_fold (off:Nat):∀ (vs:List Value) (k:Nat) (cs:Array Value),off+k+vs.length≤cs.size →
  ((vs.zipIdx k).foldl (fun cs (p:Value×Nat)=>cs.setIfInBounds (off+p.2) p.1) cs).toList=cs.toList.take (off+k)++vs++cs.toList.drop (off+k+vs.length)
 | [],k,cs,_=>by simp
 |v::vs,k,cs,h=>by
  simp only [List.zipIdx_cons,List.foldl_cons]
  simp only [List.length_cons] at h
  rw [zipIdx_fold off vs (k+1) _ (by simp;omega)]
  have hlt:off+k<cs.toList.length:=by simp;omega
  simp only [Array.toList_setIfInBounds]
  have e1:List.take (off+(k+1)) (cs.toList.set (off+k) v)=List.take (off+k) cs.toList++[v]:=by
   rw [show off+(k+1)=off+k+1 from by omega,List.take_succ_eq_append_getElem (by simpa using hlt)]
   rw [List.take_set_of_le (Nat.le_refl _)]
   simp
  have e2:List.drop (off+(k+1)+vs.length) (cs.toList.set (off+k) v)=List.drop (off+k+(vs.length+1)) cs.toList:=by
   rw [List.drop_set_of_lt (by omega)]
   congr 1;omega
  rw [e1,e2]
  simp
theorem fill_rel {S:Cx} (place:Nat→Option (Nat×Nat)):∀ (ps:List (Nat×V)) (qs:List (Nat×Value)) (cs:List V) (ys:Array Value) {cs':List V},All2 (fun p q=>p.1=q.1∧V3 S p.2 q.2) ps qs→All2 (fun v y=>V1 S v y∧One y) cs ys.toList →
  fillC place ps cs=some cs'→∃ ys',Instr.fill place ys qs=some ys'∧All2 (fun v y=>V1 S v y∧One y) cs' ys'.toList
 | [],qs,cs,ys,cs',hp,hc,h=>by
  cases qs with
  |nil=>simp only [fillC,sI] at h;subst h;exact ⟨ys,rfl,hc⟩
  |cons q qs=>exact hp.elim
 |(i,v)::ps,qs,cs,ys,cs',hp,hc,h=>by
  cases qs with
  |nil=>exact hp.elim
  |cons q qs =>
   obtain ⟨i',x⟩:=q
   obtain ⟨⟨rfl,hv⟩,hp⟩:=hp
   simp only [fillC] at h
   cases hpl:place i with
   |none=>simp [hpl] at h
   |some on =>
    obtain ⟨off,n⟩:=on
    simp only [hpl] at h
    cases hb:n==v.cells.length&&known v.cells&&(off+v.cells.length).ble cs.length with
    |false=>simp [hb] at h
    |true =>
     simp only [hb,cond_true] at h
     simp only [bA,beq_iff_eq,Nat.ble_eq] at hb
     obtain ⟨⟨h1,h2⟩,h3⟩:=hb
     obtain ⟨hcs,hone⟩:=hv.cells h2
     have hl:=hcs.length
     have hl2:=hc.length
     simp only [Array.length_toList] at hl hl2
     have hfold:=zipIdx_fold off x.cells.toList 0 ys (by simp only [Array.length_toList];omega)
     have hfold':(x.cells.zipIdx.foldl (fun cs (p:Value×Nat)=>cs.setIfInBounds (off+p.2) p.1) ys).toList=ys.toList.take off++x.cells.toList++ys.toList.drop (off+v.cells.length):=by
      rw [← Array.foldl_toList,Array.toList_zipIdx,hfold,Nat.add_zero,Array.length_toList,hl]
     obtain ⟨ys',h4,h5⟩:=fill_rel place ps qs (fillAt cs off v.cells) (x.cells.zipIdx.foldl (fun cs (p:Value×Nat)=>cs.setIfInBounds (off+p.2) p.1) ys) hp (by
      rw [hfold',fillAt]
      exact ((hc.take off).append (hcs.and fun y hy _=>hone y hy)).append (hc.drop _)) h
     refine ⟨ys',?_,h5⟩
     have hc1:¬ (x.cells.size ≠ n∨off+x.cells.size>ys.size):=by omega
     simp only [Instr.fill,hpl]
     rw [if_neg (by simpa using hc1)]
     exact h4
end
open Go.RowKit
section
variable {P:Program} {E:Env} {C:Frm} {β:Nat→Option Loc} {σ σ':St} {a:Act} {as:List (Array Value)} {w:World} {o:Oper} {nm:Nat} {ty:TypeId} {bs:List Bool} {v:V}
theorem parts_rel (h:Sim C β σ (a.tmps::as) w) (ps:List (Nat×Operand)):All2 (fun (p:Nat×V) (q:Nat×Value)=>p.1=q.1∧V3 (cx C β σ w) p.2 q.2) (ps.map fun p=>(p.1,σ.eval p.2)) (ps.map fun p=>(p.1,a.eval p.2)):=by
 induction ps with
 |nil=>exact trivial
 |cons p ps ih=>exact ⟨⟨rfl,h.eval p.2⟩,ih⟩
theorem places_of {fs:List (Nat×TypeId)} {F:List Field} {tt:Nat→TI} (hF:F.map (fun f=>(f.offset,f.type))=fs) (hi:∀ f∈F,∃ i,P.info? f.type=some i∧i.size=(tt f.type).size) :
  F.mapM (fun f=>(P.info? f.type).map fun i=>(f.offset,i.size))=some (fs.map fun f=>(f.1,(tt f.2).size)):=by
 subst hF
 induction F with
 |nil=>rfl
 |cons f F ih =>
  obtain ⟨i,h1,h2⟩:=hi f (by simp)
  simp only [List.mapM_cons,h1,Option.map_some,Option.bind_eq_bind,Option.bind_some,ih fun g hg=>hi g (by simp [hg]),Option.pure_def,List.map_cons,h2]
theorem done_build (hT:TtOk P E.tt) (h:Sim C β σ (a.tmps::as) w) {t:TypeId} {ps:Array (Nat×Operand)} {fs:List (Nat×TypeId)} {cs:List V} (hop:o.op=.build t ps) (hk:(E.tt t).kind=.struct fs) (hs:(E.tt t).size ≠ 0)
  (hc:fillC (fun i=>(fs[i]?).map fun f=>(f.1,(E.tt f.2).size)) (ps.toList.map fun p=>(p.1,σ.eval p.2)) (E.tt t).zero=some cs):Done P C o a as w (.agg cs) σ:=by
 obtain ⟨F,hu,hF,hFi⟩:=hT.struct t fs hk
 obtain ⟨i,z,hi,_,_,hz,hzz⟩:=hT.info t hs
 obtain ⟨ys,h1,h2⟩:=fill_rel (S:=cx C β σ w) _ _ _ _ z.cells (parts_rel h ps.toList) (hzz.mono fun v y hh=>⟨hh.1 _,hh.2⟩) hc
 have hpl:=places_of (P:=P) (tt:=E.tt) hF hFi
 refine .same (x:=.agg ys) h ?_ ⟨ys,rfl,h2.mono fun _ _ hh=>hh.1⟩
 have hb:P.built t ((ps.map fun p=>(p.1,a.eval p.2)).toList)=some ys:=by
  unfold Program.built
  rw [hi,hu,Array.toList_map]
  simp only [hz,hpl]
  have he:(fun (x:Nat)=>(fs.map fun (f:Nat×TypeId)=>(f.1,(E.tt f.2).size)).toArray[x]?)=fun i=>(fs[i]?).map fun (f:Nat×TypeId)=>(f.1,(E.tt f.2).size):=by
   funext x
   simp
  rw [he]
  exact h1
 have:=run_build (P:=P) w t (ps.map fun p=>(p.1,a.eval p.2)) ys hb
 simp only [execOp,hop,Sem.run_bind]
 rw [this]
 rfl
theorem done_row (h:Sim C β σ (a.tmps::as) w) {t:Ty} {l:List t.den} {ys:Array Value} {el:TypeId} {n c:Nat} {w1:World} (hg:Grows w w1) (hr:(execOp a.eval o).run P w=.ok (.value (.slice (some ⟨w1.heap.size,0,none⟩) n c)) (w1.alloc (.cells ys el)))
  (hn:n=l.length) (hcap:n≤c) (hsz:ys.size=c*t.size) (hl:∀ (i:Nat) x,l[i]? = some x→∃ zs,DRel (Free C σ.mem β w) w t x zs∧∀ (j:Nat) z,zs[j]? = some z→ys[i*t.size+j]? = some z):Done P C o a as w (.slw nm) (σ.new nm (.row t l)):=by
 obtain ⟨h0,hk0⟩:=h.grows hg
 have hF:∀ gg,Free C σ.mem β w gg→Free C (σ.clear nm).mem β w1 gg:=by
  rintro gg ⟨h1,h2⟩
  refine ⟨Nat.lt_of_lt_of_le h1 hg.size,?_⟩
  exact fun hoh=>h2 (hoh.imp (fun ⟨e',L,h3,h4,h5⟩=>⟨e',L,clear_sub h3,h4,h5⟩) (Or.imp id (Frzd.same (hg.block gg.2 h1))))
 obtain ⟨h1,hk⟩:=h0.new nm (.row t l) ys el (fun S' hS hw hβ=>by
  refine .inr ⟨_,ys,el,hβ,by rw [hw];exact heap_alloc_new w1 _,rfl,?_,fun i x hx=>?_⟩
  ·show 0+l.length*t.size≤ys.size
   rw [hsz,← hn,Nat.zero_add]
   exact Nat.mul_le_mul_right _ hcap
  ·obtain ⟨zs,hz,hc⟩:=hl i x hx
   refine ⟨zs,hz.mono (fun g hf=>hS.B g (hF g hf)) (fun g hf=>?_),fun j z hj=>by simpa using hc j z hj⟩
   rw [hS.w g (hF g hf)]
   exact hg.block g.2 hf.1)
 refine ⟨_,_,_,.inl hr,h1,V3.of0 (.inl ⟨t,l,by simp [St.new,look_cons],?_⟩)⟩
 refine ⟨_,c,by rw [hn],by omega,.inr ⟨⟨w1.heap.size,0,ys.size,noI⟩,by simp [setβ],by simp,?_⟩⟩
 show 0+(0+c)*t.size≤ys.size
 rw [hsz,Nat.zero_add,Nat.zero_add]
 exact Nat.le_refl _
theorem decN_rel {S:Cx} {B:Ty×Nat→Prop} {w:World} (hv:∀ v y,V0 S v y→V0 ⟨[],fun _=>none,B,w⟩ v y) (t:Ty):∀ (n:Nat) {cs:List V} {ys:List Value} {l:List t.den},All2 (V1 S) cs ys→decN t n cs=some l →
  l.length=n∧∀ (i:Nat) x,l[i]? = some x→∃ zs,DRel B w t x zs∧∀ (j:Nat) z,zs[j]? = some z→ys[i*t.size+j]? = some z
 |0,[],ys,l,ha,h=>by
  simp only [decN,sI] at h
  subst h
  exact ⟨rfl,fun i x hx=>by simp at hx⟩
 |0,v::cs,ys,l,ha,h=>by simp [decN] at h
 |n+1,cs,ys,l,ha,h=>by
  simp only [decN] at h
  cases h1:dec t cs with
  |none=>simp [h1] at h
  |some p =>
   obtain ⟨x,r⟩:=p
   simp only [h1] at h
   cases h2:decN t n r with
   |none=>simp [h2] at h
   |some xs =>
    simp only [h2,sI] at h
    subst h
    obtain ⟨y1,y2,rfl,d,a2⟩:=dec_rel t hv ha h1
    obtain ⟨hl,ih⟩:=decN_rel hv t n a2 h2
    have hy1:=d.length
    refine ⟨by simp [hl],fun i z hz=>?_⟩
    cases i with
    |zero =>
     simp only [List.getElem?_cons_zero,sI] at hz
     subst hz
     refine ⟨y1,d,fun j u hj=>?_⟩
     have hj':j<y1.length:=(List.getElem?_eq_some_iff.1 hj).1
     rw [Nat.zero_mul,Nat.zero_add,List.getElem?_append_left hj']
     exact hj
    |succ i =>
     simp only [List.getElem?_cons_succ] at hz
     obtain ⟨zs,d2,hc⟩:=ih i z hz
     refine ⟨zs,d2,fun j u hj=>?_⟩
     have:=hc j u hj
     rw [List.getElem?_append_right (by rw [hy1,Nat.add_mul];omega),hy1]
     rw [← this]
     congr 1
     rw [Nat.add_mul];omega
theorem zeros_rel {S:Cx} {zero:List V} {z:Array Value} (hz:All2 (fun v y=>(∀ S,V1 S v y)∧One y) zero z.toList) (n:Nat) (hpos:0<z.size):All2 (fun v y=>V1 S v y∧One y) (zerosL zero n) ((Array.range n).map (z[· % z.size]!)).toList:=by
 have hl:=hz.length
 simp only [Array.length_toList] at hl
 refine All2.of (by simp [zerosL]) fun i v y hv hy=>?_
 simp only [zerosL,List.getElem?_map,Option.map_eq_some_iff] at hv
 obtain ⟨j,hj,rfl⟩:=hv
 have hjn:j=i∧i<n:=by
  have:=List.getElem?_eq_some_iff.1 hj
  obtain ⟨h1,h2⟩:=this
  simp at h1 h2
  exact ⟨h2.symm,h1⟩
 obtain ⟨rfl,hjn⟩:=hjn
 simp only [Array.getElem?_toList,Array.getElem?_map,Array.getElem?_range,hjn,if_true,Option.map_some,sI] at hy
 subst hy
 have hm:j % z.size<z.size:=Nat.mod_lt _ hpos
 have hm':j % zero.length<zero.length:=by rw [hl];exact hm
 obtain ⟨y,hy,h1,h2⟩:=hz.get (gE hm')
 have e1:zero.getD (j % zero.length) .undef=zero[j % zero.length]:=by simp [List.getD_eq_getElem?_getD,hm']
 have e2:z[j % z.size]! = y:=by
  rw [hl] at hy
  have hy:z[j % z.size]? = some y:=by simpa using hy
  simp [getElem!_def,hy]
 rw [e1,e2]
 exact ⟨h1 _,h2⟩
end
open Go.RowKit
section
variable {P:Program} {E:Env} {C:Frm} {β:Nat→Option Loc} {σ σ':St} {a:Act} {as:List (Array Value)} {w:World} {o:Oper} {nm:Nat} {ty:TypeId} {bs:List Bool} {v:V}
theorem look_frz (σ:St) (e e':Nat):look (σ.frz e).mem e'=match look σ.mem e with
  |some (.row t l)=>if e'=e then none else (look σ.mem e').map (Entry.map1 (frzV e t l))
  |_=>look σ.mem e':=by
 unfold St.frz
 cases hl:look σ.mem e with
 |none=>rfl
 |some E =>
  cases E with
  |box cs=>rfl
  |nest t ll k=>rfl
  |row t l =>
   show look ((dropE σ.mem e).map fun p=>(p.1,p.2.map1 (frzV e t l))) e'=_
   rw [look_map]
   by_cases h:e'=e
   ·subst h;simp [look_dropE_same]
   ·simp [look_dropE_other _ h,h]
theorem frz_sub {e e':Nat} (h:(look (σ.frz e).mem e').isSome=true):(look σ.mem e').isSome=true:=by
 rw [look_frz] at h
 split at h
 ·by_cases he:e'=e
  ·simp [he] at h
  ·simpa [he] using h
 ·exact h
theorem frz1_sub {v:V} {e':Nat} (h:(look (frz1 σ v).mem e').isSome=true):(look σ.mem e').isSome=true:=by
 cases v <;> first|exact h|exact frz_sub h
theorem frzAll_sub:∀ (vs:List V) {σ:St} {e':Nat},(look (σ.frzAll vs).mem e').isSome=true→(look σ.mem e').isSome=true
 | [],_,_,h=>h
 |v::vs,σ,e',h=>frz1_sub (frzAll_sub vs h)
theorem frz_row {e e':Nat} {t:Ty} {l:List t.den} (h:look σ.mem e'=some (.row t l)):look (σ.frz e).mem e'=none∨look (σ.frz e).mem e'=some (.row t l):=by
 rw [look_frz]
 split
 ·by_cases he:e'=e
  ·exact .inl (by simp [he])
  ·exact .inr (by simp [he,h,Entry.map1])
 ·exact .inr h
theorem frz1_row {v:V} {e':Nat} {t:Ty} {l:List t.den} (h:look σ.mem e'=some (.row t l)):look (frz1 σ v).mem e'=none∨look (frz1 σ v).mem e'=some (.row t l):=by
 cases v <;> first|exact .inr h|exact frz_row h
theorem frzAll_row:∀ (vs:List V) {σ:St} {e':Nat} {t:Ty} {l:List t.den},look σ.mem e'=some (.row t l)→look (σ.frzAll vs).mem e'=none∨look (σ.frzAll vs).mem e'=some (.row t l)
 | [],_,_,_,_,h=>.inr h
 |v::vs,σ,e',t,l,h=>by
  rcases frz1_row (v:=v) h with h1|h1
  ·left
   cases h2:look (σ.frzAll (v::vs)).mem e' with
   |none=>rfl
   |some E =>
    have:=frzAll_sub vs (σ:=frz1 σ v) (e':=e') (by show (look (σ.frzAll (v::vs)).mem e').isSome=true;rw [h2];rfl)
    rw [h1] at this;cases this
  ·exact frzAll_row vs h1
theorem frzAll_none:∀ (vs:List V) {σ:St} {e:Nat} {t:Ty} {l:List t.den} {v:V},v∈vs→(v=.slw e∨∃ o n,v=.sl e o n)→look σ.mem e=some (.row t l)→look (σ.frzAll vs).mem e=none
 |v::vs,σ,e,t,l,u,hm,hr,hl=>by
  have key:look (frz1 σ v).mem e=none→look (σ.frzAll (v::vs)).mem e=none:=by
   intro h1
   cases h2:look (σ.frzAll (v::vs)).mem e with
   |none=>rfl
   |some E =>
    have:=frzAll_sub vs (σ:=frz1 σ v) (e':=e) (by show (look (σ.frzAll (v::vs)).mem e).isSome=true;rw [h2];rfl)
    rw [h1] at this;cases this
  rcases List.mem_cons.1 hm with rfl|hm
  ·refine key ?_
   rcases hr with rfl|⟨o,n,rfl⟩ <;> (show look (σ.frz e).mem e=none;rw [look_frz,hl];simp)
  ·rcases frz1_row (v:=v) hl with h1|h1
   ·exact key h1
   ·exact frzAll_none vs (σ:=frz1 σ v) hm hr h1
theorem Sim.pureF (h:Sim C β σ as w) (vs:List V) {v:V} {x:Value} (hm:v∈vs) (hv:V1 (cx C β σ w) v x):V1 (cxP (Free C (σ.frzAll vs).mem β w) w) (R.pure1 σ v) x:=by
 have hF:∀ gg,Free C σ.mem β w gg→Free C (σ.frzAll vs).mem β w gg:=by
  rintro gg ⟨h1,h2⟩
  refine ⟨h1,?_⟩
  exact fun hoh=>h2 (hoh.imp_left fun ⟨e',L,h3,h4,h5⟩=>⟨e',L,frzAll_sub vs h3,h4,h5⟩)
 have hown:∀ e t (l:List t.den),look σ.mem e=some (.row t l)→(v=.slw e∨∃ o n,v=.sl e o n)→∀ L,β e=some L→Free C (σ.frzAll vs).mem β w (t,L.g):=by
  intro e t l hl hr L hL
  refine ⟨h.lt hl hL,?_⟩
  rintro (⟨e',L',h3,h4,h5⟩|hh)
  rotate_left
  ·rcases hh with hh|hh
   ·have h1:=C.hidOk _ hh
    rcases (h.own e L _ (by rw [hl];rfl) hL L.has_g).2 with h2|h2
    ·omega
    ·exact h1.2 h2
   ·rcases h.ent e _ hl with ⟨_,h1⟩|⟨L',cs,el,h1,h2,_⟩
    ·have h1:=hL.symm.trans h1;cases h1
    ·have h1:=hL.symm.trans h1
     injection h1 with h1
     subst h1
     exact hh.not h2
  have he:e'=e:=h.inj e' e L' L _ (frzAll_sub vs h3) (by rw [hl];rfl) h4 hL h5 L.has_g
  subst he
  rw [frzAll_none vs hm hr hl] at h3
  cases h3
 cases v with
 |slw e =>
  rcases hv with ⟨t,l,hl,hs⟩|⟨E,n,hl,hw,hs⟩
  rotate_left
  ·have hl:look σ.mem e=_:=hl
   cases E with
   |row t l=>cases hw
   |box cs=>simp only [R.pure1,hl];exact trivial
   |nest t ll k=>simp only [R.pure1,hl];exact trivial
  have hl:look σ.mem e=_:=hl
  simp only [R.pure1,hl]
  have:=own_reads (S:=cx C β σ w) (B':=Free C (σ.frzAll vs).mem β w) (w':=w) (h.ent e _ hl) (by omega:0+l.length≤l.length) hs hF (hown e t l hl (.inl rfl)) (fun _ _=>rfl)
  simpa [V1,V0] using this
 |sl e o n =>
  rcases hv with ⟨t,l,hl,ho,hs,_⟩|⟨t,ll,k,l,L,hl,_⟩
  rotate_left
  ·have hl:look σ.mem e=_:=hl
   simp only [R.pure1,hl]
   exact trivial
  have hl:look σ.mem e=_:=hl
  simp only [R.pure1,hl]
  exact own_reads (S:=cx C β σ w) (B':=Free C (σ.frzAll vs).mem β w) (w':=w) (h.ent e _ hl) ho hs hF (hown e t l hl (.inr ⟨o,n,rfl⟩)) (fun _ _=>rfl)
 |ro t l=>exact DRel.mono (t:=.list t) hF (fun _ _=>rfl) hv
 |rop cs =>
  obtain ⟨a,k,hx,hb,hc⟩:=hv
  refine ⟨a,k,hx,hF _ hb,fun j v hj=>?_⟩
  obtain ⟨y,hy,h0⟩:=hc j v hj
  refine ⟨y,hy,?_⟩
  cases v <;> simp only [C0] at h0 ⊢ <;> first|exact h0|exact h0.mono hF (fun _ _=>rfl)
 |int k n=>exact hv
 |bool b=>exact hv
 |str s=>exact hv
 |nil=>exact hv
 |nilp=>exact hv
 |_=>exact trivial
theorem Sim.pureFs (h:Sim C β σ as w) (vs:List V):∀ (us:List V) {ys:List Value},(∀ u∈us,u∈vs)→All2 (V1 (cx C β σ w)) us ys→All2 (V1 (cxP (Free C (σ.frzAll vs).mem β w) w)) (us.map (R.pure1 σ)) ys
 | [],ys,_,ha=>by cases ys <;> simp_all [All2]
 |u::us,ys,hm,ha=>by
  cases ys with
  |nil=>exact ha.elim
  |cons y ys=>exact ⟨h.pureF vs (hm u (by simp)) ha.1,Sim.pureFs h vs us (fun z hz=>hm z (by simp [hz])) ha.2⟩
theorem DRel_cxP {B:Ty×Nat→Prop} {w:World}:∀ v y,V0 (cxP B w) v y→V0 ⟨[],fun _=>none,B,w⟩ v y:=fun _ _ h=>h
theorem done_buildSlice (hT:TtOk P E.tt) (h:Sim C β σ (a.tmps::as) w) {t e:TypeId} {te:Ty} {len:Nat} {ps:Array (Nat×Operand)} {cs:List V} {l:List te.den} (hop:o.op=.buildSlice t len ps) (hk:(E.tt t).kind=.slice e) (hty:(E.tt e).ty=some te)
  (hc:fillC (fun i=>some (i*(E.tt e).size,(E.tt e).size)) (ps.toList.map fun p=>(p.1,σ.eval p.2)) (zerosL (E.tt e).zero (len*(E.tt e).size))=some cs)
  (hd:decN te len (cs.map (R.pure1 σ))=some l) (hn:len*(E.tt e).size≤16777216):Done P C o a as w (.slw nm) ((σ.frzAll cs).new nm (.row te l)):=by
 have hu:=hT.slice t e hk
 obtain ⟨hs,hts,_,_⟩:=hT.ty e te hty
 obtain ⟨i,z,hi,his,_,hz,hzz⟩:=hT.info e hs
 have hzl:=hzz.length
 have hzs:0<z.cells.size:=by
  rcases Nat.eq_zero_or_pos z.cells.size with h0|h0
  ·have:=(hT.ty e te hty).2.2.2 i z hi hz (fun _=>True) w
   have:=this.length
   simp only [Array.length_toList,h0] at this
   have:=te.size_pos
   omega
  ·exact h0
 have hzr:=zeros_rel (S:=cx C β σ w) hzz (len*(E.tt e).size) hzs
 obtain ⟨ys,h1,h2⟩:=fill_rel (S:=cx C β σ w) _ _ _ _ _ (parts_rel h ps.toList) hzr hc
 have h3:All2 (V1 (cx C β σ w)) cs ys.toList:=h2.mono fun _ _ hh=>hh.1
 obtain ⟨h4,h5⟩:=decN_rel DRel_cxP te len (h.pureFs cs cs (fun _ hh=>hh) h3) hd
 have hF:=h.frzAll cs
 have hlen:ys.size=len*te.size:=by
  have e1:=h2.length
  have e2:cs.length=(zerosL (E.tt e).zero (len*(E.tt e).size)).length:=by
   have:∀ (ps:List (Nat×V)) (cs cs':List V),fillC (fun i=>some (i*(E.tt e).size,(E.tt e).size)) ps cs=some cs'→cs'.length=cs.length:=by
    intro ps
    induction ps with
    |nil=>intro cs cs' hh;simp only [fillC,sI] at hh;rw [hh]
    |cons p ps ih =>
     intro cs cs' hh
     obtain ⟨i,v⟩:=p
     simp only [fillC] at hh
     cases hb:((E.tt e).size==v.cells.length&&known v.cells&&(i*(E.tt e).size+v.cells.length).ble cs.length) with
     |false=>rw [hb] at hh;cases hh
     |true =>
      rw [hb] at hh
      simp only [cond_true] at hh
      have:=ih _ _ hh
      rw [this]
      simp only [bA,Nat.ble_eq] at hb
      simp only [fillAt,lA,List.length_take,List.length_drop]
      omega
   exact this _ _ _ hc
  simp only [Array.length_toList] at e1
  rw [← e1,e2,hts]
  simp [zerosL]
 refine done_row (h:=hF) (el:=e) (n:=len) (c:=len) (w1:=w) (Grows.refl w) ?_ h4.symm (Nat.le_refl _) hlen (fun i x hx=>by
  obtain ⟨zs,hz,hc⟩:=h5 i x hx
  exact ⟨zs,hz,fun j z hj=>by simpa using hc j z hj⟩)
 have hq:(ps.map fun p=>(p.1,a.eval p.2)).toList=ps.toList.map fun p=>(p.1,a.eval p.2):=Array.toList_map
 have hn':¬ (len*i.size>2 ^ 24):=by rw [his];omega
 simp only [execOp,hop,Instr.buildSlice,Sem.run_bind,run_underlying hu,Result.andThen_ok,run_sizeOf' hi]
 rw [if_neg hn']
 by_cases h0:len*i.size=0
 ·have hys:ys=#[]:=by
   have:ys.size=0:=by rw [hlen,hts,← his];exact h0
   exact Array.eq_empty_of_size_eq_zero this
  rw [if_pos h0]
  simp only [Sem.run_bind,Sem.run_pure,Result.andThen_ok]
  have h6:Instr.fill (fun i_1=>some (i_1*i.size,i.size)) ((Array.range (len*i.size)).map (fun x=>(#[]:Array Value)[x % (#[]:Array Value).size]!)) (ps.map fun p=>(p.1,a.eval p.2)).toList=some ys:=by
   rw [h0,hq,his]
   rw [← his] at h1
   rw [h0] at h1
   simpa [his,Array.range_zero'] using h1
  rw [h6]
  simp only [newRow,Sem.run_bind,run_newObj,Result.andThen_ok,Sem.run_pure,World.alloc_eq]
 ·rw [if_neg h0]
  simp only [Sem.run_bind,run_zeroValue hi hz,Sem.run_pure,Result.andThen_ok]
  have h6:Instr.fill (fun i_1=>some (i_1*i.size,i.size)) ((Array.range (len*i.size)).map (fun x=>z.cells[x % z.cells.size]!)) (ps.map fun p=>(p.1,a.eval p.2)).toList=some ys:=by
   rw [hq,his];exact h1
  rw [h6]
  simp only [newRow,Sem.run_bind,run_newObj,Result.andThen_ok,Sem.run_pure,World.alloc_eq]
end
open Go.RowKit
section
variable {P:Program} {E:Env} {C:Frm} {β:Nat→Option Loc} {σ σ':St} {a:Act} {as:List (Array Value)} {w:World} {o:Oper} {nm:Nat} {ty:TypeId} {bs:List Bool} {v:V}
theorem run_loadAt' {tt:Nat→TI} (hT:TtOk P tt) {t:TypeId} {p:Addr} {ys:List Value} (hs:(tt t).size ≠ 0) (hl:ys.length=(tt t).size) (hc:∀ (j:Nat) y,ys[j]? = some y→w.cell? (p.add j)=some y) :
  (Instr.loadAt t (.pointer (some p))).run P w=.ok (if (tt t).agg then .agg ys.toArray else ys.headD undef) w:=by
 obtain ⟨d,hu,hag⟩:=hT.agg t hs
 obtain ⟨i,z,hi,his,_⟩:=hT.info t hs
 have hload:=run_loadCells_list (P:=P) w p ys hc
 rw [hl,← his] at hload
 simp only [Instr.loadAt,Instr.sureAddr,loadVar,isAgg,Sem.run_bind,Sem.run_pure,Result.andThen_ok,run_underlying hu]
 have one:(tt t).agg=false→(load p).run P w=.ok (ys.headD undef) w:=by
  intro hg
  have h1:=hT.one t hs hg
  match ys,hl with
  | [y],_ =>
   have:=hc 0 y rfl
   have h0:p.add 0=p:=by simp [Addr.add]
   rw [h0] at this
   simp [this]
  | [],hl=>simp [h1] at hl
  |_::_::_,hl=>simp [h1] at hl
 cases d <;> simp only [] at hag <;> simp only [hag,Sem.run_pure,Result.andThen_ok,if_true,Bool.false_eq_true,if_false,Sem.run_bind,run_sizeOf' hi,hload] <;> first|rfl|exact one hag
theorem loadC_rel (h:Sim C β σ as w) {p:V} {x:Value} {n:Nat} {cs:List V} (hv:V3 (cx C β σ w) p x) (hc:loadC σ p n=some cs) :
  ∃ ad ys,x=.pointer (some ad)∧cs.length=n∧n ≠ 0∧All2 (V1 (cx C β σ w)) cs ys∧∀ (j:Nat) y,ys[j]? = some y→w.cell? (ad.add j)=some y:=by
 cases p <;> simp only [loadC,reduceCtorEq] at hc
 ·rename_i e i o
  obtain ⟨E,L,hl,hL,hx⟩:=hv
  have hl:look σ.mem e=some E:=hl
  have hL:β e=some L:=hL
  rw [hl] at hc
  have hent:=h.ent e E hl
  cases E with
  |row t l =>
   simp only [] at hc
   obtain ⟨hi,ho,rfl⟩:=hx
   rcases hent with ⟨h0,_⟩|⟨L',cs',el,h1,h2,h3,h4,h5⟩
   ·subst h0;simp at hi
   have h1:=hL.symm.trans h1
   injection h1 with h1
   subst h1
   have hget:l[i]? = some (rd t l i):=by
    simp only [rd,Int.toNat_natCast,List.getD_eq_getElem?_getD,gE hi,Option.getD_some]
   obtain ⟨zs,hz,hcell⟩:=h5 i _ hget
   have henc:=(hz.enc (S:=cx C β σ w)).mono fun _ _ hh=>hh.to
   cases hb:(n.ble ((enc t (rd t l i)).drop o).length&&Nat.blt 0 n) with
   |false=>rw [hb] at hc;cases hc
   |true =>
    rw [hb] at hc
    simp only [cond_true,sI] at hc
    subst hc
    simp only [bA,Nat.ble_eq] at hb
    have hn:0<n:=Nat.le_of_ble_eq_true hb.2
    refine ⟨_,(zs.drop o).take n,rfl,by rw [List.length_take];omega,by omega,(henc.drop o).take n,fun j y hj=>?_⟩
    have hj':j<n:=by
     rcases Nat.lt_or_ge j n with h'|h'
     ·exact h'
     ·rw [List.getElem?_eq_none (by simp;omega)] at hj;cases hj
    rw [List.getElem?_take_of_lt hj',List.getElem?_drop] at hj
    rw [Addr.add_mid,cell_of_row w L.g _ cs' el (0,0) h2]
    have:=hcell _ _ hj
    rw [← this]
    congr 1
    omega
  |box us =>
   simp only [] at hc
   obtain ⟨rfl,rfl⟩:=hx
   obtain ⟨L',cs',el,h1,h2,h3,h5⟩:=hent
   have h1:=hL.symm.trans h1
   injection h1 with h1
   subst h1
   cases hb:(n.ble (us.drop o).length&&Nat.blt 0 n) with
   |false=>rw [hb] at hc;cases hc
   |true =>
    rw [hb] at hc
    simp only [cond_true,sI] at hc
    subst hc
    simp only [bA,Nat.ble_eq] at hb
    have hn:0<n:=Nat.le_of_ble_eq_true hb.2
    have hlen:((us.drop o).take n).length=n:=by rw [List.length_take];omega
    refine ⟨_,(List.range n).map fun j=>(cs'[L.base+(o+j)]?).getD undef,rfl,hlen,by omega,?_,fun j y hj=>?_⟩
    ·refine All2.of (by rw [hlen];simp) fun j v y hv hy=>?_
     have hj':j<n:=by
      rcases Nat.lt_or_ge j n with h'|h'
      ·exact h'
      ·rw [List.getElem?_eq_none (by omega)] at hv;cases hv
     rw [List.getElem?_take_of_lt hj',List.getElem?_drop] at hv
     obtain ⟨y',hy',hv',_⟩:=h5 _ _ hv
     simp only [List.getElem?_map,List.getElem?_range hj',Option.map_some,sI] at hy
     rw [hy'] at hy
     simp only [Option.getD_some] at hy
     subst hy
     exact hv'
    ·have hj':j<n:=by
      rcases Nat.lt_or_ge j n with h'|h'
      ·exact h'
      ·rw [List.getElem?_eq_none (by simp;omega)] at hj;cases hj
     simp only [List.getElem?_map,List.getElem?_range hj',Option.map_some,sI] at hj
     have hlt:o+j<us.length:=by
      have:=hb.1
      rw [List.length_drop] at this
      omega
     obtain ⟨y',hy',_,_⟩:=h5 _ _ (gE hlt)
     rw [hy'] at hj
     simp only [Option.getD_some] at hj
     subst hj
     rw [Addr.add_mid,cell_of_row w L.g _ cs' el (0,0) h2,Nat.add_assoc]
     exact hy'
  |nest t ll k =>
   cases k with
   |some j=>cases hc
   |none =>
   simp only [] at hc
   obtain ⟨hi,rfl,rfl⟩:=hx
   obtain ⟨L',cs',el,h1,h2,h3,h4,h5,h6,h7⟩:=hent
   have h1:=hL.symm.trans h1
   injection h1 with h1
   subst h1
   cases hb:(n==1) with
   |false=>rw [hb] at hc;cases hc
   |true =>
    rw [hb] at hc
    simp only [cond_true,sI] at hc
    subst hc
    have hn:n=1:=by simpa using hb
    subst hn
    have hll:ll[i]? = some (ll.getD i []):=by
     simp only [List.getD_eq_getElem?_getD,gE hi,Option.getD_some]
    obtain ⟨_,z,hz,hs⟩:=h7 i _ hll (by simp)
    refine ⟨_,[z],rfl,rfl,by omega,⟨V1.of rfl (.inr ⟨t,ll,none,_,L,hl,by simp,hL,hll,rfl,hs⟩),trivial⟩,fun j y hj=>?_⟩
    cases j with
    |zero =>
     simp only [List.getElem?_cons_zero,sI] at hj
     subst hj
     rw [Addr.add_mid,cell_of_row w L.g _ cs' el (0,0) h2]
     exact hz
    |succ j=>simp at hj
 ·rename_i us
  obtain ⟨ad,_,rfl,hB,hc'⟩:=hv
  cases hb:(n.ble us.length&&Nat.blt 0 n) with
  |false=>rw [hb] at hc;cases hc
  |true =>
   rw [hb] at hc
   simp only [cond_true,sI] at hc
   subst hc
   simp only [bA,Nat.ble_eq] at hb
   have hn:0<n:=Nat.le_of_ble_eq_true hb.2
   have hlen:(us.take n).length=n:=by rw [List.length_take];omega
   refine ⟨ad,(List.range n).map fun j=>(w.cell? (ad.add j)).getD undef,rfl,hlen,by omega,?_,fun j y hj=>?_⟩
   ·refine All2.of (by rw [hlen];simp) fun j v y hv hy=>?_
    have hj':j<n:=by
     rcases Nat.lt_or_ge j n with h'|h'
     ·exact h'
     ·rw [List.getElem?_eq_none (by omega)] at hv;cases hv
    rw [List.getElem?_take_of_lt hj'] at hv
    obtain ⟨y',hy',hv'⟩:=hc' j v hv
    simp only [List.getElem?_map,List.getElem?_range hj',Option.map_some,sI] at hy
    have hy':w.cell? (ad.add j)=some y':=hy'
    rw [hy'] at hy
    simp only [Option.getD_some] at hy
    subst hy
    exact C0.to hv'
   ·have hj':j<n:=by
     rcases Nat.lt_or_ge j n with h'|h'
     ·exact h'
     ·rw [List.getElem?_eq_none (by simp;omega)] at hj;cases hj
    simp only [List.getElem?_map,List.getElem?_range hj',Option.map_some,sI] at hj
    obtain ⟨y',hy',_⟩:=hc' j _ (gE (by omega))
    have hy':w.cell? (ad.add j)=some y':=hy'
    rw [hy'] at hj
    simp only [Option.getD_some] at hj
    subst hj
    exact hy'
theorem done_load (hT:TtOk P E.tt) (h:Sim C β σ (a.tmps::as) w) {t:TypeId} {x:Operand} {cs:List V} (hop:o.op=.load t x) (hc:loadC σ (σ.eval x) (E.tt t).size=some cs):Done P C o a as w (asV (E.tt t).agg cs) σ:=by
 obtain ⟨ad,ys,hx,hn,hs,ha,hcell⟩:=loadC_rel h (h.eval x) hc
 have hl:ys.length=(E.tt t).size:=by rw [← ha.length,hn]
 have hr:=run_loadAt' hT hs hl hcell
 refine .same (x:=if (E.tt t).agg then .agg ys.toArray else ys.headD undef) h ?_ ?_
 ·simp only [execOp,hop,hx,Sem.run_bind,hr,Result.andThen_ok,Sem.run_pure]
 ·have:=V3_asV (S:=cx C β σ w) (g:=(E.tt t).agg) (cs:=cs) (ys:=ys.toArray) (by simpa using ha) (fun hg=>by rw [hn];exact hT.one t hs hg)
  simpa using this
theorem splice_get {α:Type} (xs ys:List α) (p:Nat) (h:p+ys.length≤xs.length) (q:Nat) :
  (xs.take p++ys++xs.drop (p+ys.length))[q]? = if q<p then xs[q]? else if q<p+ys.length then ys[q - p]? else xs[q]? := by
 have hp:(xs.take p).length=p:=by rw [List.length_take];omega
 rw [List.append_assoc]
 by_cases h1:q<p
 ·rw [if_pos h1,List.getElem?_append_left (by omega),List.getElem?_take_of_lt h1]
 ·rw [if_neg h1,List.getElem?_append_right (by omega),hp]
  by_cases h2:q<p+ys.length
  ·rw [if_pos h2,List.getElem?_append_left (by omega)]
  ·rw [if_neg h2,List.getElem?_append_right (by omega),List.getElem?_drop]
   congr 1;omega
theorem run_storeAt' {tt:Nat→TI} (hT:TtOk P tt) {t:TypeId} {g p:Nat} {x:Value} {cs:Array Value} {el:TypeId} (hs:(tt t).size ≠ 0) (hl:x.cells.size=(tt t).size) (hg:w.heap[g]? = some (.cells cs el (0,0))) (hp:p+x.cells.size≤cs.size) (h1:∀ y∈x.cells.toList,One y) :
  (Instr.storeAt t (.pointer (some ⟨g,p,none⟩)) x).run P w=.ok () (w.setRow g (cs.toList.take p++x.cells.toList++cs.toList.drop (p+x.cells.toList.length)).toArray):=by
 obtain ⟨i,z,hi,his,_⟩:=hT.info t hs
 have:=run_storeCells_at P g p el x.cells.toList 0 cs w hg (by simpa using hp) h1
 simp only [Nat.add_zero] at this
 simp only [Instr.storeAt,Instr.sureAddr,storeVar,Sem.run_bind,Sem.run_pure,Result.andThen_ok,run_sizeOf' hi,his,hl,ne_eq,not_true_eq_false,if_false]
 exact this
theorem done_store (hT:TtOk P E.tt) (h:Sim C β σ (a.tmps::as) w) {t:TypeId} {x y:Operand} (hop:o.op=.store t x y) (hc:storeC σ (σ.eval x) (E.tt t).size (σ.eval y)=some σ'):Done P C o a as w .undef σ':=by
 unfold storeC at hc
 simp only [] at hc
 cases hb:((E.tt t).size==(σ.eval y).cells.length&&Nat.blt 0 (E.tt t).size&&known (σ.eval y).cells) with
 |false=>rw [hb] at hc;cases hc
 |true =>
 rw [hb] at hc
 simp only [cond_true] at hc
 simp only [bA,beq_iff_eq] at hb
 obtain ⟨⟨hn,hpos⟩,hk⟩:=hb
 have hpos:0<(E.tt t).size:=Nat.le_of_ble_eq_true hpos
 have hs:(E.tt t).size ≠ 0:=by omega
 obtain ⟨hcs,hones⟩:=(h.eval y).cells hk
 have hyl:(a.eval y).cells.toList.length=(E.tt t).size:=by rw [← hcs.length,hn]
 have hxv:=h.eval x
 cases hx:σ.eval x <;> rw [hx] at hc hxv <;> simp only [reduceCtorEq] at hc
 rename_i e i p
 obtain ⟨E1,L,hl,hL,hxx⟩:=hxv
 have hl:look σ.mem e=some E1:=hl
 have hL:β e=some L:=hL
 rw [hl] at hc
 cases E1 with
 |nest _ _ _=>cases hc
 |box us =>
  simp only [] at hc
  obtain ⟨rfl,hxx⟩:=hxx
  cases hb:(p+(E.tt t).size).ble us.length with
  |false=>rw [hb] at hc;cases hc
  |true =>
  rw [hb] at hc
  simp only [cond_true,sI] at hc
  subst hc
  have hb:=Nat.le_of_ble_eq_true hb
  obtain ⟨L',cs',el,h1,h2,h3,h5⟩:=h.ent e _ hl
  have h1:=hL.symm.trans h1
  injection h1 with h1
  subst h1
  have h2:w.heap[L.g]? = _:=h2
  have hfit:L.base+us.length≤cs'.size:=by
   rcases Nat.eq_zero_or_pos us.length with h0|h0
   ·omega
   ·obtain ⟨y',hy',_⟩:=h5 (us.length - 1) us[us.length - 1] (gE (by omega))
    have hy':cs'[L.base+(us.length - 1)]? = some y':=hy'
    have:=(Array.getElem?_eq_some_iff.1 hy').1
    omega
  have hfit2:L.base+p+(a.eval y).cells.size≤cs'.size:=by
   simp only [Array.length_toList] at hyl;omega
  have hr:=run_storeAt' (P:=P) hT hs (by simpa using hyl) h2 hfit2 hones
  have hyl':(σ.eval y).cells.length=(a.eval y).cells.toList.length:=hcs.length
  refine ⟨undef,(w.setRow L.g (cs'.toList.take (L.base+p)++(a.eval y).cells.toList++cs'.toList.drop (L.base+p+(a.eval y).cells.toList.length)).toArray),β,.inr ⟨?_,rfl⟩,?_,V3.undef⟩
  ·simp only [execOp,hop,hxx,Sem.run_bind,hr,Result.andThen_ok,Sem.run_pure]
  ·refine h.upd (E':=.box (us.take p++(σ.eval y).cells++us.drop (p+(E.tt t).size))) hl (by simp only [Entry.like,lA,List.length_take,List.length_drop];omega) hL rfl rfl rfl (by simp) (fun g hg=>setRow_other w L.g g _ hg) fun hkeep=>?_
   refine ⟨L,_,el,hL,setRow_heap w L.g cs' _ el (0,0) h2,?_,fun j v hj=>?_⟩
   ·rw [← h3]
    simp only [Array.length_toList] at hyl
    simp only [List.size_toArray,lA,List.length_take,List.length_drop,Array.length_toList]
    omega
   ·rw [hn,splice_get us (σ.eval y).cells p (by omega)] at hj
    rw [List.getElem?_toArray,splice_get cs'.toList (a.eval y).cells.toList (L.base+p) (by simpa using hfit2)]
    by_cases h6:j<p
    ·rw [if_pos h6] at hj
     rw [if_pos (by omega)]
     obtain ⟨y',hy',hv',ho'⟩:=h5 j v hj
     exact ⟨y',by simpa using hy',hv'.keeps hkeep,ho'⟩
    ·rw [if_neg h6] at hj
     rw [if_neg (by omega)]
     by_cases h7:j<p+(σ.eval y).cells.length
     ·rw [if_pos h7] at hj
      rw [if_pos (by omega)]
      obtain ⟨y',hy',hv'⟩:=hcs.get hj
      refine ⟨y',?_,hv'.keeps hkeep,hones y' (List.mem_of_getElem? hy')⟩
      rw [← hy']
      congr 1
      omega
     ·rw [if_neg h7] at hj
      rw [if_neg (by omega)]
      obtain ⟨y',hy',hv',ho'⟩:=h5 j v hj
      exact ⟨y',by simpa using hy',hv'.keeps hkeep,ho'⟩
 |row t0 l0 =>
  simp only [] at hc
  have hF:=h.frzAll (σ.eval y).cells
  cases hl':look (σ.frzAll (σ.eval y).cells).mem e with
  |none=>rw [hl'] at hc;cases hc
  |some E2 =>
  rw [hl'] at hc
  cases E2 with
  |box cs=>cases hc
  |nest _ _ _=>cases hc
  |row te l =>
  simp only [] at hc
  have hsame:t0=te∧HEq l0 l:=by
   rcases frzAll_row (σ.eval y).cells hl with h1|h1
   ·rw [hl'] at h1;cases h1
   ·rw [hl'] at h1
    injection h1 with h1
    injection h1 with h1 h2
    exact ⟨h1.symm,h2.symm⟩
  obtain ⟨rfl,hll⟩:=hsame
  have hll:=eq_of_heq hll
  subst hll
  cases hd:decAll t0 ((enc t0 (rd t0 l0 i)).take p++(σ.eval y).cells.map (R.pure1 σ)++(enc t0 (rd t0 l0 i)).drop (p+(E.tt t).size)) with
  |none=>rw [hd] at hc;cases hc
  |some x' =>
  rw [hd] at hc
  simp only [sI] at hc
  subst hc
  obtain ⟨hi,hp,hxx⟩:=hxx
  rcases hF.ent e _ hl' with ⟨h0,_⟩|⟨L',cs',el,h1,h2,h3,h4,h5⟩
  ·subst h0;simp at hi
  have h1:β e=some L':=h1
  have h1:=hL.symm.trans h1
  injection h1 with h1
  subst h1
  have h2:w.heap[L.g]? = _:=h2
  have hget:l0[i]? = some (rd t0 l0 i):=by
   simp only [rd,Int.toNat_natCast,List.getD_eq_getElem?_getD,gE hi,Option.getD_some]
  obtain ⟨zs,hz,hcell⟩:=h5 i _ hget
  have hzl:=hz.length
  have hel:=enc_length t0 (rd t0 l0 i)
  have hml:((σ.eval y).cells.map (R.pure1 σ)).length=(E.tt t).size:=by rw [List.length_map,hn]
  have hall:All2 (V1 (cxP (Free C (σ.frzAll (σ.eval y).cells).mem β w) w)) ((enc t0 (rd t0 l0 i)).take p++(σ.eval y).cells.map (R.pure1 σ)++(enc t0 (rd t0 l0 i)).drop (p+(E.tt t).size)) (zs.take p++(a.eval y).cells.toList++zs.drop (p+(E.tt t).size)):=by
   have henc:All2 (V1 (cxP (Free C (σ.frzAll (σ.eval y).cells).mem β w) w)) (enc t0 (rd t0 l0 i)) zs:=(DRel.enc (S:=cxP _ w) hz).mono fun _ _ hh=>hh.to
   exact ((henc.take p).append (h.pureFs _ _ (fun _ hh=>hh) hcs)).append (henc.drop _)
  have hd':=decAll_rel t0 DRel_cxP hall hd
  have hd'l:=hd'.length
  have hpn:p+(E.tt t).size≤t0.size:=by
   have:=hd'l
   simp only [lA,List.length_take,List.length_drop,hyl,hzl] at this
   omega
  have hbl:L.base+l0.length*t0.size≤cs'.size:=by rw [h3];exact h4
  have hil:i*t0.size+t0.size≤l0.length*t0.size:=by
   have:=Nat.mul_le_mul_right t0.size (show i+1≤l0.length from hi)
   rw [Nat.add_mul] at this
   omega
  have hfit2:L.base+i*t0.size+p+(a.eval y).cells.size≤cs'.size:=by
   simp only [Array.length_toList] at hyl;omega
  have hr:=run_storeAt' (P:=P) hT hs (by simpa using hyl) h2 hfit2 hones
  refine ⟨undef,(w.setRow L.g (cs'.toList.take (L.base+i*t0.size+p)++(a.eval y).cells.toList++cs'.toList.drop (L.base+i*t0.size+p+(a.eval y).cells.toList.length)).toArray),β,.inr ⟨?_,rfl⟩,?_,V3.undef⟩
  ·simp only [execOp,hop,hxx,Sem.run_bind,hr,Result.andThen_ok,Sem.run_pure]
  ·refine hF.upd (E':=.row t0 (l0.set i x')) hl' ⟨rfl,by simp,rfl⟩ hL rfl rfl rfl (by simp) (fun g hg=>setRow_other w L.g g _ hg) fun hkeep=>?_
   refine .inr ⟨L,_,el,hL,setRow_heap w L.g cs' _ el (0,0) h2,?_,by rw [List.length_set];exact h4,fun i' x1 hx1=>?_⟩
   ·rw [← h3]
    simp only [Array.length_toList] at hyl
    simp only [List.size_toArray,lA,List.length_take,List.length_drop,Array.length_toList]
    omega
   ·rw [List.getElem?_set] at hx1
    by_cases hii:i=i'
    ·subst hii
     rw [if_pos rfl,if_pos hi] at hx1
     injection hx1 with hx1
     subst hx1
     refine ⟨_,hd'.mono hkeep.B hkeep.w,fun j z hj=>?_⟩
     have hjl:j<t0.size:=by
      have:=(List.getElem?_eq_some_iff.1 hj).1
      omega
     rw [List.getElem?_toArray,splice_get cs'.toList (a.eval y).cells.toList (L.base+i*t0.size+p) (by simpa using hfit2)]
     rw [show p+(E.tt t).size=p+(a.eval y).cells.toList.length from by rw [hyl],splice_get zs (a.eval y).cells.toList p (by omega)] at hj
     by_cases h6:j<p
     ·rw [if_pos h6] at hj
      rw [if_pos (by omega)]
      simpa using hcell j z hj
     ·rw [if_neg h6] at hj
      rw [if_neg (by omega)]
      by_cases h7:j<p+(a.eval y).cells.toList.length
      ·rw [if_pos h7] at hj
       rw [if_pos (by omega),← hj]
       congr 1
       omega
      ·rw [if_neg h7] at hj
       rw [if_neg (by omega)]
       simpa using hcell j z hj
    ·rw [if_neg hii] at hx1
     obtain ⟨zs',hz',hcell'⟩:=h5 i' x1 hx1
     refine ⟨zs',hz'.mono hkeep.B hkeep.w,fun j z hj=>?_⟩
     have hjl:j<t0.size:=by
      have:=(List.getElem?_eq_some_iff.1 hj).1
      have:=hz'.length
      omega
     rw [List.getElem?_toArray,splice_get cs'.toList (a.eval y).cells.toList (L.base+i*t0.size+p) (by simpa using hfit2)]
     have hc:=hcell' j z hj
     rcases Nat.lt_or_gt_of_ne hii with hlt|hlt
     ·have:=Nat.mul_le_mul_right t0.size (show i+1≤i' from hlt)
      rw [Nat.add_mul] at this
      rw [if_neg (by omega),if_neg (by omega)]
      simpa using hc
     ·have:=Nat.mul_le_mul_right t0.size (show i'+1≤i from hlt)
      rw [Nat.add_mul] at this
      rw [if_pos (by omega)]
      simpa using hc
end
open Go.RowKit
section
variable {P:Program} {E:Env} {C:Frm} {β:Nat→Option Loc} {σ σ':St} {a:Act} {as:List (Array Value)} {w:World} {o:Oper} {nm:Nat} {ty:TypeId} {bs:List Bool} {v:V}
def Elems (B:Ty×Nat→Prop) (w:World) (t:Ty) (xs:List t.den) (A:Option Addr):Prop :=
 ∀ (i:Nat) (x:t.den),xs[i]? = some x→∃ ad zs,A=some ad∧DRel B w t x zs∧∀ (j:Nat) (z:Value),zs[j]? = some z→w.cell? (ad.add (i*t.size+j))=some z
theorem div_mod_self (q s:Nat):q / s*s+q % s=q:=by rw [Nat.mul_comm];exact Nat.div_add_mod q s
theorem elems_cells {B:Ty×Nat→Prop} {t:Ty} {xs:List t.den} {A:Option Addr} (h:Elems B w t xs A) :
  ∃ news:List Value,news.length=xs.length*t.size∧(∀ y∈news,One y)∧(∀ (j:Nat) y,news[j]? = some y→∃ p,A=some p∧w.cell? (p.add j)=some y) ∧
   ∀ (i:Nat) x,xs[i]? = some x→∃ zs,DRel B w t x zs∧∀ (j:Nat) z,zs[j]? = some z→news[i*t.size+j]? = some z:=by
 have hs:=t.size_pos
 cases A with
 |none =>
  have hx:xs=[]:=by
   cases xs with
   |nil=>rfl
   |cons x xs=>obtain ⟨ad,zs,e,_⟩:=h 0 x rfl;cases e
  subst hx
  exact ⟨[],by simp,by simp,by simp,by simp⟩
 |some p =>
  have key:∀ q,q<xs.length*t.size→∃ y,w.cell? (p.add q)=some y∧One y:=by
   intro q hq
   have hi:q / t.size<xs.length:=by rw [Nat.div_lt_iff_lt_mul hs];exact hq
   obtain ⟨ad,zs,e,hz,hcell⟩:=h (q / t.size) _ (gE hi)
   injection e with e
   subst e
   have hm:q % t.size<zs.length:=by rw [hz.length];exact Nat.mod_lt _ hs
   have h1:=hcell _ _ (gE hm)
   rw [div_mod_self] at h1
   exact ⟨_,h1,hz.one _ (List.getElem_mem hm)⟩
  refine ⟨(List.range (xs.length*t.size)).map fun q=>(w.cell? (p.add q)).getD undef,by simp,?_,?_,?_⟩
  ·intro y hy
   simp only [List.mem_map,List.mem_range] at hy
   obtain ⟨q,hq,rfl⟩:=hy
   obtain ⟨y,hy,ho⟩:=key q hq
   rw [hy];exact ho
  ·intro j y hj
   have hj':j<xs.length*t.size:=by
    have:=(List.getElem?_eq_some_iff.1 hj).1
    simpa using this
   simp only [List.getElem?_map,List.getElem?_range hj',Option.map_some,sI] at hj
   obtain ⟨y',hy',_⟩:=key j hj'
   rw [hy'] at hj
   simp only [Option.getD_some] at hj
   subst hj
   exact ⟨p,rfl,hy'⟩
  ·intro i x hx
   obtain ⟨ad,zs,e,hz,hcell⟩:=h i x hx
   injection e with e
   subst e
   refine ⟨zs,hz,fun j z hj=>?_⟩
   have hjs:j<t.size:=by
    have:=(List.getElem?_eq_some_iff.1 hj).1
    rw [hz.length] at this;exact this
   have hil:i<xs.length:=(List.getElem?_eq_some_iff.1 hx).1
   have hq:i*t.size+j<xs.length*t.size:=by
    have:=Nat.mul_le_mul_right t.size (show i+1≤xs.length from hil)
    rw [Nat.add_mul] at this
    omega
   simp only [List.getElem?_map,List.getElem?_range hq,Option.map_some]
   rw [hcell j z hj]
   rfl
theorem own_elems {S:Cx} {e:Nat} {t:Ty} {l:List t.den} {oo n:Nat} {x:Value} (hent:EntOk S e (.row t l)) (ho:oo+n≤l.length) (hs:SlAt (S.β e) t.size oo n x) :
  ∃ A c,x=.slice A n c∧n≤c∧Elems S.B S.w t ((l.drop oo).take n) A:=by
 obtain ⟨A,c,rfl,hc,h⟩:=hs
 refine ⟨A,c,rfl,hc,fun i y hy=>?_⟩
 have hi:i<n:=by
  rcases Nat.lt_or_ge i n with h'|h'
  ·exact h'
  ·rw [List.getElem?_eq_none (by simp;omega)] at hy;cases hy
 rw [List.getElem?_take_of_lt hi,List.getElem?_drop] at hy
 rcases h with h0|⟨L,hL,rfl,hfit⟩
 ·omega
 rcases hent with ⟨h0,h1⟩|⟨L',cs,el,h1,h2,h3,h4,h5⟩
 ·subst h0;simp at hy
 ·rw [hL] at h1
  injection h1 with h1
  subst h1
  obtain ⟨zs,hz,hcell⟩:=h5 (oo+i) y hy
  refine ⟨_,zs,rfl,hz,fun j z hj=>?_⟩
  have:=hcell j z hj
  rw [Addr.add_mid,cell_of_row S.w L.g _ cs el (0,0) h2,← this]
  congr 1
  rw [Nat.add_mul];omega
theorem DRel.elems {B:Ty×Nat→Prop} {t:Ty} {l:List t.den} {x:Value} (h:DRel B w (.list t) l [x]):∃ A c,x=.slice A l.length c∧l.length≤c∧Elems B w t l A:=by
 obtain ⟨A,c,e,hc,h⟩:=h
 injection e with e
 refine ⟨A,c,e,hc,fun i y hy=>?_⟩
 obtain ⟨ad,zs,h1,_,h2,h3⟩:=h i y hy
 exact ⟨ad,zs,h1,h2,h3⟩
theorem decList {t:Ty} {v:V} {xs:List t.den} (h:decAll (.list t) [v]=some xs):v=.ro t xs∨(v=.nil∧xs=[]):=by
 unfold decAll at h
 cases v <;> simp only [dec,reduceCtorEq] at h
 ·rename_i t' l
  split at h
  ·rename_i x h1
   split at h1
   ·rename_i ht
    subst ht
    simp only [sI,Prod.mk.injEq,and_true] at h1
    injection h with h
    subst h1
    subst h
    exact .inl rfl
   ·cases h1
  ·cases h
 ·injection h with h
  exact .inr ⟨rfl,h.symm⟩
theorem rowOf_elems (h:Sim C β σ as w) {t:Ty} {v:V} {x:Value} {xs:List t.den} (hv:V3 (cx C β σ w) v x) (hr:rowOf σ t v=some xs) :
  ∃ A c,x=.slice A xs.length c∧xs.length≤c∧Elems (Free C σ.mem β w) w t xs A:=by
 unfold rowOf at hr
 cases v <;> simp only [R.pure1] at hr <;> (try (simp [decAll,dec] at hr;done))
 ·rename_i t' l
  rcases decList hr with h1|⟨h1,_⟩
  ·injection h1 with h1 h2
   subst h1
   have h2:=eq_of_heq h2
   subst h2
   exact DRel.elems hv
  ·cases h1
 ·rcases decList hr with h1|⟨_,h1⟩
  ·cases h1
  ·subst h1
   have hv:x=.slice none 0 0:=hv
   exact ⟨none,0,hv,Nat.le_refl _,fun i y hy=>by simp at hy⟩
 ·rename_i e
  rcases hv with ⟨t',l,hl,hs⟩|⟨E,n,hl,hw,hs⟩
  rotate_left
  ·have hl:look σ.mem e=_:=hl
   cases E with
   |row t l=>cases hw
   |box cs=>simp [hl,decAll,dec] at hr
   |nest t ll k=>simp [hl,decAll,dec] at hr
  have hl:look σ.mem e=_:=hl
  rw [hl] at hr
  rcases decList hr with h1|⟨h1,_⟩
  ·injection h1 with h1 h2
   subst h1
   have h2:=eq_of_heq h2
   subst h2
   obtain ⟨A,c,e1,e2,e3⟩:=own_elems (S:=cx C β σ w) (h.ent e _ hl) (by omega:0+l.length≤l.length) hs
   exact ⟨A,c,e1,e2,by simpa using e3⟩
  ·cases h1
 ·rename_i e oo n
  rcases hv with ⟨t',l,hl,ho,hs,_⟩|⟨t,ll,k,l,L,hl,_⟩
  rotate_left
  ·have hl:look σ.mem e=_:=hl
   simp [hl,decAll,dec] at hr
  have hl:look σ.mem e=_:=hl
  rw [hl] at hr
  rcases decList hr with h1|⟨h1,_⟩
  ·injection h1 with h1 h2
   subst h1
   have h2:=eq_of_heq h2
   subst h2
   obtain ⟨A,c,e1,e2,e3⟩:=own_elems (S:=cx C β σ w) (h.ent e _ hl) ho hs
   have hlen:((l.drop oo).take n).length=n:=by simp;omega
   exact ⟨A,c,by rw [hlen];exact e1,by rw [hlen];exact e2,e3⟩
  ·cases h1
theorem run_first {A:Option Addr} {size m c:Nat} {news:List Value} (hl:news.length=m*size) (hc:∀ (j:Nat) y,news[j]? = some y→∃ p,A=some p∧w.cell? (p.add j)=some y) :
  (Builtin.firstCells size m (.slice A m c)).run P w=.ok news.toArray w:=by
 cases A with
 |none =>
  have hn:news=[]:=by
   cases news with
   |nil=>rfl
   |cons y ys=>obtain ⟨p,e,_⟩:=hc 0 y rfl;cases e
  subst hn
  simp [Builtin.firstCells]
 |some p =>
  refine run_firstCells_some (P:=P) w size m p m c news hl fun j y hj=>?_
  obtain ⟨p',e,h⟩:=hc j y hj
  injection e with e
  subst e
  exact h
theorem run_append_in {t t2 e e2 tr:TypeId} {i:TypeInfo} {g oo sLen sCap m c:Nat} {el:TypeId} {cur:Array Value} {A:Option Addr} {news:List Value} (hu:P.underlying t=some (.slice e)) (hu2:P.underlying t2=some (.slice e2)) (hi:P.info? e=some i)
  (hg:w.heap[g]? = some (.cells cur el (0,0))) (hl:news.length=m*i.size) (hc:∀ (j:Nat) y,news[j]? = some y→∃ p,A=some p∧w.cell? (p.add j)=some y) (h1:∀ y∈news,One y)
  (hroom:sLen+m≤sCap) (hfit:oo+sLen*i.size+news.length≤cur.size) :
  (Builtin.append_ #[t,t2] tr #[.slice (some ⟨g,oo,none⟩) sLen sCap,.slice A m c]).run P w =
   .ok (.slice (some ⟨g,oo,none⟩) (sLen+m) sCap) (w.setRow g (cur.toList.take (oo+sLen*i.size)++news++cur.toList.drop (oo+sLen*i.size+news.length)).toArray):=by
 have hf:=run_first (P:=P) (A:=A) (c:=c) hl hc
 have hst:=run_storeCells_at P g (oo+sLen*i.size) el news 0 cur w hg (by simpa using hfit) h1
 simp only [Nat.add_zero] at hst
 simp [Builtin.append_,run_underlying hu,run_underlying hu2,sizeOf,typeInfo,hi,Builtin.lenOf,hroom,hf,Addr.add_lit,hst]
theorem run_append_nothing {t t2 e e2 tr:TypeId} {i:TypeInfo} {sLen sCap c:Nat} {B A:Option Addr} (hu:P.underlying t=some (.slice e)) (hu2:P.underlying t2=some (.slice e2)) (hi:P.info? e=some i) (hroom:sLen≤sCap) :
  (Builtin.append_ #[t,t2] tr #[.slice B sLen sCap,.slice A 0 c]).run P w=.ok (.slice B sLen sCap) w:=by
 have hf:(Builtin.firstCells i.size 0 (.slice A 0 c)).run P w=.ok #[] w:=by cases A <;> simp [Builtin.firstCells,loadCells,loadCellsFrom]
 cases B <;> simp [Builtin.append_,run_underlying hu,run_underlying hu2,sizeOf,typeInfo,hi,Builtin.lenOf,hroom,hf,storeCells]
theorem run_append_out {t t2 e e2 tr:TypeId} {i:TypeInfo} {z:Value} {sLen sCap m c:Nat} {B A:Option Addr} {olds news:List Value} (hu:P.underlying t=some (.slice e)) (hu2:P.underlying t2=some (.slice e2)) (hi:P.info? e=some i) (hz:i.zero=some z)
  (hlo:olds.length=sLen*i.size) (hco:∀ (j:Nat) y,olds[j]? = some y→∃ p,B=some p∧w.cell? (p.add j)=some y)
  (hl:news.length=m*i.size) (hc:∀ (j:Nat) y,news[j]? = some y→∃ p,A=some p∧w.cell? (p.add j)=some y)
  (hfull:sCap<sLen+m) (hbytes:(sLen+m)*i.bytes≤140737488355328) (hpos:0<i.bytes) :
  (Builtin.append_ #[t,t2] tr #[.slice B sLen sCap,.slice A m c]).run P w =
   .ok (.slice (some ⟨w.heap.size,0,none⟩) (sLen+m) (grownCap w (sLen+m) sCap e)) (w.drew.alloc (.cells (olds.toArray++news.toArray++Builtin.zeroCells z.cells (grownCap w (sLen+m) sCap e - (sLen+m))) e)):=by
 have hn:¬ (sLen+m≤sCap):=by omega
 have hsm:sLen+m≤140737488355328:=by
  have:=Nat.mul_le_mul_left (sLen+m) hpos
  omega
 have h63:¬ (9223372036854775807<((sLen:Int)+(m:Int))):=by omega
 have h48:¬ (281474976710656<Builtin.nextslicecap (sLen+m) sCap*i.bytes):=by
  have h1:=nextslicecap_le hfull
  have h2:=Nat.mul_le_mul_right i.bytes h1
  rw [Nat.mul_assoc] at h2
  omega
 have hf:=run_first (P:=P) (w:=w.drew) (A:=A) (c:=c) hl (by simpa using hc)
 have hfo:=run_first (P:=P) (w:=w.drew) (A:=B) (c:=sCap) hlo (by simpa using hco)
 simp [Builtin.append_,run_underlying hu,run_underlying hu2,sizeOf,typeInfo,zeroValue,hi,hz,Builtin.lenOf,hn,h63,h48,Question.forced,hf,hfo,newRow,grownCap]
 congr 2
 simp [← Array.append_assoc]
end
end
end Go.Proofs.YtkflbkcfabnomaaGreat.R
