import Derived.Test.YtkflbkcfabnomaaGreatP9b
import Derived.Laws.StructEq
import GoSem.ClaimChange
import Derived.Carry
import Derived.WideShapes
import Derived.ChangeShapes
import Derived.SizedLaws
namespace Go.Proofs.YtkflbkcfabnomaaGreat.R
set_option linter.unusedVariables false
set_option linter.unusedSimpArgs false
section
open Go.RowKit
def AgrV (σ τ:St) (v:V):Prop:=∀ e∈refs3 v,look σ.mem e=look τ.mem e
def Agr (σ τ:St) (op:Op):Prop:=∀ x∈op.operands.toList,σ.eval x=τ.eval x∧AgrV σ τ (σ.eval x)
section
variable {E:Env} {σ τ σ':St} {nm:Nat} {ty:TypeId} {bs:List Bool} {v:V}
theorem ref0_refs1 {v:V} {e:Nat} (h:e∈ref0 v):e∈refs1 v:=by cases v <;> first|exact h|simp [ref0] at h
theorem refs1_refs2 {v:V} {e:Nat} (h:e∈refs1 v):e∈refs2 v:=by cases v <;> first|exact h|simp [refs1,ref0] at h
theorem refs2_refs3 {v:V} {e:Nat} (h:e∈refs2 v):e∈refs3 v:=by cases v <;> first|exact h|simp [refs2,refs1,ref0] at h
theorem pure1_congr (h:∀ e∈ref0 v,look σ.mem e=look τ.mem e):pure1 σ v=pure1 τ v:=by
 cases v <;> first|rfl|(simp only [pure1];rw [h _ (by simp [ref0])])
theorem pureV_congr (h:AgrV σ τ v):pureV σ v=pureV τ v:=by
 by_cases hv:v.isAgg=true
 ·cases v <;> simp only [V.isAgg,Bool.false_eq_true] at hv
  rename_i cs
  simp only [pureV]
  congr 1
  refine List.map_congr_left fun c hc=>pure1_congr fun e he=>h e ?_
  simp only [refs3,refs2,List.mem_flatMap]
  exact ⟨c,hc,ref0_refs1 he⟩
 ·have e1:∀ σ:St,pureV σ v=pure1 σ v:=by intro σ;cases v <;> first|rfl|simp [V.isAgg] at hv
  rw [e1,e1]
  exact pure1_congr fun e he=>h e (refs2_refs3 (refs1_refs2 (ref0_refs1 he)))
theorem lenV_congr (h:AgrV σ τ v):lenV σ v=lenV τ v:=by
 cases v <;> first|rfl|(simp only [lenV];rw [h _ (by simp [refs3,refs2,refs1,ref0])])
theorem loadC_congr {n:Nat} (h:AgrV σ τ v):loadC σ v n=loadC τ v n:=by
 cases v <;> first|rfl|(simp only [loadC];rw [h _ (by simp [refs3,refs2,refs1,ref0])])
theorem sliceA_congr {n:Nat} {lo hi:Option Int} (h:AgrV σ τ v) {u:V} (hA:sliceA n v lo hi σ=some (bs,u,σ')):σ'=σ∧sliceA n v lo hi τ=some (bs,u,τ):=by
 cases v <;> simp only [sliceA,reduceCtorEq] at hA ⊢
 ·obtain ⟨h1,h2⟩:=cond_some hA
  rw [h1]
  simp only [cutA,sI,Prod.mk.injEq] at h2
  obtain ⟨rfl,rfl,rfl⟩:=h2
  exact ⟨rfl,rfl⟩
 ·rw [← h _ (by simp [refs3,refs2,refs1,ref0])]
  split at hA
  ·obtain ⟨h1,h2⟩:=cond_some hA
   rename_i hl
   simp only [cutA,sI,Prod.mk.injEq] at h2
   obtain ⟨rfl,rfl,rfl⟩:=h2
   refine ⟨rfl,?_⟩
   simp only [h1,cond_true]
   rfl
  ·cases hA
 ·rw [← h _ (by simp [refs3,refs2,refs1,ref0])]
  split at hA
  ·obtain ⟨h1,h2⟩:=cond_some hA
   rename_i hl
   simp only [cutA,sI,Prod.mk.injEq] at h2
   obtain ⟨rfl,rfl,rfl⟩:=h2
   refine ⟨rfl,?_⟩
   simp only [h1,cond_true]
   rfl
  ·cases hA
theorem binI_congr {op:BinOp} {k:IntKind} {a b:Int} (hA:binI op k a b σ=some (bs,v,σ')):σ'=σ∧binI op k a b τ=some (bs,v,τ):=by
 cases op <;> simp only [binI,pureA,sI,Prod.mk.injEq,reduceCtorEq] at hA <;> obtain ⟨rfl,rfl,rfl⟩:=hA <;> exact ⟨rfl,rfl⟩
theorem binA_congr {op:BinOp} {t:TypeId} {x y:V} (hA:binA E op t x y σ=some (bs,v,σ')):σ'=σ∧binA E op t x y τ=some (bs,v,τ):=by
 unfold binA at hA ⊢
 split at hA
 ·split at hA
  ·simp only [sI,Prod.mk.injEq] at hA;obtain ⟨rfl,rfl,rfl⟩:=hA;exact ⟨rfl,rfl⟩
  ·simp only [sI,Prod.mk.injEq] at hA;obtain ⟨rfl,rfl,rfl⟩:=hA;exact ⟨rfl,rfl⟩
  ·split at hA
   ·rename_i h
    subst h
    obtain ⟨h1,h2⟩:=binI_congr (τ:=τ) hA
    exact ⟨h1,by simpa using h2⟩
   ·cases hA
 ·split at hA <;> simp only [pureA,sI,Prod.mk.injEq,reduceCtorEq] at hA <;> obtain ⟨rfl,rfl,rfl⟩:=hA <;> rename_i hk <;> simp [hk,pureA]
 ·split at hA <;> simp only [pureA,sI,Prod.mk.injEq,reduceCtorEq] at hA <;> obtain ⟨rfl,rfl,rfl⟩:=hA <;> simp [pureA]
 ·split at hA <;> simp only [pureA,sI,Prod.mk.injEq,reduceCtorEq] at hA <;> obtain ⟨rfl,rfl,rfl⟩:=hA <;> rename_i h1 h2 <;> simp [h1,h2,pureA]
 ·split at hA <;> simp only [pureA,sI,Prod.mk.injEq,reduceCtorEq] at hA <;> obtain ⟨rfl,rfl,rfl⟩:=hA <;> rename_i hk <;> simp [hk,pureA]
 ·split at hA <;> simp only [pureA,sI,Prod.mk.injEq,reduceCtorEq] at hA <;> obtain ⟨rfl,rfl,rfl⟩:=hA <;> rename_i hk <;> simp [hk,pureA]
 ·split at hA <;> simp only [pureA,sI,Prod.mk.injEq,reduceCtorEq] at hA <;> obtain ⟨rfl,rfl,rfl⟩:=hA <;> rename_i hk <;> simp [hk,pureA]
 ·cases hA
theorem bound_congr {o:Option Operand} (h:∀ x,o=some x→σ.eval x=τ.eval x):bound σ o=bound τ o:=by
 cases o with
 |none=>rfl
 |some x=>simp only [bound,h x rfl]
theorem intsOf_congr:∀ {os:List Operand},(∀ x∈os,σ.eval x=τ.eval x)→intsOf σ os=intsOf τ os
 | [],_=>rfl
 | [x],h=>by simp only [intsOf,h x (by simp)]
 |x::y::os,h=>by
  simp only [intsOf,h x (by simp)]
  rw [intsOf_congr fun z hz=>h z (by simp only [List.mem_cons] at hz ⊢;exact .inr hz)]
theorem parts_congr {ps:List (Nat×Operand)} (h:∀ x∈ps.map (·.2),σ.eval x=τ.eval x):(ps.map fun p=>(p.1,σ.eval p.2))=ps.map fun p=>(p.1,τ.eval p.2) :=
 List.map_congr_left fun p hp=>by rw [h p.2 (List.mem_map_of_mem hp)]
theorem op1_congr {op:Op} (hp:pureOp op=true) (h:Agr σ τ op) (hA:op1 E nm ty op σ=some (bs,v,σ')) (hn:∀ x,op=.assign x→False):σ'=σ∧op1 E nm ty op τ=some (bs,v,τ):=by
 cases op <;> simp only [pureOp,Bool.false_eq_true] at hp
 case move x =>
  have hx:=h x (by simp [Op.operands])
  simp only [op1,pureA,sI,Prod.mk.injEq] at hA
  obtain ⟨rfl,rfl,rfl⟩:=hA
  exact ⟨rfl,by rw [hx.1];rfl⟩
 case pick c x y =>
  have hc:=h c (by simp [Op.operands])
  have hx:=h x (by simp [Op.operands])
  have hy:=h y (by simp [Op.operands])
  simp only [op1] at hA ⊢
  rw [← hc.1,← hx.1,← hy.1]
  split at hA
  ·rename_i hb
   simp only [pureA,sI,Prod.mk.injEq] at hA
   obtain ⟨rfl,rfl,rfl⟩:=hA
   simp [hb,pureA]
  ·cases hA
 case build t ps =>
  simp only [op1] at hA ⊢
  rw [← parts_congr (σ:=σ) (τ:=τ) (ps:=ps.toList) fun x hx=>(h x (by simpa [Op.operands] using hx)).1]
  split at hA
  ·rename_i fs hk
   obtain ⟨h1,h2⟩:=cond_some hA
   split at h2
   ·rename_i cs hc
    simp only [pureA,sI,Prod.mk.injEq] at h2
    obtain ⟨rfl,rfl,rfl⟩:=h2
    simp [hk,h1,hc,pureA]
   ·cases h2
  ·cases hA
 case load t x =>
  have hx:=h x (by simp [Op.operands])
  simp only [op1] at hA ⊢
  rw [← hx.1,← loadC_congr hx.2]
  split at hA
  ·rename_i cs hc
   simp only [pureA,sI,Prod.mk.injEq] at hA
   obtain ⟨rfl,rfl,rfl⟩:=hA
   simp [hc,pureA]
  ·cases hA
 case nilCheck x =>
  have hx:=h x (by simp [Op.operands])
  simp only [op1] at hA ⊢
  rw [← hx.1]
  split at hA <;> simp only [pureA,sI,Prod.mk.injEq,reduceCtorEq] at hA <;> obtain ⟨rfl,rfl,rfl⟩:=hA <;> rename_i hk <;> simp [hk,pureA]
 case binOp op t x y t2 =>
  have hx:=h x (by simp [Op.operands])
  have hy:=h y (by simp [Op.operands])
  simp only [op1] at hA ⊢
  rw [← hx.1,← hy.1]
  exact binA_congr hA
 case unOp op t x =>
  have hx:=h x (by simp [Op.operands])
  simp only [op1] at hA ⊢
  rw [← hx.1]
  split at hA <;> simp only [pureA,sI,Prod.mk.injEq,reduceCtorEq] at hA <;> obtain ⟨rfl,rfl,rfl⟩:=hA <;> rename_i hk <;> simp [hk,pureA]
 case convert s d x =>
  have hx:=h x (by simp [Op.operands])
  simp only [op1] at hA ⊢
  rw [← hx.1]
  split at hA <;> simp only [pureA,sI,Prod.mk.injEq,reduceCtorEq] at hA <;> obtain ⟨rfl,rfl,rfl⟩:=hA <;> rename_i h1 h2 h3 <;> simp [h1,h2,h3,pureA]
 case makeFunc f fst caps =>
  cases f with
  |func f =>
   have hc:caps.toList.map σ.eval=caps.toList.map τ.eval:=List.map_congr_left fun x hx=>(h x (by simp only [Op.operands,Array.toList_append,List.mem_append];exact .inr hx)).1
   simp only [op1] at hA ⊢
   rw [← hc]
   split at hA
   ·rename_i hf
    obtain ⟨h1,h2⟩:=cond_some hA
    simp only [pureA,sI,Prod.mk.injEq] at h2
    obtain ⟨rfl,rfl,rfl⟩:=h2
    simp [hf,pureA,h1]
   ·cases hA
  |_=>simp only [op1,reduceCtorEq] at hA
 case slice t x lo hi mx =>
  cases mx with
  |some m=>exact (by cases hp)
  |none =>
  have hx:=h x (by simp [Op.operands])
  have hlo:bound σ lo=bound τ lo:=bound_congr fun y hy=>(h y (by subst hy;simp [Op.operands])).1
  have hhi:bound σ hi=bound τ hi:=bound_congr fun y hy=>(h y (by subst hy;simp [Op.operands])).1
  simp only [op1] at hA ⊢
  rw [← hx.1,← hlo,← hhi]
  split at hA
  ·rename_i h1 h2 h3
   obtain ⟨e1,e2⟩:=sliceA_congr hx.2 hA
   simp [h1,h2,h3,e1,e2]
  ·rename_i h1 h2 h3
   split at hA
   ·rename_i s hs
    simp only [sliceStr,sI,Prod.mk.injEq] at hA
    obtain ⟨rfl,rfl,rfl⟩:=hA
    simp [h1,h2,h3,hs,sliceStr]
   ·cases hA
  ·rename_i h4;cases h4
  ·rename_i h4;cases h4
  ·cases hA
 case fieldAddr s x f =>
  have hx:=h x (by simp [Op.operands])
  simp only [op1] at hA ⊢
  rw [← hx.1]
  split at hA
  ·rename_i fs e i oo hk hv
   have hl:=hx.2 e (by rw [hv];simp [refs3,refs2,refs1,ref0])
   split at hA
   rotate_left
   ·cases hA
   rename_i off ft hf
   obtain ⟨h1,h2⟩:=cond_some hA
   split at h2
   ·rename_i t l hlk
    obtain ⟨h3,h4⟩:=cond_some h2
    simp only [pureA,sI,Prod.mk.injEq] at h4
    obtain ⟨rfl,rfl,rfl⟩:=h4
    rw [hlk] at hl
    simp only [hk,hv,hf,h1,← hl,h3,cond_true,pureA,and_self]
   ·rename_i cs hlk
    simp only [pureA,sI,Prod.mk.injEq] at h2
    obtain ⟨rfl,rfl,rfl⟩:=h2
    rw [hlk] at hl
    simp only [hk,hv,hf,h1,← hl,cond_true,pureA,and_self]
   ·cases h2
  ·rename_i hk hv
   split at hA
   rotate_left
   ·cases hA
   rename_i off ft hf
   obtain ⟨h1,h2⟩:=cond_some hA
   simp only [pureA,sI,Prod.mk.injEq] at h2
   obtain ⟨rfl,rfl,rfl⟩:=h2
   simp only [hk,hv,hf,h1,cond_true,pureA,and_self]
  ·cases hA
 case field t x f =>
  have hx:=h x (by simp [Op.operands])
  simp only [op1] at hA ⊢
  rw [← hx.1]
  split at hA
  ·rename_i hk hv
   split at hA
   rotate_left
   ·cases hA
   rename_i off ft hf
   obtain ⟨h1,h2⟩:=cond_some hA
   simp only [pureA,sI,Prod.mk.injEq] at h2
   obtain ⟨rfl,rfl,rfl⟩:=h2
   simp only [hk,hv,hf,h1,cond_true,pureA,and_self]
  ·cases hA
 case indexAddr t x ix =>
  have hx:=h x (by simp [Op.operands])
  have hi:=h ix (by simp [Op.operands])
  simp only [op1] at hA ⊢
  rw [← hx.1,← hi.1]
  split at hA
  ·rename_i e k n hk hn
   split at hA
   ·rename_i te l hv
    obtain ⟨h1,h2⟩:=cond_some hA
    simp only [sI,Prod.mk.injEq] at h2
    obtain ⟨rfl,rfl,rfl⟩:=h2
    simp only [hk,hn,hv,h1,cond_true,and_self]
   ·rename_i en hv
    have hl:=hx.2 en (by rw [hv];simp [refs3,refs2,refs1,ref0])
    split at hA
    ·rename_i te l hlk
     obtain ⟨h1,h2⟩:=cond_some hA
     simp only [sI,Prod.mk.injEq] at h2
     obtain ⟨rfl,rfl,rfl⟩:=h2
     rw [hlk] at hl
     simp only [hk,hn,hv,← hl,h1,cond_true,and_self]
    ·rename_i cs hlk
     obtain ⟨h1,h2⟩:=cond_some hA
     simp only [sI,Prod.mk.injEq] at h2
     obtain ⟨rfl,rfl,rfl⟩:=h2
     rw [hlk] at hl
     simp only [hk,hn,hv,← hl,h1,cond_true,and_self]
    ·rename_i t' ll' k' hlk
     obtain ⟨h1,h2⟩:=cond_some hA
     simp only [sI,Prod.mk.injEq] at h2
     obtain ⟨rfl,rfl,rfl⟩:=h2
     rw [hlk] at hl
     simp only [hk,hn,hv,← hl,h1,cond_true,and_self]
    ·cases hA
   ·rename_i en oo len hv
    have hl:=hx.2 en (by rw [hv];simp [refs3,refs2,refs1,ref0])
    split at hA
    ·rename_i te l hlk
     obtain ⟨h1,h2⟩:=cond_some hA
     simp only [sI,Prod.mk.injEq] at h2
     obtain ⟨rfl,rfl,rfl⟩:=h2
     rw [hlk] at hl
     simp only [hk,hn,hv,← hl,h1,cond_true,and_self]
    ·cases hA
   ·cases hA
  ·rename_i len e k n hk hn
   split at hA
   rotate_left
   ·cases hA
   rename_i en i oo hv
   have hl:=hx.2 en (by rw [hv];simp [refs3,refs2,refs1,ref0])
   obtain ⟨h1,h2⟩:=cond_some hA
   split at h2
   ·rename_i te l hlk
    obtain ⟨h3,h4⟩:=cond_some h2
    simp only [sI,Prod.mk.injEq] at h4
    obtain ⟨rfl,rfl,rfl⟩:=h4
    rw [hlk] at hl
    simp only [hk,hn,hv,← hl,h1,h3,cond_true,and_self]
   ·rename_i cs hlk
    simp only [sI,Prod.mk.injEq] at h2
    obtain ⟨rfl,rfl,rfl⟩:=h2
    rw [hlk] at hl
    simp only [hk,hn,hv,← hl,h1,cond_true,and_self]
   ·cases h2
  ·cases hA
 case index t x ix =>
  have hx:=h x (by simp [Op.operands])
  have hi:=h ix (by simp [Op.operands])
  simp only [op1] at hA ⊢
  rw [← hx.1,← hi.1]
  split at hA
  ·rename_i h1 h2 h3
   simp only [sI,Prod.mk.injEq] at hA
   obtain ⟨rfl,rfl,rfl⟩:=hA
   simp only [h1,h2,h3,and_self]
  ·cases hA
 case extract x i =>
  have hx:=h x (by simp [Op.operands])
  simp only [op1] at hA ⊢
  rw [← hx.1]
  split at hA
  ·rename_i vs hv
   split at hA
   ·rename_i u hu
    simp only [pureA,sI,Prod.mk.injEq] at hA
    obtain ⟨rfl,rfl,rfl⟩:=hA
    simp only [hv,hu,pureA,and_self]
   ·cases hA
  ·cases hA
 case call c =>
  have hargs:∀ x∈c.args.toList,σ.eval x=τ.eval x∧AgrV σ τ (σ.eval x):=fun x hx=>h x (by
   simp only [Op.operands,Call.operands,Array.toList_append,List.mem_append];exact .inr hx)
  simp only [op1] at hA ⊢
  split at hA
  ·rename_i hc
   split at hA
   rotate_left
   ·cases hA
   rename_i t x ht hxs
   have hx:=hargs x (by rw [hxs];simp)
   split at hA
   ·rename_i e n hk hl
    split at hA
    ·cases hA
    ·rename_i hns
     simp only [pureA,sI,Prod.mk.injEq] at hA
     obtain ⟨rfl,rfl,rfl⟩:=hA
     refine ⟨rfl,?_⟩
     simp only [hc,ht,hxs,hk,← hx.1,← lenV_congr hx.2,hl]
     generalize σ.eval x=u at hns
     cases u <;> first|rfl|exact absurd rfl (hns _)
   ·rename_i n hk hl
    split at hA
    ·rename_i s hs
     simp only [pureA,sI,Prod.mk.injEq] at hA
     obtain ⟨rfl,rfl,rfl⟩:=hA
     refine ⟨rfl,?_⟩
     rw [hs] at hl
     simp only [hc,ht,hxs,hk,← hx.1,hs]
     simp only [lenV] at hl ⊢
     injection hl with hl
     rw [hl];rfl
    ·cases hA
   ·cases hA
  ·rename_i hc;simp [hc] at hp
  ·rename_i hc;simp [hc] at hp
  ·rename_i hc;simp [hc] at hp
  ·rename_i hc
   rw [← intsOf_congr fun x hx=>(hargs x hx).1]
   split at hA
   ·rename_i k n ns hi
    simp only [pureA,sI,Prod.mk.injEq] at hA
    obtain ⟨rfl,rfl,rfl⟩:=hA
    simp only [hc,hi,pureA,and_self]
   ·cases hA
  ·rename_i hc
   rw [← intsOf_congr fun x hx=>(hargs x hx).1]
   split at hA
   ·rename_i k n ns hi
    simp only [pureA,sI,Prod.mk.injEq] at hA
    obtain ⟨rfl,rfl,rfl⟩:=hA
    simp only [hc,hi,pureA,and_self]
   ·cases hA
  ·cases hA
end
open Go.RowKit
inductive OpDR (E:Env) (nm:Nat) (o:Oper) (σ:St) (v:V) (es:List Entry):Prop where
 |pure (bs:List Bool) (hp:pureOp o.op=true) (h:op1 E nm o.type o.op σ=some (bs,v,σ)) (hb:∀ b∈bs,b=true) (he:es=[])
 |alloc (t:TypeId) (ho:o.op=.alloc t) (hs:(E.tt t).size ≠ 0) (hv:v=.ptr nm 0 0) (he:es=[.box (E.tt t).zero])
 |box (t:TypeId) (x:Operand) (ho:o.op=.box t x) (hk:known (σ.eval x).cells=true) (hr:(σ.eval x).cells.all noRef=true) (hv:v=.ptr nm 0 0) (he:es=[.box (σ.eval x).cells])
 |make (t e:TypeId) (l c:Operand) (te:Ty) (n m:Int) (ho:o.op=.makeSlice t l c) (hk:(E.tt t).kind=.slice e) (hl:σ.eval l=.int .i64 n) (hc:σ.eval c=.int .i64 m) (hty:(E.tt e).ty=some te)
   (h0:0≤n∧n≤m) (h1:0<(E.tt e).bytes∧m*(E.tt e).bytes≤140737488355328) (hv:v=.slw nm) (he:es=[.row te (List.replicate n.toNat (dflt te))])
 |assign (x:Operand) (ho:o.op=.assign x) (hv:σ.eval x=v) (he:es=[])
 |row (t e:TypeId) (len:Nat) (ps:Array (Nat×Operand)) (te:Ty) (cs:List V) (l:List te.den) (ho:o.op=.buildSlice t len ps) (hk:(E.tt t).kind=.slice e) (hty:(E.tt e).ty=some te)
   (hc:fillC (fun i=>some (i*(E.tt e).size,(E.tt e).size)) (ps.toList.map fun p=>(p.1,σ.eval p.2)) (zerosL (E.tt e).zero (len*(E.tt e).size))=some cs) (hd:decN te len (cs.map (pure1 σ))=some l)
   (hn:len*(E.tt e).size≤16777216) (hr:cs.all noRef=true) (hv:v=.slw nm) (he:es=[.row te l])
 |call (c:Call) (f:Operand) (g:FuncId) (caps:List V) (s:Summ) (x:s.rt) (ho:o.op=.call c) (hc:c.callee=.value f) (hf:σ.eval f=.fn g caps) (hs:lookS E.sums g=some s) (hp:caps.all plain=true∧s.alt.isNone=true)
   (hx:s.call ((c.args.toList.map σ.eval++caps).map (pureV σ))=some x) (hr:(flatV (s.res x) || (argCells (c.args.toList.map σ.eval++caps)).all noRef)=true) (hv:v=relab nm (s.res x)) (he:es=owns (s.res x).flat)
section
variable {P:Program} {E:Env} {C:Frm} {β:Nat→Option Loc} {σ τ σ':St} {a:Act} {as:List (Array Value)} {w:World} {o:Oper} {R:Type} {r:R} {nm:Nat} {v:V} {es:List Entry}
theorem opD_some {K:V→List Entry→Option R} (he:opD E nm o σ K=some r):∃ v es,OpDR E nm o σ v es∧K v es=some r:=by
 have pur:(bif pureOp o.op then (match op1 E nm o.type o.op σ with
   |some (bs,v,_)=>chks bs (K v [])
   |none=>none) else none)=some r→(∀ x,o.op=.assign x→False)→∃ v es,OpDR E nm o σ v es∧K v es=some r:=by
  intro h hn
  obtain ⟨h1,h2⟩:=cond_some h
  split at h2
  ·rename_i bs v σ1 h3
   obtain ⟨hbs,hK⟩:=chks_some h2
   have:=op1_congr (τ:=σ) h1 (fun x _=>⟨rfl,fun _ _=>rfl⟩) h3 hn
   exact ⟨v,[],.pure bs h1 this.2 hbs rfl,hK⟩
  ·cases h2
 unfold opD at he
 split at he
 ·rename_i t len ps ho
  split at he
  rotate_left
  ·cases he
  rename_i e hk
  split at he
  rotate_left
  ·cases he
  rename_i te hty
  split at he
  rotate_left
  ·cases he
  rename_i cs hc
  split at he
  rotate_left
  ·cases he
  rename_i l hd
  obtain ⟨h1,h2⟩:=cond_some he
  simp only [bA,Nat.ble_eq] at h1
  exact ⟨_,_,.row t e len ps te cs l ho hk hty hc hd h1.1 h1.2 rfl rfl,h2⟩
 ·rename_i t ho
  obtain ⟨h1,h2⟩:=cond_some he
  have h1:0<(E.tt t).size:=by simpa using h1
  exact ⟨_,_,.alloc t ho (by omega) rfl rfl,h2⟩
 ·rename_i t x ho
  obtain ⟨h1,h2⟩:=cond_some he
  rw [bA] at h1
  exact ⟨_,_,.box t x ho h1.1 h1.2 rfl rfl,h2⟩
 ·rename_i t l c ho
  split at he
  rotate_left
  ·cases he
  rename_i e n m hk hl hc
  split at he
  rotate_left
  ·cases he
  rename_i te hty
  obtain ⟨hbs,hK⟩:=chks_some he
  have k1:=hbs _ (List.mem_cons_self ..)
  have k2:=hbs _ (List.mem_cons_of_mem _ (List.mem_cons_self ..))
  simp only [dE] at k1 k2
  exact ⟨_,_,.make t e l c te n m ho hk hl hc hty k1 k2 rfl rfl,hK⟩
 ·rename_i x ho
  split at he
  ·cases he
  ·exact ⟨_,_,.assign x ho rfl rfl,he⟩
 ·rename_i c ho
  split at he
  ·rename_i f hc
   split at he
   rotate_left
   ·cases he
   rename_i g caps hf
   split at he
   rotate_left
   ·cases he
   rename_i s hs
   cases hx:s.call ((c.args.toList.map σ.eval++caps).map (pureV σ)) with
   |none=>rw [hx] at he;cases he
   |some x =>
    rw [hx] at he
    simp only [Option.bind_some] at he
    obtain ⟨h1,h2⟩:=cond_some he
    simp only [bA] at h1
    exact ⟨_,_,.call c f g caps s x ho hc hf hs h1.1 hx h1.2 (relabF_eq _ _) rfl,h2⟩
  ·exact pur he (fun x hx=>by rw [ho] at hx;cases hx)
 ·rename_i h1 h2 h3 h4 h5 h6
  exact pur he (fun x hx=>h5 x hx)
theorem OpDR.congr (h:Agr σ τ o.op) (hd:OpDR E nm o σ v es):OpDR E nm o τ v es:=by
 cases hd with
 |pure bs hp h1 hb he =>
  refine .pure bs hp (op1_congr hp h h1 (fun x hx=>by rw [hx] at hp;cases hp)).2 hb he
 |alloc t ho hs hv he=>exact .alloc t ho hs hv he
 |box t x ho hk hr hv he =>
  have hx:=(h x (by rw [ho];simp [Op.operands])).1
  exact .box t x ho (by rw [← hx];exact hk) (by rw [← hx];exact hr) hv (by rw [← hx];exact he)
 |make t e l c te n m ho hk hl hc hty h0 h1 hv he =>
  have h2:=(h l (by rw [ho];simp [Op.operands])).1
  have h3:=(h c (by rw [ho];simp [Op.operands])).1
  exact .make t e l c te n m ho hk (by rw [← h2];exact hl) (by rw [← h3];exact hc) hty h0 h1 hv he
 |assign x ho hv he =>
  refine .assign x ho ?_ he
  rw [← hv,(h x (by rw [ho];simp [Op.operands])).1]
 |row t e len ps te cs l ho hk hty hc hd hn hr hv he =>
  have hp:∀ x∈ps.toList.map (·.2),σ.eval x=τ.eval x:=fun x hx=>(h x (by rw [ho];simpa [Op.operands] using hx)).1
  refine .row t e len ps te cs l ho hk hty (by rw [← parts_congr hp];exact hc) ?_ hn hr hv he
  rw [← hd]
  congr 1
  refine List.map_congr_left fun c hc'=>(pure1_congr fun e' he'=>?_).symm
  have:=List.all_eq_true.1 hr c hc'
  cases c <;> simp [noRef,ref0] at this he'
 |call c f g caps s x ho hc hf hs hp hx hr hv he =>
  have hff:=h f (by rw [ho];simp [Op.operands,Call.operands,hc])
  have hargs:∀ x∈c.args.toList,σ.eval x=τ.eval x∧AgrV σ τ (σ.eval x):=fun x hx=>h x (by
   rw [ho];simp only [Op.operands,Call.operands,Array.toList_append,List.mem_append];exact .inr hx)
  have e1:c.args.toList.map σ.eval=c.args.toList.map τ.eval:=List.map_congr_left fun x hx=>(hargs x hx).1
  have e2:(c.args.toList.map σ.eval++caps).map (pureV σ)=(c.args.toList.map τ.eval++caps).map (pureV τ):=by
   rw [← e1]
   refine List.map_congr_left fun u hu=>pureV_congr ?_
   rcases List.mem_append.1 hu with hu|hu
   ·obtain ⟨x,hx,rfl⟩:=List.mem_map.1 hu
    exact (hargs x hx).2
   ·intro e he'
    refine hff.2 e ?_
    rw [hf]
    have hpu:=List.all_eq_true.1 hp.1 u hu
    have h0:e∈ref0 u:=by cases u <;> first|exact he'|simp [plain] at hpu
    simp only [refs3,refs2,refs1,List.mem_flatMap]
    exact ⟨u,hu,h0⟩
  exact .call c f g caps s x ho hc (by rw [← hff.1];exact hf) hs hp (by rw [← e2];exact hx) (by rw [← e1];exact hr) hv he
theorem frzAll_id:∀ {cs:List V} {σ:St},cs.all noRef=true→σ.frzAll cs=σ
 | [],_,_=>rfl
 |c::cs,σ,h=>by
  simp only [List.all_cons,bA] at h
  have:frz1 σ c=σ:=by cases c <;> first|rfl|simp [noRef] at h
  simp only [St.frzAll,this]
  exact frzAll_id h.2
theorem clear_dead {e:Nat} (h:look σ.mem e=none):σ.clear e=σ:=by unfold St.clear;rw [h];rfl
theorem clearN_dead:∀ (n k:Nat),deadN σ.mem k n=true→St.clearN k n σ=σ
 |0,_,_=>rfl
 |n+1,k,h=>by
  simp only [deadN,bA,Option.isNone_iff_eq_none] at h
  simp only [St.clearN,clear_dead h.1]
  exact clearN_dead n (k+1) h.2
theorem new_dead {e:Nat} {E1:Entry} (h:deadN σ.mem e [E1].length=true):σ.new e E1={ σ with mem:=addE e [E1] σ.mem }:=by
 simp only [List.length_cons,List.length_nil,deadN,Bool.and_true,Option.isNone_iff_eq_none] at h
 unfold St.new
 rw [clear_dead h]
 rfl
def St.apD (σ:St) (nm:Nat) (dst:Option Nat) (v:V) (es:List Entry):St:=St.put { σ with mem:=addE nm es σ.mem } dst v
theorem opDR_sound (hT:TtOk P E.tt) (hS:SumsOk P E) {next:Act→World→Prop} {Q:Exit→Act→World→Prop} (h:Sim C β σ (a.tmps::as) w) (hd:a.defers=[]) (hdead:deadN σ.mem nm es.length=true) (ho:OpDR E nm o σ v es)
  (hn:∀ (a':Act) w' β',a'.defers=[]→Sim C β' (σ.apD nm o.dst v es) (a'.tmps::as) w'→next a' w'):o.wp P a w next Q:=by
 have fin:Done P C o a as w v { σ with mem:=addE nm es σ.mem }→o.wp P a w next Q:=by
  rintro ⟨x,w',β',hr,hs,hv⟩
  unfold Oper.wp
  rcases hr with hr|⟨hr,rfl⟩ <;> rw [hr]
  ·exact hn _ _ _ (by rw [put_defers];exact hd) (hs.put o.dst hv)
  ·exact hn _ _ _ (by rw [put_defers];exact hd) (hs.put o.dst hv)
 cases ho with
 |pure bs hp h1 hb he =>
  subst he
  exact fin (op1_sound hT h h1 hb)
 |alloc t ho hs hv he =>
  subst he
  subst hv
  refine fin ?_
  rw [← new_dead hdead]
  exact done_alloc hT h ho hs
 |box t x ho hk hr hv he =>
  subst he
  subst hv
  refine fin ?_
  rw [← new_dead hdead]
  have:=done_opBox (P:=P) (nm:=nm) h ho hk
  have e1:(σ.eval x).cells.map (V.mapC (killV nm))=(σ.eval x).cells:=by
   have:∀ cs:List V,cs.all noRef=true→cs.map (V.mapC (killV nm))=cs:=by
    intro cs
    induction cs with
    |nil=>intro _;rfl
    |cons c cs ih =>
     intro hr
     simp only [List.all_cons,bA] at hr
     rw [List.map_cons,ih hr.2]
     congr 1
     cases c <;> first|rfl|simp [noRef] at hr
   exact this _ hr
  rw [e1] at this
  exact this
 |make t e l c te n m ho hk hl hc hty h0 h1 hv he =>
  subst he
  subst hv
  refine fin ?_
  rw [← new_dead hdead]
  exact done_makeSlice hT h ho hk hty hl hc h0 h1
 |assign x ho hv he =>
  subst he
  refine fin ?_
  rw [← hv]
  exact done_move h (.inr ho)
 |row t e len ps te cs l ho hk hty hc hdd hn' hr hv he =>
  subst he
  subst hv
  refine fin ?_
  have:=done_buildSlice (nm:=nm) hT h ho hk hty hc hdd hn'
  rw [frzAll_id hr] at this
  rw [← new_dead hdead]
  exact this
 |call c f g caps s x ho hc hf hs hp hx hr hv he =>
  subst he
  subst hv
  have hf1:=h.eval f
  rw [hf] at hf1
  obtain ⟨ys,hfx,hcaps⟩:=hf1
  have hargs:All2 (V3 (cx C β σ w)) (c.args.toList.map σ.eval++caps) (c.args.map a.eval++ys).toList:=by
   rw [Array.toList_append,Array.toList_map]
   refine All2.append ?_ (hcaps.mono fun _ _=>V3.of0)
   generalize c.args.toList=l
   induction l with
   |nil=>exact trivial
   |cons y l ih=>exact ⟨h.eval y,ih⟩
  have hcs:callS (R:=V×St) s nm (c.args.toList.map σ.eval++caps) σ (fun v σ'=>some (v,σ'))=some (relab nm (s.res x),{ σ with mem:=addE nm (owns (s.res x).flat) σ.mem }):=by
   have ha:s.alt=none:=by
    simpa [Option.isNone_iff_eq_none] using hp.2
   unfold callS
   rw [ha]
   simp only []
   rw [hx]
   simp only [Option.bind_some]
   have e1:(bif flatV (s.res x) then σ else σ.frzAll (argCells (c.args.toList.map σ.eval++caps)))=σ:=by
    cases hfl:flatV (s.res x) with
    |true=>rfl
    |false =>
     rw [hfl,Bool.false_or] at hr
     simp only [cond_false]
     exact frzAll_id hr
   rw [e1]
   unfold adopt
   rw [relabF_eq]
   simp only []
   rw [clearN_dead _ _ hdead]
  obtain ⟨h1,h2⟩:=callS_sound (hS g s hs) h hargs hcs
  unfold Oper.wp
  have hex:(execOp a.eval o).run P w=.ok (.enter g (c.args.map a.eval++ys)) w:=by
   simp only [execOp,ho,resolve,hc,hfx,Deferred.ofValue,Sem.run_bind,Sem.run_pure,Result.andThen_ok,invoke,Array.empty_append]
   exact h1
  rw [hex]
  refine h2.mono fun e w' ⟨x',hx',β',σ',v',hs',hv',hK⟩=>?_
  subst hx'
  injection hK with hK
  injection hK with hK1 hK2
  subst hK1
  subst hK2
  exact hn _ _ _ (by rw [put_defers];exact hd) (hs'.put (a:=a) o.dst hv')
end
open Go.RowKit
structure Res where
 dst:Option Nat
 nm:Nat
 v:V
 es:List Entry
def St.apR (σ:St) (x:Res):St:=σ.apD x.nm x.dst x.v x.es
def mix:(Nat→Bool)→List Res→St→St
 |_,[],σ=>σ
 |sel,x::rs,σ=>mix (fun i=>sel (i+1)) rs (bif sel 0 then σ.apR x else σ)
def Names (x:Res) (e:Nat):Prop:=x.nm≤e∧e<x.nm+x.es.length
structure Eqv (σ τ:St):Prop where
 len:σ.fr.length=τ.fr.length
 get:∀ t,σ.get t=τ.get t
 outs:σ.outs=τ.outs
 look:∀ e,look σ.mem e=look τ.mem e
section
variable {σ τ:St} {x:Res} {rs:List Res} {sel sel':Nat→Bool}
theorem apR_len:(σ.apR x).fr.length=σ.fr.length:=by
 unfold St.apR St.apD St.put
 split
 ·simp [St.set]
 ·rfl
theorem apR_outs:(σ.apR x).outs=σ.outs:=by
 unfold St.apR St.apD St.put
 split <;> rfl
theorem apR_mem:(σ.apR x).mem=addE x.nm x.es σ.mem:=by
 unfold St.apR St.apD St.put
 split <;> rfl
theorem apR_get (t:Nat):(σ.apR x).get t=if x.dst=some t∧t<σ.fr.length then x.v else σ.get t:=by
 obtain ⟨dst,nm,v,es⟩:=x
 cases dst with
 |none=>simp [St.apR,St.apD,St.put,St.get]
 |some d =>
  simp only [St.apR,St.apD,St.put,St.get,St.set,List.getD_eq_getElem?_getD,List.getElem?_set,sI]
  by_cases h:d=t
  ·subst h
   by_cases hl:d<σ.fr.length
   ·simp [hl]
   ·simp [hl]
  ·simp [h]
theorem apR_look_in {e:Nat} (h:Names x e):look (σ.apR x).mem e=x.es[e - x.nm]? := by
 rw [apR_mem,look_addE];exact if_pos h
theorem apR_look_out {e:Nat} (h:¬ Names x e):look (σ.apR x).mem e=look σ.mem e:=by
 rw [apR_mem,look_addE];exact if_neg h
theorem mix_len:∀ (rs:List Res) (sel:Nat→Bool) (σ:St),(mix sel rs σ).fr.length=σ.fr.length
 | [],_,_=>rfl
 |x::rs,sel,σ=>by
  simp only [mix]
  rw [mix_len rs]
  cases sel 0
  ·rfl
  ·exact apR_len
theorem mix_outs:∀ (rs:List Res) (sel:Nat→Bool) (σ:St),(mix sel rs σ).outs=σ.outs
 | [],_,_=>rfl
 |x::rs,sel,σ=>by
  simp only [mix]
  rw [mix_outs rs]
  cases sel 0
  ·rfl
  ·exact apR_outs
theorem mix_get_congr (t:Nat):∀ (rs:List Res) (sel sel':Nat→Bool) (σ σ':St),σ.fr.length=σ'.fr.length→σ.get t=σ'.get t→(∀ (i:Nat) x,rs[i]? = some x→x.dst=some t→sel i=sel' i)→(mix sel rs σ).get t=(mix sel' rs σ').get t
 | [],_,_,_,_,_,h,_=>h
 |x::rs,sel,sel',σ,σ',hl,hg,hs=>by
  simp only [mix]
  refine mix_get_congr t rs _ _ _ _ ?_ ?_ fun i y hy hd=>hs (i+1) y (by simpa using hy) hd
  ·cases sel 0 <;> cases sel' 0 <;> simp only [cond_true,cond_false,apR_len] <;> exact hl
  ·by_cases hd:x.dst=some t
   ·rw [hs 0 x rfl hd]
    cases sel' 0
    ·exact hg
    ·simp only [cond_true,apR_get,hd,hl,true_and,hg]
   ·cases sel 0 <;> cases sel' 0 <;> simp only [cond_true,cond_false,apR_get,hd,false_and,if_false] <;> exact hg
theorem mix_look_congr (e:Nat):∀ (rs:List Res) (sel sel':Nat→Bool) (σ σ':St),look σ.mem e=look σ'.mem e→(∀ (i:Nat) x,rs[i]? = some x→Names x e→sel i=sel' i)→look (mix sel rs σ).mem e=look (mix sel' rs σ').mem e
 | [],_,_,_,_,h,_=>h
 |x::rs,sel,sel',σ,σ',hg,hs=>by
  simp only [mix]
  refine mix_look_congr e rs _ _ _ _ ?_ fun i y hy hd=>hs (i+1) y (by simpa using hy) hd
  by_cases hd:Names x e
  ·rw [hs 0 x rfl hd]
   cases sel' 0
   ·exact hg
   ·simp only [cond_true,apR_look_in hd]
  ·cases sel 0 <;> cases sel' 0 <;> simp only [cond_true,cond_false,apR_look_out hd] <;> exact hg
theorem mix_none:∀ (rs:List Res) (sel:Nat→Bool) (σ:St),(∀ i,i<rs.length→sel i=false)→mix sel rs σ=σ
 | [],_,_,_=>rfl
 |x::rs,sel,σ,h=>by
  simp only [mix]
  rw [h 0 (by simp)]
  exact mix_none rs _ _ fun i hi=>h (i+1) (by simpa using hi)
theorem mix_alive (e:Nat):∀ (rs:List Res) (sel sel':Nat→Bool) (σ σ':St),((look σ.mem e).isSome=true→(look σ'.mem e).isSome=true)→(∀ i,sel i=true→sel' i=true)→(look (mix sel rs σ).mem e).isSome=true→(look (mix sel' rs σ').mem e).isSome=true
 | [],_,_,_,_,h,_=>h
 |x::rs,sel,sel',σ,σ',hg,hs=>by
  simp only [mix]
  refine mix_alive e rs _ _ _ _ ?_ fun i h=>hs (i+1) h
  intro h
  by_cases hd:Names x e
  ·have hin:e - x.nm<x.es.length:=by have:=hd.1;have:=hd.2;omega
   cases h1:sel' 0
   ·have h2:sel 0=false:=by
     cases h2:sel 0
     ·rfl
     ·rw [hs 0 h2] at h1;cases h1
    rw [h2] at h
    exact hg h
   ·simp only [cond_true,apR_look_in hd,gE hin]
    rfl
  ·have e1:∀ b:Bool,∀ σ:St,look (bif b then σ.apR x else σ).mem e=look σ.mem e:=by
    intro b σ
    cases b
    ·rfl
    ·simp only [cond_true,apR_look_out hd]
   rw [e1] at h ⊢
   exact hg h
theorem mix_more (j:Nat):∀ (rs:List Res) (sel:Nat→Bool) (σ:St) (x:Res),rs[j]? = some x→sel j=false →
  (∀ (i:Nat) y,rs[i]? = some y→i ≠ j→(∀ t,x.dst=some t→y.dst ≠ some t)∧∀ e,Names x e→¬ Names y e) →
  Eqv ((mix sel rs σ).apR x) (mix (fun i=>sel i || i==j) rs σ):=by
 intro rs sel σ x hx hsel hdis
 have hj:j<rs.length:=(List.getElem?_eq_some_iff.1 hx).1
 refine ⟨by rw [apR_len,mix_len,mix_len],fun t=>?_,by rw [apR_outs,mix_outs,mix_outs],fun e=>?_⟩
 ·rw [apR_get,mix_len]
  by_cases hd:x.dst=some t
  ·have key:∀ (rs:List Res) (j:Nat) (sel:Nat→Bool) (σ:St),rs[j]? = some x→(∀ (i:Nat) y,rs[i]? = some y→i ≠ j→y.dst ≠ some t)→sel j=true→(mix sel rs σ).get t=if t<σ.fr.length then x.v else σ.get t:=by
    intro rs
    induction rs with
    |nil=>intro j sel σ h;simp at h
    |cons y rs ih =>
     intro j sel σ h hne hs
     simp only [mix]
     cases j with
     |zero =>
      simp only [List.getElem?_cons_zero,sI] at h
      subst h
      rw [hs]
      simp only [cond_true]
      have:=mix_get_congr t rs (fun i=>sel (i+1)) (fun _=>false) (σ.apR y) (σ.apR y) rfl rfl (fun i z hz hzd=>absurd hzd (hne (i+1) z (by simpa using hz) (by omega)))
      rw [this,mix_none _ _ _ (fun _ _=>rfl),apR_get]
      simp [hd]
     |succ j =>
      have:=ih j (fun i=>sel (i+1)) (bif sel 0 then σ.apR y else σ) (by simpa using h) (fun i z hz hi=>hne (i+1) z (by simpa using hz) (by omega)) hs
      rw [this]
      have hy:=hne 0 y rfl (by omega)
      cases sel 0
      ·rfl
      ·simp only [cond_true,apR_len,apR_get]
       simp [hy]
   rw [key rs j (fun i=>sel i || i==j) σ hx (fun i y hy hi=>(hdis i y hy hi).1 t hd) (by simp)]
   have h0:(mix sel rs σ).get t=σ.get t:=by
    have:=mix_get_congr t rs sel (fun _=>false) σ σ rfl rfl (fun i y hy hyd=>by
     by_cases hi:i=j
     ·subst hi;exact hsel
     ·exact absurd hyd ((hdis i y hy hi).1 t hd))
    rw [this,mix_none _ _ _ (fun _ _=>rfl)]
   simp only [hd,true_and,h0]
  ·simp only [hd,false_and,if_false]
   refine mix_get_congr t rs _ _ σ σ rfl rfl fun i y hy hyd=>?_
   by_cases hi:i=j
   ·subst hi
    rw [hx] at hy
    injection hy with hy
    subst hy
    exact absurd hyd hd
   ·simp [hi]
 ·by_cases hd:Names x e
  ·rw [apR_look_in hd]
   have key:∀ (rs:List Res) (j:Nat) (sel:Nat→Bool) (σ:St),rs[j]? = some x→(∀ (i:Nat) y,rs[i]? = some y→i ≠ j→¬ Names y e)→sel j=true→look (mix sel rs σ).mem e=x.es[e - x.nm]? := by
    intro rs
    induction rs with
    |nil=>intro j sel σ h;simp at h
    |cons y rs ih =>
     intro j sel σ h hne hs
     simp only [mix]
     cases j with
     |zero =>
      simp only [List.getElem?_cons_zero,sI] at h
      subst h
      rw [hs]
      simp only [cond_true]
      have:=mix_look_congr e rs (fun i=>sel (i+1)) (fun _=>false) (σ.apR y) (σ.apR y) rfl (fun i z hz hzd=>absurd hzd (hne (i+1) z (by simpa using hz) (by omega)))
      rw [this,mix_none _ _ _ (fun _ _=>rfl),apR_look_in hd]
     |succ j =>
      exact ih j (fun i=>sel (i+1)) _ (by simpa using h) (fun i z hz hi=>hne (i+1) z (by simpa using hz) (by omega)) hs
   rw [key rs j (fun i=>sel i || i==j) σ hx (fun i y hy hi=>(hdis i y hy hi).2 e hd) (by simp)]
  ·rw [apR_look_out hd]
   refine mix_look_congr e rs _ _ σ σ rfl fun i y hy hyd=>?_
   by_cases hi:i=j
   ·subst hi
    rw [hx] at hy
    injection hy with hy
    subst hy
    exact absurd hyd hd
   ·simp [hi]
end
section
variable {C:Frm} {β:Nat→Option Loc} {σ τ:St} {as:List (Array Value)} {w:World}
theorem Eqv.sim (h:Eqv σ τ) (hs:Sim C β σ as w):Sim C β τ as w:=by
 have h1:σ.fr=τ.fr:=by
  apply List.ext_getElem?
  intro t
  by_cases ht:t<σ.fr.length
  ·have ht':t<τ.fr.length:=by rw [← h.len];exact ht
   have:=h.get t
   simp only [St.get,List.getD_eq_getElem?_getD,gE ht,gE ht',Option.getD_some] at this
   rw [gE ht,gE ht',this]
  ·rw [List.getElem?_eq_none (by omega),List.getElem?_eq_none (by rw [← h.len];omega)]
 have:=hs.grow (m':=τ.mem) (β':=β) (Grows.refl w) (fun e E hE=>⟨by rw [← h.look];exact hE,rfl⟩) (fun e L g h2 h3 _ _=>by rw [← h.look,h3] at h2;cases h2) (fun e e' L L' g h2 _ h4 _ _ _ _ _=>by rw [← h.look,h4] at h2;cases h2) (fun _ e E h2 h3=>by rw [← h.look,h2] at h3;cases h3)
 have h2:=this.1
 have e1:({ σ with mem:=τ.mem }:St)=τ:=by
  cases σ;cases τ
  simp only [] at h1
  have h3:=h.outs
  simp only [] at h3
  subst h1;subst h3
  rfl
 rw [e1] at h2
 exact h2
theorem ref0_alive {S:Cx} {v:V} {y:Value} {e:Nat} (h:V0 S v y) (he:e∈ref0 v):(look S.m e).isSome=true:=by
 cases v <;> simp only [ref0,List.mem_singleton,List.not_mem_nil] at he <;> subst he
 ·rcases h with ⟨t,l,h,_⟩|⟨E,n,h,_⟩ <;> (rw [h];rfl)
 ·rcases h with ⟨t,l,h,_⟩|⟨t,ll,k,l,L,h,_⟩ <;> (rw [h];rfl)
 ·obtain ⟨E,L,h,_⟩:=h;rw [h];rfl
theorem All2.ex {α β:Type} {R:α→β→Prop} {as:List α} {bs:List β} (h:All2 R as bs) {a:α} (ha:a∈as):∃ b,R a b:=by
 induction as generalizing bs with
 |nil=>cases ha
 |cons x as ih=>cases bs with
  |nil=>exact h.elim
  |cons b bs =>
   rcases List.mem_cons.1 ha with rfl|ha
   ·exact ⟨b,h.1⟩
   ·exact ih h.2 ha
theorem refs1_alive {S:Cx} {v:V} {y:Value} {e:Nat} (h:V1 S v y) (he:e∈refs1 v):(look S.m e).isSome=true:=by
 rcases V1.cases h with ⟨f,caps,rfl,ys,_,ha⟩|⟨h1,h0⟩
 ·simp only [refs1,List.mem_flatMap] at he
  obtain ⟨c,hc,he⟩:=he
  obtain ⟨y,hy⟩:=ha.ex hc
  exact ref0_alive hy he
 ·have:refs1 v=ref0 v:=by cases v <;> first|rfl|simp [V.isFn] at h1
  rw [this] at he
  exact ref0_alive h0 he
theorem refs2_alive {S:Cx} {v:V} {y:Value} {e:Nat} (h:V2 S v y) (he:e∈refs2 v):(look S.m e).isSome=true:=by
 rcases V2.cases h with ⟨cs,rfl,ys,_,ha⟩|⟨h1,h0⟩
 ·simp only [refs2,List.mem_flatMap] at he
  obtain ⟨c,hc,he⟩:=he
  obtain ⟨y,hy⟩:=ha.ex hc
  exact refs1_alive hy he
 ·have:refs2 v=refs1 v:=by cases v <;> first|rfl|simp [V.isAgg] at h1
  rw [this] at he
  exact refs1_alive h0 he
theorem refs3_alive {S:Cx} {v:V} {y:Value} {e:Nat} (h:V3 S v y) (he:e∈refs3 v):(look S.m e).isSome=true:=by
 rcases V3.cases h with ⟨cs,rfl,ys,_,ha⟩|⟨h1,h0⟩
 ·simp only [refs3,List.mem_flatMap] at he
  obtain ⟨c,hc,he⟩:=he
  obtain ⟨y,hy⟩:=ha.ex hc
  exact refs2_alive hy he
 ·have:refs3 v=refs2 v:=by cases v <;> first|rfl|simp [V.isTup] at h1
  rw [this] at he
  exact refs2_alive h0 he
end
open Go.RowKit
theorem maskOf_bit {M:List Nat} {o:Oper} {i:Nat} (h:Nat.testBit (maskOf M o) i=true):∃ e∈o.after,Region.binds .any e=true∧(e.on=i∨Nat.testBit (M.getD e.on 0) i=true):=by
 have key:∀ (l:List Edge) (m0:Nat),Nat.testBit (l.foldl (fun m e=>bif Region.binds .any e then m ||| ((1 <<< e.on) ||| M.getD e.on 0) else m) m0) i=true→Nat.testBit m0 i=true∨∃ e∈l,Region.binds .any e=true∧(e.on=i∨Nat.testBit (M.getD e.on 0) i=true):=by
  intro l
  induction l with
  |nil=>intro m0 h;exact .inl h
  |cons e l ih =>
   intro m0 h
   simp only [List.foldl_cons] at h
   rcases ih _ h with h|⟨e',he',h⟩
   ·cases hb:Region.binds .any e
    ·rw [hb] at h;exact .inl h
    ·rw [hb] at h
     simp only [cond_true,Nat.testBit_or,Bool.or_eq_true,Nat.one_shiftLeft,Nat.testBit_two_pow,dE] at h
     rcases h with h|h
     ·exact .inl h
     ·exact .inr ⟨e,by simp,hb,h⟩
   ·exact .inr ⟨e',by simp [he'],h⟩
 rcases key _ _ h with h|⟨e,he,h⟩
 ·simp at h
 ·exact ⟨e,by simpa using he,h⟩
structure OkAt (ops:Array Oper) (M:List Nat) (i:Nat) (x:Oper):Prop where
 mask:M.getD i 0=maskOf M x
 back:∀ e∈x.after,Region.binds .any e=true→e.on<i
 dst:∀ t,x.dst=some t→t<4095
theorem okFrom_at {lt:Bool} {ops:Array Oper} {M:List Nat}:∀ {l:List Oper} {k:Nat},okFrom lt ops M k l=true→∀ (i:Nat) x,l[i]? = some x→OkAt ops M (k+i) x∧∀ (j:Nat) y,i<j→l[j]? = some y→okPair lt ops M (k+i) (k+j) x y=true
 | [],k,_,i,x,hx=>by simp at hx
 |x::l,k,h,i,y,hy=>by
  simp only [okFrom,bA] at h
  obtain ⟨⟨⟨⟨⟨h1,h2⟩,h3⟩,_⟩,h4⟩,h5⟩:=h
  cases i with
  |zero =>
   simp only [List.getElem?_cons_zero,sI] at hy
   subst hy
   refine ⟨⟨by simpa using h1,fun e he hb=>?_,fun t ht=>?_⟩,fun j z hij hz=>?_⟩
   ·have:=List.all_eq_true.1 h2 e (by simpa using he)
    simpa [hb] using this
   ·rw [ht] at h3;simpa using h3
   ·have key:∀ (ys:List Oper) (n:Nat),okPairs lt ops M k x n ys=true→∀ (j:Nat) z,ys[j]? = some z→okPair lt ops M k (n+j) x z=true:=by
     intro ys
     induction ys with
     |nil=>intro n _ j z hz;simp at hz
     |cons w ys ih =>
      intro n hn j z hz
      simp only [okPairs,bA] at hn
      cases j with
      |zero=>simp only [List.getElem?_cons_zero,sI] at hz;subst hz;exact hn.1
      |succ j =>
       have:=ih (n+1) hn.2 j z (by simpa using hz)
       rw [show n+(j+1)=n+1+j from by omega]
       exact this
    cases j with
    |zero=>omega
    |succ j =>
     have:=key l (k+1) h4 j z (by simpa using hz)
     rw [show k+(j+1)=k+1+j from by omega]
     exact this
  |succ i =>
   obtain ⟨h6,h7⟩:=okFrom_at h5 i y (by simpa using hy)
   rw [show k+(i+1)=k+1+i from by omega]
   refine ⟨h6,fun j z hij hz=>?_⟩
   cases j with
   |zero=>omega
   |succ j =>
    have:=h7 j z (by omega) (by simpa using hz)
    rw [show k+(j+1)=k+1+j from by omega]
    exact this
structure DrawSpec (ops:Array Oper) (M:List Nat):Prop where
 at_:∀ (i:Nat) x,ops[i]? = some x→OkAt ops M i x
 pair:∀ (i j:Nat) x y,ops[i]? = some x→ops[j]? = some y→i<j→okPair true ops M i j x y=true
theorem okPair_late {lt:Bool} {ops:Array Oper} {M:List Nat} {i j:Nat} {x y:Oper} (h:okPair lt ops M i j x y=true):okPair true ops M i j x y=true:=by
 cases lt
 ·unfold okPair at h ⊢
  simp only [fA,Bool.or_false,tA] at h ⊢
  simp only [bA,Bool.or_eq_true] at h ⊢
  exact ⟨h.1,.inl h.2⟩
 ·exact h
theorem okDraw_spec {lt:Bool} {ops:Array Oper} (h:okDraw lt ops=true):DrawSpec ops (masks ops.toList []):=by
 have key:=okFrom_at h
 refine ⟨fun i x hx=>?_,fun i j x y hx hy hij=>?_⟩
 ·have:=(key i x (by simpa using hx)).1
  rwa [Nat.zero_add] at this
 ·have:=(key i x (by simpa using hx)).2 j y hij (by simpa using hy)
  rw [Nat.zero_add,Nat.zero_add] at this
  exact okPair_late this
def Clo (ops:Array Oper) (listed:Array Bool):Prop:=∀ (j:Nat) o,ops[j]? = some o→listed.getD j false=true→∀ e∈o.after,Region.binds .any e=true→listed.getD e.on false=true
theorem rch_listed {ops:Array Oper} {M:List Nat} (hM:DrawSpec ops M) {listed:Array Bool} (hc:Clo ops listed):∀ (j:Nat) o,ops[j]? = some o→(∀ e∈o.after,Region.binds .any e=true→listed.getD e.on false=true)→∀ i,Nat.testBit (M.getD j 0) i=true→listed.getD i false=true:=by
 intro j
 induction j using Nat.strongRecOn with
 |_ j ih =>
  intro o ho hdeps i hi
  rw [(hM.at_ j o ho).mask] at hi
  obtain ⟨e,he,hb,h⟩:=maskOf_bit hi
  have hl:=hdeps e he hb
  rcases h with h|h
  ·rw [← h];exact hl
  ·have hlt:=(hM.at_ j o ho).back e he hb
   have hj:j<ops.size:=(Array.getElem?_eq_some_iff.1 ho).1
   have ho':ops[e.on]? = some ops[e.on]:=Array.getElem?_eq_getElem (by omega)
   exact ih e.on hlt _ ho' (hc e.on _ ho' hl) i h
theorem rch_of_listed {ops:Array Oper} {M:List Nat} (hM:DrawSpec ops M) {listed:Array Bool} (hc:Clo ops listed) {j:Nat} {o:Oper} (ho:ops[j]? = some o) (hj:listed.getD j false=true) {i:Nat} (hi:Nat.testBit (M.getD j 0) i=true):listed.getD i false=true :=
 rch_listed hM hc j o ho (hc j o ho hj) i hi
def left (listed:Array Bool):Nat→Nat
 |0=>0
 |n+1=>(if listed.getD n true=false then 1 else 0)+left listed n
theorem left_zero {listed:Array Bool}:∀ {n:Nat},left listed n=0→∀ i,i<n→listed.getD i true=true
 |0,_,i,h=>by omega
 |n+1,h,i,hi=>by
  simp only [left] at h
  by_cases hn:i=n
  ·subst hn
   cases hx:listed.getD i true
   ·rw [hx] at h;simp at h
   ·rfl
  ·exact left_zero (n:=n) (by omega) i (by omega)
theorem left_set {listed:Array Bool} {j:Nat} (hj:listed.getD j true=false):∀ (n:Nat),left (listed.setIfInBounds j true) n+(if j<n then 1 else 0)=left listed n
 |0=>by simp [left]
 |n+1=>by
  have ih:=left_set hj n
  simp only [left]
  by_cases hjn:j=n
  ·subst hjn
   have hlt:j<listed.size:=by
    rcases Nat.lt_or_ge j listed.size with h|h
    ·exact h
    ·simp [Array.getElem?_eq_none h] at hj
   have e1:(listed.setIfInBounds j true).getD j true=true:=by simp [hlt]
   rw [e1,hj]
   simp only [Nat.lt_irrefl,if_false,Nat.add_zero] at ih
   simp only [Nat.lt_succ_self,if_true,Bool.true_eq_false,if_false]
   omega
  ·rw [getD_set_ne true hjn]
   by_cases h1:j<n
   ·simp only [h1,if_true] at ih
    rw [if_pos (show j<n+1 by omega)]
    omega
   ·simp only [h1,if_false] at ih
    rw [if_neg (show ¬ j<n+1 by omega)]
    omega
def Gd (ops:Array Oper) (o:Oper) (σ:St) (b:Bool):Prop :=
 match o.guard with
 |none=>b=true
 |some (j,want)=>∃ t,(ops[j]?).bind (·.dst)=some t∧((∃ c,σ.get t=.bool c∧b=(c==want))∨(σ.get t=.tup []∧b=false))
def StepR (E:Env) (ops:Array Oper) (nm:Nat) (o:Oper) (σ:St) (v:V) (es:List Entry):Prop :=
 (Gd ops o σ true∧aliveB σ o=true∧OpDR E nm o σ v es∧deadN σ.mem nm es.length=true∧es.length<64∧(o.dst.isSome=true∨es=[]))∨(Gd ops o σ false∧v=.tup []∧es=[])
theorem mix_congr:∀ (rs:List Res) (sel sel':Nat→Bool) (σ:St),(∀ i,i<rs.length→sel i=sel' i)→mix sel rs σ=mix sel' rs σ
 | [],_,_,_,_=>rfl
 |x::rs,sel,sel',σ,h=>by
  simp only [mix]
  rw [h 0 (by simp)]
  exact mix_congr rs _ _ _ fun i hi=>h (i+1) (by simpa using hi)
theorem set_self {σ:St} {t:Nat} {v:V} (h:σ.get t=v):σ.set t v=σ:=by
 unfold St.set
 have:σ.fr.set t v=σ.fr:=by
  by_cases ht:t<σ.fr.length
  ·have:σ.fr[t]=v:=by
    rw [← h];simp [St.get,List.getD_eq_getElem?_getD,ht]
   rw [← this]
   exact List.set_getElem_self ht
  ·exact List.set_eq_of_length_le (by omega)
 rw [this]
section
variable {E:Env} {R:Type} {r:R} {H:Handler R} {d:Nat} {ops:Array Oper} {K:St→Option R}
theorem evDOp_split {o:Oper} {σ:St} {K':St→Option R} (hb:isBar o=false) (he:evDOp E H d o σ K'=some r) :
  ∃ v es,aliveB σ o=true∧OpDR E (name d (o.dst.getD 4095)) o σ v es∧deadN σ.mem (name d (o.dst.getD 4095)) es.length=true∧es.length<64∧(o.dst.isSome=true∨es=[])∧K' (σ.apD (name d (o.dst.getD 4095)) o.dst v es)=some r:=by
 unfold evDOp at he
 rw [hb] at he
 obtain ⟨h1,h2⟩:=cond_some he
 obtain ⟨v,es,h3,h4⟩:=opD_some h2
 obtain ⟨h5,h6⟩:=cond_some h4
 simp only [bA,Nat.blt_eq,Bool.or_eq_true,List.isEmpty_iff] at h5
 exact ⟨v,es,h1,h3,h5.1,h5.2.1,h5.2.2,h6⟩
theorem evDs_split:∀ (l:List Oper) (σ:St),evDs E H d ops l σ K=some r→∃ rs:List Res,rs.length≤l.length ∧
  (∀ (i:Nat) x,rs[i]? = some x→∃ o,l[i]? = some o∧isBar o=false∧x.dst=o.dst∧x.nm=name d (o.dst.getD 4095)∧StepR E ops x.nm o (mix (fun k=>decide (k<i)) rs σ) x.v x.es) ∧
  ((
   rs.length=l.length∧K (mix (fun _=>true) rs σ)=some r) ∨
   ∃ o,l[rs.length]? = some o∧isBar o=true∧Gd ops o (mix (fun _=>true) rs σ) true∧evOp E H d o (mix (fun _=>true) rs σ) (fun σ=>evDs E H d ops (l.drop (rs.length+1)) σ K)=some r)
 | [],σ,he=>⟨[],Nat.le_refl _,fun i x h=>by simp at h,.inl ⟨rfl,he⟩⟩
 |o::l,σ,he=>by
  have wanted:Gd ops o σ true→evDOp E H d o σ (fun σ=>evDs E H d ops l σ K)=some r→∃ rs:List Res,rs.length≤(o::l).length ∧
    (∀ (i:Nat) x,rs[i]? = some x→∃ o',(o::l)[i]? = some o'∧isBar o'=false∧x.dst=o'.dst∧x.nm=name d (o'.dst.getD 4095)∧StepR E ops x.nm o' (mix (fun k=>decide (k<i)) rs σ) x.v x.es) ∧
    ((
     rs.length=(o::l).length∧K (mix (fun _=>true) rs σ)=some r) ∨
     ∃ o',(o::l)[rs.length]? = some o'∧isBar o'=true∧Gd ops o' (mix (fun _=>true) rs σ) true∧evOp E H d o' (mix (fun _=>true) rs σ) (fun σ=>evDs E H d ops ((o::l).drop (rs.length+1)) σ K)=some r):=by
   intro hg he
   cases hb:isBar o with
   |true =>
    unfold evDOp at he
    rw [hb] at he
    exact ⟨[],by simp,fun i x h=>by simp at h,.inr ⟨o,rfl,hb,hg,he⟩⟩
   |false =>
    obtain ⟨v,es,h1,h2,h3,h4,h5,h6⟩:=evDOp_split hb he
    obtain ⟨rs,hl,hp,ht⟩:=evDs_split l _ h6
    refine ⟨⟨o.dst,name d (o.dst.getD 4095),v,es⟩::rs,by simpa using hl,fun i x hx=>?_,?_⟩
    ·cases i with
     |zero =>
      simp only [List.getElem?_cons_zero,sI] at hx
      subst hx
      refine ⟨o,rfl,hb,rfl,rfl,.inl ?_⟩
      rw [mix_none _ _ _ (fun _ _=>by simp)]
      exact ⟨hg,h1,h2,h3,h4,h5⟩
     |succ i =>
      obtain ⟨o',ho',hb',e1,e2,hs⟩:=hp i x (by simpa using hx)
      refine ⟨o',by simpa using ho',hb',e1,e2,?_⟩
      have:mix (fun k=>decide (k<i+1)) (⟨o.dst,name d (o.dst.getD 4095),v,es⟩::rs) σ=mix (fun k=>decide (k<i)) rs (σ.apD (name d (o.dst.getD 4095)) o.dst v es):=by
       simp only [mix,Nat.add_lt_add_iff_right,Nat.zero_lt_succ,decide_true,cond_true]
       rfl
      rw [this]
      exact hs
    ·rcases ht with ⟨h7,h8⟩|⟨o',h7,h8,h9,h10⟩
     ·exact .inl ⟨by simpa using h7,h8⟩
     ·exact .inr ⟨o',by simpa using h7,h8,h9,h10⟩
  have unwanted:Gd ops o σ false→isBar o=false→evDs E H d ops l (σ.put o.dst (.tup [])) K=some r→∃ rs:List Res,rs.length≤(o::l).length ∧
    (∀ (i:Nat) x,rs[i]? = some x→∃ o',(o::l)[i]? = some o'∧isBar o'=false∧x.dst=o'.dst∧x.nm=name d (o'.dst.getD 4095)∧StepR E ops x.nm o' (mix (fun k=>decide (k<i)) rs σ) x.v x.es) ∧
    ((
     rs.length=(o::l).length∧K (mix (fun _=>true) rs σ)=some r) ∨
     ∃ o',(o::l)[rs.length]? = some o'∧isBar o'=true∧Gd ops o' (mix (fun _=>true) rs σ) true∧evOp E H d o' (mix (fun _=>true) rs σ) (fun σ=>evDs E H d ops ((o::l).drop (rs.length+1)) σ K)=some r):=by
   intro hg hb he
   obtain ⟨rs,hl,hp,ht⟩:=evDs_split l _ he
   refine ⟨⟨o.dst,name d (o.dst.getD 4095),.tup [],[]⟩::rs,by simpa using hl,fun i x hx=>?_,?_⟩
   ·cases i with
    |zero =>
     simp only [List.getElem?_cons_zero,sI] at hx
     subst hx
     refine ⟨o,rfl,hb,rfl,rfl,.inr ?_⟩
     rw [mix_none _ _ _ (fun _ _=>by simp)]
     exact ⟨hg,rfl,rfl⟩
    |succ i =>
     obtain ⟨o',ho',hb',e1,e2,hs⟩:=hp i x (by simpa using hx)
     refine ⟨o',by simpa using ho',hb',e1,e2,?_⟩
     have:mix (fun k=>decide (k<i+1)) (⟨o.dst,name d (o.dst.getD 4095),.tup [],[]⟩::rs) σ=mix (fun k=>decide (k<i)) rs (σ.put o.dst (.tup [])):=by
      simp only [mix,Nat.add_lt_add_iff_right,Nat.zero_lt_succ,decide_true,cond_true]
      rfl
     rw [this]
     exact hs
   ·rcases ht with ⟨h7,h8⟩|⟨o',h7,h8,h9,h10⟩
    ·exact .inl ⟨by simpa using h7,h8⟩
    ·exact .inr ⟨o',by simpa using h7,h8,h9,h10⟩
  simp only [evDs] at he
  split at he
  ·rename_i hg
   exact wanted (by simp [Gd,hg]) he
  ·rename_i j want hg
   split at he
   ·rename_i t ht
    split at he
    ·rename_i b hb
     have hset:=set_self hb
     cases b
     ·simp only [cond_false] at he
      rw [hset] at he
      cases want
      ·simp only [cond_false] at he
       exact wanted (by simp only [Gd,hg];exact ⟨t,ht,.inl ⟨false,hb,rfl⟩⟩) he
      ·simp only [cond_true] at he
       cases hbar:isBar o with
       |true=>rw [hbar] at he;cases he
       |false =>
        rw [hbar] at he
        exact unwanted (by simp only [Gd,hg];exact ⟨t,ht,.inl ⟨false,hb,rfl⟩⟩) hbar he
     ·simp only [cond_true] at he
      rw [hset] at he
      cases want
      ·simp only [cond_false] at he
       cases hbar:isBar o with
       |true=>rw [hbar] at he;cases he
       |false =>
        rw [hbar] at he
        exact unwanted (by simp only [Gd,hg];exact ⟨t,ht,.inl ⟨true,hb,rfl⟩⟩) hbar he
      ·simp only [cond_true] at he
       exact wanted (by simp only [Gd,hg];exact ⟨t,ht,.inl ⟨true,hb,rfl⟩⟩) he
    ·rename_i hb
     cases hbar:isBar o with
     |true=>rw [hbar] at he;cases he
     |false =>
      rw [hbar] at he
      exact unwanted (by simp only [Gd,hg];exact ⟨t,ht,.inr ⟨hb,trivial⟩⟩) hbar he
    ·cases he
   ·cases he
end
open Go.RowKit
theorem name_disj {d t t':Nat} {n n':Nat} {e:Nat} (ht:t ≠ t') (hn:n<64) (hn':n'<64) (h:name d t≤e∧e<name d t+n) (h':name d t'≤e∧e<name d t'+n'):False:=by
 unfold name at h h'
 omega
theorem deadN_spec {m:List (Nat×Entry)}:∀ {n k:Nat},deadN m k n=true→∀ e,k≤e→e<k+n→look m e=none
 |0,k,_,e,h1,h2=>by omega
 |n+1,k,h,e,h1,h2=>by
  simp only [deadN,bA,Option.isNone_iff_eq_none] at h
  by_cases hk:k=e
  ·subst hk;exact h.1
  ·exact deadN_spec h.2 e (by omega) (by omega)
theorem deadN_of {m:List (Nat×Entry)}:∀ {n k:Nat},(∀ e,k≤e→e<k+n→look m e=none)→deadN m k n=true
 |0,_,_=>rfl
 |n+1,k,h=>by
  simp only [deadN,bA,Option.isNone_iff_eq_none]
  exact ⟨h k (Nat.le_refl _) (by omega),deadN_of fun e h1 h2=>h e (by omega) (by omega)⟩
section
variable {P:Program} {E:Env} {C:Frm} {β:Nat→Option Loc} {σ τ:St} {a:Act} {as:List (Array Value)} {w:World} {o:Oper} {R:Type} {r:R} {ops:Array Oper}
theorem Gd_wanted {b:Bool} (h:Sim C β σ (a.tmps::as) w) (hg:Gd ops o σ b):Region.wanted o (yielded ops a.tmps)=b:=by
 unfold Gd at hg
 cases hgd:o.guard with
 |none=>rw [hgd] at hg;simp only [] at hg;subst hg;simp [Region.wanted,hgd]
 |some p =>
  obtain ⟨j,want⟩:=p
  rw [hgd] at hg
  obtain ⟨t,h1,⟨c,h2,rfl⟩|⟨h2,rfl⟩⟩:=hg
  rotate_left
  ·have hv:=h.get t
   rw [h2] at hv
   obtain ⟨ys,hx,_⟩:=hv
   have hv:a.tmps.getD t undef=.tuple ys:=hx
   have hy:yielded ops a.tmps j=none:=by
    simp only [yielded,h1,Option.bind_some]
    rw [Array.getD_eq_getD_getElem?] at hv
    cases hx:a.tmps[t]? with
    |none=>rfl
    |some x=>rw [hx] at hv;simp at hv;subst hv;rfl
   simp [Region.wanted,hgd,hy]
  have hv:=h.get t
  rw [h2] at hv
  have hv:a.tmps.getD t undef=.bool c:=hv
  have hy:yielded ops a.tmps j=some c:=by simp [yielded,h1,getD_bool hv]
  cases c <;> cases want <;> simp [Region.wanted,hgd,hy]
theorem Gd_congr {b:Bool} (h:∀ t,t∈o.looksAt ops→σ.get t=τ.get t) (hg:Gd ops o σ b):Gd ops o τ b:=by
 unfold Gd at hg ⊢
 cases hgd:o.guard with
 |none=>rw [hgd] at hg;exact hg
 |some p =>
  obtain ⟨j,want⟩:=p
  rw [hgd] at hg
  obtain ⟨t,h1,h2⟩:=hg
  have e:σ.get t=τ.get t:=by
   refine h t ?_
   unfold Oper.looksAt
   rw [hgd]
   simp [h1]
  rw [e] at h2
  exact ⟨t,h1,h2⟩
theorem eval_congr {x:Operand} (hx:x∈o.op.operands.toList) (h:∀ t,t∈o.looksAt ops→σ.get t=τ.get t):σ.eval x=τ.eval x:=by
 cases x with
 |tmp t =>
  refine h t ?_
  unfold Oper.looksAt
  exact List.mem_append_left _ (List.mem_filterMap.2 ⟨.tmp t,hx,rfl⟩)
 |_=>rfl
theorem set_bool (h:Sim C β σ (a.tmps::as) w) {t:Nat} {b:Bool} (hb:σ.get t=.bool b):Sim C β (σ.set t (.bool b)) (a.tmps::as) w:=by
 have hv:=h.get t
 rw [hb] at hv
 have hv:a.tmps.getD t undef=.bool b:=hv
 have:=h.set t (v:=.bool b) (x:=.bool b) rfl
 have e:a.tmps.setIfInBounds t (.bool b)=a.tmps:=by
  have hx:=getD_bool hv
  apply Array.ext_getElem?
  intro i
  rw [Array.getElem?_setIfInBounds]
  by_cases hti:t=i
  ·subst hti
   have hlt:=(Array.getElem?_eq_some_iff.1 hx).1
   simp only [if_true,hlt,hx]
  ·simp [hti]
 rw [e] at this
 exact this
theorem bar_mv {o:Oper} (h:isBar o=true):isMv o.op=false:=by
 cases hop:o.op <;> simp only [isMv] <;> (unfold isBar at h;rw [hop] at h;simp at h)
theorem evStep_move (hT:TtOk P E.tt) {d:Nat} {H:Handler R} (hm:isMv o.op=true) {K:St→Option R} (h:Sim C β σ (a.tmps::as) w) (he:evStep E H d ops o σ K=some r) :
  ∃ v σ',Yields P ops o v a∧Sim C β σ' ((a.put o.dst v).tmps::as) w∧K σ'=some r:=by
 have skip:∀ σ1,Gd ops o σ false→Sim C β σ1 (a.tmps::as) w→K (σ1.put o.dst (.tup []))=some r→∃ v σ',Yields P ops o v a∧Sim C β σ' ((a.put o.dst v).tmps::as) w∧K σ'=some r :=
  fun σ1 hg h1 he1=>⟨undef,_,.inr ⟨Gd_wanted h hg,rfl⟩,h1.put (a:=a) o.dst (v:=.tup []) (x:=undef) ⟨#[],rfl,trivial⟩,he1⟩
 have run:∀ σ1,Gd ops o σ true→Sim C β σ1 (a.tmps::as) w→evOp E H d o σ1 K=some r→∃ v σ',Yields P ops o v a∧Sim C β σ' ((a.put o.dst v).tmps::as) w∧K σ'=some r:=by
  intro σ1 hg h1 he1
  have key:∃ y v,(∀ w,(execOp a.eval o).run P w=.ok (.value y) w)∧V3 (cx C β σ1 w) v y∧K (σ1.put o.dst v)=some r:=by
   unfold evOp at he1
   cases hop:o.op <;> rw [hop] at he1 hm <;> simp only [isMv,Bool.false_eq_true] at hm
   case move x =>
    simp only [op1,pureA,chks] at he1
    exact ⟨a.eval x,_,fun w=>by simp only [execOp,hop];rfl,h1.eval x,he1⟩
   case pick c x y =>
    simp only [op1] at he1
    cases hc:σ1.eval c with
    |bool b =>
     rw [hc] at he1
     simp only [pureA,chks] at he1
     have g1:=h1.eval c
     rw [hc] at g1
     have g1:a.eval c=.bool b:=g1
     refine ⟨if b then a.eval x else a.eval y,_,fun w=>by simp only [execOp,hop,g1,Sem.run_bind,run_asBool,Result.andThen_ok,Sem.run_pure],?_,he1⟩
     cases b
     ·exact h1.eval y
     ·exact h1.eval x
    |_=>rw [hc] at he1;cases he1
   case extract x i =>
    simp only [op1] at he1
    cases hv:σ1.eval x with
    |tup vs =>
     rw [hv] at he1
     simp only [] at he1
     cases hi:vs[i]? with
     |none=>rw [hi] at he1;cases he1
     |some v =>
      rw [hi] at he1
      simp only [pureA,chks] at he1
      have hx:=h1.eval x
      rw [hv] at hx
      obtain ⟨ys,hx,ha⟩:=hx
      obtain ⟨y,hy,h2⟩:=ha.get hi
      simp only [Array.getElem?_toList] at hy
      exact ⟨y,v,fun w=>by simp only [execOp,hop,hx,Instr.extract,hy,Sem.run_bind,Sem.run_pure,Result.andThen_ok],V3.of2 h2,he1⟩
    |_=>rw [hv] at he1;cases he1
   all_goals
    simp only [] at he1
    split at he1
    ·rename_i bs v σ' hA
     obtain ⟨hbs,hK⟩:=chks_some he1
     obtain ⟨rfl,y,hy,hv⟩:=op1_still hT h1 (by rw [hop];exact hA) hbs (by rw [hop];rfl)
     exact ⟨y,v,hy,hv,hK⟩
    ·cases he1
  obtain ⟨y,v,hrun,hv,hK⟩:=key
  exact ⟨y,_,.inl ⟨Gd_wanted h hg,hrun⟩,h1.put (a:=a) o.dst hv,hK⟩
 unfold evStep at he
 split at he
 ·rename_i hg
  exact run σ (by unfold Gd;rw [hg]) h he
 ·rename_i j want hg
  split at he
  ·rename_i t ht
   split at he
   ·rename_i b hb
    have hG:Gd ops o σ (b==want):=by
     unfold Gd
     rw [hg]
     exact ⟨t,ht,.inl ⟨b,hb,rfl⟩⟩
    have hset:=set_bool h hb
    cases b
    ·simp only [cond_false] at he
     cases want
     ·exact run _ hG hset he
     ·exact skip _ hG hset he
    ·simp only [cond_true] at he
     cases want
     ·exact skip _ hG hset he
     ·exact run _ hG hset he
   ·rename_i hb
    have hG:Gd ops o σ false:=by
     unfold Gd
     rw [hg]
     exact ⟨t,ht,.inr ⟨hb,rfl⟩⟩
    exact skip _ hG h he
   ·cases he
  ·cases he
theorem pure_move (hT:TtOk P E.tt) (hm:isMv o.op=true) (hg:o.guard=none) (h:Sim C β σ (a.tmps::as) w) {d:Nat} {bs:List Bool} {v:V} (hA:op1 E (name d (o.dst.getD 4095)) o.type o.op σ=some (bs,v,σ)) (hbs:∀ b∈bs,b=true) :
  ∃ z,Yields P ops o z a∧Sim C β (σ.put o.dst v) ((a.put o.dst z).tmps::as) w:=by
 classical
 let K:St→Option Unit:=fun σ'=>if σ'=σ.put o.dst v then some () else none
 have hK:K (σ.put o.dst v)=some ():=if_pos rfl
 have hc:∀ bs:List Bool,(∀ b∈bs,b=true)→chks bs (K (σ.put o.dst v))=some ():=by
  intro bs
  induction bs with
  |nil=>intro _;exact hK
  |cons b bs ih =>
   intro hb
   rw [List.forall_mem_cons] at hb
   show chk b (chks bs _)=_
   rw [hb.1,ih hb.2]
   rfl
 have he:evStep E (fun _ _ _ _ _=>none) d ops o σ K=some ():=by
  unfold evStep
  rw [hg]
  show evOp E _ d o σ K=some ()
  unfold evOp
  cases hop:o.op <;> rw [hop] at hA hm <;> simp only [isMv,Bool.false_eq_true] at hm <;> (dsimp only;rw [hA];exact hc bs hbs)
 obtain ⟨z,σ',h1,h2,h3⟩:=evStep_move hT hm h he
 have:σ'=σ.put o.dst v:=by
  by_cases hh:σ'=σ.put o.dst v
  ·exact hh
  ·rw [show K σ'=none from if_neg hh] at h3;cases h3
 subst this
 exact ⟨z,h1,h2⟩
theorem draw_seg (hT:TtOk P E.tt) (hS:SumsOk P E) {H:Handler R} (hH:HOk P C H r) {d:Nat} {K:St→Option R} {Q:Exit→Act→World→Prop} (hp:∀ c a w,¬ Q (.panic c) a w) {M:List Nat} (hM:DrawSpec ops M)
  (hQ:∀ (a':Act) w' β' σ',a'.defers=[]→Sim C β' σ' (a'.tmps::as) w'→K σ'=some r→Q .normal a' w') :
  ∀ (n p:Nat) (l:List Oper),l.length=n→(∀ i:Nat,l[i]? = ops[p+i]?)→p+l.length=ops.size→∀ (σ:St) (β:Nat→Option Loc) (a:Act) (w:World) (listed:Array Bool) (fuel:Nat),
   Sim C β σ (a.tmps::as) w→a.defers=[]→evDs E H d ops l σ K=some r→listed.size=ops.size→(∀ i,i<ops.size→listed.getD i false=decide (i<p))→left listed ops.size≤fuel→wpAny P .any ops Q fuel listed a w:=by
 intro n
 induction n using Nat.strongRecOn with
 |_ n ihn =>
 intro p l hln hl hpl σ β a w listed fuel hsim hd he hsz hlist hfuel
 obtain ⟨rs,hrl,hpath,htail⟩:=evDs_split l σ he
 have hop:∀ (i:Nat) x,rs[i]? = some x→∃ o,ops[p+i]? = some o∧l[i]? = some o∧isBar o=false∧x.dst=o.dst∧x.nm=name d (o.dst.getD 4095)∧StepR E ops x.nm o (mix (fun k=>decide (k<i)) rs σ) x.v x.es:=by
  intro i x hx
  obtain ⟨o,h1,h2,h3,h4,h5⟩:=hpath i x hx
  exact ⟨o,by rw [← hl];exact h1,h1,h2,h3,h4,h5⟩
 have hdst:∀ (i j:Nat) x y,rs[i]? = some x→rs[j]? = some y→i ≠ j→∀ t,x.dst=some t→y.dst ≠ some t:=by
  have key:∀ (i j:Nat) x y,rs[i]? = some x→rs[j]? = some y→i<j→∀ t,x.dst=some t→y.dst ≠ some t:=by
   intro i j x y hx hy hij t ht hy'
   obtain ⟨o,ho,_,_,e1,_⟩:=hop i x hx
   obtain ⟨o',ho',_,_,e2,_⟩:=hop j y hy
   have:=hM.pair (p+i) (p+j) o o' ho ho' (by omega)
   unfold okPair at this
   rw [← e1,ht,← e2,hy'] at this
   simp at this
  intro i j x y hx hy hij t ht hy'
  rcases Nat.lt_or_gt_of_ne hij with h|h
  ·exact key i j x y hx hy h t ht hy'
  ·exact key j i y x hy hx h t hy' ht
 have hes:∀ (i:Nat) x,rs[i]? = some x→x.es.length<64∧(∀ e,Names x e→∃ t,x.dst=some t∧t<4095∧x.nm=name d t):=by
  intro i x hx
  obtain ⟨o,ho,_,_,e1,e2,hs⟩:=hop i x hx
  rcases hs with ⟨_,_,_,_,h4,h5⟩|⟨_,_,h3⟩
  ·refine ⟨h4,fun e hn=>?_⟩
   rcases h5 with h5|h5
   ·obtain ⟨t,ht⟩:=Option.isSome_iff_exists.1 h5
    exact ⟨t,by rw [e1,ht],(hM.at_ _ o ho).dst t ht,by rw [e2,ht];rfl⟩
   ·have:=hn.2;have:=hn.1;rw [h5] at *;simp at *;omega
  ·refine ⟨by rw [h3];simp,fun e hn=>?_⟩
   have:=hn.2;have:=hn.1;rw [h3] at *;simp at *;omega
 have hnames:∀ (i j:Nat) x y,rs[i]? = some x→rs[j]? = some y→i ≠ j→∀ e,Names x e→¬ Names y e:=by
  intro i j x y hx hy hij e hn hn'
  obtain ⟨h1,h2⟩:=hes i x hx
  obtain ⟨h3,h4⟩:=hes j y hy
  obtain ⟨t,ht,_,hnm⟩:=h2 e hn
  obtain ⟨t',ht',_,hnm'⟩:=h4 e hn'
  have:t ≠ t':=fun h=>hdst i j x y hx hy hij t ht (by rw [ht',h])
  unfold Names at hn hn'
  rw [hnm] at hn
  rw [hnm'] at hn'
  exact name_disj this h1 h3 hn hn'
 have hdead:∀ (i:Nat) x,rs[i]? = some x→∀ e,Names x e→look (mix (fun k=>decide (k<i)) rs σ).mem e=none:=by
  intro i x hx e hn
  obtain ⟨o,ho,_,_,e1,e2,hs⟩:=hop i x hx
  rcases hs with ⟨_,_,_,h3,_,_⟩|⟨_,_,h3⟩
  ·exact deadN_spec h3 e hn.1 hn.2
  ·have:=hn.2;have:=hn.1;rw [h3] at *;simp at *;omega
 have hdead0:∀ (i:Nat) x,rs[i]? = some x→∀ e,Names x e→look σ.mem e=none:=by
  intro i x hx e hn
  cases hE:look σ.mem e with
  |none=>rfl
  |some E1 =>
   have h1:=mix_alive e rs (fun _=>false) (fun k=>decide (k<i)) σ σ (fun h=>h) (fun _ h=>by cases h) (by rw [mix_none _ _ _ (fun _ _=>rfl),hE];rfl)
   rw [hdead i x hx e hn] at h1
   cases h1
 have inner:∀ (fuel:Nat) (listed:Array Bool) (β:Nat→Option Loc) (a:Act) (w:World),listed.size=ops.size→(∀ i,i<ops.size→listed.getD i false=true→i<p+rs.length)→(∀ i,i<p→listed.getD i false=true)→Clo ops listed →
   Sim C β (mix (fun i=>listed.getD (p+i) false) rs σ) (a.tmps::as) w→a.defers=[]→left listed ops.size≤fuel→wpAny P .any ops Q fuel listed a w:=by
  intro fuel
  induction fuel with
  |zero =>
   intro listed β a w hsz hin hpre hclo hsim hd hfuel
   have hall:=left_zero (n:=ops.size) (Nat.le_zero.1 hfuel)
   have hall':∀ i,i<ops.size→listed.getD i false=true:=by
    intro i hi
    have:=hall i hi
    have hlt:i<listed.size:=by rw [hsz];exact hi
    simpa [hlt] using this
   have hready:Region.ready .any ops listed=[]:=by
    cases hr:Region.ready .any ops listed with
    |nil=>rfl
    |cons j js =>
     have:j∈Region.ready .any ops listed:=by rw [hr];simp
     obtain ⟨h1,o,ho,_⟩:=mem_ready.1 this
     rw [hall j (Array.getElem?_eq_some_iff.1 ho).1] at h1
     cases h1
   refine ⟨hready,?_⟩
   rcases htail with ⟨h1,h2⟩|⟨o,ho,h2,_⟩
   ·refine hQ a w β _ hd hsim ?_
    rw [mix_congr rs _ (fun _=>true) σ fun i hi=>hall' (p+i) (by omega)]
    exact h2
   ·have hq:rs.length<l.length:=(List.getElem?_eq_some_iff.1 ho).1
    have:=hin (p+rs.length) (by omega) (hall' _ (by omega))
    omega
  |succ fuel ih =>
   intro listed β a w hsz hin hpre hclo hsim hd hfuel
   have hun:∀ i,i<ops.size→(listed.getD i true=false↔listed.getD i false=false):=by
    intro i hi
    have hlt:i<listed.size:=by rw [hsz];exact hi
    simp [hlt]
   by_cases hE:∃ i,i<rs.length∧listed.getD (p+i) false=false∧∃ o,ops[p+i]? = some o∧isMv o.op=true∧o.guard=none∧Region.noSelect ops=true∧Region.free .any ops listed (p+i)=true∧(p+i)∈Region.ready .any ops listed
   ·obtain ⟨i,hi,hselj0,oo,hoo,hmv,hgn,hns,hfree,hjr⟩:=hE
    obtain ⟨hjun,o,ho,hdeps⟩:=mem_ready.1 hjr
    have:oo=o:=by rw [ho] at hoo;injection hoo with hoo;exact hoo.symm
    subst this
    have hjs:p+i<ops.size:=(Array.getElem?_eq_some_iff.1 ho).1
    have hjf:listed.getD (p+i) false=false:=hselj0
    have hrch:∀ k,Nat.testBit (M.getD (p+i) 0) k=true→listed.getD k false=true:=rch_listed hM hclo (p+i) oo ho hdeps
    have hset1:∀ k,k<ops.size→(listed.setIfInBounds (p+i) true).getD k false=(listed.getD k false || k==p+i):=by
     intro k hk
     by_cases hij:k=p+i
     ·subst hij
      have:p+i<listed.size:=by rw [hsz];exact hk
      simp [this]
     ·rw [getD_set_ne false (Ne.symm hij)]
      simp [hij]
    have hclo':Clo ops (listed.setIfInBounds (p+i) true):=by
     intro k o' ho' hk e he hb
     have his:k<ops.size:=(Array.getElem?_eq_some_iff.1 ho').1
     rw [hset1 k his,Bool.or_eq_true,beq_iff_eq] at hk
     refine getD_set_true ?_
     rcases hk with hk|rfl
     ·exact hclo k o' ho' hk e he hb
     ·rw [ho] at ho'
      injection ho' with ho'
      subst ho'
      exact hdeps e he hb
    have hleft':left (listed.setIfInBounds (p+i) true) ops.size≤fuel:=by
     have:=left_set hjun ops.size
     rw [if_pos hjs] at this
     omega
    have hx:rs[i]? = some rs[i]:=gE hi
    obtain ⟨o',ho',_,hbar,e1,e2,hstep⟩:=hop i _ hx
    have:o'=oo:=by rw [ho] at ho';injection ho' with ho';exact ho'.symm
    subst this
    have hselj:listed.getD (p+i) false=false:=hjf
    have hslot:∀ t,t∈o'.looksAt ops→(mix (fun k=>decide (k<i)) rs σ).get t=(mix (fun k=>listed.getD (p+k) false) rs σ).get t:=by
     intro t ht
     refine mix_get_congr t rs _ _ σ σ rfl rfl fun k y hy hyd=>?_
     obtain ⟨o2,ho2,_,_,f1,_⟩:=hop k y hy
     rcases Nat.lt_trichotomy k i with h|h|h
     ·have h3:=hM.pair (p+k) (p+i) o2 o' ho2 ho (by omega)
      unfold okPair at h3
      rw [← f1,hyd] at h3
      simp only [bA,Bool.or_eq_true,Bool.not_eq_true'] at h3
      have h4:Nat.testBit (M.getD (p+i) 0) (p+k)=true:=by
       rcases h3.1.1.2 with h5|h5
       ·rw [List.contains_eq_mem,decide_eq_false_iff_not] at h5;exact absurd ht h5
       ·exact h5
      rw [hrch _ h4]
      simp [h]
     ·subst h
      rw [hselj]
      simp
     ·have h3:=hM.pair (p+i) (p+k) o' o2 ho ho2 (by omega)
      unfold okPair at h3
      rw [← f1,hyd] at h3
      simp only [bA,Bool.or_eq_true,Bool.not_eq_true'] at h3
      have h4:Nat.testBit (M.getD (p+k) 0) (p+i)=true:=by
       rcases h3.1.2 with h5|h5
       ·rw [List.contains_eq_mem,decide_eq_false_iff_not] at h5;exact absurd ht h5
       ·exact h5
      cases hk:listed.getD (p+k) false with
      |false=>exact dF (by omega)
      |true =>
       have:=rch_of_listed hM hclo ho2 hk h4
       rw [hselj] at this
       cases this
    have hnext:∀ (a':Act) w' β',a'.defers=[]→Sim C β' ((mix (fun k=>listed.getD (p+k) false) rs σ).apR rs[i]) (a'.tmps::as) w'→wpAny P .any ops Q fuel (listed.setIfInBounds (p+i) true) a' w':=by
     intro a' w' β' hd' hs'
     refine ih _ β' a' w' (by simpa using hsz) (fun k hk hk2=>?_) (fun k hk=>getD_set_true (hpre k hk)) hclo' ?_ hd' hleft'
     ·rw [hset1 k hk,Bool.or_eq_true,beq_iff_eq] at hk2
      rcases hk2 with hk2|hk2
      ·exact hin k hk hk2
      ·omega
     ·have hmore:=mix_more i rs (fun k=>listed.getD (p+k) false) σ _ hx hselj fun k y hy hki=>⟨fun t ht=>hdst i k _ y hx hy (Ne.symm hki) t ht,fun e hn=>hnames i k _ y hx hy (Ne.symm hki) e hn⟩
      have:=hmore.sim hs'
      rw [mix_congr rs _ (fun k=>(listed.setIfInBounds (p+i) true).getD (p+k) false) σ fun k hk=>by
       rw [hset1 (p+k) (by omega)]
       congr 1
       by_cases hki:k=i
       ·subst hki;simp
       ·rw [beq_eq_false_iff_ne.2 (show p+k ≠ p+i by omega),beq_eq_false_iff_ne.2 hki]] at this
      exact this
    rcases hstep with ⟨hg,hal,hopd,hdn,h64,hsome⟩|⟨hg,hv,hev⟩
    ·have hg':=Gd_congr hslot hg
     have hagr:Agr (mix (fun k=>decide (k<i)) rs σ) (mix (fun k=>listed.getD (p+k) false) rs σ) o'.op:=by
      intro x hxo
      have hev:=eval_congr (ops:=ops) hxo hslot
      refine ⟨hev,fun e he=>?_⟩
      have halive:(look (mix (fun k=>decide (k<i)) rs σ).mem e).isSome=true:=by
       have:=List.all_eq_true.1 hal x hxo
       exact List.all_eq_true.1 this e he
      have halive':(look (mix (fun k=>listed.getD (p+k) false) rs σ).mem e).isSome=true:=by
       rw [hev] at he
       exact refs3_alive (hsim.eval x) he
      refine mix_look_congr e rs _ _ σ σ rfl fun k y hy hyn=>?_
      by_cases hki:k<i
      ·simp only [hki,decide_true]
       cases hk:listed.getD (p+k) false with
       |true=>rfl
       |false =>
        have h1:=mix_look_congr e rs (fun k=>listed.getD (p+k) false) (fun _=>false) σ σ rfl fun k2 y2 hy2 hyn2=>by
         by_cases hkk:k2=k
         ·subst hkk;exact hk
         ·exact absurd hyn (hnames k2 k y2 y hy2 hy hkk e hyn2)
        rw [mix_none _ _ _ (fun _ _=>rfl),hdead0 k y hy e hyn] at h1
        rw [h1] at halive'
        cases halive'
      ·simp only [hki,decide_false]
       have h1:=mix_alive e rs (fun m=>decide (m<i)) (fun m=>decide (m<k)) σ σ (fun h=>h) (fun m hm=>by simp only [dE] at hm ⊢;omega) halive
       rw [hdead k y hy e hyn] at h1
       cases h1
     have hopd':=hopd.congr hagr
     have hnil:rs[i].es=[]∧∃ bs,op1 E rs[i].nm o'.type o'.op (mix (fun k=>listed.getD (p+k) false) rs σ)=some (bs,rs[i].v,mix (fun k=>listed.getD (p+k) false) rs σ)∧∀ b∈bs,b=true:=by
      cases hopd' with
      |pure bs hp h hb he=>exact ⟨he,bs,h,hb⟩
      |_=>simp_all [isMv]
     obtain ⟨hes0,bs,hA,hbs⟩:=hnil
     rw [e2] at hA
     obtain ⟨z,hy,hs'⟩:=pure_move hT hmv hgn hsim hA hbs
     refine wpAny_take ho hns hfree (by simpa using hjr) (fun c a w hq=>absurd hq (hp _ _ _)) hy (hnext _ w β (by rw [put_defers];exact hd) ?_)
     unfold St.apR St.apD
     rw [hes0,e1]
     exact hs'
    ·unfold Gd at hg
     rw [hgn] at hg
     exact absurd (show false=true from hg) (by decide)
   refine ⟨fun hready=>?_,fun j hj=>?_⟩
   ·
    have hall':∀ i,i<ops.size→listed.getD i false=true:=by
     intro i
     induction i using Nat.strongRecOn with
     |_ i ihi =>
      intro hi
      cases hx:listed.getD i false with
      |true=>rfl
      |false =>
       have ho:ops[i]? = some ops[i]:=Array.getElem?_eq_getElem hi
       have:i∈Region.ready .any ops listed:=mem_ready.2 ⟨(hun i hi).2 hx,_,ho,fun e he hb=>by
        have:=(hM.at_ i _ ho).back e he hb
        exact ihi e.on this (by omega)⟩
       rw [hready] at this
       cases this
    rcases htail with ⟨h1,h2⟩|⟨o,ho,h2,_⟩
    ·refine hQ a w β _ hd hsim ?_
     rw [mix_congr rs _ (fun _=>true) σ fun i hi=>hall' (p+i) (by omega)]
     exact h2
    ·have hq:rs.length<l.length:=(List.getElem?_eq_some_iff.1 ho).1
     have:=hin (p+rs.length) (by omega) (hall' _ (by omega))
     omega
   ·obtain ⟨hjun,o,ho,hdeps⟩:=mem_ready.1 hj
    have hjs:j<ops.size:=(Array.getElem?_eq_some_iff.1 ho).1
    have hjf:listed.getD j false=false:=(hun j hjs).1 hjun
    have hpj:p≤j:=by
     rcases Nat.lt_or_ge j p with h|h
     ·rw [hpre j h] at hjf;cases hjf
     ·exact h
    have hrch:∀ i,Nat.testBit (M.getD j 0) i=true→listed.getD i false=true:=rch_listed hM hclo j o ho hdeps
    have hset1:∀ i,i<ops.size→(listed.setIfInBounds j true).getD i false=(listed.getD i false || i==j):=by
     intro i hi
     by_cases hij:i=j
     ·subst hij
      have:i<listed.size:=by rw [hsz];exact hi
      simp [this]
     ·rw [getD_set_ne false (Ne.symm hij)]
      simp [hij]
    have hclo':Clo ops (listed.setIfInBounds j true):=by
     intro i o' ho' hi e he hb
     have his:i<ops.size:=(Array.getElem?_eq_some_iff.1 ho').1
     rw [hset1 i his,Bool.or_eq_true,beq_iff_eq] at hi
     refine getD_set_true ?_
     rcases hi with hi|rfl
     ·exact hclo i o' ho' hi e he hb
     ·rw [ho] at ho'
      injection ho' with ho'
      subst ho'
      exact hdeps e he hb
    have hleft':left (listed.setIfInBounds j true) ops.size≤fuel:=by
     have:=left_set hjun ops.size
     rw [if_pos hjs] at this
     omega
    have hwp:wpOp P ops Q j=fun K a w=>if Region.wanted o (yielded ops a.tmps) then o.wp P a w K Q∨(o.asks P a w∧LetsOut Q) else K (a.put o.dst undef) w:=by
     funext K a w
     simp only [wpOp,ho]
    rw [hwp]
    simp only []
    rcases Nat.lt_or_ge j (p+rs.length) with hjm|hjm
    ·
     obtain ⟨i,rfl⟩:∃ i,j=p+i:=⟨j - p,by omega⟩
     have hi:i<rs.length:=by omega
     have hx:rs[i]? = some rs[i]:=gE hi
     obtain ⟨o',ho',_,hbar,e1,e2,hstep⟩:=hop i _ hx
     have:o'=o:=by rw [ho] at ho';injection ho' with ho';exact ho'.symm
     subst this
     have hselj:listed.getD (p+i) false=false:=hjf
     have hslot:∀ t,t∈o'.looksAt ops→(mix (fun k=>decide (k<i)) rs σ).get t=(mix (fun k=>listed.getD (p+k) false) rs σ).get t:=by
      intro t ht
      refine mix_get_congr t rs _ _ σ σ rfl rfl fun k y hy hyd=>?_
      obtain ⟨o2,ho2,_,_,f1,_⟩:=hop k y hy
      rcases Nat.lt_trichotomy k i with h|h|h
      ·have h3:=hM.pair (p+k) (p+i) o2 o' ho2 ho (by omega)
       unfold okPair at h3
       rw [← f1,hyd] at h3
       simp only [bA,Bool.or_eq_true,Bool.not_eq_true'] at h3
       have h4:Nat.testBit (M.getD (p+i) 0) (p+k)=true:=by
        rcases h3.1.1.2 with h5|h5
        ·rw [List.contains_eq_mem,decide_eq_false_iff_not] at h5;exact absurd ht h5
        ·exact h5
       rw [hrch _ h4]
       simp [h]
      ·subst h
       rw [hselj]
       simp
      ·have h3:=hM.pair (p+i) (p+k) o' o2 ho ho2 (by omega)
       unfold okPair at h3
       rw [← f1,hyd] at h3
       simp only [bA,Bool.or_eq_true,Bool.not_eq_true'] at h3
       have h4:Nat.testBit (M.getD (p+k) 0) (p+i)=true:=by
        rcases h3.1.2 with h5|h5
        ·rw [List.contains_eq_mem,decide_eq_false_iff_not] at h5;exact absurd ht h5
        ·exact h5
       cases hk:listed.getD (p+k) false with
       |false=>exact dF (by omega)
       |true =>
        have:=rch_of_listed hM hclo ho2 hk h4
        rw [hselj] at this
        cases this
     have hnext:∀ (a':Act) w' β',a'.defers=[]→Sim C β' ((mix (fun k=>listed.getD (p+k) false) rs σ).apR rs[i]) (a'.tmps::as) w'→wpAny P .any ops Q fuel (listed.setIfInBounds (p+i) true) a' w':=by
      intro a' w' β' hd' hs'
      refine ih _ β' a' w' (by simpa using hsz) (fun k hk hk2=>?_) (fun k hk=>getD_set_true (hpre k hk)) hclo' ?_ hd' hleft'
      ·rw [hset1 k hk,Bool.or_eq_true,beq_iff_eq] at hk2
       rcases hk2 with hk2|hk2
       ·exact hin k hk hk2
       ·omega
      ·have hmore:=mix_more i rs (fun k=>listed.getD (p+k) false) σ _ hx hselj fun k y hy hki=>⟨fun t ht=>hdst i k _ y hx hy (Ne.symm hki) t ht,fun e hn=>hnames i k _ y hx hy (Ne.symm hki) e hn⟩
       have:=hmore.sim hs'
       rw [mix_congr rs _ (fun k=>(listed.setIfInBounds (p+i) true).getD (p+k) false) σ fun k hk=>by
        rw [hset1 (p+k) (by omega)]
        congr 1
        by_cases hki:k=i
        ·subst hki;simp
        ·rw [beq_eq_false_iff_ne.2 (show p+k ≠ p+i by omega),beq_eq_false_iff_ne.2 hki]] at this
       exact this
     rcases hstep with ⟨hg,hal,hopd,hdn,h64,hsome⟩|⟨hg,hv,hev⟩
     ·have hg':=Gd_congr hslot hg
      rw [Gd_wanted hsim hg']
      simp only [if_true]
      refine .inl ?_
      have hagr:Agr (mix (fun k=>decide (k<i)) rs σ) (mix (fun k=>listed.getD (p+k) false) rs σ) o'.op:=by
       intro x hxo
       have hev:=eval_congr (ops:=ops) hxo hslot
       refine ⟨hev,fun e he=>?_⟩
       have halive:(look (mix (fun k=>decide (k<i)) rs σ).mem e).isSome=true:=by
        have:=List.all_eq_true.1 hal x hxo
        exact List.all_eq_true.1 this e he
       have halive':(look (mix (fun k=>listed.getD (p+k) false) rs σ).mem e).isSome=true:=by
        rw [hev] at he
        exact refs3_alive (hsim.eval x) he
       refine mix_look_congr e rs _ _ σ σ rfl fun k y hy hyn=>?_
       by_cases hki:k<i
       ·simp only [hki,decide_true]
        cases hk:listed.getD (p+k) false with
        |true=>rfl
        |false =>
         have h1:=mix_look_congr e rs (fun k=>listed.getD (p+k) false) (fun _=>false) σ σ rfl fun k2 y2 hy2 hyn2=>by
          by_cases hkk:k2=k
          ·subst hkk;exact hk
          ·exact absurd hyn (hnames k2 k y2 y hy2 hy hkk e hyn2)
         rw [mix_none _ _ _ (fun _ _=>rfl),hdead0 k y hy e hyn] at h1
         rw [h1] at halive'
         cases halive'
       ·simp only [hki,decide_false]
        have h1:=mix_alive e rs (fun m=>decide (m<i)) (fun m=>decide (m<k)) σ σ (fun h=>h) (fun m hm=>by simp only [dE] at hm ⊢;omega) halive
        rw [hdead k y hy e hyn] at h1
        cases h1
      have hopd':=hopd.congr hagr
      have hdn':deadN (mix (fun k=>listed.getD (p+k) false) rs σ).mem rs[i].nm rs[i].es.length=true:=by
       refine deadN_of fun e h1 h2=>?_
       have h3:=mix_look_congr e rs (fun k=>listed.getD (p+k) false) (fun _=>false) σ σ rfl fun k2 y2 hy2 hyn2=>by
        by_cases hkk:k2=i
        ·subst hkk;exact hselj
        ·exact absurd ⟨h1,h2⟩ (hnames k2 i y2 _ hy2 hx hkk e hyn2)
       rw [mix_none _ _ _ (fun _ _=>rfl),hdead0 i _ hx e ⟨h1,h2⟩] at h3
       exact h3
      refine opDR_sound hT hS hsim hd hdn' hopd' fun a' w' β' hd' hs'=>hnext a' w' β' hd' ?_
      unfold St.apR
      rw [e1]
      exact hs'
     ·have hg':=Gd_congr hslot hg
      rw [Gd_wanted hsim hg']
      simp only [Bool.false_eq_true,if_false]
      refine hnext _ _ β (by rw [put_defers];exact hd) ?_
      unfold St.apR St.apD
      rw [hv,hev,e1]
      exact hsim.put (a:=a) o'.dst (v:=.tup []) (x:=undef) ⟨#[],rfl,trivial⟩
    ·
     rcases htail with ⟨h1,h2⟩|⟨ob,hob,hbar,hg,hev⟩
     ·omega
     ·have hq:rs.length<l.length:=(List.getElem?_eq_some_iff.1 hob).1
      have hobs:ops[p+rs.length]? = some ob:=by rw [← hl];exact hob
      have hjq:j=p+rs.length:=by
       rcases Nat.lt_or_eq_of_le hjm with h|h
       ·have h3:=hM.pair (p+rs.length) j ob o hobs ho h
        unfold okPair lateOk at h3
        rw [hbar,bar_mv hbar] at h3
        simp only [Bool.true_or,nT,Bool.false_or,bA,fA,Bool.and_false,Bool.or_false] at h3
        have:=hin _ (by omega) (hrch _ h3.2)
        omega
       ·exact h.symm
      subst hjq
      have:o=ob:=by rw [ho] at hobs;injection hobs
      subst this
      have hfull:∀ i,i<rs.length→listed.getD (p+i) false=true:=by
       intro i hi
       obtain ⟨o2,ho2,_,_,_⟩:=hop i _ (gE hi)
       have h3:=hM.pair (p+i) (p+rs.length) o2 o ho2 ho (by omega)
       unfold okPair at h3
       rw [hbar] at h3
       simp only [Bool.or_true,nT,Bool.false_or,bA,tA,Bool.or_eq_true] at h3
       rcases h3.2 with h3|h3
       ·exact hrch _ h3
       ·cases hl0:listed.getD (p+i) false with
        |true=>rfl
        |false =>
         refine absurd ⟨i,hi,hl0,o2,ho2,?_⟩ hE
         unfold lateOk at h3
         simp only [bA] at h3
         obtain ⟨_,c1,c2,c3,c4,c5⟩:=h3
         refine ⟨c1,Option.isNone_iff_eq_none.1 c2,c3,?_,mem_ready.2 ⟨(hun _ (Array.getElem?_eq_some_iff.1 ho2).1).2 hl0,o2,ho2,fun e he hb=>?_⟩⟩
         ·unfold Region.free
          rw [ho2]
          simp only [List.all_eq_true,List.mem_range] at c5 ⊢
          intro k hk
          have:=c5 k hk
          simp only [Bool.or_eq_true] at this ⊢
          rcases this with (h4|h4)|h4
          ·exact .inl (.inl h4)
          ·refine .inl (.inr ?_)
           have h5:=hrch _ h4
           cases h6:listed.getD k true with
           |true=>rfl
           |false=>rw [(hun k hk).1 h6] at h5;cases h5
          ·exact .inr h4
         ·have:=List.all_eq_true.1 c4 e (by simpa using he)
          rw [hb,nT,Bool.false_or] at this
          exact hrch _ this
      rw [mix_congr rs _ (fun _=>true) σ fun i hi=>hfull i hi] at hsim
      rw [Gd_wanted hsim hg]
      simp only [if_true]
      refine .inl (evOp_sound hT hH hsim hd (fun a' w' β' σ' hd' hs' hK'=>?_) hev)
      refine ihn (l.drop (rs.length+1)).length (by rw [List.length_drop];omega) (p+rs.length+1) (l.drop (rs.length+1)) rfl (fun i=>?_) (by rw [List.length_drop];omega) σ' β' a' w' _ fuel hs' hd' hK' (by simpa using hsz) (fun i hi=>?_) hleft'
      ·rw [List.getElem?_drop,hl];congr 1;omega
      ·rw [hset1 i hi]
       rcases Nat.lt_trichotomy i (p+rs.length) with h|h|h
       ·have:listed.getD i false=true:=by
         rcases Nat.lt_or_ge i p with h4|h4
         ·exact hpre i h4
         ·have:=hfull (i - p) (by omega)
          rwa [show p+(i - p)=i from by omega] at this
        rw [this]
        simp;omega
       ·subst h;simp
       ·have:listed.getD i false=false:=by
         cases h5:listed.getD i false with
         |false=>rfl
         |true=>have:=hin i hi h5;omega
        rw [this,Bool.false_or]
        have h6:(i==p+rs.length)=false:=by simp;omega
        rw [h6]
        exact (dF (by omega)).symm
 refine inner fuel listed β a w hsz (fun i hi h=>?_) (fun i hi=>?_) ?_ ?_ hd hfuel
 ·rw [hlist i hi] at h
  simp only [dE] at h
  omega
 ·rw [hlist i (by omega)];simpa using hi
 ·intro j o ho hj e he hb
  have hjs:j<ops.size:=(Array.getElem?_eq_some_iff.1 ho).1
  rw [hlist j hjs] at hj
  simp only [dE] at hj
  have:=(hM.at_ j o ho).back e he hb
  rw [hlist e.on (by omega)]
  simp;omega
 ·rw [mix_none]
  ·exact hsim
  ·intro i hi
   rw [hlist (p+i) (by omega)]
   simp
theorem left_le (listed:Array Bool):∀ n,left listed n≤n
 |0=>Nat.le_refl _
 |n+1=>by
  have:=left_le listed n
  simp only [left]
  split <;> omega
theorem bothL_all:∀ {xs:List (Option R)} {r:R},bothL xs=some r→∀ x∈xs,x=some r
 | [],r,h,x,hx=>by cases hx
 | [y],r,h,x,hx=>by
  simp only [List.mem_singleton] at hx
  subst hx
  exact h
 |y::z::xs,r,h,x,hx=>by
  obtain ⟨h1,h2⟩:=both_some (show both y (bothL (z::xs))=some r from h)
  rcases List.mem_cons.1 hx with rfl|hx
  ·exact h1
  ·exact bothL_all h2 x hx
theorem evStep_sound (hT:TtOk P E.tt) {H:Handler R} (hH:HOk P C H r) {d:Nat} {i:Nat} (hi:ops[i]? = some o) {K:St→Option R} {next:Act→World→Prop} {Q:Exit→Act→World→Prop} (h:Sim C β σ (a.tmps::as) w) (hd:a.defers=[])
  (hn:∀ (a':Act) w' β' σ',a'.defers=[]→Sim C β' σ' (a'.tmps::as) w'→K σ'=some r→next a' w') (he:evStep E H d ops o σ K=some r):wpOp P ops Q i next a w:=by
 have hwp:wpOp P ops Q i next a w=if Region.wanted o (yielded ops a.tmps) then o.wp P a w next Q∨(o.asks P a w∧LetsOut Q) else next (a.put o.dst undef) w:=by
  simp only [wpOp,hi]
 rw [hwp]
 have skip:∀ σ1,Sim C β σ1 (a.tmps::as) w→K (σ1.put o.dst (.tup []))=some r→next (a.put o.dst undef) w :=
  fun σ1 h1 he1=>hn _ _ _ _ (by rw [put_defers];exact hd) (h1.put (a:=a) o.dst (v:=.tup []) (x:=undef) ⟨#[],rfl,trivial⟩) he1
 have run:∀ σ1,Sim C β σ1 (a.tmps::as) w→evOp E H d o σ1 K=some r→o.wp P a w next Q∨(o.asks P a w∧LetsOut Q) :=
  fun σ1 h1 he1=>.inl (evOp_sound hT hH h1 hd hn he1)
 unfold evStep at he
 split at he
 ·rename_i hg
  have hw:Region.wanted o (yielded ops a.tmps)=true:=by simp [Region.wanted,hg]
  simp only [hw,if_true]
  exact run σ h he
 ·rename_i j want hg
  split at he
  ·rename_i t ht
   split at he
   ·rename_i b hb
    have hG:Gd ops o σ (b==want):=by
     unfold Gd
     rw [hg]
     exact ⟨t,ht,.inl ⟨b,hb,rfl⟩⟩
    rw [Gd_wanted h hG]
    have hset:=set_bool h hb
    cases b
    ·simp only [cond_false] at he
     cases want
     ·exact run _ hset he
     ·exact skip _ hset he
    ·simp only [cond_true] at he
     cases want
     ·exact skip _ hset he
     ·exact run _ hset he
   ·rename_i hb
    have hG:Gd ops o σ false:=by
     unfold Gd
     rw [hg]
     exact ⟨t,ht,.inr ⟨hb,rfl⟩⟩
    rw [Gd_wanted h hG]
    exact skip _ h he
   ·cases he
  ·cases he
theorem evAll_sound (hT:TtOk P E.tt) {H:Handler R} (hH:HOk P C H r) {d:Nat} {K:St→Option R} {Q:Exit→Act→World→Prop} (hp:∀ c a w,¬ Q (.panic c) a w)
  (hQ:∀ (a':Act) w' β' σ',a'.defers=[]→Sim C β' σ' (a'.tmps::as) w'→K σ'=some r→Q .normal a' w') :
  ∀ (fuel n:Nat) (listed:Array Bool) (σ:St) (β:Nat→Option Loc) (a:Act) (w:World),Sim C β σ (a.tmps::as) w→a.defers=[]→evAll E H d ops n listed σ K=some r→left listed ops.size≤fuel→wpAny P .any ops Q fuel listed a w
 |fuel,0,listed,σ,β,a,w,hs,hd,he,hl=>by cases he
 |fuel,n+1,listed,σ,β,a,w,hs,hd,he,hl=>by
  have hfew:∀ i∈Region.ready .any ops listed,∃ o,ops[i]? = some o∧listed.getD i true=false∧∀ m,fuel=m+1→left (listed.setIfInBounds i true) ops.size≤m:=by
   intro i hi
   obtain ⟨h1,o,ho,_⟩:=mem_ready.1 hi
   refine ⟨o,ho,h1,fun m hm=>?_⟩
   have:=left_set h1 ops.size
   rw [if_pos (Array.getElem?_eq_some_iff.1 ho).1] at this
   omega
  have hnone:fuel=0→Region.ready .any ops listed=[]:=by
   intro h0
   cases hr:Region.ready .any ops listed with
   |nil=>rfl
   |cons j js =>
    obtain ⟨o,ho,h1,_⟩:=hfew j (by rw [hr];simp)
    have:=left_zero (Nat.le_zero.1 (h0▸hl)) j (Array.getElem?_eq_some_iff.1 ho).1
    rw [this] at h1
    cases h1
  unfold evAll at he
  split at he
  ·
   rename_i i hfind
   have hmem:=List.mem_of_find?_eq_some hfind
   have heag:=List.find?_some hfind
   obtain ⟨o,ho,h1,h2⟩:=hfew i hmem
   rw [ho] at he
   unfold eager at heag
   rw [ho] at heag
   simp only [bA] at heag
   obtain ⟨hmv,hsel,hfree⟩:=heag
   cases fuel with
   |zero=>rw [hnone rfl] at hmem;cases hmem
   |succ fuel =>
    obtain ⟨v,σ',hy,hs',hK⟩:=evStep_move hT hmv hs he
    exact wpAny_take ho hsel hfree (by simpa using hmem) (fun c a w hq=>absurd hq (hp _ _ _)) hy (evAll_sound hT hH hp hQ fuel n _ σ' β _ w hs' (by rw [put_defers];exact hd) hK (h2 fuel rfl))
  ·have hend:Region.ready .any ops listed=[]→Q .normal a w:=by
    intro h0
    rw [h0] at he
    exact hQ a w β σ hd hs he
   have hstep:∀ i∈Region.ready .any ops listed,∃ o,ops[i]? = some o∧evStep E H d ops o σ (fun σ'=>evAll E H d ops n (listed.setIfInBounds i true) σ' K)=some r:=by
    intro i hi
    obtain ⟨o,ho,_⟩:=hfew i hi
    refine ⟨o,ho,?_⟩
    split at he
    ·rename_i h0;rw [h0] at hi;cases hi
    ·have:=bothL_all he _ (List.mem_map.2 ⟨i,hi,rfl⟩)
     rw [ho] at this
     exact this
   cases fuel with
   |zero=>exact ⟨hnone rfl,hend (hnone rfl)⟩
   |succ fuel =>
    refine ⟨hend,fun i hi=>?_⟩
    obtain ⟨o,ho,h2⟩:=hstep i hi
    obtain ⟨o',ho',_,h3⟩:=hfew i hi
    exact evStep_sound hT hH ho hs hd (fun a' w' β' σ' hd' hs' hK=>evAll_sound hT hH hp hQ fuel n _ σ' β' a' w' hs' hd' hK (h3 fuel rfl)) h2
theorem eqDs_eq {α:Type} {f:α→α→Bool} (hf:∀ x y,f x y=true→x=y):∀ (xs ys:List α),eqD.eqDs f xs ys=true→xs=ys
 | [],[],_=>rfl
 | [],_::_,h=>by simp [eqD.eqDs] at h
 |_::_,[],h=>by simp [eqD.eqDs] at h
 |x::xs,y::ys,h=>by
  simp only [eqD.eqDs,bA] at h
  rw [hf x y h.1,eqDs_eq hf xs ys h.2]
theorem eqD_eq:∀ (t:Ty) (a b:t.den),eqD t a b=true→a=b
 |.int _,a,b,h=>oD h
 |.bool,a,b,h=>by
  have h:((a:Bool)==b)=true:=h
  simpa using h
 |.str,a,b,h=>by
  have h:a.data.toList=b.data.toList:=oD h
  have h2:a.data=b.data:=Array.toList_inj.1 h
  cases a;cases b
  simp only at h2
  rw [h2]
 |.list t,a,b,h=>eqDs_eq (eqD_eq t) a b h
 |.pair t u,a,b,h=>by
  have h:(eqD t a.1 b.1&&eqD u a.2 b.2)=true:=h
  rw [bA] at h
  exact Prod.ext (eqD_eq t _ _ h.1) (eqD_eq u _ _ h.2)
 |.one t,a,b,h=>eqD_eq t a b h
theorem eqVs_eq {f:V→V→Bool} (hf:∀ x y,f x y=true→x=y):∀ (xs ys:List V),eqVs f xs ys=true→xs=ys
 | [],[],_=>rfl
 | [],_::_,h=>by simp [eqVs] at h
 |_::_,[],h=>by simp [eqVs] at h
 |x::xs,y::ys,h=>by
  simp only [eqVs,bA] at h
  rw [hf x y h.1,eqVs_eq hf xs ys h.2]
theorem eqV_eq:∀ (n:Nat) (a b:V),eqV n a b=true→a=b
 |0,a,b,h=>by cases h
 |n+1,a,b,h=>by
  have ih:=eqVs_eq (eqV_eq n)
  cases a <;> cases b <;> simp only [eqV,Bool.false_eq_true,bA,beq_iff_eq,dE] at h
  case int.int=>obtain ⟨rfl,rfl⟩:=h;rfl
  case bool.bool=>subst h;rfl
  case str.str x y =>
   have h2:x.data=y.data:=Array.toList_inj.1 h
   cases x;cases y
   simp only at h2
   rw [h2]
  case ro.ro t l t' l' =>
   by_cases ht:t=t'
   ·subst ht
    rw [dif_pos rfl] at h
    rw [eqDs_eq (eqD_eq t) l l' h]
   ·rw [dif_neg ht] at h;cases h
  case nil.nil=>rfl
  case nilp.nilp=>rfl
  case undef.undef=>rfl
  case slw.slw=>subst h;rfl
  case sl.sl=>obtain ⟨rfl,rfl,rfl⟩:=h;rfl
  case ptr.ptr=>obtain ⟨rfl,rfl,rfl⟩:=h;rfl
  case rop.rop=>rw [ih _ _ h]
  case fn.fn=>obtain ⟨rfl,h⟩:=h;rw [ih _ _ h]
  case agg.agg=>rw [ih _ _ h]
  case tup.tup=>rw [ih _ _ h]
theorem eqE_eq (a b:Entry) (h:eqE a b=true):a=b:=by
 cases a <;> cases b <;> simp only [eqE,Bool.false_eq_true] at h
 case row.row t l t' l' =>
  by_cases ht:t=t'
  ·subst ht
   rw [dif_pos rfl] at h
   rw [eqDs_eq (eqD_eq t) l l' h]
  ·rw [dif_neg ht] at h;cases h
 case box.box=>rw [eqVs_eq (eqV_eq 4) _ _ h]
 case nest.nest t l k t' l' k' =>
  by_cases ht:t=t'
  ·subst ht
   rw [dif_pos rfl,bA] at h
   rw [eqDs_eq (eqD_eq (.list t)) l l' h.1,oD h.2]
  ·rw [dif_neg ht] at h;cases h
theorem eqM_eq:∀ (a b:List (Nat×Entry)),eqM a b=true→a=b
 | [],[],_=>rfl
 | [],(_,_)::_,h=>by simp [eqM] at h
 |(_,_)::_,[],h=>by simp [eqM] at h
 |(e,x)::m,(e',x')::m',h=>by
  simp only [eqM,bA,beq_iff_eq] at h
  rw [h.1,eqE_eq x x' h.2.1,eqM_eq m m' h.2.2]
theorem eqFs_eq:∀ (a b:List (List V)),eqFs a b=true→a=b
 | [],[],_=>rfl
 | [],_::_,h=>by simp [eqFs] at h
 |_::_,[],h=>by simp [eqFs] at h
 |x::xs,y::ys,h=>by
  simp only [eqFs,bA] at h
  rw [eqVs_eq (eqV_eq 4) x y h.1,eqFs_eq xs ys h.2]
theorem eqSt_eq (a b:St) (h:eqSt a b=true):a=b:=by
 simp only [eqSt,bA] at h
 cases a;cases b
 simp only [St.mk.injEq]
 exact ⟨eqVs_eq (eqV_eq 4) _ _ h.1,eqFs_eq _ _ h.2.1,eqM_eq _ _ h.2.2⟩
theorem sameSt_all {a:St}:∀ {xs:List (Option St)},sameSt a xs=true→∀ x∈xs,x=some a
 | [],_,x,hx=>by cases hx
 |some b::xs,h,x,hx=>by
  simp only [sameSt,bA] at h
  rcases List.mem_cons.1 hx with rfl|hx
  ·rw [eqSt_eq a b h.1]
  ·exact sameSt_all h.2 x hx
 |none::xs,h,x,hx=>by simp [sameSt] at h
theorem sameL_all {xs:List (Option St)} {τ:St} (h:sameL xs=some τ):∀ x∈xs,x=some τ:=by
 cases xs with
 |nil=>cases h
 |cons y xs =>
  cases y with
  |none=>cases h
  |some a =>
   simp only [sameL] at h
   obtain ⟨h1,h2⟩:=cond_some h
   obtain rfl:=oJ h2
   intro x hx
   rcases List.mem_cons.1 hx with rfl|hx
   ·rfl
   ·exact sameSt_all h1 x hx
theorem evM_sound (hT:TtOk P E.tt) (hS:SumsOk P E) {d:Nat} {τ:St} {Q:Exit→Act→World→Prop} (hp:∀ c a w,¬ Q (.panic c) a w)
  (hQ:∀ (a':Act) w' β',a'.defers=[]→Sim C β' τ (a'.tmps::as) w'→Q .normal a' w') :
  ∀ (fuel n:Nat) (listed:Array Bool) (σ:St) (β:Nat→Option Loc) (a:Act) (w:World),Sim C β σ (a.tmps::as) w→a.defers=[]→evM E d ops n listed σ=some τ→left listed ops.size≤fuel→wpAny P .any ops Q fuel listed a w
 |fuel,0,listed,σ,β,a,w,hs,hd,he,hl=>by cases he
 |fuel,n+1,listed,σ,β,a,w,hs,hd,he,hl=>by
  have hH:HOk P C (R:=St) (fun g nm vs σ K=>match lookS E.sums g with
    |some s=>callS s nm vs σ K
    |none=>none) τ:=by
   intro as β σ tmps w g nm vs xs K h hv he
   simp only [] at he
   split at he
   ·rename_i s hs
    exact callS_sound (hS g s hs) h hv he
   ·cases he
  have hfew:∀ i∈Region.ready .any ops listed,∃ o,ops[i]? = some o∧listed.getD i true=false∧∀ m,fuel=m+1→left (listed.setIfInBounds i true) ops.size≤m:=by
   intro i hi
   obtain ⟨h1,o,ho,_⟩:=mem_ready.1 hi
   refine ⟨o,ho,h1,fun m hm=>?_⟩
   have:=left_set h1 ops.size
   rw [if_pos (Array.getElem?_eq_some_iff.1 ho).1] at this
   omega
  have hnone:fuel=0→Region.ready .any ops listed=[]:=by
   intro h0
   cases hr:Region.ready .any ops listed with
   |nil=>rfl
   |cons j js =>
    obtain ⟨o,ho,h1,_⟩:=hfew j (by rw [hr];simp)
    have:=left_zero (Nat.le_zero.1 (h0▸hl)) j (Array.getElem?_eq_some_iff.1 ho).1
    rw [this] at h1
    cases h1
  unfold evM at he
  split at he
  ·rename_i i hfind
   have hmem:=List.mem_of_find?_eq_some hfind
   have heag:=List.find?_some hfind
   obtain ⟨o,ho,h1,h2⟩:=hfew i hmem
   rw [ho] at he
   unfold eager at heag
   rw [ho] at heag
   simp only [bA] at heag
   obtain ⟨hmv,hsel,hfree⟩:=heag
   cases fuel with
   |zero=>rw [hnone rfl] at hmem;cases hmem
   |succ fuel =>
    obtain ⟨v,σ',hy,hs',hK⟩:=evStep_move hT hmv hs he
    exact wpAny_take ho hsel hfree (by simpa using hmem) (fun c a w hq=>absurd hq (hp _ _ _)) hy (evM_sound hT hS hp hQ fuel n _ σ' β _ w hs' (by rw [put_defers];exact hd) hK (h2 fuel rfl))
  ·have hend:Region.ready .any ops listed=[]→Q .normal a w:=by
    intro h0
    rw [h0] at he
    obtain rfl:=oJ he
    obtain ⟨β',h1⟩:=hs.keepG (σ.mem.foldl (fun L (e,_)=>insN e L) [])
    exact hQ a w β' hd h1
   have hstep:∀ i∈Region.ready .any ops listed,∃ o,ops[i]? = some o∧evStep E (fun g nm vs σ K=>match lookS E.sums g with
     |some s=>callS s nm vs σ K
     |none=>none) d ops o σ (fun σ'=>evM E d ops n (listed.setIfInBounds i true) σ')=some τ:=by
    intro i hi
    obtain ⟨o,ho,_⟩:=hfew i hi
    refine ⟨o,ho,?_⟩
    split at he
    ·rename_i h0;rw [h0] at hi;cases hi
    ·have:=sameL_all he _ (List.mem_map.2 ⟨i,hi,rfl⟩)
     rw [ho] at this
     exact this
   cases fuel with
   |zero=>exact ⟨hnone rfl,hend (hnone rfl)⟩
   |succ fuel =>
    refine ⟨hend,fun i hi=>?_⟩
    obtain ⟨o,ho,h2⟩:=hstep i hi
    obtain ⟨o',ho',_,h3⟩:=hfew i hi
    exact evStep_sound hT hH ho hs hd (fun a' w' β' σ' hd' hs' hK=>evM_sound hT hS hp hQ fuel n _ σ' β' a' w' hs' hd' hK (h3 fuel rfl)) h2
theorem mOk_at {M:List Nat} (h:mOk ops M=true) {i:Nat} {x:Oper} (hx:ops[i]? = some x):M.getD i 0=maskOf M x∧∀ e∈x.after,Region.binds .any e=true→e.on<i:=by
 have hi:=(Array.getElem?_eq_some_iff.1 hx).1
 have:=List.all_eq_true.1 h i (List.mem_range.2 hi)
 rw [hx] at this
 simp only [bA,beq_iff_eq,List.all_eq_true] at this
 refine ⟨this.1,fun e he hb=>?_⟩
 have h2:=this.2 e (by simpa using he)
 rw [hb] at h2
 simpa using h2
theorem rch_ready {M:List Nat} (hM:mOk ops M=true) {listed:Array Bool} (hc:Clo ops listed):∀ (j:Nat) o,ops[j]? = some o→(∀ e∈o.after,Region.binds .any e=true→listed.getD e.on false=true)→∀ i,Nat.testBit (M.getD j 0) i=true→listed.getD i false=true:=by
 intro j
 induction j using Nat.strongRecOn with
 |_ j ih =>
  intro o ho hdeps i hi
  rw [(mOk_at hM ho).1] at hi
  obtain ⟨e,he,hb,h⟩:=maskOf_bit hi
  have hl:=hdeps e he hb
  rcases h with h|h
  ·rw [← h];exact hl
  ·have hlt:=(mOk_at hM ho).2 e he hb
   have hj:j<ops.size:=(Array.getElem?_eq_some_iff.1 ho).1
   have ho':ops[e.on]? = some ops[e.on]:=Array.getElem?_eq_getElem (by omega)
   exact ih e.on hlt _ ho' (hc e.on _ ho' hl) i h
theorem Clo.set {listed:Array Bool} (hc:Clo ops listed) {i:Nat} {o:Oper} (ho:ops[i]? = some o) (h:∀ e∈o.after,Region.binds .any e=true→listed.getD e.on false=true):Clo ops (listed.setIfInBounds i true):=by
 intro j o' ho' hj e he hb
 refine getD_set_true ?_
 by_cases hij:i=j
 ·subst hij
  rw [ho] at ho'
  injection ho' with ho'
  subst ho'
  exact h e he hb
 ·rw [getD_set_ne false hij] at hj
  exact hc j o' ho' hj e he hb
theorem stillK_some {d:Nat} {K:St→Option R} (he:stillK E d o σ K=some r):∃ v,OpDR E (name d (o.dst.getD 4095)) o σ v []∧K (σ.put o.dst v)=some r:=by
 unfold stillK at he
 obtain ⟨v,es,h1,h2⟩:=opD_some he
 cases es with
 |nil=>exact ⟨v,h1,h2⟩
 |cons e es=>cases h2
theorem put_looks {x y:Oper} {σ:St} {v:V} (h:∀ d,x.dst=some d→d ∉ y.looksAt ops):∀ t,t∈y.looksAt ops→σ.get t=(σ.put x.dst v).get t:=by
 intro t ht
 cases hd:x.dst with
 |none=>rfl
 |some d =>
  have hne:d ≠ t:=fun e=>h d hd (e▸ht)
  simp only [St.put,St.get,St.set,List.getD_eq_getElem?_getD,List.getElem?_set_ne hne]
theorem put_mem {dst:Option Nat} {σ:St} {v:V}:(σ.put dst v).mem=σ.mem:=by cases dst <;> rfl
theorem still_congr {nm:Nat} {x y:Oper} {σ:St} {u v:V} {es:List Entry} (h:∀ d,x.dst=some d→d ∉ y.looksAt ops):OpDR E nm y σ u es↔OpDR E nm y (σ.put x.dst v) u es:=by
 have key:Agr σ (σ.put x.dst v) y.op:=fun z hz=>⟨eval_congr hz (put_looks h),fun e _=>by rw [put_mem]⟩
 refine ⟨fun hd=>hd.congr key,fun hd=>hd.congr ?_⟩
 intro z hz
 have:=key z hz
 exact ⟨this.1.symm,fun e _=>by rw [put_mem]⟩
theorem put_comm {x y:Option Nat} {σ:St} {u v:V} (h:∀ d,x=some d→y ≠ some d):(σ.put x u).put y v=(σ.put y v).put x u:=by
 cases x with
 |none=>cases y <;> rfl
 |some a =>
  cases y with
  |none=>rfl
  |some b =>
   have hne:a ≠ b:=fun e=>h a rfl (by rw [e])
   simp only [St.put,St.set,List.set_comm _ _ hne]
def AllOrd (E:Env) (H:Handler R) (d:Nat) (ops:Array Oper) (M:List Nat) (r:R) (K:St→Option R):Nat→Array Bool→St→Prop
 |0,listed,σ=>Region.ready .any ops listed=[]∧K σ=some r
 |n+1,listed,σ=>(Region.ready .any ops listed=[]→K σ=some r)∧∀ i∈Region.ready .any ops listed,∃ o,ops[i]? = some o ∧
   (
    (stillOp E o=true∧∃ v,OpDR E (name d (o.dst.getD 4095)) o σ v []∧AllOrd E H d ops M r K n (listed.setIfInBounds i true) (σ.put o.dst v)) ∨
    (stillOp E o=false∧evStep E H d ops o σ (fun σ'=>evAllR E H d ops M n (listed.setIfInBounds i true) σ' K)=some r))
theorem freeR_spec {M:List Nat} {listed:Array Bool} {i:Nat} (h:freeR E ops M listed i=true):∃ x,ops[i]? = some x∧stillOp E x=true∧∀ (j:Nat) y,ops[j]? = some y→j ≠ i→listed.getD j true=false→Nat.testBit (M.getD j 0) i=true∨(stillOp E y=true∧x.apart ops y=true):=by
 unfold freeR at h
 split at h
 ·rename_i x hx
  simp only [bA,List.all_eq_true] at h
  refine ⟨x,hx,h.1,fun j y hy hji hun=>?_⟩
  have:=h.2 j (List.mem_range.2 (Array.getElem?_eq_some_iff.1 hy).1)
  rw [hy,hun] at this
  simp only [Bool.or_eq_true,beq_iff_eq,bA,hji,false_or,Bool.false_eq_true] at this
  exact this
 ·cases h
theorem ord_take {H:Handler R} {d:Nat} {M:List Nat} {K:St→Option R} (hM:mOk ops M=true) {i:Nat} {x:Oper} (hx:ops[i]? = some x) (hst:stillOp E x=true) :
  ∀ (n:Nat) (listed:Array Bool) (σ:St) (v:V),Clo ops listed→i∈Region.ready .any ops listed→(∀ (j:Nat) y,ops[j]? = some y→j ≠ i→listed.getD j true=false→Nat.testBit (M.getD j 0) i=true∨(stillOp E y=true∧x.apart ops y=true)) →
   OpDR E (name d (x.dst.getD 4095)) x σ v []→AllOrd E H d ops M r K n (listed.setIfInBounds i true) (σ.put x.dst v)→AllOrd E H d ops M r K (n+1) listed σ:=by
 intro n
 induction n with
 |zero =>
  intro listed σ v hc hi hfree hv hord
  refine ⟨fun h=>(by rw [h] at hi;cases hi),fun j hj=>?_⟩
  by_cases hji:j=i
  ·subst hji
   exact ⟨x,hx,.inl ⟨hst,v,hv,hord⟩⟩
  ·have:=ready_mono hj hji
   rw [hord.1] at this
   cases this
 |succ n ih =>
  intro listed σ v hc hi hfree hv hord
  refine ⟨fun h=>(by rw [h] at hi;cases hi),fun j hj=>?_⟩
  by_cases hji:j=i
  ·subst hji
   exact ⟨x,hx,.inl ⟨hst,v,hv,hord⟩⟩
  ·obtain ⟨hjun,y,hy,hall⟩:=mem_ready.1 hj
   obtain ⟨hiun,x',hx',_⟩:=mem_ready.1 hi
   rcases hfree j y hy hji hjun with hbit|⟨hsy,hap⟩
   ·have:=rch_ready hM hc j y hy hall i hbit
    rcases Nat.lt_or_ge i listed.size with h'|h'
    ·simp [h'] at this hiun;rw [hiun] at this;cases this
    ·simp [Array.getElem?_eq_none h'] at this
   ·obtain ⟨p1,p2,p3⟩:=Oper.apart_spec hap
    obtain ⟨y',hy',hcase⟩:=hord.2 j (ready_mono hj hji)
    rw [hy] at hy'
    injection hy' with hy'
    subst hy'
    rcases hcase with ⟨_,u,hu,hord'⟩|⟨hns,_⟩
    ·have hu':OpDR E (name d (y.dst.getD 4095)) y σ u []:=(still_congr p1).2 hu
     refine ⟨y,hy,.inl ⟨hsy,u,hu',?_⟩⟩
     refine ih (listed.setIfInBounds j true) (σ.put y.dst u) v (hc.set hy hall) (ready_mono hi (Ne.symm hji)) (fun k z hz hki hun=>hfree k z hz hki ?_) ((still_congr p3).1 hv) ?_
     ·by_cases hjk:j=k
      ·subst hjk;exact hjun
      ·rw [getD_set_ne true hjk] at hun;exact hun
     ·rw [Array.setIfInBounds_comm _ _ hji,← put_comm p2]
      exact hord'
    ·rw [hsy] at hns;cases hns
theorem evAllR_ord {H:Handler R} {d:Nat} {M:List Nat} {K:St→Option R} (hM:mOk ops M=true):∀ (n:Nat) (listed:Array Bool) (σ:St),Clo ops listed→evAllR E H d ops M n listed σ K=some r→AllOrd E H d ops M r K n listed σ
 |0,listed,σ,_,he=>by cases he
 |n+1,listed,σ,hc,he=>by
  unfold evAllR at he
  split at he
  ·rename_i i hfind
   have hmem:=List.mem_of_find?_eq_some hfind
   obtain ⟨x,hx,hst,hfree⟩:=freeR_spec (List.find?_some hfind)
   rw [hx] at he
   obtain ⟨v,hv,hK⟩:=stillK_some he
   obtain ⟨_,x',hx',hall⟩:=mem_ready.1 hmem
   rw [hx] at hx'
   injection hx' with hx'
   subst hx'
   exact ord_take hM hx hst n listed σ v hc hmem hfree hv (evAllR_ord hM n _ _ (hc.set hx hall) hK)
  ·refine ⟨fun h0=>(by rw [h0] at he;exact he),fun i hi=>?_⟩
   obtain ⟨_,o,ho,hall⟩:=mem_ready.1 hi
   refine ⟨o,ho,?_⟩
   split at he
   ·rename_i h0;rw [h0] at hi;cases hi
   ·have:=bothL_all he _ (List.mem_map.2 ⟨i,hi,rfl⟩)
    rw [ho] at this
    simp only [] at this
    cases hs:stillOp E o with
    |true =>
     rw [hs,cond_true] at this
     obtain ⟨v,hv,hK⟩:=stillK_some this
     exact .inl ⟨rfl,v,hv,evAllR_ord hM n _ _ (hc.set ho hall) hK⟩
    |false =>
     rw [hs,cond_false] at this
     exact .inr ⟨rfl,this⟩
theorem ord_sound (hT:TtOk P E.tt) (hS:SumsOk P E) {H:Handler R} (hH:HOk P C H r) {d:Nat} {M:List Nat} (hM:mOk ops M=true) {K:St→Option R} {Q:Exit→Act→World→Prop} (hp:∀ c a w,¬ Q (.panic c) a w)
  (hQ:∀ (a':Act) w' β' σ',a'.defers=[]→Sim C β' σ' (a'.tmps::as) w'→K σ'=some r→Q .normal a' w') :
  ∀ (n fuel:Nat) (listed:Array Bool) (σ:St) (β:Nat→Option Loc) (a:Act) (w:World),Sim C β σ (a.tmps::as) w→a.defers=[]→Clo ops listed→AllOrd E H d ops M r K n listed σ→left listed ops.size≤fuel→wpAny P .any ops Q fuel listed a w
 |0,fuel,listed,σ,β,a,w,hs,hd,hc,he,hl=>by
  have hq:=hQ a w β σ hd hs he.2
  cases fuel with
  |zero=>exact ⟨he.1,hq⟩
  |succ fuel=>exact ⟨fun _=>hq,fun i hi=>(by rw [he.1] at hi;cases hi)⟩
 |n+1,fuel,listed,σ,β,a,w,hs,hd,hc,he,hl=>by
  have hend:Region.ready .any ops listed=[]→Q .normal a w:=fun h0=>hQ a w β σ hd hs (he.1 h0)
  cases fuel with
  |zero =>
   have h0:Region.ready .any ops listed=[]:=by
    cases hr:Region.ready .any ops listed with
    |nil=>rfl
    |cons j js =>
     obtain ⟨h1,o,ho,_⟩:=mem_ready.1 (show j∈Region.ready .any ops listed by rw [hr];simp)
     have:=left_zero (Nat.le_zero.1 hl) j (Array.getElem?_eq_some_iff.1 ho).1
     rw [this] at h1
     cases h1
   exact ⟨h0,hend h0⟩
  |succ fuel =>
   refine ⟨hend,fun i hi=>?_⟩
   obtain ⟨h1,o',ho',hall⟩:=mem_ready.1 hi
   obtain ⟨o,ho,hcase⟩:=he.2 i hi
   rw [ho] at ho'
   injection ho' with ho'
   subst ho'
   have hl':left (listed.setIfInBounds i true) ops.size≤fuel:=by
    have:=left_set h1 ops.size
    rw [if_pos (Array.getElem?_eq_some_iff.1 ho).1] at this
    omega
   have hc':=hc.set ho hall
   rcases hcase with ⟨hst,v,hv,hord⟩|⟨_,hev⟩
   ·have hg:o.guard=none:=by
     unfold stillOp at hst
     simp only [bA,Option.isNone_iff_eq_none] at hst
     exact hst.1
    have hw:Region.wanted o (yielded ops a.tmps)=true:=by simp [Region.wanted,hg]
    simp only [wpOp,ho,hw,if_true]
    refine .inl (opDR_sound hT hS hs hd rfl hv fun a' w' β' hd' hs'=>?_)
    exact ord_sound hT hS hH hM hp hQ n fuel _ _ β' a' w' hs' hd' hc' hord hl'
   ·exact evStep_sound hT hH ho hs hd (fun a' w' β' σ' hd' hs' hK=>ord_sound hT hS hH hM hp hQ n fuel _ σ' β' a' w' hs' hd' hc' (evAllR_ord hM n _ _ hc' hK) hl') hev
theorem drawOk (hm:P.follows .mixedOrders=true) (hT:TtOk P E.tt) (hS:SumsOk P E) (H:Handler R) (hH:HOk P C H r):DrawOk P E C H r:=by
 intro d f id ops as K β σ a w h hd he
 unfold evDraw at he
 obtain ⟨β1,h1⟩:=Sim.ghosts (E.dirs f id) h
 have h2:=(h1.grows (Grows.drew w)).1
 cases hR:allG 58 (E.dirs f id)&&mOk ops (masks ops.toList []) with
 |true =>
  rw [hR,cond_true] at he
  simp only [bA] at hR
  refine wp_mono (Q:=fun e a w=>e=.normal∧Good C as K r .normal a w) (wp_region_any hm ?_) fun e a' w' ⟨h1,h2⟩=>h1▸h2
  have hc:Clo ops (Array.replicate ops.size false):=by
   intro j o ho hj
   simp [(Array.getElem?_eq_some_iff.1 ho).1] at hj
  exact ord_sound hT hS hH hR.2 (K:=K .normal) (fun c a w hq=>by cases hq.1) (fun a' w' β' σ' hd' hs' hK'=>⟨rfl,hd',β',σ',hs',hK'⟩) (ops.size+1) ops.size _ _ β1 a _ h2 hd hc (evAllR_ord hR.2 _ _ _ hc he) (left_le _ _)
 |false =>
 rw [hR,cond_false] at he
 cases hM:allG 62 (E.dirs f id) with
 |true =>
  rw [hM,cond_true] at he
  cases hτ:evM E d ops (ops.size+1) (Array.replicate ops.size false) (doGhosts σ (E.dirs f id)) with
  |none=>rw [hτ] at he;cases he
  |some τ =>
   rw [hτ] at he
   refine wp_mono (Q:=fun e a w=>e=.normal∧Good C as K r .normal a w) (wp_region_any hm ?_) fun e a' w' ⟨h1,h2⟩=>h1▸h2
   exact evM_sound hT hS (fun c a w hq=>by cases hq.1) (fun a' w' β' hd' hs'=>⟨rfl,hd',β',τ,hs',he⟩) ops.size (ops.size+1) _ _ β1 a _ h2 hd hτ (left_le _ _)
 |false =>
 rw [hM,cond_false] at he
 cases hok:okDraw (allG 59 (E.dirs f id)) ops && !allG 63 (E.dirs f id) with
 |false =>
  rw [hok] at he
  refine wp_mono (Q:=fun e a w=>e=.normal∧Good C as K r .normal a w) (wp_region_any hm ?_) fun e a' w' ⟨h1,h2⟩=>h1▸h2
  exact evAll_sound hT hH (K:=K .normal) (fun c a w hq=>by cases hq.1) (fun a' w' β' σ' hd' hs' hK'=>⟨rfl,hd',β',σ',hs',hK'⟩) ops.size (ops.size+1) _ _ β1 a _ h2 hd he (left_le _ _)
 |true =>
 rw [hok] at he
 simp only [bA] at hok
 have hok:=hok.1
 refine wp_mono (Q:=fun e a w=>e=.normal∧Good C as K r .normal a w) (wp_region_any hm ?_) fun e a' w' ⟨h1,h2⟩=>h1▸h2
 refine draw_seg hT hS hH (fun c a w hq=>by cases hq.1) (okDraw_spec hok) (K:=K .normal) (fun a' w' β' σ' hd' hs' hK'=>⟨rfl,hd',β',σ',hs',hK'⟩) ops.toList.length 0 ops.toList rfl (fun i=>by simp) (by simp) _ β1 a _ _ _ h2 hd he (by simp) (fun i hi=>?_) (left_le _ _)
 simp [hi]
end
open Go.RowKit
section
variable (P:Program)
def aggOf (t:TypeId):Bool:=match P.underlying t with
 |some (.struct _)|some (.array _ _)=>true
 |_=>false
def szOf (t:TypeId):Nat:=match P.info? t,P.underlying t with
 |some i,some _=>match i.zero with
  |some z=>bif z.cells.toList.all Value.oneCell'&&(aggOf P t || i.size==1) then i.size else 0
  |none=>0
 |_,_=>0
def kindOf (t:TypeId):TK:=match P.underlying t with
 |some (.int k)=>.int k
 |some .bool=>.bool
 |some .string=>.str
 |some (.slice e)=>.slice e
 |some (.struct F)=>bif F.toList.all (fun f=>match P.info? f.type with
   |some i=>i.size==szOf P f.type
   |none=>false) then .struct (F.toList.map fun f=>(f.offset,f.type)) else .other
 |some (.array n e)=>.array n e
 |some (.pointer e)=>.ptr e
 |_=>.other
def zeroOf (t:TypeId):List V:=match P.info? t with
 |some i=>match i.zero with
  |some z=>z.cells.toList.map ofValue1
  |none=>[]
 |none=>[]
def bytesOf (t:TypeId):Nat:=match P.info? t with
 |some i=>i.bytes
 |none=>0
def tysTail:List (Option Ty)→Option Ty
 | []=>none
 | [x]=>x
 |some x::xs=>(tysTail xs).map (.pair x)
 |none::_=>none
def tysTop:List (Option Ty)→Option Ty
 | [x]=>x.map .one
 |xs=>tysTail xs
def tyOf:Nat→TypeId→Option Ty
 |0,_=>none
 |n+1,t=>match P.underlying t with
  |some (.int k)=>some (.int k)
  |some .bool=>some .bool
  |some .string=>some .str
  |some (.slice e)=>(tyOf n e).map .list
  |some (.struct F)=>tysTop (F.toList.map fun f=>tyOf n f.type)
  |_=>none
def zOk:Ty→List Value→Option (List Value)
 |.int k,.int k' n::r=>if k'=k∧n=0 then some r else none
 |.bool,.bool b::r=>bif b then none else some r
 |.str,.string s::r=>bif s.size==0 then some r else none
 |.list _,.slice none 0 0::r=>some r
 |.pair a b,cs=>match zOk a cs with
  |some r=>zOk b r
  |none=>none
 |.one a,cs=>zOk a cs
 |_,_=>none
def tyAt (t:TypeId):Option Ty:=match tyOf P 12 t,P.info? t with
 |some τ,some i=>match i.zero with
  |some z=>match zOk τ z.cells.toList with
   |some []=>bif Nat.blt 0 (szOf P t)&&(τ.size==szOf P t&&τ.agg==aggOf P t) then some τ else none
   |_=>none
  |none=>none
 |_,_=>none
def eqFieldsOk:Nat→List Field→List V→Bool
 |_,[],[]=>true
 |i,f::fs,.int k _::vs=>f.offset==i&&f.name != "_" && (match P.underlying f.type with
  |some (.int k')=>decide (k'=k)
  |_=>false)&&eqFieldsOk (i+1) fs vs
 |i,f::fs,.bool _::vs=>f.offset==i&&f.name != "_" && (match P.underlying f.type with
  |some .bool=>true
  |_=>false)&&eqFieldsOk (i+1) fs vs
 |i,f::fs,.str _::vs=>f.offset==i&&f.name != "_" && (match P.underlying f.type with
  |some .string=>true
  |_=>false)&&eqFieldsOk (i+1) fs vs
 |_,_,_=>false
def eqFieldsN:Nat→List Field→List V→Bool
 |_,[],[]=>true
 |_,[],_::_=>false
 |i,f::fs,zs=>match P.underlying f.type with
  |some (.struct G)=>match P.info? f.type with
   |some inf=>f.offset==i&&(f.name != "_" && (eqFieldsOk P 0 G.toList (zs.take inf.size)&&(!P.stoodInHeld f.type&&(Nat.ble inf.size zs.length&&eqFieldsN (i+inf.size) fs (zs.drop inf.size)))))
   |none=>false
  |_=>match zs with
   |z::zs'=>eqFieldsOk P i [f] [z]&&eqFieldsN (i+1) fs zs'
   | []=>false
def eqsAt (t:TypeId):Bool:=match P.underlying t with
 |some (.struct F)=>eqFieldsN P 0 F.toList (zeroOf P t)&&(!P.stoodInHeld t && !P.eqGuardType P.depth t)
 |_=>false
def tiOf (t:TypeId):TI :=
 { size:=szOf P t,bytes:=bytesOf P t,agg:=aggOf P t,kind:=kindOf P t,zero:=zeroOf P t,eqs:=eqsAt P t,ty:=tyAt P t }
end
section
variable {P:Program}
theorem zOk_rel {B:Ty×Nat→Prop} {w:World}:∀ (t:Ty) {ys r:List Value},zOk t ys=some r→∃ y1,ys=y1++r∧DRel B w t (dflt t) y1
 |.int k,ys,r,h=>by
  cases ys with
  |nil=>simp [zOk] at h
  |cons y ys =>
   cases y <;> simp only [zOk,reduceCtorEq] at h
   split at h
   ·rename_i hk
    obtain ⟨rfl,rfl⟩:=hk
    injection h with h
    subst h
    exact ⟨[_],rfl,rfl⟩
   ·cases h
 |.bool,ys,r,h=>by
  cases ys with
  |nil=>simp [zOk] at h
  |cons y ys =>
   cases y <;> simp only [zOk,reduceCtorEq] at h
   rename_i b
   cases b
   ·injection h with h;subst h;exact ⟨[_],rfl,rfl⟩
   ·cases h
 |.str,ys,r,h=>by
  cases ys with
  |nil=>simp [zOk] at h
  |cons y ys =>
   cases y <;> simp only [zOk,reduceCtorEq] at h
   rename_i s
   obtain ⟨h1,h2⟩:=cond_some h
   injection h2 with h2
   subst h2
   refine ⟨[_],rfl,?_⟩
   have:s=ByteArray.empty:=by
    apply ByteArray.ext
    have h3:s.data.size=0:=by simpa using h1
    exact Array.eq_empty_of_size_eq_zero h3
   subst this
   rfl
 |.list a,ys,r,h=>by
  cases ys with
  |nil=>simp [zOk] at h
  |cons y ys =>
   have:y=.slice none 0 0∧r=ys:=by
    unfold zOk at h
    split at h <;> simp_all
   obtain ⟨rfl,rfl⟩:=this
   exact ⟨[_],rfl,none,0,rfl,Nat.le_refl _,fun i x hx=>by simp [dflt] at hx⟩
 |.pair a b,ys,r,h=>by
  simp only [zOk] at h
  cases h1:zOk a ys with
  |none=>rw [h1] at h;cases h
  |some r1 =>
   rw [h1] at h
   obtain ⟨y1,rfl,d1⟩:=zOk_rel a h1
   obtain ⟨y2,rfl,d2⟩:=zOk_rel b h
   exact ⟨y1++y2,by rw [List.append_assoc],y1,y2,rfl,d1,d2⟩
 |.one a,ys,r,h=>by
  simp only [zOk] at h
  obtain ⟨y1,e,d⟩:=zOk_rel a h
  exact ⟨y1,e,d⟩
theorem szOf_info {t:TypeId} (h:szOf P t ≠ 0):∃ i d z,P.info? t=some i∧P.underlying t=some d∧i.zero=some z∧z.cells.toList.all Value.oneCell'=true∧(aggOf P t=true∨i.size=1)∧szOf P t=i.size:=by
 unfold szOf at h ⊢
 cases hi:P.info? t with
 |none=>rw [hi] at h;exact absurd rfl h
 |some i =>
  cases hu:P.underlying t with
  |none=>rw [hi,hu] at h;exact absurd rfl h
  |some d =>
   cases hz:i.zero with
   |none=>rw [hi,hu] at h;simp only [hz] at h;exact absurd rfl h
   |some z =>
    rw [hi,hu] at h
    simp only [hz] at h ⊢
    cases hb:z.cells.toList.all Value.oneCell'&&(aggOf P t || i.size==1) with
    |false=>rw [hb] at h;exact absurd rfl h
    |true =>
     simp only [bA,Bool.or_eq_true,beq_iff_eq] at hb
     exact ⟨i,d,z,rfl,rfl,hz,hb.1,hb.2,rfl⟩
theorem eqFields_run {S:Cx} {w:World} {as bs:Array Value} (d:Nat):∀ (fs:List Field) (zs xs ys:List V) (i:Nat) (r:Bool),eqFieldsOk P i fs zs=true→eqCells zs xs ys=some r→All2 (V1 S) xs (as.toList.drop i)→All2 (V1 S) ys (bs.toList.drop i) →
  (Op.eqFields (d+1) as bs fs).run P w=.ok r w
 | [],zs,xs,ys,i,r,hf,he,ha,hb=>by
  cases zs with
  |cons z zs=>simp [eqFieldsOk] at hf
  |nil =>
   cases xs <;> cases ys <;> simp only [eqCells,reduceCtorEq,sI] at he
   subst he
   rfl
 |f::fs,zs,xs,ys,i,r,hf,he,ha,hb=>by
  have step:∀ {x y:V} {xs' ys' zs':List V} {u v:Value} {q r':Bool},xs=x::xs'→ys=y::ys'→f.offset=i→f.name ≠ "_" → (isAgg f.type).run P w=.ok false w→(V1 S x u→V1 S y v→(Op.equalIn (d+1) f.type u v).run P w=.ok q w)→as.toList[i]? = some u→bs.toList[i]? = some v →
    eqFieldsOk P (i+1) fs zs'=true→eqCells zs' xs' ys'=some r'→r=(q&&r')→(Op.eqFields (d+1) as bs (f::fs)).run P w=.ok r w:=by
   intro x y xs' ys' zs' u v q r' ex ey hoff hname hagg hq hu hv hrest hcells hr
   subst ex;subst ey
   have hda:as.toList.drop i=u::as.toList.drop (i+1):=by
    obtain ⟨hlt,hh⟩:=List.getElem?_eq_some_iff.1 hu
    rw [List.drop_eq_getElem_cons hlt,hh]
   have hdb:bs.toList.drop i=v::bs.toList.drop (i+1):=by
    obtain ⟨hlt,hh⟩:=List.getElem?_eq_some_iff.1 hv
    rw [List.drop_eq_getElem_cons hlt,hh]
   rw [hda] at ha
   rw [hdb] at hb
   have ih:=eqFields_run (w:=w) d fs zs' xs' ys' (i+1) r' hrest hcells ha.2 hb.2
   have hu':as[i]? = some u:=by simpa using hu
   have hv':bs[i]? = some v:=by simpa using hv
   have hq':=hq ha.1 hb.1
   simp only [Op.eqFields,hname,ne_eq,not_false_eq_true,if_true,Sem.run_bind,part,hagg,Result.andThen_ok,hoff,hu',hv',Sem.run_pure,Bool.false_eq_true,if_false,hq']
   subst hr
   cases q
   ·rfl
   ·simp only [nT,Bool.false_eq_true,if_false,ih,tA]
  have hlen:∀ {x:V} {xs':List V},xs=x::xs'→∃ u,as.toList[i]? = some u:=by
   intro x xs' e
   subst e
   cases hd:as.toList.drop i with
   |nil=>rw [hd] at ha;exact ha.elim
   |cons u us=>exact ⟨u,by have:=List.getElem?_drop (xs:=as.toList) (i:=i) (j:=0);rw [hd] at this;simpa using this.symm⟩
  have hlen':∀ {x:V} {xs':List V},ys=x::xs'→∃ u,bs.toList[i]? = some u:=by
   intro x xs' e
   subst e
   cases hd:bs.toList.drop i with
   |nil=>rw [hd] at hb;exact hb.elim
   |cons u us=>exact ⟨u,by have:=List.getElem?_drop (xs:=bs.toList) (i:=i) (j:=0);rw [hd] at this;simpa using this.symm⟩
  cases zs with
  |nil=>simp [eqFieldsOk] at hf
  |cons z zs =>
   cases z <;> simp only [eqFieldsOk,bA,Bool.false_eq_true,beq_iff_eq,bne_iff_ne,ne_eq] at hf
   case int k n0 =>
    obtain ⟨⟨⟨h1,h2⟩,h3⟩,h4⟩:=hf
    cases xs with
    |nil=>simp [eqCells] at he
    |cons x xs =>
     cases ys with
     |nil=>cases x <;> simp [eqCells] at he
     |cons y ys =>
      cases x <;> cases y <;> simp only [eqCells,reduceCtorEq] at he
      rename_i k1 n k2 m
      split at he
      rotate_left
      ·cases he
      rename_i hkk
      obtain ⟨rfl,rfl⟩:=hkk
      cases hr:eqCells zs xs ys with
      |none=>rw [hr] at he;cases he
      |some r' =>
       rw [hr] at he
       simp only [sI] at he
       obtain ⟨u,hu⟩:=hlen rfl
       obtain ⟨v,hv⟩:=hlen' rfl
       have hund:P.underlying f.type=some (.int k2):=by
        cases hx:P.underlying f.type with
        |none=>rw [hx] at h3;cases h3
        |some dd =>
         rw [hx] at h3
         cases dd <;> simp only [reduceCtorEq,dE,Bool.false_eq_true] at h3
         rw [h3]
       refine step (q:=n==m) rfl rfl h1 h2 (by simp [isAgg,run_underlying hund]) ?_ hu hv h4 hr he.symm
       intro hu1 hv1
       have hu1:u=.int k2 n:=hu1
       have hv1:v=.int k2 m:=hv1
       subst hu1;subst hv1
       exact run_equalIn_int w d f.type k2 k2 n m hund
   case bool b0 =>
    obtain ⟨⟨⟨h1,h2⟩,h3⟩,h4⟩:=hf
    cases xs with
    |nil=>simp [eqCells] at he
    |cons x xs =>
     cases ys with
     |nil=>cases x <;> simp [eqCells] at he
     |cons y ys =>
      cases x <;> cases y <;> simp only [eqCells,reduceCtorEq] at he
      rename_i n m
      cases hr:eqCells zs xs ys with
      |none=>rw [hr] at he;cases he
      |some r' =>
       rw [hr] at he
       simp only [sI] at he
       obtain ⟨u,hu⟩:=hlen rfl
       obtain ⟨v,hv⟩:=hlen' rfl
       have hund:P.underlying f.type=some .bool:=by
        cases hx:P.underlying f.type with
        |none=>rw [hx] at h3;cases h3
        |some dd =>
         rw [hx] at h3
         cases dd <;> simp only [reduceCtorEq,Bool.false_eq_true] at h3
         rfl
       refine step (q:=n==m) rfl rfl h1 h2 (by simp [isAgg,run_underlying hund]) ?_ hu hv h4 hr he.symm
       intro hu1 hv1
       have hu1:u=.bool n:=hu1
       have hv1:v=.bool m:=hv1
       subst hu1;subst hv1
       exact run_equalIn_bool w d f.type n m hund
   case str s0 =>
    obtain ⟨⟨⟨h1,h2⟩,h3⟩,h4⟩:=hf
    cases xs with
    |nil=>simp [eqCells] at he
    |cons x xs =>
     cases ys with
     |nil=>cases x <;> simp [eqCells] at he
     |cons y ys =>
      cases x <;> cases y <;> simp only [eqCells,reduceCtorEq] at he
      rename_i n m
      cases hr:eqCells zs xs ys with
      |none=>rw [hr] at he;cases he
      |some r' =>
       rw [hr] at he
       simp only [sI] at he
       obtain ⟨u,hu⟩:=hlen rfl
       obtain ⟨v,hv⟩:=hlen' rfl
       have hund:P.underlying f.type=some .string:=by
        cases hx:P.underlying f.type with
        |none=>rw [hx] at h3;cases h3
        |some dd =>
         rw [hx] at h3
         cases dd <;> simp only [reduceCtorEq,Bool.false_eq_true] at h3
         rfl
       refine step (q:=n==m) rfl rfl h1 h2 (by simp [isAgg,run_underlying hund]) ?_ hu hv h4 hr he.symm
       intro hu1 hv1
       have hu1:u=.string n:=hu1
       have hv1:v=.string m:=hv1
       subst hu1;subst hv1
       rw [run_equalIn_string w d f.type n m hund,str_beq]
theorem eqCells_len:∀ {zs xs ys:List V} {r:Bool},eqCells zs xs ys=some r→xs.length=zs.length∧ys.length=zs.length
 | [],xs,ys,r,h=>by cases xs <;> cases ys <;> simp_all [eqCells]
 |z::zs,xs,ys,r,h=>by
  cases xs with
  |nil=>cases z <;> simp [eqCells] at h
  |cons x xs =>
   cases ys with
   |nil=>cases z <;> cases x <;> simp [eqCells] at h
   |cons y ys =>
    have:∃ r',eqCells zs xs ys=some r':=by
     cases z <;> cases x <;> cases y <;> simp only [eqCells,reduceCtorEq] at h
     ·split at h
      ·cases hr:eqCells zs xs ys with
       |none=>rw [hr] at h;cases h
       |some r'=>exact ⟨r',rfl⟩
      ·cases h
     ·cases hr:eqCells zs xs ys with
      |none=>rw [hr] at h;cases h
      |some r'=>exact ⟨r',rfl⟩
     ·cases hr:eqCells zs xs ys with
      |none=>rw [hr] at h;cases h
      |some r'=>exact ⟨r',rfl⟩
    obtain ⟨r',hr⟩:=this
    obtain ⟨h1,h2⟩:=eqCells_len hr
    simp [h1,h2]
theorem eqCells_cons {z x y:V} {zs xs ys:List V} {r:Bool} (h:eqCells (z::zs) (x::xs) (y::ys)=some r):∃ q r',eqCells [z] [x] [y]=some q∧eqCells zs xs ys=some r'∧r=(q&&r'):=by
 cases z <;> cases x <;> cases y <;> simp only [eqCells,reduceCtorEq] at h
 ·split at h
  ·rename_i hk
   cases hr:eqCells zs xs ys with
   |none=>rw [hr] at h;cases h
   |some r' =>
    rw [hr] at h
    simp only [sI] at h
    exact ⟨_,r',by simp only [eqCells];rw [if_pos hk],rfl,by rw [← h,Bool.and_true]⟩
  ·cases h
 ·cases hr:eqCells zs xs ys with
  |none=>rw [hr] at h;cases h
  |some r' =>
   rw [hr] at h
   simp only [sI] at h
   exact ⟨_,r',rfl,rfl,by rw [← h,Bool.and_true]⟩
 ·cases hr:eqCells zs xs ys with
  |none=>rw [hr] at h;cases h
  |some r' =>
   rw [hr] at h
   simp only [sI] at h
   exact ⟨_,r',rfl,rfl,by rw [← h,Bool.and_true]⟩
theorem eqCells_split:∀ (m:Nat) {zs xs ys:List V} {r:Bool},m≤zs.length→eqCells zs xs ys=some r→∃ r1 r2,eqCells (zs.take m) (xs.take m) (ys.take m)=some r1∧eqCells (zs.drop m) (xs.drop m) (ys.drop m)=some r2∧r=(r1&&r2)
 |0,zs,xs,ys,r,_,h=>⟨true,r,rfl,h,by rw [tA]⟩
 |m+1,zs,xs,ys,r,hm,h=>by
  obtain ⟨l1,l2⟩:=eqCells_len h
  cases zs with
  |nil=>simp at hm
  |cons z zs =>
   cases xs with
   |nil=>simp at l1
   |cons x xs =>
    cases ys with
    |nil=>simp at l2
    |cons y ys =>
     obtain ⟨q,r',h1,h2,h3⟩:=eqCells_cons h
     obtain ⟨r1,r2,g1,g2,g3⟩:=eqCells_split m (by simpa using hm) h2
     refine ⟨q&&r1,r2,?_,g2,by rw [h3,g3,Bool.and_assoc]⟩
     rw [List.take_succ_cons,List.take_succ_cons,List.take_succ_cons]
     cases z <;> cases x <;> cases y <;> simp only [eqCells,reduceCtorEq] at h1 ⊢
     ·split at h1
      ·rename_i hk
       simp only [sI,Bool.and_true] at h1
       rw [if_pos hk,g1,h1]
      ·cases h1
     ·simp only [sI,Bool.and_true] at h1
      rw [g1,h1]
     ·simp only [sI,Bool.and_true] at h1
      rw [g1,h1]
theorem eqOne {S:Cx} {w:World} (d i:Nat) {f:Field} {z x y:V} {u v:Value} {q:Bool} (hf:eqFieldsOk P i [f] [z]=true) (he:eqCells [z] [x] [y]=some q) (hu:V1 S x u) (hv:V1 S y v) :
  f.offset=i∧f.name ≠ "_" ∧ (isAgg f.type).run P w=.ok false w∧(Op.equalIn (d+1) f.type u v).run P w=.ok q w:=by
 cases z <;> simp only [eqFieldsOk,bA,Bool.false_eq_true,beq_iff_eq,bne_iff_ne,ne_eq] at hf
 ·obtain ⟨⟨⟨h1,h2⟩,h3⟩,_⟩:=hf
  cases x <;> cases y <;> simp only [eqCells,reduceCtorEq] at he
  rename_i k n0 k1 n k2 m
  split at he
  rotate_left
  ·cases he
  rename_i hkk
  obtain ⟨rfl,rfl⟩:=hkk
  have hund:P.underlying f.type=some (.int k2):=by
   cases hx:P.underlying f.type with
   |none=>rw [hx] at h3;cases h3
   |some dd =>
    rw [hx] at h3
    cases dd <;> simp only [reduceCtorEq,dE,Bool.false_eq_true] at h3
    rw [h3]
  have hu1:u=.int k2 n:=hu
  have hv1:v=.int k2 m:=hv
  subst hu1;subst hv1
  simp only [sI,Bool.and_true] at he
  subst he
  exact ⟨h1,h2,by simp [isAgg,run_underlying hund],run_equalIn_int w d f.type k2 k2 n m hund⟩
 ·obtain ⟨⟨⟨h1,h2⟩,h3⟩,_⟩:=hf
  cases x <;> cases y <;> simp only [eqCells,reduceCtorEq] at he
  rename_i n0 n m
  have hund:P.underlying f.type=some .bool:=by
   cases hx:P.underlying f.type with
   |none=>rw [hx] at h3;cases h3
   |some dd =>
    rw [hx] at h3
    cases dd <;> simp only [reduceCtorEq,Bool.false_eq_true] at h3
    rfl
  have hu1:u=.bool n:=hu
  have hv1:v=.bool m:=hv
  subst hu1;subst hv1
  simp only [sI,Bool.and_true] at he
  subst he
  exact ⟨h1,h2,by simp [isAgg,run_underlying hund],run_equalIn_bool w d f.type n m hund⟩
 ·obtain ⟨⟨⟨h1,h2⟩,h3⟩,_⟩:=hf
  cases x <;> cases y <;> simp only [eqCells,reduceCtorEq] at he
  rename_i n0 n m
  have hund:P.underlying f.type=some .string:=by
   cases hx:P.underlying f.type with
   |none=>rw [hx] at h3;cases h3
   |some dd =>
    rw [hx] at h3
    cases dd <;> simp only [reduceCtorEq,Bool.false_eq_true] at h3
    rfl
  have hu1:u=.string n:=hu
  have hv1:v=.string m:=hv
  subst hu1;subst hv1
  simp only [sI,Bool.and_true] at he
  subst he
  exact ⟨h1,h2,by simp [isAgg,run_underlying hund],by rw [run_equalIn_string w d f.type n m hund,str_beq]⟩
theorem eqFieldsN_run {S:Cx} {w:World} {as bs:Array Value} (d:Nat):∀ (fs:List Field) (zs xs ys:List V) (i:Nat) (r:Bool),eqFieldsN P i fs zs=true→eqCells zs xs ys=some r→All2 (V1 S) xs (as.toList.drop i)→All2 (V1 S) ys (bs.toList.drop i) →
  (Op.eqFields (d+2) as bs fs).run P w=.ok r w
 | [],zs,xs,ys,i,r,hf,he,ha,hb=>by
  cases zs with
  |cons z zs=>simp [eqFieldsN] at hf
  |nil =>
   cases xs <;> cases ys <;> simp only [eqCells,reduceCtorEq,sI] at he
   subst he
   rfl
 |f::fs,zs,xs,ys,i,r,hf,he,ha,hb=>by
  obtain ⟨lx,ly⟩:=eqCells_len he
  have simple:(∃ z zs',zs=z::zs'∧(eqFieldsOk P i [f] [z]&&eqFieldsN P (i+1) fs zs')=true)→(Op.eqFields (d+2) as bs (f::fs)).run P w=.ok r w:=by
   clear hf
   rintro ⟨z,zs',rfl,hf⟩
   ·cases xs with
    |nil=>simp at lx
    |cons x xs =>
     cases ys with
     |nil=>simp at ly
     |cons y ys =>
      rw [bA] at hf
      obtain ⟨q,r',h1,h2,h3⟩:=eqCells_cons he
      cases hda:as.toList.drop i with
      |nil=>rw [hda] at ha;exact ha.elim
      |cons u us =>
       cases hdb:bs.toList.drop i with
       |nil=>rw [hdb] at hb;exact hb.elim
       |cons v vs =>
        rw [hda] at ha
        rw [hdb] at hb
        obtain ⟨o1,o2,o3,o4⟩:=eqOne (P:=P) (w:=w) (d+1) i hf.1 h1 ha.1 hb.1
        have hus:us=as.toList.drop (i+1):=by
         have:=congrArg List.tail hda
         simpa using this.symm
        have hvs:vs=bs.toList.drop (i+1):=by
         have:=congrArg List.tail hdb
         simpa using this.symm
        have ih:=eqFieldsN_run (w:=w) d fs zs' xs ys (i+1) r' hf.2 h2 (hus▸ha.2) (hvs▸hb.2)
        have hu':as[i]? = some u:=by
         have:=List.getElem?_drop (xs:=as.toList) (i:=i) (j:=0)
         rw [hda] at this
         simpa using this.symm
        have hv':bs[i]? = some v:=by
         have:=List.getElem?_drop (xs:=bs.toList) (i:=i) (j:=0)
         rw [hdb] at this
         simpa using this.symm
        simp only [Op.eqFields,o2,ne_eq,not_false_eq_true,if_true,Sem.run_bind,part,o3,Result.andThen_ok,o1,hu',hv',Sem.run_pure,Bool.false_eq_true,if_false,o4]
        subst h3
        cases q
        ·rfl
        ·simp only [nT,Bool.false_eq_true,if_false,ih,tA]
  simp only [eqFieldsN] at hf
  cases hG:P.underlying f.type with
  |none =>
   rw [hG] at hf
   refine simple ?_
   cases zs with
   |nil=>exact absurd (show false=true from hf) (by decide)
   |cons z zs'=>exact ⟨z,zs',rfl,hf⟩
  |some dd =>
   rw [hG] at hf
   cases dd
   case struct G =>
    simp only at hf
    cases hi:P.info? f.type with
    |none=>rw [hi] at hf;cases hf
    |some inf =>
     rw [hi] at hf
     simp only [bA,beq_iff_eq,bne_iff_ne,ne_eq,Bool.not_eq_true',Nat.ble_eq] at hf
     obtain ⟨h1,h2,h3,h4,h5,h6⟩:=hf
     obtain ⟨r1,r2,c1,c2,c3⟩:=eqCells_split inf.size h5 he
     have hext:∀ cs:Array Value,(cs.extract i (i+inf.size)).toList=(cs.toList.drop i).take inf.size:=by
      intro cs
      rw [Array.toList_extract,List.extract_eq_take_drop,show i+inf.size - i=inf.size from by omega]
     have hF:P.fieldsOf f.type=G:=by simp [Program.fieldsOf,hG]
     have e1:=run_equalIn_struct (P:=P) w (d+1) f.type (as.extract i (i+inf.size)) (bs.extract i (i+inf.size)) (by rw [hF];exact hG) h4
     rw [hF] at e1
     have e2:=eqFields_run (P:=P) (S:=S) (w:=w) (as:=as.extract i (i+inf.size)) (bs:=bs.extract i (i+inf.size)) d G.toList _ (xs.take inf.size) (ys.take inf.size) 0 r1 h3 c1 (by rw [List.drop_zero,hext];exact ha.take _) (by rw [List.drop_zero,hext];exact hb.take _)
     have e3:=e1.trans e2
     have ih:=eqFieldsN_run (w:=w) d fs _ _ _ (i+inf.size) r2 h6 c2 (by rw [← List.drop_drop];exact ha.drop _) (by rw [← List.drop_drop];exact hb.drop _)
     have hagg:(isAgg f.type).run P w=.ok true w:=by simp [isAgg,run_underlying hG]
     simp only [Op.eqFields,h2,ne_eq,not_false_eq_true,if_true,Sem.run_bind,part,hagg,Result.andThen_ok,h1,run_sizeOf' hi,Sem.run_pure,e3]
     subst c3
     cases r1
     ·rfl
     ·simp only [nT,Bool.false_eq_true,if_false,ih,tA]
   all_goals
    refine simple ?_
    cases zs with
    |nil=>exact absurd (show false=true from hf) (by decide)
    |cons z zs'=>exact ⟨z,zs',rfl,hf⟩
theorem eqsOk {t:TypeId} (h:eqsAt P t=true):EqsOk P t (zeroOf P t):=by
 intro S xs ys as bs r w he ha hb x y
 unfold eqsAt at h
 split at h
 rotate_left
 ·cases h
 rename_i F hu
 simp only [bA,Bool.not_eq_true'] at h
 obtain ⟨h1,h2,h3⟩:=h
 have hF:P.fieldsOf t=F:=by simp [Program.fieldsOf,hu]
 have key:(Op.equalIn 10000 t (.agg as) (.agg bs)).run P w=.ok r w:=by
  have e1:=run_equalIn_struct (P:=P) w 9999 t as bs (by rw [hF];exact hu) h2
  rw [hF] at e1
  have e2:=eqFieldsN_run (P:=P) (S:=S) (w:=w) (as:=as) (bs:=bs) 9997 F.toList _ xs ys 0 r h1 he (by simpa using ha) (by simpa using hb)
  exact e1.trans e2
 constructor
 ·simp only [Sem.run_bind,run_eqGuard_agg w .eql t x y as bs h3,Result.andThen_ok,run_eql_struct,key]
 ·simp only [Sem.run_bind,run_eqGuard_agg w .neq t x y as bs h3,Result.andThen_ok,run_neq_struct,key]
theorem cond_kind {b:Bool} {fs:List (Nat×TypeId)} {k:TK} (h:(bif b then TK.struct fs else TK.other)=k):k=TK.struct fs∨k=TK.other:=by
 cases b
 ·exact .inr h.symm
 ·exact .inl h.symm
theorem ttOk_tiOf (P:Program):TtOk P (tiOf P) where
 slice t e h:=by
  have h:kindOf P t=.slice e:=h
  unfold kindOf at h
  split at h <;> first|(cases h;done)|(cases h;assumption)|(obtain h|h:=cond_kind h <;> cases h)
 struct t fs h:=by
  have h:kindOf P t=.struct fs:=h
  unfold kindOf at h
  split at h <;> (try cases h;done)
  rename_i F hu
  cases hb:F.toList.all (fun f=>match P.info? f.type with
   |some i=>i.size==szOf P f.type
   |none=>false) with
  |false=>rw [hb] at h;cases h
  |true =>
   rw [hb] at h
   simp only [cond_true,TK.struct.injEq] at h
   refine ⟨F,hu,h,fun f hf=>?_⟩
   have:=List.all_eq_true.1 hb f hf
   cases hi:P.info? f.type with
   |none=>rw [hi] at this;cases this
   |some i=>rw [hi] at this;exact ⟨i,rfl,by show i.size=szOf P f.type;simpa using this⟩
 array t n e h:=by
  have h:kindOf P t=.array n e:=h
  unfold kindOf at h
  split at h <;> first|(cases h;done)|(cases h;assumption)|(obtain h|h:=cond_kind h <;> cases h)
 int t k h:=by
  have h:kindOf P t=.int k:=h
  unfold kindOf at h
  split at h <;> first|(cases h;done)|(cases h;assumption)|(obtain h|h:=cond_kind h <;> cases h)
 bool t h:=by
  have h:kindOf P t=.bool:=h
  unfold kindOf at h
  split at h <;> first|(cases h;done)|(cases h;assumption)|(obtain h|h:=cond_kind h <;> cases h)
 str t h:=by
  have h:kindOf P t=.str:=h
  unfold kindOf at h
  split at h <;> first|(cases h;done)|(cases h;assumption)|(obtain h|h:=cond_kind h <;> cases h)
 ptr t e h:=by
  have h:kindOf P t=.ptr e:=h
  unfold kindOf at h
  split at h <;> first|(cases h;done)|(cases h;assumption)|(obtain h|h:=cond_kind h <;> cases h)
 info t h:=by
  obtain ⟨i,d,z,hi,hu,hz,hall,_,hs⟩:=szOf_info h
  refine ⟨i,z,hi,hs.symm,?_,hz,?_⟩
  ·show i.bytes=bytesOf P t
   simp [bytesOf,hi]
  ·show All2 _ (zeroOf P t) _
   simp only [zeroOf,hi,hz]
   refine All2.of (by simp) fun j a b ha hb=>?_
   rw [List.getElem?_map,hb] at ha
   simp only [Option.map_some,sI] at ha
   subst ha
   refine ⟨fun S=>?_,List.all_eq_true.1 hall b (List.mem_of_getElem? hb)⟩
   unfold ofValue1
   split <;> first|rfl|trivial
 agg t h:=by
  obtain ⟨i,d,z,hi,hu,hz,hall,_,hs⟩:=szOf_info h
  refine ⟨d,hu,?_⟩
  show aggOf P t=_
  unfold aggOf
  rw [hu]
  cases d <;> rfl
 one t h ha:=by
  obtain ⟨i,d,z,hi,hu,hz,hall,h1,hs⟩:=szOf_info h
  have ha:aggOf P t=false:=ha
  rcases h1 with h1|h1
  ·rw [ha] at h1;cases h1
  ·show szOf P t=1
   rw [hs,h1]
 ty t τ h:=by
  have h:tyAt P t=some τ:=h
  unfold tyAt at h
  split at h
  rotate_left
  ·cases h
  rename_i τ' i hτ hi
  split at h
  rotate_left
  ·cases h
  rename_i z hz
  split at h
  rotate_left
  ·cases h
  rename_i hzo
  obtain ⟨h1,h2⟩:=cond_some h
  injection h2 with h2
  subst h2
  simp only [bA,Nat.blt_eq,beq_iff_eq] at h1
  refine ⟨by show szOf P t ≠ 0;omega,h1.2.1,h1.2.2,fun i' z' hi' hz' B w=>?_⟩
  rw [hi] at hi'
  injection hi' with hi'
  subst hi'
  rw [hz] at hz'
  injection hz' with hz'
  subst hz'
  obtain ⟨y1,e,d⟩:=zOk_rel (B:=B) (w:=w) τ' hzo
  rw [List.append_nil] at e
  rw [e]
  exact d
 eqs t h:=eqsOk h
end
open Go.RowKit
def tiNone:TI:=⟨0,0,false,.other,[],false,none⟩
def fieldsIn (n:Nat) (x:TI):Bool:=match x.kind with
 |.struct fs=>fs.all fun f=>Nat.blt f.2 n
 |_=>true
theorem ttOk_of {P:Program} (L:List TI) (h:L=(List.range L.length).map (tiOf P)) (hf:L.all (fieldsIn L.length)=true):TtOk P (fun t=>L.getD t tiNone):=by
 have T:=ttOk_tiOf P
 have key:∀ t,t<L.length→L.getD t tiNone=tiOf P t:=by
  intro t ht
  have h1:L[t]? = ((List.range L.length).map (tiOf P))[t]? := by rw [← h]
  rw [List.getElem?_map,List.getElem?_range ht] at h1
  rw [List.getD_eq_getElem?_getD,h1]
  rfl
 have out:∀ t,¬ t<L.length→L.getD t tiNone=tiNone:=by
  intro t ht
  rw [List.getD_eq_getElem?_getD,List.getElem?_eq_none (by omega)]
  rfl
 have two:∀ t,L.getD t tiNone=tiOf P t∨L.getD t tiNone=tiNone:=fun t=>by
  by_cases ht:t<L.length
  ·exact .inl (key t ht)
  ·exact .inr (out t ht)
 refine ⟨fun t e hk=>?_,fun t fs hk=>?_,fun t n e hk=>?_,fun t k hk=>?_,fun t hk=>?_,fun t hk=>?_,fun t e hk=>?_,fun t hk=>?_,fun t hk=>?_,fun t hk ha=>?_,fun t τ hk=>?_,fun t hk=>?_⟩
 ·rcases two t with h1|h1 <;> simp only [h1] at hk
  ·exact T.slice t e hk
  ·cases hk
 ·by_cases ht:t<L.length
  ·have h1:=key t ht
   simp only [h1] at hk
   obtain ⟨F,h2,h3,h4⟩:=T.struct t fs hk
   refine ⟨F,h2,h3,fun f hfm=>?_⟩
   obtain ⟨i,h5,h6⟩:=h4 f hfm
   refine ⟨i,h5,?_⟩
   have h7:L[t]? = some (tiOf P t):=by
    rw [List.getD_eq_getElem?_getD,gE ht] at h1
    rw [gE ht]
    simpa using h1
   have h8:=List.all_eq_true.1 hf _ (List.mem_of_getElem? h7)
   unfold fieldsIn at h8
   rw [hk] at h8
   have h9:=List.all_eq_true.1 h8 (f.offset,f.type) (by rw [← h3];exact List.mem_map_of_mem hfm)
   have h10:f.type<L.length:=by simpa using h9
   rw [key f.type h10]
   exact h6
  ·simp only [out t ht] at hk;cases hk
 ·rcases two t with h1|h1 <;> simp only [h1] at hk
  ·exact T.array t n e hk
  ·cases hk
 ·rcases two t with h1|h1 <;> simp only [h1] at hk
  ·exact T.int t k hk
  ·cases hk
 ·rcases two t with h1|h1 <;> simp only [h1] at hk
  ·exact T.bool t hk
  ·cases hk
 ·rcases two t with h1|h1 <;> simp only [h1] at hk
  ·exact T.str t hk
  ·cases hk
 ·rcases two t with h1|h1 <;> simp only [h1] at hk
  ·exact T.ptr t e hk
  ·cases hk
 ·rcases two t with h1|h1 <;> simp only [h1] at hk ⊢
  ·exact T.info t hk
  ·exact absurd rfl hk
 ·rcases two t with h1|h1 <;> simp only [h1] at hk ⊢
  ·exact T.agg t hk
  ·exact absurd rfl hk
 ·rcases two t with h1|h1 <;> simp only [h1] at hk ha ⊢
  ·exact T.one t hk ha
  ·exact absurd rfl hk
 ·rcases two t with h1|h1 <;> simp only [h1] at hk ⊢
  ·exact T.ty t τ hk
  ·cases hk
 ·rcases two t with h1|h1 <;> simp only [h1] at hk ⊢
  ·exact T.eqs t hk
  ·cases hk
def lookD {α:Type}:List (Nat×Nat×List α)→Nat→Nat→List α
 | [],_,_=>[]
 |(f,r,x)::m,g,s=>bif f==g&&r==s then x else lookD m g s
def rg (l:List (Nat×Nat)):List Nat:=l.flatMap fun p=>(List.range (p.2+1 - p.1)).map (·+p.1)
def mkEnv (tt:Nat→TI) (sums:List (Nat×Summ)) (inl:List (Nat×Func)) (ds:List (Nat×Nat×List Ghost)) (ks:List (Nat×Nat×List Nat)) (k:Nat):Env :=
 { tt:=tt,sums:=sums,inl:=inl,dirs:=lookD ds,dead:=lookD ks,fuel:=k }
section
variable {R S:Type} {b:Bool} {x y:Option R} {f:R→Option S}
@[simp] theorem chk_true:chk true x=x:=rfl
@[simp] theorem chk_false:chk false x=none:=rfl
@[simp] theorem chk_bind:(chk b x).bind f=chk b (x.bind f):=by cases b <;> rfl
@[simp] theorem both_self:both x x=x:=by unfold both;simp
theorem chk_eq (h:b=true):chk b x=x:=by subst h;rfl
end
open Go.RowKit
def isAggB:V→Bool
 |.agg _=>true
 |_=>false
def decV (t:Ty) (v:V):Option t.den:=bif isAggB v==t.agg then decAll t v.cells else none
@[reducible] def Dens:List Ty→Type
 | []=>Unit
 | [t]=>t.den
 |t::ts=>t.den×Dens ts
def decL:(ts:List Ty)→List V→Option (Dens ts)
 | [],[]=>some ()
 | [t],[v]=>decV t v
 |t::u::ts,v::vs=>(decV t v).bind fun x=>(decL (u::ts) vs).bind fun y=>some (x,y)
 |_,_=>none
def encL:(ts:List Ty)→Dens ts→List V
 | [],_=>[]
 | [t],x=>[encV t x]
 |t::u::ts,x=>encV t x.1::encL (u::ts) x.2
theorem decV_rel {B:Ty×Nat→Prop} {w:World} {t:Ty} {v:V} {x:Value} {d:t.den} (hv:V3 (cxP B w) v x) (h:decV t v=some d):V3 (cxP B w) (encV t d) x:=by
 unfold decV at h
 obtain ⟨h1,h2⟩:=cond_some h
 have h1:isAggB v=t.agg:=by simpa using h1
 have idP:∀ v y,V0 (cxP B w) v y→V0 ⟨[],fun _=>none,B,w⟩ v y:=fun _ _ h=>h
 cases hag:t.agg with
 |true =>
  rw [hag] at h1
  cases v <;> simp only [isAggB,Bool.false_eq_true] at h1
  rename_i cs
  obtain ⟨ys,rfl,ha⟩:=hv
  have hd:=decAll_rel (S:=cxP B w) t idP ha h2
  have he:=(DRel.enc (S:=cxP B w) hd).mono fun _ _ hh=>hh.to
  unfold encV
  rw [hag]
  exact ⟨ys,rfl,he⟩
 |false =>
  rw [hag] at h1
  have hvt:v.isTup=false:=by
   cases v <;> first|rfl|(exfalso;revert h2;cases t <;> simp [decAll,V.cells,dec] <;> simp [Ty.agg] at hag)
  have hva:v.isAgg=false:=by cases v <;> first|rfl|simp [isAggB] at h1
  have hc:v.cells=[v]:=by cases v <;> first|rfl|simp [V.isAgg] at hva
  rw [hc] at h2
  have hv1:V1 (cxP B w) v x:=by
   rcases V3.cases hv with ⟨_,rfl,_⟩|⟨_,h3⟩
   ·simp [V.isTup] at hvt
   rcases V2.cases h3 with ⟨_,rfl,_⟩|⟨_,h4⟩
   ·simp [V.isAgg] at hva
   ·exact h4
  have hd:=decAll_rel (S:=cxP B w) (cs:=[v]) (ys:=[x]) t idP ⟨hv1,trivial⟩ h2
  have he:=(DRel.enc (S:=cxP B w) hd).mono fun _ _ hh=>hh.to
  unfold encV
  rw [hag]
  cases hu:enc t d with
  |nil=>rw [hu] at he;exact he.elim
  |cons u us =>
   rw [hu] at he
   cases us with
   |nil=>exact V3.of1 he.1
   |cons u2 us=>exact he.2.elim
theorem decL_rel {B:Ty×Nat→Prop} {w:World}:∀ (ts:List Ty) {vs:List V} {xs:List Value} {d:Dens ts},All2 (V3 (cxP B w)) vs xs→decL ts vs=some d→All2 (V3 (cxP B w)) (encL ts d) xs
 | [],vs,xs,d,ha,h=>by
  cases vs with
  |nil=>exact ha
  |cons v vs=>simp [decL] at h
 | [t],vs,xs,d,ha,h=>by
  cases vs with
  |nil=>simp [decL] at h
  |cons v vs =>
   cases vs with
   |nil =>
    cases xs with
    |nil=>exact ha.elim
    |cons x xs=>exact ⟨decV_rel ha.1 h,ha.2⟩
   |cons v2 vs=>simp [decL] at h
 |t::u::ts,vs,xs,d,ha,h=>by
  cases vs with
  |nil=>simp [decL] at h
  |cons v vs =>
   cases xs with
   |nil=>exact ha.elim
   |cons x xs =>
    simp only [decL] at h
    cases h1:decV t v with
    |none=>rw [h1] at h;cases h
    |some d1 =>
     rw [h1] at h
     cases h2:decL (u::ts) vs with
     |none=>rw [h2] at h;cases h
     |some d2 =>
      rw [h2] at h
      simp only [Option.bind_some,sI] at h
      subst h
      exact ⟨decV_rel ha.1 h1,decL_rel (u::ts) ha.2 h2⟩
def summ (ts:List Ty) (rt:Type) (f:Dens ts→Option rt) (res:rt→V):Summ:={ rt:=rt,call:=fun vs=>(decL ts vs).bind f,res:=res }
theorem sum_of {P:Program} (hm:P.follows .mixedOrders=true) {f:FuncId} {fn:Func} {code:Code} {ts:List Ty} {rt:Type} {g:Dens ts→Option rt} {res:rt→V} (hf:P.funcs[f]? = some fn) (hn:(fn.name == "runtime.NumGoroutine")=false) (hb:fn.body=some code)
  (h:∀ d x,g d=some x→∃ E c,TtOk P E.tt∧SumsOk P E∧InlOk P E∧evFn E c f fn (encL ts d)=some (res x)):SumOk P f (summ ts rt g res):=by
 refine ⟨⟨fn,code,hf,hn,hb⟩,fun B w vs xs x hB hv hx=>?_,fun m hm=>by cases hm⟩
 have hx:(decL ts vs).bind g=some x:=hx
 cases hd:decL ts vs with
 |none=>rw [hd] at hx;cases hx
 |some d =>
  rw [hd] at hx
  obtain ⟨E,c,hT,hS,hI,he⟩:=h d x hx
  exact evFn_sound hT hS hI (fun C r H hH=>drawOk hm hT hS H hH) hf hb he hB (decL_rel ts hv hd)
theorem inl_nil {P:Program} {tt:Nat→TI} {sums:List (Nat×Summ)} {ds:List (Nat×Nat×List Ghost)} {ks:List (Nat×Nat×List Nat)} {k:Nat}:InlOk P (mkEnv tt sums [] ds ks k):=fun g fn h=>by cases h
theorem inl_cons {P:Program} {tt:Nat→TI} {sums:List (Nat×Summ)} {ds:List (Nat×Nat×List Ghost)} {ks:List (Nat×Nat×List Nat)} {k g:Nat} {fn:Func} {inl:List (Nat×Func)} (h1:P.funcs[g]? = some fn) (h2:(fn.name == "runtime.NumGoroutine")=false) (h:InlOk P (mkEnv tt sums inl ds ks k)) :
  InlOk P (mkEnv tt sums ((g,fn)::inl) ds ks k):=by
 intro g' fn' he
 have he:(bif g==g' then some fn else lookF inl g')=some fn':=he
 by_cases hg:g=g'
 ·subst hg
  simp only [beq_self_eq_true,cond_true,sI] at he
  subst he
  exact ⟨h1,h2⟩
 ·have:(g==g')=false:=by simpa using hg
  rw [this] at he
  exact h g' fn' he
theorem sums_nil {P:Program} {tt:Nat→TI} {inl:List (Nat×Func)} {ds:List (Nat×Nat×List Ghost)} {ks:List (Nat×Nat×List Nat)} {k:Nat}:SumsOk P (mkEnv tt [] inl ds ks k):=fun g s h=>by cases h
theorem sums_cons {P:Program} {tt:Nat→TI} {sums:List (Nat×Summ)} {inl:List (Nat×Func)} {ds:List (Nat×Nat×List Ghost)} {ks:List (Nat×Nat×List Nat)} {k g:Nat} {s:Summ} (h1:SumOk P g s) (h:SumsOk P (mkEnv tt sums inl ds ks k)) :
  SumsOk P (mkEnv tt ((g,s)::sums) inl ds ks k):=by
 intro g' s' he
 have he:(bif g==g' then some s else lookS sums g')=some s':=he
 by_cases hg:g=g'
 ·subst hg
  simp only [beq_self_eq_true,cond_true,sI] at he
  subst he
  exact h1
 ·have:(g==g')=false:=by simpa using hg
  rw [this] at he
  exact h g' s' he
open Go.RowKit
def layFs (P:Program) (tot:Nat):Nat→List Field→Bool
 |o,[]=>o==tot
 |o,f::fs=>f.offset==o&&layFs P tot (o+P.cellsOf f.type) fs
def Ty.b:Ty→Nat
 |.int k=>k.bits / 8
 |.bool=>1
 |.str=>16
 |.list _=>24
 |.pair a b=>a.b+b.b
 |.one a=>a.b
def lay (P:Program):Nat→TypeId→Bool
 |0,_=>false
 |n+1,t=>match P.underlying t with
  |some (.slice e)=>lay P n e&&(match tyOf P n e with
   |some τ=>τ.size==P.cellsOf e&&τ.b.ble (P.bytesOf e)
   |none=>false)
  |some (.struct F)=>layFs P (P.cellsOf t) 0 F.toList&&F.toList.all fun f=>lay P n f.type&&(match tyOf P n f.type with
   |some τ=>τ.size==P.cellsOf f.type
   |none=>false)
  |_=>true
def SzD:(t:Ty)→t.den→Prop
 |.int _,_=>True
 |.bool,_=>True
 |.str,s=>s.size≤reachBytes
 |.list a,l=>l.length*a.b≤reachBytes∧∀ x∈l,SzD a x
 |.pair a b,x=>SzD a x.1∧SzD b x.2
 |.one a,x=>SzD a x
def LD {H:Type}:(t:Ty)→t.den→DataW H→Prop
 |.list a,l,d=>(l=[]∧d=.nil)∨∃ es sp,d=.slice es sp∧es.length=l.length∧∀ (i:Nat) (x:a.den) (y:DataW H),l[i]? = some x→es[i]? = some y→LD a x y
 |_,_,_=>True
def WfD:(t:Ty)→t.den→Prop
 |.int k,n=>k.min≤n∧n≤k.max
 |.bool,_=>True
 |.str,s=>s.size≤maxLen
 |.list a,l=>l.length≤maxLen∧∀ x∈l,WfD a x
 |.pair a b,x=>WfD a x.1∧WfD b x.2
 |.one a,x=>WfD a x
theorem mapM_at {α β:Type} {f:α→Option β}:∀ {l:List α} {r:List β},l.mapM f=some r→∀ {j:Nat} {x:α},l[j]? = some x→∃ y,r[j]? = some y∧f x=some y
 | [],r,h,j,x,hx=>by simp at hx
 |a::l,r,h,j,x,hx=>by
  simp only [List.mapM_cons,Option.bind_eq_bind,Option.bind_eq_some_iff,Option.pure_def,sI] at h
  obtain ⟨b,hb,bs,hbs,rfl⟩:=h
  cases j with
  |zero=>simp only [List.getElem?_cons_zero,sI] at hx;subst hx;exact ⟨b,rfl,hb⟩
  |succ j=>simpa using mapM_at hbs (j:=j) (by simpa using hx)
theorem mapM_len {α β:Type} {f:α→Option β}:∀ {l:List α} {r:List β},l.mapM f=some r→r.length=l.length
 | [],r,h=>by simp at h;subst h;rfl
 |a::l,r,h=>by
  simp only [List.mapM_cons,Option.bind_eq_bind,Option.bind_eq_some_iff,Option.pure_def,sI] at h
  obtain ⟨b,hb,bs,hbs,rfl⟩:=h
  simp [mapM_len hbs]
theorem exists_list {α:Type} {Q:Nat→α→Prop}:∀ (n:Nat),(∀ i,i<n→∃ x,Q i x)→∃ l:List α,l.length=n∧∀ (i:Nat) x,l[i]? = some x→Q i x
 |0,_=>⟨[],rfl,fun i x h=>by simp at h⟩
 |n+1,h=>by
  obtain ⟨l,hl,hq⟩:=exists_list n fun i hi=>h i (by omega)
  obtain ⟨x,hx⟩:=h n (by omega)
  refine ⟨l++[x],by simp [hl],fun i y hy=>?_⟩
  by_cases hi:i<n
  ·rw [List.getElem?_append_left (by omega)] at hy
   exact hq i y hy
  ·rw [List.getElem?_append_right (by omega)] at hy
   have:i=n:=by
    have:=(List.getElem?_eq_some_iff.1 hy).1
    simp at this
    omega
   subst this
   rw [hl,Nat.sub_self] at hy
   simp only [List.getElem?_cons_zero,sI] at hy
   subst hy
   exact hx
theorem cell_block_lt {w:World} {a:Addr} {z:Value} (h:w.cell? a=some z):a.block<w.heap.size:=by
 rcases Nat.lt_or_ge a.block w.heap.size with h1|h1
 ·exact h1
 ·exfalso
  unfold World.cell? at h
  rw [Array.getElem?_eq_none h1] at h
  cases h
section
variable {H:Type} {enc':TypeId×Value→H} {P:Program} {W:World} {base:Nat} {spare:Nat→Bool} {held:Bool}
def TrodAt (enc':TypeId×Value→H) (P:Program) (W:World) (base:Nat) (spare:Nat→Bool) (held:Bool) (t:TypeId) (τ:Ty):Prop :=
 ∀ (fuel:Nat) (cs:List Value) (z:DataW H×List MemPlace),DataW.trod enc' P W base spare held fuel t cs=some z→∃ x:τ.den,DRel (allB W) W τ x cs∧WfD τ x∧((z.1.weights P t).all (·≤reachBytes)=true→SzD τ x)∧LD τ x z.1
theorem weightsAll_mem {e:TypeId} {d:DataW H} {n:Nat}:∀ {l:List (DataW H)},d∈l→n∈d.weights P e→n∈DataW.weightsAll P e l
 | [],h,_=>by simp at h
 |x::l,h,hn=>by
  simp only [DataW.weightsAll,List.mem_append]
  rcases List.mem_cons.1 h with rfl|h
  ·exact .inl hn
  ·exact .inr (weightsAll_mem h hn)
theorem trod_tail {tot:Nat}:∀ (fs:List Field) (o:Nat) (τs:List (Option Ty)) (τ:Ty) (cs:List Value) (fuel:Nat) (zs:List (DataW H×List MemPlace)),All2 (fun f (q:Option Ty)=>∀ σ,q=some σ→TrodAt enc' P W base spare held f.type σ∧σ.size=P.cellsOf f.type) fs τs →
  tysTail τs=some τ→layFs P tot o fs=true→cs.length=tot→(fs.mapM fun f=>DataW.trod enc' P W base spare held fuel f.type ((cs.drop f.offset).take (P.cellsOf f.type)))=some zs→∃ x:τ.den,DRel (allB W) W τ x (cs.drop o)∧WfD τ x∧((DataW.weightsEach P (fs.map (·.type)) (zs.map (·.1))).all (·≤reachBytes)=true→SzD τ x)
 | [],o,τs,τ,cs,fuel,zs,ha,ht,_,_,_=>by
  cases τs with
  |nil=>simp [tysTail] at ht
  |cons q τs=>exact ha.elim
 |f::fs,o,τs,τ,cs,fuel,zs,ha,ht,hl,hc,hm=>by
  cases τs with
  |nil=>exact ha.elim
  |cons q τs =>
   simp only [layFs,bA,beq_iff_eq] at hl
   obtain ⟨ho,hl⟩:=hl
   simp only [List.mapM_cons,Option.bind_eq_bind,Option.bind_eq_some_iff,Option.pure_def,sI] at hm
   obtain ⟨z,hz,zs',hzs,rfl⟩:=hm
   rw [ho] at hz
   cases q with
   |none=>cases τs <;> simp [tysTail] at ht
   |some σ =>
    obtain ⟨hσ,hsz⟩:=ha.1 σ rfl
    obtain ⟨x,hx,hwx,hsx,_⟩:=hσ fuel _ z hz
    cases τs with
    |nil =>
     simp only [tysTail,sI] at ht
     subst ht
     cases fs with
     |cons f2 fs=>exact ha.2.elim
     |nil =>
      simp only [layFs,beq_iff_eq] at hl
      have:(cs.drop o).take (P.cellsOf f.type)=cs.drop o:=by
       apply List.take_of_length_le
       simp;omega
      rw [this] at hx
      refine ⟨x,hx,hwx,fun h=>hsx ?_⟩
      simp only [List.map_cons,DataW.weightsEach,List.all_append,bA] at h
      exact h.1
    |cons q2 τs =>
     simp only [tysTail,Option.map_eq_some_iff] at ht
     obtain ⟨ρ,hρ,rfl⟩:=ht
     obtain ⟨y,hy,hwy,hsy⟩:=trod_tail fs (o+P.cellsOf f.type) (q2::τs) ρ cs fuel zs' ha.2 hρ hl hc hzs
     refine ⟨(x,y),⟨_,_,?_,hx,hy⟩,⟨hwx,hwy⟩,fun h=>?_⟩
     ·rw [← List.drop_drop,List.take_append_drop]
     ·simp only [List.map_cons,DataW.weightsEach,List.all_append,bA] at h
      exact ⟨hsx h.1,hsy h.2⟩
theorem trod_rel:∀ (n:Nat) (t:TypeId) (τ:Ty),tyOf P n t=some τ→lay P n t=true→TrodAt enc' P W base spare held t τ
 |0,t,τ,h,_=>by simp [tyOf] at h
 |n+1,t,τ,h,hl=>by
  intro fuel cs z hz
  cases fuel with
  |zero=>simp [DataW.trod] at hz
  |succ fuel =>
   simp only [tyOf] at h
   cases hu:P.underlying t with
   |none=>rw [hu] at h;cases h
   |some d =>
    rw [hu] at h
    cases d <;> simp only [reduceCtorEq] at h
    case bool =>
     injection h with h
     subst h
     rcases cs with _|⟨c,_|⟨c2,cs⟩⟩ <;> (try (simp [DataW.trod,hu] at hz;done))
     cases c <;> (try (simp [DataW.trod,hu] at hz;done))
     exact ⟨_,rfl,trivial,fun _=>trivial,trivial⟩
    case int k =>
     injection h with h
     subst h
     rcases cs with _|⟨c,_|⟨c2,cs⟩⟩ <;> (try (simp [DataW.trod,hu] at hz;done))
     cases c <;> (try (simp [DataW.trod,hu] at hz;done))
     rename_i k1 m
     simp only [DataW.trod,hu] at hz
     split at hz
     ·rename_i hk
      obtain ⟨rfl,hw⟩:=hk
      refine ⟨m,rfl,?_,fun _=>trivial,trivial⟩
      simpa [Lit.wf,WfD] using hw
     ·cases hz
    case string =>
     injection h with h
     subst h
     rcases cs with _|⟨c,_|⟨c2,cs⟩⟩ <;> (try (simp [DataW.trod,hu] at hz;done))
     cases c <;> (try (simp [DataW.trod,hu] at hz;done))
     rename_i s
     simp only [DataW.trod,hu] at hz
     split at hz
     ·rename_i hk
      injection hz with hz
      subst hz
      refine ⟨s,rfl,hk,fun h=>?_,trivial⟩
      simpa [DataW.weights,SzD] using h
     ·cases hz
    case slice e =>
     rw [Option.map_eq_some_iff] at h
     obtain ⟨σ,hσ,rfl⟩:=h
     simp only [lay,hu,hσ,bA,beq_iff_eq] at hl
     have ih:=trod_rel n e σ hσ hl.1
     rcases cs with _|⟨c,_|⟨c2,cs⟩⟩ <;> (try (simp [DataW.trod,hu] at hz;done))
     cases c <;> (try (simp [DataW.trod,hu] at hz;done))
     rename_i a? len cap
     cases a? with
     |none =>
      cases len with
      |succ len=>simp [DataW.trod,hu] at hz
      |zero =>
       cases cap with
       |succ cap=>simp [DataW.trod,hu] at hz
       |zero =>
        have hz:(DataW.nil,[])=z:=by simpa [DataW.trod,hu] using hz
        subst hz
        exact ⟨[],⟨none,0,rfl,Nat.le_refl _,fun i x hx=>by simp at hx⟩,⟨by simp,by simp⟩,fun _=>⟨by simp,by simp⟩,.inl ⟨rfl,rfl⟩⟩
     |some a =>
      simp only [DataW.trod,hu] at hz
      split at hz
      rotate_left
      ·cases hz
      rename_i hcond
      rw [Option.bind_eq_some_iff] at hz
      obtain ⟨elems,hel,hz⟩:=hz
      rw [Option.map_eq_some_iff] at hz
      obtain ⟨rest,_,hz⟩:=hz
      subst hz
      have hq:∀ i,i<len→∃ x:σ.den,(∃ zs,DRel (allB W) W σ x zs∧∀ (j:Nat) y,zs[j]? = some y→W.cell? (a.add (i*σ.size+j))=some y)∧WfD σ x∧((DataW.weightsAll P e (elems.map (·.1))).all (·≤reachBytes)=true→SzD σ x)∧∀ y,(elems.map (·.1))[i]? = some y→LD σ x y:=by
       intro i hi
       obtain ⟨y,hyi,hy⟩:=mapM_at hel (j:=i) (x:=i) (by simp [hi])
       rw [Option.bind_eq_some_iff] at hy
       obtain ⟨zs,hzs,hty⟩:=hy
       obtain ⟨x,hx,hwx,hsx,hlx⟩:=ih fuel zs y hty
       refine ⟨x,⟨zs,hx,fun j u hj=>?_⟩,hwx,fun h=>hsx (List.all_eq_true.2 fun n hn=>List.all_eq_true.1 h n (weightsAll_mem (List.mem_map_of_mem (List.mem_of_getElem? hyi)) hn)),fun u hu=>?_⟩
       rotate_left
       ·rw [List.getElem?_map,hyi] at hu
        simp only [Option.map_some,sI] at hu
        subst hu
        exact hlx
       unfold World.cells? at hzs
       split at hzs
       ·have hjl:j<P.cellsOf e:=by
         have:=(List.getElem?_eq_some_iff.1 hj).1
         rw [mapM_len hzs] at this
         simpa using this
        obtain ⟨u',hu',hc⟩:=mapM_at hzs (j:=j) (x:=j) (by simp [hjl])
        rw [hj] at hu'
        injection hu' with hu'
        subst hu'
        rw [← hc,Addr.add_add,hl.2.1]
       ·cases hzs
      obtain ⟨l,hlen,hall⟩:=exists_list len hq
      refine ⟨l,⟨some a,cap,by rw [hlen],by rw [hlen];exact hcond.2.1,fun i x hx=>?_⟩,⟨by rw [hlen];omega,fun x hx=>?_⟩,fun h=>?_,.inr ⟨_,_,rfl,?_,fun i x y hx hy=>(hall i x hx).2.2.2 y hy⟩⟩
      rotate_right
      ·rw [List.length_map,hlen,mapM_len hel,List.length_range]
      ·obtain ⟨⟨zs,h1,h2⟩,_⟩:=hall i x hx
       refine ⟨a,zs,rfl,?_,h1,h2⟩
       have hpos:0<zs.length:=by rw [h1.length];exact σ.size_pos
       have:=cell_block_lt (h2 0 _ (gE hpos))
       rwa [Addr.add_block] at this
      ·obtain ⟨i,hi⟩:=List.getElem?_of_mem hx
       exact (hall i x hi).2.1
      ·simp only [DataW.weights,hu,List.all_cons,List.all_append,bA,dE,List.length_map] at h
       obtain ⟨h1,h2,_⟩:=h
       refine ⟨?_,fun x hx=>?_⟩
       ·rw [hlen]
        have h3:elems.length=len:=by rw [mapM_len hel,List.length_range]
        refine Nat.le_trans (Nat.mul_le_mul_left len (Nat.le_of_ble_eq_true hl.2.2)) (Nat.le_trans (Nat.mul_le_mul_right _ ?_) h1)
        omega
       ·obtain ⟨i,hi⟩:=List.getElem?_of_mem hx
        exact (hall i x hi).2.2.1 h2
    case struct F =>
     simp only [lay,hu,bA] at hl
     obtain ⟨hlf,hall⟩:=hl
     simp only [DataW.trod,hu] at hz
     split at hz
     rotate_left
     ·cases hz
     rename_i hc
     rw [Option.map_eq_some_iff] at hz
     obtain ⟨zs,hzs,hz⟩:=hz
     subst hz
     have ha:All2 (fun f (q:Option Ty)=>∀ σ,q=some σ→TrodAt enc' P W base spare held f.type σ∧σ.size=P.cellsOf f.type) F.toList (F.toList.map fun f=>tyOf P n f.type):=by
      refine All2.of (by simp) fun i f q hf hq σ hσ=>?_
      rw [List.getElem?_map,hf] at hq
      simp only [Option.map_some,sI] at hq
      have h1:=List.all_eq_true.1 hall f (List.mem_of_getElem? hf)
      rw [hq,hσ] at h1
      simp only [bA,beq_iff_eq] at h1
      exact ⟨trod_rel n f.type σ (by rw [hq,hσ]) h1.1,h1.2⟩
     cases hms:F.toList.map (fun f=>tyOf P n f.type) with
     |nil=>rw [hms] at h;simp [tysTop,tysTail] at h
     |cons q qs =>
      rw [hms] at h ha
      cases qs with
      |nil =>
       cases q with
       |none=>simp [tysTop] at h
       |some σ =>
        simp only [tysTop,Option.map_some,sI] at h
        subst h
        obtain ⟨x,hx,hwx,hsx⟩:=trod_tail F.toList 0 [some σ] σ cs fuel zs ha rfl hlf hc hzs
        rw [List.drop_zero] at hx
        refine ⟨x,hx,hwx,fun h=>hsx ?_,trivial⟩
        simpa only [DataW.weights,hu] using h
      |cons q2 qs =>
       have h:tysTail (q::q2::qs)=some τ:=h
       obtain ⟨x,hx,hwx,hsx⟩:=trod_tail F.toList 0 (q::q2::qs) τ cs fuel zs ha h hlf hc hzs
       refine ⟨x,by simpa using hx,hwx,fun h=>hsx ?_,by cases τ <;> first|trivial|(exfalso;cases q with|none=>simp [tysTail] at h|some σ=>simp only [tysTail,Option.map_eq_some_iff] at h;obtain ⟨_,_,h⟩:=h;cases h)⟩
       simpa only [DataW.weights,hu] using h
end
open Go.RowKit Go.WideShapes Go.ChangeShapes
@[reducible] def WfL:(ts:List Ty)→Dens ts→Prop
 | [],_=>True
 | [t],x=>WfD t x
 |t::u::ts,x=>WfD t x.1∧WfL (u::ts) x.2
@[reducible] def SzL:(ts:List Ty)→Dens ts→Prop
 | [],_=>True
 | [t],x=>SzD t x
 |t::u::ts,x=>SzD t x.1∧SzL (u::ts) x.2
@[reducible] def LDL {H:Type}:(ts:List Ty)→Dens ts→List (DataW H)→Prop
 | [t],x,[d]=>LD t x d
 |t::u::ts,x,d::ds=>LD t x.1 d∧LDL (u::ts) x.2 ds
 |_,_,_=>True
section
variable {H:Type} {enc':TypeId×Value→H} {P:Program} {W W':World} {base:Nat} {spare:Nat→Bool} {held:Bool}
theorem shape_of {n:Nat} {t:TypeId} {τ:Ty} {v:Value} (h:tyOf P n t=some τ) (hok:Value.okWide P W .any base t v) :
  (τ.agg=true∧∃ cs,v=.agg cs)∨(τ.agg=false∧v.cells.toList=[v]):=by
 cases n with
 |zero=>simp [tyOf] at h
 |succ n =>
  simp only [tyOf] at h
  cases hu:P.underlying t with
  |none=>rw [hu] at h;cases h
  |some d =>
   rw [hu] at h
   cases d <;> simp only [reduceCtorEq] at h
   case bool =>
    injection h with h;subst h
    obtain ⟨b,rfl⟩:=okWide_bool hu hok
    exact .inr ⟨rfl,by simp [Value.cells]⟩
   case int k =>
    injection h with h;subst h
    obtain ⟨b,rfl⟩:=okWide_int hu hok
    exact .inr ⟨rfl,by simp [Value.cells]⟩
   case string =>
    injection h with h;subst h
    obtain ⟨b,rfl⟩:=okWide_string hu hok
    exact .inr ⟨rfl,by simp [Value.cells]⟩
   case slice e =>
    rw [Option.map_eq_some_iff] at h
    obtain ⟨σ,hσ,rfl⟩:=h
    obtain ⟨a,l,c,rfl⟩:=okWide_slice hu hok
    exact .inr ⟨rfl,by simp [Value.cells]⟩
   case struct F =>
    obtain ⟨cs,rfl,_⟩:=okWide_struct hu hok
    refine .inl ⟨?_,cs,rfl⟩
    cases hms:F.toList.map (fun f=>tyOf P n f.type) with
    |nil=>rw [hms] at h;simp [tysTop,tysTail] at h
    |cons q qs =>
     rw [hms] at h
     cases qs with
     |nil =>
      cases q with
      |none=>simp [tysTop] at h
      |some σ=>simp only [tysTop,Option.map_some,sI] at h;subst h;rfl
     |cons q2 qs =>
      cases q with
      |none=>simp [tysTop,tysTail] at h
      |some σ =>
       simp only [tysTop,tysTail,Option.map_eq_some_iff] at h
       obtain ⟨ρ,hρ,rfl⟩:=h
       rfl
theorem arg_rel {n:Nat} {t:TypeId} {τ:Ty} {v:Value} {d:DataW H} {p:List MemPlace} {base':Nat} (ht:tyOf P n t=some τ) (hl:lay P n t=true) (hok:Value.okWide P W .any base' t v) (hd:DataW.Trod enc' P W base spare held t v d p) :
  ∃ x:τ.den,V3 (cxP (allB W) W) (encV τ x) v∧WfD τ x∧((d.weights P t).all (·≤reachBytes)=true→SzD τ x)∧LD τ x d:=by
 obtain ⟨fuel,hf⟩:=hd
 obtain ⟨x,hx,hw,hs,hld⟩:=trod_rel n t τ ht hl fuel _ _ hf
 refine ⟨x,?_,hw,hs,hld⟩
 have he:=(DRel.enc (S:=cxP (allB W) W) hx).mono fun _ _ hh=>hh.to
 unfold encV
 rcases shape_of ht hok with ⟨ha,cs,rfl⟩|⟨ha,hc⟩
 ·rw [ha]
  exact ⟨cs,rfl,by simpa [Value.cells] using he⟩
 ·rw [ha]
  rw [hc] at he
  cases hu:enc τ x with
  |nil=>rw [hu] at he;exact he.elim
  |cons u us =>
   rw [hu] at he
   cases us with
   |nil=>exact V3.of1 he.1
   |cons u2 us=>exact he.2.elim
theorem args_rel {n base':Nat}:∀ (ts:List TypeId) (τs:List Ty) {vs:List Value} {ds:List (DataW H)} {ps:List MemPlace},DataW.TrodAll enc' P W base spare held ts vs ds ps→ts.map (tyOf P n)=τs.map some→ts.all (lay P n)=true →
  (∀ (j:Nat) t v,ts[j]? = some t→vs[j]? = some v→Value.okWide P W .any base' t v) →
  ∃ d:Dens τs,All2 (V3 (cxP (allB W) W)) (encL τs d) vs∧WfL τs d∧((DataW.weightsEach P ts ds).all (·≤reachBytes)=true→SzL τs d)∧LDL τs d ds
 | [],τs,vs,ds,ps,h,hτ,_,_=>by
  cases τs with
  |cons _ _=>simp at hτ
  |nil =>
   cases vs with
   |cons _ _=>cases ds <;> exact h.elim
   |nil=>exact ⟨(),trivial,trivial,fun _=>trivial,trivial⟩
 |t::ts,τs,vs,ds,ps,h,hτ,hl,hok=>by
  cases τs with
  |nil=>simp at hτ
  |cons τ τs =>
   cases vs with
   |nil=>exact h.elim
   |cons v vs =>
    cases ds with
    |nil=>exact h.elim
    |cons d ds =>
     obtain ⟨p,q,h1,h2,rfl⟩:=h
     simp only [List.map_cons,List.cons.injEq] at hτ
     simp only [List.all_cons,bA] at hl
     obtain ⟨x,hx,hw,hs,hld⟩:=arg_rel hτ.1 hl.1 (hok 0 t v rfl rfl) h1
     obtain ⟨y,hy,hwy,hsy,hldy⟩:=args_rel ts τs h2 hτ.2 hl.2 fun j t' v' hj hv=>hok (j+1) t' v' hj hv
     cases τs with
     |nil =>
      cases vs with
      |cons _ _=>exact hy.elim
      |nil =>
       refine ⟨x,⟨hx,trivial⟩,hw,fun hz=>hs ?_,by cases ds <;> first|exact hld|trivial⟩
       simp only [DataW.weightsEach,List.all_append,bA] at hz
       exact hz.1
     |cons τ2 τs =>
      refine ⟨(x,y),⟨hx,hy⟩,⟨hw,hwy⟩,fun hz=>?_,hld,hldy⟩
      simp only [DataW.weightsEach,List.all_append,bA] at hz
      exact ⟨hs hz.1,hsy hz.2⟩
theorem args_back (hlo:laidOutB P=true) (hb:Below W.heap.size W W'):∀ (ts:List TypeId) {vs:List Value} {ds:List (DataW H)} {ps:List MemPlace},DataW.TrodAll enc' P W 0 (fun _=>true) true ts vs ds ps →
  ts.all (fun t=>P.readableRec t&&decide (t<P.types.size))=true→DataW.TrodAll enc' P W' 0 (fun b=>decide (b<W.heap.size)) true ts vs ds ps
 | [],vs,ds,ps,h,_=>by cases vs <;> cases ds <;> exact h
 |t::ts,vs,ds,ps,h,hr=>by
  cases vs with
  |nil=>exact h.elim
  |cons v vs =>
   cases ds with
   |nil=>exact h.elim
   |cons d ds =>
    obtain ⟨p,q,h1,h2,rfl⟩:=h
    simp only [List.all_cons,bA,dE] at hr
    refine ⟨p,q,Below.trod hlo hr.1.1 hr.1.2 h1 hb ?_,args_back hlo hb ts h2 hr.2,rfl⟩
    obtain ⟨m,hm⟩:=h1
    exact DataW.trod_lt m _ _ _ hm
theorem law_calls (hm:P.follows .mixedOrders=true) {f:FuncId} {fn:Func} {code:Code} (hf:P.funcs[f]? = some fn) (hb:fn.body=some code) {n base':Nat} {τs:List Ty} (hτ:fn.params.toList.map (tyOf P n)=τs.map some) (hl:fn.params.toList.all (lay P n)=true)
  {args:Array Value} {ds:List (DataW H)} {p:List MemPlace} (hev:∀ d:Dens τs,WfL τs d→SzL τs d→LDL τs d ds→∃ E c,TtOk P E.tt∧SumsOk P E∧InlOk P E∧evFn E c f fn (encL τs d)=some (.bool true))
  (hA:DataW.TrodAll enc' P W 0 (fun _=>true) true fn.params.toList args.toList ds p)
  (hval:∀ (j:Nat) t v,fn.params[j]? = some t→args[j]? = some v→Value.okWide P W .any base' t v) (hsz:(DataW.weightsEach P fn.params.toList ds).all (·≤reachBytes)=true) :
  Calls P f args W fun e W'=>e=.returned (.bool true)∧Below W.heap.size W W':=by
 obtain ⟨d,hd,hw,hs,hld⟩:=args_rel (base':=base') fn.params.toList τs hA hτ hl fun j t v hj hv=>hval j t v (by simpa using hj) (by simpa using hv)
 obtain ⟨E,c,hT,hS,hI,he⟩:=hev d hw (hs hsz) hld
 refine (evFn_sound hT hS hI (fun C r H hH=>drawOk hm hT hS H hH) hf hb he (fun b hb=>hb) hd).mono fun e W' ⟨y,hy,hret⟩=>?_
 obtain ⟨hg,Ls,hL⟩:=hret
 have hv:=hL.val 0
 have:y=.bool true:=hv
 subst this
 exact ⟨hy,hg.os,hg.tape,hg.output,hg.size,hg.block⟩
end
theorem wrap64 {n:Int} (h:-9223372036854775808≤n∧n≤9223372036854775807):Go.IntKind.i64.wrap n=n:=by
 rw [IntKind.wrap_i64];omega
theorem wrap_succ {i:Nat} (h:i<4611686018427387904):Go.IntKind.i64.wrap ((i:Int)+1)=((i+1:Nat):Int):=by
 rw [wrap64 (by omega)];omega
theorem sum_k {P:Program} (hm:P.follows .mixedOrders=true) {f:FuncId} {fn:Func} {code:Code} {ts:List Ty} {rt:Type} {g:Dens ts→Option rt} {res:rt→V} {c:Nat} (E:Nat→Env) (hf:P.funcs[f]? = some fn) (hn:(fn.name == "runtime.NumGoroutine")=false) (hb:fn.body=some code)
  (hT:∀ k,TtOk P (E k).tt) (hS:∀ k,SumsOk P (E k)) (hI:∀ k,InlOk P (E k)) (h:∀ d x,g d=some x→∃ k,evFn (E k) c f fn (encL ts d)=some (res x)):SumOk P f (summ ts rt g res) :=
 sum_of hm hf hn hb fun d x hx=>by
  obtain ⟨k,hk⟩:=h d x hx
  exact ⟨E k,c,hT k,hS k,hI k,hk⟩
theorem cT {α:Type} {x y:α}:(bif true then x else y)=x:=Eq.trans rfl rfl
theorem cF {α:Type} {x y:α}:(bif false then x else y)=y:=Eq.trans rfl rfl
theorem kT {R:Type} {x:Option R}:chk true x=x:=Eq.trans rfl rfl
theorem bS {α β:Type} {x:α} {f:α→Option β}:(some x).bind f=f x:=Eq.trans rfl rfl
section
variable {α β σ R:Type}
theorem idx_lt {l:List α} {i:Nat} {x:α} (h:l[i]? = some x):i<l.length:=(List.getElem?_eq_some_iff.1 h).1
theorem idx_lt' {l:List α} {i:Nat} {x:α} (h:l[i]? = some x):decide ((i:Int)<(l.length:Int))=true:=by
 have:=idx_lt h
 simp;omega
theorem idx_in {l:List α} {i:Nat} {x:α} (h:l[i]? = some x):decide (0≤(i:Int)∧(i:Int)<(l.length:Int))=true:=by
 have:=idx_lt h
 simp;omega
theorem end_lt (l:List α):decide (((l.length:Nat):Int)<(l.length:Int))=false:=by simp
theorem rd_some {t:Ty} {l:List t.den} {i:Nat} {x:t.den} (h:l[i]? = some x):rd t l (i:Int)=x:=by
 unfold rd
 rw [Int.toNat_natCast,List.getD_eq_getElem?_getD,h]
 rfl
theorem loop_any (L:Nat→Nat→Option R) (xs:List α) (p:α→Bool) (yes no:Option R)
  (h1:∀ n i x,xs[i]? = some x→L (n+1) i=bif p x then yes else L n (i+1)) (h2:∀ n,L (n+1) xs.length=no) :
  ∀ n i,i≤xs.length→xs.length<n+i→L n i=bif (xs.drop i).any p then yes else no
 |0,i,hi,h=>by omega
 |n+1,i,hi,h=>by
  by_cases hlt:i<xs.length
  ·rw [h1 n i _ (gE hlt),List.drop_eq_getElem_cons hlt,List.any_cons,loop_any L xs p yes no h1 h2 n (i+1) (by omega) (by omega)]
   cases p xs[i] <;> simp
  ·obtain rfl:i=xs.length:=by omega
   rw [h2,List.drop_length]
   rfl
theorem loop_any0 (L:Nat→Nat→Option R) (xs:List α) (p:α→Bool) (yes no:Option R)
  (h1:∀ n i x,xs[i]? = some x→L (n+1) i=bif p x then yes else L n (i+1)) (h2:∀ n,L (n+1) xs.length=no) {n:Nat} (h:xs.length<n) :
  L n 0=bif xs.any p then yes else no:=by
 have:=loop_any L xs p yes no h1 h2 n 0 (Nat.zero_le _) (by omega)
 simpa using this
def sameB [BEq α] (a b:List α):Bool:=a==b
theorem sameB_ne [BEq α] [LawfulBEq α] {a b:List α} (h:a ≠ b):sameB a b=false:=by simpa [sameB] using h
theorem any_zip_ne [BEq α] [LawfulBEq α]:∀ {a b:List α},a.length=b.length→((a.zip b).any fun x=>x.1 != x.2)=!(a==b)
 | [],[],_=>rfl
 |x::a,y::b,h=>by
  simp only [List.length_cons,Nat.add_right_cancel_iff] at h
  rw [List.zip_cons_cons,List.any_cons,any_zip_ne h]
  simp [bne,Bool.not_and]
 | [],_::_,h=>by simp at h
 |_::_,[],h=>by simp at h
theorem zip_get {a:List α} {b:List β} {i:Nat} {x:α×β} (h:(a.zip b)[i]? = some x):a[i]? = some x.1∧b[i]? = some x.2:=by
 rw [List.getElem?_zip_eq_some] at h
 exact h
end
abbrev eL:=Int×Int×Int
abbrev eP:=Int×List Int
abbrev eG:=(Int×Int)×List Int
abbrev eC:=(Int×Int)×List eP
abbrev eR:=(Int×Int)×Int×Int×Int×Int×Int×List eC
abbrev qI:Ty:=.int Go.IntKind.i64
abbrev V.u:V:=.undef
noncomputable abbrev cd (f:Go.Func):Go.Code:=f.body.getD .skip
abbrev un (n:Nat):List V:=List.replicate n .undef
abbrev qS:Ty:=.pair qI qI
abbrev qP:Ty:=.pair qI (.list qI)
abbrev qC:Ty:=.pair qS (.list qP)
abbrev qG:Ty:=.pair qS (.list qI)
abbrev qL:Ty:=.pair qI qS
abbrev qR:Ty:=.pair qS (.pair qI (.pair qI (.pair qI (.pair qI (.pair qI (.list qC))))))
end
end Go.Proofs.YtkflbkcfabnomaaGreat.R
