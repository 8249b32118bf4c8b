import Derived.Test.YtkflbkcfabnomaaGreatP9e
import Derived.Test.YtkflbkcfabnomaaGreatRows
import Derived.WalkKit
import Derived.ProofKit
namespace Go.Proofs.YtkflbkcfabnomaaGreat.R
set_option linter.unusedVariables false
set_option linter.unusedSimpArgs false
section
set_option maxRecDepth 100000
def coreStep (gl:List Lk) (f:List Int) (st:List Bool) (v:Int):List Bool:=st.set v.toNat (rdB st v&&decide (onA gl f st v ≥ 0))
def coreRound (gl:List Lk) (f:List Int) (m:Nat) (st:List Bool):List Bool:=(upto m).foldl (coreStep gl f) st
def coreN (gl:List Lk) (f:List Int) (m:Nat):Nat→List Bool→List Bool
 |0,st=>st
 |n+1,st=>coreN gl f m n (coreRound gl f m st)
def coreOf (g:Gr) (f:List Int):List Bool:=coreN g.2 f g.1.toNat g.1.toNat (List.replicate g.1.toNat true)
theorem coreStep_len (gl:List Lk) (f:List Int) (st:List Bool) (v:Int):(coreStep gl f st v).length=st.length:=by simp [coreStep]
theorem coreFold_len (gl:List Lk) (f:List Int):∀ (l:List Int) (st:List Bool),(l.foldl (coreStep gl f) st).length=st.length
 | [],st=>rfl
 |v::l,st=>by rw [List.foldl_cons,coreFold_len gl f l,coreStep_len]
theorem coreRound_len (gl:List Lk) (f:List Int) (m:Nat) (st:List Bool):(coreRound gl f m st).length=st.length:=coreFold_len gl f _ st
theorem f244.l1_is (k m0:Nat) {g:Gr} (hg:graphMay g=true) {f:List Int} (hf:f.length=g.2.length) (r:Int):∀ (n i:Nat) (st:List Bool),i≤g.1.toNat→g.1.toNat<n+i→st.length=g.1.toNat →
  f244.l1 k n m0 f g.1 r (st.length:Int) (i:Int) g.2 st=f244.l0 k m0 f g.1 (Go.IntKind.i64.wrap (r+1)) g.2 (((upto g.1.toNat).drop i).foldl (coreStep g.2 f) st)
 |0,i,st,h,h',_=>by omega
 |n+1,i,st,h,h',hs=>by
  have hp:=graphMay_parts hg
  rw [f244.l1_eq]
  by_cases hlt:i<g.1.toNat
  ·have hu:i<(upto g.1.toNat).length:=by rw [upto_length];exact hlt
   have hv:(upto g.1.toNat)[i]=(i:Int):=(List.getElem?_eq_some_iff.1 (upto_get hlt)).2
   have c1:decide ((0:Int)≤(i:Int)∧(i:Int)<(st.length:Int))=true:=dT (by omega)
   have c2:onForm (((g.1,g.2),f,st,(i:Int)):Gr×(List Int×(List Bool×Int)))=true:=by
    unfold onForm
    dsimp only
    rw [show graphMay (g.1,g.2)=true from hg,hf,hs,show (((g.1.toNat:Nat):Int)==g.1)=true by simp;omega]
    simp
   have e1:rd Ty.bool st (((i:Int).toNat:Nat):Int)=rdB st (i:Int):=by rw [Int.toNat_natCast];rfl
   have hw:Go.IntKind.i64.wrap ((i:Int)+1)=((i+1:Nat):Int):=wrap_succ (by omega)
   have es:coreStep g.2 f st (i:Int)=st.set (i:Int).toNat (rdB st (i:Int)&&decide (onA g.2 f st (i:Int) ≥ 0)):=rfl
   have ih:=f244.l1_is k m0 hg hf r n (i+1) (coreStep g.2 f st (i:Int)) (by omega) (by omega) (by rw [coreStep_len,hs])
   rw [coreStep_len] at ih
   rw [dT (by omega:(i:Int)<(st.length:Int)),cT,c1,kT,e1,c2,kT,bS,kT,kT,List.drop_eq_getElem_cons hu,hv,List.foldl_cons,← ih,es,hw]
   cases rdB st (i:Int) <;> simp only [cT,cF,tA,fA]
  ·obtain rfl:i=g.1.toNat:=by omega
   rw [dF (by omega:¬ ((g.1.toNat:Nat):Int)<(st.length:Int)),cF,List.drop_eq_nil_of_le (by rw [upto_length];omega)]
   rfl
theorem f244.l0_is (k:Nat) {g:Gr} (hg:graphMay g=true) {f:List Int} (hf:f.length=g.2.length) (hk:9≤k):∀ (n j:Nat) (st:List Bool),j<n→j≤g.1.toNat→st.length=g.1.toNat →
  f244.l0 k n f g.1 (g.1 - (j:Int)) g.2 st=some (.own .bool (coreN g.2 f g.1.toNat j st))
 |0,j,st,h,_,_=>by omega
 |n+1,0,st,h,hj,hs=>by
  rw [f244.l0_eq,dF (by omega:¬ g.1 - ((0:Nat):Int)<g.1),cF]
  rfl
 |n+1,j+1,st,h,hj,hs=>by
  have hp:=graphMay_parts hg
  have e:=f244.l1_is k n hg hf (g.1 - ((j+1:Nat):Int)) k 0 st (by omega) (by omega) hs
  have hw:Go.IntKind.i64.wrap (g.1 - ((j+1:Nat):Int)+1)=g.1 - (j:Int):=by rw [wrap64 (by omega)];omega
  rw [f244.l0_eq,dT (by omega:g.1 - ((j+1:Nat):Int)<g.1),cT]
  refine e.trans ?_
  rw [hw,List.drop_zero]
  exact f244.l0_is k hg hf hk n j (coreRound g.2 f g.1.toNat st) (by omega) (by omega) (by rw [coreRound_len,hs])
def flowForm (d:Gr×List Int):Bool:=graphMay d.1&&(d.2.length==d.1.2.length)
noncomputable def S244:Summ:=summ [tG,tL] (List Bool) (fun (d:Gr×List Int)=>chk (flowForm d) (some (coreOf d.1 d.2))) (.own .bool)
theorem ok244:SumOk Tryz.prog 244 S244 :=
 sumq f244.E (fn:=Tryz.f244) (code:=f244.code) f244.sums f244.inl fun (d:Gr×List Int) x hx=>by
  obtain ⟨g,f⟩:=d
  obtain ⟨h,hx⟩:=chk_some hx
  obtain rfl:=oJ hx
  unfold flowForm at h
  rw [bA] at h
  obtain ⟨hg,hf⟩:=h
  have hg:graphMay g=true:=hg
  have hf:f.length=g.2.length:=eq_of_beq hf
  have hp:=graphMay_parts hg
  refine ⟨9,(f244.eq _ g f).trans ?_⟩
  have:=f244.l0_is 9 hg hf (by omega) 9 g.1.toNat (List.replicate g.1.toNat true) (by omega) (by omega) (by simp)
  rw [show g.1 - ((g.1.toNat:Nat):Int)=0 by omega] at this
  rw [show ([true]==[true]&&decide ((1:Int)≤g.1∧g.1≤(8:Int)))=true by rw [dT (by omega:(1:Int)≤g.1∧g.1≤(8:Int))];rfl,kT,bS]
  exact this
end
section
set_option maxRecDepth 100000
noncomputable def f220.E (k:Nat):Env:=mkEnv tt [(78,S78),(247,S247),(244,S244),(245,S245),(246,S246)] [] [(220,7,[.kill (rg [(0,0),(3,4),(6,6),(9,53)]),.tidy])] [] k
noncomputable def f220.code:Go.Code:=cd Tryz.f220
noncomputable def f220.l0 (k n:Nat) (p0:List Int) (p1:Int) (p2:List (eL)) (p3:List Bool) (p4:List Int) (p5:List Int):Option V :=
 atPath (f220.E k) n ⟨(.u::(.ro qI p0)::(.ptr 524304 (0) (0))::.u::.u::(.slw 1310736)::.u::(.slw 1835024)::(.slw 2097168)::un 45),[],[(524304,.box [(.int .i64 p1),(.ro qL p2)]),(1310736,.row .bool p3),(1835024,.row qI p4),(2097168,.row qI p5)]⟩ 9 0 220 [.c 1,.c 1,.c 1,.c 1,.c 1,.c 1,.c 0] [] f220.code (finK tt Tryz.f220)
theorem f220.l0_eq (k n:Nat) (p0:List Int) (p1:Int) (p2:List (eL)) (p3:List Bool) (p4:List Int) (p5:List Int):f220.l0 k (n+1) p0 p1 p2 p3 p4 p5 =
 chk (decide ((0:Int)≤Go.IntKind.i64.wrap ((↑p5.length:Int) - (1:Int))∧Go.IntKind.i64.wrap ((↑p5.length:Int) - (1:Int))<(↑p5.length:Int))) ((chk (onForm ((p1,p2),p0,p3,rd qI p5 (↑(Go.IntKind.i64.wrap ((↑p5.length:Int) - (1:Int))).toNat:Int))) (some (onA p2 p0 p3 (rd qI p5 (↑(Go.IntKind.i64.wrap ((↑p5.length:Int) - (1:Int))).toNat:Int))))).bind (fun y0=>chk (decide ((p4++[y0]).length*8≤140737488355328)) (chk (decide ((0:Int)≤y0∧y0<(↑p2.length:Int))) ((chk (decide (p5.length<4611686018427387904)) (some (searchI p5.length fun i=>(rd qL p2 y0).2.1==rdI p5 i))).bind (fun y1=>bif decide (y1 ≥ (0:Int)) then (chk (decide ((0:Int)≤y1∧y1≤(↑(p4++[y0]).length:Int))) (chk (decide ((↑(p4++[y0]).length:Int)≤(↑(p4++[y0]).length:Int))) ((chk (decide ((List.take ((↑(p4++[y0]).length:Int).toNat - y1.toNat) (List.drop y1.toNat (p4++[y0]))).length*8≤140737488355328)) (some (List.take ((↑(p4++[y0]).length:Int).toNat - y1.toNat) (List.drop y1.toNat (p4++[y0]))))).bind (fun y2=>some (.own qI y2))))) else (chk (decide ((p5++[(rd qL p2 y0).2.1]).length*8≤140737488355328)) (f220.l0 k n p0 p1 p2 p3 (p4++[y0]) (p5++[(rd qL p2 y0).2.1])))))))):=by kernel_rfl
theorem f220.eq (k:Nat) (x0:Int×List (eL)) (x1:List Int):evFn (f220.E k) 9 220 Tryz.f220 (encL [(.pair qI (.list qL)),(.list qI)] (x0,x1)) =
 (chk (flowForm (x0,x1)) (some (coreOf x0 x1))).bind (fun y0=>(chk (decide (y0.length<4611686018427387904)) (some (searchI y0.length fun i=>true==rdB y0 i))).bind (fun y1=>bif decide (y1<(0:Int)) then (some (.own qI ([]))) else (f220.l0 k k x1 x0.1 x0.2 y0 ([]) ([y1])))):=by kernel_rfl
theorem f220.inl (k:Nat):InlOk Tryz.prog (f220.E k):=inl_nil
theorem f220.sums (k:Nat):SumsOk Tryz.prog (f220.E k):=(sums_cons ok78 (sums_cons ok247 (sums_cons ok244 (sums_cons ok245 (sums_cons ok246 sums_nil)))))
end
section
def ChainL (gl:List Lk):Int→List Int→Int→Prop
 |v,[],w=>v=w
 |v,l::ws,w=>(lk gl l).1=v∧ChainL gl (lk gl l).2.1 ws w
def vertsL (gl:List Lk) (v:Int) (ws:List Int):List Int:=v::ws.map fun l=>(lk gl l).2.1
def subL (b:Int) (f ws:List Int):List Int:=ws.foldl (fun f l=>f.set l.toNat (rdI f l - b)) f
theorem ChainL.snoc {gl:List Lk}:∀ {ws:List Int} {v w l:Int},ChainL gl v ws w→(lk gl l).1=w→ChainL gl v (ws++[l]) (lk gl l).2.1
 | [],v,w,l,h,h1=>⟨h1.trans h.symm,rfl⟩
 |a::ws,v,w,l,h,h1=>⟨h.1,h.2.snoc h1⟩
theorem ChainL.drop {gl:List Lk}:∀ {k:Nat} {ws:List Int} {v w u:Int},ChainL gl v ws w→(vertsL gl v ws)[k]? = some u→ChainL gl u (ws.drop k) w
 |0,ws,v,w,u,h,hu=>by
  obtain rfl:v=u:=by simpa [vertsL] using hu
  exact h
 |k+1,[],v,w,u,h,hu=>by simp [vertsL] at hu
 |k+1,a::ws,v,w,u,h,hu=>ChainL.drop (k:=k) (ws:=ws) (v:=(lk gl a).2.1) h.2 (by simpa [vertsL] using hu)
theorem ChainL.last {gl:List Lk}:∀ {ws:List Int} {v w:Int},ChainL gl v ws w→(vertsL gl v ws)[ws.length]? = some w
 | [],v,w,h=>by simp [vertsL];exact h
 |a::ws,v,w,h=>by
  have:=ChainL.last h.2
  simpa [vertsL] using this
theorem ChainL.froms {gl:List Lk}:∀ {ws:List Int} {v w:Int},ChainL gl v ws w→vertsL gl v ws=(ws.map fun l=>(lk gl l).1)++[w]
 | [],v,w,h=>by simp [vertsL];exact h
 |a::ws,v,w,h=>by
  have:=ChainL.froms h.2
  unfold vertsL at this ⊢
  rw [List.map_cons,this,List.map_cons,h.1]
  rfl
theorem subL_len (b:Int):∀ (ws f:List Int),(subL b f ws).length=f.length
 | [],f=>rfl
 |a::ws,f=>by
  have:=subL_len b ws (f.set a.toNat (rdI f a - b))
  rw [List.length_set] at this
  exact this
theorem sub_at {b:Int}:∀ {ws f:List Int} {i:Int},(∀ l∈ws,0≤l∧l<(f.length:Int))→ws.Nodup→(0≤i∧i<(f.length:Int))→rdI (subL b f ws) i=rdI f i - bif decide (i∈ws) then b else 0
 | [],f,i,_,_,_=>by simp [subL]
 |a::ws,f,i,hw,hn,hi=>by
  have ha:=hw a (by simp)
  rw [List.nodup_cons] at hn
  have e:subL b f (a::ws)=subL b (f.set a.toNat (rdI f a - b)) ws:=rfl
  rw [e,sub_at (fun l hl=>by rw [List.length_set];exact hw l (by simp [hl])) hn.2 (by rw [List.length_set];exact hi),rdI_set ha hi]
  by_cases h:a=i
  ·subst h
   rw [show (a==a)=true by simp,cT,dF hn.1,cF,dT (by simp:a∈a::ws),cT]
   omega
  ·rw [show (a==i)=false by simpa using h,cF]
   by_cases h2:i∈ws
   ·rw [dT h2,dT (by simp [h2]:i∈a::ws)]
   ·rw [dF h2,dF (by simp [h2,Ne.symm h]:¬ i∈a::ws)]
theorem gain_sub {gl:List Lk} {b v:Int}:∀ {ws f:List Int} {u w:Int},f.length=gl.length→(∀ l∈ws,0≤l∧l<(gl.length:Int))→ChainL gl u ws w →
  gainV gl (subL b f ws) v=gainV gl f v - ((bif u==v then b else 0) - (bif w==v then b else 0))
 | [],f,u,w,_,_,h=>by
  have h:u=w:=h
  subst h
  simp only [subL,List.foldl_nil]
  omega
 |a::ws,f,u,w,hl,hw,h=>by
  have ha:=hw a (by simp)
  have e:subL b f (a::ws)=subL b (f.set a.toNat (rdI f a - b)) ws:=rfl
  have hg:gl[a.toNat]? = some (lk gl a):=by
   have hi:a.toNat<gl.length:=by omega
   have:=rd_some (t:=tLk) (gE hi)
   rw [show ((a.toNat:Nat):Int)=a by omega] at this
   rw [gE hi]
   exact congrArg some this.symm
  have hs:=gain_set (d:=-b) (v:=v) hg (rdI_get (f:=f) (i:=a) (by omega))
  rw [show rdI f a + -b=rdI f a - b by omega,h.1] at hs
  rw [e,gain_sub (by rw [List.length_set];exact hl) (fun l hl=>hw l (by simp [hl])) h.2,hs]
  cases u==v <;> cases (lk gl a).2.1==v <;> cases w==v <;> simp only [cT,cF] <;> omega
def cntP (f:List Int):Nat:=f.countP fun x=>decide (x>0)
theorem cntP_le:∀ {f f':List Int},f'.length=f.length→(∀ (i:Nat) (x y:Int),f[i]? = some x→f'[i]? = some y→y>0→x>0)→cntP f'≤cntP f∧∀ (i:Nat) (x y:Int),f[i]? = some x→f'[i]? = some y→x>0→¬ y>0→cntP f'<cntP f
 | [],[],_,_=>⟨Nat.le_refl _,by simp⟩
 |x::f,y::f',hl,h=>by
  obtain ⟨h1,h2⟩:=cntP_le (f:=f) (f':=f') (by simpa using hl) fun i x y hx hy=>h (i+1) x y (by simpa using hx) (by simpa using hy)
  have h0:=h 0 x y rfl rfl
  unfold cntP at h1 h2 ⊢
  rw [List.countP_cons,List.countP_cons]
  refine ⟨?_,fun i x' y' hx hy hp hn=>?_⟩
  ·by_cases hy:y>0
   ·rw [dT hy,dT (h0 hy)];omega
   ·rw [dF hy];simp only [Bool.false_eq_true,if_false];omega
  ·cases i with
   |zero =>
    simp only [List.getElem?_cons_zero,sI] at hx hy
    subst hx hy
    rw [dT hp,dF hn];simp only [Bool.false_eq_true,if_true,if_false];omega
   |succ i =>
    have:=h2 i x' y' (by simpa using hx) (by simpa using hy) hp hn
    by_cases hy:y>0
    ·rw [dT hy,dT (h0 hy)];omega
    ·rw [dF hy];simp only [Bool.false_eq_true,if_false];omega
 | [],_::_,hl,_=>by simp at hl
 |_::_,[],hl,_=>by simp at hl
theorem cntP_len (f:List Int):cntP f≤f.length:=List.countP_le_length
theorem foldl_min_mem:∀ (xs:List Int) (x:Int),xs.foldl min x=x∨xs.foldl min x∈xs
 | [],x=>.inl rfl
 |y::xs,x=>by
  rw [List.foldl_cons]
  rcases foldl_min_mem xs (min x y) with h|h
  ·rw [h]
   rcases Int.le_total x y with h'|h'
   ·left;omega
   ·right;rw [show min x y=y by omega];simp
  ·right;simp [h]
def Acyc (gl:List Lk) (f:List Int):Prop:=∃ r:Int→Nat,∀ i,0≤i∧i<(gl.length:Int)→rdI f i>0→r (lk gl i).2.1<r (lk gl i).1
theorem Acyc.less {gl:List Lk} {f f':List Int} (h:Acyc gl f) (hl:∀ i,0≤i∧i<(gl.length:Int)→rdI f' i>0→rdI f i>0):Acyc gl f':=by
 obtain ⟨r,hr⟩:=h
 exact ⟨r,fun i hi hp=>hr i hi (hl i hi hp)⟩
def StRk (gl:List Lk) (f:List Int) (st:List Bool) (r:Int→Nat) (N:Nat):Prop :=
 (∀ v,0≤v∧v<(st.length:Int)→rdB st v=false→r v<N) ∧
 ∀ i,0≤i∧i<(gl.length:Int)→rdI f i>0→rdB st (lk gl i).1=false→rdB st (lk gl i).2.1=false∧r (lk gl i).2.1<r (lk gl i).1
def ClosedSt (gl:List Lk) (f:List Int) (st:List Bool):Prop:=∀ v,0≤v∧v<(st.length:Int)→rdB st v=true→onA gl f st v ≥ 0
def cntT (st:List Bool):Nat:=st.countP fun b=>b
theorem rdB_get {st:List Bool} {v:Int} (h:0≤v∧v<(st.length:Int)):st[v.toNat]? = some (rdB st v):=by
 have hi:v.toNat<st.length:=by omega
 have:=rd_some (t:=.bool) (gE hi)
 rw [show ((v.toNat:Nat):Int)=v by omega] at this
 rw [gE hi]
 exact congrArg some this.symm
theorem rdB_set {st:List Bool} {u v:Int} {b:Bool} (hu:0≤u∧u<(st.length:Int)) (hv:0≤v∧v<(st.length:Int)):rdB (st.set u.toNat b) v=bif u==v then b else rdB st v:=by
 have h:=rdB_get (st:=st.set u.toNat b) (v:=v) (by rw [List.length_set];exact hv)
 rw [List.getElem?_set] at h
 by_cases he:u=v
 ·subst he
  rw [if_pos rfl,if_pos (by omega)] at h
  rw [show (u==u)=true by simp,cT]
  exact (oJ h).symm
 ·rw [if_neg (by omega),rdB_get hv] at h
  rw [show (u==v)=false by simpa using he,cF]
  exact (oJ h).symm
theorem coreStep_cases {gl:List Lk} {f:List Int} {st:List Bool} {v:Int} (hv:0≤v∧v<(st.length:Int)) :
  (coreStep gl f st v=st∧(rdB st v=true→onA gl f st v ≥ 0))∨(rdB st v=true∧¬ onA gl f st v ≥ 0∧coreStep gl f st v=st.set v.toNat false):=by
 have h:=rdB_get hv
 unfold coreStep
 cases hb:rdB st v with
 |false =>
  left
  rw [hb] at h
  refine ⟨?_,fun h=>by cases h⟩
  rw [fA]
  exact List.ext_getElem? fun i=>by
   rw [List.getElem?_set]
   by_cases hi:v.toNat=i
   ·subst hi
    rw [if_pos rfl,if_pos (by omega),h]
   ·rw [if_neg hi]
 |true =>
  rw [hb] at h
  by_cases ho:onA gl f st v ≥ 0
  ·left
   refine ⟨?_,fun _=>ho⟩
   rw [dT ho,tA]
   exact List.ext_getElem? fun i=>by
    rw [List.getElem?_set]
    by_cases hi:v.toNat=i
    ·subst hi
     rw [if_pos rfl,if_pos (by omega),h]
    ·rw [if_neg hi]
  ·right
   exact ⟨rfl,ho,by rw [dF ho,tA]⟩
theorem cntT_set:∀ {st:List Bool} {i:Nat},st[i]? = some true→cntT (st.set i false)+1=cntT st
 |b::st,0,h=>by
  simp only [List.getElem?_cons_zero,sI] at h
  subst h
  simp [cntT]
 |b::st,i+1,h=>by
  have:=cntT_set (st:=st) (i:=i) (by simpa using h)
  unfold cntT at this ⊢
  rw [List.set_cons_succ,List.countP_cons,List.countP_cons]
  omega
 | [],_,h=>by simp at h
theorem coreStep_rk {gl:List Lk} {f:List Int} {st:List Bool} {v:Int} (hg:∀ i,0≤i∧i<(gl.length:Int)→(0≤(lk gl i).1∧(lk gl i).1<(st.length:Int))∧(0≤(lk gl i).2.1∧(lk gl i).2.1<(st.length:Int))∧(lk gl i).1 ≠ (lk gl i).2.1)
  (hv:0≤v∧v<(st.length:Int)) {r:Int→Nat} {N:Nat} (h:StRk gl f st r N):∃ r' N',StRk gl f (coreStep gl f st v) r' N':=by
 rcases coreStep_cases (gl:=gl) (f:=f) hv with ⟨e,_⟩|⟨h1,h2,e⟩
 ·rw [e];exact ⟨r,N,h⟩
 ·rw [e]
  refine ⟨fun u=>if u=v then N else r u,N+1,fun u hu hb=>?_,fun i hi hp hb=>?_⟩
  ·rw [List.length_set] at hu
   rw [rdB_set hv hu] at hb
   by_cases hc:u=v
   ·dsimp only;rw [if_pos hc];omega
   ·rw [show (v==u)=false by simpa using Ne.symm hc,cF] at hb
    have:=h.1 u hu hb
    dsimp only;rw [if_neg hc];omega
  ·obtain ⟨g1,g2,g3⟩:=hg i hi
   rw [rdB_set hv g1] at hb
   rw [rdB_set hv g2]
   have hs:=(searchI_cases gl.length (onB gl f st v)).resolve_right fun hx=>h2 hx.1.1
   by_cases hc:(lk gl i).1=v
   ·have hx:=hs.2 i hi
    unfold onB at hx
    rw [hc,dT hp,show (v==v)=true by simp,tA,Bool.and_true] at hx
    have hne:¬ (lk gl i).2.1=v:=fun e=>g3 (hc.trans e.symm)
    rw [show (v==(lk gl i).2.1)=false by simpa using Ne.symm hne,cF]
    refine ⟨hx,?_⟩
    dsimp only
    rw [if_neg hne,if_pos hc]
    exact h.1 _ g2 hx
   ·rw [show (v==(lk gl i).1)=false by simpa using Ne.symm hc,cF] at hb
    obtain ⟨k1,k2⟩:=h.2 i hi hp hb
    have hne:¬ (lk gl i).2.1=v:=fun e=>by rw [e,h1] at k1;cases k1
    rw [show (v==(lk gl i).2.1)=false by simpa using Ne.symm hne,cF]
    refine ⟨k1,?_⟩
    dsimp only
    rw [if_neg hne,if_neg hc]
    exact k2
theorem coreFold_rk {gl:List Lk} {f:List Int} {m:Nat} (hg:∀ i,0≤i∧i<(gl.length:Int)→(0≤(lk gl i).1∧(lk gl i).1<(m:Int))∧(0≤(lk gl i).2.1∧(lk gl i).2.1<(m:Int))∧(lk gl i).1 ≠ (lk gl i).2.1):∀ (l:List Int) (st:List Bool),st.length=m→(∀ v∈l,0≤v∧v<(m:Int)) →
  ((∃ r N,StRk gl f st r N)→∃ r N,StRk gl f (l.foldl (coreStep gl f) st) r N)∧cntT (l.foldl (coreStep gl f) st)≤cntT st∧((l.foldl (coreStep gl f) st=st∧∀ v∈l,rdB st v=true→onA gl f st v ≥ 0)∨cntT (l.foldl (coreStep gl f) st)<cntT st)
 | [],st,hs,hl=>⟨fun h=>h,Nat.le_refl _,.inl ⟨rfl,by simp⟩⟩
 |v::l,st,hs,hl=>by
  have hv:=hl v (by simp)
  have hv':0≤v∧v<(st.length:Int):=by omega
  obtain ⟨i1,i2,i3⟩:=coreFold_rk hg l (coreStep gl f st v) (by rw [coreStep_len,hs]) fun u hu=>hl u (by simp [hu])
  rw [List.foldl_cons]
  refine ⟨fun ⟨r,N,h⟩=>i1 (coreStep_rk (by rw [hs];exact hg) hv' h),?_⟩
  rcases coreStep_cases (gl:=gl) (f:=f) hv' with ⟨e,h1⟩|⟨h1,h2,e⟩
  ·rw [e] at i2 i3 ⊢
   refine ⟨i2,?_⟩
   rcases i3 with ⟨j1,j2⟩|j
   ·refine .inl ⟨j1,fun u hu=>?_⟩
    rcases List.mem_cons.1 hu with rfl|hu
    ·exact h1
    ·exact j2 u hu
   ·exact .inr j
  ·have hc:=cntT_set (st:=st) (i:=v.toNat) (by rw [rdB_get hv',h1])
   rw [← e] at hc
   exact ⟨by omega,.inr (by omega)⟩
theorem coreN_fix {gl:List Lk} {f:List Int} {m:Nat} {st:List Bool} (h:coreRound gl f m st=st):∀ n,coreN gl f m n st=st
 |0=>rfl
 |n+1=>by
  simp only [coreN]
  rw [h]
  exact coreN_fix h n
theorem coreN_ok {gl:List Lk} {f:List Int} {m:Nat} (hg:∀ i,0≤i∧i<(gl.length:Int)→(0≤(lk gl i).1∧(lk gl i).1<(m:Int))∧(0≤(lk gl i).2.1∧(lk gl i).2.1<(m:Int))∧(lk gl i).1 ≠ (lk gl i).2.1):∀ (n:Nat) (st:List Bool),st.length=m→(∃ r N,StRk gl f st r N) →
  (coreN gl f m n st).length=m∧(∃ r N,StRk gl f (coreN gl f m n st) r N)∧(ClosedSt gl f (coreN gl f m n st)∨cntT (coreN gl f m n st)+n≤cntT st)
 |0,st,hs,h=>⟨hs,h,.inr (Nat.le_refl _)⟩
 |n+1,st,hs,h=>by
  obtain ⟨i1,i2,i3⟩:=coreFold_rk (f:=f) hg (upto m) st hs fun v hv=>upto_mem.1 hv
  obtain ⟨j1,j2,j3⟩:=coreN_ok hg n (coreRound gl f m st) (by rw [coreRound_len,hs]) (i1 h)
  simp only [coreN]
  refine ⟨j1,j2,?_⟩
  rcases i3 with ⟨k1,k2⟩|k
  ·left
   have e:coreRound gl f m st=st:=k1
   rw [e,coreN_fix e]
   exact fun v hv hb=>k2 v (upto_mem.2 (by omega)) hb
  ·rcases j3 with j3|j3
   ·exact .inl j3
   ·right
    have:cntT (coreRound gl f m st)<cntT st:=k
    omega
theorem rdB_cnt {st:List Bool} {v:Int} (hv:0≤v∧v<(st.length:Int)) (h:rdB st v=true):0<cntT st:=by
 have:=rdB_get hv
 rw [h] at this
 exact List.countP_pos_iff.2 ⟨true,List.mem_of_getElem? this,rfl⟩
structure CoreOk (g:Gr) (f:List Int) (st:List Bool):Prop where
 len:st.length=g.1.toNat
 rk:∃ r N,StRk g.2 f st r N
 closed:ClosedSt g.2 f st
theorem core_ok {g:Gr} (hg:graphMay g=true) (f:List Int):CoreOk g f (coreOf g f):=by
 have hp:=graphMay_parts hg
 have hl:∀ i,0≤i∧i<(g.2.length:Int)→(0≤(lk g.2 i).1∧(lk g.2 i).1<((g.1.toNat:Nat):Int))∧(0≤(lk g.2 i).2.1∧(lk g.2 i).2.1<((g.1.toNat:Nat):Int))∧(lk g.2 i).1 ≠ (lk g.2 i).2.1:=fun i hi=>by
  rw [show ((g.1.toNat:Nat):Int)=g.1 by omega]
  exact lk_at hg hi
 have at_:∀ v:Int,0≤v∧v<(g.1.toNat:Int)→rdB (List.replicate g.1.toNat true) v=true:=fun v hv=>by
  have:=rdB_get (st:=List.replicate g.1.toNat true) (v:=v) (by simpa using hv)
  rw [List.getElem?_replicate,if_pos (by omega)] at this
  exact (oJ this).symm
 obtain ⟨h1,h2,h3⟩:=coreN_ok (f:=f) hl g.1.toNat (List.replicate g.1.toNat true) (by simp) ⟨fun _=>0,0,(fun v hv hb=>by
  rw [at_ v (by simpa using hv)] at hb
  cases hb),(fun i hi hp hb=>by
  rw [at_ _ (hl i hi).1] at hb
  cases hb)⟩
 refine ⟨h1,h2,?_⟩
 rcases h3 with h3|h3
 ·exact h3
 ·intro v hv hb
  have h4:=rdB_cnt hv hb
  have h5:cntT (List.replicate g.1.toNat true)≤g.1.toNat:=by
   have:=List.countP_le_length (p:=fun b:Bool=>b) (l:=List.replicate g.1.toNat true)
   rwa [List.length_replicate] at this
  have h6:cntT (coreOf g f)+g.1.toNat≤cntT (List.replicate g.1.toNat true):=h3
  omega
theorem CoreOk.none {g:Gr} (hg:graphMay g=true) {f:List Int} {st:List Bool} (h:CoreOk g f st) (hn:∀ v,0≤v∧v<(st.length:Int)→rdB st v=false):Acyc g.2 f:=by
 obtain ⟨r,N,h1,h2⟩:=h.rk
 have hl:=h.len
 have hp:=graphMay_parts hg
 exact ⟨r,fun i hi hp'=>(h2 i hi hp' (hn _ (by have:=(lk_at hg hi).1;omega))).2⟩
structure CycOk (g:Gr) (f way:List Int):Prop where
 some:way ≠ []
 le:way.length≤9
 lin:∀ l∈way,(0≤l∧l<(g.2.length:Int))∧rdI f l>0
 nodup:way.Nodup
 chain:∃ u,ChainL g.2 u way u
end
section
set_option maxRecDepth 100000
theorem nodup_len:∀ (m:Nat) (l:List Int),l.Nodup→(∀ x∈l,0≤x∧x<(m:Int))→l.length≤m
 |0,[],_,_=>Nat.le_refl _
 |0,x::l,_,h=>by have:=h x (by simp);omega
 |m+1,l,hn,h=>by
  by_cases hm:(m:Int)∈l
  ·have:=nodup_len m (l.erase (m:Int)) (hn.erase _) fun x hx=>by
    obtain ⟨h1,h2⟩:=(hn.mem_erase_iff).1 hx
    have:=h x h2
    omega
   rw [List.length_erase_of_mem hm] at this
   omega
  ·have:=nodup_len m l hn fun x hx=>by
    have:=h x hx
    have:x ≠ (m:Int):=fun e=>hm (e▸hx)
    omega
   omega
structure FindSt (g:Gr) (f:List Int) (st:List Bool) (u:Int) (way:List Int):Prop where
 ends:∃ w,ChainL g.2 u way w
 nodup:(vertsL g.2 u way).Nodup
 stands:∀ v∈vertsL g.2 u way,(0≤v∧v<g.1)∧rdB st v=true
 lin:∀ l∈way,(0≤l∧l<(g.2.length:Int))∧rdI f l>0
theorem vertsL_len (gl:List Lk) (u:Int) (ws:List Int):(vertsL gl u ws).length=ws.length+1:=by simp [vertsL]
theorem vertsL_snoc (gl:List Lk) (u:Int) (ws:List Int) (l:Int):vertsL gl u (ws++[l])=vertsL gl u ws++[(lk gl l).2.1]:=by simp [vertsL]
theorem f220.l0_is (k:Nat) {g:Gr} (hg:graphMay g=true) {f:List Int} (hf:f.length=g.2.length) {st:List Bool} (hst:CoreOk g f st) (u:Int):∀ (n:Nat) (way:List Int),FindSt g f st u way→9<n+way.length →
  ∃ x,f220.l0 k n f g.1 g.2 st way (vertsL g.2 u way)=some (.own tI x)∧CycOk g f x
 |0,way,h,hn=>by
  have hp:=graphMay_parts hg
  have:=nodup_len g.1.toNat _ h.nodup fun x hx=>by have:=(h.stands x hx).1;omega
  rw [vertsL_len] at this
  omega
 |n+1,way,h,hn=>by
  have hp:=graphMay_parts hg
  have hlen:=nodup_len g.1.toNat _ h.nodup fun x hx=>by have:=(h.stands x hx).1;omega
  obtain ⟨w,hch⟩:=h.ends
  have hlast:=hch.last
  have hw:=h.stands w (List.mem_of_getElem? hlast)
  have hsl:=hst.len
  rw [vertsL_len] at hlen
  have hon:=hst.closed w (by omega) hw.2
  obtain ⟨h1,h2⟩:=(searchI_cases g.2.length (onB g.2 f st w)).resolve_left fun hx=>by
   have e:onA g.2 f st w=-1:=hx.1
   omega
  have hal:searchI g.2.length (onB g.2 f st w)=onA g.2 f st w:=rfl
  rw [hal] at h1 h2
  generalize hl:onA g.2 f st w=l at h1 h2 hon
  unfold onB at h2
  simp only [bA] at h2
  obtain ⟨e1,e2,e3⟩:=h2
  have e1:=eq_of_beq e1
  have e3:rdI f l>0:=oD e3
  have hto:=(lk_at hg h1).2.1
  have w1:Go.IntKind.i64.wrap (((vertsL g.2 u way).length:Int) - 1)=(way.length:Int):=by rw [vertsL_len,wrap64 (by omega)];omega
  have r1:rd (Ty.int Go.IntKind.i64) (vertsL g.2 u way) (((way.length:Int).toNat:Nat):Int)=w:=rd_some (t:=tI) (by rw [Int.toNat_natCast];exact hlast)
  have c1:decide ((0:Int)≤(way.length:Int)∧(way.length:Int)<((vertsL g.2 u way).length:Int))=true:=dT (by rw [vertsL_len];omega)
  have c2:onForm (((g.1,g.2),f,st,w):Gr×(List Int×(List Bool×Int)))=true:=by
   unfold onForm
   dsimp only
   rw [show graphMay (g.1,g.2)=true from hg,hf,hsl,show (((g.1.toNat:Nat):Int)==g.1)=true by simp;omega]
   simp
  have c3:decide ((way++[l]).length*8≤140737488355328)=true:=dT (by rw [lA,List.length_singleton];omega)
  have c4:decide ((0:Int)≤l∧l<(g.2.length:Int))=true:=dT h1
  have c5:decide ((vertsL g.2 u way).length<4611686018427387904)=true:=dT (by rw [vertsL_len];omega)
  have hc2:ChainL g.2 u (way++[l]) (lk g.2 l).2.1:=hch.snoc e1
  have hin2:∀ a∈way++[l],(0≤a∧a<(g.2.length:Int))∧rdI f a>0:=fun a ha=>by
   rcases List.mem_append.1 ha with ha|ha
   ·exact h.lin a ha
   ·obtain rfl:a=l:=by simpa using ha
    exact ⟨h1,e3⟩
  rw [f220.l0_eq,w1,c1,kT,r1,c2,kT,bS,hl,c3,kT,c4,kT,c5,kT,bS]
  have e4:∀ i,((rd ((Ty.int Go.IntKind.i64).pair ((Ty.int Go.IntKind.i64).pair (Ty.int Go.IntKind.i64))) g.2 l).snd.fst==rdI (vertsL g.2 u way) i)=((lk g.2 l).2.1==rdI (vertsL g.2 u way) i):=fun i=>rfl
  simp only [e4]
  rcases searchI_cases (vertsL g.2 u way).length (fun i=>(lk g.2 l).2.1==rdI (vertsL g.2 u way) i) with ⟨s1,s2⟩|⟨s1,s2⟩
  ·have hnew:(lk g.2 l).2.1 ∉ vertsL g.2 u way:=fun hm=>by
    obtain ⟨i,hi⟩:=List.mem_iff_getElem?.1 hm
    have:=s2 (i:Int) (by have:=idx_lt hi;omega)
    rw [rdI_some hi] at this
    simp at this
   have c6:decide ((vertsL g.2 u way++[(lk g.2 l).2.1]).length*8≤140737488355328)=true:=dT (by rw [lA,vertsL_len,List.length_singleton];omega)
   have c6':decide ((vertsL g.2 u way++[(rd ((Ty.int Go.IntKind.i64).pair ((Ty.int Go.IntKind.i64).pair (Ty.int Go.IntKind.i64))) g.2 l).snd.fst]).length*8≤140737488355328)=true:=c6
   have ih:=f220.l0_is k hg hf hst u n (way++[l]) ⟨⟨_,hc2⟩,by
    rw [vertsL_snoc]
    exact List.nodup_append.2 ⟨h.nodup,by simp,fun a ha b hb=>by
     obtain rfl:b=(lk g.2 l).2.1:=by simpa using hb
     rintro rfl
     exact hnew ha⟩,fun v hv=>by
    rw [vertsL_snoc] at hv
    rcases List.mem_append.1 hv with hv|hv
    ·exact h.stands v hv
    ·obtain rfl:v=(lk g.2 l).2.1:=by simpa using hv
     exact ⟨hto,e2⟩,hin2⟩ (by rw [lA,List.length_singleton];omega)
   rw [s1,dF (by omega:¬ (-1:Int) ≥ 0),cF,c6',kT]
   rw [vertsL_snoc] at ih
   exact ih
  ·generalize searchI (vertsL g.2 u way).length (fun i=>(lk g.2 l).2.1==rdI (vertsL g.2 u way) i)=j at s1 s2
   have s2:=eq_of_beq s2
   rw [vertsL_len] at s1
   have hj:(vertsL g.2 u way)[j.toNat]? = some (lk g.2 l).2.1:=by
    rw [s2]
    exact rdI_get (by rw [vertsL_len];exact s1)
   have hlen2:(way++[l]).length=way.length+1:=by simp
   have ht:List.take ((((way++[l]).length:Int)).toNat - j.toNat) (List.drop j.toNat (way++[l]))=(way++[l]).drop j.toNat:=by
    rw [Int.toNat_natCast]
    exact List.take_of_length_le (by rw [List.length_drop];omega)
   have hdl:((way++[l]).drop j.toNat).length=way.length+1 - j.toNat:=by rw [List.length_drop,hlen2]
   have c7:decide ((0:Int)≤j∧j≤((way++[l]).length:Int))=true:=dT (by omega)
   have c8:decide (((way++[l]).length:Int)≤((way++[l]).length:Int))=true:=dT (by omega)
   have c9:decide (((way++[l]).drop j.toNat).length*8≤140737488355328)=true:=dT (by omega)
   rw [dT (by omega:j ≥ 0),cT,c7,kT,c8,kT,ht,c9,kT,bS]
   refine ⟨_,rfl,?_,by omega,fun a ha=>hin2 a (List.mem_of_mem_drop ha),?_,(lk g.2 l).2.1,?_⟩
   ·intro e
    rw [e] at hdl
    simp at hdl
    omega
   ·refine (List.drop_sublist _ _).nodup ?_
    have hfr:=hc2.froms
    rw [vertsL_snoc] at hfr
    have hfr2:(way++[l]).map (fun l=>(lk g.2 l).1)=vertsL g.2 u way:=by
     have:=congrArg List.dropLast hfr
     simpa using this.symm
    have hnd:=h.nodup
    rw [← hfr2] at hnd
    exact (List.pairwise_map.1 hnd).imp fun hne e=>hne (by rw [e])
   ·exact hc2.drop (by
     rw [vertsL_snoc,List.getElem?_append_left (by rw [vertsL_len];omega)]
     exact hj)
def findQ (d:Gr×List Int) (x:List Int):Prop:=CycOk d.1 d.2 x∨(x=[]∧Acyc d.1.2 d.2)
def findP (d:Gr×List Int) (x:List Int):Prop:=findQ d x∧∃ k,evFn (f220.E k) 9 220 Tryz.f220 (encL [tG,tL] d)=some (.own tI x)
noncomputable def findC (d:Gr×List Int):Option (List Int):=relC findP d
theorem findC_is {g:Gr} (hg:graphMay g=true) {f:List Int} (hf:f.length=g.2.length):∃ x,findC (g,f)=some x∧findQ (g,f) x:=by
 have hst:=core_ok hg f
 have hsl:=hst.len
 have hp:=graphMay_parts hg
 have c1:flowForm ((g,f):Gr×List Int)=true:=by
  unfold flowForm
  dsimp only
  rw [hg,hf]
  simp
 have c2:decide ((coreOf g f).length<4611686018427387904)=true:=dT (by omega)
 have:∃ x,findP (g,f) x:=by
  rcases searchI_cases (coreOf g f).length (fun i=>true==rdB (coreOf g f) i) with ⟨s1,s2⟩|⟨s1,s2⟩
  ·refine ⟨[],.inr ⟨rfl,hst.none hg fun v hv=>by simpa using s2 v hv⟩,1,(f220.eq _ g f).trans ?_⟩
   rw [c1,kT,bS,c2,kT,bS,s1,dT (by omega:(-1:Int)<0),cT]
  ·obtain ⟨x,e1,e2⟩:=f220.l0_is 10 hg hf hst (searchI (coreOf g f).length fun i=>true==rdB (coreOf g f) i) 10 [] ⟨⟨_,rfl⟩,by simp [vertsL],fun v hv=>by
    have hv:=List.mem_singleton.1 (show v∈[searchI (coreOf g f).length fun i=>true==rdB (coreOf g f) i] from hv)
    rw [hv]
    exact ⟨by omega,(eq_of_beq s2).symm⟩,by simp⟩ (by simp)
   refine ⟨x,.inl e2,10,(f220.eq _ g f).trans ?_⟩
   rw [c1,kT,bS,c2,kT,bS,dF (by omega:¬ searchI (coreOf g f).length (fun i=>true==rdB (coreOf g f) i)<0),cF]
   exact e1
 obtain ⟨y,e1,e2⟩:=relC_is this
 exact ⟨y,e1,e2.1⟩
noncomputable def S220:Summ:=summ [tG,tL] (List Int) findC (.own tI)
theorem ok220:SumOk Tryz.prog 220 S220 :=
 sumq f220.E (fn:=Tryz.f220) (code:=f220.code) f220.sums f220.inl fun d x hx=>(relC_some (P:=findP) hx).2
end
section
set_option maxRecDepth 100000
noncomputable def f180.E (k:Nat):Env:=mkEnv tt [(78,S78),(212,S212),(219,S219),(220,S220),(221,S221)] [] [(180,9,[.kill (rg [(0,1),(3,5),(7,7),(9,29),(33,44)]),.tidy]),(180,5,[.kill (rg [(0,1),(3,5),(8,44)]),.tidy])] [] k
noncomputable def f180.code:Go.Code:=cd Tryz.f180
noncomputable def f180.l0 (k n:Nat) (p0:Int) (p1:List (eL)) (p2:List Int) (p3:List Int):Option V :=
 atPath (f180.E k) n ⟨(.u::.u::(.ptr 524304 (0) (0))::.u::.u::.u::(.slw 1572880)::(.slw 1835024)::un 37),[],[(524304,.box [(.int .i64 p0),(.ro qL p1)]),(1572880,.row qI p2),(1835024,.row qI p3)]⟩ 9 0 180 [.c 1,.c 1,.c 1,.c 0,.c 1,.c 0] [] f180.code (finK tt Tryz.f180)
noncomputable def f180.l1 (k n m0:Nat) (p0:Int) (p1:Int) (p2:Int) (p3:Int) (p4:List (eL)) (p5:List Int) (p6:List Int):Option V :=
 atPath (f180.E k) n ⟨(.u::.u::(.ptr 524304 (0) (0))::.u::.u::.u::(.slw 1572880)::.u::(.int .i64 p0)::.u::.u::.u::.u::.u::.u::.u::.u::.u::.u::.u::.u::.u::.u::.u::.u::.u::.u::.u::.u::.u::(.slw 7864336)::(.int .i64 p1)::(.int .i64 p2)::un 12),[],[(524304,.box [(.int .i64 p3),(.ro qL p4)]),(1572880,.row qI p5),(7864336,.row qI p6)]⟩ 9 0 180 [.c 1,.c 1,.c 1,.c 0,.c 1,.c 0,.c 0,.c 1,.c 0,.c 0,.c 1,.c 1,.c 0] [m0] f180.code (finK tt Tryz.f180)
theorem f180.l0_eq (k n:Nat) (p0:Int) (p1:List (eL)) (p2:List Int) (p3:List Int):f180.l0 k (n+1) p0 p1 p2 p3 =
 bif decide ((↑p3.length:Int)>(0:Int)) then ((chk (decide (p3.length≤64)&&inL p2.length p3) (some (List.map (rdI p2) p3))).bind (fun y0=>(chk (decide (y0.length<4611686018427387904)) (some (List.foldl min (4611686018427387904:Int) y0))).bind (fun y1=>f180.l1 k k n y1 ((↑p3.length:Int)) 0 p0 p1 p2 p3))) else (some (.tup [(.own qI p2),(.int .i64 0)])):=by kernel_rfl
theorem f180.l1_eq (k n m0:Nat) (p0:Int) (p1:Int) (p2:Int) (p3:Int) (p4:List (eL)) (p5:List Int) (p6:List Int):f180.l1 k (n+1) m0 p0 p1 p2 p3 p4 p5 p6 =
 bif decide (p2<p1) then (chk (decide ((0:Int)≤p2∧p2<(↑p6.length:Int))) (chk (decide ((0:Int)≤rd qI p6 (↑p2.toNat:Int)∧rd qI p6 (↑p2.toNat:Int)<(↑p5.length:Int))) (chk (decide ((0:Int)≤rd qI p6 (↑p2.toNat:Int)∧rd qI p6 (↑p2.toNat:Int)<(↑p5.length:Int))) (f180.l1 k n m0 p0 p1 (Go.IntKind.i64.wrap (p2+(1:Int))) p3 p4 (p5.set (Int.toNat (rd qI p6 (↑p2.toNat:Int))) (Go.IntKind.i64.wrap (rd qI p5 (↑(Int.toNat (rd qI p6 (↑p2.toNat:Int))):Int) - p0))) p6)))) else ((findC (((p3,p4),p5))).bind (fun y0=>f180.l0 k m0 p3 p4 p5 y0)):=by kernel_rfl
theorem f180.eq (k:Nat) (x0:Int×List (eL)) (x1:List Int):evFn (f180.E k) 9 180 Tryz.f180 (encL [(.pair qI (.list qL)),(.list qI)] (x0,x1)) =
 (chk (graphMay x0) (some (capsMay x0 x1))).bind (fun y0=>bif !y0 then (some (.tup [(.own qI ([])),(.int .i64 1400)])) else ((chk (decide (x1.length*8≤140737488355328)) (some x1)).bind (fun y1=>(findC ((x0,y1))).bind (fun y2=>f180.l0 k k x0.1 x0.2 y1 y2)))):=by kernel_rfl
theorem f180.inl (k:Nat):InlOk Tryz.prog (f180.E k):=inl_nil
theorem f180.sums (k:Nat):SumsOk Tryz.prog (f180.E k):=(sums_cons ok78 (sums_cons ok212 (sums_cons ok219 (sums_cons ok220 (sums_cons ok221 sums_nil)))))
end
section
set_option maxRecDepth 100000
structure CancelOk (g:Gr) (f o:List Int):Prop where
 within:withinF o f=true
 gain:∀ v,gainV g.2 o v=gainV g.2 f v
 acyc:Acyc g.2 o
structure SubOk (g:Gr) (f:List Int) (b:Int) (ws:List Int):Prop where
 pos:1≤b
 le:∀ l∈ws,(0≤l∧l<(g.2.length:Int))∧b≤rdI f l
 hit:∃ l∈ws,rdI f l=b
 nodup:ws.Nodup
theorem SubOk.of {g:Gr} {f ws:List Int} (hc:capsMay g f=true) (hw:∀ l∈ws,(0≤l∧l<(g.2.length:Int))∧rdI f l>0) (hn:ws.Nodup) (hs:ws ≠ []) {b:Int} (hb:(ws.map (rdI f)).foldl min maxRate=b):SubOk g f b ws∧b≤maxRate:=by
 have hcl:=capsMay_len hc
 have hle:∀ l∈ws,rdI f l≤maxRate:=fun l hl=>(caps_le hc (List.mem_of_getElem? (rdI_get (by have:=(hw l hl).1;omega)))).2
 obtain ⟨y1,y2⟩:=foldl_min_le (ws.map (rdI f)) maxRate
 have y3:1≤(ws.map (rdI f)).foldl min maxRate:=foldl_min_ge _ _ (by decide) fun y hy=>by
  obtain ⟨l,hl,rfl⟩:=List.mem_map.1 hy
  have:=(hw l hl).2
  omega
 rw [hb] at y1 y2 y3
 refine ⟨⟨y3,fun l hl=>⟨(hw l hl).1,y2 _ (List.mem_map_of_mem hl)⟩,?_,hn⟩,y1⟩
 rcases foldl_min_mem (ws.map (rdI f)) maxRate with h|h
 ·cases ws with
  |nil=>exact absurd rfl hs
  |cons a ws =>
   refine ⟨a,by simp,?_⟩
   have h1:=y2 (rdI f a) (by simp)
   have h2:=hle a (by simp)
   rw [hb] at h
   omega
 ·rw [hb] at h
  obtain ⟨l,hl,e⟩:=List.mem_map.1 h
  exact ⟨l,hl,e⟩
theorem SubOk.sub {g:Gr} {f:List Int} {b:Int} {ws:List Int} (h:SubOk g f b ws) (hf:∀ i:Int,0≤i∧i<(g.2.length:Int)→0≤rdI f i) (hl:f.length=g.2.length) :
  withinF (subL b f ws) f=true∧cntP (subL b f ws)<cntP f∧∀ i:Int,0≤i∧i<(g.2.length:Int)→rdI (subL b f ws) i=rdI f i - bif decide (i∈ws) then b else 0:=by
 have hp:=h.pos
 have at_:∀ i:Int,0≤i∧i<(g.2.length:Int)→rdI (subL b f ws) i=rdI f i - bif decide (i∈ws) then b else 0:=fun i hi=>sub_at (fun l hl'=>by rw [hl];exact (h.le l hl').1) h.nodup (by omega)
 have hb:∀ i:Int,0≤i∧i<(g.2.length:Int)→0≤rdI (subL b f ws) i∧rdI (subL b f ws) i≤rdI f i:=fun i hi=>by
  rw [at_ i hi]
  have h0:=hf i hi
  by_cases hm:i∈ws
  ·have:=(h.le i hm).2
   rw [dT hm,cT]
   omega
  ·rw [dF hm,cF]
   omega
 refine ⟨withinF_by (subL_len _ _ _) fun i hi=>hb i (by omega),?_,at_⟩
 obtain ⟨l,hl1,hl2⟩:=h.hit
 have hlr:=(h.le l hl1).1
 have hsl:=subL_len b ws f
 refine (cntP_le hsl fun i x y hx hy hyp=>?_).2 l.toNat (rdI f l) (rdI (subL b f ws) l) (rdI_get (by omega)) (rdI_get (by omega)) (by omega) ?_
 ·have hi:=idx_lt hx
  have:=(hb (i:Int) (by omega)).2
  rw [rdI_some hx,rdI_some hy] at this
  omega
 ·rw [at_ l hlr,dT hl1,cT]
  omega
theorem subL_snoc (b:Int) (f ws:List Int) (l:Int):subL b f (ws++[l])=(subL b f ws).set l.toNat (rdI (subL b f ws) l - b):=by simp [subL]
theorem SubOk.step {g:Gr} {f:List Int} {b:Int} {ws:List Int} (h:SubOk g f b ws) (hc:capsMay g f=true) {i:Nat} {l:Int} (hx:ws[i]? = some l):rdI (subL b f (ws.take i)) l=rdI f l∧Go.IntKind.i64.wrap (rdI (subL b f (ws.take i)) l - b)=rdI (subL b f (ws.take i)) l - b∧(0≤l∧l<(f.length:Int)):=by
 have hcl:=capsMay_len hc
 have hM:maxRate=4611686018427387904:=rfl
 have hm:=List.mem_of_getElem? hx
 obtain ⟨h1,h2⟩:=h.le l hm
 have hni:l ∉ ws.take i:=fun hin=>by
  obtain ⟨j,hj⟩:=List.mem_iff_getElem?.1 hin
  have hji:=idx_lt hj
  rw [List.length_take] at hji
  rw [List.getElem?_take_of_lt (by omega)] at hj
  exact nodup_hit (by omega:j<i) hj hx h.nodup
 have e:rdI (subL b f (ws.take i)) l=rdI f l:=by
  rw [sub_at (fun a ha=>by have:=(h.le a (List.mem_of_mem_take ha)).1;omega) ((List.take_sublist _ _).nodup h.nodup) (by omega),dF hni,cF]
  omega
 have:=(caps_le hc (List.mem_of_getElem? (rdI_get (f:=f) (i:=l) (by omega)))).2
 have hp:=h.pos
 exact ⟨e,wrap64 (by omega),by omega⟩
theorem f180.l1_is (k m0:Nat) {g:Gr} {f:List Int} (hc:capsMay g f=true) {b:Int} {ws:List Int} (h:SubOk g f b ws) (hl:ws.length≤64):∀ (n i:Nat),i≤ws.length→ws.length<n+i →
  f180.l1 k n m0 b (ws.length:Int) (i:Int) g.1 g.2 (subL b f (ws.take i)) ws=(findC (((g.1,g.2),subL b f ws):Gr×List Int)).bind fun y0=>f180.l0 k m0 g.1 g.2 (subL b f ws) y0
 |0,i,h1,h2=>by omega
 |n+1,i,h1,h2=>by
  rw [f180.l1_eq]
  by_cases hlt:i<ws.length
  ·have hx:=gE hlt
   obtain ⟨s1,s2,s3⟩:=h.step hc hx
   have e1:rd (Ty.int Go.IntKind.i64) ws (((i:Int).toNat:Nat):Int)=ws[i]:=rd_some (t:=tI) (by rw [Int.toNat_natCast];exact hx)
   have e2:rd (Ty.int Go.IntKind.i64) (subL b f (ws.take i)) ((ws[i].toNat:Nat):Int)=rdI (subL b f (ws.take i)) ws[i]:=rdI_nat _ _
   have c2:decide ((0:Int)≤ws[i]∧ws[i]<((subL b f (ws.take i)).length:Int))=true:=dT (by rw [subL_len];exact s3)
   have et:ws.take (i+1)=ws.take i++[ws[i]]:=by rw [List.take_add_one,hx];rfl
   rw [e1,e2,s2,c2,dT (by omega:(i:Int)<(ws.length:Int)),cT,dT (by omega:(0:Int)≤(i:Int)∧(i:Int)<(ws.length:Int)),kT,kT,kT,wrap_succ (by omega),← f180.l1_is k m0 hc h hl n (i+1) (by omega) (by omega),et,subL_snoc]
  ·obtain rfl:i=ws.length:=by omega
   rw [dF (by omega:¬ (ws.length:Int)<(ws.length:Int)),cF,List.take_length]
theorem f180.l0_is (k:Nat) (hk:10≤k) {g:Gr} {f0:List Int} (hc0:capsMay g f0=true):∀ (n:Nat) (o ws:List Int),cntP o<n→withinF o f0=true→(∀ v,gainV g.2 o v=gainV g.2 f0 v)→findQ (g,o) ws →
  ∃ x,f180.l0 k n g.1 g.2 o ws=some (resLE (x,0))∧CancelOk g f0 x
 |0,o,ws,h,_,_,_=>by omega
 |n+1,o,ws,h,hw,hg,hf=>by
  have hgr:=caps_graph hc0
  have hc:capsMay g o=true:=lies_caps (cs:=f0) (by unfold liesB;rw [hc0,hw];rfl)
  have hcl:=capsMay_len hc
  have hp:=graphMay_parts hgr
  rw [f180.l0_eq]
  rcases hf with hf|⟨rfl,ha⟩
  ·have hf:CycOk g o ws:=hf
   have hs:=hf.some
   have hlen:=List.length_pos_iff.2 hs
   have hle:=hf.le
   obtain ⟨s1,s2⟩:=SubOk.of hc hf.lin hf.nodup hs rfl
   have c1:(decide (ws.length≤64)&&inL o.length ws)=true:=by
    rw [dT (by omega:ws.length≤64),tA]
    exact List.all_eq_true.2 fun l hl=>dT (by have:=(hf.lin l hl).1;omega)
   have c2:decide ((ws.map (rdI o)).length<4611686018427387904)=true:=dT (by rw [List.length_map];omega)
   have hb:List.foldl min (4611686018427387904:Int) (ws.map (rdI o))=(ws.map (rdI o)).foldl min maxRate:=rfl
   rw [dT (by omega:(ws.length:Int)>0),cT,c1,kT,bS,c2,kT,bS,hb]
   generalize (ws.map (rdI o)).foldl min maxRate=b at s1 s2
   have e1:=f180.l1_is k n hc s1 (by omega) k 0 (by omega) (by omega)
   rw [show ((0:Nat):Int)=0 by rfl,show subL b o (ws.take 0)=o by rfl] at e1
   rw [e1]
   obtain ⟨t1,t2,t3⟩:=s1.sub (fun i hi=>(within_at hw (by have:=withinF_len hw;omega)).1) hcl
   obtain ⟨y,y1,y2⟩:=findC_is hgr (f:=subL b o ws) (by rw [subL_len];exact hcl)
   rw [show findC (((g.1,g.2),subL b o ws):Gr×List Int)=some y from y1,bS]
   obtain ⟨u,hu⟩:=hf.chain
   have hwl:=withinF_len hw
   have htl:=withinF_len t1
   refine f180.l0_is k hk hc0 n (subL b o ws) y (by omega) (withinF_by (by omega) fun i hi=>?_) (fun v=>?_) y2
   ·have a1:=within_at t1 (i:=i) (by omega)
    have a2:=within_at hw (i:=i) hi
    omega
   ·rw [gain_sub hcl (fun l hl=>(hf.lin l hl).1) hu,hg v]
    omega
  ·rw [dF (by simp:¬ ((([]:List Int).length:Int)>0)),cF]
   exact ⟨o,rfl,hw,hg,ha⟩
def cancelQ (d:Gr×List Int) (x:List Int×Int):Prop:=bif capsMay d.1 d.2 then x.2=0∧CancelOk d.1 d.2 x.1 else x=([],1400)
def cancelP (d:Gr×List Int) (x:List Int×Int):Prop:=cancelQ d x∧∃ k,evFn (f180.E k) 9 180 Tryz.f180 (encL [tG,tL] d)=some (resLE x)
noncomputable def cancelC (d:Gr×List Int):Option (List Int×Int):=relC cancelP d
theorem withinF_self {f:List Int} (h:∀ x∈f,0≤x):withinF f f=true:=withinF_of rfl fun i x c hx hc=>by
 rw [hx] at hc
 obtain rfl:=oJ hc
 exact ⟨h x (List.mem_of_getElem? hx),Int.le_refl _⟩
theorem cancelC_is {g:Gr} (hg:graphMay g=true) (f:List Int):∃ x,cancelC (g,f)=some x∧cancelQ (g,f) x:=by
 have hp:=graphMay_parts hg
 have:∃ x,cancelP (g,f) x:=by
  cases hc:capsMay g f with
  |true =>
   have hcl:=capsMay_len hc
   obtain ⟨y,y1,y2⟩:=findC_is hg (f:=f) hcl
   obtain ⟨x,e1,e2⟩:=f180.l0_is (cntP f+11) (by omega) hc (cntP f+11) f y (by omega) (withinF_self (caps_sum hc).2) (fun v=>rfl) y2
   refine ⟨(x,0),?_,cntP f+11,(f180.eq _ g f).trans ?_⟩
   ·unfold cancelQ
    dsimp only
    rw [hc,cT]
    exact ⟨rfl,e2⟩
   ·rw [hg,kT,bS,hc,nT,cF,dT (by omega:f.length*8≤140737488355328),kT,bS,y1,bS]
    exact e1
  |false =>
   refine ⟨([],1400),?_,1,(f180.eq _ g f).trans ?_⟩
   ·unfold cancelQ
    dsimp only
    rw [hc,cF]
   ·rw [hg,kT,bS,hc,nF,cT]
 obtain ⟨y,e1,e2⟩:=relC_is this
 exact ⟨y,e1,e2.1⟩
noncomputable def S180:Summ:=summ [tG,tL] (List Int×Int) cancelC resLE
theorem ok180:SumOk Tryz.prog 180 S180 :=
 sumq f180.E (fn:=Tryz.f180) (code:=f180.code) f180.sums f180.inl fun d x hx=>(relC_some (P:=cancelP) hx).2
end
section
set_option maxRecDepth 100000
noncomputable def f129.E (k:Nat):Env:=mkEnv tt [(179,S179),(180,S180),(212,S212),(222,S222)] [(181,Tryz.f181)] [(129,7,[.kill (rg [(0,1),(5,9),(11,11),(13,44)]),.tidy]),(181,16,[.nil1 10 1 2621509 qI,.kill (rg [(0,0),(2,7),(9,9),(11,65),(69,81)]),.tidy]),(181,11,[.nil1 10 1 2621509 qI,.kill (rg [(0,0),(2,7),(9,9),(11,48),(52,81)]),.tidy]),(181,3,[.nil1 10 1 2621509 qI,.kill (rg [(0,0),(2,2),(5,7),(9,9),(12,81)]),.tidy])] [(181,2240,(rg [(0,1),(5,9),(11,11),(13,34),(36,44)]))] k
noncomputable def f129.code:Go.Code:=cd Tryz.f129
noncomputable def f129.l0 (k n:Nat) (p0:Int) (p1:Int) (p2:Int) (p3:List (eL)) (p4:List Int) (p5:List (eP)):Option V :=
 atPath (f129.E k) n ⟨(.u::.u::(.int .i64 p0)::(.int .i64 p1)::(.ptr 1048592 (0) (0))::.u::.u::.u::.u::.u::(.slw 2621456)::.u::(.slw 3145744)::un 32),[],[(1048592,.box [(.int .i64 p2),(.ro qL p3)]),(2621456,.row qI p4),(3145744,.row qP p5)]⟩ 9 0 129 [.c 1,.c 1,.c 1,.c 1,.c 1,.c 0] [] f129.code (finK tt Tryz.f129)
noncomputable def f129.l1 (k n m0:Nat) (p0:Int) (p1:Int) (p2:Int) (p3:List Int) (p4:Int) (p5:List (eL)) (p6:Int) (p7:List (eP)) (p8:List Int):Option V :=
 atPath (f129.E k) n ⟨(.u::(.slw 262160)::.u::(.int .i64 p0)::(.ptr 1048592 (0) (0))::.u::.u::.u::(.ptr 2097168 (0) (0))::.u::(.ptr 2621456 (0) (0))::(.int .i64 p1)::un 70),[(.u::.u::(.int .i64 p2)::(.int .i64 p0)::(.ptr 1074790416 (0) (0))::.u::.u::.u::.u::.u::(.slw 262160)::.u::(.slw 1076887568)::un 32)],[(262160,.row qI p3),(1048592,.box [(.int .i64 p4),(.ro qL p5)]),(2097168,.box [(.int .i64 p6),.nil]),(2621456,.box [(.int .i64 p6),(.slw 687198961776)]),(1074790416,.box [(.int .i64 p4),(.ro qL p5)]),(1076887568,.row qP p7),(687198961776,.row qI p8)]⟩ 9 0 129 [.c 1,.c 1,.c 1,.c 1,.c 1,.c 0,.c 0,.c 0,.c 0,.call 4 181,.c 1,.c 1,.c 0,.c 1,.c 0] [m0] f129.code (finK tt Tryz.f129)
noncomputable def f129.l2 (k n m0:Nat) (p0:Int) (p1:Int) (p2:Int) (p3:Int) (p4:List Int) (p5:Int) (p6:Int) (p7:Int) (p8:List (eL)) (p9:List (eP)) (p10:List Int):Option V :=
 atPath (f129.E k) n ⟨(.u::(.slw 262160)::.u::.u::.u::.u::.u::.u::(.ptr 2097168 (0) (0))::.u::(.ptr 2621456 (0) (0))::.u::.u::.u::.u::.u::.u::.u::.u::.u::.u::.u::.u::.u::.u::.u::.u::.u::.u::.u::.u::.u::.u::.u::.u::.u::.u::.u::.u::.u::.u::.u::.u::.u::.u::.u::.u::.u::.u::(.slw 687198961776)::(.int .i64 p0)::(.int .i64 p1)::un 30),[(.u::.u::(.int .i64 p2)::(.int .i64 p3)::(.ptr 1074790416 (0) (0))::.u::.u::.u::.u::.u::(.slw 262160)::.u::(.slw 1076887568)::un 32)],[(262160,.row qI p4),(2097168,.box [(.int .i64 p5),.nil]),(2621456,.box [(.int .i64 p6),(.slw 687198961776)]),(1074790416,.box [(.int .i64 p7),(.ro qL p8)]),(1076887568,.row qP p9),(687198961776,.row qI p10)]⟩ 9 0 129 [.c 1,.c 1,.c 1,.c 1,.c 1,.c 0,.c 0,.c 0,.c 0,.call 4 181,.c 1,.c 1,.c 1,.c 1,.c 0,.c 1,.c 0] [m0] f129.code (finK tt Tryz.f129)
noncomputable def f129.l3 (k n m0:Nat) (p0:Int) (p1:Int) (p2:Int) (p3:Int) (p4:List Int) (p5:Int) (p6:Int) (p7:Int) (p8:List (eL)) (p9:List (eP)) (p10:List Int):Option V :=
 atPath (f129.E k) n ⟨(.u::(.slw 262160)::.u::.u::.u::.u::.u::.u::(.ptr 2097168 (0) (0))::.u::(.ptr 2621456 (0) (0))::.u::.u::.u::.u::.u::.u::.u::.u::.u::.u::.u::.u::.u::.u::.u::.u::.u::.u::.u::.u::.u::.u::.u::.u::.u::.u::.u::.u::.u::.u::.u::.u::.u::.u::.u::.u::.u::.u::.u::.u::.u::.u::.u::.u::.u::.u::.u::.u::.u::.u::.u::.u::.u::.u::.u::(.slw 687198961776)::(.int .i64 p0)::(.int .i64 p1)::un 13),[(.u::.u::(.int .i64 p2)::(.int .i64 p3)::(.ptr 1074790416 (0) (0))::.u::.u::.u::.u::.u::(.slw 262160)::.u::(.slw 1076887568)::un 32)],[(262160,.row qI p4),(2097168,.box [(.int .i64 p5),.nil]),(2621456,.box [(.int .i64 p6),(.slw 687198961776)]),(1074790416,.box [(.int .i64 p7),(.ro qL p8)]),(1076887568,.row qP p9),(687198961776,.row qI p10)]⟩ 9 0 129 [.c 1,.c 1,.c 1,.c 1,.c 1,.c 0,.c 0,.c 0,.c 0,.call 4 181,.c 1,.c 1,.c 1,.c 1,.c 1,.c 0,.c 1,.c 0] [m0] f129.code (finK tt Tryz.f129)
theorem f129.l0_eq (k n:Nat) (p0:Int) (p1:Int) (p2:Int) (p3:List (eL)) (p4:List Int) (p5:List (eP)):f129.l0 k (n+1) p0 p1 p2 p3 p4 p5 =
 f129.l1 k k n p1 p0 p0 p4 p2 p3 0 p5 ([]):=by kernel_rfl
theorem f129.l1_eq (k n m0:Nat) (p0:Int) (p1:Int) (p2:Int) (p3:List Int) (p4:Int) (p5:List (eL)) (p6:Int) (p7:List (eP)) (p8:List Int):f129.l1 k (n+1) m0 p0 p1 p2 p3 p4 p5 p6 p7 p8 =
 bif p1 != p0 then ((chk (nextForm ((p4,p5),p3,p1)) (some (nextA p5 p3 p1))).bind (fun y0=>bif decide (y0<(0:Int)) then (some (.tup [(.own qP p7),(.int .i64 0)])) else (chk (decide ((p8++[y0]).length*8≤140737488355328)) (chk (decide ((0:Int)≤Go.IntKind.i64.wrap ((↑(p8++[y0]).length:Int) - (1:Int))∧Go.IntKind.i64.wrap ((↑(p8++[y0]).length:Int) - (1:Int))<(↑(p8++[y0]).length:Int))) (chk (decide ((0:Int)≤rd qI (p8++[y0]) (↑(Go.IntKind.i64.wrap ((↑(p8++[y0]).length:Int) - (1:Int))).toNat:Int)∧rd qI (p8++[y0]) (↑(Go.IntKind.i64.wrap ((↑(p8++[y0]).length:Int) - (1:Int))).toNat:Int)<(↑p5.length:Int))) (f129.l1 k n m0 p0 ((rd qL p5 (rd qI (p8++[y0]) (↑(Go.IntKind.i64.wrap ((↑(p8++[y0]).length:Int) - (1:Int))).toNat:Int))).2.1) p2 p3 p4 p5 p6 p7 (p8++[y0]))))))) else (f129.l2 k k m0 ((↑p8.length:Int)) 0 p2 p0 p3 p6 4611686018427387904 p4 p5 p7 p8):=by kernel_rfl
theorem f129.l2_eq (k n m0:Nat) (p0:Int) (p1:Int) (p2:Int) (p3:Int) (p4:List Int) (p5:Int) (p6:Int) (p7:Int) (p8:List (eL)) (p9:List (eP)) (p10:List Int):f129.l2 k (n+1) m0 p0 p1 p2 p3 p4 p5 p6 p7 p8 p9 p10 =
 bif decide (p1<p0) then (chk (decide ((0:Int)≤p1∧p1<(↑p10.length:Int))) (chk (decide ((0:Int)≤rd qI p10 (↑p1.toNat:Int)∧rd qI p10 (↑p1.toNat:Int)<(↑p4.length:Int))) (f129.l2 k n m0 p0 (Go.IntKind.i64.wrap (p1+(1:Int))) p2 p3 p4 p5 (List.foldl min p6 [rd qI p4 (↑(Int.toNat (rd qI p10 (↑p1.toNat:Int))):Int)]) p7 p8 p9 p10))) else (f129.l3 k k m0 ((↑p10.length:Int)) 0 p2 p3 p4 p5 p6 p7 p8 p9 p10):=by kernel_rfl
theorem f129.l3_eq (k n m0:Nat) (p0:Int) (p1:Int) (p2:Int) (p3:Int) (p4:List Int) (p5:Int) (p6:Int) (p7:Int) (p8:List (eL)) (p9:List (eP)) (p10:List Int):f129.l3 k (n+1) m0 p0 p1 p2 p3 p4 p5 p6 p7 p8 p9 p10 =
 bif decide (p1<p0) then (chk (decide ((0:Int)≤p1∧p1<(↑p10.length:Int))) (chk (decide ((0:Int)≤rd qI p10 (↑p1.toNat:Int)∧rd qI p10 (↑p1.toNat:Int)<(↑p4.length:Int))) (chk (decide ((0:Int)≤rd qI p10 (↑p1.toNat:Int)∧rd qI p10 (↑p1.toNat:Int)<(↑p4.length:Int))) (f129.l3 k n m0 p0 (Go.IntKind.i64.wrap (p1+(1:Int))) p2 p3 (p4.set (Int.toNat (rd qI p10 (↑p1.toNat:Int))) (Go.IntKind.i64.wrap (rd qI p4 (↑(Int.toNat (rd qI p10 (↑p1.toNat:Int))):Int) - p6))) p5 p6 p7 p8 p9 p10)))) else (chk (decide ((p9++[(p6,p10)]).length*32≤140737488355328)) (f129.l0 k m0 p2 p3 p7 p8 p4 (p9++[(p6,p10)]))):=by kernel_rfl
theorem f129.eq (k:Nat) (x0:Int×List (eL)) (x1:List Int) (x2:Int) (x3:Int):evFn (f129.E k) 9 129 Tryz.f129 (encL [(.pair qI (.list qL)),(.list qI),qI,qI] (x0,x1,x2,x3)) =
 bif !mayF x0 x1 x1 x2 x3 then (some (.tup [(.own qP ([])),(.int .i64 1500)])) else ((cancelC ((x0,x1))).bind (fun y0=>bif y0.2 != (0:Int) then (some (.tup [(.own qP ([])),(.int .i64 1500)])) else (f129.l0 k k x2 x3 x0.1 x0.2 y0.1 ([])))):=by kernel_rfl
theorem f129.inl (k:Nat):InlOk Tryz.prog (f129.E k):=(inl_cons (by kernel_rfl) (by kernel_rfl) inl_nil)
theorem f129.sums (k:Nat):SumsOk Tryz.prog (f129.E k):=(sums_cons ok179 (sums_cons ok180 (sums_cons ok212 (sums_cons ok222 sums_nil))))
end
section
set_option maxRecDepth 100000
theorem chain_walk {gl:List Lk}:∀ {ws:List Int} {v w:Int},ChainL gl v ws w→walkL gl v ws=some (ws.map fun l=>(lk gl l).2.1)
 | [],v,w,_=>rfl
 |a::ws,v,w,h=>by
  simp only [walkL]
  rw [h.1,show (v==v)=true by simp,cT,chain_walk h.2]
  rfl
theorem gain_le {v:Int}:∀ {gl:List Lk} {f:List Int},f.length=gl.length→(∀ x∈f,0≤x)→(∀ (i:Nat) (l:Lk) (x:Int),gl[i]? = some l→f[i]? = some x→l.1=v→x=0) →
  gainV gl f v≤0∧∀ (i:Nat) (l:Lk) (x:Int),gl[i]? = some l→f[i]? = some x→l.2.1=v→gainV gl f v≤-x
 | [],_,_,_,_=>⟨by simp [gainV],by simp⟩
 |l::gl,[],h,_,_=>by simp at h
 |l::gl,x::f,h,h0,h1=>by
  obtain ⟨i1,i2⟩:=gain_le (v:=v) (gl:=gl) (f:=f) (by simpa using h) (fun y hy=>h0 y (by simp [hy])) fun i l x hl hx=>h1 (i+1) l x (by simpa using hl) (by simpa using hx)
  have c0:0≤x:=h0 x (by simp)
  have c1:l.1=v→x=0:=h1 0 l x rfl rfl
  have e:gainV (l::gl) (x::f) v=((bif l.1==v then x else 0) - (bif l.2.1==v then x else 0))+gainV gl f v:=rfl
  have hd:gainV (l::gl) (x::f) v≤gainV gl f v∧(l.2.1=v→gainV (l::gl) (x::f) v≤gainV gl f v - x):=by
   rw [e]
   by_cases e1:l.1=v
   ·have:=c1 e1
    subst this
    constructor
    ·cases l.1==v <;> cases l.2.1==v <;> simp only [cT,cF] <;> omega
    ·intro _;cases l.1==v <;> cases l.2.1==v <;> simp only [cT,cF] <;> omega
   ·rw [show (l.1==v)=false by simpa using e1,cF]
    constructor
    ·cases l.2.1==v <;> simp only [cT,cF] <;> omega
    ·intro e2
     rw [show (l.2.1==v)=true by simpa using e2,cT]
     omega
  refine ⟨by omega,fun i l' x' hl hx hv=>?_⟩
  cases i with
  |zero =>
   simp only [List.getElem?_cons_zero,sI] at hl hx
   subst hl hx
   have:=hd.2 hv
   omega
  |succ i =>
   have:=i2 i l' x' (by simpa using hl) (by simpa using hx) hv
   omega
theorem lk_nat {gl:List Lk} {i:Nat} {l:Lk} (h:gl[i]? = some l):lk gl (i:Int)=l:=rd_some (t:=tLk) h
theorem lk_some {gl:List Lk} {i:Int} (h:0≤i∧i<(gl.length:Int)):gl[i.toNat]? = some (lk gl i):=by
 have hi:i.toNat<gl.length:=by omega
 have:=rd_some (t:=tLk) (gE hi)
 rw [show ((i.toNat:Nat):Int)=i by omega] at this
 rw [gE hi]
 exact congrArg some this.symm
theorem next_none {gl:List Lk} {f:List Int} {v:Int} (hl:f.length=gl.length) (h0:∀ x∈f,0≤x) (h:nextA gl f v<0) :
  gainV gl f v≤0∧∀ i:Int,0≤i∧i<(gl.length:Int)→(lk gl i).2.1=v→gainV gl f v≤- rdI f i:=by
 have hs:=(searchI_cases gl.length (nextB gl f v)).resolve_right fun hx=>by
  have e:searchI gl.length (nextB gl f v)=nextA gl f v:=rfl
  omega
 obtain ⟨a1,a2⟩:=gain_le (v:=v) hl h0 fun i l x hl' hx hv=>by
  have hi:=idx_lt hl'
  have:=hs.2 (i:Int) (by omega)
  unfold nextB at this
  rw [lk_nat hl',hv,rdI_some hx,show (v==v)=true by simp,tA] at this
  have h1:=h0 x (List.mem_of_getElem? hx)
  have h2:=of_decide_eq_false this
  omega
 exact ⟨a1,fun i hi hv=>a2 i.toNat _ _ (lk_some hi) (rdI_get (by omega)) hv⟩
theorem addLs_at {b:Int}:∀ {ws o:List Int},(∀ l∈ws,(0≤l∧l<(o.length:Int))∧rdI o l+b≤maxRate)→ws.Nodup →
  ∃ o',addLs b ws o=some o'∧o'.length=o.length∧∀ i:Int,0≤i∧i<(o.length:Int)→rdI o' i=rdI o i+bif decide (i∈ws) then b else 0
 | [],o,_,_=>⟨o,rfl,rfl,fun i _=>by simp⟩
 |a::ws,o,h,hn=>by
  obtain ⟨h1,h2⟩:=h a (by simp)
  rw [List.nodup_cons] at hn
  have ek:addK o a b=some (o.set a.toNat (rdI o a+b)):=by
   have hx:rd tI o a=rdI o a:=rfl
   unfold addK
   rw [hx,dF (by omega:¬ b>maxRate - rdI o a),cF]
  have at_:∀ i:Int,0≤i∧i<(o.length:Int)→rdI (o.set a.toNat (rdI o a+b)) i=bif a==i then rdI o a+b else rdI o i:=fun i hi=>rdI_set h1 hi
  obtain ⟨o',e1,e2,e3⟩:=addLs_at (b:=b) (ws:=ws) (o:=o.set a.toNat (rdI o a+b)) (fun l hl=>by
   obtain ⟨l1,l2⟩:=h l (by simp [hl])
   refine ⟨by rw [List.length_set];exact l1,?_⟩
   rw [at_ l l1,show (a==l)=false from beq_eq_false_iff_ne.2 (fun e=>hn.1 (e▸hl)),cF]
   exact l2) hn.2
  rw [List.length_set] at e2
  refine ⟨o',?_,e2,fun i hi=>?_⟩
  ·simp only [addLs]
   rw [ek,bS,e1]
  ·rw [e3 i (by rw [List.length_set];exact hi),at_ i hi]
   by_cases hai:a=i
   ·subst hai
    rw [show (a==a)=true by simp,cT,dF hn.1,cF,dT (by simp:a∈a::ws),cT]
    omega
   ·rw [show (a==i)=false by simpa using hai,cF]
    by_cases hm:i∈ws
    ·rw [dT hm,dT (by simp [hm]:i∈a::ws)]
    ·rw [dF hm,dF (by simp [hm,Ne.symm hai]:¬ i∈a::ws)]
structure SplitOk (g:Gr) (f:List Int) (src dst:Int) (ps:List Pt):Prop where
 all:∀ p∈ps,0<p.1∧pathB g src dst p.2=true
 len:ps.length≤16
 sum:(ratesOf ps).sum=gainV g.2 f src
 loads:∃ o,addPs ps (List.replicate g.2.length 0)=some o∧o.length=g.2.length∧∀ i:Int,0≤i∧i<(g.2.length:Int)→rdI o i≤rdI f i
structure SpSt (g:Gr) (f:List Int) (src dst:Int) (left:List Int) (out:List Pt):Prop where
 flow:FlowOk g f left src dst
 acyc:Acyc g.2 left
 all:∀ p∈out,0<p.1∧pathB g src dst p.2=true
 len:out.length+cntP left≤16
 sum:(ratesOf out).sum+gainV g.2 left src=gainV g.2 f src
 loads:∃ o,addPs out (List.replicate g.2.length 0)=some o∧o.length=g.2.length∧∀ i:Int,0≤i∧i<(g.2.length:Int)→rdI o i+rdI left i≤rdI f i
section
variable {g:Gr} {f:List Int} {src dst:Int} (hc:capsMay g f=true)
structure PeelSt (g:Gr) (src:Int) (left:List Int) (r:Int→Nat) (v:Int) (ws:List Int):Prop where
 chain:ChainL g.2 src ws v
 lin:∀ l∈ws,(0≤l∧l<(g.2.length:Int))∧rdI left l>0
 nodup:(vertsL g.2 src ws).Nodup
 vin:∀ u∈vertsL g.2 src ws,(0≤u∧u<g.1)∧r v≤r u
 into:ws ≠ []→v ≠ src∧∃ l,(0≤l∧l<(g.2.length:Int))∧rdI left l>0∧(lk g.2 l).2.1=v
include hc in
theorem PeelSt.path {left:List Int} {r:Int→Nat} {ws:List Int} (h:PeelSt g src left r dst ws) (hs:0≤src∧src<g.1) (hne:src ≠ dst):pathB g src dst ws=true∧ws.Nodup∧ws ≠ []∧ws.length≤7:=by
 have hg:=caps_graph hc
 have hp:=graphMay_parts hg
 have hlen:=nodup_len g.1.toNat _ h.nodup fun x hx=>by have:=(h.vin x hx).1;omega
 rw [vertsL_len] at hlen
 have hws:ws ≠ []:=by
  rintro rfl
  exact hne h.chain
 have hform:walkForm g src ws=true:=by
  unfold walkForm
  rw [hg,show hasV g.1 src=true from dT hs,dT (by omega:ws.length≤64),show ws.all (lkIn g.2)=true from List.all_eq_true.2 fun l hl=>dT (h.lin l hl).1]
  rfl
 have hwk:walkOf g src ws=(vertsL g.2 src ws,0):=by
  unfold walkOf
  rw [hform,cT,chain_walk h.chain]
  rfl
 refine ⟨?_,?_,hws,by omega⟩
 ·unfold pathB
  rw [hwk,dT (List.length_pos_iff.2 hws),rd_some (t:=tI) h.chain.last,dT h.nodup]
  simp
 ·have hfr:=h.chain.froms
  have hnd:=h.nodup
  rw [hfr] at hnd
  have:=(List.nodup_append.1 hnd).1
  exact (List.pairwise_map.1 this).imp fun hn e=>hn (by rw [e])
theorem f129.l2_is (k m0:Nat) (left:List Int) (z:Int) (out:List Pt) {ws:List Int} (hw:∀ l∈ws,0≤l∧l<(left.length:Int)) (hl:ws.length≤64):∀ (n i:Nat),i≤ws.length→ws.length<n+i →
  f129.l2 k n m0 (ws.length:Int) (i:Int) src dst left z (((ws.take i).map (rdI left)).foldl min maxRate) g.1 g.2 out ws=f129.l3 k k m0 (ws.length:Int) 0 src dst left z ((ws.map (rdI left)).foldl min maxRate) g.1 g.2 out ws
 |0,i,h,h'=>by omega
 |n+1,i,h,h'=>by
  rw [f129.l2_eq]
  by_cases hlt:i<ws.length
  ·have hx:=gE hlt
   have h1:=hw _ (List.getElem_mem hlt)
   have e1:rd (Ty.int Go.IntKind.i64) ws (((i:Int).toNat:Nat):Int)=ws[i]:=rd_some (t:=tI) (by rw [Int.toNat_natCast];exact hx)
   have e2:rd (Ty.int Go.IntKind.i64) left ((ws[i].toNat:Nat):Int)=rdI left ws[i]:=rdI_nat _ _
   have et:ws.take (i+1)=ws.take i++[ws[i]]:=by rw [List.take_add_one,hx];rfl
   rw [e1,e2,dT (by omega:(i:Int)<(ws.length:Int)),cT,dT (by omega:(0:Int)≤(i:Int)∧(i:Int)<(ws.length:Int)),kT,dT h1,kT,wrap_succ (by omega),← f129.l2_is k m0 left z out hw hl n (i+1) (by omega) (by omega),et,List.map_append,List.foldl_append]
   rfl
  ·obtain rfl:i=ws.length:=by omega
   rw [dF (by omega:¬ (ws.length:Int)<(ws.length:Int)),cF,List.take_length]
theorem f129.l3_is (k m0:Nat) {left:List Int} (hcl:capsMay g left=true) (z:Int) (out:List Pt) (ho:out.length≤16) {b:Int} {ws:List Int} (h:SubOk g left b ws) (hl:ws.length≤64):∀ (n i:Nat),i≤ws.length→ws.length<n+i →
  f129.l3 k n m0 (ws.length:Int) (i:Int) src dst (subL b left (ws.take i)) z b g.1 g.2 out ws=f129.l0 k m0 src dst g.1 g.2 (subL b left ws) (out++[(b,ws)])
 |0,i,h1,h2=>by omega
 |n+1,i,h1,h2=>by
  rw [f129.l3_eq]
  by_cases hlt:i<ws.length
  ·have hx:=gE hlt
   obtain ⟨s1,s2,s3⟩:=h.step hcl hx
   have e1:rd (Ty.int Go.IntKind.i64) ws (((i:Int).toNat:Nat):Int)=ws[i]:=rd_some (t:=tI) (by rw [Int.toNat_natCast];exact hx)
   have e2:rd (Ty.int Go.IntKind.i64) (subL b left (ws.take i)) ((ws[i].toNat:Nat):Int)=rdI (subL b left (ws.take i)) ws[i]:=rdI_nat _ _
   have c2:decide ((0:Int)≤ws[i]∧ws[i]<((subL b left (ws.take i)).length:Int))=true:=dT (by rw [subL_len];exact s3)
   have et:ws.take (i+1)=ws.take i++[ws[i]]:=by rw [List.take_add_one,hx];rfl
   rw [e1,e2,s2,c2,dT (by omega:(i:Int)<(ws.length:Int)),cT,dT (by omega:(0:Int)≤(i:Int)∧(i:Int)<(ws.length:Int)),kT,kT,kT,wrap_succ (by omega),← f129.l3_is k m0 hcl z out ho h hl n (i+1) (by omega) (by omega),et,subL_snoc]
  ·obtain rfl:i=ws.length:=by omega
   rw [dF (by omega:¬ (ws.length:Int)<(ws.length:Int)),cF,List.take_length,dT (by rw [lA,List.length_singleton];omega:(out++[(b,ws)]).length*32≤140737488355328),kT]
include hc in
theorem SpSt.caps {left:List Int} {out:List Pt} (h:SpSt g f src dst left out):capsMay g left=true:=lies_caps (cs:=f) (by unfold liesB;rw [hc,h.flow.within];rfl)
include hc in
theorem SpSt.more {left:List Int} {out:List Pt} (h:SpSt g f src dst left out) {r:Int→Nat} {ws:List Int} (hw:PeelSt g src left r dst ws) (hs:0≤src∧src<g.1) (hne:src ≠ dst) {b:Int} (hb:SubOk g left b ws) :
  SpSt g f src dst (subL b left ws) (out++[(b,ws)])∧cntP (subL b left ws)<cntP left:=by
 have hcl:=h.caps hc
 have hl:=capsMay_len hcl
 have hM:maxRate=4611686018427387904:=rfl
 obtain ⟨p1,p2,p3,p4⟩:=hw.path hc hs hne
 obtain ⟨t1,t2,t3⟩:=hb.sub (fun i hi=>(caps_sum hcl).2 _ (List.mem_of_getElem? (rdI_get (by omega)))) hl
 have hbp:=hb.pos
 have hfl:=capsMay_len hc
 have hg:=fun v=>gain_sub (b:=b) (v:=v) hl (fun l hl=>(hw.lin l hl).1) hw.chain
 have hlen:=h.len
 have hle:∀ i:Int,0≤i∧i<(g.2.length:Int)→0≤rdI (subL b left ws) i∧rdI (subL b left ws) i≤rdI left i:=fun i hi=>within_at t1 (by omega)
 refine ⟨⟨⟨?_,fun v hv h1 h2=>?_,fun i hi he=>?_⟩,h.acyc.less fun i hi hp=>?_,fun p hp=>?_,?_,?_,?_⟩,t2⟩
 ·have e:=subL_len b ws left
  exact withinF_by (by omega) fun i hi=>by
   have a1:=hle i (by omega)
   have a2:=within_at h.flow.within (i:=i) hi
   omega
 ·rw [hg v,h.flow.still v hv h1 h2,show (src==v)=false by simpa using Ne.symm h1,show (dst==v)=false by simpa using Ne.symm h2,cF]
  rfl
 ·have a1:=hle i hi
  have a2:=h.flow.noIn i hi he
  omega
 ·have a1:=hle i hi
  omega
 ·rcases List.mem_append.1 hp with hp|hp
  ·exact h.all p hp
  ·obtain rfl:p=(b,ws):=by simpa using hp
   exact ⟨by show 0<b;omega,p1⟩
 ·rw [lA,List.length_singleton]
  omega
 ·have hsum:=h.sum
  rw [hg src,show (src==src)=true by simp,show (dst==src)=false by simpa using Ne.symm hne,cT,cF]
  unfold ratesOf at hsum ⊢
  rw [List.map_append,List.sum_append]
  simp only [List.map_cons,List.map_nil,List.sum_cons,List.sum_nil]
  omega
 ·obtain ⟨o,o1,o2,o3⟩:=h.loads
  obtain ⟨o',q1,q2,q3⟩:=addLs_at (b:=b) (ws:=ws) (o:=o) (fun l hl'=>by
   obtain ⟨l1,l2⟩:=hb.le l hl'
   have l3:=o3 l l1
   have l4:=(caps_le hc (List.mem_of_getElem? (rdI_get (f:=f) (i:=l) (by omega)))).2
   exact ⟨by omega,by omega⟩) p2
  refine ⟨o',?_,by omega,fun i hi=>?_⟩
  ·rw [addPs_append,o1,bS]
   simp only [addPs]
   rw [q1,bS]
  ·have l3:=o3 i hi
   rw [q3 i (by omega),t3 i hi]
   cases decide (i∈ws) <;> simp only [cT,cF] <;> omega
include hc in
theorem SpSt.stop {left:List Int} {out:List Pt} (h:SpSt g f src dst left out) {r:Int→Nat} {v:Int} {ws:List Int} (hw:PeelSt g src left r v ws) (hne:src ≠ dst) (hvd:v ≠ dst) (hn:nextA g.2 left v<0):SplitOk g f src dst out:=by
 have hcl:=h.caps hc
 have hl:=capsMay_len hcl
 have h0:=(caps_sum hcl).2
 obtain ⟨n1,n2⟩:=next_none hl h0 hn
 have hws:ws=[]:=by
  by_cases he:ws=[]
  ·exact he
  ·obtain ⟨a1,l,a2,a3,a4⟩:=hw.into he
   have:=n2 l a2 a4
   have hv:=(hw.vin v (List.mem_of_getElem? hw.chain.last)).1
   rw [h.flow.still v hv a1 hvd] at this
   omega
 subst hws
 obtain rfl:src=v:=hw.chain
 have hge:0≤gainV g.2 left src:=gain_nonneg hl (fun i hi=>h0 _ (List.mem_of_getElem? (rdI_get (by omega)))) h.flow.noIn
 have hsum:=h.sum
 obtain ⟨o,o1,o2,o3⟩:=h.loads
 exact ⟨h.all,by have:=h.len;omega,by omega,o,o1,o2,fun i hi=>by
  have a1:=o3 i hi
  have a2:=h0 _ (List.mem_of_getElem? (rdI_get (f:=left) (i:=i) (by omega)))
  omega⟩
@[reducible] def resSp (x:List Pt×Int):V:=.tup [.own tP x.1,.int .i64 x.2]
include hc in
theorem f129.l1_is (Q:Option V→Prop) (k m0:Nat) (hk:65≤k) (hs:0≤src∧src<g.1) (hne:src ≠ dst) {left:List Int} {out:List Pt} (h:SpSt g f src dst left out) {r:Int→Nat} (hr:∀ i,0≤i∧i<(g.2.length:Int)→rdI left i>0→r (lk g.2 i).2.1<r (lk g.2 i).1) (z:Int)
  (hstop:SplitOk g f src dst out→Q (some (resSp (out,0)))) (hmore:∀ left' out',SpSt g f src dst left' out'→cntP left'<cntP left→Q (f129.l0 k m0 src dst g.1 g.2 left' out')):∀ (n:Nat) (v:Int) (ws:List Int),PeelSt g src left r v ws→9<n+ws.length →
  Q (f129.l1 k n m0 dst v src left g.1 g.2 z out ws)
 |0,v,ws,hw,hn=>by
  have hp:=graphMay_parts (caps_graph hc)
  have hlen:=nodup_len g.1.toNat _ hw.nodup fun x hx=>by have:=(hw.vin x hx).1;omega
  rw [vertsL_len] at hlen
  omega
 |n+1,v,ws,hw,hn=>by
  have hg:=caps_graph hc
  have hp:=graphMay_parts hg
  have hcl:=h.caps hc
  have hl:=capsMay_len hcl
  have hlen:=nodup_len g.1.toNat _ hw.nodup fun x hx=>by have:=(hw.vin x hx).1;omega
  rw [vertsL_len] at hlen
  rw [f129.l1_eq]
  by_cases hvd:v=dst
  ·subst hvd
   obtain ⟨p1,p2,p3,p4⟩:=hw.path hc hs hne
   rw [show (v != v)=false by simp,cF]
   have e2:=f129.l2_is (g:=g) (src:=src) (dst:=v) k m0 left z out (ws:=ws) (fun l hl'=>by have:=(hw.lin l hl').1;omega) (by omega) k 0 (by omega) (by omega)
   have e2':f129.l2 k k m0 (ws.length:Int) 0 src v left z (4611686018427387904:Int) g.1 g.2 out ws=f129.l3 k k m0 (ws.length:Int) 0 src v left z ((ws.map (rdI left)).foldl min maxRate) g.1 g.2 out ws:=e2
   rw [e2']
   obtain ⟨s1,s2⟩:=SubOk.of hcl hw.lin p2 p3 rfl
   generalize (ws.map (rdI left)).foldl min maxRate=b at s1 s2
   have e3:=f129.l3_is (g:=g) (src:=src) (dst:=v) k m0 hcl z out (by have:=h.len;omega) s1 (by omega) k 0 (by omega) (by omega)
   rw [show ((0:Nat):Int)=0 by rfl,show subL b left (ws.take 0)=left by rfl] at e3
   rw [e3]
   obtain ⟨t1,t2⟩:=h.more hc hw hs hne s1
   exact hmore _ _ t1 t2
  ·have c2:nextForm (((g.1,g.2),left,v):Gr×(List Int×Int))=true:=by
    unfold nextForm
    dsimp only
    rw [show graphMay (g.1,g.2)=true from hg,hl]
    simp
   rw [show (v != dst)=true by simpa using hvd,cT,c2,kT,bS]
   by_cases h0:nextA g.2 left v<0
   ·rw [dT h0,cT]
    exact hstop (h.stop hc hw hne hvd h0)
   ·rw [dF h0,cF]
    obtain ⟨s1,s2⟩:=(searchI_cases g.2.length (nextB g.2 left v)).resolve_left fun hx=>h0 (by
     have e:nextA g.2 left v=-1:=hx.1
     omega)
    have hal:searchI g.2.length (nextB g.2 left v)=nextA g.2 left v:=rfl
    rw [hal] at s1 s2
    generalize nextA g.2 left v=l at s1 s2 h0
    unfold nextB at s2
    rw [bA] at s2
    have e1:=eq_of_beq s2.1
    have e3:rdI left l>0:=oD s2.2
    have hl1:(ws++[l]).length=ws.length+1:=by simp
    have w1:Go.IntKind.i64.wrap (((ws++[l]).length:Int) - 1)=(ws.length:Int):=by rw [hl1,wrap64 (by omega)];omega
    have r1:rd (Ty.int Go.IntKind.i64) (ws++[l]) (((ws.length:Int).toNat:Nat):Int)=l:=rd_some (t:=tI) (by rw [Int.toNat_natCast];simp)
    rw [dT (by omega:(ws++[l]).length*8≤140737488355328),kT,w1,dT (by omega:(0:Int)≤(ws.length:Int)∧(ws.length:Int)<((ws++[l]).length:Int)),kT,r1,dT s1,kT]
    have hto:=(lk_at hg s1).2.1
    have hrl:=hr l s1 e3
    have hnew:∀ u∈vertsL g.2 src ws,r (lk g.2 l).2.1<r u:=fun u hu=>by
     have:=(hw.vin u hu).2
     rw [e1] at hrl
     omega
    have ih:=f129.l1_is Q k m0 hk hs hne h hr z hstop hmore n (lk g.2 l).2.1 (ws++[l]) ⟨hw.chain.snoc e1,fun a ha=>by
     rcases List.mem_append.1 ha with ha|ha
     ·exact hw.lin a ha
     ·obtain rfl:a=l:=by simpa using ha
      exact ⟨s1,e3⟩,by
     rw [vertsL_snoc]
     exact List.nodup_append.2 ⟨hw.nodup,by simp,fun a ha b hb=>by
      obtain rfl:b=(lk g.2 l).2.1:=by simpa using hb
      rintro rfl
      have:=hnew _ ha
      omega⟩,fun u hu=>by
     rw [vertsL_snoc] at hu
     rcases List.mem_append.1 hu with hu|hu
     ·exact ⟨(hw.vin u hu).1,by have:=hnew u hu;omega⟩
     ·obtain rfl:u=(lk g.2 l).2.1:=by simpa using hu
      exact ⟨hto,Nat.le_refl _⟩,fun _=>⟨fun e=>by
       have:=hnew src (by simp [vertsL])
       rw [e] at this
       omega,l,s1,e3,rfl⟩⟩ (by omega)
    exact ih
include hc in
theorem f129.l0_is (k:Nat) (hk:65≤k) (hs:0≤src∧src<g.1) (hne:src ≠ dst):∀ (n:Nat) (left:List Int) (out:List Pt),cntP left<n→SpSt g f src dst left out →
  ∃ ps,f129.l0 k n src dst g.1 g.2 left out=some (resSp (ps,0))∧SplitOk g f src dst ps
 |0,left,out,h,_=>by omega
 |n+1,left,out,h,hst=>by
  rw [f129.l0_eq]
  obtain ⟨r,hr⟩:=hst.acyc
  exact f129.l1_is hc (fun y=>∃ ps,y=some (resSp (ps,0))∧SplitOk g f src dst ps) k n hk hs hne hst hr 0 (fun h1=>⟨out,rfl,h1⟩) (fun left' out' h1 h2=>f129.l0_is k hk hs hne n left' out' (by omega) h1) k src [] ⟨rfl,by simp,by simp [vertsL],fun u hu=>by
   obtain rfl:u=src:=by simpa [vertsL] using hu
   exact ⟨hs,Nat.le_refl _⟩,fun h=>absurd rfl h⟩ (by simp;omega)
end
def splitP (d:Gr×(List Int×(Int×Int))) (x:List Pt×Int):Prop :=
 (x.2=0∧SplitOk d.1 d.2.1 d.2.2.1 d.2.2.2 x.1)∧∃ k,evFn (f129.E k) 9 129 Tryz.f129 (encL [tG,tL,tI,tI] d)=some (resSp x)
noncomputable def splitC (d:Gr×(List Int×(Int×Int))):Option (List Pt×Int):=relC splitP d
theorem splitC_is {g:Gr} {cs f:List Int} {src dst:Int} (hcs:capsMay g cs=true) (hF:FlowOk g cs f src dst) (hs:hasV g.1 src=true) (hd:hasV g.1 dst=true) (hne:src ≠ dst):∃ ps,splitC (g,(f,(src,dst)))=some (ps,0)∧SplitOk g f src dst ps:=by
 have hc:capsMay g f=true:=lies_caps (cs:=cs) (by unfold liesB;rw [hcs,hF.within];rfl)
 have hg:=caps_graph hc
 have h1:0≤src∧src<g.1:=oD hs
 have hF':FlowOk g f f src dst:=⟨withinF_self (caps_sum hc).2,hF.still,hF.noIn⟩
 have hfl:=capsMay_len hc
 have hp:=graphMay_parts hg
 obtain ⟨x,e1,e2⟩:=cancelC_is hg f
 unfold cancelQ at e2
 dsimp only at e2
 rw [hc,cT] at e2
 obtain ⟨e2,e3⟩:=e2
 have hwl:=withinF_len e3.within
 have hx:=fun (i:Int)=>within_at e3.within (i:=i)
 have hst:SpSt g f src dst x.1 []:=by
  refine ⟨⟨e3.within,fun v hv a b=>by rw [e3.gain];exact hF.still v hv a b,fun i hi he=>?_⟩,e3.acyc,by simp,?_,?_,List.replicate g.2.length 0,rfl,by simp,fun i hi=>?_⟩
  ·have a1:=hx i (by omega)
   have a2:=hF.noIn i hi he
   omega
  ·have:=cntP_len x.1
   simp only [List.length_nil]
   omega
  ·rw [e3.gain]
   simp [ratesOf]
  ·rw [rdI_replicate (by omega)]
   have a1:=hx i (by omega)
   omega
 obtain ⟨ps,p1,p2⟩:=f129.l0_is hc 100 (by omega) h1 hne 100 x.1 [] (by have:=cntP_len x.1;omega) hst
 have:∃ y,splitP (g,(f,(src,dst))) y:=by
  refine ⟨(ps,0),⟨rfl,p2⟩,100,(f129.eq _ g f src dst).trans ?_⟩
  rw [hF'.may hc hs hd hne,nT,cF,e1,bS,e2,show ((0:Int) != 0)=false by rfl,cF]
  exact p1
 obtain ⟨y,y1,y2⟩:=relC_is this
 refine ⟨y.1,?_,y2.1.2⟩
 rw [show splitC (g,(f,(src,dst)))=some y from y1,← y2.1.1]
noncomputable def S129:Summ:=summ [tG,tL,tI,tI] (List Pt×Int) splitC resSp
theorem ok129:SumOk Tryz.prog 129 S129 :=
 sumq f129.E (fn:=Tryz.f129) (code:=f129.code) f129.sums f129.inl fun d x hx=>(relC_some (P:=splitP) hx).2
end
section
set_option maxRecDepth 100000
noncomputable def f63.E (k:Nat):Env:=mkEnv tt [(121,S121),(125,S125),(122,S122),(127,S127),(128,S128),(129,S129)] [] [] [] k
noncomputable def f63.code:Go.Code:=cd Tryz.f63
theorem f63.eq (k:Nat) (x0:Int×List (eL)) (x1:List Int) (x2:Int) (x3:Int) (x4:Int):evFn (f63.E k) 9 63 Tryz.f63 (encL [(.pair qI (.list qL)),(.list qI),qI,qI,qI] (x0,x1,x2,x3,x4)) =
 bif !capsMay x0 x1 then (some (.tup [(.own qP ([])),(.own qI ([])),(.int .i64 1600)])) else (bif !hasV x0.1 x2 then (some (.tup [(.own qP ([])),(.own qI ([])),(.int .i64 1600)])) else (bif !hasV x0.1 x3 then (some (.tup [(.own qP ([])),(.own qI ([])),(.int .i64 1600)])) else (bif x2==x3 then (some (.tup [(.own qP ([])),(.own qI ([])),(.int .i64 1600)])) else (bif x4==(0:Int) then (some (.tup [(.own qP ([])),(.own qI ([])),(.int .i64 1600)])) else (bif !rateB x4 then (some (.tup [(.own qP ([])),(.own qI ([])),(.int .i64 1600)])) else ((pushC ((x0,x1,x2,x3,x4))).bind (fun y0=>bif y0.2.2 != (0:Int) then (some (.tup [(.own qP ([])),(.own qI ([])),(.int .i64 1600)])) else (bif decide (y0.2.1<x4) then ((chk (graphMay x0) (some (reachRes x0 x1 y0.1 x2))).bind (fun y1=>some (.tup [(.own qP ([])),(.own qI y1.1),(.int .i64 0)]))) else ((splitC ((x0,y0.1,x2,x3))).bind (fun y1=>some (.tup [(.own qP y1.1),(.own qI ([])),(.int .i64 0)]))))))))))):=by kernel_rfl
theorem f63.inl (k:Nat):InlOk Tryz.prog (f63.E k):=inl_nil
theorem f63.sums (k:Nat):SumsOk Tryz.prog (f63.E k):=(sums_cons ok121 (sums_cons ok125 (sums_cons ok122 (sums_cons ok127 (sums_cons ok128 (sums_cons ok129 sums_nil))))))
end
section
set_option maxRecDepth 100000
def crossL (vs:List Int):List Lk→List Int→Int
 |l::gl,x::f=>((bif amongB vs l.1 then x else 0) - (bif amongB vs l.2.1 then x else 0))+crossL vs gl f
 |_,_=>0
def sumV (vs:List Int) (m:Nat) (F:Int→Int):Int:=((upto m).map fun v=>bif amongB vs v then F v else 0).sum
theorem sum_map_add (F G:Int→Int):∀ l:List Int,(l.map fun v=>F v+G v).sum=(l.map F).sum+(l.map G).sum
 | []=>rfl
 |a::l=>by simp only [List.map_cons,List.sum_cons,sum_map_add F G l];omega
theorem sum_map_zero (F:Int→Int):∀ l:List Int,(∀ v∈l,F v=0)→(l.map F).sum=0
 | [],_=>rfl
 |a::l,h=>by
  rw [List.map_cons,List.sum_cons,h a (by simp),sum_map_zero F l fun v hv=>h v (by simp [hv])]
  rfl
theorem sum_map_one (F:Int→Int) {a:Int}:∀ l:List Int,l.Nodup→a∈l→(∀ v∈l,v ≠ a→F v=0)→(l.map F).sum=F a
 | [],_,h,_=>by simp at h
 |b::l,hn,h,hz=>by
  rw [List.nodup_cons] at hn
  rw [List.map_cons,List.sum_cons]
  by_cases hb:b=a
  ·subst hb
   rw [sum_map_zero F l fun v hv=>hz v (by simp [hv]) fun e=>hn.1 (e▸hv)]
   omega
  ·rw [hz b (by simp) hb,sum_map_one F l hn.2 (by simpa [Ne.symm hb] using h) fun v hv=>hz v (by simp [hv])]
   omega
theorem upto_nodup (m:Nat):(upto m).Nodup:=by
 unfold upto
 refine List.pairwise_map.2 (List.nodup_range.imp fun h e=>h ?_)
 exact_mod_cast e
theorem sumV_gain (vs:List Int) {m:Nat}:∀ (gl:List Lk) (f:List Int),(∀ l∈gl,(0≤l.1∧l.1<(m:Int))∧(0≤l.2.1∧l.2.1<(m:Int)))→sumV vs m (gainV gl f)=crossL vs gl f
 | [],f,_=>sum_map_zero _ _ fun v _=>by cases amongB vs v <;> simp [gainV]
 |l::gl,[],_=>sum_map_zero _ _ fun v _=>by cases amongB vs v <;> simp [gainV]
 |l::gl,x::f,h=>by
  have ih:=sumV_gain vs gl f fun l hl=>h l (by simp [hl])
  obtain ⟨h1,h2⟩:=h l (by simp)
  have one:∀ a:Int,0≤a∧a<(m:Int)→((upto m).map fun v=>bif amongB vs v then (bif a==v then x else 0) else 0).sum=bif amongB vs a then x else 0:=fun a ha=>by
   rw [sum_map_one (a:=a) _ _ (upto_nodup m) (upto_mem.2 ha) fun v _ hv=>by
    rw [show (a==v)=false by simpa using Ne.symm hv,cF]
    cases amongB vs v <;> rfl]
   rw [show (a==a)=true by simp,cT]
  unfold sumV at ih ⊢
  have e:(fun v=>bif amongB vs v then gainV (l::gl) (x::f) v else 0)=fun v=>(bif amongB vs v then (bif l.1==v then x else 0) else 0)+((bif amongB vs v then -(bif l.2.1==v then x else 0) else 0)+(bif amongB vs v then gainV gl f v else 0)):=by
   funext v
   simp only [gainV]
   cases amongB vs v <;> simp only [cT,cF] <;> omega
  have n:(fun v=>bif amongB vs v then -(bif l.2.1==v then x else 0) else 0)=fun v=>-(bif amongB vs v then (bif l.2.1==v then x else 0) else 0):=by
   funext v
   cases amongB vs v <;> simp only [cT,cF] <;> rfl
  have neg:∀ (F:Int→Int) (l:List Int),(l.map fun v=>-F v).sum=-(l.map F).sum:=fun F l=>by
   induction l with
   |nil=>rfl
   |cons a l ih=>simp only [List.map_cons,List.sum_cons,ih];omega
  rw [e,sum_map_add,sum_map_add,one l.1 h1,n,neg,one l.2.1 h2,ih]
  simp only [crossL]
  omega
theorem cross_le (vs:List Int):∀ {gl:List Lk} {f cs:List Int},f.length=gl.length→cs.length=gl.length→(∀ (i:Nat) (x c:Int),f[i]? = some x→cs[i]? = some c→0≤x∧x≤c)→crossL vs gl f≤worthL vs gl cs
 | [],f,cs,_,_,_=>by simp [crossL,worthL]
 |l::gl,[],cs,h,_,_=>by simp at h
 |l::gl,x::f,[],_,h,_=>by simp at h
 |l::gl,x::f,c::cs,h1,h2,h=>by
  have ih:=cross_le vs (gl:=gl) (f:=f) (cs:=cs) (by simpa using h1) (by simpa using h2) fun i x c hx hc=>h (i+1) x c (by simpa using hx) (by simpa using hc)
  have h0:=h 0 x c rfl rfl
  simp only [crossL,worthL]
  unfold leavesB
  cases amongB vs l.1 <;> cases amongB vs l.2.1 <;> simp only [cT,cF,tA,fA,nT,nF] <;> omega
theorem cross_eq (vs:List Int):∀ {gl:List Lk} {f cs:List Int},f.length=gl.length→cs.length=gl.length→(∀ (i:Nat) (l:Lk) (x c:Int),gl[i]? = some l→f[i]? = some x→cs[i]? = some c→(amongB vs l.1=true→amongB vs l.2.1=false→x=c)∧(amongB vs l.1=false→amongB vs l.2.1=true→x=0))→crossL vs gl f=worthL vs gl cs
 | [],f,cs,_,_,_=>by simp [crossL,worthL]
 |l::gl,[],cs,h,_,_=>by simp at h
 |l::gl,x::f,[],_,h,_=>by simp at h
 |l::gl,x::f,c::cs,h1,h2,h=>by
  have ih:=cross_eq vs (gl:=gl) (f:=f) (cs:=cs) (by simpa using h1) (by simpa using h2) fun i l x c hl hx hc=>h (i+1) l x c (by simpa using hl) (by simpa using hx) (by simpa using hc)
  obtain ⟨a,b⟩:=h 0 l x c rfl rfl rfl
  simp only [crossL,worthL,ih]
  unfold leavesB
  cases e1:amongB vs l.1 <;> cases e2:amongB vs l.2.1 <;> simp only [cT,cF,tA,fA,nT,nF]
  ·omega
  ·have:=b e1 e2;omega
  ·have:=a e1 e2;omega
  ·omega
section
variable {g:Gr} {cs f:List Int} {src dst:Int} (hc:capsMay g cs=true)
include hc in
theorem FlowOk.cut (h:FlowOk g cs f src dst) (hs:0≤src∧src<g.1) {vs:List Int} (h1:amongB vs src=true) (h2:amongB vs dst=false):gainV g.2 f src=crossL vs g.2 f:=by
 have hg:=caps_graph hc
 have hp:=graphMay_parts hg
 have e:=sumV_gain vs (m:=g.1.toNat) g.2 f fun l hl=>by
  obtain ⟨i,hi⟩:=List.mem_iff_getElem?.1 hl
  have:=link_at hg hi
  omega
 rw [← e]
 unfold sumV
 rw [sum_map_one (a:=src) _ _ (upto_nodup _) (upto_mem.2 (by omega)) fun v hv hne=>?_,h1,cT]
 have hv:=upto_mem.1 hv
 by_cases hd:v=dst
 ·subst hd
  rw [h2,cF]
 ·rw [h.still v (by omega) hne hd]
  cases amongB vs v <;> rfl
include hc in
theorem FlowOk.least (h:FlowOk g cs f src dst) (hs:0≤src∧src<g.1) {vs:List Int} (h1:amongB vs src=true) (h2:amongB vs dst=false):gainV g.2 f src≤worthL vs g.2 cs:=by
 have hl:=withinF_len h.within
 have hcl:=capsMay_len hc
 rw [h.cut hc hs h1 h2]
 exact cross_le vs (by omega) hcl fun i x c hx hc=>withinF_get h.within hx hc
theorem upto_rising (m:Nat) (P:Int→Bool):∀ (n i:Nat) (p:Option Int),n+i=m→(∀ q,p=some q→q<(i:Int))→risingB (m:Int) p (((upto m).drop i).filter P)=true
 |0,i,p,h,_=>by
  rw [List.drop_eq_nil_of_le (by rw [upto_length];omega)]
  rfl
 |n+1,i,p,h,hp=>by
  have hu:i<(upto m).length:=by rw [upto_length];omega
  have hg:(upto m)[i]=(i:Int):=(List.getElem?_eq_some_iff.1 (upto_get (by omega))).2
  rw [drop_filter _ hu,hg]
  cases P (i:Int) with
  |false =>
   rw [cF]
   exact upto_rising m P n (i+1) p (by omega) fun q hq=>by have:=hp q hq;omega
  |true =>
   rw [cT]
   simp only [risingB]
   rw [show hasV (m:Int) (i:Int)=true from dT (by omega),upto_rising m P n (i+1) (some (i:Int)) (by omega) fun q hq=>by
    obtain rfl:=oJ hq
    omega]
   cases p with
   |none=>rfl
   |some q =>
    have hq:decide (q<(i:Int))=true:=dT (hp q rfl)
    show (true&&(decide (q<(i:Int))&&true))=true
    rw [hq]
    rfl
theorem reach_among {o:List Int} {v:Int} (hv:0≤v∧v<(o.length:Int)):amongB (reachL o) v=decide (rdI o v ≥ 0):=by
 cases h:decide (rdI o v ≥ 0) with
 |true=>exact among_mem.2 (List.mem_filter.2 ⟨upto_mem.2 hv,h⟩)
 |false =>
  cases hb:amongB (reachL o) v with
  |false=>rfl
  |true =>
   have:=(List.mem_filter.1 (among_mem.1 hb)).2
   rw [h] at this
   cases this
include hc in
theorem FlowOk.full (h:FlowOk g cs f src dst) (hs:0≤src∧src<g.1) (hd:0≤dst∧dst<g.1) (hno:rdI (levelsOf g cs f src) dst<0) :
  cutMay g src dst (reachL (levelsOf g cs f src))=true∧worthL (reachL (levelsOf g cs f src)) g.2 cs=gainV g.2 f src:=by
 have hg:=caps_graph hc
 have hp:=graphMay_parts hg
 have hL:=levels_ok (cs:=cs) (f:=f) hg hs
 have hol:=hL.lv.len
 have hl:=withinF_len h.within
 have hcl:=capsMay_len hc
 generalize levelsOf g cs f src=o at hL hol hno
 have am:∀ v,0≤v∧v<g.1→amongB (reachL o) v=decide (rdI o v ≥ 0):=fun v hv=>reach_among (by omega)
 have h1:amongB (reachL o) src=true:=by rw [am src hs,hL.src0];rfl
 have h2:amongB (reachL o) dst=false:=by rw [am dst hd];exact dF (by omega)
 have hr:risingB g.1 none (reachL o)=true:=by
  have:=upto_rising o.length (fun v=>decide (rdI o v ≥ 0)) o.length 0 none (by omega) (fun q hq=>by cases hq)
  rw [List.drop_zero,show (o.length:Int)=g.1 by omega] at this
  exact this
 refine ⟨?_,?_⟩
 ·unfold cutMay
  rw [hr,hg,h1,h2,show hasV g.1 dst=true from dT hd]
  rfl
 ·rw [h.cut hc hs h1 h2]
  refine (cross_eq _ (by omega) hcl fun i l x c hlk hx hcx=>?_).symm
  have hi:=idx_lt hlk
  obtain ⟨l1,l2,_⟩:=link_at hg hlk
  have hw:=withinF_get h.within hx hcx
  rw [am _ l1,am _ l2]
  have elk:lk g.2 (i:Int)=l:=lk_nat hlk
  constructor
  ·intro a1 a2
   have a1:=oD a1
   have a2:=of_decide_eq_false a2
   have hb:backB (2*(i:Int))=false:=by unfold backB;simp
   have hL':arcL (2*(i:Int))=(i:Int):=by unfold arcL;omega
   have ef:arcFrom g.2 (2*(i:Int))=l.1:=by unfold arcFrom;rw [hb,hL',cF,elk]
   have et:arcTo g.2 (2*(i:Int))=l.2.1:=by unfold arcTo;rw [hb,hL',cF,elk]
   have er:roomA cs f (2*(i:Int))=c - x:=by unfold roomA;rw [hb,hL',cF,rdI_some hcx,rdI_some hx]
   by_cases hroom:c - x>0
   ·have:=hL.on l.1 l1 (by omega) (2*(i:Int)) (rowA_mem.2 ⟨dT (by omega),ef⟩) (by rw [er];exact hroom)
    rw [et] at this
    omega
   ·omega
  ·intro a1 a2
   have a1:=of_decide_eq_false a1
   have a2:=oD a2
   have hb:backB (2*(i:Int)+1)=true:=by unfold backB;simp
   have hL':arcL (2*(i:Int)+1)=(i:Int):=by unfold arcL;omega
   have ef:arcFrom g.2 (2*(i:Int)+1)=l.2.1:=by unfold arcFrom;rw [hb,hL',cT,elk]
   have et:arcTo g.2 (2*(i:Int)+1)=l.1:=by unfold arcTo;rw [hb,hL',cT,elk]
   have er:roomA cs f (2*(i:Int)+1)=x:=by unfold roomA;rw [hb,hL',cT,rdI_some hx]
   by_cases hroom:x>0
   ·have:=hL.on l.2.1 l2 (by omega) (2*(i:Int)+1) (rowA_mem.2 ⟨dT (by omega),ef⟩) (by rw [er];exact hroom)
    rw [et] at this
    omega
   ·omega
theorem pathB_form {ls:List Int} (h:pathB g src dst ls=true):decide (ls.length≤64)=true∧ls.all (lkIn g.2)=true:=by
 unfold pathB at h
 rw [bA] at h
 obtain ⟨us,h1,_⟩:=walkOf_ok (eq_of_beq h.1)
 obtain ⟨_,_,h2,h3⟩:=walkForm_all h1
 exact ⟨dT h2,h3⟩
include hc in
theorem SplitOk.fits (h:FlowOk g cs f src dst) {ps:List Pt} (hp:SplitOk g f src dst ps) {want:Int} (hv:gainV g.2 f src=want) (hw:0<want∧want≤maxRate):mayB g src dst want ps=true∧fitsOf g cs ps=(true,0):=by
 have hg:=caps_graph hc
 have hl:=withinF_len h.within
 have hcl:=capsMay_len hc
 have hsum:=hp.sum
 have hpos:∀ x∈ratesOf ps,0≤x:=fun x hx=>by
  obtain ⟨p,h1,rfl⟩:=List.mem_map.1 hx
  have:=(hp.all p h1).1
  omega
 have hlen:=hp.len
 constructor
 ·unfold mayB
  rw [hg,dT hw.1,dT hlen,sumUp_eq (ratesOf ps) 0 hpos (by omega) (by omega),List.all_eq_true.2 fun p hm=>by
   obtain ⟨h1,h2⟩:=hp.all p hm
   rw [dT h1,h2]
   rfl]
  rw [some_beq,show (0+(ratesOf ps).sum==want)=true by simp;omega]
  rfl
 ·obtain ⟨o,o1,o2,o3⟩:=hp.loads
  have hform:bForm g ps=true:=by
   unfold bForm
   rw [hg,dT hlen,List.all_eq_true.2 fun p hm=>by
    obtain ⟨h1,h2⟩:=hp.all p hm
    obtain ⟨h3,h4⟩:=pathB_form h2
    unfold ptOk
    have h5:=mem_le_sum hpos (List.mem_map_of_mem (f:=fun p:Pt=>p.1) hm)
    rw [h3,h4,show rateB p.1=true from dT (by
     have e:(List.map (fun p:Pt=>p.1) ps).sum=(ratesOf ps).sum:=rfl
     omega)]
    rfl]
   rfl
  have hlo:loadsOf g ps=(o,0):=by
   unfold loadsOf
   rw [hform,cT,o1]
  unfold fitsOf
  rw [hc,cT,hlo,show ((0:Int) != 0)=false by rfl,cF]
  rw [show (o.zip cs).any overB=false from List.any_eq_false.2 fun x hx=>by
   obtain ⟨i,hi⟩:=List.mem_iff_getElem?.1 hx
   obtain ⟨h1,h2⟩:=List.getElem?_zip_eq_some.1 hi
   have hi':=idx_lt h2
   have a1:=o3 (i:Int) (by omega)
   have a2:=within_at h.within (i:=(i:Int)) (by omega)
   rw [rdI_some h1] at a1
   rw [rdI_some h2] at a2
   unfold overB
   rw [dF (by omega:¬ x.1>x.2)]
   simp]
  rfl
end
def routeForm (g:Gr) (cs:List Int) (src dst want:Int):Bool:=capsMay g cs&&(hasV g.1 src&&(hasV g.1 dst&&(!(src==dst)&&(!(want==0)&&rateB want))))
structure RouteOk (g:Gr) (cs:List Int) (src dst want:Int) (ps:List Pt) (vs:List Int):Prop where
 either:(vs=[]∧mayB g src dst want ps=true∧fitsOf g cs ps=(true,0)∧∀ us,amongB us src=true→amongB us dst=false→want≤worthL us g.2 cs) ∨
  (ps=[]∧cutMay g src dst vs=true∧worthL vs g.2 cs<want)
def routeQ (d:Gr×(List Int×(Int×(Int×Int)))) (x:List Pt×(List Int×Int)):Prop :=
 bif routeForm d.1 d.2.1 d.2.2.1 d.2.2.2.1 d.2.2.2.2 then x.2.2=0∧RouteOk d.1 d.2.1 d.2.2.1 d.2.2.2.1 d.2.2.2.2 x.1 x.2.1 else x=([],([],1600))
@[reducible] def resRt (x:List Pt×(List Int×Int)):V:=.tup [.own tP x.1,.own tI x.2.1,.int .i64 x.2.2]
def routeP (d:Gr×(List Int×(Int×(Int×Int)))) (x:List Pt×(List Int×Int)):Prop :=
 routeQ d x∧∃ k,evFn (f63.E k) 9 63 Tryz.f63 (encL [tG,tL,tI,tI,tI] d)=some (resRt x)
noncomputable def routeC (d:Gr×(List Int×(Int×(Int×Int)))):Option (List Pt×(List Int×Int)):=relC routeP d
theorem f63_is (d:Gr×(List Int×(Int×(Int×Int)))):∃ x,routeP d x:=by
 obtain ⟨g,cs,src,dst,want⟩:=d
 cases hf:routeForm g cs src dst want with
 |false =>
  refine ⟨([],([],1600)),?_,1,(f63.eq _ g cs src dst want).trans ?_⟩
  ·unfold routeQ
   dsimp only
   rw [hf,cF]
  ·unfold routeForm at hf
   revert hf
   cases capsMay g cs <;> cases hasV g.1 src <;> cases hasV g.1 dst <;> cases src==dst <;> cases want==0 <;> cases rateB want <;> intro hf <;> simp only [nT,nF,cT,cF] <;> cases hf
 |true =>
  have hf':=hf
  unfold routeForm at hf'
  simp only [bA,Bool.not_eq_true'] at hf'
  obtain ⟨hc,hs,hd,hne,hw0,hm⟩:=hf'
  have hm':0≤want∧want≤maxRate:=oD hm
  have hs':0≤src∧src<g.1:=oD hs
  have hd':0≤dst∧dst<g.1:=oD hd
  have hw0':=ne_of_beq_false hw0
  have hne':=ne_of_beq_false hne
  have hg:=caps_graph hc
  obtain ⟨y,y1,y2⟩:=pushC_is (g:=g) (cs:=cs) (src:=src) (dst:=dst) (want:=want)
  unfold pushQ at y2
  dsimp only at y2
  rw [show pushForm g cs src dst want=true by unfold pushForm;rw [hc,hs,hd,hne,hm];rfl,cT] at y2
  obtain ⟨y2,y3⟩:=y2
  have hle:=y3.le
  have ev:∀ {r:V},(bif decide (y.2.1<want) then ((chk (graphMay g) (some (reachRes g cs y.1 src))).bind (fun y1=>some (.tup [(.own (.pair (.int .i64) (.list (.int .i64))) ([])),(.own (.int .i64) (y1.fst)),(.int .i64 ((0:Int)))]))) else ((splitC ((g,y.fst,src,dst))).bind (fun y1=>some (.tup [(.own (.pair (.int .i64) (.list (.int .i64))) (y1.fst)),(.own (.int .i64) ([])),(.int .i64 ((0:Int)))]))))=some r→evFn (f63.E 1) 9 63 Tryz.f63 (encL [tG,tL,tI,tI,tI] ((g,(cs,(src,(dst,want)))):Gr×(List Int×(Int×(Int×Int)))))=some r:=fun h=>(f63.eq _ g cs src dst want).trans (by
   rw [hc,hs,hd,hne,hw0,hm,nT,cF,cF,cF,cF,cF,cF,y1,bS,y2,show ((0:Int) != 0)=false by rfl,cF]
   exact h)
  by_cases hlt:y.2.1<want
  ·have hno:=y3.less hlt
   obtain ⟨z1,z2⟩:=y3.flow.full hc hs' hd' hno
   have hL:levelsRes g cs y.1 src=(levelsOf g cs y.1 src,0):=by
    unfold levelsRes liesB
    rw [hc,y3.flow.within,hs]
    rfl
   refine ⟨([],(reachL (levelsOf g cs y.1 src),0)),?_,1,ev ?_⟩
   ·unfold routeQ
    dsimp only
    rw [hf,cT]
    exact ⟨rfl,⟨.inr ⟨rfl,z1,by rw [z2,y3.gain];exact hlt⟩⟩⟩
   ·rw [dT hlt,cT,hg,kT,bS]
    unfold reachRes
    rw [hL,show ((0:Int) != 0)=false by rfl,cF]
  ·have hv:gainV g.2 y.1 src=want:=by rw [y3.gain];omega
   obtain ⟨ps,p1,p2⟩:=splitC_is hc y3.flow hs hd hne'
   obtain ⟨q1,q2⟩:=p2.fits hc y3.flow hv (by omega)
   refine ⟨(ps,([],0)),?_,1,ev ?_⟩
   ·unfold routeQ
    dsimp only
    rw [hf,cT]
    refine ⟨rfl,⟨.inl ⟨rfl,q1,q2,fun us h1 h2=>?_⟩⟩⟩
    rw [← hv]
    exact y3.flow.least hc hs' h1 h2
   ·rw [dF hlt,cF,p1,bS]
theorem routeC_is (d:Gr×(List Int×(Int×(Int×Int)))):∃ x,routeC d=some x∧routeQ d x:=by
 obtain ⟨y,e1,e2⟩:=relC_is (f63_is d)
 exact ⟨y,e1,e2.1⟩
noncomputable def S63:Summ:=summ [tG,tL,tI,tI,tI] (List Pt×(List Int×Int)) routeC resRt
theorem ok63:SumOk Tryz.prog 63 S63 :=
 sumq f63.E (fn:=Tryz.f63) (code:=f63.code) f63.sums f63.inl fun d x hx=>(relC_some (P:=routeP) hx).2
end
section
set_option maxRecDepth 100000
set_option linter.unusedVariables false
end
section
def Pl.zero:Pl:=((0,[]),0,0,0,0,[],[],[])
theorem look_ends {b:Bk} {o:Int} {q:Rq} (h:(lookQ b o q).2=0) (h1:(lookQ b o q).1=0):(q.2.1=2→0≤placeOf b q.2.2.1)∧endsR b q=((wishOf b q).1,(wishOf b q).2.1):=by
 obtain ⟨hb,ho,hq⟩:=look_book h
 have hc:codeOf b o q=0:=by
  unfold lookQ at h1
  rw [hb,hq,dF (by omega:¬ o<0),dF (by omega:¬ o ≥ 4)] at h1
  exact h1
 cases hk:q.2.1==2 with
 |false =>
  refine ⟨fun e=>by rw [e] at hk;exact absurd hk (by decide),?_⟩
  unfold endsR wishOf
  rw [hk]
  rfl
 |true =>
  have e2:q.2.1=2:=by simpa using hk
  unfold codeOf at hc
  rw [hk,show (q.2.1==1)=false by rw [e2];rfl,cond_false,cond_true] at hc
  unfold codeM at hc
  have hown:ownCode b o q.2.2.1=0:=by
   cases hz:ownCode b o q.2.2.1 != 0 with
   |false=>simpa using hz
   |true=>rw [hz,cond_true] at hc;exact hc
  rcases place_spec b q.2.2.1 with ⟨h3,_⟩|⟨j,r,h3,h4,_⟩
  ·unfold ownCode at hown
   rw [h3] at hown
   exact absurd (show (5:Int)=0 from hown) (by decide)
  ·refine ⟨fun _=>by omega,?_⟩
   unfold endsR wishOf getQ
   rw [hk,hb,h3,Int.toNat_natCast,h4,dF (by omega:¬ ((j:Int)<0))]
   rfl
noncomputable def routeV (d:Gr×(List Int×(Int×(Int×Int)))):List Pt×(List Int×Int):=(routeC d).getD ([],[],0)
theorem routeV_is (d:Gr×(List Int×(Int×(Int×Int)))):routeC d=some (routeV d)∧routeQ d (routeV d):=by
 obtain ⟨y,e1,e2⟩:=routeC_is d
 have:routeV d=y:=by unfold routeV;rw [e1];rfl
 rw [this]
 exact ⟨e1,e2⟩
def townB:Bk:=((3,[(0,1,5),(1,2,4),(0,2,3)]),4,0,2,[((10,20),1,1,0,2,5,[((10,20),[(3,[2]),(2,[0,1])])])])
@[reducible] def bookV (b:Bk):V:=.agg [.int .i64 b.1.1,.own tLk b.1.2,.int .i64 b.2.1,.int .i64 b.2.2.1,.int .i64 b.2.2.2.1,.own tRs b.2.2.2.2]
noncomputable def S31:Summ:=summ [] Bk (fun _=>some townB) bookV
def askB (r f t:Int):Rq:=((f,t),1,0,0,2,r)
noncomputable def S32:Summ:=summ [tI,tI,tI] Rq (fun (d:Int×(Int×Int))=>some (askB d.1 d.2.1 d.2.2)) (fun x=>encV tRq x)
end
section
def bookMem (b:Bk):Bool:=decide (b.1.2.length*24≤140737488355328)&&(decide (b.2.2.2.2.length*80≤140737488355328)&&b.2.2.2.2.all fun r=>pcsMem r.pcs)
end
section
open Go
def ro1:V→V
 |.own t l=>.ro t l
 |v=>v
def ro2:V→V
 |.agg cs=>.agg (cs.map ro1)
 |v=>ro1 v
def roV:V→V
 |.tup vs=>.tup (vs.map ro2)
 |v=>ro2 v
def sol1:V→Bool
 |.int _ _|.bool _|.str _|.own _ _=>true
 |_=>false
def sol2:V→Bool
 |.agg cs=>cs.all sol1
 |v=>sol1 v
def solV:V→Bool
 |.tup vs=>vs.all sol2
 |v=>sol2 v
section
variable {B:Ty×Nat→Prop} {w w':World} {Ls:List (Option Loc)}
def RowsAt (B:Ty×Nat→Prop) (w w':World) (Ls:List (Option Loc)) (M:List (Nat×Entry)) (k:Nat) (es:List Entry):Prop :=
 ∀ (j:Nat) E,es[j]? = some E→look M (k+j)=some E∧EntOk ⟨M,numβ 0 Ls,RetF B w w' Ls,w'⟩ (k+j) E
theorem RowsAt.tail {M:List (Nat×Entry)} {k:Nat} {E:Entry} {es:List Entry} (h:RowsAt B w w' Ls M k (E::es)):RowsAt B w w' Ls M (k+1) es:=fun j E' hE=>by
 have:=h (j+1) E' (by simpa using hE)
 rwa [show k+(j+1)=k+1+j by omega] at this
theorem ro_cell (hf:∀ (k:Nat) L,Ls[k]? = some (some L)→w.heap.size≤L.g∧L.g<w'.heap.size) {M:List (Nat×Entry)} {k:Nat} {t:Ty} {l:List t.den} {x:Value}
  (hl:look M k=some (.row t l)) (he:EntOk ⟨M,numβ 0 Ls,RetF B w w' Ls,w'⟩ k (.row t l)) (hv:V0 ⟨M,numβ 0 Ls,RetF B w w' Ls,w'⟩ (.slw k) x):DRel (RetF B w w' []) w' (.list t) l [x]:=by
 rcases hv with ⟨t',l',hl',hs⟩|⟨E,n,hl',hw,hs⟩
 ·have hl':look M k=some (.row t' l'):=hl'
  rw [hl] at hl'
  injection hl' with hl'
  injection hl' with h1 h2
  subst h1
  have h2:=eq_of_heq h2
  subst h2
  have:=own_reads (S:=⟨M,numβ 0 Ls,RetF B w w' Ls,w'⟩) (B':=RetF B w w' []) (w':=w') he (by omega:0+l.length≤l.length) hs (fun g hg=>⟨hg.1,hg.2.1,fun k L hk=>by simp at hk⟩) (fun L hL=>by
   have hL:numβ 0 Ls k=some L:=hL
   unfold numβ at hL
   rw [if_pos (Nat.zero_le _),Nat.sub_zero] at hL
   have hk:Ls[k]? = some (some L):=by
    cases h:Ls[k]? with
    |none=>rw [h] at hL;cases hL
    |some o=>rw [h] at hL;cases o with
     |none=>cases hL
     |some L'=>rw [show L'=L from oJ hL]
   obtain ⟨h1,h2⟩:=hf k L hk
   refine ⟨h2,.inr ⟨h1,fun hz=>?_⟩,fun k L hk=>by simp at hk⟩
   rcases he with ⟨_,h3⟩|⟨L',cs,el,h3,h4,_⟩
   ·have h3:numβ 0 Ls k=none:=h3
    unfold numβ at h3
    rw [if_pos (Nat.zero_le _),Nat.sub_zero,hk] at h3
    cases h3
   ·have h3:numβ 0 Ls k=some L':=h3
    unfold numβ at h3
    rw [if_pos (Nat.zero_le _),Nat.sub_zero,hk] at h3
    obtain rfl:=oJ h3
    exact hz.not h4) (fun _ _=>rfl)
  simpa using this
 ·have hl':look M k=some E:=hl'
  rw [hl] at hl'
  obtain rfl:=oJ hl'
  cases hw
theorem ro_list (hf:∀ (k:Nat) L,Ls[k]? = some (some L)→w.heap.size≤L.g∧L.g<w'.heap.size) {M:List (Nat×Entry)}:∀ (cs:List V) (k:Nat) {ys:List Value},cs.all sol1=true→RowsAt B w w' Ls M k (owns cs) →
  All2 (V1 ⟨M,numβ 0 Ls,RetF B w w' Ls,w'⟩) (relabL k cs) ys→All2 (V1 ⟨[],numβ 0 [],RetF B w w' [],w'⟩) (cs.map ro1) ys
 | [],k,ys,_,_,h=>by cases ys <;> exact h
 |c::cs,k,[],_,_,h=>h.elim
 |c::cs,k,y::ys,hs,hr,h=>by
  simp only [List.all_cons,bA] at hs
  obtain ⟨h1,h2⟩:=h
  cases c <;> simp only [sol1,Bool.false_eq_true,false_and] at hs
  case int n m=>exact ⟨h1,ro_list hf cs k hs.2 hr h2⟩
  case bool b=>exact ⟨h1,ro_list hf cs k hs.2 hr h2⟩
  case str b=>exact ⟨h1,ro_list hf cs k hs.2 hr h2⟩
  case own t l =>
   obtain ⟨g1,g2⟩:=hr 0 (.row t l) rfl
   exact ⟨ro_cell hf g1 g2 h1,ro_list hf cs (k+1) hs.2 hr.tail h2⟩
theorem ro2_ok (hf:∀ (k:Nat) L,Ls[k]? = some (some L)→w.heap.size≤L.g∧L.g<w'.heap.size) {M:List (Nat×Entry)} {c:V} {k:Nat} {y:Value} (hs:sol2 c=true) (hr:RowsAt B w w' Ls M k (owns c.cells))
  (h:V2 ⟨M,numβ 0 Ls,RetF B w w' Ls,w'⟩ (relab2 k c) y):V2 ⟨[],numβ 0 [],RetF B w w' [],w'⟩ (ro2 c) y:=by
 cases c <;> simp only [sol2,sol1,Bool.false_eq_true] at hs
 case int n m=>exact h
 case bool b=>exact h
 case str b=>exact h
 case own t l =>
  obtain ⟨g1,g2⟩:=hr 0 (.row t l) rfl
  exact V2.of1 (ro_cell hf g1 g2 (show V0 _ (.slw k) y from h))
 case agg cs =>
  obtain ⟨ys,rfl,h2⟩:=h
  exact ⟨ys,rfl,ro_list hf cs k hs hr h2⟩
theorem ro_listT (hf:∀ (k:Nat) L,Ls[k]? = some (some L)→w.heap.size≤L.g∧L.g<w'.heap.size) {M:List (Nat×Entry)}:∀ (cs:List V) (k:Nat) {ys:List Value},cs.all sol2=true→RowsAt B w w' Ls M k (owns (cs.flatMap V.cells)) →
  All2 (V2 ⟨M,numβ 0 Ls,RetF B w w' Ls,w'⟩) (relabT k cs) ys→All2 (V2 ⟨[],numβ 0 [],RetF B w w' [],w'⟩) (cs.map ro2) ys
 | [],k,ys,_,_,h=>by cases ys <;> exact h
 |c::cs,k,[],_,_,h=>h.elim
 |c::cs,k,y::ys,hs,hr,h=>by
  simp only [List.all_cons,bA] at hs
  obtain ⟨h1,h2⟩:=h
  rw [List.flatMap_cons,owns_append] at hr
  refine ⟨ro2_ok hf hs.1 (fun j E hE=>hr j E (by rw [List.getElem?_append_left (List.getElem?_eq_some_iff.1 hE).1];exact hE)) h1,ro_listT hf cs _ hs.2 (fun j E hE=>?_) h2⟩
  have:=hr ((owns c.cells).length+j) E (by rw [List.getElem?_append_right (by omega)];simpa using hE)
  rw [owns_cntL] at this
  rwa [show k+cntL c.cells+j=k+(cntL c.cells+j) by omega]
theorem owns_ro1:∀ (cs:List V),cs.all sol1=true→owns (cs.map ro1)=[]
 | [],_=>rfl
 |c::cs,h=>by
  simp only [List.all_cons,bA] at h
  cases c <;> simp only [sol1,Bool.false_eq_true,false_and] at h <;> exact owns_ro1 cs h.2
theorem relabL_ro1:∀ (cs:List V) (k:Nat),cs.all sol1=true→relabL k (cs.map ro1)=cs.map ro1
 | [],_,_=>rfl
 |c::cs,k,h=>by
  simp only [List.all_cons,bA] at h
  cases c <;> simp only [sol1,Bool.false_eq_true,false_and] at h <;> simp only [List.map_cons,ro1,relabL,relab1,cnt1,relabL_ro1 cs _ h.2]
theorem owns_ro2 {c:V} (h:sol2 c=true):owns (ro2 c).cells=[]:=by
 cases c <;> simp only [sol2,sol1,Bool.false_eq_true] at h <;> first|rfl|exact owns_ro1 _ h
theorem relab2_ro2 {c:V} (k:Nat) (h:sol2 c=true):relab2 k (ro2 c)=ro2 c:=by
 cases c <;> simp only [sol2,sol1,Bool.false_eq_true] at h <;> first|rfl|(simp only [ro2,relab2,relabL_ro1 _ _ h])
theorem owns_roT:∀ (cs:List V),cs.all sol2=true→owns ((cs.map ro2).flatMap V.cells)=[]
 | [],_=>rfl
 |c::cs,h=>by
  simp only [List.all_cons,bA] at h
  rw [List.map_cons,List.flatMap_cons,owns_append,owns_ro2 h.1,owns_roT cs h.2]
  rfl
theorem relabT_ro2:∀ (cs:List V) (k:Nat),cs.all sol2=true→relabT k (cs.map ro2)=cs.map ro2
 | [],_,_=>rfl
 |c::cs,k,h=>by
  simp only [List.all_cons,bA] at h
  rw [List.map_cons,relabT,relab2_ro2 k h.1,relabT_ro2 cs _ h.2]
theorem owns_roV {r:V} (h:solV r=true):owns (roV r).flat=[]:=by
 cases r <;> simp only [solV,sol2,sol1,Bool.false_eq_true] at h <;> first|rfl|exact owns_roT _ h|exact owns_ro1 _ h
theorem relab_roV {r:V} (k:Nat) (h:solV r=true):relab k (roV r)=roV r:=by
 cases r <;> simp only [solV,sol2,sol1,Bool.false_eq_true] at h <;> first
  |rfl
  |(simp only [roV,relab,relabT_ro2 _ _ h];done)
  |(simp only [roV,ro2,relab,relab2,relabL_ro1 _ _ h];done)
theorem Ret.ro {r:V} {y:Value} (hs:solV r=true) (h:Ret B w w' r y):Ret B w w' (roV r) y:=by
 obtain ⟨hg,Ls,h⟩:=h
 refine ⟨hg,[],?_⟩
 have hf:∀ (k:Nat) L,Ls[k]? = some (some L)→w.heap.size≤L.g∧L.g<w'.heap.size:=fun k L hk=>⟨h.fresh k L hk,(h.noi k L hk).2⟩
 have hrows:RowsAt B w w' Ls (addE 0 (owns r.flat) []) 0 (owns r.flat):=by
  intro j E hE
  have hlt:=(List.getElem?_eq_some_iff.1 hE).1
  refine ⟨by rw [look_addE,if_pos (by omega),Nat.zero_add,Nat.sub_zero];exact hE,?_⟩
  obtain ⟨t,l,rfl⟩:=owns_row _ _ hE
  have he:=h.ent j _ hE
  have hb:numβ 0 Ls (0+j)=(Ls[j]?).join:=by unfold numβ;rw [if_pos (by omega),Nat.zero_add,Nat.sub_zero]
  rcases he with ⟨h1,h2⟩|⟨L,cs,el,h1,h2⟩
  ·exact .inl ⟨h1,hb.trans h2⟩
  ·exact .inr ⟨L,cs,el,hb.trans h1,h2⟩
 have hv:=h.val 0
 have key:V3 ⟨[],numβ 0 [],RetF B w w' [],w'⟩ (roV r) y:=by
  cases r <;> simp only [solV,Bool.false_eq_true] at hs
  case tup cs =>
   obtain ⟨ys,rfl,h2⟩:=hv
   exact ⟨ys,rfl,ro_listT hf cs 0 hs hrows h2⟩
  all_goals
   have hrows':=hrows
   exact V3.of2 (ro2_ok hf hs hrows (by
    rcases V3.cases hv with ⟨vs,e,_⟩|⟨_,h2⟩
    ·exact absurd e (by simp [relab,relab2,relab1])
    ·exact h2))
 refine ⟨by rw [owns_roV hs];rfl,fun nm=>?_,fun k E hE=>by rw [owns_roV hs] at hE;simp at hE,fun k k' L L' hk=>by simp at hk,fun k L hk=>by simp at hk,fun k L hk=>by simp at hk⟩
 rw [relab_roV nm hs,owns_roV hs,show numβ nm ([]:List (Option Loc))=numβ 0 [] by
  funext e
  unfold numβ
  by_cases h1:nm≤e
  ·rw [if_pos h1,if_pos (Nat.zero_le _)];rfl
  ·rw [if_neg h1,if_pos (Nat.zero_le _)];rfl]
 exact key
end
def Summ.ro (s:Summ):Summ:={ s with res:=fun x=>roV (s.res x) }
theorem SumOk.ro {P:Program} {g:FuncId} {s:Summ} (hs:∀ x,solV (s.res x)=true) (h:SumOk P g s):SumOk P g s.ro:=by
 refine ⟨h.1,fun B w vs xs x hB hv hx=>(h.2.1 B w vs xs x hB hv hx).mono fun e w'=>?_,h.2.2⟩
 rintro ⟨y,e1,e2⟩
 exact ⟨y,e1,e2.ro (hs x)⟩
end
section
@[reducible] def bookR (b:Bk):V:=.agg [.int .i64 b.1.1,.ro tLk b.1.2,.int .i64 b.2.1,.int .i64 b.2.2.1,.int .i64 b.2.2.2.1,.ro tRs b.2.2.2.2]
end
section
set_option maxRecDepth 100000
set_option linter.unusedVariables false
end
section
set_option maxRecDepth 100000
set_option linter.unusedVariables false
end
section

end
section
set_option maxRecDepth 100000
set_option linter.unusedVariables false
end
section
def smallG:Gr:=((3:Int),[((0:Int),(1:Int),(5:Int)),((1:Int),(2:Int),(4:Int)),((0:Int),(2:Int),(3:Int))])
theorem small_worth {vs:List Int} (h0:amongB vs 0=true) (h2:amongB vs 2=false):worthL vs smallG.2 [5,4,3]=bif amongB vs 1 then 7 else 8:=by
 unfold smallG
 simp only [worthL,leavesB,h0,h2]
 cases amongB vs 1 <;> rfl
theorem cutMay_parts {g:Gr} {src dst:Int} {vs:List Int} (h:cutMay g src dst vs=true):risingB g.1 none vs=true∧amongB vs src=true∧amongB vs dst=false:=by
 unfold cutMay at h
 simp only [bA,Bool.not_eq_true'] at h
 exact ⟨h.1.1,h.2.2.1,h.2.2.2⟩
end
section
theorem town_may:bookMayB townB=true:=by kernel_rfl
theorem town_small:pcsSmall townB=true:=by kernel_rfl
theorem town_worth {vs:List Int} (h0:amongB vs 0=true) (h2:amongB vs 2=false):worthL vs townB.1.2 [3,2,0]=bif amongB vs 1 then 2 else 3:=by
 unfold townB
 simp only [worthL,leavesB,h0,h2]
 cases amongB vs 1 <;> rfl
theorem town_spans (f t:Int) (m:Nat) (hs:spanMay (f,t)=true) (hm:(t - f).toNat≤m) (h:f<t):spansB townB (f,t) 0=cutR [10,20] t m f:=by
 unfold spansB cutsOf
 rw [hs,cond_true]
 exact (cutR_eq [10,20] t _ m f h hm (cutPts_spec (f,t) [10,20]).1 (cutPts_spec (f,t) [10,20]).2).symm
def segs1:List Sg:=[((5,10),[5,4,3]),((10,15),[3,2,0])]
theorem town_slices1:slicesQ townB (5,15) 0=(segs1,0):=by
 unfold slicesQ slicesB
 rw [town_may,town_spans 5 15 10 rfl (by decide) (by decide)]
 kernel_rfl
theorem town_look (r f t:Int) (ss:List Sg) (h:slicesQ townB (f,t) 0=(ss,0)) (hl:ss.length≤4) (hq:reqMay (askB r f t)=true) (ht:inTime townB (askB r f t)=true) (hr:(r==0)=false):lookQ townB 1 (askB r f t)=(0,0):=by
 have hf:fewSegs townB (askB r f t)=true:=by
  unfold fewSegs
  rw [show slicesQ townB (askB r f t).1 (askB r f t).id=(ss,0) from h]
  exact dT (by show (ss.length:Int)≤4;omega)
 unfold lookQ
 rw [town_may,hq]
 show (codeR townB (askB r f t),(0:Int))=(0,0)
 unfold codeR
 rw [ht,hf,show ((askB r f t).2.2.2.2.2==0)=false from hr]
 rfl
end
section
theorem may_piece {g:Gr} {src dst want:Int} {ps:List Pt} (s:Int×Int) (h:mayB g src dst want ps=true):cpPiece (s,ps)=true:=by
 obtain ⟨h1,h2⟩:=goodPt_of h
 unfold cpPiece
 rw [dT (show ((s,ps):Pc).2.length*32≤140737488355328 by show ps.length*32≤_;omega),tA]
 refine List.all_eq_true.2 fun w hw=>?_
 have h3:=List.all_eq_true.1 h2 w hw
 unfold goodPt at h3
 simp only [bA,dE] at h3
 unfold cpPath
 exact dT (by omega)
end
section
set_option maxRecDepth 100000
noncomputable def f95.E (k:Nat):Env:=mkEnv tt [(156,S156),(157,S157)] [] [(95,3,[.nil1 3 5 786757 qR,.kill (rg [(0,1),(4,16),(20,31)]),.tidy]),(95,5,[.drop 63])] [] k
noncomputable def f95.code:Go.Code:=cd Tryz.f95
noncomputable def f95.l0 (k n:Nat) (p0:List (eR)) (p1:Int) (p2:Int) (p3:Int) (p4:Int) (p5:Int) (p6:Int) (p7:Int) (p8:List (eL)) (p9:List (eR)):Option V :=
 atPath (f95.E k) n ⟨(.u::.u::(.ptr 524304 (0) (0))::(.ptr 786448 (0) (0))::.u::.u::.u::.u::.u::.u::.u::.u::.u::.u::.u::.u::.u::(.ro qR p0)::(.int .i64 p1)::(.int .i64 p2)::un 12),[],[(524304,.box [(.int .i64 p3),.nil,(.int .i64 p3),(.int .i64 p3),(.int .i64 p3),.nil]),(786448,.box [(.int .i64 p4),(.slw 206162624624),(.int .i64 p5),(.int .i64 p6),(.int .i64 p7),(.slw 206162624880)]),(206162624624,.row qL p8),(206162624880,.row qR p9)]⟩ 9 0 95 [.c 1,.c 1,.c 0,.c 1,.c 0] [] f95.code (finK tt Tryz.f95)
theorem f95.l0_eq (k n:Nat) (p0:List (eR)) (p1:Int) (p2:Int) (p3:Int) (p4:Int) (p5:Int) (p6:Int) (p7:Int) (p8:List (eL)) (p9:List (eR)):f95.l0 k (n+1) p0 p1 p2 p3 p4 p5 p6 p7 p8 p9 =
 bif decide (p2<p1) then (chk (decide ((0:Int)≤p2∧p2<(↑p0.length:Int))) (both ((chk (pcsMem (Rs.pcs (rd qR p0 p2))) (some (rd qR p0 p2))).bind (fun y0=>chk (decide ((p9++[y0]).length*80≤140737488355328)) (f95.l0 k n p0 p1 (Go.IntKind.i64.wrap (p2+(1:Int))) p3 p4 p5 p6 p7 p8 (p9++[y0])))) (both ((chk (pcsMem (Rs.pcs (rd qR p0 p2))) (some (rd qR p0 p2))).bind (fun y0=>chk (decide ((p9++[y0]).length*80≤140737488355328)) (f95.l0 k n p0 p1 (Go.IntKind.i64.wrap (p2+(1:Int))) p3 p4 p5 p6 p7 p8 (p9++[y0])))) ((chk (pcsMem (Rs.pcs (rd qR p0 p2))) (some (rd qR p0 p2))).bind (fun y0=>both (chk (decide ((p9++[y0]).length*80≤140737488355328)) (f95.l0 k n p0 p1 (Go.IntKind.i64.wrap (p2+(1:Int))) p3 p4 p5 p6 p7 p8 (p9++[y0]))) (chk (decide ((p9++[y0]).length*80≤140737488355328)) (f95.l0 k n p0 p1 (Go.IntKind.i64.wrap (p2+(1:Int))) p3 p4 p5 p6 p7 p8 (p9++[y0])))))))) else (some (.agg [(.int .i64 p4),(.own qL p8),(.int .i64 p5),(.int .i64 p6),(.int .i64 p7),(.own qR p9)])):=by kernel_rfl
theorem f95.eq (k:Nat) (x0:(Int×List (eL)) ×
 Int×Int×Int×List (eR)):evFn (f95.E k) 9 95 Tryz.f95 (encL [(.pair (.pair qI (.list qL)) (.pair qI (.pair qI (.pair qI (.list qR)))))] x0) =
 (chk (decide (x0.1.2.length*24≤140737488355328)) (some x0.1)).bind (fun y0=>f95.l0 k k x0.2.2.2.2 ((↑(x0.2.2.2.2.length):Int)) 0 0 y0.1 x0.2.1 x0.2.2.1 x0.2.2.2.1 y0.2 ([])):=by kernel_rfl
theorem f95.inl (k:Nat):InlOk Tryz.prog (f95.E k):=inl_nil
theorem f95.sums (k:Nat):SumsOk Tryz.prog (f95.E k):=(sums_cons ok156 (sums_cons ok157 sums_nil))
noncomputable def f97.E (k:Nat):Env:=mkEnv tt [] [(158,Tryz.f158),(159,Tryz.f159)] [(158,2,[.kill (rg [(2,6),(9,18)]),.tidy])] [(158,512,(rg [(0,7)]))] k
noncomputable def f97.code:Go.Code:=cd Tryz.f97
noncomputable def f97.l0 (k n:Nat) (p0:List (eR)) (p1:Int) (p2:Int) (p3:Int):Option V :=
 atPath (f97.E k) n ⟨((.ro qR p0)::(.fn 159 [(.ptr 192 (0) (0))])::.u::.u::.u::.u::.u::(.int .i64 p1)::(.int .i64 p2)::un 10),[(un 9)],[(192,.box [(.int .i64 p3)])]⟩ 9 0 97 [.c 1,.c 0,.call 3 158,.c 1,.c 0,.c 1,.c 0] [] f97.code (finK tt Tryz.f97)
theorem f97.l0_eq (k n:Nat) (p0:List (eR)) (p1:Int) (p2:Int) (p3:Int):f97.l0 k (n+1) p0 p1 p2 p3 =
 bif decide (p2<p1) then (chk (decide ((0:Int)≤p2∧p2<(↑p0.length:Int))) (bif (rd qR p0 p2).2.1==p3 then (some (.int .i64 p2)) else (f97.l0 k n p0 p1 (Go.IntKind.i64.wrap (p2+(1:Int))) p3))) else (some (.int .i64 ((-1:Int)))):=by kernel_rfl
theorem f97.eq (k:Nat) (x0:(Int×List (eL)) ×
 Int×Int×Int×List (eR)) (x1:Int):evFn (f97.E k) 9 97 Tryz.f97 (encL [(.pair (.pair qI (.list qL)) (.pair qI (.pair qI (.pair qI (.list qR))))),qI] (x0,x1)) =
 f97.l0 k k x0.2.2.2.2 ((↑(x0.2.2.2.2.length):Int)) 0 x1:=by kernel_rfl
theorem f97.inl (k:Nat):InlOk Tryz.prog (f97.E k):=(inl_cons (by kernel_rfl) (by kernel_rfl) (inl_cons (by kernel_rfl) (by kernel_rfl) inl_nil))
theorem f97.sums (k:Nat):SumsOk Tryz.prog (f97.E k):=sums_nil
noncomputable def f91.E (k:Nat):Env:=mkEnv tt [(64,S64)] [(74,Tryz.f74)] [] [] k
noncomputable def f91.code:Go.Code:=cd Tryz.f91
theorem f91.eq (k:Nat):evFn (f91.E k) 9 91 Tryz.f91 [] =
 some (.agg [(.int .i64 3),(.own qL ([((0:Int),(1:Int),(5:Int)),((1:Int),(2:Int),(4:Int)),((0:Int),(2:Int),(3:Int))])),(.int .i64 4),(.int .i64 0),(.int .i64 2),(.own qR ([(((10:Int),(20:Int)),(1:Int),(1:Int),(0:Int),(2:Int),(5:Int),[(((10:Int),(20:Int)),[((3:Int),[(2:Int)]),((2:Int),[(0:Int),(1:Int)])])])]))]):=by kernel_rfl
theorem f91.inl (k:Nat):InlOk Tryz.prog (f91.E k):=(inl_cons (by kernel_rfl) (by kernel_rfl) inl_nil)
theorem f91.sums (k:Nat):SumsOk Tryz.prog (f91.E k):=(sums_cons ok64 sums_nil)
noncomputable def f92.E (k:Nat):Env:=mkEnv tt [] [] [] [] k
noncomputable def f92.code:Go.Code:=cd Tryz.f92
theorem f92.eq (k:Nat) (x0:Int) (x1:Int) (x2:Int):evFn (f92.E k) 9 92 Tryz.f92 (encL [qI,qI,qI] (x0,x1,x2)) =
 some (.agg [(.int .i64 x1),(.int .i64 x2),(.int .i64 1),(.int .i64 0),(.int .i64 0),(.int .i64 2),(.int .i64 x0)]):=by kernel_rfl
theorem f92.inl (k:Nat):InlOk Tryz.prog (f92.E k):=inl_nil
theorem f92.sums (k:Nat):SumsOk Tryz.prog (f92.E k):=sums_nil
noncomputable def f105.E (k:Nat):Env:=mkEnv tt [(34,S34)] [] [] [] k
noncomputable def f105.code:Go.Code:=cd Tryz.f105
theorem f105.eq (k:Nat) (x0:(Int×List (eL)) ×
 Int×Int×Int×List (eR)) (x1:Int) (x2:(Int×Int)×Int×Int×eL):evFn (f105.E k) 9 105 Tryz.f105 (encL [(.pair (.pair qI (.list qL)) (.pair qI (.pair qI (.pair qI (.list qR))))),qI,(.pair qS (.pair qI (.pair qI qL)))] (x0,x1,x2)) =
 (chk (pcsSmall x0) (some (lookQ x0 x1 x2))).bind (fun y0=>bif y0.2==(0:Int) then (some (.bool (y0.1==(0:Int)))) else (some (.bool false))):=by kernel_rfl
theorem f105.inl (k:Nat):InlOk Tryz.prog (f105.E k):=inl_nil
theorem f105.sums (k:Nat):SumsOk Tryz.prog (f105.E k):=(sums_cons ok34 sums_nil)
noncomputable def f98.E (k:Nat):Env:=mkEnv tt [(108,S108)] [] [] [] k
noncomputable def f98.code:Go.Code:=cd Tryz.f98
theorem f98.eq (k:Nat) (x0:eR):evFn (f98.E k) 9 98 Tryz.f98 (encL [qR] x0) =
 (chk (pcsMem x0.2.2.2.2.2.2) (some x0.2.2.2.2.2.2)).bind (fun y0=>some (.agg [(.int .i64 x0.1.1),(.int .i64 x0.1.2),(.int .i64 0),(.own qI ([])),(.int .i64 2),(.int .i64 0),(.int .i64 x0.2.1),(.int .i64 x0.2.2.2.2.2.1),(.int .i64 0),(.own qC y0)])):=by kernel_rfl
theorem f98.inl (k:Nat):InlOk Tryz.prog (f98.E k):=inl_nil
theorem f98.sums (k:Nat):SumsOk Tryz.prog (f98.E k):=(sums_cons ok108 sums_nil)
noncomputable def f155.E (k:Nat):Env:=mkEnv tt [(73,S73),(117,S117)] [] [] [] k
noncomputable def f155.code:Go.Code:=cd Tryz.f155
theorem f155.eq (k:Nat) (x0:(Int×Int)×(eP)×Int×Int×Int×Int×Int×List (eC)) (x1:(Int×Int)×(eP)×Int×Int×Int×Int×Int×List (eC)):evFn (f155.E k) 9 155 Tryz.f155 (encL [(.pair qS (.pair qP (.pair qI (.pair qI (.pair qI (.pair qI (.pair qI (.list qC)))))))),(.pair qS (.pair qP (.pair qI (.pair qI (.pair qI (.pair qI (.pair qI (.list qC))))))))] (x0,x1)) =
 bif x0.1.1==x1.1.1&&(x0.1.2==x1.1.2&&true) then (bif x0.2.1.1==x1.2.1.1 then ((chk (decide (x0.2.1.2.length<4611686018427387904)) (some (sameB x0.2.1.2 x1.2.1.2))).bind (fun y0=>bif y0 then (bif x0.2.2.1==x1.2.2.1 then (bif x0.2.2.2.1==x1.2.2.2.1 then (bif x0.2.2.2.2.1==x1.2.2.2.2.1 then (bif x0.2.2.2.2.2.1==x1.2.2.2.2.2.1 then (bif x0.2.2.2.2.2.2.1==x1.2.2.2.2.2.2.1 then ((chk (smallPcs x0.2.2.2.2.2.2.2) (some (samePcs x0.2.2.2.2.2.2.2 x1.2.2.2.2.2.2.2))).bind (fun y1=>some (.bool y1))) else (some (.bool false))) else (some (.bool false))) else (some (.bool false))) else (some (.bool false))) else (some (.bool false))) else (some (.bool false)))) else (some (.bool false))) else (some (.bool false)):=by kernel_rfl
theorem f155.inl (k:Nat):InlOk Tryz.prog (f155.E k):=inl_nil
theorem f155.sums (k:Nat):SumsOk Tryz.prog (f155.E k):=(sums_cons ok73 (sums_cons ok117 sums_nil))
noncomputable def f39.E (k:Nat):Env:=mkEnv tt [(43,S43),(60,S60)] [] [] [] k
noncomputable def f39.code:Go.Code:=cd Tryz.f39
theorem f39.eq (k:Nat) (x0:(Int×Int)×(eP)×Int×Int×Int×Int×Int×List (eC)):evFn (f39.E k) 9 39 Tryz.f39 (encL [(.pair qS (.pair qP (.pair qI (.pair qI (.pair qI (.pair qI (.pair qI (.list qC))))))))] x0) =
 (chk (decide (x0.2.1.2.length*8≤140737488355328)) (some x0.2.1.2)).bind (fun y0=>(chk (pcsMem x0.2.2.2.2.2.2.2) (some x0.2.2.2.2.2.2.2)).bind (fun y1=>some (.agg [(.int .i64 x0.1.1),(.int .i64 x0.1.2),(.int .i64 x0.2.1.1),(.own qI y0),(.int .i64 x0.2.2.1),(.int .i64 x0.2.2.2.1),(.int .i64 x0.2.2.2.2.1),(.int .i64 x0.2.2.2.2.2.1),(.int .i64 x0.2.2.2.2.2.2.1),(.own qC y1)]))):=by kernel_rfl
theorem f39.inl (k:Nat):InlOk Tryz.prog (f39.E k):=inl_nil
theorem f39.sums (k:Nat):SumsOk Tryz.prog (f39.E k):=(sums_cons ok43 (sums_cons ok60 sums_nil))
noncomputable def f102.E (k:Nat):Env:=mkEnv tt [(63,S63)] [] [(102,3,[.kill (rg [(0,1),(4,4),(7,12),(16,53)]),.tidy]),(102,7,[.drop 63])] [] k
noncomputable def f102.code:Go.Code:=cd Tryz.f102
noncomputable def f102.l0 (k n:Nat) (p0:List (eG)) (p1:Int) (p2:Int) (p3:Int) (p4:Int) (p5:Int) (p6:Int) (p7:Int) (p8:Int) (p9:Int) (p10:Int) (p11:List (eL)) (p12:Int) (p13:List (eC)):Option V :=
 atPath (f102.E k) n ⟨(.u::.u::(.ptr 524304 (0) (0))::(.ptr 786448 (0) (0))::.u::(.ptr 1310736 (0) (0))::(.slw 1572880)::.u::.u::.u::.u::.u::.u::(.ro qG p0)::(.int .i64 p1)::(.int .i64 p2)::un 38),[],[(524304,.box [(.int .i64 p3),(.int .i64 p4),(.int .i64 p5),(.int .i64 p6),(.int .i64 p7),(.int .i64 p8),(.int .i64 p9),(.ro qG p0)]),(786448,.box [(.int .i64 p10),(.ro qL p11)]),(1310736,.box [(.int .i64 p12),.nil]),(1572880,.row qC p13)]⟩ 9 0 102 [.c 1,.c 1,.c 0,.c 1,.c 0] [] f102.code (finK tt Tryz.f102)
theorem f102.l0_eq (k n:Nat) (p0:List (eG)) (p1:Int) (p2:Int) (p3:Int) (p4:Int) (p5:Int) (p6:Int) (p7:Int) (p8:Int) (p9:Int) (p10:Int) (p11:List (eL)) (p12:Int) (p13:List (eC)):f102.l0 k (n+1) p0 p1 p2 p3 p4 p5 p6 p7 p8 p9 p10 p11 p12 p13 =
 bif decide (p2<p1) then (chk (decide ((0:Int)≤p2∧p2<(↑p0.length:Int))) ((routeC (((p10,p11),(rd qG p0 p2).2,p7,p8,p9))).bind (fun y0=>bif (↑y0.1.length:Int)==(0:Int) then (both (both (some (.tup [(.own qC ([])),(.agg [(.int .i64 ((rd qG p0 p2).1.1)),(.own qI y0.2.1)])])) (some (.tup [(.own qC ([])),(.agg [(.int .i64 ((rd qG p0 p2).1.1)),(.own qI y0.2.1)])]))) (some (.tup [(.own qC ([])),(.agg [(.int .i64 ((rd qG p0 p2).1.1)),(.own qI y0.2.1)])]))) else (chk (decide ((p13++[((rd qG p0 p2).1,y0.1)]).length*40≤140737488355328)) (f102.l0 k n p0 p1 (Go.IntKind.i64.wrap (p2+(1:Int))) p3 p4 p5 p6 p7 p8 p9 p10 p11 p12 (p13++[((rd qG p0 p2).1,y0.1)])))))) else (some (.tup [(.own qC p13),(.agg [(.int .i64 0),(.own qI ([]))])])):=by kernel_rfl
theorem f102.eq (k:Nat) (x0:((Int×Int)×Int×Int×eL)×List (eG)) (x1:Int×List (eL)):evFn (f102.E k) 9 102 Tryz.f102 (encL [(.pair (.pair qS (.pair qI (.pair qI qL))) (.list qG)),(.pair qI (.list qL))] (x0,x1)) =
 f102.l0 k k x0.2 ((↑(x0.2.length):Int)) 0 x0.1.1.1 x0.1.1.2 x0.1.2.1 x0.1.2.2.1 x0.1.2.2.2.1 x0.1.2.2.2.2.1 x0.1.2.2.2.2.2 x1.1 x1.2 0 ([]):=by kernel_rfl
theorem f102.inl (k:Nat):InlOk Tryz.prog (f102.E k):=inl_nil
theorem f102.sums (k:Nat):SumsOk Tryz.prog (f102.E k):=(sums_cons ok63 sums_nil)
noncomputable def f106.E (k:Nat):Env:=mkEnv tt [(169,S169)] [] [(106,4,[.kill (rg [(0,2),(5,14),(18,47)]),.tidy])] [] k
noncomputable def f106.code:Go.Code:=cd Tryz.f106
noncomputable def f106.l0 (k n:Nat) (p0:List (eC)) (p1:Int) (p2:Int) (p3:Int) (p4:Int) (p5:Int) (p6:Int) (p7:Int) (p8:Int) (p9:Int) (p10:List (eG)) (p11:Int) (p12:List (eL)):Option V :=
 atPath (f106.E k) n ⟨(.u::.u::.u::(.ptr 786448 (0) (0))::(.ptr 1048592 (0) (0))::.u::.u::.u::.u::.u::.u::.u::.u::.u::.u::(.ro qC p0)::(.int .i64 p1)::(.int .i64 p2)::un 30),[],[(786448,.box [(.int .i64 p3),(.int .i64 p4),(.int .i64 p5),(.int .i64 p6),(.int .i64 p7),(.int .i64 p8),(.int .i64 p9),(.ro qG p10)]),(1048592,.box [(.int .i64 p11),(.ro qL p12)])]⟩ 9 0 106 [.c 1,.c 1,.c 0,.c 1,.c 0] [] f106.code (finK tt Tryz.f106)
theorem f106.l0_eq (k n:Nat) (p0:List (eC)) (p1:Int) (p2:Int) (p3:Int) (p4:Int) (p5:Int) (p6:Int) (p7:Int) (p8:Int) (p9:Int) (p10:List (eG)) (p11:Int) (p12:List (eL)):f106.l0 k (n+1) p0 p1 p2 p3 p4 p5 p6 p7 p8 p9 p10 p11 p12 =
 bif decide (p2<p1) then (chk (decide ((0:Int)≤p2∧p2<(↑p0.length:Int))) (chk (decide ((0:Int)≤p2∧p2<(↑p10.length:Int))) (bif !((rd qC p0 p2).1.1==(rd qG p10 p2).1.1&&((rd qC p0 p2).1.2==(rd qG p10 p2).1.2&&true)) then (some (.bool false)) else (bif !mayB (p11,p12) p7 p8 p9 (rd qC p0 p2).2 then (some (.bool false)) else (f106.l0 k n p0 p1 (Go.IntKind.i64.wrap (p2+(1:Int))) p3 p4 p5 p6 p7 p8 p9 p10 p11 p12))))) else (some (.bool true)):=by kernel_rfl
theorem f106.eq (k:Nat) (x0:((Int×Int)×Int×Int×eL)×List (eG)) (x1:Int×List (eL)) (x2:List (eC)):evFn (f106.E k) 9 106 Tryz.f106 (encL [(.pair (.pair qS (.pair qI (.pair qI qL))) (.list qG)),(.pair qI (.list qL)),(.list qC)] (x0,x1,x2)) =
 bif (↑x2.length:Int) != (↑(x0.2.length):Int) then (some (.bool false)) else (f106.l0 k k x2 ((↑x2.length:Int)) 0 x0.1.1.1 x0.1.1.2 x0.1.2.1 x0.1.2.2.1 x0.1.2.2.2.1 x0.1.2.2.2.2.1 x0.1.2.2.2.2.2 x0.2 x1.1 x1.2):=by kernel_rfl
theorem f106.inl (k:Nat):InlOk Tryz.prog (f106.E k):=inl_nil
theorem f106.sums (k:Nat):SumsOk Tryz.prog (f106.E k):=(sums_cons ok169 sums_nil)
noncomputable def f107.E (k:Nat):Env:=mkEnv tt [(170,S170)] [] [(107,2,[.kill (rg [(0,2),(5,10),(14,37)]),.tidy])] [] k
noncomputable def f107.code:Go.Code:=cd Tryz.f107
noncomputable def f107.l0 (k n:Nat) (p0:List (eC)) (p1:Int) (p2:Int) (p3:Int) (p4:Int) (p5:Int) (p6:Int) (p7:Int) (p8:Int) (p9:Int) (p10:List (eG)) (p11:Int) (p12:List (eL)):Option V :=
 atPath (f107.E k) n ⟨(.u::.u::.u::(.ptr 786448 (0) (0))::(.ptr 1048592 (0) (0))::.u::.u::.u::.u::.u::.u::(.ro qC p0)::(.int .i64 p1)::(.int .i64 p2)::un 24),[],[(786448,.box [(.int .i64 p3),(.int .i64 p4),(.int .i64 p5),(.int .i64 p6),(.int .i64 p7),(.int .i64 p8),(.int .i64 p9),(.ro qG p10)]),(1048592,.box [(.int .i64 p11),(.ro qL p12)])]⟩ 9 0 107 [.c 1,.c 0,.c 1,.c 0] [] f107.code (finK tt Tryz.f107)
theorem f107.l0_eq (k n:Nat) (p0:List (eC)) (p1:Int) (p2:Int) (p3:Int) (p4:Int) (p5:Int) (p6:Int) (p7:Int) (p8:Int) (p9:Int) (p10:List (eG)) (p11:Int) (p12:List (eL)):f107.l0 k (n+1) p0 p1 p2 p3 p4 p5 p6 p7 p8 p9 p10 p11 p12 =
 bif decide (p2<p1) then (chk (decide ((0:Int)≤p2∧p2<(↑p0.length:Int))) (chk (decide ((0:Int)≤p2∧p2<(↑p10.length:Int))) (bif (fitsOf (p11,p12) (rd qG p10 p2).2 (rd qC p0 p2).2).2 != (0:Int) then (some (.bool false)) else (bif !(fitsOf (p11,p12) (rd qG p10 p2).2 (rd qC p0 p2).2).1 then (some (.bool false)) else (f107.l0 k n p0 p1 (Go.IntKind.i64.wrap (p2+(1:Int))) p3 p4 p5 p6 p7 p8 p9 p10 p11 p12))))) else (some (.bool true)):=by kernel_rfl
theorem f107.eq (k:Nat) (x0:((Int×Int)×Int×Int×eL)×List (eG)) (x1:Int×List (eL)) (x2:List (eC)):evFn (f107.E k) 9 107 Tryz.f107 (encL [(.pair (.pair qS (.pair qI (.pair qI qL))) (.list qG)),(.pair qI (.list qL)),(.list qC)] (x0,x1,x2)) =
 f107.l0 k k x2 ((↑x2.length:Int)) 0 x0.1.1.1 x0.1.1.2 x0.1.2.1 x0.1.2.2.1 x0.1.2.2.2.1 x0.1.2.2.2.2.1 x0.1.2.2.2.2.2 x0.2 x1.1 x1.2:=by kernel_rfl
theorem f107.inl (k:Nat):InlOk Tryz.prog (f107.E k):=inl_nil
theorem f107.sums (k:Nat):SumsOk Tryz.prog (f107.E k):=(sums_cons ok170 sums_nil)
end
section
theorem f95.l0_is (k:Nat) (v s n0 x:Int) (gl:List Lk) (rs:List Rs) (hl:rs.length*80≤140737488355328) (hall:(rs.all fun r=>pcsMem r.pcs)=true):∀ (n i:Nat),i≤rs.length→rs.length<n+i→f95.l0 k n rs rs.length i 0 v s n0 x gl (rs.take i)=some (bookV ((v,gl),s,n0,x,rs))
 |0,i,h,h'=>by omega
 |n+1,i,h,h'=>by
  by_cases hlt:i<rs.length
  ·have hx:=gE hlt
   have hb:=List.all_eq_true.1 hall _ (List.getElem_mem hlt)
   have e:rs.take i++[rs[i]]=rs.take (i+1):=by rw [List.take_succ_eq_append_getElem hlt]
   have hc:decide ((rs.take (i+1)).length*80≤140737488355328)=true:=by
    rw [List.length_take]
    exact dT (by omega)
   rw [f95.l0_eq,idx_lt' hx,cT,wrap_succ (by omega),rd_some (t:=tRs) hx,idx_in hx,kT,hb,kT,bS,e,hc,kT]
   simp only [bS,both_self,kT,e,hc]
   exact f95.l0_is k v s n0 x gl rs hl hall n (i+1) (by omega) (by omega)
  ·obtain rfl:i=rs.length:=by omega
   rw [f95.l0_eq,end_lt,cF,List.take_length]
noncomputable def S95:Summ:=summ [tBk] Bk (fun (b:Bk)=>chk (bookMem b) (some b)) bookV
theorem ok95:SumOk Tryz.prog 95 S95 :=
 sumq f95.E (fn:=Tryz.f95) (code:=f95.code) f95.sums f95.inl fun (b:Bk) x hx=>by
  obtain ⟨hs,hx⟩:=chk_some hx
  obtain rfl:=oJ hx
  have hs:bookMem b=true:=hs
  unfold bookMem at hs
  simp only [bA,dE] at hs
  obtain ⟨h1,h2,h3⟩:=hs
  refine ⟨b.2.2.2.2.length+1,(f95.eq _ b).trans ?_⟩
  rw [dT h1,kT,bS]
  exact f95.l0_is _ b.1.1 b.2.1 b.2.2.1 b.2.2.2.1 b.1.2 b.2.2.2.2 h2 h3 _ 0 (by omega) (by omega)
theorem f97.l0_is (k:Nat) (id:Int) (rs:List Rs) (hl:rs.length<4611686018427387904):∀ (n i:Nat),i≤rs.length→rs.length<n+i→f97.l0 k n rs rs.length i id=some (.int .i64 (idxId id i (rs.drop i)))
 |0,i,h,h'=>by omega
 |n+1,i,h,h'=>by
  rw [f97.l0_eq]
  by_cases hlt:i<rs.length
  ·have hx:=gE hlt
   rw [idx_lt' hx,cT,idx_in hx,kT,rd_some (t:=tRs) hx,wrap_succ (by omega),List.drop_eq_getElem_cons hlt,f97.l0_is k id rs hl n (i+1) (by omega) (by omega)]
   simp only [idxId,Rs.id]
   cases rs[i].2.1==id <;> rfl
  ·obtain rfl:i=rs.length:=by omega
   rw [end_lt,cF,List.drop_length]
   rfl
noncomputable def S97:Summ:=S111
theorem ok97:SumOk Tryz.prog 97 S97 :=
 sumq f97.E (fn:=Tryz.f97) (code:=f97.code) f97.sums f97.inl fun (d:Bk×Int) x hx=>by
  obtain ⟨b,id⟩:=d
  obtain ⟨hb,hx⟩:=chk_some hx
  obtain rfl:=oJ hx
  have hb:b.2.2.2.2.length<4611686018427387904:=oD hb
  exact ⟨b.2.2.2.2.length+1,(f97.eq _ b id).trans (f97.l0_is _ id b.2.2.2.2 hb _ 0 (by omega) (by omega))⟩
noncomputable def S91:Summ:=S31
theorem ok91:SumOk Tryz.prog 91 S91 :=
 sumq f91.E (fn:=Tryz.f91) (code:=f91.code) f91.sums f91.inl fun d x hx=>by
  obtain rfl:=oJ hx
  exact ⟨0,f91.eq 0⟩
noncomputable def S92:Summ:=S32
theorem ok92:SumOk Tryz.prog 92 S92 :=
 sumq f92.E (fn:=Tryz.f92) (code:=f92.code) f92.sums f92.inl fun (d:Int×(Int×Int)) x hx=>by
  obtain rfl:=oJ hx
  exact ⟨0,f92.eq 0 d.1 d.2.1 d.2.2⟩
def passB (b:Bk) (o:Int) (q:Rq):Bool:=(lookQ b o q).2==0&&(lookQ b o q).1==0
noncomputable def S105:Summ:=summ [tBk,tI,tRq] Bool (fun (d:Bk×(Int×Rq))=>chk (pcsSmall d.1) (some (passB d.1 d.2.1 d.2.2))) .bool
theorem ok105:SumOk Tryz.prog 105 S105 :=
 sumq f105.E (fn:=Tryz.f105) (code:=f105.code) f105.sums f105.inl fun (d:Bk×(Int×Rq)) x hx=>by
  obtain ⟨b,o,q⟩:=d
  obtain ⟨hs,hx⟩:=chk_some hx
  obtain rfl:=oJ hx
  have hs:pcsSmall b=true:=hs
  refine ⟨0,(f105.eq 0 b o q).trans ?_⟩
  rw [hs,kT,bS]
  show _=some (V.bool (passB b o q))
  unfold passB
  cases (lookQ b o q).2==0 <;> rfl
def grantR (r:Rs):Rp:=(r.1,(0,[]),2,0,r.id,r.rate,0,r.pcs)
noncomputable def S98:Summ:=summ [tRs] Rp (fun (r:Rs)=>chk (pcsMem r.pcs) (some (grantR r))) ownRp
theorem ok98:SumOk Tryz.prog 98 S98 :=
 sumq f98.E (fn:=Tryz.f98) (code:=f98.code) f98.sums f98.inl fun (r:Rs) x hx=>by
  obtain ⟨hs,hx⟩:=chk_some hx
  obtain rfl:=oJ hx
  have hs:pcsMem r.2.2.2.2.2.2=true:=hs
  refine ⟨0,(f98.eq 0 r).trans ?_⟩
  rw [hs,kT,bS]
  rfl
def rpSmall (r:Rp):Bool:=decide (r.2.1.2.length<4611686018427387904)&&smallPcs r.2.2.2.2.2.2.2
def sameRp (a b:Rp):Bool:=eqSp a.1 b.1&&(a.2.1.1==b.2.1.1&&(sameB a.2.1.2 b.2.1.2&&(a.2.2.1==b.2.2.1&&(a.2.2.2.1==b.2.2.2.1&&(a.2.2.2.2.1==b.2.2.2.2.1&&(a.2.2.2.2.2.1==b.2.2.2.2.2.1&&(a.2.2.2.2.2.2.1==b.2.2.2.2.2.2.1&&samePcs a.2.2.2.2.2.2.2 b.2.2.2.2.2.2.2)))))))
noncomputable def S155:Summ:=summ [tRp,tRp] Bool (fun (d:Rp×Rp)=>chk (rpSmall d.1) (some (sameRp d.1 d.2))) .bool
theorem ok155:SumOk Tryz.prog 155 S155 :=
 sumq f155.E (fn:=Tryz.f155) (code:=f155.code) f155.sums f155.inl fun (d:Rp×Rp) x hx=>by
  obtain ⟨a,b⟩:=d
  obtain ⟨hs,hx⟩:=chk_some hx
  obtain rfl:=oJ hx
  have hs:rpSmall a=true:=hs
  unfold rpSmall at hs
  simp only [bA,dE] at hs
  refine ⟨0,(f155.eq 0 a b).trans ?_⟩
  rw [dT hs.1,kT,hs.2,kT]
  show (bif eqSp a.1 b.1 then _ else _)=some (V.bool (sameRp a b))
  unfold sameRp
  cases eqSp a.1 b.1 with
  |false=>rfl
  |true =>
   cases a.2.1.1==b.2.1.1 with
   |false=>rfl
   |true =>
    rw [cT,cT,bS,bS]
    cases sameB a.2.1.2 b.2.1.2 with
    |false=>rfl
    |true =>
     cases a.2.2.1==b.2.2.1 <;> cases a.2.2.2.1==b.2.2.2.1 <;> cases a.2.2.2.2.1==b.2.2.2.2.1 <;> cases a.2.2.2.2.2.1==b.2.2.2.2.2.1 <;> cases a.2.2.2.2.2.2.1==b.2.2.2.2.2.2.1 <;> rfl
def rpMem (r:Rp):Bool:=decide (r.2.1.2.length*8≤140737488355328)&&pcsMem r.2.2.2.2.2.2.2
noncomputable def S39:Summ:=summ [tRp] Rp (fun (r:Rp)=>chk (rpMem r) (some r)) ownRp
theorem ok39:SumOk Tryz.prog 39 S39 :=
 sumq f39.E (fn:=Tryz.f39) (code:=f39.code) f39.sums f39.inl fun (r:Rp) x hx=>by
  obtain ⟨hs,hx⟩:=chk_some hx
  obtain rfl:=oJ hx
  have hs:rpMem r=true:=hs
  unfold rpMem at hs
  simp only [bA,dE] at hs
  refine ⟨0,(f39.eq 0 r).trans ?_⟩
  rw [dT hs.1,kT,hs.2,kT,bS,bS]
abbrev Wq:=Rq×List Sg
@[reducible] def tWq:Ty:=.pair tRq (.list tSg)
abbrev Ct:=Int×List Int
noncomputable def planFrom (g:Gr) (src dst want:Int):List Sg→List Pc→List Pc×Ct
 | [],out=>(out,(0,[]))
 |s::ss,out=>bif ((routeV (g,s.2,src,dst,want)).1.length:Int)==0 then ([],(s.1.1,(routeV (g,s.2,src,dst,want)).2.1)) else planFrom g src dst want ss (out++[(s.1,(routeV (g,s.2,src,dst,want)).1)])
noncomputable def planW (g:Gr) (w:Wq):List Pc×Ct:=planFrom g w.1.2.2.2.1 w.1.2.2.2.2.1 w.1.2.2.2.2.2 w.2 []
theorem f102.l0_is (k:Nat) (a b c e src dst want z:Int) (g:Gr) (ss:List Sg) (hl:ss.length*40≤140737488355328):∀ (n i:Nat) (out:List Pc),i≤ss.length→ss.length<n+i→out.length≤i →
  f102.l0 k n ss ss.length i a b c e src dst want g.1 g.2 0 out=some (.tup [.own tPc (planFrom g src dst want (ss.drop i) out).1,.agg [.int .i64 (planFrom g src dst want (ss.drop i) out).2.1,.own tI (planFrom g src dst want (ss.drop i) out).2.2]])
 |0,i,out,h,h',_=>by omega
 |n+1,i,out,h,h',ho=>by
  rw [f102.l0_eq]
  by_cases hlt:i<ss.length
  ·have hx:=gE hlt
   have hg:((g.1,g.2):Gr)=g:=rfl
   have hc:decide ((out++[(ss[i].1,(routeV (g,ss[i].2,src,dst,want)).1)]).length*40≤140737488355328)=true:=by
    rw [lA,List.length_singleton]
    exact dT (by omega)
   rw [idx_lt' hx,cT,idx_in hx,kT,rd_some (t:=tSg) hx,wrap_succ (by omega),List.drop_eq_getElem_cons hlt,hg,(routeV_is (g,ss[i].2,src,dst,want)).1,bS,hc,kT,
    f102.l0_is k a b c e src dst want z g ss hl n (i+1) _ (by omega) (by omega) (by rw [lA,List.length_singleton];omega)]
   simp only [both_self,planFrom]
   cases ((routeV (g,ss[i].2,src,dst,want)).1.length:Int)==0 <;> rfl
  ·obtain rfl:i=ss.length:=by omega
   rw [end_lt,cF,List.drop_length]
   rfl
noncomputable def S102:Summ:=summ [tWq,tG] (List Pc×Ct) (fun (d:Wq×Gr)=>chk (decide (d.1.2.length*40≤140737488355328)) (some (planW d.2 d.1))) (fun x=>.tup [.own tPc x.1,.agg [.int .i64 x.2.1,.own tI x.2.2]])
theorem ok102:SumOk Tryz.prog 102 S102 :=
 sumq f102.E (fn:=Tryz.f102) (code:=f102.code) f102.sums f102.inl fun (d:Wq×Gr) x hx=>by
  obtain ⟨w,g⟩:=d
  obtain ⟨hs,hx⟩:=chk_some hx
  obtain rfl:=oJ hx
  have hs:w.2.length*40≤140737488355328:=oD hs
  exact ⟨w.2.length+1,(f102.eq _ w g).trans (f102.l0_is _ _ _ _ _ _ _ _ 0 g w.2 hs _ 0 [] (by omega) (by omega) (by simp))⟩
def mayW (g:Gr) (w:Wq) (ps:List Pc):Bool:=ps.length==w.2.length&&(ps.zip w.2).all fun x=>eqSp x.1.1 x.2.1&&mayB g w.1.2.2.2.1 w.1.2.2.2.2.1 w.1.2.2.2.2.2 x.1.2
noncomputable def S106:Summ:=summ [tWq,tG,.list tPc] Bool (fun (d:Wq×(Gr×List Pc))=>chk (decide (d.2.2.length<4611686018427387904)) (some (mayW d.2.1 d.1 d.2.2))) .bool
theorem ok106:SumOk Tryz.prog 106 S106 :=
 sumq f106.E (fn:=Tryz.f106) (code:=f106.code) f106.sums f106.inl fun (d:Wq×(Gr×List Pc)) x hx=>by
  obtain ⟨w,g,ps⟩:=d
  obtain ⟨hs,hx⟩:=chk_some hx
  obtain rfl:=oJ hx
  have hs:ps.length<4611686018427387904:=oD hs
  refine ⟨ps.length+1,(f106.eq _ w g ps).trans ?_⟩
  show _=some (V.bool (mayW g w ps))
  unfold mayW
  by_cases hl:ps.length=w.2.length
  ·rw [show ((ps.length:Int) != (w.2.length:Int))=false by simp [hl],cF,show (ps.length==w.2.length)=true by simp [hl],tA]
   have hz:(ps.zip w.2).length=ps.length:=by simp [hl]
   have:=loop_any0 (fun n i=>f106.l0 (ps.length+1) n ps ps.length (i:Nat) w.1.1.1 w.1.1.2 w.1.2.1 w.1.2.2.1 w.1.2.2.2.1 w.1.2.2.2.2.1 w.1.2.2.2.2.2 w.2 g.1 g.2) (ps.zip w.2) (fun x=>!(eqSp x.1.1 x.2.1&&mayB g w.1.2.2.2.1 w.1.2.2.2.2.1 w.1.2.2.2.2.2 x.1.2)) (some (.bool false)) (some (.bool true)) (fun n i x hx=>by
    obtain ⟨ha,hb⟩:=zip_get hx
    have:=idx_lt ha
    have hg:((g.1,g.2):Gr)=g:=rfl
    rw [f106.l0_eq,idx_lt' ha,cT,idx_in ha,kT,idx_in hb,kT,rd_some (t:=tPc) ha,rd_some (t:=tSg) hb,wrap_succ (by omega),hg]
    show (bif !(eqSp x.1.1 x.2.1) then _ else _)=_
    cases eqSp x.1.1 x.2.1 with
    |false=>rfl
    |true=>cases mayB g w.1.2.2.2.1 w.1.2.2.2.2.1 w.1.2.2.2.2.2 x.1.2 <;> rfl) (fun n=>by rw [hz,f106.l0_eq,end_lt];rfl) (n:=ps.length+1) (by omega)
   refine this.trans ?_
   rw [any_notq]
   cases (ps.zip w.2).all _ <;> rfl
  ·rw [show ((ps.length:Int) != (w.2.length:Int))=true by simp;omega,cT,show (ps.length==w.2.length)=false by simp [hl]]
   rfl
def fitsW (g:Gr) (w:Wq) (ps:List Pc):Bool:=(ps.zip w.2).all fun x=>(fitsOf g x.2.2 x.1.2).2==0&&(fitsOf g x.2.2 x.1.2).1
noncomputable def S107:Summ:=summ [tWq,tG,.list tPc] Bool (fun (d:Wq×(Gr×List Pc))=>chk (decide (d.2.2.length<4611686018427387904)&&decide (d.2.2.length=d.1.2.length)) (some (fitsW d.2.1 d.1 d.2.2))) .bool
theorem ok107:SumOk Tryz.prog 107 S107 :=
 sumq f107.E (fn:=Tryz.f107) (code:=f107.code) f107.sums f107.inl fun (d:Wq×(Gr×List Pc)) x hx=>by
  obtain ⟨w,g,ps⟩:=d
  obtain ⟨hs,hx⟩:=chk_some hx
  obtain rfl:=oJ hx
  have hs:(decide (ps.length<4611686018427387904)&&decide (ps.length=w.2.length))=true:=hs
  simp only [bA,dE] at hs
  obtain ⟨hs,hl⟩:=hs
  refine ⟨ps.length+1,(f107.eq _ w g ps).trans ?_⟩
  show _=some (V.bool (fitsW g w ps))
  unfold fitsW
  have hz:(ps.zip w.2).length=ps.length:=by simp [hl]
  have:=loop_any0 (fun n i=>f107.l0 (ps.length+1) n ps ps.length (i:Nat) w.1.1.1 w.1.1.2 w.1.2.1 w.1.2.2.1 w.1.2.2.2.1 w.1.2.2.2.2.1 w.1.2.2.2.2.2 w.2 g.1 g.2) (ps.zip w.2) (fun x=>!((fitsOf g x.2.2 x.1.2).2==0&&(fitsOf g x.2.2 x.1.2).1)) (some (.bool false)) (some (.bool true)) (fun n i x hx=>by
    obtain ⟨ha,hb⟩:=zip_get hx
    have:=idx_lt ha
    have hg:((g.1,g.2):Gr)=g:=rfl
    rw [f107.l0_eq,idx_lt' ha,cT,idx_in ha,kT,idx_in hb,kT,rd_some (t:=tPc) ha,rd_some (t:=tSg) hb,wrap_succ (by omega),hg]
    show (bif !((fitsOf g x.2.2 x.1.2).2==0) then _ else _)=_
    cases (fitsOf g x.2.2 x.1.2).2==0 with
    |false=>rfl
    |true=>cases (fitsOf g x.2.2 x.1.2).1 <;> rfl) (fun n=>by rw [hz,f107.l0_eq,end_lt];rfl) (n:=ps.length+1) (by omega)
  refine this.trans ?_
  rw [any_notq]
  cases (ps.zip w.2).all _ <;> rfl
end
section
set_option maxRecDepth 100000
noncomputable def f167.E (k:Nat):Env:=mkEnv tt [] [(204,Tryz.f204),(205,Tryz.f205),(72,Tryz.f72)] [(204,4,[.kill (rg [(0,0),(3,14),(18,31)]),.tidy]),(72,4,[.kill (rg [(2,11),(14,25)]),.tidy])] [(204,960,(rg [(0,9),(11,14),(16,16)])),(205,264000,(rg [(0,0),(3,14),(18,28),(30,31)])),(72,525248,(rg [(0,9),(11,14),(16,16)]))] k
noncomputable def f167.code:Go.Code:=cd Tryz.f167
noncomputable def f167.l0 (k n:Nat) (p0:List (eP)) (p1:List (eP)) (p2:Int) (p3:Int):Option V :=
 atPath (f167.E k) n ⟨(.u::(.ro qP p0)::(.fn 205 [])::.u::.u::.u::.u::.u::.u::.u::.u::.u::.u::.u::.u::(.ro qP p1)::(.int .i64 p2)::(.int .i64 p3)::un 14),[(.u::.u::.u::.u::.u::.u::.u::.u::.u::.u::(.bool true)::un 6)],[]⟩ 9 0 167 [.c 1,.c 0,.call 10 204,.c 1,.c 1,.c 0,.c 1,.c 0] [] f167.code (finK tt Tryz.f167)
noncomputable def f167.l1 (k n m0:Nat) (p0:List Int) (p1:List Int) (p2:Int) (p3:Int) (p4:List (eP)) (p5:List (eP)) (p6:Int) (p7:Int):Option V :=
 atPath (f167.E k) n ⟨((.ro qI p0)::(.ro qI p1)::.u::.u::.u::.u::.u::.u::.u::.u::.u::.u::(.int .i64 p2)::(.int .i64 p3)::un 12),[(.u::.u::.u::.u::.u::.u::.u::.u::.u::.u::(.bool true)::un 6),(.u::(.ro qP p4)::(.fn 205 [])::.u::.u::.u::.u::.u::.u::.u::.u::.u::.u::.u::.u::(.ro qP p5)::(.int .i64 p6)::(.int .i64 p7)::un 14),(.u::.u::.u::.u::.u::.u::.u::.u::.u::.u::(.bool true)::un 6)],[]⟩ 9 0 167 [.c 1,.c 0,.call 10 204,.c 1,.c 1,.c 0,.c 1,.c 0,.c 0,.c 1,.c 1,.c 0,.c 0,.c 1,.c 1,.c 0,.call 3 205,.c 1,.c 0,.call 10 72,.c 1,.c 1,.c 0,.c 1,.c 0] [m0] f167.code (finK tt Tryz.f167)
theorem f167.l0_eq (k n:Nat) (p0:List (eP)) (p1:List (eP)) (p2:Int) (p3:Int):f167.l0 k (n+1) p0 p1 p2 p3 =
 bif decide (p3<p2) then (chk (decide ((0:Int)≤p3∧p3<(↑p1.length:Int))) (chk (decide ((0:Int)≤p3∧p3<(↑p0.length:Int))) (bif (rd qP p1 p3).1==(rd qP p0 p3).1 then (bif (↑(List.length (rd qP p1 p3).2):Int) != (↑(List.length (rd qP p0 p3).2):Int) then (some (.bool false)) else (f167.l1 k k n ((rd qP p1 p3).2) ((rd qP p0 p3).2) ((↑(List.length (rd qP p1 p3).2):Int)) 0 p0 p1 p2 p3)) else (some (.bool false))))) else (some (.bool true)):=by kernel_rfl
theorem f167.l1_eq (k n m0:Nat) (p0:List Int) (p1:List Int) (p2:Int) (p3:Int) (p4:List (eP)) (p5:List (eP)) (p6:Int) (p7:Int):f167.l1 k (n+1) m0 p0 p1 p2 p3 p4 p5 p6 p7 =
 bif decide (p3<p2) then (chk (decide ((0:Int)≤p3∧p3<(↑p0.length:Int))) (chk (decide ((0:Int)≤p3∧p3<(↑p1.length:Int))) (bif rd qI p0 p3 != rd qI p1 p3 then (some (.bool false)) else (f167.l1 k n m0 p0 p1 p2 (Go.IntKind.i64.wrap (p3+(1:Int))) p4 p5 p6 p7)))) else (f167.l0 k m0 p4 p5 p6 (Go.IntKind.i64.wrap (p7+(1:Int)))):=by kernel_rfl
theorem f167.eq (k:Nat) (x0:eC) (x1:eC):evFn (f167.E k) 9 167 Tryz.f167 (encL [qC,qC] (x0,x1)) =
 bif x0.1.1==x1.1.1&&(x0.1.2==x1.1.2&&true) then (bif (↑(x0.2.length):Int) != (↑(x1.2.length):Int) then (some (.bool false)) else (f167.l0 k k x1.2 x0.2 ((↑(x0.2.length):Int)) 0)) else (some (.bool false)):=by kernel_rfl
theorem f167.inl (k:Nat):InlOk Tryz.prog (f167.E k):=(inl_cons (by kernel_rfl) (by kernel_rfl) (inl_cons (by kernel_rfl) (by kernel_rfl) (inl_cons (by kernel_rfl) (by kernel_rfl) inl_nil)))
theorem f167.sums (k:Nat):SumsOk Tryz.prog (f167.E k):=sums_nil
noncomputable def f104.E (k:Nat):Env:=mkEnv tt [(63,S63),(168,S168)] [] [(104,2,[.kill (rg [(0,2),(6,14),(18,68)]),.tidy])] [] k
noncomputable def f104.code:Go.Code:=cd Tryz.f104
noncomputable def f104.l0 (k n:Nat) (p0:List (eG)) (p1:Int) (p2:Int) (p3:Int) (p4:Int) (p5:Int) (p6:Int) (p7:Int) (p8:Int) (p9:Int) (p10:Int) (p11:List (eL)) (p12:Int) (p13:List Int):Option V :=
 atPath (f104.E k) n ⟨(.u::.u::.u::(.ptr 786448 (0) (0))::(.ptr 1048592 (0) (0))::(.ptr 1310736 (0) (0))::.u::.u::.u::.u::.u::.u::.u::.u::.u::(.ro qG p0)::(.int .i64 p1)::(.int .i64 p2)::un 51),[],[(786448,.box [(.int .i64 p3),(.int .i64 p4),(.int .i64 p5),(.int .i64 p6),(.int .i64 p7),(.int .i64 p8),(.int .i64 p9),(.ro qG p0)]),(1048592,.box [(.int .i64 p10),(.ro qL p11)]),(1310736,.box [(.int .i64 p12),(.ro qI p13)])]⟩ 9 0 104 [.c 1,.c 0,.c 1,.c 0] [] f104.code (finK tt Tryz.f104)
theorem f104.l0_eq (k n:Nat) (p0:List (eG)) (p1:Int) (p2:Int) (p3:Int) (p4:Int) (p5:Int) (p6:Int) (p7:Int) (p8:Int) (p9:Int) (p10:Int) (p11:List (eL)) (p12:Int) (p13:List Int):f104.l0 k (n+1) p0 p1 p2 p3 p4 p5 p6 p7 p8 p9 p10 p11 p12 p13 =
 bif decide (p2<p1) then (chk (decide ((0:Int)≤p2∧p2<(↑p0.length:Int))) ((routeC (((p10,p11),(rd qG p0 p2).2,p7,p8,p9))).bind (fun y0=>bif decide ((↑y0.1.length:Int)>(0:Int)) then (f104.l0 k n p0 p1 (Go.IntKind.i64.wrap (p2+(1:Int))) p3 p4 p5 p6 p7 p8 p9 p10 p11 p12 p13) else ((chk (decide (p13.length<4611686018427387904)) (some (proves (p10,p11) (rd qG p0 p2).2 p7 p8 p9 p13))).bind (fun y1=>bif y1.1 then (some (.bool (p12==(rd qG p0 p2).1.1))) else (some (.bool false))))))) else (some (.bool false)):=by kernel_rfl
theorem f104.eq (k:Nat) (x0:((Int×Int)×Int×Int×eL)×List (eG)) (x1:Int×List (eL)) (x2:eP):evFn (f104.E k) 9 104 Tryz.f104 (encL [(.pair (.pair qS (.pair qI (.pair qI qL))) (.list qG)),(.pair qI (.list qL)),qP] (x0,x1,x2)) =
 f104.l0 k k x0.2 ((↑(x0.2.length):Int)) 0 x0.1.1.1 x0.1.1.2 x0.1.2.1 x0.1.2.2.1 x0.1.2.2.2.1 x0.1.2.2.2.2.1 x0.1.2.2.2.2.2 x1.1 x1.2 x2.1 x2.2:=by kernel_rfl
theorem f104.inl (k:Nat):InlOk Tryz.prog (f104.E k):=inl_nil
theorem f104.sums (k:Nat):SumsOk Tryz.prog (f104.E k):=(sums_cons ok63 (sums_cons ok168 sums_nil))
noncomputable def f41.E (k:Nat):Env:=mkEnv tt [(45,S45),(95,S95),(97,S97),(98,S98),(101,S101),(105,S105),(106,S106),(107,S107),(108,S108)] [] [] [] k
noncomputable def f41.code:Go.Code:=cd Tryz.f41
theorem f41.eq (k:Nat) (x0:(Int×List (eL)) ×
 Int×Int×Int×List (eR)) (x1:Int) (x2:(Int×Int)×Int×Int×eL) (x3:List (eC)):evFn (f41.E k) 9 41 Tryz.f41 (encL [(.pair (.pair qI (.list qL)) (.pair qI (.pair qI (.pair qI (.list qR))))),qI,(.pair qS (.pair qI (.pair qI qL))),(.list qC)] (x0,x1,x2,x3)) =
 bif !asksB x2 then (some (.tup [(.agg [(.int .i64 0),(.own qL ([])),(.int .i64 0),(.int .i64 0),(.int .i64 0),(.own qR ([]))]),(.agg [(.int .i64 0),(.int .i64 0),(.int .i64 0),(.own qI ([])),(.int .i64 0),(.int .i64 0),(.int .i64 0),(.int .i64 0),(.int .i64 0),(.own qC ([]))]),(.int .i64 2000)])) else ((chk (pcsSmall x0) (some (passB x0 x1 x2))).bind (fun y0=>bif !y0 then (some (.tup [(.agg [(.int .i64 0),(.own qL ([])),(.int .i64 0),(.int .i64 0),(.int .i64 0),(.own qR ([]))]),(.agg [(.int .i64 0),(.int .i64 0),(.int .i64 0),(.own qI ([])),(.int .i64 0),(.int .i64 0),(.int .i64 0),(.int .i64 0),(.int .i64 0),(.own qC ([]))]),(.int .i64 2000)])) else ((chk (pcsSmall x0) (some (wishW x0 x2))).bind (fun y1=>(chk (decide (x3.length<4611686018427387904)) (some (mayW x0.1 ((y1.1,y1.2.1,y1.2.2.1,y1.2.2.2.1,y1.2.2.2.2.1,y1.2.2.2.2.2.1),y1.2.2.2.2.2.2) x3))).bind (fun y2=>bif !y2 then (some (.tup [(.agg [(.int .i64 0),(.own qL ([])),(.int .i64 0),(.int .i64 0),(.int .i64 0),(.own qR ([]))]),(.agg [(.int .i64 0),(.int .i64 0),(.int .i64 0),(.own qI ([])),(.int .i64 0),(.int .i64 0),(.int .i64 0),(.int .i64 0),(.int .i64 0),(.own qC ([]))]),(.int .i64 2000)])) else ((chk (decide (x3.length<4611686018427387904)&&decide (x3.length=y1.2.2.2.2.2.2.length)) (some (fitsW x0.1 ((y1.1,y1.2.1,y1.2.2.1,y1.2.2.2.1,y1.2.2.2.2.1,y1.2.2.2.2.2.1),y1.2.2.2.2.2.2) x3))).bind (fun y3=>bif !y3 then (some (.tup [(.agg [(.int .i64 0),(.own qL ([])),(.int .i64 0),(.int .i64 0),(.int .i64 0),(.own qR ([]))]),(.agg [(.int .i64 0),(.int .i64 0),(.int .i64 0),(.own qI ([])),(.int .i64 0),(.int .i64 0),(.int .i64 0),(.int .i64 0),(.int .i64 0),(.own qC ([]))]),(.int .i64 2001)])) else ((chk (bookMem x0) (some x0)).bind (fun y4=>(chk (pcsMem x3) (some x3)).bind (fun y5=>bif x2.2.1==(1:Int) then (chk (decide ((y4.2.2.2.2++[(x2.1,y4.2.2.2.1,x1,y1.2.2.2.1,y1.2.2.2.2.1,x2.2.2.2.2.2,y5)]).length*80≤140737488355328)) ((chk (pcsMem (Rs.pcs (x2.1,y4.2.2.2.1,x1,y1.2.2.2.1,y1.2.2.2.2.1,x2.2.2.2.2.2,y5))) (some (grantR (x2.1,y4.2.2.2.1,x1,y1.2.2.2.1,y1.2.2.2.2.1,x2.2.2.2.2.2,y5)))).bind (fun y6=>some (.tup [(.agg [(.int .i64 y4.1.1),(.own qL y4.1.2),(.int .i64 y4.2.1),(.int .i64 y4.2.2.1),(.int .i64 (Go.IntKind.i64.wrap (y4.2.2.2.1+(1:Int)))),(.own qR (y4.2.2.2.2++[(x2.1,y4.2.2.2.1,x1,y1.2.2.2.1,y1.2.2.2.2.1,x2.2.2.2.2.2,y5)]))]),(.agg [(.int .i64 y6.1.1),(.int .i64 y6.1.2),(.int .i64 y6.2.1.1),(.own qI y6.2.1.2),(.int .i64 y6.2.2.1),(.int .i64 y6.2.2.2.1),(.int .i64 y6.2.2.2.2.1),(.int .i64 y6.2.2.2.2.2.1),(.int .i64 y6.2.2.2.2.2.2.1),(.own qC y6.2.2.2.2.2.2.2)]),(.int .i64 0)])))) else ((chk (decide ((Bk.list y4).length<4611686018427387904)) (some (placeOf y4 x2.2.2.1))).bind (fun y6=>chk (decide ((0:Int)≤y6∧y6<(↑y4.2.2.2.2.length:Int))) ((chk (pcsMem (Rs.pcs (x2.1,x2.2.2.1,x1,y1.2.2.2.1,y1.2.2.2.2.1,x2.2.2.2.2.2,y5))) (some (grantR (x2.1,x2.2.2.1,x1,y1.2.2.2.1,y1.2.2.2.2.1,x2.2.2.2.2.2,y5)))).bind (fun y7=>some (.tup [(.agg [(.int .i64 y4.1.1),(.own qL y4.1.2),(.int .i64 y4.2.1),(.int .i64 y4.2.2.1),(.int .i64 y4.2.2.2.1),(.own qR (y4.2.2.2.2.set y6.toNat (x2.1,x2.2.2.1,x1,y1.2.2.2.1,y1.2.2.2.2.1,x2.2.2.2.2.2,y5)))]),(.agg [(.int .i64 y7.1.1),(.int .i64 y7.1.2),(.int .i64 y7.2.1.1),(.own qI y7.2.1.2),(.int .i64 y7.2.2.1),(.int .i64 y7.2.2.2.1),(.int .i64 y7.2.2.2.2.1),(.int .i64 y7.2.2.2.2.2.1),(.int .i64 y7.2.2.2.2.2.2.1),(.own qC y7.2.2.2.2.2.2.2)]),(.int .i64 0)]))))))))))))))):=by kernel_rfl
theorem f41.inl (k:Nat):InlOk Tryz.prog (f41.E k):=inl_nil
theorem f41.sums (k:Nat):SumsOk Tryz.prog (f41.E k):=(sums_cons ok45 (sums_cons ok95 (sums_cons ok97 (sums_cons ok98 (sums_cons ok101 (sums_cons ok105 (sums_cons ok106 (sums_cons ok107 (sums_cons ok108 sums_nil)))))))))
end
section
theorem f167.l1_is (k m0:Nat) (a b:List Pt) (i:Nat) (x y:List Int) (hlen:x.length=y.length) (hs:x.length<4611686018427387904) (ha:i<4611686018427387904):∀ (n j:Nat),j≤x.length→x.length<n+j →
  f167.l1 k n m0 x y x.length (j:Int) b a a.length (i:Int)=bif x.drop j==y.drop j then f167.l0 k m0 b a a.length ((i+1:Nat):Int) else some (.bool false)
 |0,j,h,h'=>by omega
 |n+1,j,h,h'=>by
  rw [f167.l1_eq]
  by_cases hlt:j<x.length
  ·have hxj:=gE hlt
   have hlt2:j<y.length:=by omega
   have hyj:=gE hlt2
   rw [idx_lt' hxj,cT,idx_in hxj,kT,idx_in hyj,kT,rd_some (t:=tI) hxj,rd_some (t:=tI) hyj,wrap_succ (i:=j) (by omega),List.drop_eq_getElem_cons hlt,List.drop_eq_getElem_cons hlt2]
   have e:((x[j]::x.drop (j+1):List Int)==y[j]::y.drop (j+1))=(x[j]==y[j]&&x.drop (j+1)==y.drop (j+1)):=rfl
   rw [e]
   cases hc:x[j]==y[j] with
   |false=>rw [show (x[j] != y[j])=true by simp only [bne];rw [hc];rfl,cT,fA,cF]
   |true =>
    rw [show (x[j] != y[j])=false by simp only [bne];rw [hc];rfl,cF,tA]
    exact f167.l1_is k m0 a b i x y hlen hs ha n (j+1) (by omega) (by omega)
  ·obtain rfl:j=x.length:=by omega
   rw [end_lt,cF,wrap_succ (by omega),List.drop_length,hlen,List.drop_length]
   rfl
theorem f167.l0_is (k:Nat) (a b:List Pt) (hl:a.length=b.length) (hs:smallP a=true) (hk:linksN a<k):∀ (n i:Nat),i≤a.length→a.length<n+i→f167.l0 k n b a a.length (i:Int)=some (.bool (a.drop i==b.drop i))
 |0,i,h,h'=>by omega
 |n+1,i,h,h'=>by
  have hs':=hs
  simp only [smallP,bA,dE] at hs'
  by_cases hlt:i<a.length
  ·have hx:=gE hlt
   have hlt2:i<b.length:=by omega
   have hy:=gE hlt2
   have h3:a[i].2.length<4611686018427387904:=by simpa using List.all_eq_true.1 hs'.2 a[i] (List.getElem_mem hlt)
   have h4:=linksN_le (List.getElem_mem hlt)
   rw [f167.l0_eq,idx_lt' hx,cT,idx_in hx,kT,idx_in hy,kT,rd_some (t:=tP) hx,rd_some (t:=tP) hy,List.drop_eq_getElem_cons hlt,List.drop_eq_getElem_cons hlt2]
   have e:((a[i]::a.drop (i+1):List Pt)==b[i]::b.drop (i+1))=((a[i].1==b[i].1&&a[i].2==b[i].2)&&a.drop (i+1)==b.drop (i+1)):=rfl
   rw [e]
   cases hc:a[i].1==b[i].1 with
   |false=>rw [fA,fA,cF]
   |true =>
    rw [cT,tA]
    by_cases hlen:a[i].2.length=b[i].2.length
    ·rw [show ((↑(List.length a[i].2):Int) != (↑(List.length b[i].2):Int))=false by rw [hlen,bne_self_eq_false],cF]
     refine (f167.l1_is k n a b i a[i].2 b[i].2 hlen h3 (by omega) k 0 (by omega) (by omega)).trans ?_
     rw [List.drop_zero,List.drop_zero]
     cases a[i].2==b[i].2 with
     |false=>rw [cF,fA]
     |true =>
      rw [cT,tA]
      exact f167.l0_is k a b hl hs hk n (i+1) (by omega) (by omega)
    ·rw [show ((↑(List.length a[i].2):Int) != (↑(List.length b[i].2):Int))=true from bne_iff_ne.2 (by omega),cT]
     rw [show (a[i].2==b[i].2)=false from beq_eq_false_iff_ne.2 fun hh=>hlen (by rw [hh]),fA]
  ·obtain rfl:i=a.length:=by omega
   rw [f167.l0_eq,end_lt,cF,List.drop_length,hl,List.drop_length]
   rfl
noncomputable def S167:Summ:=summ [tPc,tPc] Bool (fun (d:Pc×Pc)=>chk (smallP d.1.2) (some (eqPc d.1 d.2))) .bool
theorem ok167:SumOk Tryz.prog 167 S167 :=
 sumq f167.E (fn:=Tryz.f167) (code:=f167.code) f167.sums f167.inl fun (d:Pc×Pc) x hx=>by
  obtain ⟨a,b⟩:=d
  obtain ⟨hs,hx⟩:=chk_some hx
  obtain rfl:=oJ hx
  have hs:smallP a.2=true:=hs
  refine ⟨a.2.length+linksN a.2+1,(f167.eq _ a b).trans ?_⟩
  show (bif eqSp a.1 b.1 then _ else _)=some (V.bool (eqPc a b))
  unfold eqPc
  cases eqSp a.1 b.1 with
  |false=>rfl
  |true =>
   rw [cT,tA]
   by_cases hl:a.2.length=b.2.length
   ·rw [show ((↑(List.length a.2):Int) != (↑(List.length b.2):Int))=false by rw [hl,bne_self_eq_false],cF]
    refine (f167.l0_is _ a.2 b.2 hl hs (by omega) _ 0 (by omega) (by omega)).trans ?_
    rw [List.drop_zero,List.drop_zero]
    rfl
   ·rw [show ((↑(List.length a.2):Int) != (↑(List.length b.2):Int))=true from bne_iff_ne.2 (by omega),cT]
    rw [sameB_ne fun hh=>hl (by rw [hh])]
noncomputable def provenFrom (g:Gr) (src dst want:Int) (c:Ct):List Sg→Bool
 | []=>false
 |s::ss=>bif decide (((routeV (g,s.2,src,dst,want)).1.length:Int)>0) then provenFrom g src dst want c ss else (proves g s.2 src dst want c.2).1&&c.1==s.1.1
noncomputable def provenW (g:Gr) (w:Wq) (c:Ct):Bool:=provenFrom g w.1.2.2.2.1 w.1.2.2.2.2.1 w.1.2.2.2.2.2 c w.2
theorem f104.l0_is (k:Nat) (a b e f src dst want:Int) (c:Ct) (hc:c.2.length<4611686018427387904) (g:Gr) (ss:List Sg) (hl:ss.length<4611686018427387904):∀ (n i:Nat),i≤ss.length→ss.length<n+i →
  f104.l0 k n ss ss.length i a b e f src dst want g.1 g.2 c.1 c.2=some (.bool (provenFrom g src dst want c (ss.drop i)))
 |0,i,h,h'=>by omega
 |n+1,i,h,h'=>by
  rw [f104.l0_eq]
  by_cases hlt:i<ss.length
  ·have hx:=gE hlt
   have hg:((g.1,g.2):Gr)=g:=rfl
   rw [idx_lt' hx,cT,idx_in hx,kT,rd_some (t:=tSg) hx,wrap_succ (by omega),List.drop_eq_getElem_cons hlt,hg,(routeV_is (g,ss[i].2,src,dst,want)).1,bS,dT hc,kT,bS,
    f104.l0_is k a b e f src dst want c hc g ss hl n (i+1) (by omega) (by omega)]
   simp only [provenFrom]
   cases decide (((routeV (g,ss[i].2,src,dst,want)).1.length:Int)>0) with
   |true=>rfl
   |false=>cases (proves g ss[i].2 src dst want c.2).1 <;> rfl
  ·obtain rfl:i=ss.length:=by omega
   rw [end_lt,cF,List.drop_length]
   rfl
noncomputable def S104:Summ:=summ [tWq,tG,.pair tI tL] Bool (fun (d:Wq×(Gr×Ct))=>chk (decide (d.2.2.2.length<4611686018427387904)&&decide (d.1.2.length<4611686018427387904)) (some (provenW d.2.1 d.1 d.2.2))) .bool
theorem ok104:SumOk Tryz.prog 104 S104 :=
 sumq f104.E (fn:=Tryz.f104) (code:=f104.code) f104.sums f104.inl fun (d:Wq×(Gr×Ct)) x hx=>by
  obtain ⟨w,g,c⟩:=d
  obtain ⟨hs,hx⟩:=chk_some hx
  obtain rfl:=oJ hx
  have hs:(decide (c.2.length<4611686018427387904)&&decide (w.2.length<4611686018427387904))=true:=hs
  simp only [bA,dE] at hs
  exact ⟨w.2.length+1,(f104.eq _ w g c).trans (f104.l0_is _ _ _ _ _ _ _ _ c hs.1 g w.2 hs.2 _ 0 (by omega) (by omega))⟩
def Bk.zero:Bk:=((0,[]),0,0,0,[])
def Rp.zero:Rp:=((0,0),(0,[]),0,0,0,0,0,[])
def wishQ (b:Bk) (q:Rq):Wq:=((q.1,q.2.1,q.2.2.1,(wishOf b q).1,(wishOf b q).2.1,q.2.2.2.2.2),(wishOf b q).2.2)
def putRes (b:Bk) (o:Int) (q:Rq) (ps:List Pc) (id:Int):Rs:=(q.1,id,o,(wishOf b q).1,(wishOf b q).2.1,q.2.2.2.2.2,ps)
def putQ (b:Bk) (o:Int) (q:Rq) (ps:List Pc):Bk×(Rp×Int) :=
 bif !asksB q then (Bk.zero,Rp.zero,2000) else bif !passB b o q then (Bk.zero,Rp.zero,2000) else
 bif !mayW b.1 (wishQ b q) ps then (Bk.zero,Rp.zero,2000) else bif !fitsW b.1 (wishQ b q) ps then (Bk.zero,Rp.zero,2001) else
 bif q.2.1==1 then ((b.1,b.2.1,b.2.2.1,b.2.2.2.1+1,b.2.2.2.2++[putRes b o q ps b.2.2.2.1]),grantR (putRes b o q ps b.2.2.2.1),0)
 else ((b.1,b.2.1,b.2.2.1,b.2.2.2.1,b.2.2.2.2.set (placeOf b q.2.2.1).toNat (putRes b o q ps q.2.2.1)),grantR (putRes b o q ps q.2.2.1),0)
@[reducible] def resBRE (x:Bk×(Rp×Int)):V:=.tup [bookV x.1,ownRp x.2.1,.int .i64 x.2.2]
theorem pass_look {b:Bk} {o:Int} {q:Rq} (h:passB b o q=true):(lookQ b o q).2=0∧(lookQ b o q).1=0:=by
 unfold passB at h
 simpa [bA] using h
theorem place_lt {b:Bk} {id:Int} (h:0≤placeOf b id):placeOf b id<(b.2.2.2.2.length:Int):=by
 rcases idxId_spec id b.2.2.2.2 0 with ⟨h1,_⟩|⟨j,r,h1,h2,_⟩
 ·unfold placeOf Bk.list at h
  omega
 ·have:=idx_lt h2
  unfold placeOf Bk.list
  omega
noncomputable def S41:Summ:=summ [tBk,tI,tRq,.list tPc] (Bk×(Rp×Int)) (fun (d:Bk×(Int×(Rq×List Pc)))=>chk (pcsSmall d.1&&(bookMem d.1&&(decide (d.2.2.2.length<4611686018427387904)&&pcsMem d.2.2.2))) (some (putQ d.1 d.2.1 d.2.2.1 d.2.2.2))) resBRE
theorem ok41:SumOk Tryz.prog 41 S41 :=
 sumq f41.E (fn:=Tryz.f41) (code:=f41.code) f41.sums f41.inl fun (d:Bk×(Int×(Rq×List Pc))) x hx=>by
  obtain ⟨b,o,q,ps⟩:=d
  obtain ⟨hs,hx⟩:=chk_some hx
  obtain rfl:=oJ hx
  have hs:(pcsSmall b&&(bookMem b&&(decide (ps.length<4611686018427387904)&&pcsMem ps)))=true:=hs
  simp only [bA,dE] at hs
  obtain ⟨h1,h2,h3,h4⟩:=hs
  refine ⟨0,(f41.eq _ b o q ps).trans ?_⟩
  show _=some (resBRE (putQ b o q ps))
  unfold putQ
  cases ha:asksB q with
  |false=>rfl
  |true =>
   rw [nT,cF,cF,h1,kT,bS]
   cases hp:passB b o q with
   |false=>rfl
   |true =>
    obtain ⟨hl,hc⟩:=pass_look hp
    have hb:=(look_book hl).1
    obtain ⟨hb1,_⟩:=book_ok hb
    have hf:=form_parts hb1.1
    have hf5:b.2.2.2.2.length≤8:=hf.2.2.2.2
    have hf4:1≤b.2.2.2.1∧b.2.2.2.1≤1048577:=hf.2.2.2.1
    rw [nT,cF,cF,kT,bS,dT h3,kT,bS]
    show (bif !mayW b.1 (wishQ b q) ps then _ else _)=_
    cases hm:mayW b.1 (wishQ b q) ps with
    |false=>rfl
    |true =>
     have hlen:ps.length=(wishW b q).2.2.2.2.2.2.length:=by
      unfold mayW at hm
      simp only [bA,beq_iff_eq] at hm
      exact hm.1
     rw [nT,cF,cF,dT hlen,Bool.and_self,kT,bS]
     show (bif !fitsW b.1 (wishQ b q) ps then _ else _)=_
     cases fitsW b.1 (wishQ b q) ps with
     |false=>rfl
     |true =>
      rw [nT,cF,cF,h2,kT,bS,h4,kT,bS]
      cases hk:q.2.1==1 with
      |true =>
       rw [cT,cT,chk_eq (dT (by rw [lA,List.length_singleton];omega)),chk_eq (show pcsMem (Rs.pcs (q.1,b.2.2.2.1,o,(wishW b q).2.2.2.1,(wishW b q).2.2.2.2.1,q.2.2.2.2.2,ps))=true from h4),bS,wrap64 (by omega)]
       rfl
      |false =>
       have hk2:q.2.1=2:=by
        unfold asksB at ha
        rw [hk] at ha
        simpa using ha
       have hpl:=(look_ends hl hc).1 hk2
       have hpl2:=place_lt hpl
       rw [cF,cF,chk_eq (dT (show (Bk.list b).length<4611686018427387904 by unfold Bk.list;omega)),bS,chk_eq (dT ⟨hpl,hpl2⟩),chk_eq (show pcsMem (Rs.pcs (q.1,q.2.2.1,o,(wishW b q).2.2.2.1,(wishW b q).2.2.2.2.1,q.2.2.2.2.2,ps))=true from h4),bS]
       rfl
end
section
set_option maxRecDepth 100000
noncomputable def f103.E (k:Nat):Env:=mkEnv tt [(167,S167)] [(72,Tryz.f72),(166,Tryz.f166)] [(72,4,[.kill (rg [(2,11),(14,25)]),.tidy]),(166,4,[.kill (rg [(0,0),(3,14),(18,31)]),.tidy])] [(72,1664,(rg [(0,1),(4,18),(20,25),(27,69)])),(166,4352,(rg [(0,62),(64,67),(69,69)]))] k
noncomputable def f103.code:Go.Code:=cd Tryz.f103
noncomputable def f103.l0 (k n:Nat) (p0:List Int) (p1:List Int) (p2:Int) (p3:Int) (p4:Int) (p5:Int) (p6:Int) (p7:Int) (p8:Int) (p9:Int) (p10:Int) (p11:Int) (p12:List (eC)) (p13:Int) (p14:Int) (p15:Int) (p16:Int) (p17:Int) (p18:Int) (p19:Int) (p20:Int) (p21:List (eC)):Option V :=
 atPath (f103.E k) n ⟨((.ro qI p0)::(.ro qI p1)::.u::.u::.u::.u::.u::.u::.u::.u::.u::.u::(.int .i64 p2)::(.int .i64 p3)::un 12),[(.u::.u::(.ptr 1074266128 (0) (0))::(.ptr 1074528272 (0) (0))::.u::.u::.u::.u::.u::.u::.u::.u::.u::.u::.u::.u::.u::.u::.u::(.bool true)::un 50)],[(1074266128,.box [(.int .i64 p4),(.int .i64 p5),(.int .i64 p6),(.ro qI p0),(.int .i64 p7),(.int .i64 p8),(.int .i64 p9),(.int .i64 p10),(.int .i64 p11),(.ro qC p12)]),(1074528272,.box [(.int .i64 p13),(.int .i64 p14),(.int .i64 p15),(.ro qI p1),(.int .i64 p16),(.int .i64 p17),(.int .i64 p18),(.int .i64 p19),(.int .i64 p20),(.ro qC p21)])]⟩ 9 0 103 [.c 1,.c 0,.call 21 72,.c 1,.c 1,.c 0,.c 1,.c 0] [] f103.code (finK tt Tryz.f103)
noncomputable def f103.l1 (k n:Nat) (p0:List (eC)) (p1:List (eC)) (p2:Int) (p3:Int):Option V :=
 atPath (f103.E k) n ⟨(.u::(.ro qC p0)::(.fn 167 [])::.u::.u::.u::.u::.u::.u::.u::.u::.u::.u::.u::.u::(.ro qC p1)::(.int .i64 p2)::(.int .i64 p3)::un 14),[(.u::.u::.u::.u::.u::.u::.u::.u::.u::.u::.u::.u::.u::.u::.u::.u::.u::.u::.u::.u::.u::.u::.u::.u::.u::.u::.u::.u::.u::.u::.u::.u::.u::.u::.u::.u::.u::.u::.u::.u::.u::.u::.u::.u::.u::.u::.u::.u::.u::.u::.u::.u::.u::.u::.u::.u::.u::.u::.u::.u::.u::.u::.u::(.bool true)::un 6)],[]⟩ 9 0 103 [.c 1,.c 0,.call 63 166,.c 1,.c 1,.c 0,.c 1,.c 0] [] f103.code (finK tt Tryz.f103)
theorem f103.l0_eq (k n:Nat) (p0:List Int) (p1:List Int) (p2:Int) (p3:Int) (p4:Int) (p5:Int) (p6:Int) (p7:Int) (p8:Int) (p9:Int) (p10:Int) (p11:Int) (p12:List (eC)) (p13:Int) (p14:Int) (p15:Int) (p16:Int) (p17:Int) (p18:Int) (p19:Int) (p20:Int) (p21:List (eC)):f103.l0 k (n+1) p0 p1 p2 p3 p4 p5 p6 p7 p8 p9 p10 p11 p12 p13 p14 p15 p16 p17 p18 p19 p20 p21 =
 bif decide (p3<p2) then (chk (decide ((0:Int)≤p3∧p3<(↑p0.length:Int))) (chk (decide ((0:Int)≤p3∧p3<(↑p1.length:Int))) (bif rd qI p0 p3 != rd qI p1 p3 then (some (.bool false)) else (f103.l0 k n p0 p1 p2 (Go.IntKind.i64.wrap (p3+(1:Int))) p4 p5 p6 p7 p8 p9 p10 p11 p12 p13 p14 p15 p16 p17 p18 p19 p20 p21)))) else (bif p7==p16 then (bif p8==p17 then (bif p9==p18 then (bif p10==p19 then (bif p11==p20 then (bif (↑p12.length:Int) != (↑p21.length:Int) then (some (.bool false)) else (f103.l1 k k p21 p12 ((↑p12.length:Int)) 0)) else (some (.bool false))) else (some (.bool false))) else (some (.bool false))) else (some (.bool false))) else (some (.bool false))):=by kernel_rfl
theorem f103.l1_eq (k n:Nat) (p0:List (eC)) (p1:List (eC)) (p2:Int) (p3:Int):f103.l1 k (n+1) p0 p1 p2 p3 =
 bif decide (p3<p2) then (chk (decide ((0:Int)≤p3∧p3<(↑p1.length:Int))) (chk (decide ((0:Int)≤p3∧p3<(↑p0.length:Int))) ((chk (smallP (rd qC p1 p3).2) (some (eqPc (rd qC p1 p3) (rd qC p0 p3)))).bind (fun y0=>bif !y0 then (some (.bool false)) else (f103.l1 k n p0 p1 p2 (Go.IntKind.i64.wrap (p3+(1:Int)))))))) else (some (.bool true)):=by kernel_rfl
theorem f103.eq (k:Nat) (x0:(Int×Int)×(eP)×Int×Int×Int×Int×Int×List (eC)) (x1:(Int×Int)×(eP)×Int×Int×Int×Int×Int×List (eC)):evFn (f103.E k) 9 103 Tryz.f103 (encL [(.pair qS (.pair qP (.pair qI (.pair qI (.pair qI (.pair qI (.pair qI (.list qC)))))))),(.pair qS (.pair qP (.pair qI (.pair qI (.pair qI (.pair qI (.pair qI (.list qC))))))))] (x0,x1)) =
 bif x0.1.1==x1.1.1&&(x0.1.2==x1.1.2&&true) then (bif x0.2.1.1==x1.2.1.1 then (bif (↑(x0.2.1.2.length):Int) != (↑(x1.2.1.2.length):Int) then (some (.bool false)) else (f103.l0 k k x0.2.1.2 x1.2.1.2 ((↑(x0.2.1.2.length):Int)) 0 x0.1.1 x0.1.2 x0.2.1.1 x0.2.2.1 x0.2.2.2.1 x0.2.2.2.2.1 x0.2.2.2.2.2.1 x0.2.2.2.2.2.2.1 x0.2.2.2.2.2.2.2 x1.1.1 x1.1.2 x1.2.1.1 x1.2.2.1 x1.2.2.2.1 x1.2.2.2.2.1 x1.2.2.2.2.2.1 x1.2.2.2.2.2.2.1 x1.2.2.2.2.2.2.2)) else (some (.bool false))) else (some (.bool false)):=by kernel_rfl
theorem f103.inl (k:Nat):InlOk Tryz.prog (f103.E k):=(inl_cons (by kernel_rfl) (by kernel_rfl) (inl_cons (by kernel_rfl) (by kernel_rfl) inl_nil))
theorem f103.sums (k:Nat):SumsOk Tryz.prog (f103.E k):=(sums_cons ok167 sums_nil)
end
section
noncomputable def S101r:Summ:=summ [tBk,tRq] Ws (fun (d:Bk×Rq)=>chk (pcsSmall d.1) (some (wishW d.1 d.2))) (fun w=>.agg [.int .i64 w.1.1,.int .i64 w.1.2,.int .i64 w.2.1,.int .i64 w.2.2.1,.int .i64 w.2.2.2.1,.int .i64 w.2.2.2.2.1,.int .i64 w.2.2.2.2.2.1,.ro tSg w.2.2.2.2.2.2])
theorem ok101r:SumOk Tryz.prog 101 S101r:=SumOk.ro (fun _=>rfl) ok101
theorem f103.l1_is (k n:Nat) (a b:List Pc) (hl:a.length=b.length) (hs:smallPcs a=true) (hn:a.length<n):f103.l1 k n b a a.length 0=some (.bool (samePcs a b)):=by
 unfold smallPcs at hs
 simp only [bA,dE] at hs
 have hz:(a.zip b).length=a.length:=by simp [hl]
 have:=loop_any0 (fun n i=>f103.l1 k n b a a.length (i:Nat)) (a.zip b) (fun x=>!eqPc x.1 x.2) (some (.bool false)) (some (.bool true)) (fun n i x hx=>by
  obtain ⟨ha,hb⟩:=zip_get hx
  have:=idx_lt ha
  have h3:=List.all_eq_true.1 hs.2 x.1 (List.mem_of_getElem? ha)
  rw [f103.l1_eq,idx_lt' ha,cT,idx_in ha,kT,idx_in hb,kT,rd_some (t:=tPc) ha,rd_some (t:=tPc) hb,wrap_succ (by omega),h3,kT,bS]) (fun n=>by rw [hz,f103.l1_eq,end_lt];rfl) (n:=n) (by omega)
 refine this.trans ?_
 unfold samePcs
 rw [any_notq fun x:Pc×Pc=>eqPc x.1 x.2,show (a.length==b.length)=true by simp [hl],tA]
 cases (a.zip b).all _ <;> rfl
noncomputable def S103:Summ:=summ [tRp,tRp] Bool (fun (d:Rp×Rp)=>chk (rpSmall d.1) (some (sameRp d.1 d.2))) .bool
theorem ok103:SumOk Tryz.prog 103 S103 :=
 sumq f103.E (fn:=Tryz.f103) (code:=f103.code) f103.sums f103.inl fun (d:Rp×Rp) x hx=>by
  obtain ⟨a,b⟩:=d
  obtain ⟨hs,hx⟩:=chk_some hx
  obtain rfl:=oJ hx
  have hs:rpSmall a=true:=hs
  unfold rpSmall at hs
  simp only [bA,dE] at hs
  obtain ⟨hs1,hs2⟩:=hs
  refine ⟨a.2.1.2.length+a.2.2.2.2.2.2.2.length+1,(f103.eq _ a b).trans ?_⟩
  show (bif eqSp a.1 b.1 then _ else _)=some (V.bool (sameRp a b))
  unfold sameRp
  cases eqSp a.1 b.1 with
  |false=>rfl
  |true =>
   rw [cT,tA]
   cases a.2.1.1==b.2.1.1 with
   |false=>rfl
   |true =>
    rw [cT,tA]
    by_cases hl:a.2.1.2.length=b.2.1.2.length
    ·rw [show ((↑(List.length a.2.1.2):Int) != (↑(List.length b.2.1.2):Int))=false by rw [hl,bne_self_eq_false],cF]
     have hz:(a.2.1.2.zip b.2.1.2).length=a.2.1.2.length:=by simp [hl]
     have:=loop_any0 (fun n i=>f103.l0 (a.2.1.2.length+a.2.2.2.2.2.2.2.length+1) n a.2.1.2 b.2.1.2 a.2.1.2.length (i:Nat) a.1.1 a.1.2 a.2.1.1 a.2.2.1 a.2.2.2.1 a.2.2.2.2.1 a.2.2.2.2.2.1 a.2.2.2.2.2.2.1 a.2.2.2.2.2.2.2 b.1.1 b.1.2 b.2.1.1 b.2.2.1 b.2.2.2.1 b.2.2.2.2.1 b.2.2.2.2.2.1 b.2.2.2.2.2.2.1 b.2.2.2.2.2.2.2) (a.2.1.2.zip b.2.1.2) (fun x=>x.1 != x.2) (some (.bool false))
      (some (.bool (a.2.2.1==b.2.2.1&&(a.2.2.2.1==b.2.2.2.1&&(a.2.2.2.2.1==b.2.2.2.2.1&&(a.2.2.2.2.2.1==b.2.2.2.2.2.1&&(a.2.2.2.2.2.2.1==b.2.2.2.2.2.2.1&&samePcs a.2.2.2.2.2.2.2 b.2.2.2.2.2.2.2))))))) (fun n i x hx=>by
       obtain ⟨ha,hb⟩:=zip_get hx
       have:=idx_lt ha
       rw [f103.l0_eq,idx_lt' ha,cT,idx_in ha,kT,idx_in hb,kT,rd_some (t:=tI) ha,rd_some (t:=tI) hb,wrap_succ (by omega)]) (fun n=>by
       rw [hz,f103.l0_eq,end_lt,cF]
       cases a.2.2.1==b.2.2.1 with
       |false=>rfl
       |true =>
        cases a.2.2.2.1==b.2.2.2.1 with
        |false=>rfl
        |true =>
         cases a.2.2.2.2.1==b.2.2.2.2.1 with
         |false=>rfl
         |true =>
          cases a.2.2.2.2.2.1==b.2.2.2.2.2.1 with
          |false=>rfl
          |true =>
           cases a.2.2.2.2.2.2.1==b.2.2.2.2.2.2.1 with
           |false=>rfl
           |true =>
            simp only [cT,tA]
            by_cases hp:a.2.2.2.2.2.2.2.length=b.2.2.2.2.2.2.2.length
            ·rw [show ((↑(List.length a.2.2.2.2.2.2.2):Int) != (↑(List.length b.2.2.2.2.2.2.2):Int))=false by rw [hp,bne_self_eq_false],cF]
             exact f103.l1_is _ _ _ _ hp hs2 (by omega)
            ·rw [show ((↑(List.length a.2.2.2.2.2.2.2):Int) != (↑(List.length b.2.2.2.2.2.2.2):Int))=true from bne_iff_ne.2 (by omega),cT]
             unfold samePcs
             rw [show (a.2.2.2.2.2.2.2.length==b.2.2.2.2.2.2.2.length)=false by simp [hp]]
             rfl) (n:=a.2.1.2.length+a.2.2.2.2.2.2.2.length+1) (by omega)
     refine this.trans ?_
     rw [any_zip_ne hl]
     unfold sameB
     cases a.2.1.2==b.2.1.2 <;> rfl
    ·rw [show ((↑(List.length a.2.1.2):Int) != (↑(List.length b.2.1.2):Int))=true from bne_iff_ne.2 (by omega),cT]
     rw [sameB_ne fun hh=>hl (by rw [hh])]
     rfl
end
section
set_option maxRecDepth 100000
noncomputable def f37d.E (k:Nat):Env:=mkEnv tt [(34,S34),(41,S41),(95,S95),(97,S97),(98,S98),(99,S99),(101,S101r),(102,S102)] [(96,Tryz.f96),(100,Tryz.f100),(162,Tryz.f162),(163,Tryz.f163),(158,Tryz.f158)] [(37,9,[.drop 58]),(37,20,[.drop 63]),(162,5,[.kill (rg [(2,4),(7,41)]),.tidy,.tidy]),(158,2,[.kill (rg [(2,6),(9,18)]),.tidy,.tidy]),(0,262976,[.drop 60]),(0,263808,[.drop 60])] [(100,5568,(rg [(0,5),(8,86),(88,112)])),(162,262784,(rg [(0,1),(3,3),(5,9),(11,12)])),(158,524928,(rg [(2,9),(11,41)]))] k
noncomputable def f37d.code:Go.Code:=cd Tryz.f37
noncomputable def f37d.l0 (k n:Nat) (p0:Int) (p1:Int) (p2:Int) (p3:Int) (p4:Int) (p5:Int) (p6:Int) (p7:List (eL)) (p8:List (eR)):Option V :=
 atPath (f37d.E k) n ⟨((.slw 563087396569456)::(.fn 163 [(.ptr 262336 (0) (0))])::.u::.u::.u::.u::.u::(.int .i64 p0)::(.int .i64 p1)::un 10),[((.slw 563087396569456)::(.fn 163 [(.ptr 262336 (0) (0))])::un 40),(.u::.u::(.ptr 2148007952 (0) (0))::.u::(.ptr 2148532240 (0) (0))::un 8),(.u::.u::.u::.u::.u::.u::(.ptr 3222798352 (0) (0))::(.ptr 3223060496 (0) (0))::un 105)],[(262336,.box [(.int .i64 p2)]),(2148007952,.box [(.int .i64 p3),(.slw 563087396569200),(.int .i64 p4),(.int .i64 p2),(.int .i64 p5),(.slw 563087396569456)]),(2148532240,.box [(.int .i64 p6),.nil,(.int .i64 p6),(.int .i64 p6),(.int .i64 p6),.nil]),(3222798352,.box [(.int .i64 p6),.nil,(.int .i64 p6),(.int .i64 p6),(.int .i64 p6),.nil]),(3223060496,.box [(.int .i64 p6),(.int .i64 p6),(.int .i64 p6),.nil,(.int .i64 p6),(.int .i64 p6),(.int .i64 p6),(.int .i64 p6),(.int .i64 p6),.nil]),(563087396569200,.row qL p7),(563087396569456,.row qR p8)]⟩ 9 0 37 [.c 1,.c 1,.c 1,.c 1,.c 1,.c 0,.c 1,.c 0,.c 1,.c 1,.c 1,.c 1,.c 1,.c 1,.c 1,.c 0,.c 0,.call 4 100,.c 1,.c 1,.c 0,.call 3 162,.c 1,.c 0,.call 2 158,.c 1,.c 0,.c 1,.c 0] [] f37d.code (finK tt Tryz.f37)
noncomputable def f37d.l1 (k n:Nat) (p0:Int) (p1:Int) (p2:Int) (p3:Int) (p4:Int) (p5:Int) (p6:Int) (p7:List (eL)) (p8:List (eR)):Option V :=
 atPath (f37d.E k) n ⟨((.slw 281612419858800)::(.fn 163 [(.ptr 262336 (0) (0))])::.u::.u::.u::(.int .i64 p0)::(.int .i64 p1)::un 35),[(.u::.u::(.ptr 1074266128 (0) (0))::.u::(.ptr 1074790416 (0) (0))::un 8),(.u::.u::.u::.u::.u::.u::(.ptr 2149056528 (0) (0))::(.ptr 2149318672 (0) (0))::un 105)],[(262336,.box [(.int .i64 p2)]),(1074266128,.box [(.int .i64 p3),(.slw 281612419858544),(.int .i64 p4),(.int .i64 p2),(.int .i64 p5),(.slw 281612419858800)]),(1074790416,.box [(.int .i64 p6),.nil,(.int .i64 p6),(.int .i64 p6),(.int .i64 p6),.nil]),(2149056528,.box [(.int .i64 p6),.nil,(.int .i64 p6),(.int .i64 p6),(.int .i64 p6),.nil]),(2149318672,.box [(.int .i64 p6),(.int .i64 p6),(.int .i64 p6),.nil,(.int .i64 p6),(.int .i64 p6),(.int .i64 p6),(.int .i64 p6),(.int .i64 p6),.nil]),(281612419858544,.row qL p7),(281612419858800,.row qR p8)]⟩ 9 0 37 [.c 1,.c 1,.c 1,.c 1,.c 1,.c 0,.c 1,.c 0,.c 1,.c 1,.c 1,.c 1,.c 1,.c 1,.c 1,.c 0,.c 0,.call 4 100,.c 1,.c 1,.c 0,.call 3 162,.c 1,.c 1,.c 1,.c 0,.c 1,.c 0] [] f37d.code (finK tt Tryz.f37)
theorem f37d.l0_eq (k n:Nat) (p0:Int) (p1:Int) (p2:Int) (p3:Int) (p4:Int) (p5:Int) (p6:Int) (p7:List (eL)) (p8:List (eR)):f37d.l0 k (n+1) p0 p1 p2 p3 p4 p5 p6 p7 p8 =
 bif decide (p1<p0) then (chk (decide ((0:Int)≤p1∧p1<(↑p8.length:Int))) (bif decide ((rd qR p8 (↑p1.toNat:Int)).1.2≤p2) then (bif p1==(-1:Int) then (some (.tup [(.agg [(.int .i64 p3),(.own qL p7),(.int .i64 p4),(.int .i64 p2),(.int .i64 p5),(.own qR p8)]),(.agg [(.int .i64 0),(.int .i64 0),(.int .i64 0),(.own qI ([])),(.int .i64 4),(.int .i64 0),(.int .i64 0),(.int .i64 0),(.int .i64 0),(.own qC ([]))]),(.int .i64 0)])) else (f37d.l1 k k p1 (Go.IntKind.i64.wrap (p1+(1:Int))) p2 p3 p4 p5 p6 p7 p8)) else (f37d.l0 k n p0 (Go.IntKind.i64.wrap (p1+(1:Int))) p2 p3 p4 p5 p6 p7 p8))) else (some (.tup [(.agg [(.int .i64 p3),(.own qL p7),(.int .i64 p4),(.int .i64 p2),(.int .i64 p5),(.own qR p8)]),(.agg [(.int .i64 0),(.int .i64 0),(.int .i64 0),(.own qI ([])),(.int .i64 4),(.int .i64 0),(.int .i64 0),(.int .i64 0),(.int .i64 0),(.own qC ([]))]),(.int .i64 0)])):=by kernel_rfl
theorem f37d.l1_eq (k n:Nat) (p0:Int) (p1:Int) (p2:Int) (p3:Int) (p4:Int) (p5:Int) (p6:Int) (p7:List (eL)) (p8:List (eR)):f37d.l1 k (n+1) p0 p1 p2 p3 p4 p5 p6 p7 p8 =
 bif decide (p1<(↑p8.length:Int)) then (chk (decide ((0:Int)≤p1∧p1<(↑p8.length:Int))) (bif !decide ((rd qR p8 (↑p1.toNat:Int)).1.2≤p2) then (chk (decide ((0:Int)≤p0∧p0<(↑p8.length:Int))) (f37d.l1 k n (Go.IntKind.i64.wrap (p0+(1:Int))) (Go.IntKind.i64.wrap (p1+(1:Int))) p2 p3 p4 p5 p6 p7 (p8.set p0.toNat (rd qR p8 (↑p1.toNat:Int))))) else (f37d.l1 k n p0 (Go.IntKind.i64.wrap (p1+(1:Int))) p2 p3 p4 p5 p6 p7 p8))) else (chk (decide ((0:Int)≤p0∧p0≤(↑p8.length:Int))) (chk (decide ((↑p8.length:Int)≤(↑p8.length:Int))) (chk (decide ((0:Int)≤(0:Int)∧(0:Int)≤p0)) (chk (decide (p0≤(↑(List.take p0.toNat p8++List.replicate ((↑p8.length:Int).toNat - p0.toNat) (dflt qR)++List.drop (p0.toNat+((↑p8.length:Int).toNat - p0.toNat)) p8).length:Int))) (some (.tup [(.agg [(.int .i64 p3),(.own qL p7),(.int .i64 p4),(.int .i64 p2),(.int .i64 p5),(.own qR (List.take (p0.toNat - 0) (List.drop 0 (List.take p0.toNat p8++List.replicate ((↑p8.length:Int).toNat - p0.toNat) (dflt qR)++List.drop (p0.toNat+((↑p8.length:Int).toNat - p0.toNat)) p8))))]),(.agg [(.int .i64 0),(.int .i64 0),(.int .i64 0),(.own qI ([])),(.int .i64 4),(.int .i64 0),(.int .i64 0),(.int .i64 0),(.int .i64 0),(.own qC ([]))]),(.int .i64 0)])))))):=by kernel_rfl
theorem f37d.eq (k:Nat) (x0:(Int×List (eL)) ×
 Int×Int×Int×List (eR)) (x1:Int) (x2:(Int×Int)×Int×Int×eL):evFn (f37d.E k) 9 37 Tryz.f37 [(.agg [(.int .i64 x0.1.1),(.ro qL x0.1.2),(.int .i64 x0.2.1),(.int .i64 x0.2.2.1),(.int .i64 x0.2.2.2.1),(.ro qR x0.2.2.2.2)]),(.int .i64 x1),(.agg [(.int .i64 x2.1.1),(.int .i64 x2.1.2),(.int .i64 x2.2.1),(.int .i64 x2.2.2.1),(.int .i64 x2.2.2.2.1),(.int .i64 x2.2.2.2.2.1),(.int .i64 x2.2.2.2.2.2)])] =
 (chk (pcsSmall x0) (some (lookQ x0 x1 x2))).bind (fun y0=>bif y0.2 != (0:Int) then (some (.tup [(.agg [(.int .i64 0),(.own qL ([])),(.int .i64 0),(.int .i64 0),(.int .i64 0),(.own qR ([]))]),(.agg [(.int .i64 0),(.int .i64 0),(.int .i64 0),(.own qI ([])),(.int .i64 0),(.int .i64 0),(.int .i64 0),(.int .i64 0),(.int .i64 0),(.own qC ([]))]),(.int .i64 y0.2)])) else ((chk (bookMem x0) (some x0)).bind (fun y1=>bif y0.1 != (0:Int) then (some (.tup [(.agg [(.int .i64 y1.1.1),(.own qL y1.1.2),(.int .i64 y1.2.1),(.int .i64 y1.2.2.1),(.int .i64 y1.2.2.2.1),(.own qR y1.2.2.2.2)]),(.agg [(.int .i64 0),(.int .i64 0),(.int .i64 0),(.own qI ([])),(.int .i64 1),(.int .i64 y0.1),(.int .i64 0),(.int .i64 0),(.int .i64 0),(.own qC ([]))]),(.int .i64 0)])) else (bif x2.2.1==(3:Int) then ((chk (decide ((Bk.list x0).length<4611686018427387904)) (some (placeOf x0 x2.2.2.1))).bind (fun y2=>(chk (decide ((Bk.list x0).length<4611686018427387904)) (some (placeOf x0 x2.2.2.1))).bind (fun y3=>chk (decide ((0:Int)≤y2∧y2≤Go.IntKind.i64.wrap (y3+(1:Int)))) (chk (decide (Go.IntKind.i64.wrap (y3+(1:Int))≤(↑y1.2.2.2.2.length:Int))) (chk (decide ((↑y1.2.2.2.2.length:Int)≤(↑y1.2.2.2.2.length:Int))) (bif y2==Go.IntKind.i64.wrap (y3+(1:Int)) then (some (.tup [(.agg [(.int .i64 y1.1.1),(.own qL y1.1.2),(.int .i64 y1.2.1),(.int .i64 y1.2.2.1),(.int .i64 y1.2.2.2.1),(.own qR y1.2.2.2.2)]),(.agg [(.int .i64 0),(.int .i64 0),(.int .i64 0),(.own qI ([])),(.int .i64 4),(.int .i64 0),(.int .i64 0),(.int .i64 0),(.int .i64 0),(.own qC ([]))]),(.int .i64 0)])) else (chk (decide ((0:Int)≤(0:Int)∧(0:Int)≤y2)) (chk (decide (y2≤(↑y1.2.2.2.2.length:Int))) (chk (decide ((0:Int)≤Go.IntKind.i64.wrap (y3+(1:Int))∧Go.IntKind.i64.wrap (y3+(1:Int))≤(↑y1.2.2.2.2.length:Int))) (chk (decide ((↑y1.2.2.2.2.length:Int)≤(↑y1.2.2.2.2.length:Int))) (chk (decide (0+(y2.toNat - 0)+(List.take ((↑y1.2.2.2.2.length:Int).toNat - (Go.IntKind.i64.wrap (y3+(1:Int))).toNat) (List.drop (Go.IntKind.i64.wrap (y3+(1:Int))).toNat y1.2.2.2.2)).length≤y1.2.2.2.2.length)) (chk (decide ((0:Int)≤(↑(y2.toNat - 0+(List.take ((↑y1.2.2.2.2.length:Int).toNat - (Go.IntKind.i64.wrap (y3+(1:Int))).toNat) (List.drop (Go.IntKind.i64.wrap (y3+(1:Int))).toNat y1.2.2.2.2)).length):Int)∧(↑(y2.toNat - 0+(List.take ((↑y1.2.2.2.2.length:Int).toNat - (Go.IntKind.i64.wrap (y3+(1:Int))).toNat) (List.drop (Go.IntKind.i64.wrap (y3+(1:Int))).toNat y1.2.2.2.2)).length):Int)≤(↑y1.2.2.2.2.length:Int))) (chk (decide ((↑y1.2.2.2.2.length:Int)≤(↑((List.take (0+(y2.toNat - 0)) y1.2.2.2.2++List.take ((↑y1.2.2.2.2.length:Int).toNat - (Go.IntKind.i64.wrap (y3+(1:Int))).toNat) (List.drop (Go.IntKind.i64.wrap (y3+(1:Int))).toNat y1.2.2.2.2)++List.drop (0+(y2.toNat - 0)+(List.take ((↑y1.2.2.2.2.length:Int).toNat - (Go.IntKind.i64.wrap (y3+(1:Int))).toNat) (List.drop (Go.IntKind.i64.wrap (y3+(1:Int))).toNat y1.2.2.2.2)).length) y1.2.2.2.2).length - 0):Int))) (some (.tup [(.agg [(.int .i64 y1.1.1),(.own qL y1.1.2),(.int .i64 y1.2.1),(.int .i64 y1.2.2.1),(.int .i64 y1.2.2.2.1),(.own qR (List.take (y2.toNat - 0+(List.take ((↑y1.2.2.2.2.length:Int).toNat - (Go.IntKind.i64.wrap (y3+(1:Int))).toNat) (List.drop (Go.IntKind.i64.wrap (y3+(1:Int))).toNat y1.2.2.2.2)).length) (List.drop 0 (List.take (0+(↑(y2.toNat - 0+(List.take ((↑y1.2.2.2.2.length:Int).toNat - (Go.IntKind.i64.wrap (y3+(1:Int))).toNat) (List.drop (Go.IntKind.i64.wrap (y3+(1:Int))).toNat y1.2.2.2.2)).length):Int).toNat) (List.take (0+(y2.toNat - 0)) y1.2.2.2.2++List.take ((↑y1.2.2.2.2.length:Int).toNat - (Go.IntKind.i64.wrap (y3+(1:Int))).toNat) (List.drop (Go.IntKind.i64.wrap (y3+(1:Int))).toNat y1.2.2.2.2)++List.drop (0+(y2.toNat - 0)+(List.take ((↑y1.2.2.2.2.length:Int).toNat - (Go.IntKind.i64.wrap (y3+(1:Int))).toNat) (List.drop (Go.IntKind.i64.wrap (y3+(1:Int))).toNat y1.2.2.2.2)).length) y1.2.2.2.2)++List.replicate ((↑y1.2.2.2.2.length:Int).toNat - (↑(y2.toNat - 0+(List.take ((↑y1.2.2.2.2.length:Int).toNat - (Go.IntKind.i64.wrap (y3+(1:Int))).toNat) (List.drop (Go.IntKind.i64.wrap (y3+(1:Int))).toNat y1.2.2.2.2)).length):Int).toNat) (dflt qR)++List.drop (0+(↑(y2.toNat - 0+(List.take ((↑y1.2.2.2.2.length:Int).toNat - (Go.IntKind.i64.wrap (y3+(1:Int))).toNat) (List.drop (Go.IntKind.i64.wrap (y3+(1:Int))).toNat y1.2.2.2.2)).length):Int).toNat+((↑y1.2.2.2.2.length:Int).toNat - (↑(y2.toNat - 0+(List.take ((↑y1.2.2.2.2.length:Int).toNat - (Go.IntKind.i64.wrap (y3+(1:Int))).toNat) (List.drop (Go.IntKind.i64.wrap (y3+(1:Int))).toNat y1.2.2.2.2)).length):Int).toNat)) (List.take (0+(y2.toNat - 0)) y1.2.2.2.2++List.take ((↑y1.2.2.2.2.length:Int).toNat - (Go.IntKind.i64.wrap (y3+(1:Int))).toNat) (List.drop (Go.IntKind.i64.wrap (y3+(1:Int))).toNat y1.2.2.2.2)++List.drop (0+(y2.toNat - 0)+(List.take ((↑y1.2.2.2.2.length:Int).toNat - (Go.IntKind.i64.wrap (y3+(1:Int))).toNat) (List.drop (Go.IntKind.i64.wrap (y3+(1:Int))).toNat y1.2.2.2.2)).length) y1.2.2.2.2)))))]),(.agg [(.int .i64 0),(.int .i64 0),(.int .i64 0),(.own qI ([])),(.int .i64 4),(.int .i64 0),(.int .i64 0),(.int .i64 0),(.int .i64 0),(.own qC ([]))]),(.int .i64 0)]))))))))))))))) else (bif x2.2.1==(4:Int) then ((chk (decide ((Bk.list x0).length<4611686018427387904)) (some (placeOf x0 x2.2.2.1))).bind (fun y2=>chk (decide ((0:Int)≤y2∧y2<(↑(x0.2.2.2.2.length):Int))) ((chk (pcsMem (Rs.pcs (rd qR x0.2.2.2.2 y2))) (some (grantR (rd qR x0.2.2.2.2 y2)))).bind (fun y3=>some (.tup [(.agg [(.int .i64 y1.1.1),(.own qL y1.1.2),(.int .i64 y1.2.1),(.int .i64 y1.2.2.1),(.int .i64 y1.2.2.2.1),(.own qR y1.2.2.2.2)]),(.agg [(.int .i64 y3.1.1),(.int .i64 y3.1.2),(.int .i64 y3.2.1.1),(.own qI y3.2.1.2),(.int .i64 y3.2.2.1),(.int .i64 y3.2.2.2.1),(.int .i64 y3.2.2.2.2.1),(.int .i64 y3.2.2.2.2.2.1),(.int .i64 y3.2.2.2.2.2.2.1),(.own qC y3.2.2.2.2.2.2.2)]),(.int .i64 0)]))))) else (bif x2.2.1==(5:Int) then ((chk (pcsSmall x0) (some (loadQ x0 x2.2.2.1 x2.1.1))).bind (fun y2=>some (.tup [(.agg [(.int .i64 y1.1.1),(.own qL y1.1.2),(.int .i64 y1.2.1),(.int .i64 y1.2.2.1),(.int .i64 y1.2.2.2.1),(.own qR y1.2.2.2.2)]),(.agg [(.int .i64 0),(.int .i64 0),(.int .i64 0),(.own qI ([])),(.int .i64 5),(.int .i64 0),(.int .i64 0),(.int .i64 0),(.int .i64 y2.1),(.own qC ([]))]),(.int .i64 0)]))) else (bif x2.2.1==(6:Int) then (f37d.l0 k k ((↑y1.2.2.2.2.length:Int)) 0 x2.1.1 y1.1.1 y1.2.1 y1.2.2.2.1 0 y1.1.2 y1.2.2.2.2) else ((chk (pcsSmall x0) (some (wishW x0 x2))).bind (fun y2=>(chk (decide (y2.2.2.2.2.2.2.length*40≤140737488355328)) (some (planW x0.1 ((y2.1,y2.2.1,y2.2.2.1,y2.2.2.2.1,y2.2.2.2.2.1,y2.2.2.2.2.2.1),y2.2.2.2.2.2.2)))).bind (fun y3=>bif decide ((↑y3.2.2.length:Int)>(0:Int)) then (both (both (both (some (.tup [(.agg [(.int .i64 y1.1.1),(.own qL y1.1.2),(.int .i64 y1.2.1),(.int .i64 y1.2.2.1),(.int .i64 y1.2.2.2.1),(.own qR y1.2.2.2.2)]),(.agg [(.int .i64 0),(.int .i64 0),(.int .i64 y3.2.1),(.own qI y3.2.2),(.int .i64 3),(.int .i64 0),(.int .i64 0),(.int .i64 0),(.int .i64 0),(.own qC ([]))]),(.int .i64 0)])) (some (.tup [(.agg [(.int .i64 y1.1.1),(.own qL y1.1.2),(.int .i64 y1.2.1),(.int .i64 y1.2.2.1),(.int .i64 y1.2.2.2.1),(.own qR y1.2.2.2.2)]),(.agg [(.int .i64 0),(.int .i64 0),(.int .i64 y3.2.1),(.own qI y3.2.2),(.int .i64 3),(.int .i64 0),(.int .i64 0),(.int .i64 0),(.int .i64 0),(.own qC ([]))]),(.int .i64 0)]))) (some (.tup [(.agg [(.int .i64 y1.1.1),(.own qL y1.1.2),(.int .i64 y1.2.1),(.int .i64 y1.2.2.1),(.int .i64 y1.2.2.2.1),(.own qR y1.2.2.2.2)]),(.agg [(.int .i64 0),(.int .i64 0),(.int .i64 y3.2.1),(.own qI y3.2.2),(.int .i64 3),(.int .i64 0),(.int .i64 0),(.int .i64 0),(.int .i64 0),(.own qC ([]))]),(.int .i64 0)]))) (both (both (some (.tup [(.agg [(.int .i64 y1.1.1),(.own qL y1.1.2),(.int .i64 y1.2.1),(.int .i64 y1.2.2.1),(.int .i64 y1.2.2.2.1),(.own qR y1.2.2.2.2)]),(.agg [(.int .i64 0),(.int .i64 0),(.int .i64 y3.2.1),(.own qI y3.2.2),(.int .i64 3),(.int .i64 0),(.int .i64 0),(.int .i64 0),(.int .i64 0),(.own qC ([]))]),(.int .i64 0)])) (some (.tup [(.agg [(.int .i64 y1.1.1),(.own qL y1.1.2),(.int .i64 y1.2.1),(.int .i64 y1.2.2.1),(.int .i64 y1.2.2.2.1),(.own qR y1.2.2.2.2)]),(.agg [(.int .i64 0),(.int .i64 0),(.int .i64 y3.2.1),(.own qI y3.2.2),(.int .i64 3),(.int .i64 0),(.int .i64 0),(.int .i64 0),(.int .i64 0),(.own qC ([]))]),(.int .i64 0)]))) (some (.tup [(.agg [(.int .i64 y1.1.1),(.own qL y1.1.2),(.int .i64 y1.2.1),(.int .i64 y1.2.2.1),(.int .i64 y1.2.2.2.1),(.own qR y1.2.2.2.2)]),(.agg [(.int .i64 0),(.int .i64 0),(.int .i64 y3.2.1),(.own qI y3.2.2),(.int .i64 3),(.int .i64 0),(.int .i64 0),(.int .i64 0),(.int .i64 0),(.own qC ([]))]),(.int .i64 0)])))) else ((chk (pcsSmall x0&&(bookMem x0&&(decide (y3.1.length<4611686018427387904)&&pcsMem y3.1))) (some (putQ x0 x1 x2 y3.1))).bind (fun y4=>some (.tup [(.agg [(.int .i64 y4.1.1.1),(.own qL y4.1.1.2),(.int .i64 y4.1.2.1),(.int .i64 y4.1.2.2.1),(.int .i64 y4.1.2.2.2.1),(.own qR y4.1.2.2.2.2)]),(.agg [(.int .i64 y4.2.1.1.1),(.int .i64 y4.2.1.1.2),(.int .i64 y4.2.1.2.1.1),(.own qI y4.2.1.2.1.2),(.int .i64 y4.2.1.2.2.1),(.int .i64 y4.2.1.2.2.2.1),(.int .i64 y4.2.1.2.2.2.2.1),(.int .i64 y4.2.1.2.2.2.2.2.1),(.int .i64 y4.2.1.2.2.2.2.2.2.1),(.own qC y4.2.1.2.2.2.2.2.2.2)]),(.int .i64 y4.2.2)]))))))))))))):=by kernel_rfl
theorem f37d.inl (k:Nat):InlOk Tryz.prog (f37d.E k):=(inl_cons (by kernel_rfl) (by kernel_rfl) (inl_cons (by kernel_rfl) (by kernel_rfl) (inl_cons (by kernel_rfl) (by kernel_rfl) (inl_cons (by kernel_rfl) (by kernel_rfl) (inl_cons (by kernel_rfl) (by kernel_rfl) inl_nil)))))
theorem f37d.sums (k:Nat):SumsOk Tryz.prog (f37d.E k):=(sums_cons ok34 (sums_cons ok41 (sums_cons ok95 (sums_cons ok97 (sums_cons ok98 (sums_cons ok99 (sums_cons ok101r (sums_cons ok102 sums_nil))))))))
end
section
@[reducible] noncomputable def dbl {R:Type} (x:Option R):Option R:=both x x
end
section
set_option maxRecDepth 100000
noncomputable def f37.E (k:Nat):Env:=mkEnv tt [(34,S34),(41,S41),(95,S95),(97,S97),(98,S98),(99,S99),(101,S101r),(102,S102)] [(96,Tryz.f96),(100,Tryz.f100),(162,Tryz.f162),(163,Tryz.f163),(158,Tryz.f158)] [(37,20,[.drop 63]),(162,5,[.kill (rg [(2,4),(7,41)]),.tidy,.tidy]),(158,2,[.kill (rg [(2,6),(9,18)]),.tidy,.tidy])] [(100,5568,(rg [(0,5),(8,86),(88,112)])),(162,262784,(rg [(0,1),(3,3),(5,9),(11,12)])),(158,524928,(rg [(2,9),(11,41)]))] k
noncomputable def f37.code:Go.Code:=cd Tryz.f37
noncomputable def f37.l0 (k n:Nat) (p0:Int) (p1:Int) (p2:Int) (p3:Int) (p4:Int) (p5:Int) (p6:Int) (p7:List (eL)) (p8:List (eR)):Option V :=
 atPath (f37.E k) n ⟨((.slw 563087396569456)::(.fn 163 [(.ptr 262336 (0) (0))])::.u::.u::.u::.u::.u::(.int .i64 p0)::(.int .i64 p1)::un 10),[((.slw 563087396569456)::(.fn 163 [(.ptr 262336 (0) (0))])::un 40),(.u::.u::(.ptr 2148007952 (0) (0))::.u::(.ptr 2148532240 (0) (0))::un 8),(.u::.u::.u::.u::.u::.u::(.ptr 3222798352 (0) (0))::(.ptr 3223060496 (0) (0))::un 105)],[(262336,.box [(.int .i64 p2)]),(2148007952,.box [(.int .i64 p3),(.slw 563087396569200),(.int .i64 p4),(.int .i64 p2),(.int .i64 p5),(.slw 563087396569456)]),(2148532240,.box [(.int .i64 p6),.nil,(.int .i64 p6),(.int .i64 p6),(.int .i64 p6),.nil]),(3222798352,.box [(.int .i64 p6),.nil,(.int .i64 p6),(.int .i64 p6),(.int .i64 p6),.nil]),(3223060496,.box [(.int .i64 p6),(.int .i64 p6),(.int .i64 p6),.nil,(.int .i64 p6),(.int .i64 p6),(.int .i64 p6),(.int .i64 p6),(.int .i64 p6),.nil]),(563087396569200,.row qL p7),(563087396569456,.row qR p8)]⟩ 9 0 37 [.c 1,.c 1,.c 1,.c 1,.c 1,.c 0,.c 1,.c 0,.c 1,.c 1,.c 1,.c 1,.c 1,.c 1,.c 1,.c 0,.c 0,.call 4 100,.c 1,.c 1,.c 0,.call 3 162,.c 1,.c 0,.call 2 158,.c 1,.c 0,.c 1,.c 0] [] f37.code (finK tt Tryz.f37)
noncomputable def f37.l1 (k n:Nat) (p0:Int) (p1:Int) (p2:Int) (p3:Int) (p4:Int) (p5:Int) (p6:Int) (p7:List (eL)) (p8:List (eR)):Option V :=
 atPath (f37.E k) n ⟨((.slw 281612419858800)::(.fn 163 [(.ptr 262336 (0) (0))])::.u::.u::.u::(.int .i64 p0)::(.int .i64 p1)::un 35),[(.u::.u::(.ptr 1074266128 (0) (0))::.u::(.ptr 1074790416 (0) (0))::un 8),(.u::.u::.u::.u::.u::.u::(.ptr 2149056528 (0) (0))::(.ptr 2149318672 (0) (0))::un 105)],[(262336,.box [(.int .i64 p2)]),(1074266128,.box [(.int .i64 p3),(.slw 281612419858544),(.int .i64 p4),(.int .i64 p2),(.int .i64 p5),(.slw 281612419858800)]),(1074790416,.box [(.int .i64 p6),.nil,(.int .i64 p6),(.int .i64 p6),(.int .i64 p6),.nil]),(2149056528,.box [(.int .i64 p6),.nil,(.int .i64 p6),(.int .i64 p6),(.int .i64 p6),.nil]),(2149318672,.box [(.int .i64 p6),(.int .i64 p6),(.int .i64 p6),.nil,(.int .i64 p6),(.int .i64 p6),(.int .i64 p6),(.int .i64 p6),(.int .i64 p6),.nil]),(281612419858544,.row qL p7),(281612419858800,.row qR p8)]⟩ 9 0 37 [.c 1,.c 1,.c 1,.c 1,.c 1,.c 0,.c 1,.c 0,.c 1,.c 1,.c 1,.c 1,.c 1,.c 1,.c 1,.c 0,.c 0,.call 4 100,.c 1,.c 1,.c 0,.call 3 162,.c 1,.c 1,.c 1,.c 0,.c 1,.c 0] [] f37.code (finK tt Tryz.f37)
theorem f37.l0_eq (k n:Nat) (p0:Int) (p1:Int) (p2:Int) (p3:Int) (p4:Int) (p5:Int) (p6:Int) (p7:List (eL)) (p8:List (eR)):f37.l0 k (n+1) p0 p1 p2 p3 p4 p5 p6 p7 p8 =
 bif decide (p1<p0) then (chk (decide ((0:Int)≤p1∧p1<(↑p8.length:Int))) (bif decide ((rd qR p8 (↑p1.toNat:Int)).1.2≤p2) then (bif p1==(-1:Int) then (some (.tup [(.agg [(.int .i64 p3),(.own qL p7),(.int .i64 p4),(.int .i64 p2),(.int .i64 p5),(.own qR p8)]),(.agg [(.int .i64 0),(.int .i64 0),(.int .i64 0),(.own qI ([])),(.int .i64 4),(.int .i64 0),(.int .i64 0),(.int .i64 0),(.int .i64 0),(.own qC ([]))]),(.int .i64 0)])) else (f37.l1 k k p1 (Go.IntKind.i64.wrap (p1+(1:Int))) p2 p3 p4 p5 p6 p7 p8)) else (f37.l0 k n p0 (Go.IntKind.i64.wrap (p1+(1:Int))) p2 p3 p4 p5 p6 p7 p8))) else (some (.tup [(.agg [(.int .i64 p3),(.own qL p7),(.int .i64 p4),(.int .i64 p2),(.int .i64 p5),(.own qR p8)]),(.agg [(.int .i64 0),(.int .i64 0),(.int .i64 0),(.own qI ([])),(.int .i64 4),(.int .i64 0),(.int .i64 0),(.int .i64 0),(.int .i64 0),(.own qC ([]))]),(.int .i64 0)])):=by kernel_rfl
theorem f37.l1_eq (k n:Nat) (p0:Int) (p1:Int) (p2:Int) (p3:Int) (p4:Int) (p5:Int) (p6:Int) (p7:List (eL)) (p8:List (eR)):f37.l1 k (n+1) p0 p1 p2 p3 p4 p5 p6 p7 p8 =
 bif decide (p1<(↑p8.length:Int)) then (chk (decide ((0:Int)≤p1∧p1<(↑p8.length:Int))) (bif !decide ((rd qR p8 (↑p1.toNat:Int)).1.2≤p2) then (chk (decide ((0:Int)≤p0∧p0<(↑p8.length:Int))) (f37.l1 k n (Go.IntKind.i64.wrap (p0+(1:Int))) (Go.IntKind.i64.wrap (p1+(1:Int))) p2 p3 p4 p5 p6 p7 (p8.set p0.toNat (rd qR p8 (↑p1.toNat:Int))))) else (f37.l1 k n p0 (Go.IntKind.i64.wrap (p1+(1:Int))) p2 p3 p4 p5 p6 p7 p8))) else (chk (decide ((0:Int)≤p0∧p0≤(↑p8.length:Int))) (chk (decide ((↑p8.length:Int)≤(↑p8.length:Int))) (chk (decide ((0:Int)≤(0:Int)∧(0:Int)≤p0)) (chk (decide (p0≤(↑(List.take p0.toNat p8++List.replicate ((↑p8.length:Int).toNat - p0.toNat) (dflt qR)++List.drop (p0.toNat+((↑p8.length:Int).toNat - p0.toNat)) p8).length:Int))) (some (.tup [(.agg [(.int .i64 p3),(.own qL p7),(.int .i64 p4),(.int .i64 p2),(.int .i64 p5),(.own qR (List.take (p0.toNat - 0) (List.drop 0 (List.take p0.toNat p8++List.replicate ((↑p8.length:Int).toNat - p0.toNat) (dflt qR)++List.drop (p0.toNat+((↑p8.length:Int).toNat - p0.toNat)) p8))))]),(.agg [(.int .i64 0),(.int .i64 0),(.int .i64 0),(.own qI ([])),(.int .i64 4),(.int .i64 0),(.int .i64 0),(.int .i64 0),(.int .i64 0),(.own qC ([]))]),(.int .i64 0)])))))):=by kernel_rfl
theorem f37.eq (k:Nat) (x0:(Int×List (eL)) ×
 Int×Int×Int×List (eR)) (x1:Int) (x2:(Int×Int)×Int×Int×eL):evFn (f37.E k) 9 37 Tryz.f37 (encL [(.pair (.pair qI (.list qL)) (.pair qI (.pair qI (.pair qI (.list qR))))),qI,(.pair qS (.pair qI (.pair qI qL)))] (x0,x1,x2)) =
 (chk (pcsSmall x0) (some (lookQ x0 x1 x2))).bind (fun y0=>bif y0.2 != (0:Int) then (some (.tup [(.agg [(.int .i64 0),(.own qL ([])),(.int .i64 0),(.int .i64 0),(.int .i64 0),(.own qR ([]))]),(.agg [(.int .i64 0),(.int .i64 0),(.int .i64 0),(.own qI ([])),(.int .i64 0),(.int .i64 0),(.int .i64 0),(.int .i64 0),(.int .i64 0),(.own qC ([]))]),(.int .i64 y0.2)])) else ((chk (bookMem x0) (some x0)).bind (fun y1=>bif y0.1 != (0:Int) then (some (.tup [(.agg [(.int .i64 y1.1.1),(.own qL y1.1.2),(.int .i64 y1.2.1),(.int .i64 y1.2.2.1),(.int .i64 y1.2.2.2.1),(.own qR y1.2.2.2.2)]),(.agg [(.int .i64 0),(.int .i64 0),(.int .i64 0),(.own qI ([])),(.int .i64 1),(.int .i64 y0.1),(.int .i64 0),(.int .i64 0),(.int .i64 0),(.own qC ([]))]),(.int .i64 0)])) else (bif x2.2.1==(3:Int) then ((chk (decide ((Bk.list x0).length<4611686018427387904)) (some (placeOf x0 x2.2.2.1))).bind (fun y2=>(chk (decide ((Bk.list x0).length<4611686018427387904)) (some (placeOf x0 x2.2.2.1))).bind (fun y3=>none))) else (bif x2.2.1==(4:Int) then ((chk (decide ((Bk.list x0).length<4611686018427387904)) (some (placeOf x0 x2.2.2.1))).bind (fun y2=>chk (decide ((0:Int)≤y2∧y2<(↑(x0.2.2.2.2.length):Int))) ((chk (pcsMem (Rs.pcs (rd qR x0.2.2.2.2 y2))) (some (grantR (rd qR x0.2.2.2.2 y2)))).bind (fun y3=>some (.tup [(.agg [(.int .i64 y1.1.1),(.own qL y1.1.2),(.int .i64 y1.2.1),(.int .i64 y1.2.2.1),(.int .i64 y1.2.2.2.1),(.own qR y1.2.2.2.2)]),(.agg [(.int .i64 y3.1.1),(.int .i64 y3.1.2),(.int .i64 y3.2.1.1),(.own qI y3.2.1.2),(.int .i64 y3.2.2.1),(.int .i64 y3.2.2.2.1),(.int .i64 y3.2.2.2.2.1),(.int .i64 y3.2.2.2.2.2.1),(.int .i64 y3.2.2.2.2.2.2.1),(.own qC y3.2.2.2.2.2.2.2)]),(.int .i64 0)]))))) else (bif x2.2.1==(5:Int) then ((chk (pcsSmall x0) (some (loadQ x0 x2.2.2.1 x2.1.1))).bind (fun y2=>some (.tup [(.agg [(.int .i64 y1.1.1),(.own qL y1.1.2),(.int .i64 y1.2.1),(.int .i64 y1.2.2.1),(.int .i64 y1.2.2.2.1),(.own qR y1.2.2.2.2)]),(.agg [(.int .i64 0),(.int .i64 0),(.int .i64 0),(.own qI ([])),(.int .i64 5),(.int .i64 0),(.int .i64 0),(.int .i64 0),(.int .i64 y2.1),(.own qC ([]))]),(.int .i64 0)]))) else (bif x2.2.1==(6:Int) then (f37.l0 k k ((↑y1.2.2.2.2.length:Int)) 0 x2.1.1 y1.1.1 y1.2.1 y1.2.2.2.1 0 y1.1.2 y1.2.2.2.2) else ((chk (pcsSmall x0) (some (wishW x0 x2))).bind (fun y2=>(chk (decide (y2.2.2.2.2.2.2.length*40≤140737488355328)) (some (planW x0.1 ((y2.1,y2.2.1,y2.2.2.1,y2.2.2.2.1,y2.2.2.2.2.1,y2.2.2.2.2.2.1),y2.2.2.2.2.2.2)))).bind (fun y3=>bif decide ((↑y3.2.2.length:Int)>(0:Int)) then (dbl (both (dbl (some (.tup [(.agg [(.int .i64 y1.1.1),(.own qL y1.1.2),(.int .i64 y1.2.1),(.int .i64 y1.2.2.1),(.int .i64 y1.2.2.2.1),(.own qR y1.2.2.2.2)]),(.agg [(.int .i64 0),(.int .i64 0),(.int .i64 y3.2.1),(.own qI y3.2.2),(.int .i64 3),(.int .i64 0),(.int .i64 0),(.int .i64 0),(.int .i64 0),(.own qC ([]))]),(.int .i64 0)]))) (some (.tup [(.agg [(.int .i64 y1.1.1),(.own qL y1.1.2),(.int .i64 y1.2.1),(.int .i64 y1.2.2.1),(.int .i64 y1.2.2.2.1),(.own qR y1.2.2.2.2)]),(.agg [(.int .i64 0),(.int .i64 0),(.int .i64 y3.2.1),(.own qI y3.2.2),(.int .i64 3),(.int .i64 0),(.int .i64 0),(.int .i64 0),(.int .i64 0),(.own qC ([]))]),(.int .i64 0)])))) else ((chk (pcsSmall x0&&(bookMem x0&&(decide (y3.1.length<4611686018427387904)&&pcsMem y3.1))) (some (putQ x0 x1 x2 y3.1))).bind (fun y4=>some (.tup [(.agg [(.int .i64 y4.1.1.1),(.own qL y4.1.1.2),(.int .i64 y4.1.2.1),(.int .i64 y4.1.2.2.1),(.int .i64 y4.1.2.2.2.1),(.own qR y4.1.2.2.2.2)]),(.agg [(.int .i64 y4.2.1.1.1),(.int .i64 y4.2.1.1.2),(.int .i64 y4.2.1.2.1.1),(.own qI y4.2.1.2.1.2),(.int .i64 y4.2.1.2.2.1),(.int .i64 y4.2.1.2.2.2.1),(.int .i64 y4.2.1.2.2.2.2.1),(.int .i64 y4.2.1.2.2.2.2.2.1),(.int .i64 y4.2.1.2.2.2.2.2.2.1),(.own qC y4.2.1.2.2.2.2.2.2.2)]),(.int .i64 y4.2.2)]))))))))))))):=by kernel_rfl
theorem f37.inl (k:Nat):InlOk Tryz.prog (f37.E k):=(inl_cons (by kernel_rfl) (by kernel_rfl) (inl_cons (by kernel_rfl) (by kernel_rfl) (inl_cons (by kernel_rfl) (by kernel_rfl) (inl_cons (by kernel_rfl) (by kernel_rfl) (inl_cons (by kernel_rfl) (by kernel_rfl) inl_nil)))))
theorem f37.sums (k:Nat):SumsOk Tryz.prog (f37.E k):=(sums_cons ok34 (sums_cons ok41 (sums_cons ok95 (sums_cons ok97 (sums_cons ok98 (sums_cons ok99 (sums_cons ok101r (sums_cons ok102 sums_nil))))))))
end
section
def doneR:Rp:=((0,0),(0,[]),4,0,0,0,0,[])
def toldR (v:Int):Rp:=((0,0),(0,[]),5,0,0,0,v,[])
def cutR' (c:Ct):Rp:=((0,0),c,3,0,0,0,0,[])
def goneB (now:Int) (r:Rs):Bool:=decide (r.1.2≤now)
def advB (b:Bk) (now:Int):Bk:=(b.1,b.2.1,now,b.2.2.2.1,b.2.2.2.2.filter fun r=>!goneB now r)
noncomputable def doQ (b:Bk) (o:Int) (q:Rq):Bk×(Rp×Int) :=
 bif (lookQ b o q).2 != 0 then (Bk.zero,Rp.zero,(lookQ b o q).2) else
 bif (lookQ b o q).1 != 0 then (b,codedOf (lookQ b o q).1,0) else
 bif q.2.1==3 then ((b.1,b.2.1,b.2.2.1,b.2.2.2.1,b.2.2.2.2.eraseIdx (placeOf b q.2.2.1).toNat),doneR,0) else
 bif q.2.1==4 then (b,grantR (rd tRs b.2.2.2.2 (placeOf b q.2.2.1)),0) else
 bif q.2.1==5 then (b,toldR (loadQ b q.2.2.1 q.1.1).1,0) else
 bif q.2.1==6 then (advB b q.1.1,doneR,0) else
 bif decide (((planW b.1 (wishQ b q)).2.2.length:Int)>0) then (b,cutR' (planW b.1 (wishQ b q)).2,0) else putQ b o q (planW b.1 (wishQ b q)).1
theorem f37.l1_is (k:Nat) (now v s x z:Int) (gl:List Lk) (rs:List Rs) (hl:rs.length<4611686018427387904):∀ (n i w:Nat) (row:List Rs),row.length=rs.length→i≤rs.length→rs.length<n+i→w<i→row.take w=(rs.take i).filter (fun r=>!goneB now r)→row.drop i=rs.drop i →
  f37.l1 k n w i now v s x z gl row=some (resBRE ((((v,gl),s,now,x,rs.filter fun r=>!goneB now r):Bk),doneR,0))
 |0,i,w,row,_,h,h',_,_,_=>by omega
 |n+1,i,w,row,e1,h,h',hw,e2,e3=>by
  rw [f37.l1_eq]
  by_cases hlt:i<rs.length
  ·have hx:row[i]? = some rs[i]:=by
    have:=congrArg List.head? e3
    rw [List.head?_drop,List.head?_drop] at this
    rw [this]
    exact gE hlt
   have hi:=idx_lt hx
   have hwl:w<row.length:=by omega
   have hcond:decide ((0:Int)≤(w:Int)∧(w:Int)<(row.length:Int))=true:=dT (by omega)
   have hd:row.drop (i+1)=rs.drop (i+1):=by rw [← List.drop_drop,e3,List.drop_drop]
   rw [idx_lt' hx,cT,idx_in hx,kT,Int.toNat_natCast,rd_some (t:=tRs) hx,wrap_succ (by omega),wrap_succ (by omega),hcond,kT,Int.toNat_natCast,
    show decide ((rs[i]).1.2≤now)=goneB now rs[i] from rfl]
   cases hg:goneB now rs[i] with
   |true =>
    rw [nT,cF]
    exact f37.l1_is k now v s x z gl rs hl n (i+1) w row e1 (by omega) (by omega) (by omega) (by
     rw [e2,List.take_succ_eq_append_getElem hlt,List.filter_append,List.filter_cons,hg]
     simp) hd
   |false =>
    rw [nF,cT]
    exact f37.l1_is k now v s x z gl rs hl n (i+1) (w+1) (row.set w rs[i]) (by rw [List.length_set];exact e1) (by omega) (by omega) (by omega) (by
     rw [List.take_succ_eq_append_getElem (by rw [List.length_set];exact hwl),List.take_set_of_le (Nat.le_refl w),List.getElem_set_self,e2,List.take_succ_eq_append_getElem hlt,List.filter_append,List.filter_cons,hg]
     simp) (by rw [List.drop_set_of_lt (by omega)];exact hd)
  ·obtain rfl:i=rs.length:=by omega
   have hle:w≤row.length:=by omega
   have e4:row.take w=rs.filter fun r=>!goneB now r:=by rw [e2,List.take_length]
   rw [show decide (((rs.length:Nat):Int)<(row.length:Int))=false from dF (by omega),cF,chk_eq (dT (by omega)),chk_eq (dT (by omega)),chk_eq (dT (by omega)),Int.toNat_natCast,Int.toNat_natCast]
   have e5:List.take (w - 0) (List.drop 0 (List.take w row++List.replicate (row.length - w) (dflt tRs)++List.drop (w+(row.length - w)) row))=rs.filter fun r=>!goneB now r:=by
    rw [Nat.sub_zero,List.drop_zero,List.append_assoc,List.take_append_of_le_length (by rw [List.length_take];omega),List.take_take,Nat.min_self,e4]
   rw [chk_eq (dT (by simp only [lA,List.length_take,List.length_replicate,List.length_drop];omega)),e5]
   rfl
theorem f37.l0_is (k:Nat) (now v s x z:Int) (gl:List Lk) (rs:List Rs) (hl:rs.length<4611686018427387904) (hk:rs.length<k):∀ (n i:Nat),i≤rs.length→rs.length<n+i→(∀ r∈rs.take i,goneB now r=false) →
  f37.l0 k n rs.length i now v s x z gl rs=some (resBRE ((((v,gl),s,now,x,rs.filter fun r=>!goneB now r):Bk),doneR,0))
 |0,i,h,h',_=>by omega
 |n+1,i,h,h',hall=>by
  rw [f37.l0_eq]
  by_cases hlt:i<rs.length
  ·have hx:=gE hlt
   rw [idx_lt' hx,cT,idx_in hx,kT,Int.toNat_natCast,rd_some (t:=tRs) hx,wrap_succ (by omega),show decide ((rs[i]).1.2≤now)=goneB now rs[i] from rfl,show ((i:Int) == -1)=false from beq_eq_false_iff_ne.2 (by omega),cF]
   cases hg:goneB now rs[i] with
   |true =>
    rw [cT]
    refine f37.l1_is k now v s x z gl rs hl k (i+1) i rs rfl (by omega) (by omega) (by omega) ?_ rfl
    rw [List.take_succ_eq_append_getElem hlt,List.filter_append,List.filter_cons,hg,List.filter_eq_self.2 fun r hr=>by rw [hall r hr];rfl]
    simp
   |false =>
    rw [cF]
    refine f37.l0_is k now v s x z gl rs hl hk n (i+1) (by omega) (by omega) fun r hr=>?_
    rw [List.take_succ_eq_append_getElem hlt] at hr
    rcases List.mem_append.1 hr with hr|hr
    ·exact hall r hr
    ·rw [List.mem_singleton.1 hr];exact hg
  ·obtain rfl:i=rs.length:=by omega
   rw [List.take_length] at hall
   rw [end_lt,cF,List.filter_eq_self.2 fun r hr=>by rw [hall r hr];rfl]
   rfl
theorem route_good (s:Int×Int) (d:Gr×(List Int×(Int×(Int×Int)))):cpPiece (s,(routeV d).1)=true:=by
 have h:=(routeV_is d).2
 unfold routeQ at h
 cases hf:routeForm d.1 d.2.1 d.2.2.1 d.2.2.2.1 d.2.2.2.2 with
 |false =>
  rw [hf,cF] at h
  rw [h]
  rfl
 |true =>
  rw [hf,cT] at h
  rcases h.2.either with ⟨_,h2,_⟩|⟨h2,_⟩
  ·exact may_piece s h2
  ·rw [h2];rfl
theorem planFrom_mem (g:Gr) (src dst want:Int):∀ (ss:List Sg) (out:List Pc),out.all cpPiece=true→(planFrom g src dst want ss out).1.all cpPiece=true∧(planFrom g src dst want ss out).1.length≤out.length+ss.length
 | [],out,h=>⟨h,by simp [planFrom]⟩
 |s::ss,out,h=>by
  unfold planFrom
  cases ((routeV (g,s.2,src,dst,want)).1.length:Int)==0 with
  |true=>rw [cT];exact ⟨rfl,Nat.zero_le _⟩
  |false =>
   rw [cF]
   have:=planFrom_mem g src dst want ss (out++[(s.1,(routeV (g,s.2,src,dst,want)).1)]) (by
    rw [List.all_append,h,List.all_cons,route_good]
    rfl)
   refine ⟨this.1,?_⟩
   have h2:=this.2
   rw [lA,List.length_singleton] at h2
   simp only [List.length_cons]
   omega
theorem planW_mem {g:Gr} {w:Wq} (h:w.2.length≤8):pcsMem (planW g w).1=true∧(planW g w).1.length≤8:=by
 obtain ⟨h1,h2⟩:=planFrom_mem g w.1.2.2.2.1 w.1.2.2.2.2.1 w.1.2.2.2.2.2 w.2 [] rfl
 have h3:(planW g w).1.length≤8:=by
  simp only [List.length_nil] at h2
  exact Nat.le_trans h2 (by omega)
 refine ⟨?_,h3⟩
 unfold pcsMem
 rw [show (planW g w).1.all cpPiece=true from h1,dT (by omega),Bool.and_self]
theorem own_place {b:Bk} {o id:Int} (h:ownCode b o id=0):0≤placeOf b id:=by
 rcases place_spec b id with ⟨h3,_⟩|⟨j,r,h3,h4,_⟩
 ·unfold ownCode at h
  rw [h3] at h
  exact absurd (show (5:Int)=0 from h) (by decide)
 ·omega
theorem look_code {b:Bk} {o:Int} {q:Rq} (h:(lookQ b o q).2=0) (h1:(lookQ b o q).1=0):codeOf b o q=0:=by
 obtain ⟨hb,ho,hq⟩:=look_book h
 unfold lookQ at h1
 rw [hb,hq,dF (by omega:¬ o<0),dF (by omega:¬ o ≥ 4)] at h1
 exact h1
theorem req_kind {q:Rq} (h:reqMay q=true):1≤q.2.1∧q.2.1≤6:=by
 unfold reqMay at h
 simp only [bA,dE] at h
 exact ⟨h.1,h.2.1⟩
theorem ask_few {b:Bk} {o:Int} {q:Rq} (h:(lookQ b o q).2=0) (h1:(lookQ b o q).1=0) (hk:q.2.1=1∨q.2.1=2):((slicesQ b q.1 q.2.2.1).1.length:Int)≤b.2.1:=by
 have hc:=look_code h h1
 have hf:fewSegs b q=true:=by
  cases hz:fewSegs b q with
  |true=>rfl
  |false =>
   unfold codeOf at hc
   rcases hk with hk|hk
   ·rw [show (q.2.1==1)=true by rw [hk];rfl,cT] at hc
    unfold codeR at hc
    rw [hz] at hc
    revert hc
    cases hasV b.1.1 q.2.2.2.1 <;> cases hasV b.1.1 q.2.2.2.2.1 <;> cases q.2.2.2.1==q.2.2.2.2.1 <;> cases inTime b q <;> cases q.2.2.2.2.2==0 <;> cases decide ((b.2.2.2.2.length:Int) ≥ 8) <;> cases decide (b.2.2.2.1>1048576) <;> intro hc <;> exact absurd hc (by simp)
   ·rw [show (q.2.1==1)=false by rw [hk];rfl,show (q.2.1==2)=true by rw [hk];rfl,cF,cT] at hc
    unfold codeM at hc
    rw [hz] at hc
    cases ho:ownCode b o q.2.2.1 != 0 with
    |true=>rw [ho,cT] at hc;simp [hc] at ho
    |false =>
     rw [ho,cF] at hc
     revert hc
     cases inTime b q <;> cases q.2.2.2.2.2==0 <;> intro hc <;> exact absurd hc (by simp)
 exact oD hf
theorem look_ids {b:Bk} {o:Int} {q:Rq} (h:(lookQ b o q).2=0) (h1:(lookQ b o q).1=0) (hk:q.2.1=3∨q.2.1=4):0≤placeOf b q.2.2.1:=by
 have hc:=look_code h h1
 unfold codeOf at hc
 refine own_place (o:=o) ?_
 rcases hk with hk|hk <;> (rw [hk] at hc;exact hc)
def relB (b:Bk) (o:Int) (q:Rq):Bool:=(lookQ b o q).2==0&&((lookQ b o q).1==0&&q.2.1==3)
noncomputable def S37:Summ:=summ [tBk,tI,tRq] (Bk×(Rp×Int)) (fun (d:Bk×(Int×Rq))=>chk (pcsSmall d.1&&(bookMem d.1 && !relB d.1 d.2.1 d.2.2)) (some (doQ d.1 d.2.1 d.2.2))) resBRE
theorem ok37:SumOk Tryz.prog 37 S37 :=
 sumq f37.E (fn:=Tryz.f37) (code:=f37.code) f37.sums f37.inl fun (d:Bk×(Int×Rq)) x hx=>by
  obtain ⟨b,o,q⟩:=d
  obtain ⟨hs,hx⟩:=chk_some hx
  obtain rfl:=oJ hx
  have hs:(pcsSmall b&&(bookMem b && !relB b o q))=true:=hs
  simp only [bA,Bool.not_eq_true'] at hs
  obtain ⟨h1,h2,h3⟩:=hs
  refine ⟨b.2.2.2.2.length+1,(f37.eq _ b o q).trans ?_⟩
  show _=some (resBRE (doQ b o q))
  unfold doQ
  rw [h1,kT,kT,bS,h2,kT,bS]
  cases hl:(lookQ b o q).2 != 0 with
  |true=>rfl
  |false =>
   rw [cF,cF]
   cases hc:(lookQ b o q).1 != 0 with
   |true=>rfl
   |false =>
    rw [cF,cF]
    have hl0:(lookQ b o q).2=0:=by simpa using hl
    have hc0:(lookQ b o q).1=0:=by simpa using hc
    obtain ⟨hb,ho,hq⟩:=look_book hl0
    have hf:=form_parts (book_ok hb).1.1
    have hf5:b.2.2.2.2.length≤8:=hf.2.2.2.2
    have hf2:1≤b.2.1∧b.2.1≤8:=hf.2.1
    have hbl:decide ((Bk.list b).length<4611686018427387904)=true:=dT (show b.2.2.2.2.length<_ by omega)
    have hkk:=req_kind hq
    cases k3:q.2.1==3 with
    |true =>
     unfold relB at h3
     rw [hl0,hc0,k3] at h3
     exact absurd h3 (by decide)
    |false =>
     rw [cF,cF]
     cases k4:q.2.1==4 with
     |true =>
      have hp:=look_ids hl0 hc0 (.inr (by simpa using k4))
      have hp2:=place_lt hp
      have hx:b.2.2.2.2[(placeOf b q.2.2.1).toNat]? = some b.2.2.2.2[(placeOf b q.2.2.1).toNat]:=gE (by omega)
      have hm:pcsMem (Rs.pcs (rd tRs b.2.2.2.2 (placeOf b q.2.2.1)))=true:=by
       have:=rd_some (t:=tRs) hx
       rw [Int.toNat_of_nonneg hp] at this
       rw [this]
       unfold bookMem at h2
       simp only [bA] at h2
       exact List.all_eq_true.1 h2.2.2 _ (List.mem_of_getElem? hx)
      rw [cT,cT,hbl,kT,bS,chk_eq (dT ⟨hp,hp2⟩),hm,kT,bS]
     |false =>
      rw [cF,cF]
      cases k5:q.2.1==5 with
      |true =>
       rw [cT,cT]
       rfl
      |false =>
       rw [cF,cF]
       cases k6:q.2.1==6 with
       |true =>
        rw [cT,cT]
        exact f37.l0_is _ q.1.1 b.1.1 b.2.1 b.2.2.2.1 0 b.1.2 b.2.2.2.2 (by omega) (by omega) _ 0 (by omega) (by omega) (by simp)
       |false =>
        have hk:q.2.1=1∨q.2.1=2:=by
         simp only [beq_eq_false_iff_ne,ne_eq] at k3 k4 k5 k6
         omega
        have hfew:=ask_few hl0 hc0 hk
        have h8:(wishQ b q).2.length≤8:=by
         show (slicesQ b q.1 q.2.2.1).1.length≤8
         omega
        obtain ⟨m1,m2⟩:=planW_mem (g:=b.1) h8
        rw [cF,cF,kT,bS,chk_eq (dT (show (wishW b q).2.2.2.2.2.2.length*40≤140737488355328 from by have:(wishW b q).2.2.2.2.2.2.length≤8:=h8;omega)),bS]
        show (bif decide (((planW b.1 (wishQ b q)).2.2.length:Int)>0) then _ else _)=_
        simp only [both_self]
        cases decide (((planW b.1 (wishQ b q)).2.2.length:Int)>0) with
        |true=>rfl
        |false =>
         have hw:(((wishW b q).1,(wishW b q).2.1,(wishW b q).2.2.1,(wishW b q).2.2.2.1,(wishW b q).2.2.2.2.1,(wishW b q).2.2.2.2.2.1),(wishW b q).2.2.2.2.2.2)=wishQ b q:=rfl
         rw [cF,cF,hw,chk_eq (show (true&&(true&&(decide ((planW b.1 (wishQ b q)).1.length<4611686018427387904)&&pcsMem (planW b.1 (wishQ b q)).1)))=true by rw [m1,dT (by omega)];rfl),bS]
end
section
theorem f37d.l1_is (k:Nat) (now v s x z:Int) (gl:List Lk) (rs:List Rs) (hl:rs.length<4611686018427387904):∀ (n i w:Nat) (row:List Rs),row.length=rs.length→i≤rs.length→rs.length<n+i→w<i→row.take w=(rs.take i).filter (fun r=>!goneB now r)→row.drop i=rs.drop i →
  f37d.l1 k n w i now v s x z gl row=some (resBRE ((((v,gl),s,now,x,rs.filter fun r=>!goneB now r):Bk),doneR,0))
 |0,i,w,row,_,h,h',_,_,_=>by omega
 |n+1,i,w,row,e1,h,h',hw,e2,e3=>by
  rw [f37d.l1_eq]
  by_cases hlt:i<rs.length
  ·have hx:row[i]? = some rs[i]:=by
    have:=congrArg List.head? e3
    rw [List.head?_drop,List.head?_drop] at this
    rw [this]
    exact gE hlt
   have hi:=idx_lt hx
   have hwl:w<row.length:=by omega
   have hcond:decide ((0:Int)≤(w:Int)∧(w:Int)<(row.length:Int))=true:=dT (by omega)
   have hd:row.drop (i+1)=rs.drop (i+1):=by rw [← List.drop_drop,e3,List.drop_drop]
   rw [idx_lt' hx,cT,idx_in hx,kT,Int.toNat_natCast,rd_some (t:=tRs) hx,wrap_succ (by omega),wrap_succ (by omega),hcond,kT,Int.toNat_natCast,
    show decide ((rs[i]).1.2≤now)=goneB now rs[i] from rfl]
   cases hg:goneB now rs[i] with
   |true =>
    rw [nT,cF]
    exact f37d.l1_is k now v s x z gl rs hl n (i+1) w row e1 (by omega) (by omega) (by omega) (by
     rw [e2,List.take_succ_eq_append_getElem hlt,List.filter_append,List.filter_cons,hg]
     simp) hd
   |false =>
    rw [nF,cT]
    exact f37d.l1_is k now v s x z gl rs hl n (i+1) (w+1) (row.set w rs[i]) (by rw [List.length_set];exact e1) (by omega) (by omega) (by omega) (by
     rw [List.take_succ_eq_append_getElem (by rw [List.length_set];exact hwl),List.take_set_of_le (Nat.le_refl w),List.getElem_set_self,e2,List.take_succ_eq_append_getElem hlt,List.filter_append,List.filter_cons,hg]
     simp) (by rw [List.drop_set_of_lt (by omega)];exact hd)
  ·obtain rfl:i=rs.length:=by omega
   have hle:w≤row.length:=by omega
   have e4:row.take w=rs.filter fun r=>!goneB now r:=by rw [e2,List.take_length]
   rw [show decide (((rs.length:Nat):Int)<(row.length:Int))=false from dF (by omega),cF,chk_eq (dT (by omega)),chk_eq (dT (by omega)),chk_eq (dT (by omega)),Int.toNat_natCast,Int.toNat_natCast]
   have e5:List.take (w - 0) (List.drop 0 (List.take w row++List.replicate (row.length - w) (dflt tRs)++List.drop (w+(row.length - w)) row))=rs.filter fun r=>!goneB now r:=by
    rw [Nat.sub_zero,List.drop_zero,List.append_assoc,List.take_append_of_le_length (by rw [List.length_take];omega),List.take_take,Nat.min_self,e4]
   rw [chk_eq (dT (by simp only [lA,List.length_take,List.length_replicate,List.length_drop];omega)),e5]
   rfl
theorem f37d.l0_is (k:Nat) (now v s x z:Int) (gl:List Lk) (rs:List Rs) (hl:rs.length<4611686018427387904) (hk:rs.length<k):∀ (n i:Nat),i≤rs.length→rs.length<n+i→(∀ r∈rs.take i,goneB now r=false) →
  f37d.l0 k n rs.length i now v s x z gl rs=some (resBRE ((((v,gl),s,now,x,rs.filter fun r=>!goneB now r):Bk),doneR,0))
 |0,i,h,h',_=>by omega
 |n+1,i,h,h',hall=>by
  rw [f37d.l0_eq]
  by_cases hlt:i<rs.length
  ·have hx:=gE hlt
   rw [idx_lt' hx,cT,idx_in hx,kT,Int.toNat_natCast,rd_some (t:=tRs) hx,wrap_succ (by omega),show decide ((rs[i]).1.2≤now)=goneB now rs[i] from rfl,show ((i:Int) == -1)=false from beq_eq_false_iff_ne.2 (by omega),cF]
   cases hg:goneB now rs[i] with
   |true =>
    rw [cT]
    refine f37d.l1_is k now v s x z gl rs hl k (i+1) i rs rfl (by omega) (by omega) (by omega) ?_ rfl
    rw [List.take_succ_eq_append_getElem hlt,List.filter_append,List.filter_cons,hg,List.filter_eq_self.2 fun r hr=>by rw [hall r hr];rfl]
    simp
   |false =>
    rw [cF]
    refine f37d.l0_is k now v s x z gl rs hl hk n (i+1) (by omega) (by omega) fun r hr=>?_
    rw [List.take_succ_eq_append_getElem hlt] at hr
    rcases List.mem_append.1 hr with hr|hr
    ·exact hall r hr
    ·rw [List.mem_singleton.1 hr];exact hg
  ·obtain rfl:i=rs.length:=by omega
   rw [List.take_length] at hall
   rw [end_lt,cF,List.filter_eq_self.2 fun r hr=>by rw [hall r hr];rfl]
   rfl
noncomputable def S37d:Summ:=summ [tBk,tI,tRq] (Bk×(Rp×Int)) (fun (d:Bk×(Int×Rq))=>chk (pcsSmall d.1&&bookMem d.1) (some (doQ d.1 d.2.1 d.2.2))) resBRE
theorem ok37d:SumOk Tryz.prog 37 S37d :=
 sum_k hmix f37d.E (fn:=Tryz.f37) (code:=f37d.code) (by kernel_rfl) (by kernel_rfl) (by kernel_rfl) (fun _=>ttOk) f37d.sums f37d.inl fun (d:Bk×(Int×Rq)) x hx=>by
  obtain ⟨b,o,q⟩:=d
  obtain ⟨hs,hx⟩:=chk_some hx
  obtain rfl:=oJ hx
  have hs:(pcsSmall b&&bookMem b)=true:=hs
  simp only [bA] at hs
  obtain ⟨h1,h2⟩:=hs
  refine ⟨b.2.2.2.2.length+1,(f37d.eq _ b o q).trans ?_⟩
  show _=some (resBRE (doQ b o q))
  unfold doQ
  rw [h1,kT,kT,bS,h2,kT,bS]
  cases hl:(lookQ b o q).2 != 0 with
  |true=>rfl
  |false =>
   rw [cF,cF]
   cases hc:(lookQ b o q).1 != 0 with
   |true=>rfl
   |false =>
    rw [cF,cF]
    have hl0:(lookQ b o q).2=0:=by simpa using hl
    have hc0:(lookQ b o q).1=0:=by simpa using hc
    obtain ⟨hb,ho,hq⟩:=look_book hl0
    have hf:=form_parts (book_ok hb).1.1
    have hf5:b.2.2.2.2.length≤8:=hf.2.2.2.2
    have hf2:1≤b.2.1∧b.2.1≤8:=hf.2.1
    have hbl:decide ((Bk.list b).length<4611686018427387904)=true:=dT (show b.2.2.2.2.length<_ by omega)
    have hkk:=req_kind hq
    cases k3:q.2.1==3 with
    |true =>
     have hp:=look_ids hl0 hc0 (.inl (by simpa using k3))
     have hp2:=place_lt hp
     obtain ⟨i,hi⟩:∃ i:Nat,placeOf b q.2.2.1=(i:Int):=⟨(placeOf b q.2.2.1).toNat,by omega⟩
     rw [hi] at hp2 ⊢
     have hil:i<b.2.2.2.2.length:=by omega
     have hx:List.take (b.2.2.2.2.length - (i+1)) (List.drop (i+1) b.2.2.2.2)=List.drop (i+1) b.2.2.2.2:=List.take_of_length_le (by rw [List.length_drop];omega)
     have hlen:(List.drop (i+1) b.2.2.2.2).length=b.2.2.2.2.length - (i+1):=List.length_drop
     rw [cT,cT,hbl,kT,bS,bS,wrap_succ (by omega)]
     simp only [Int.toNat_natCast,Nat.zero_add,Nat.sub_zero,hx,List.drop_zero,hlen]
     rw [chk_eq (dT (by omega)),chk_eq (dT (by omega)),chk_eq (dT (by omega)),show ((i:Int)==((i+1:Nat):Int))=false from beq_eq_false_iff_ne.2 (by omega),cF,
      chk_eq (dT (by omega)),chk_eq (dT (by omega)),chk_eq (dT (by omega)),chk_eq (dT (by omega)),chk_eq (dT (by omega)),chk_eq (dT (by omega)),
      chk_eq (dT (by simp only [lA,List.length_take,List.length_drop];omega))]
     have hfin:List.take (i+(b.2.2.2.2.length - (i+1))) (List.take (i+(b.2.2.2.2.length - (i+1))) (List.take i b.2.2.2.2++List.drop (i+1) b.2.2.2.2++List.drop (i+(b.2.2.2.2.length - (i+1))) b.2.2.2.2)++List.replicate (b.2.2.2.2.length - (i+(b.2.2.2.2.length - (i+1)))) (dflt tRs)++List.drop (i+(b.2.2.2.2.length - (i+1))+(b.2.2.2.2.length - (i+(b.2.2.2.2.length - (i+1))))) (List.take i b.2.2.2.2++List.drop (i+1) b.2.2.2.2++List.drop (i+(b.2.2.2.2.length - (i+1))) b.2.2.2.2))=b.2.2.2.2.eraseIdx i:=by
      have e1:(List.take i b.2.2.2.2++List.drop (i+1) b.2.2.2.2).length=i+(b.2.2.2.2.length - (i+1)):=by simp only [lA,List.length_take,List.length_drop];omega
      have e2:List.take (i+(b.2.2.2.2.length - (i+1))) (List.take i b.2.2.2.2++List.drop (i+1) b.2.2.2.2++List.drop (i+(b.2.2.2.2.length - (i+1))) b.2.2.2.2)=List.take i b.2.2.2.2++List.drop (i+1) b.2.2.2.2:=by
       rw [← e1,List.take_left']
       rfl
      rw [e2,List.append_assoc,← e1,List.take_left' rfl,List.eraseIdx_eq_take_drop_succ]
     rw [hfin]
     rfl
    |false =>
     rw [cF,cF]
     cases k4:q.2.1==4 with
     |true =>
      have hp:=look_ids hl0 hc0 (.inr (by simpa using k4))
      have hp2:=place_lt hp
      have hx:b.2.2.2.2[(placeOf b q.2.2.1).toNat]? = some b.2.2.2.2[(placeOf b q.2.2.1).toNat]:=gE (by omega)
      have hm:pcsMem (Rs.pcs (rd tRs b.2.2.2.2 (placeOf b q.2.2.1)))=true:=by
       have:=rd_some (t:=tRs) hx
       rw [Int.toNat_of_nonneg hp] at this
       rw [this]
       unfold bookMem at h2
       simp only [bA] at h2
       exact List.all_eq_true.1 h2.2.2 _ (List.mem_of_getElem? hx)
      rw [cT,cT,hbl,kT,bS,chk_eq (dT ⟨hp,hp2⟩),hm,kT,bS]
     |false =>
      rw [cF,cF]
      cases k5:q.2.1==5 with
      |true =>
       rw [cT,cT]
       rfl
      |false =>
       rw [cF,cF]
       cases k6:q.2.1==6 with
       |true =>
        rw [cT,cT]
        exact f37d.l0_is _ q.1.1 b.1.1 b.2.1 b.2.2.2.1 0 b.1.2 b.2.2.2.2 (by omega) (by omega) _ 0 (by omega) (by omega) (by simp)
       |false =>
        have hk:q.2.1=1∨q.2.1=2:=by
         simp only [beq_eq_false_iff_ne,ne_eq] at k3 k4 k5 k6
         omega
        have hfew:=ask_few hl0 hc0 hk
        have h8:(wishQ b q).2.length≤8:=by
         show (slicesQ b q.1 q.2.2.1).1.length≤8
         omega
        obtain ⟨m1,m2⟩:=planW_mem (g:=b.1) h8
        rw [cF,cF,kT,bS,chk_eq (dT (show (wishW b q).2.2.2.2.2.2.length*40≤140737488355328 from by have:(wishW b q).2.2.2.2.2.2.length≤8:=h8;omega)),bS]
        show (bif decide (((planW b.1 (wishQ b q)).2.2.length:Int)>0) then _ else _)=_
        simp only [both_self]
        cases decide (((planW b.1 (wishQ b q)).2.2.length:Int)>0) with
        |true=>rfl
        |false =>
         have hw:(((wishW b q).1,(wishW b q).2.1,(wishW b q).2.2.1,(wishW b q).2.2.2.1,(wishW b q).2.2.2.2.1,(wishW b q).2.2.2.2.2.1),(wishW b q).2.2.2.2.2.2)=wishQ b q:=rfl
         rw [cF,cF,hw,chk_eq (show (true&&(true&&(decide ((planW b.1 (wishQ b q)).1.length<4611686018427387904)&&pcsMem (planW b.1 (wishQ b q)).1)))=true by rw [m1,dT (by omega)];rfl),bS]
end
section
set_option maxRecDepth 100000
noncomputable def f38.E (k:Nat):Env:=mkEnv tt [(37,S37),(41,S41),(45,S45),(101,S101),(103,S103),(104,S104)] [] [] [] k
noncomputable def f38.code:Go.Code:=cd Tryz.f38
theorem f38.eq (k:Nat) (x0:(Int×List (eL)) ×
 Int×Int×Int×List (eR)) (x1:Int) (x2:(Int×Int)×Int×Int×eL) (x3:(Int×Int)×(eP)×Int×Int×Int×Int×Int×List (eC)):evFn (f38.E k) 9 38 Tryz.f38 (encL [(.pair (.pair qI (.list qL)) (.pair qI (.pair qI (.pair qI (.list qR))))),qI,(.pair qS (.pair qI (.pair qI qL))),(.pair qS (.pair qP (.pair qI (.pair qI (.pair qI (.pair qI (.pair qI (.list qC))))))))] (x0,x1,x2,x3)) =
 (chk (pcsSmall x0&&(bookMem x0 && !relB x0 x1 x2)) (some (doQ x0 x1 x2))).bind (fun y0=>bif y0.2.2 != (0:Int) then (some (.tup [(.agg [(.int .i64 0),(.own qL ([])),(.int .i64 0),(.int .i64 0),(.int .i64 0),(.own qR ([]))]),(.bool false),(.int .i64 y0.2.2)])) else ((chk (rpSmall y0.2.1) (some (sameRp y0.2.1 x3))).bind (fun y1=>bif asksB x2 then (bif y0.2.1.2.2.1 != (1:Int) then (bif x3.2.2.1==(2:Int) then ((chk (pcsSmall x0&&(bookMem x0&&(decide (x3.2.2.2.2.2.2.2.length<4611686018427387904)&&pcsMem x3.2.2.2.2.2.2.2))) (some (putQ x0 x1 x2 x3.2.2.2.2.2.2.2))).bind (fun y2=>bif y2.2.2==(0:Int) then ((chk (rpSmall y2.2.1) (some (sameRp y2.2.1 x3))).bind (fun y3=>bif !y3 then (some (.tup [(.agg [(.int .i64 0),(.own qL ([])),(.int .i64 0),(.int .i64 0),(.int .i64 0),(.own qR ([]))]),(.bool false),(.int .i64 0)])) else (some (.tup [(.agg [(.int .i64 y2.1.1.1),(.own qL y2.1.1.2),(.int .i64 y2.1.2.1),(.int .i64 y2.1.2.2.1),(.int .i64 y2.1.2.2.2.1),(.own qR y2.1.2.2.2.2)]),(.bool true),(.int .i64 0)])))) else (some (.tup [(.agg [(.int .i64 0),(.own qL ([])),(.int .i64 0),(.int .i64 0),(.int .i64 0),(.own qR ([]))]),(.bool false),(.int .i64 0)])))) else (bif x3.2.2.1==(3:Int) then ((chk (rpSmall x3) (some (sameRp x3 (((0:Int),(0:Int)),x3.2.1,(3:Int),(0:Int),(0:Int),(0:Int),(0:Int),[])))).bind (fun y2=>bif y2 then ((chk (pcsSmall x0) (some (wishW x0 x2))).bind (fun y3=>(chk (decide (x3.2.1.2.length<4611686018427387904)&&decide (y3.2.2.2.2.2.2.length<4611686018427387904)) (some (provenW x0.1 ((y3.1,y3.2.1,y3.2.2.1,y3.2.2.2.1,y3.2.2.2.2.1,y3.2.2.2.2.2.1),y3.2.2.2.2.2.2) x3.2.1))).bind (fun y4=>bif !y4 then (some (.tup [(.agg [(.int .i64 0),(.own qL ([])),(.int .i64 0),(.int .i64 0),(.int .i64 0),(.own qR ([]))]),(.bool false),(.int .i64 0)])) else (some (.tup [(.agg [(.int .i64 y0.1.1.1),(.own qL y0.1.1.2),(.int .i64 y0.1.2.1),(.int .i64 y0.1.2.2.1),(.int .i64 y0.1.2.2.2.1),(.own qR y0.1.2.2.2.2)]),(.bool true),(.int .i64 0)]))))) else (some (.tup [(.agg [(.int .i64 0),(.own qL ([])),(.int .i64 0),(.int .i64 0),(.int .i64 0),(.own qR ([]))]),(.bool false),(.int .i64 0)])))) else (bif !y1 then (some (.tup [(.agg [(.int .i64 0),(.own qL ([])),(.int .i64 0),(.int .i64 0),(.int .i64 0),(.own qR ([]))]),(.bool false),(.int .i64 0)])) else (some (.tup [(.agg [(.int .i64 y0.1.1.1),(.own qL y0.1.1.2),(.int .i64 y0.1.2.1),(.int .i64 y0.1.2.2.1),(.int .i64 y0.1.2.2.2.1),(.own qR y0.1.2.2.2.2)]),(.bool true),(.int .i64 0)]))))) else (bif !y1 then (some (.tup [(.agg [(.int .i64 0),(.own qL ([])),(.int .i64 0),(.int .i64 0),(.int .i64 0),(.own qR ([]))]),(.bool false),(.int .i64 0)])) else (some (.tup [(.agg [(.int .i64 y0.1.1.1),(.own qL y0.1.1.2),(.int .i64 y0.1.2.1),(.int .i64 y0.1.2.2.1),(.int .i64 y0.1.2.2.2.1),(.own qR y0.1.2.2.2.2)]),(.bool true),(.int .i64 0)])))) else (bif !y1 then (some (.tup [(.agg [(.int .i64 0),(.own qL ([])),(.int .i64 0),(.int .i64 0),(.int .i64 0),(.own qR ([]))]),(.bool false),(.int .i64 0)])) else (some (.tup [(.agg [(.int .i64 y0.1.1.1),(.own qL y0.1.1.2),(.int .i64 y0.1.2.1),(.int .i64 y0.1.2.2.1),(.int .i64 y0.1.2.2.2.1),(.own qR y0.1.2.2.2.2)]),(.bool true),(.int .i64 0)])))))):=by kernel_rfl
theorem f38.inl (k:Nat):InlOk Tryz.prog (f38.E k):=inl_nil
theorem f38.sums (k:Nat):SumsOk Tryz.prog (f38.E k):=(sums_cons ok37 (sums_cons ok41 (sums_cons ok45 (sums_cons ok101 (sums_cons ok103 (sums_cons ok104 sums_nil))))))
end
section
theorem rising_lenq {n:Int}:∀ {vs:List Int} {q:Int},q<n→risingB n (some q) vs=true→(vs.length:Int)≤n - 1 - q
 | [],q,h,_=>by simp only [List.length_nil];omega
 |v::vs,q,h,hr=>by
  simp only [risingB,hasV,bA,dE] at hr
  have:=rising_lenq (vs:=vs) hr.1.2 hr.2.2
  simp only [List.length_cons]
  omega
theorem cut_len {g:Gr} {src dst:Int} {vs:List Int} (h:cutMay g src dst vs=true):vs.length≤8:=by
 have h1:=(cutMay_parts h).1
 have hg:graphMay g=true:=by
  unfold cutMay at h
  simp only [bA] at h
  exact h.1.2
 unfold graphMay shapeB at hg
 simp only [bA,dE] at hg
 cases vs with
 |nil=>simp
 |cons v vs =>
  simp only [risingB,hasV,bA,dE] at h1
  have:=rising_lenq (vs:=vs) h1.1.2 h1.2.2
  simp only [List.length_cons]
  omega
theorem route_verts (d:Gr×(List Int×(Int×(Int×Int)))):(routeV d).2.1.length≤8:=by
 have h:=(routeV_is d).2
 unfold routeQ at h
 cases hf:routeForm d.1 d.2.1 d.2.2.1 d.2.2.2.1 d.2.2.2.2 with
 |false=>rw [hf,cF] at h;rw [h];simp
 |true =>
  rw [hf,cT] at h
  rcases h.2.either with ⟨h2,_⟩|⟨_,h2,_⟩
  ·rw [h2];simp
  ·exact cut_len h2
theorem planFrom_cut (g:Gr) (src dst want:Int):∀ (ss:List Sg) (out:List Pc),(planFrom g src dst want ss out).2.2.length≤8
 | [],out=>by simp [planFrom]
 |s::ss,out=>by
  unfold planFrom
  cases ((routeV (g,s.2,src,dst,want)).1.length:Int)==0 with
  |true=>rw [cT];exact route_verts _
  |false=>rw [cF];exact planFrom_cut g src dst want ss _
theorem mem_small {ps:List Pc} (h:pcsMem ps=true):smallPcs ps=true:=by
 unfold pcsMem at h
 simp only [bA,dE] at h
 unfold smallPcs
 rw [dT (by omega),tA]
 refine List.all_eq_true.2 fun p hp=>?_
 have:=List.all_eq_true.1 h.2 p hp
 unfold cpPiece at this
 simp only [bA,dE] at this
 unfold smallP
 rw [dT (by omega),tA]
 refine List.all_eq_true.2 fun w hw=>?_
 have:=List.all_eq_true.1 this.2 w hw
 unfold cpPath at this
 exact dT (by have:=oD this;omega)
theorem mem_smallR {r:Rp} (h:rpMem r=true):rpSmall r=true:=by
 unfold rpMem at h
 simp only [bA,dE] at h
 unfold rpSmall
 rw [dT (by omega),mem_small h.2]
 rfl
theorem grant_mem {r:Rs} (h:pcsMem r.pcs=true):rpMem (grantR r)=true:=by
 unfold rpMem
 show (decide (([]:List Int).length*8≤140737488355328)&&pcsMem r.pcs)=true
 rw [h]
 rfl
theorem putQ_mem {b:Bk} {o:Int} {q:Rq} {ps:List Pc} (h:pcsMem ps=true):rpMem (putQ b o q ps).2.1=true:=by
 unfold putQ
 cases asksB q with
 |false=>rfl
 |true =>
  cases passB b o q with
  |false=>rfl
  |true =>
   cases mayW b.1 (wishQ b q) ps with
   |false=>rfl
   |true =>
    cases fitsW b.1 (wishQ b q) ps with
    |false=>rfl
    |true =>
     cases q.2.1==1 with
     |true=>exact grant_mem (r:=putRes b o q ps b.2.2.2.1) h
     |false=>exact grant_mem (r:=putRes b o q ps q.2.2.1) h
theorem ask_kinds {b:Bk} {o:Int} {q:Rq} (hl:(lookQ b o q).2=0) (k3:(q.2.1==3)=false) (k4:(q.2.1==4)=false) (k5:(q.2.1==5)=false) (k6:(q.2.1==6)=false):q.2.1=1∨q.2.1=2:=by
 have:=req_kind (look_book hl).2.2
 simp only [beq_eq_false_iff_ne,ne_eq] at k3 k4 k5 k6
 omega
theorem wish_few {b:Bk} {o:Int} {q:Rq} (hl:(lookQ b o q).2=0) (hc:(lookQ b o q).1=0) (hk:q.2.1=1∨q.2.1=2):(wishQ b q).2.length≤8:=by
 have h1:=ask_few hl hc hk
 have hf:=form_parts (book_ok (look_book hl).1).1.1
 have hf2:1≤b.2.1∧b.2.1≤8:=hf.2.1
 show (slicesQ b q.1 q.2.2.1).1.length≤8
 omega
theorem do_mem {b:Bk} {o:Int} {q:Rq} (h2:bookMem b=true):rpMem (doQ b o q).2.1=true:=by
 unfold doQ
 cases hl:(lookQ b o q).2 != 0 with
 |true=>rfl
 |false =>
  cases hc:(lookQ b o q).1 != 0 with
  |true=>rfl
  |false =>
   have hl0:(lookQ b o q).2=0:=by simpa using hl
   have hc0:(lookQ b o q).1=0:=by simpa using hc
   cases k3:q.2.1==3 with
   |true=>rfl
   |false =>
    cases k4:q.2.1==4 with
    |true =>
     have hp:=look_ids hl0 hc0 (.inr (by simpa using k4))
     have hp2:=place_lt hp
     have hx:b.2.2.2.2[(placeOf b q.2.2.1).toNat]? = some b.2.2.2.2[(placeOf b q.2.2.1).toNat]:=gE (by omega)
     have hm:pcsMem (Rs.pcs (rd tRs b.2.2.2.2 (placeOf b q.2.2.1)))=true:=by
      have:=rd_some (t:=tRs) hx
      rw [Int.toNat_of_nonneg hp] at this
      rw [this]
      unfold bookMem at h2
      simp only [bA] at h2
      exact List.all_eq_true.1 h2.2.2 _ (List.mem_of_getElem? hx)
     exact grant_mem hm
    |false =>
     cases k5:q.2.1==5 with
     |true=>rfl
     |false =>
      cases k6:q.2.1==6 with
      |true=>rfl
      |false =>
       have h8:=wish_few hl0 hc0 (ask_kinds hl0 k3 k4 k5 k6)
       simp only [cF]
       cases decide (((planW b.1 (wishQ b q)).2.2.length:Int)>0) with
       |true =>
        rw [cT]
        have:(planW b.1 (wishQ b q)).2.2.length≤8:=planFrom_cut _ _ _ _ _ _
        unfold rpMem cutR'
        show (decide ((planW b.1 (wishQ b q)).2.2.length*8≤140737488355328)&&pcsMem [])=true
        rw [dT (by omega)]
        rfl
       |false =>
        rw [cF]
        exact putQ_mem (planW_mem h8).1
noncomputable def okAllow (b:Bk) (o:Int) (q:Rq) (r:Rp):Bool :=
 bif asksB q&&(doQ b o q).2.1.2.2.1 != 1 then
  (
   bif r.2.2.1==2 then (putQ b o q r.2.2.2.2.2.2.2).2.2==0&&sameRp (putQ b o q r.2.2.2.2.2.2.2).2.1 r else
   bif r.2.2.1==3 then sameRp r (cutR' r.2.1)&&provenW b.1 (wishQ b q) r.2.1 else sameRp (doQ b o q).2.1 r) else sameRp (doQ b o q).2.1 r
noncomputable def allowQ (b:Bk) (o:Int) (q:Rq) (r:Rp):Bk×(Bool×Int) :=
 bif (doQ b o q).2.2 != 0 then (Bk.zero,false,(doQ b o q).2.2) else bif !okAllow b o q r then (Bk.zero,false,0) else
 (bif asksB q&&((doQ b o q).2.1.2.2.1 != 1&&r.2.2.1==2) then (putQ b o q r.2.2.2.2.2.2.2).1 else (doQ b o q).1,true,0)
theorem do_ok {b:Bk} {o:Int} {q:Rq} (h:(doQ b o q).2.2=0):(lookQ b o q).2=0:=by
 cases hl:(lookQ b o q).2 != 0 with
 |true =>
  unfold doQ at h
  rw [hl,cT] at h
  exact h
 |false=>simpa using hl
theorem do_code {b:Bk} {o:Int} {q:Rq} (h:(doQ b o q).2.2=0) (h1:((doQ b o q).2.1.2.2.1 != 1)=true):(lookQ b o q).1=0:=by
 have h2:=do_ok h
 cases hc:(lookQ b o q).1 != 0 with
 |true =>
  unfold doQ at h1
  rw [show ((lookQ b o q).2 != 0)=false by rw [h2];rfl,hc,cF,cT] at h1
  simp [codedOf] at h1
 |false=>simpa using hc
theorem asks_kinds {q:Rq} (h:asksB q=true):q.2.1=1∨q.2.1=2:=by
 unfold asksB at h
 simpa using h
noncomputable def S38:Summ:=summ [tBk,tI,tRq,tRp] (Bk×(Bool×Int)) (fun (d:Bk×(Int×(Rq×Rp)))=>chk (pcsSmall d.1&&(bookMem d.1&&(!relB d.1 d.2.1 d.2.2.1&&rpMem d.2.2.2))) (some (allowQ d.1 d.2.1 d.2.2.1 d.2.2.2))) (fun x=>.tup [bookV x.1,.bool x.2.1,.int .i64 x.2.2])
theorem ok38:SumOk Tryz.prog 38 S38 :=
 sumq f38.E (fn:=Tryz.f38) (code:=f38.code) f38.sums f38.inl fun (d:Bk×(Int×(Rq×Rp))) x hx=>by
  obtain ⟨b,o,q,r⟩:=d
  obtain ⟨hs,hx⟩:=chk_some hx
  obtain rfl:=oJ hx
  have hs:(pcsSmall b&&(bookMem b&&(!relB b o q&&rpMem r)))=true:=hs
  simp only [bA] at hs
  obtain ⟨h1,h2,h3,h4⟩:=hs
  have h5:=mem_smallR h4
  have h6:r.2.1.2.length<4611686018427387904∧smallPcs r.2.2.2.2.2.2.2=true:=by
   unfold rpSmall at h5
   simpa only [bA,dE] using h5
  have h7:pcsMem r.2.2.2.2.2.2.2=true:=by
   unfold rpMem at h4
   simp only [bA] at h4
   exact h4.2
  have h8:r.2.2.2.2.2.2.2.length<4611686018427387904:=by
   have:=h6.2
   unfold smallPcs at this
   simp only [bA,dE] at this
   exact this.1
  have hd:=mem_smallR (do_mem (o:=o) (q:=q) h2)
  have hp:=mem_smallR (putQ_mem (b:=b) (o:=o) (q:=q) h7)
  refine ⟨0,(f38.eq _ b o q r).trans ?_⟩
  show _=some (V.tup [bookV (allowQ b o q r).1,.bool (allowQ b o q r).2.1,.int .i64 (allowQ b o q r).2.2])
  rw [h1,h2,h3,Bool.and_self,Bool.and_self,kT,bS,hd,kT,h7,dT h8,Bool.and_self,Bool.and_self,h5,kT,dT h6.1]
  unfold allowQ okAllow
  cases he:(doQ b o q).2.2 != 0 with
  |true=>rfl
  |false =>
   rw [cF,cF,bS]
   cases ha:asksB q with
   |false =>
    simp only [cF,fA]
    cases sameRp (doQ b o q).2.1 r <;> rfl
   |true =>
    simp only [cT,tA]
    cases hk:(doQ b o q).2.1.2.2.1 != 1 with
    |false =>
     simp only [cF,fA]
     cases sameRp (doQ b o q).2.1 r <;> rfl
    |true =>
     simp only [cT,tA]
     cases k2:r.2.2.1==2 with
     |true =>
      simp only [cT,kT,bS,hp]
      cases (putQ b o q r.2.2.2.2.2.2.2).2.2==0 with
      |false=>rfl
      |true=>cases sameRp (putQ b o q r.2.2.2.2.2.2.2).2.1 r <;> rfl
     |false =>
      simp only [cF]
      cases k3:r.2.2.1==3 with
      |false =>
       simp only [cF]
       cases sameRp (doQ b o q).2.1 r <;> rfl
      |true =>
       simp only [cT,bS]
       show (bif sameRp r (cutR' r.2.1) then _ else _)=_
       cases sameRp r (cutR' r.2.1) with
       |false=>rfl
       |true =>
        have he0:(doQ b o q).2.2=0:=by simpa using he
        have h9:=wish_few (do_ok he0) (do_code he0 hk) (asks_kinds ha)
        have hw:(((wishW b q).1,(wishW b q).2.1,(wishW b q).2.2.1,(wishW b q).2.2.2.1,(wishW b q).2.2.2.2.1,(wishW b q).2.2.2.2.2.1),(wishW b q).2.2.2.2.2.2)=wishQ b q:=rfl
        rw [cT,kT,bS,hw,dT (show (wishW b q).2.2.2.2.2.2.length<4611686018427387904 from by have:(wishW b q).2.2.2.2.2.2.length≤8:=h9;omega),kT,bS]
        cases provenW b.1 (wishQ b q) r.2.1 <;> rfl
end
section
set_option maxRecDepth 100000
noncomputable def f38d.E (k:Nat):Env:=mkEnv tt [(37,S37d),(41,S41),(45,S45),(101,S101),(103,S103),(104,S104)] [] [] [] k
noncomputable def f38d.code:Go.Code:=cd Tryz.f38
theorem f38d.eq (k:Nat) (x0:(Int×List (eL)) ×
 Int×Int×Int×List (eR)) (x1:Int) (x2:(Int×Int)×Int×Int×eL) (x3:(Int×Int)×(eP)×Int×Int×Int×Int×Int×List (eC)):evFn (f38d.E k) 9 38 Tryz.f38 [(.agg [(.int .i64 x0.1.1),(.ro qL x0.1.2),(.int .i64 x0.2.1),(.int .i64 x0.2.2.1),(.int .i64 x0.2.2.2.1),(.ro qR x0.2.2.2.2)]),(.int .i64 x1),(.agg [(.int .i64 x2.1.1),(.int .i64 x2.1.2),(.int .i64 x2.2.1),(.int .i64 x2.2.2.1),(.int .i64 x2.2.2.2.1),(.int .i64 x2.2.2.2.2.1),(.int .i64 x2.2.2.2.2.2)]),(.agg [(.int .i64 x3.1.1),(.int .i64 x3.1.2),(.int .i64 x3.2.1.1),(.ro qI x3.2.1.2),(.int .i64 x3.2.2.1),(.int .i64 x3.2.2.2.1),(.int .i64 x3.2.2.2.2.1),(.int .i64 x3.2.2.2.2.2.1),(.int .i64 x3.2.2.2.2.2.2.1),(.ro qC x3.2.2.2.2.2.2.2)])] =
 (chk (pcsSmall x0&&bookMem x0) (some (doQ x0 x1 x2))).bind (fun y0=>bif y0.2.2 != (0:Int) then (some (.tup [(.agg [(.int .i64 0),(.own qL ([])),(.int .i64 0),(.int .i64 0),(.int .i64 0),(.own qR ([]))]),(.bool false),(.int .i64 y0.2.2)])) else ((chk (rpSmall y0.2.1) (some (sameRp y0.2.1 x3))).bind (fun y1=>bif asksB x2 then (bif y0.2.1.2.2.1 != (1:Int) then (bif x3.2.2.1==(2:Int) then ((chk (pcsSmall x0&&(bookMem x0&&(decide (x3.2.2.2.2.2.2.2.length<4611686018427387904)&&pcsMem x3.2.2.2.2.2.2.2))) (some (putQ x0 x1 x2 x3.2.2.2.2.2.2.2))).bind (fun y2=>bif y2.2.2==(0:Int) then ((chk (rpSmall y2.2.1) (some (sameRp y2.2.1 x3))).bind (fun y3=>bif !y3 then (some (.tup [(.agg [(.int .i64 0),(.own qL ([])),(.int .i64 0),(.int .i64 0),(.int .i64 0),(.own qR ([]))]),(.bool false),(.int .i64 0)])) else (some (.tup [(.agg [(.int .i64 y2.1.1.1),(.own qL y2.1.1.2),(.int .i64 y2.1.2.1),(.int .i64 y2.1.2.2.1),(.int .i64 y2.1.2.2.2.1),(.own qR y2.1.2.2.2.2)]),(.bool true),(.int .i64 0)])))) else (some (.tup [(.agg [(.int .i64 0),(.own qL ([])),(.int .i64 0),(.int .i64 0),(.int .i64 0),(.own qR ([]))]),(.bool false),(.int .i64 0)])))) else (bif x3.2.2.1==(3:Int) then ((chk (rpSmall x3) (some (sameRp x3 (((0:Int),(0:Int)),x3.2.1,(3:Int),(0:Int),(0:Int),(0:Int),(0:Int),[])))).bind (fun y2=>bif y2 then ((chk (pcsSmall x0) (some (wishW x0 x2))).bind (fun y3=>(chk (decide (x3.2.1.2.length<4611686018427387904)&&decide (y3.2.2.2.2.2.2.length<4611686018427387904)) (some (provenW x0.1 ((y3.1,y3.2.1,y3.2.2.1,y3.2.2.2.1,y3.2.2.2.2.1,y3.2.2.2.2.2.1),y3.2.2.2.2.2.2) x3.2.1))).bind (fun y4=>bif !y4 then (some (.tup [(.agg [(.int .i64 0),(.own qL ([])),(.int .i64 0),(.int .i64 0),(.int .i64 0),(.own qR ([]))]),(.bool false),(.int .i64 0)])) else (some (.tup [(.agg [(.int .i64 y0.1.1.1),(.own qL y0.1.1.2),(.int .i64 y0.1.2.1),(.int .i64 y0.1.2.2.1),(.int .i64 y0.1.2.2.2.1),(.own qR y0.1.2.2.2.2)]),(.bool true),(.int .i64 0)]))))) else (some (.tup [(.agg [(.int .i64 0),(.own qL ([])),(.int .i64 0),(.int .i64 0),(.int .i64 0),(.own qR ([]))]),(.bool false),(.int .i64 0)])))) else (bif !y1 then (some (.tup [(.agg [(.int .i64 0),(.own qL ([])),(.int .i64 0),(.int .i64 0),(.int .i64 0),(.own qR ([]))]),(.bool false),(.int .i64 0)])) else (some (.tup [(.agg [(.int .i64 y0.1.1.1),(.own qL y0.1.1.2),(.int .i64 y0.1.2.1),(.int .i64 y0.1.2.2.1),(.int .i64 y0.1.2.2.2.1),(.own qR y0.1.2.2.2.2)]),(.bool true),(.int .i64 0)]))))) else (bif !y1 then (some (.tup [(.agg [(.int .i64 0),(.own qL ([])),(.int .i64 0),(.int .i64 0),(.int .i64 0),(.own qR ([]))]),(.bool false),(.int .i64 0)])) else (some (.tup [(.agg [(.int .i64 y0.1.1.1),(.own qL y0.1.1.2),(.int .i64 y0.1.2.1),(.int .i64 y0.1.2.2.1),(.int .i64 y0.1.2.2.2.1),(.own qR y0.1.2.2.2.2)]),(.bool true),(.int .i64 0)])))) else (bif !y1 then (some (.tup [(.agg [(.int .i64 0),(.own qL ([])),(.int .i64 0),(.int .i64 0),(.int .i64 0),(.own qR ([]))]),(.bool false),(.int .i64 0)])) else (some (.tup [(.agg [(.int .i64 y0.1.1.1),(.own qL y0.1.1.2),(.int .i64 y0.1.2.1),(.int .i64 y0.1.2.2.1),(.int .i64 y0.1.2.2.2.1),(.own qR y0.1.2.2.2.2)]),(.bool true),(.int .i64 0)])))))):=by kernel_rfl
theorem f38d.inl (k:Nat):InlOk Tryz.prog (f38d.E k):=inl_nil
theorem f38d.sums (k:Nat):SumsOk Tryz.prog (f38d.E k):=(sums_cons ok37d (sums_cons ok41 (sums_cons ok45 (sums_cons ok101 (sums_cons ok103 (sums_cons ok104 sums_nil))))))
end
section
noncomputable def S38d:Summ:=summ [tBk,tI,tRq,tRp] (Bk×(Bool×Int)) (fun (d:Bk×(Int×(Rq×Rp)))=>chk (pcsSmall d.1&&(bookMem d.1&&rpMem d.2.2.2)) (some (allowQ d.1 d.2.1 d.2.2.1 d.2.2.2))) (fun x=>.tup [bookV x.1,.bool x.2.1,.int .i64 x.2.2])
theorem ok38d:SumOk Tryz.prog 38 S38d :=
 sum_k hmix f38d.E (fn:=Tryz.f38) (code:=f38d.code) (by kernel_rfl) (by kernel_rfl) (by kernel_rfl) (fun _=>ttOk) f38d.sums f38d.inl fun (d:Bk×(Int×(Rq×Rp))) x hx=>by
  obtain ⟨b,o,q,r⟩:=d
  obtain ⟨hs,hx⟩:=chk_some hx
  obtain rfl:=oJ hx
  have hs:(pcsSmall b&&(bookMem b&&rpMem r))=true:=hs
  simp only [bA] at hs
  obtain ⟨h1,h2,h4⟩:=hs
  have h5:=mem_smallR h4
  have h6:r.2.1.2.length<4611686018427387904∧smallPcs r.2.2.2.2.2.2.2=true:=by
   unfold rpSmall at h5
   simpa only [bA,dE] using h5
  have h7:pcsMem r.2.2.2.2.2.2.2=true:=by
   unfold rpMem at h4
   simp only [bA] at h4
   exact h4.2
  have h8:r.2.2.2.2.2.2.2.length<4611686018427387904:=by
   have:=h6.2
   unfold smallPcs at this
   simp only [bA,dE] at this
   exact this.1
  have hd:=mem_smallR (do_mem (o:=o) (q:=q) h2)
  have hp:=mem_smallR (putQ_mem (b:=b) (o:=o) (q:=q) h7)
  refine ⟨0,(f38d.eq _ b o q r).trans ?_⟩
  show _=some (V.tup [bookV (allowQ b o q r).1,.bool (allowQ b o q r).2.1,.int .i64 (allowQ b o q r).2.2])
  rw [h1,h2,Bool.and_self,kT,bS,hd,kT,h7,dT h8,Bool.and_self,Bool.and_self,h5,kT,dT h6.1]
  unfold allowQ okAllow
  cases he:(doQ b o q).2.2 != 0 with
  |true=>rfl
  |false =>
   rw [cF,cF,bS]
   cases ha:asksB q with
   |false =>
    simp only [cF,fA]
    cases sameRp (doQ b o q).2.1 r <;> rfl
   |true =>
    simp only [cT,tA]
    cases hk:(doQ b o q).2.1.2.2.1 != 1 with
    |false =>
     simp only [cF,fA]
     cases sameRp (doQ b o q).2.1 r <;> rfl
    |true =>
     simp only [cT,tA]
     cases k2:r.2.2.1==2 with
     |true =>
      simp only [cT,kT,bS,hp]
      cases (putQ b o q r.2.2.2.2.2.2.2).2.2==0 with
      |false=>rfl
      |true=>cases sameRp (putQ b o q r.2.2.2.2.2.2.2).2.1 r <;> rfl
     |false =>
      simp only [cF]
      cases k3:r.2.2.1==3 with
      |false =>
       simp only [cF]
       cases sameRp (doQ b o q).2.1 r <;> rfl
      |true =>
       simp only [cT,bS]
       show (bif sameRp r (cutR' r.2.1) then _ else _)=_
       cases sameRp r (cutR' r.2.1) with
       |false=>rfl
       |true =>
        have he0:(doQ b o q).2.2=0:=by simpa using he
        have h9:=wish_few (do_ok he0) (do_code he0 hk) (asks_kinds ha)
        have hw:(((wishW b q).1,(wishW b q).2.1,(wishW b q).2.2.1,(wishW b q).2.2.2.1,(wishW b q).2.2.2.2.1,(wishW b q).2.2.2.2.2.1),(wishW b q).2.2.2.2.2.2)=wishQ b q:=rfl
        rw [cT,kT,bS,hw,dT (show (wishW b q).2.2.2.2.2.2.length<4611686018427387904 from by have:(wishW b q).2.2.2.2.2.2.length≤8:=h9;omega),kT,bS]
        cases provenW b.1 (wishQ b q) r.2.1 <;> rfl
end
section
set_option maxRecDepth 100000
noncomputable def f58.E (k:Nat):Env:=mkEnv tt [(117,S117)] [] [(58,9,[.kill (rg [(0,1),(4,5),(7,142)]),.tidy]),(58,4,[.kill (rg [(0,1),(4,4),(6,142)]),.tidy])] [] k
noncomputable def f58.code:Go.Code:=cd Tryz.f58
noncomputable def f58.l0 (k n:Nat) (p0:Int) (p1:Int) (p2:List (eL)) (p3:Int) (p4:Int) (p5:Int) (p6:List (eR)) (p7:Int) (p8:List (eL)) (p9:Int) (p10:Int) (p11:Int) (p12:List (eR)):Option V :=
 atPath (f58.E k) n ⟨(.u::.u::(.ptr 524304 (0) (0))::(.ptr 786448 (0) (0))::.u::(.int .i64 p0)::un 137),[],[(524304,.box [(.int .i64 p1),(.ro qL p2),(.int .i64 p3),(.int .i64 p4),(.int .i64 p5),(.ro qR p6)]),(786448,.box [(.int .i64 p7),(.ro qL p8),(.int .i64 p9),(.int .i64 p10),(.int .i64 p11),(.ro qR p12)])]⟩ 9 0 58 [.c 1,.c 1,.c 0,.c 1,.c 0] [] f58.code (finK tt Tryz.f58)
noncomputable def f58.l1 (k n:Nat) (p0:Int) (p1:Int) (p2:List (eL)) (p3:Int) (p4:Int) (p5:Int) (p6:List (eR)) (p7:Int) (p8:List (eL)) (p9:Int) (p10:Int) (p11:Int) (p12:List (eR)):Option V :=
 atPath (f58.E k) n ⟨(.u::.u::(.ptr 524304 (0) (0))::(.ptr 786448 (0) (0))::.u::.u::(.int .i64 p0)::un 136),[],[(524304,.box [(.int .i64 p1),(.ro qL p2),(.int .i64 p3),(.int .i64 p4),(.int .i64 p5),(.ro qR p6)]),(786448,.box [(.int .i64 p7),(.ro qL p8),(.int .i64 p9),(.int .i64 p10),(.int .i64 p11),(.ro qR p12)])]⟩ 9 0 58 [.c 1,.c 1,.c 1,.c 0,.c 1,.c 0] [] f58.code (finK tt Tryz.f58)
def ca:List Nat→Go.Code→Go.Code
 | [],c=>c
 |0::p,.seq a _=>ca p a
 |_::p,.seq _ b=>ca p b
 |_::p,.block _ x=>ca p x
 |_::p,.loop b=>ca p b
 |_,c=>c
noncomputable def f58.b2:Go.Code:=ca [1,1,1,0,1,0,0] f58.code
noncomputable def f58.mid:Go.Code:=ca [1,0] f58.b2
noncomputable def f58.ops:Array Go.Oper:=match ca [0,0] f58.mid with
 |.region _ o _=>o
 |_=>#[]
theorem f58.l0_eq (k n:Nat) (p0:Int) (p1:Int) (p2:List (eL)) (p3:Int) (p4:Int) (p5:Int) (p6:List (eR)) (p7:Int) (p8:List (eL)) (p9:Int) (p10:Int) (p11:Int) (p12:List (eR)):f58.l0 k (n+1) p0 p1 p2 p3 p4 p5 p6 p7 p8 p9 p10 p11 p12 =
 bif decide (p0<(↑p2.length:Int)) then (chk (decide ((0:Int)≤p0∧p0<(↑p2.length:Int))) (chk (decide ((0:Int)≤p0∧p0<(↑p8.length:Int))) (bif !((rd qL p2 p0).1==(rd qL p8 p0).1&&((rd qL p2 p0).2.1==(rd qL p8 p0).2.1&&((rd qL p2 p0).2.2==(rd qL p8 p0).2.2&&true))) then (some (.bool false)) else (f58.l0 k n (Go.IntKind.i64.wrap (p0+(1:Int))) p1 p2 p3 p4 p5 p6 p7 p8 p9 p10 p11 p12)))) else (f58.l1 k k 0 p1 p2 p3 p4 p5 p6 p7 p8 p9 p10 p11 p12):=by kernel_rfl
theorem f58.eq (k:Nat) (x0:(Int×List (eL)) ×
 Int×Int×Int×List (eR)) (x1:(Int×List (eL)) ×
 Int×Int×Int×List (eR)):evFn (f58.E k) 9 58 Tryz.f58 (encL [(.pair (.pair qI (.list qL)) (.pair qI (.pair qI (.pair qI (.list qR))))),(.pair (.pair qI (.list qL)) (.pair qI (.pair qI (.pair qI (.list qR)))))] (x0,x1)) =
 bif x0.1.1 != x1.1.1 then (some (.bool false)) else (bif (↑(x0.1.2.length):Int) != (↑(x1.1.2.length):Int) then (some (.bool false)) else (bif x0.2.1 != x1.2.1 then (some (.bool false)) else (bif x0.2.2.1 != x1.2.2.1 then (some (.bool false)) else (bif x0.2.2.2.1 != x1.2.2.2.1 then (some (.bool false)) else (bif (↑(x0.2.2.2.2.length):Int) != (↑(x1.2.2.2.2.length):Int) then (some (.bool false)) else (f58.l0 k k 0 x0.1.1 x0.1.2 x0.2.1 x0.2.2.1 x0.2.2.2.1 x0.2.2.2.2 x1.1.1 x1.1.2 x1.2.1 x1.2.2.1 x1.2.2.2.1 x1.2.2.2.2)))))):=by kernel_rfl
theorem f58.inl (k:Nat):InlOk Tryz.prog (f58.E k):=inl_nil
theorem f58.sums (k:Nat):SumsOk Tryz.prog (f58.E k):=(sums_cons ok117 sums_nil)
noncomputable def f93.E (k:Nat):Env:=mkEnv tt [(155,S155)] [] [] [] k
noncomputable def f93.code:Go.Code:=cd Tryz.f93
theorem f93.eq (k:Nat) (x0:(Int×Int)×(eP)×Int×Int×Int×Int×Int×List (eC)) (x1:(Int×Int)×(eP)×Int×Int×Int×Int×Int×List (eC)):evFn (f93.E k) 9 93 Tryz.f93 (encL [(.pair qS (.pair qP (.pair qI (.pair qI (.pair qI (.pair qI (.pair qI (.list qC)))))))),(.pair qS (.pair qP (.pair qI (.pair qI (.pair qI (.pair qI (.pair qI (.list qC))))))))] (x0,x1)) =
 (chk (rpSmall x0) (some (sameRp x0 x1))).bind (fun y0=>some (.bool y0)):=by kernel_rfl
theorem f93.inl (k:Nat):InlOk Tryz.prog (f93.E k):=inl_nil
theorem f93.sums (k:Nat):SumsOk Tryz.prog (f93.E k):=(sums_cons ok155 sums_nil)
end
section
set_option maxRecDepth 100000
@[reducible] noncomputable def f58.hd (p0:Int) (p1:Int) (p2:List (eL)) (p3:Int) (p4:Int) (p5:Int) (p6:List (eR)) (p7:Int) (p8:List (eL)) (p9:Int) (p10:Int) (p11:Int) (p12:List (eR)):St:=⟨(.u::.u::(.ptr 524304 (0) (0))::(.ptr 786448 (0) (0))::.u::.u::(.int .i64 p0)::un 136),[],[(524304,.box [(.int .i64 p1),(.ro qL p2),(.int .i64 p3),(.int .i64 p4),(.int .i64 p5),(.ro qR p6)]),(786448,.box [(.int .i64 p7),(.ro qL p8),(.int .i64 p9),(.int .i64 p10),(.int .i64 p11),(.ro qR p12)])]⟩
@[reducible] noncomputable def f58.s9 (p0:Int) (p1:Int) (p2:List (eL)) (p3:Int) (p4:Int) (p5:Int) (p6:List (eR)) (p7:Int) (p8:List (eL)) (p9:Int) (p10:Int) (p11:Int) (p12:List (eR)):St:=⟨(.u::.u::(.ptr 524304 (0) (0))::(.ptr 786448 (0) (0))::.u::.u::(.int .i64 p0)::.u::.u::.u::.u::.u::.u::.u::.u::.u::.u::.u::.u::.u::.u::.u::.u::.u::.u::.u::.u::.u::.u::.u::.u::.u::.u::.u::.u::.u::.u::.u::.u::.u::.u::.u::.u::.u::.u::.u::.u::.u::.u::.u::.u::.u::.u::.u::.u::.u::.u::.u::.u::.u::.u::.u::.u::.u::.u::.u::.u::.u::.u::.u::.u::.u::.u::.u::.u::.u::.u::.u::(.int .i64 p0)::(.ptr 524304 (0) (5))::(.ro qR p6)::(.int .i64 ((↑p6.length:Int)))::(.bool (decide (p0<(↑p6.length:Int))))::un 60),[],[(524304,.box [(.int .i64 p1),(.ro qL p2),(.int .i64 p3),(.int .i64 p4),(.int .i64 p5),(.ro qR p6)]),(786448,.box [(.int .i64 p7),(.ro qL p8),(.int .i64 p9),(.int .i64 p10),(.int .i64 p11),(.ro qR p12)])]⟩
@[reducible] noncomputable def f58.sa (p0:Int) (p1:Int) (p2:List (eL)) (p3:Int) (p4:Int) (p5:Int) (p6:List (eR)) (p7:Int) (p8:List (eL)) (p9:Int) (p10:Int) (p11:Int) (p12:List (eR)):St:=⟨(.u::.u::(.ptr 524304 (0) (0))::(.ptr 786448 (0) (0))::.u::.u::(.int .i64 p0)::(.ptr 448 (0) (0))::(.ptr 512 (0) (0))::.u::.u::.u::.u::.u::.u::.u::.u::.u::.u::.u::.u::.u::.u::.u::.u::.u::.u::.u::.u::.u::.u::.u::.u::.u::.u::.u::.u::.u::.u::.u::.u::.u::.u::.u::.u::.u::.u::.u::.u::.u::.u::.u::.u::.u::.u::.u::.u::.u::.u::.u::.u::.u::.u::.u::.u::.u::.u::.u::.u::.u::.u::.u::.u::.u::.u::.u::.u::.u::(.int .i64 p0)::(.ptr 524304 (0) (5))::(.ro qR p6)::(.int .i64 ((↑p6.length:Int)))::(.bool (decide (p0<(↑p6.length:Int))))::.u::.u::(.ptr 524304 (0) (5))::(.ro qR p6)::(.int .i64 p0)::(.rop [(.int .i64 ((rd qR p6 p0).1.1)),(.int .i64 ((rd qR p6 p0).1.2)),(.int .i64 ((rd qR p6 p0).2.1)),(.int .i64 ((rd qR p6 p0).2.2.1)),(.int .i64 ((rd qR p6 p0).2.2.2.1)),(.int .i64 ((rd qR p6 p0).2.2.2.2.1)),(.int .i64 ((rd qR p6 p0).2.2.2.2.2.1)),(.ro qC ((rd qR p6 p0).2.2.2.2.2.2))])::(.agg [(.int .i64 ((rd qR p6 p0).1.1)),(.int .i64 ((rd qR p6 p0).1.2)),(.int .i64 ((rd qR p6 p0).2.1)),(.int .i64 ((rd qR p6 p0).2.2.1)),(.int .i64 ((rd qR p6 p0).2.2.2.1)),(.int .i64 ((rd qR p6 p0).2.2.2.2.1)),(.int .i64 ((rd qR p6 p0).2.2.2.2.2.1)),(.ro qC ((rd qR p6 p0).2.2.2.2.2.2))])::(.ptr 786448 (0) (5))::(.ro qR p12)::(.int .i64 p0)::(.rop [(.int .i64 ((rd qR p12 p0).1.1)),(.int .i64 ((rd qR p12 p0).1.2)),(.int .i64 ((rd qR p12 p0).2.1)),(.int .i64 ((rd qR p12 p0).2.2.1)),(.int .i64 ((rd qR p12 p0).2.2.2.1)),(.int .i64 ((rd qR p12 p0).2.2.2.2.1)),(.int .i64 ((rd qR p12 p0).2.2.2.2.2.1)),(.ro qC ((rd qR p12 p0).2.2.2.2.2.2))])::(.agg [(.int .i64 ((rd qR p12 p0).1.1)),(.int .i64 ((rd qR p12 p0).1.2)),(.int .i64 ((rd qR p12 p0).2.1)),(.int .i64 ((rd qR p12 p0).2.2.1)),(.int .i64 ((rd qR p12 p0).2.2.2.1)),(.int .i64 ((rd qR p12 p0).2.2.2.2.1)),(.int .i64 ((rd qR p12 p0).2.2.2.2.2.1)),(.ro qC ((rd qR p12 p0).2.2.2.2.2.2))])::un 48),[],[(512,.box [(.int .i64 ((rd qR p12 p0).1.1)),(.int .i64 ((rd qR p12 p0).1.2)),(.int .i64 ((rd qR p12 p0).2.1)),(.int .i64 ((rd qR p12 p0).2.2.1)),(.int .i64 ((rd qR p12 p0).2.2.2.1)),(.int .i64 ((rd qR p12 p0).2.2.2.2.1)),(.int .i64 ((rd qR p12 p0).2.2.2.2.2.1)),(.ro qC ((rd qR p12 p0).2.2.2.2.2.2))]),(448,.box [(.int .i64 ((rd qR p6 p0).1.1)),(.int .i64 ((rd qR p6 p0).1.2)),(.int .i64 ((rd qR p6 p0).2.1)),(.int .i64 ((rd qR p6 p0).2.2.1)),(.int .i64 ((rd qR p6 p0).2.2.2.1)),(.int .i64 ((rd qR p6 p0).2.2.2.2.1)),(.int .i64 ((rd qR p6 p0).2.2.2.2.2.1)),(.ro qC ((rd qR p6 p0).2.2.2.2.2.2))]),(524304,.box [(.int .i64 p1),(.ro qL p2),(.int .i64 p3),(.int .i64 p4),(.int .i64 p5),(.ro qR p6)]),(786448,.box [(.int .i64 p7),(.ro qL p8),(.int .i64 p9),(.int .i64 p10),(.int .i64 p11),(.ro qR p12)])]⟩
@[reducible] noncomputable def f58.sb (p0:Int) (p1:Int) (p2:List (eL)) (p3:Int) (p4:Int) (p5:Int) (p6:List (eR)) (p7:Int) (p8:List (eL)) (p9:Int) (p10:Int) (p11:Int) (p12:List (eR)):St:=⟨(.u::.u::(.ptr 524304 (0) (0))::(.ptr 786448 (0) (0))::.u::.u::(.int .i64 p0)::(.ptr 448 (0) (0))::(.ptr 512 (0) (0))::.u::.u::.u::.u::.u::.u::.u::.u::.u::.u::.u::.u::.u::.u::.u::.u::.u::.u::.u::.u::.u::.u::.u::.u::.u::.u::.u::.u::.u::.u::.u::.u::.u::.u::.u::.u::.u::.u::.u::.u::.u::.u::.u::.u::.u::.u::.u::.u::.u::.u::.u::.u::.u::.u::.u::.u::.u::.u::.u::.u::.u::.u::.u::.u::.u::.u::.u::.u::.u::(.int .i64 p0)::(.ptr 524304 (0) (5))::(.ro qR p6)::(.int .i64 ((↑p6.length:Int)))::(.bool (decide (p0<(↑p6.length:Int))))::.u::.u::(.ptr 524304 (0) (5))::(.ro qR p6)::(.int .i64 p0)::(.rop [(.int .i64 ((rd qR p6 p0).1.1)),(.int .i64 ((rd qR p6 p0).1.2)),(.int .i64 ((rd qR p6 p0).2.1)),(.int .i64 ((rd qR p6 p0).2.2.1)),(.int .i64 ((rd qR p6 p0).2.2.2.1)),(.int .i64 ((rd qR p6 p0).2.2.2.2.1)),(.int .i64 ((rd qR p6 p0).2.2.2.2.2.1)),(.ro qC ((rd qR p6 p0).2.2.2.2.2.2))])::(.agg [(.int .i64 ((rd qR p6 p0).1.1)),(.int .i64 ((rd qR p6 p0).1.2)),(.int .i64 ((rd qR p6 p0).2.1)),(.int .i64 ((rd qR p6 p0).2.2.1)),(.int .i64 ((rd qR p6 p0).2.2.2.1)),(.int .i64 ((rd qR p6 p0).2.2.2.2.1)),(.int .i64 ((rd qR p6 p0).2.2.2.2.2.1)),(.ro qC ((rd qR p6 p0).2.2.2.2.2.2))])::(.ptr 786448 (0) (5))::(.ro qR p12)::(.int .i64 p0)::(.rop [(.int .i64 ((rd qR p12 p0).1.1)),(.int .i64 ((rd qR p12 p0).1.2)),(.int .i64 ((rd qR p12 p0).2.1)),(.int .i64 ((rd qR p12 p0).2.2.1)),(.int .i64 ((rd qR p12 p0).2.2.2.1)),(.int .i64 ((rd qR p12 p0).2.2.2.2.1)),(.int .i64 ((rd qR p12 p0).2.2.2.2.2.1)),(.ro qC ((rd qR p12 p0).2.2.2.2.2.2))])::(.agg [(.int .i64 ((rd qR p12 p0).1.1)),(.int .i64 ((rd qR p12 p0).1.2)),(.int .i64 ((rd qR p12 p0).2.1)),(.int .i64 ((rd qR p12 p0).2.2.1)),(.int .i64 ((rd qR p12 p0).2.2.2.1)),(.int .i64 ((rd qR p12 p0).2.2.2.2.1)),(.int .i64 ((rd qR p12 p0).2.2.2.2.2.1)),(.ro qC ((rd qR p12 p0).2.2.2.2.2.2))])::un 48),[],[(448,.box [(.int .i64 ((rd qR p6 p0).1.1)),(.int .i64 ((rd qR p6 p0).1.2)),(.int .i64 ((rd qR p6 p0).2.1)),(.int .i64 ((rd qR p6 p0).2.2.1)),(.int .i64 ((rd qR p6 p0).2.2.2.1)),(.int .i64 ((rd qR p6 p0).2.2.2.2.1)),(.int .i64 ((rd qR p6 p0).2.2.2.2.2.1)),(.ro qC ((rd qR p6 p0).2.2.2.2.2.2))]),(512,.box [(.int .i64 ((rd qR p12 p0).1.1)),(.int .i64 ((rd qR p12 p0).1.2)),(.int .i64 ((rd qR p12 p0).2.1)),(.int .i64 ((rd qR p12 p0).2.2.1)),(.int .i64 ((rd qR p12 p0).2.2.2.1)),(.int .i64 ((rd qR p12 p0).2.2.2.2.1)),(.int .i64 ((rd qR p12 p0).2.2.2.2.2.1)),(.ro qC ((rd qR p12 p0).2.2.2.2.2.2))]),(524304,.box [(.int .i64 p1),(.ro qL p2),(.int .i64 p3),(.int .i64 p4),(.int .i64 p5),(.ro qR p6)]),(786448,.box [(.int .i64 p7),(.ro qL p8),(.int .i64 p9),(.int .i64 p10),(.int .i64 p11),(.ro qR p12)])]⟩
noncomputable def f58.H (k:Nat):Handler V:=callD (f58.E k) 9 0
noncomputable def f58.Ko (k:Nat):Kl V:=blockK 2 (seqK (fun σ=>evCode (f58.E k) (f58.H k) 0 58 (ca [1,1,1,1] f58.code) σ (finK tt Tryz.f58)) (finK tt Tryz.f58))
noncomputable def f58.K1 (k n:Nat):Kl V:=seqK (fun σ=>atPath (f58.E k) n (doGhosts σ ((f58.E k).dirs 58 9)) 9 0 58 [.c 1,.c 1,.c 1,.c 0,.c 1,.c 0] [] f58.code (finK tt Tryz.f58)) (f58.Ko k)
theorem f58.l1_open (k n:Nat) (σ:St):atPath (f58.E k) (n+1) σ 9 0 58 [.c 1,.c 1,.c 1,.c 0,.c 1,.c 0] [] f58.code (finK tt Tryz.f58)=evCode (f58.E k) (f58.H k) 0 58 f58.b2 σ (f58.K1 k n):=by kernel_rfl
theorem f58.pre (k:Nat) (p0:Int) (p1:Int) (p2:List (eL)) (p3:Int) (p4:Int) (p5:Int) (p6:List (eR)) (p7:Int) (p8:List (eL)) (p9:Int) (p10:Int) (p11:Int) (p12:List (eR)) (H:Handler V) (K:Kl V):evCode (f58.E k) H 0 58 (ca [0] f58.b2) (f58.hd p0 p1 p2 p3 p4 p5 p6 p7 p8 p9 p10 p11 p12) K =
 bif decide (p0<(↑p6.length:Int)) then (K .normal (f58.s9 p0 p1 p2 p3 p4 p5 p6 p7 p8 p9 p10 p11 p12)) else (K (.exit 2) (f58.s9 p0 p1 p2 p3 p4 p5 p6 p7 p8 p9 p10 p11 p12)):=by kernel_rfl
noncomputable def f58.sk (c1 c2:Bool) (A B:Option V):Option V:=both (chk c1 (both (both (chk c2 (both (both A B) (both (both A (both A A)) (both B (both B B))))) (both (both (chk c2 (both A (both A A))) (both (chk c2 (both A A)) (chk c2 A))) (both (chk c2 (both B (both B B))) (both (chk c2 (both B B)) (chk c2 B))))) (both (chk c2 (both (both (both A B) (both (both A (both A A)) (both B (both B B)))) (both (both (both A B) (both (both A A) (both B B))) (both (both (both A (both A A)) (both (both A A) (both (both A A) A))) (both (both B (both B B)) (both (both B B) (both (both B B) B))))))) (both (both (both (chk c2 (both A (both A A))) (both (chk c2 (both A A)) (chk c2 A))) (both (chk c2 (both (both A (both A A)) (both (both A A) (both (both A A) A)))) (both (both (chk c2 (both A A)) (chk c2 A)) (chk c2 (both (both A A) A))))) (both (both (chk c2 (both B (both B B))) (both (chk c2 (both B B)) (chk c2 B))) (both (chk c2 (both (both B (both B B)) (both (both B B) (both (both B B) B)))) (both (both (chk c2 (both B B)) (chk c2 B)) (chk c2 (both (both B B) B))))))))) (both (chk c2 (both (chk c1 (both (both (both A B) (both (both A (both A A)) (both B (both B B)))) (both (both (both A B) (both (both A A) (both B B))) (both (both (both A (both A A)) (both (both A A) (both (both A A) A))) (both (both B (both B B)) (both (both B B) (both (both B B) B))))))) (both (both (chk c1 (both (both A B) (both (both A A) (both B B)))) (both (both (chk c1 (both A A)) (chk c1 A)) (both (chk c1 (both B B)) (chk c1 B)))) (both (both (chk c1 (both (both A (both A A)) (both (both A A) (both (both A A) A)))) (both (both (chk c1 (both A A)) (chk c1 A)) (both (chk c1 (both (both A A) A)) (chk c1 A)))) (both (chk c1 (both (both B (both B B)) (both (both B B) (both (both B B) B)))) (both (both (chk c1 (both B B)) (chk c1 B)) (both (chk c1 (both (both B B) B)) (chk c1 B)))))))) (both (both (chk c1 (both (both (chk c2 (both A (both A A))) (both (chk c2 (both A A)) (chk c2 A))) (both (chk c2 (both (both A (both A A)) (both (both A A) (both (both A A) A)))) (both (both (chk c2 (both A A)) (chk c2 A)) (chk c2 (both (both A A) A)))))) (both (chk c2 (both (chk c1 (both (both A (both A A)) (both (both A A) (both (both A A) A)))) (both (both (chk c1 (both A A)) (chk c1 A)) (both (chk c1 (both (both A A) A)) (chk c1 A))))) (both (chk c1 (both (both (chk c2 (both A A)) (chk c2 A)) (chk c2 (both (both A A) A)))) (chk c2 (both (chk c1 (both (both A A) A)) (chk c1 A)))))) (both (chk c1 (both (both (chk c2 (both B (both B B))) (both (chk c2 (both B B)) (chk c2 B))) (both (chk c2 (both (both B (both B B)) (both (both B B) (both (both B B) B)))) (both (both (chk c2 (both B B)) (chk c2 B)) (chk c2 (both (both B B) B)))))) (both (chk c2 (both (chk c1 (both (both B (both B B)) (both (both B B) (both (both B B) B)))) (both (both (chk c1 (both B B)) (chk c1 B)) (both (chk c1 (both (both B B) B)) (chk c1 B))))) (both (chk c1 (both (both (chk c2 (both B B)) (chk c2 B)) (chk c2 (both (both B B) B)))) (chk c2 (both (chk c1 (both (both B B) B)) (chk c1 B))))))))
theorem f58.sk_eq (c1 c2:Bool) (A:Option V):f58.sk c1 c2 A A=chk c1 (chk c2 A):=by
 unfold f58.sk
 cases c1 <;> cases c2 <;> simp only [both_self,chk,cond_true,cond_false]
theorem f58.r11 (k:Nat) (p0:Int) (p1:Int) (p2:List (eL)) (p3:Int) (p4:Int) (p5:Int) (p6:List (eR)) (p7:Int) (p8:List (eL)) (p9:Int) (p10:Int) (p11:Int) (p12:List (eR)) (H:Handler V) (K:St→Option V):evDraw (f58.E k) H 0 58 11 f58.ops (f58.s9 p0 p1 p2 p3 p4 p5 p6 p7 p8 p9 p10 p11 p12) K =
 f58.sk (decide ((0:Int)≤p0∧p0<(↑p6.length:Int))) (decide ((0:Int)≤p0∧p0<(↑p12.length:Int))) (K (f58.sa p0 p1 p2 p3 p4 p5 p6 p7 p8 p9 p10 p11 p12)) (K (f58.sb p0 p1 p2 p3 p4 p5 p6 p7 p8 p9 p10 p11 p12)):=by kernel_rfl
noncomputable def f58.K3 (k n:Nat):Kl V:=blockK 3 (seqK (fun σ=>evCode (f58.E k) (f58.H k) 0 58 (ca [1,1] f58.b2) σ (f58.K1 k n)) (f58.K1 k n))
theorem f58.body (k n:Nat) (σ:St):evCode (f58.E k) (f58.H k) 0 58 f58.b2 σ (f58.K1 k n)=evCode (f58.E k) (f58.H k) 0 58 (ca [0] f58.b2) σ (seqK (fun σ=>evDraw (f58.E k) (f58.H k) 0 58 11 f58.ops σ fun σ=>evCode (f58.E k) (f58.H k) 0 58 (ca [0,1] f58.mid) σ (f58.K3 k n)) (f58.K1 k n)):=by kernel_rfl
@[reducible] noncomputable def f58.leaf (k n:Nat) (p0:Int) (p1:Int) (p2:List (eL)) (p3:Int) (p4:Int) (p5:Int) (p6:List (eR)) (p7:Int) (p8:List (eL)) (p9:Int) (p10:Int) (p11:Int) (p12:List (eR)):Option V:=(bif !((rd qR p6 p0).1.1==(rd qR p12 p0).1.1&&((rd qR p6 p0).1.2==(rd qR p12 p0).1.2&&true)) then (some (.bool false)) else (bif (rd qR p6 p0).2.1 != (rd qR p12 p0).2.1 then (some (.bool false)) else (bif (rd qR p6 p0).2.2.1 != (rd qR p12 p0).2.2.1 then (some (.bool false)) else (bif (rd qR p6 p0).2.2.2.1 != (rd qR p12 p0).2.2.2.1 then (some (.bool false)) else (bif (rd qR p6 p0).2.2.2.2.1 != (rd qR p12 p0).2.2.2.2.1 then (some (.bool false)) else (bif (rd qR p6 p0).2.2.2.2.2.1 != (rd qR p12 p0).2.2.2.2.2.1 then (some (.bool false)) else ((chk (smallPcs (rd qR p6 p0).2.2.2.2.2.2) (some (samePcs (rd qR p6 p0).2.2.2.2.2.2 (rd qR p12 p0).2.2.2.2.2.2))).bind (fun y0=>bif !y0 then (some (.bool false)) else (f58.l1 k n (Go.IntKind.i64.wrap (p0+(1:Int))) p1 p2 p3 p4 p5 p6 p7 p8 p9 p10 p11 p12)))))))))
theorem f58.la (k n:Nat) (p0:Int) (p1:Int) (p2:List (eL)) (p3:Int) (p4:Int) (p5:Int) (p6:List (eR)) (p7:Int) (p8:List (eL)) (p9:Int) (p10:Int) (p11:Int) (p12:List (eR)):evCode (f58.E k) (f58.H k) 0 58 (ca [0,1] f58.mid) (f58.sa p0 p1 p2 p3 p4 p5 p6 p7 p8 p9 p10 p11 p12) (f58.K3 k n)=f58.leaf k n p0 p1 p2 p3 p4 p5 p6 p7 p8 p9 p10 p11 p12:=by kernel_rfl
theorem f58.lb (k n:Nat) (p0:Int) (p1:Int) (p2:List (eL)) (p3:Int) (p4:Int) (p5:Int) (p6:List (eR)) (p7:Int) (p8:List (eL)) (p9:Int) (p10:Int) (p11:Int) (p12:List (eR)):evCode (f58.E k) (f58.H k) 0 58 (ca [0,1] f58.mid) (f58.sb p0 p1 p2 p3 p4 p5 p6 p7 p8 p9 p10 p11 p12) (f58.K3 k n)=f58.leaf k n p0 p1 p2 p3 p4 p5 p6 p7 p8 p9 p10 p11 p12:=by kernel_rfl
theorem f58.out (k n:Nat) (p0:Int) (p1:Int) (p2:List (eL)) (p3:Int) (p4:Int) (p5:Int) (p6:List (eR)) (p7:Int) (p8:List (eL)) (p9:Int) (p10:Int) (p11:Int) (p12:List (eR)):f58.K1 k n (.exit 2) (f58.s9 p0 p1 p2 p3 p4 p5 p6 p7 p8 p9 p10 p11 p12)=some (.bool true):=by kernel_rfl
theorem f58.l1_eq (k n:Nat) (p0:Int) (p1:Int) (p2:List (eL)) (p3:Int) (p4:Int) (p5:Int) (p6:List (eR)) (p7:Int) (p8:List (eL)) (p9:Int) (p10:Int) (p11:Int) (p12:List (eR)):f58.l1 k (n+1) p0 p1 p2 p3 p4 p5 p6 p7 p8 p9 p10 p11 p12 =
 bif decide (p0<(↑p6.length:Int)) then (chk (decide ((0:Int)≤p0∧p0<(↑p6.length:Int))) (chk (decide ((0:Int)≤p0∧p0<(↑p12.length:Int))) (f58.leaf k n p0 p1 p2 p3 p4 p5 p6 p7 p8 p9 p10 p11 p12))) else (some (.bool true)):=by
 refine (f58.l1_open k n (f58.hd p0 p1 p2 p3 p4 p5 p6 p7 p8 p9 p10 p11 p12)).trans ?_
 rw [f58.body,f58.pre,← f58.sk_eq,← f58.out k n p0 p1 p2 p3 p4 p5 p6 p7 p8 p9 p10 p11 p12,← f58.la k n p0 p1 p2 p3 p4 p5 p6 p7 p8 p9 p10 p11 p12]
 have e:(seqK (fun σ=>evDraw (f58.E k) (f58.H k) 0 58 11 f58.ops σ fun σ=>evCode (f58.E k) (f58.H k) 0 58 (ca [0,1] f58.mid) σ (f58.K3 k n)) (f58.K1 k n)) .normal (f58.s9 p0 p1 p2 p3 p4 p5 p6 p7 p8 p9 p10 p11 p12)=f58.sk (decide ((0:Int)≤p0∧p0<(↑p6.length:Int))) (decide ((0:Int)≤p0∧p0<(↑p12.length:Int))) (evCode (f58.E k) (f58.H k) 0 58 (ca [0,1] f58.mid) (f58.sa p0 p1 p2 p3 p4 p5 p6 p7 p8 p9 p10 p11 p12) (f58.K3 k n)) (evCode (f58.E k) (f58.H k) 0 58 (ca [0,1] f58.mid) (f58.sa p0 p1 p2 p3 p4 p5 p6 p7 p8 p9 p10 p11 p12) (f58.K3 k n)):=by
  refine (f58.r11 k p0 p1 p2 p3 p4 p5 p6 p7 p8 p9 p10 p11 p12 (f58.H k) _).trans ?_
  rw [f58.la,f58.lb]
 rw [e]
 rfl
end
section
def eqRs (x y:Rs):Bool:=eqSp x.1 y.1&&(x.2.1==y.2.1&&(x.2.2.1==y.2.2.1&&(x.2.2.2.1==y.2.2.2.1&&(x.2.2.2.2.1==y.2.2.2.2.1&&(x.2.2.2.2.2.1==y.2.2.2.2.2.1&&samePcs x.2.2.2.2.2.2 y.2.2.2.2.2.2)))))
def sameBk (a b:Bk):Bool:=a.1.1==b.1.1&&(sameB a.1.2 b.1.2&&(a.2.1==b.2.1&&(a.2.2.1==b.2.2.1&&(a.2.2.2.1==b.2.2.2.1&&(a.2.2.2.2.length==b.2.2.2.2.length&&(a.2.2.2.2.zip b.2.2.2.2).all fun x=>eqRs x.1 x.2)))))
def smallBk (b:Bk):Bool:=decide (b.1.2.length<4611686018427387904)&&(decide (b.2.2.2.2.length<4611686018427387904)&&b.2.2.2.2.all fun r=>smallPcs r.2.2.2.2.2.2)
theorem f58.l1_is (k n:Nat) (a b:Bk) (hl:a.2.2.2.2.length=b.2.2.2.2.length) (hb:a.2.2.2.2.length<4611686018427387904) (hs:(a.2.2.2.2.all fun r=>smallPcs r.2.2.2.2.2.2)=true) (hn:a.2.2.2.2.length<n) :
  f58.l1 k n 0 a.1.1 a.1.2 a.2.1 a.2.2.1 a.2.2.2.1 a.2.2.2.2 b.1.1 b.1.2 b.2.1 b.2.2.1 b.2.2.2.1 b.2.2.2.2=some (.bool ((a.2.2.2.2.zip b.2.2.2.2).all fun x=>eqRs x.1 x.2)):=by
 have hz:(a.2.2.2.2.zip b.2.2.2.2).length=a.2.2.2.2.length:=by simp [hl]
 have:=loop_any0 (fun n i=>f58.l1 k n (i:Nat) a.1.1 a.1.2 a.2.1 a.2.2.1 a.2.2.2.1 a.2.2.2.2 b.1.1 b.1.2 b.2.1 b.2.2.1 b.2.2.2.1 b.2.2.2.2) (a.2.2.2.2.zip b.2.2.2.2) (fun x=>!eqRs x.1 x.2) (some (.bool false)) (some (.bool true)) (fun n i x hx=>by
  obtain ⟨h1,h2⟩:=zip_get hx
  have:=idx_lt h1
  have h3:=List.all_eq_true.1 hs x.1 (List.mem_of_getElem? h1)
  rw [f58.l1_eq]
  unfold f58.leaf
  rw [idx_lt' h1,idx_in h1,idx_in h2,cT,kT,kT,rd_some (t:=tRs) h1,rd_some (t:=tRs) h2,wrap_succ (by omega),h3,kT,bS]
  show (bif !eqSp x.1.1 x.2.1 then _ else _)=_
  unfold eqRs
  simp only [bne]
  cases eqSp x.1.1 x.2.1 <;> cases x.1.2.1==x.2.2.1 <;> cases x.1.2.2.1==x.2.2.2.1 <;> cases x.1.2.2.2.1==x.2.2.2.2.1 <;> cases x.1.2.2.2.2.1==x.2.2.2.2.2.1 <;> cases x.1.2.2.2.2.2.1==x.2.2.2.2.2.2.1 <;> simp only [nT,nF,cT,cF,tA,fA]) (fun n=>by rw [hz,f58.l1_eq,end_lt,cF]) (n:=n) (by omega)
 refine this.trans ?_
 rw [any_notq fun x:Rs×Rs=>eqRs x.1 x.2]
 cases (a.2.2.2.2.zip b.2.2.2.2).all _ <;> rfl
noncomputable def S58:Summ:=summ [tBk,tBk] Bool (fun (d:Bk×Bk)=>chk (smallBk d.1) (some (sameBk d.1 d.2))) .bool
theorem ok58:SumOk Tryz.prog 58 S58 :=
 sumq f58.E (fn:=Tryz.f58) (code:=f58.code) f58.sums f58.inl fun (d:Bk×Bk) x hx=>by
  obtain ⟨a,b⟩:=d
  obtain ⟨hs,hx⟩:=chk_some hx
  obtain rfl:=oJ hx
  have hs:smallBk a=true:=hs
  unfold smallBk at hs
  simp only [bA,dE] at hs
  obtain ⟨h1,h2,h3⟩:=hs
  refine ⟨a.1.2.length+a.2.2.2.2.length+1,(f58.eq _ a b).trans ?_⟩
  show _=some (V.bool (sameBk a b))
  unfold sameBk
  simp only [bne]
  cases a.1.1==b.1.1 with
  |false=>rfl
  |true =>
   by_cases hl:a.1.2.length=b.1.2.length
   ·rw [show ((↑(List.length a.1.2):Int)==(↑(List.length b.1.2):Int))=true by simp [hl]]
    cases a.2.1==b.2.1 with
    |false=>simp only [nT,nF,cT,cF,tA,fA,Bool.and_false]
    |true =>
     cases a.2.2.1==b.2.2.1 with
     |false=>simp only [nT,nF,cT,cF,tA,fA,Bool.and_false]
     |true =>
      cases a.2.2.2.1==b.2.2.2.1 with
      |false=>simp only [nT,nF,cT,cF,tA,fA,Bool.and_false]
      |true =>
       by_cases hl2:a.2.2.2.2.length=b.2.2.2.2.length
       ·rw [show ((↑(List.length a.2.2.2.2):Int)==(↑(List.length b.2.2.2.2):Int))=true by simp [hl2],show (a.2.2.2.2.length==b.2.2.2.2.length)=true by simp [hl2]]
        simp only [nT,cF,tA]
        have hz:(a.1.2.zip b.1.2).length=a.1.2.length:=by simp [hl]
        have:=loop_any0 (fun n i=>f58.l0 (a.1.2.length+a.2.2.2.2.length+1) n (i:Nat) a.1.1 a.1.2 a.2.1 a.2.2.1 a.2.2.2.1 a.2.2.2.2 b.1.1 b.1.2 b.2.1 b.2.2.1 b.2.2.2.1 b.2.2.2.2) (a.1.2.zip b.1.2) (fun x=>x.1 != x.2) (some (.bool false))
         (some (.bool ((a.2.2.2.2.zip b.2.2.2.2).all fun x=>eqRs x.1 x.2))) (fun n i x hx=>by
          obtain ⟨ha,hb⟩:=zip_get hx
          have:=idx_lt ha
          rw [f58.l0_eq,idx_lt' ha,cT,idx_in ha,kT,idx_in hb,kT,rd_some (t:=tLk) ha,rd_some (t:=tLk) hb,wrap_succ (by omega),Bool.and_true]
          rfl) (fun n=>by
          rw [hz,f58.l0_eq,end_lt,cF]
          exact f58.l1_is _ _ a b hl2 h2 h3 (by omega)) (n:=a.1.2.length+a.2.2.2.2.length+1) (by omega)
        refine this.trans ?_
        rw [any_zip_ne hl]
        unfold sameB
        cases a.1.2==b.1.2 <;> rfl
       ·rw [show ((↑(List.length a.2.2.2.2):Int)==(↑(List.length b.2.2.2.2):Int))=false from beq_eq_false_iff_ne.2 (by omega),show (a.2.2.2.2.length==b.2.2.2.2.length)=false by simp [hl2]]
        simp only [nT,nF,cT,cF,tA,fA,Bool.and_false]
   ·rw [show ((↑(List.length a.1.2):Int)==(↑(List.length b.1.2):Int))=false from beq_eq_false_iff_ne.2 (by omega),sameB_ne fun hh=>hl (by rw [hh])]
    simp only [nT,nF,cT,cF,tA,fA,Bool.and_false]
noncomputable def S93:Summ:=S155
theorem ok93:SumOk Tryz.prog 93 S93 :=
 sumq f93.E (fn:=Tryz.f93) (code:=f93.code) f93.sums f93.inl fun (d:Rp×Rp) x hx=>by
  obtain ⟨a,b⟩:=d
  obtain ⟨hs,hx⟩:=chk_some hx
  obtain rfl:=oJ hx
  have hs:rpSmall a=true:=hs
  exact ⟨0,(f93.eq 0 a b).trans (by rw [hs,kT,bS])⟩
noncomputable def S91r:Summ:=summ [] Bk (fun _=>some townB) bookR
theorem ok91r:SumOk Tryz.prog 91 S91r:=SumOk.ro (fun _=>rfl) ok91
@[reducible] def rpR (r:Rp):V:=.agg [.int .i64 r.1.1,.int .i64 r.1.2,.int .i64 r.2.1.1,.ro tI r.2.1.2,.int .i64 r.2.2.1,.int .i64 r.2.2.2.1,.int .i64 r.2.2.2.2.1,.int .i64 r.2.2.2.2.2.1,.int .i64 r.2.2.2.2.2.2.1,.ro tPc r.2.2.2.2.2.2.2]
noncomputable def S37r:Summ:=summ [tBk,tI,tRq] (Bk×(Rp×Int)) (fun (d:Bk×(Int×Rq))=>chk (pcsSmall d.1&&(bookMem d.1 && !relB d.1 d.2.1 d.2.2)) (some (doQ d.1 d.2.1 d.2.2))) (fun x=>.tup [bookR x.1,rpR x.2.1,.int .i64 x.2.2])
theorem ok37r:SumOk Tryz.prog 37 S37r:=SumOk.ro (fun _=>rfl) ok37
noncomputable def S38r:Summ:=summ [tBk,tI,tRq,tRp] (Bk×(Bool×Int)) (fun (d:Bk×(Int×(Rq×Rp)))=>chk (pcsSmall d.1&&(bookMem d.1&&(!relB d.1 d.2.1 d.2.2.1&&rpMem d.2.2.2))) (some (allowQ d.1 d.2.1 d.2.2.1 d.2.2.2))) (fun x=>.tup [bookR x.1,.bool x.2.1,.int .i64 x.2.2])
theorem ok38r:SumOk Tryz.prog 38 S38r:=SumOk.ro (fun _=>rfl) ok38
noncomputable def S41r:Summ:=summ [tBk,tI,tRq,.list tPc] (Bk×(Rp×Int)) (fun (d:Bk×(Int×(Rq×List Pc)))=>chk (pcsSmall d.1&&(bookMem d.1&&(decide (d.2.2.2.length<4611686018427387904)&&pcsMem d.2.2.2))) (some (putQ d.1 d.2.1 d.2.2.1 d.2.2.2))) (fun x=>.tup [bookR x.1,rpR x.2.1,.int .i64 x.2.2])
theorem ok41r:SumOk Tryz.prog 41 S41r:=SumOk.ro (fun _=>rfl) ok41
end
section
set_option maxRecDepth 100000
noncomputable def f19.E (k:Nat):Env:=mkEnv tt [(58,S58)] [] [] [] k
noncomputable def f19.code:Go.Code:=cd Tryz.f19
theorem f19.eq (k:Nat) (x0:(Int×List (eL)) ×
 Int×Int×Int×List (eR)) (x1:(Int×List (eL)) ×
 Int×Int×Int×List (eR)):evFn (f19.E k) 9 19 Tryz.f19 (encL [(.pair (.pair qI (.list qL)) (.pair qI (.pair qI (.pair qI (.list qR))))),(.pair (.pair qI (.list qL)) (.pair qI (.pair qI (.pair qI (.list qR)))))] (x0,x1)) =
 (chk (smallBk x0) (some (sameBk x0 x1))).bind (fun y0=>some (.bool y0)):=by kernel_rfl
theorem f19.inl (k:Nat):InlOk Tryz.prog (f19.E k):=inl_nil
theorem f19.sums (k:Nat):SumsOk Tryz.prog (f19.E k):=(sums_cons ok58 sums_nil)
end
section
noncomputable def S19:Summ:=S58
theorem ok19:SumOk Tryz.prog 19 S19 :=
 sumq f19.E (fn:=Tryz.f19) (code:=f19.code) f19.sums f19.inl fun (d:Bk×Bk) x hx=>by
  obtain ⟨a,b⟩:=d
  obtain ⟨hs,hx⟩:=chk_some hx
  obtain rfl:=oJ hx
  have hs:smallBk a=true:=hs
  exact ⟨0,(f19.eq 0 a b).trans (by rw [hs,kT,bS])⟩
end
section
set_option maxRecDepth 100000
set_option linter.unusedVariables false
end
section
theorem code_parts {b:Bk} {o:Int} {q:Rq} (hl:(lookQ b o q).2=0) (hc:(lookQ b o q).1=0) (ha:asksB q=true) :
  spanMay q.1=true∧(q.2.2.2.2.2==0)=false∧(q.2.1=1→hasV b.1.1 q.2.2.2.1=true∧hasV b.1.1 q.2.2.2.2.1=true∧(q.2.2.2.1==q.2.2.2.2.1)=false)∧(q.2.1=2→0≤placeOf b q.2.2.1):=by
 have h:=look_code hl hc
 have hsp:inTime b q=true→spanMay q.1=true:=by
  intro ht
  unfold inTime at ht
  revert ht
  cases spanMay q.1 <;> simp
 unfold codeOf at h
 rcases asks_kinds ha with hk|hk
 ·rw [show (q.2.1==1)=true by rw [hk];rfl,cT] at h
  unfold codeR at h
  cases h1:hasV b.1.1 q.2.2.2.1 with
  |false=>rw [h1] at h;exact absurd h (by simp)
  |true =>
   cases h2:hasV b.1.1 q.2.2.2.2.1 with
   |false=>rw [h1,h2] at h;exact absurd h (by simp)
   |true =>
    cases h3:q.2.2.2.1==q.2.2.2.2.1 with
    |true=>rw [h1,h2,h3] at h;exact absurd h (by simp)
    |false =>
     cases h4:inTime b q with
     |false=>rw [h1,h2,h3,h4] at h;exact absurd h (by simp)
     |true =>
      cases h5:q.2.2.2.2.2==0 with
      |true=>rw [h1,h2,h3,h4,h5] at h;exact absurd h (by simp)
      |false=>exact ⟨hsp h4,rfl,fun _=>⟨rfl,rfl,rfl⟩,fun e=>by rw [hk] at e;exact absurd e (by decide)⟩
 ·rw [show (q.2.1==1)=false by rw [hk];rfl,show (q.2.1==2)=true by rw [hk];rfl,cF,cT] at h
  unfold codeM at h
  cases ho:ownCode b o q.2.2.1 != 0 with
  |true=>rw [ho,cT] at h;simp [h] at ho
  |false =>
   rw [ho,cF] at h
   cases h4:inTime b q with
   |false=>rw [h4] at h;exact absurd h (by simp)
   |true =>
    cases h5:q.2.2.2.2.2==0 with
    |true=>rw [h4,h5] at h;exact absurd h (by simp)
    |false=>exact ⟨hsp h4,rfl,fun e=>by rw [hk] at e;exact absurd e (by decide),fun _=>own_place (o:=o) (by simpa using ho)⟩
end
section
set_option maxRecDepth 100000
set_option linter.unusedVariables false
end
section
theorem sz_pcs {ps:List Pc} (h:SzD (.list tPc') ps):pcsMem ps=true∧smallPcs ps=true:=by
 obtain ⟨h1,h2⟩:=h
 have h1:ps.length*40≤reachBytes:=h1
 simp only [reachBytes] at h1
 have h3:∀ p∈ps,p.2.length*32≤140737488351232∧∀ w∈p.2,w.2.length*8≤140737488351232:=by
  intro p hp
  obtain ⟨_,h4,h5⟩:=h2 p hp
  exact ⟨h4,fun w hw=>(h5 w hw).2.1⟩
 unfold pcsMem smallPcs
 rw [dT (by omega),dT (by omega),tA,tA]
 constructor
 ·refine List.all_eq_true.2 fun p hp=>?_
  obtain ⟨h4,h5⟩:=h3 p hp
  unfold cpPiece
  rw [dT (by omega),tA]
  refine List.all_eq_true.2 fun w hw=>?_
  have:=h5 w hw
  unfold cpPath
  exact dT (by omega)
 ·refine List.all_eq_true.2 fun p hp=>?_
  obtain ⟨h4,h5⟩:=h3 p hp
  unfold smallP
  rw [dT (by omega),tA]
  refine List.all_eq_true.2 fun w hw=>?_
  have:=h5 w hw
  exact dT (by omega)
end
section
theorem sz_book {b:Bk} (h:SzD tBk b):pcsSmall b=true:=by
 obtain ⟨_,_,_,_,_,h2⟩:=h
 refine List.all_eq_true.2 fun r hr=>?_
 obtain ⟨_,_,_,_,_,_,h3,_⟩:=h2 r hr
 have h3:r.2.2.2.2.2.2.length*40≤reachBytes:=h3
 simp only [reachBytes] at h3
 exact dT (by unfold Rs.pcs;omega)
end
section
theorem sameRp_self (a:Rp):sameRp a a=true:=by
 unfold sameRp
 rw [eqSp_self,sameB_self,samePcs_self]
 simp only [beq_self_eq_true,Bool.and_self]
theorem eqRs_self (a:Rs):eqRs a a=true:=by
 unfold eqRs
 rw [eqSp_self,samePcs_self]
 simp only [beq_self_eq_true,Bool.and_self]
theorem sameBk_self (a:Bk):sameBk a a=true:=by
 unfold sameBk
 rw [sameB_self,zip_self eqRs_self]
 simp only [beq_self_eq_true,Bool.and_self]
theorem do_asks {b:Bk} {o:Int} {q:Rq} (hl:(lookQ b o q).2=0) (hc:(lookQ b o q).1=0) (ha:asksB q=true) :
  doQ b o q=bif decide (((planW b.1 (wishQ b q)).2.2.length:Int)>0) then (b,cutR' (planW b.1 (wishQ b q)).2,0) else putQ b o q (planW b.1 (wishQ b q)).1:=by
 unfold doQ
 have hk:=asks_kinds ha
 rw [hl,hc,show (q.2.1==3)=false from beq_eq_false_iff_ne.2 (by omega),show (q.2.1==4)=false from beq_eq_false_iff_ne.2 (by omega),show (q.2.1==5)=false from beq_eq_false_iff_ne.2 (by omega),show (q.2.1==6)=false from beq_eq_false_iff_ne.2 (by omega)]
 rfl
theorem cut_end {b:Bk} {o:Int} {q:Rq} {c:Ct} (hl:(lookQ b o q).2=0) (hc:(lookQ b o q).1=0) (ha:asksB q=true) (hp:(planW b.1 (wishQ b q)).2=c) (hv:0<c.2.length) (hpr:provenW b.1 (wishQ b q) c=true) :
  allowQ b o q ((0,0),c,3,0,0,0,0,[])=(b,true,0):=by
 have hd:=do_asks hl hc ha
 rw [hp,dT (show ((c.2.length:Int)>0) by omega),cT] at hd
 unfold allowQ okAllow
 rw [hd,ha]
 simp only [hpr,cutR',sameRp_self]
 rfl
theorem sz_bookMem {b:Bk} (h:SzD tBk b):bookMem b=true:=by
 obtain ⟨⟨_,h1,_⟩,_,_,_,h3,h2⟩:=h
 have h1:b.1.2.length*24≤reachBytes:=h1
 have h3:b.2.2.2.2.length*80≤reachBytes:=h3
 simp only [reachBytes] at h1 h3
 unfold bookMem
 rw [dT (by omega),dT (by omega),tA,tA]
 refine List.all_eq_true.2 fun r hr=>?_
 obtain ⟨_,_,_,_,_,_,h4⟩:=h2 r hr
 exact (sz_pcs h4).1
end
section
theorem town_mem:bookMem townB=true:=by kernel_rfl
def segs3:List Sg:=[((15,20),[3,2,0]),((20,25),[5,4,3])]
theorem town_slices3:slicesQ townB (15,25) 0=(segs3,0):=by
 unfold slicesQ slicesB
 rw [town_may,town_spans 15 25 10 rfl (by decide) (by decide)]
 kernel_rfl
theorem town_look1:lookQ townB 1 (askB 2 5 15)=(0,0):=town_look 2 5 15 segs1 town_slices1 (by decide) (by kernel_rfl) (by kernel_rfl) rfl
theorem town_look2:lookQ townB 1 (askB 3 5 15)=(0,0):=town_look 3 5 15 segs1 town_slices1 (by decide) (by kernel_rfl) (by kernel_rfl) rfl
theorem town_look3:lookQ townB 1 (askB 2 15 25)=(0,0):=town_look 2 15 25 segs3 town_slices3 (by decide) (by kernel_rfl) (by kernel_rfl) rfl
theorem wish3:wishQ townB (askB 3 5 15)=(((5,15),1,0,0,2,3),segs1):=by
 unfold wishQ wishOf
 rw [show slicesQ townB (askB 3 5 15).1 (askB 3 5 15).2.2.1=(segs1,0) from town_slices1]
 kernel_rfl
theorem wish2:wishQ townB (askB 2 15 25)=(((15,25),1,0,0,2,2),segs3):=by
 unfold wishQ wishOf
 rw [show slicesQ townB (askB 2 15 25).1 (askB 2 15 25).2.2.1=(segs3,0) from town_slices3]
 kernel_rfl
theorem route_ok {cs:List Int} {r:Int} (hf:routeForm townB.1 cs 0 2 r=true):RouteOk townB.1 cs 0 2 r (routeV (townB.1,cs,0,2,r)).1 (routeV (townB.1,cs,0,2,r)).2.1:=by
 have h:=(routeV_is (townB.1,cs,0,2,r)).2
 unfold routeQ at h
 dsimp only at h
 rw [hf,cT] at h
 exact h.2
theorem may_some {g:Gr} {src dst want:Int} {ps:List Pt} (h:mayB g src dst want ps=true):((ps.length:Int)==0)=false∧decide ((ps.length:Int)>0)=true:=by
 have:ps ≠ []:=by
  intro e
  rw [e] at h
  unfold mayB at h
  simp only [bA,dE,beq_iff_eq] at h
  obtain ⟨_,w1,_,_,w2⟩:=h
  simp only [ratesOf,List.map_nil,sumUp,sI] at w2
  omega
 have:=List.length_pos_iff.2 this
 exact ⟨beq_eq_false_iff_ne.2 (by omega),dT (by omega)⟩
theorem town_p1:mayB townB.1 0 2 3 (routeV (townB.1,[5,4,3],0,2,3)).1=true:=by
 rcases (route_ok (cs:=[5,4,3]) (r:=3) (by kernel_rfl)).either with ⟨_,h2,_⟩|⟨_,h2,h3⟩
 ·exact h2
 ·obtain ⟨_,h4,h5⟩:=cutMay_parts h2
  have h3:worthL (routeV (townB.1,[5,4,3],0,2,3)).2.1 smallG.2 [5,4,3]<3:=h3
  rw [small_worth h4 h5] at h3
  cases h6:amongB (routeV (townB.1,[5,4,3],0,2,3)).2.1 1 <;> rw [h6] at h3 <;> simp only [cT,cF] at h3 <;> omega
theorem town_p2:mayB townB.1 0 2 2 (routeV (townB.1,[5,4,3],0,2,2)).1=true∧fitsOf townB.1 [5,4,3] (routeV (townB.1,[5,4,3],0,2,2)).1=(true,0):=by
 rcases (route_ok (cs:=[5,4,3]) (r:=2) (by kernel_rfl)).either with ⟨_,h2,h3,_⟩|⟨_,h2,h3⟩
 ·exact ⟨h2,h3⟩
 ·obtain ⟨_,h4,h5⟩:=cutMay_parts h2
  have h3:worthL (routeV (townB.1,[5,4,3],0,2,2)).2.1 smallG.2 [5,4,3]<2:=h3
  rw [small_worth h4 h5] at h3
  cases h6:amongB (routeV (townB.1,[5,4,3],0,2,2)).2.1 1 <;> rw [h6] at h3 <;> simp only [cT,cF] at h3 <;> omega
theorem town_p3:mayB townB.1 0 2 2 (routeV (townB.1,[3,2,0],0,2,2)).1=true∧fitsOf townB.1 [3,2,0] (routeV (townB.1,[3,2,0],0,2,2)).1=(true,0):=by
 rcases (route_ok (cs:=[3,2,0]) (r:=2) (by kernel_rfl)).either with ⟨_,h2,h3,_⟩|⟨_,h2,h3⟩
 ·exact ⟨h2,h3⟩
 ·obtain ⟨_,h4,h5⟩:=cutMay_parts h2
  rw [town_worth h4 h5] at h3
  cases h6:amongB (routeV (townB.1,[3,2,0],0,2,2)).2.1 1 <;> rw [h6] at h3 <;> simp only [cT,cF] at h3 <;> omega
theorem town_p4:(routeV (townB.1,[3,2,0],0,2,3)).1=[]∧0<(routeV (townB.1,[3,2,0],0,2,3)).2.1.length∧(proves townB.1 [3,2,0] 0 2 3 (routeV (townB.1,[3,2,0],0,2,3)).2.1).1=true:=by
 rcases (route_ok (cs:=[3,2,0]) (r:=3) (by kernel_rfl)).either with ⟨_,_,_,h4⟩|⟨h1,h2,h3⟩
 ·have:=h4 [0,1] rfl rfl
  rw [town_worth rfl rfl,show amongB [0,1] 1=true by rfl,cT] at this
  omega
 ·obtain ⟨_,h4,h5⟩:=cutMay_parts h2
  refine ⟨h1,?_,?_⟩
  ·cases hv:(routeV (townB.1,[3,2,0],0,2,3)).2.1 with
   |nil=>rw [hv] at h4;cases h4
   |cons v vs=>exact Nat.zero_lt_succ _
  ·unfold proves
   rw [show capsMay townB.1 [3,2,0]=true by kernel_rfl,cT,h2,dT h3]
   rfl
theorem town_cut3:∃ vs:List Int,0<vs.length∧vs.length≤8∧doQ townB 1 (askB 3 5 15)=(townB,((0,0),(10,vs),3,0,0,0,0,[]),0)∧allowQ townB 1 (askB 3 5 15) ((0,0),(10,vs),3,0,0,0,0,[])=(townB,true,0):=by
 obtain ⟨a1,a2⟩:=may_some town_p1
 obtain ⟨b1,b2,b3⟩:=town_p4
 have hl:(lookQ townB 1 (askB 3 5 15)).2=0:=by rw [town_look2]
 have hc:(lookQ townB 1 (askB 3 5 15)).1=0:=by rw [town_look2]
 have hp:planW townB.1 (wishQ townB (askB 3 5 15))=([],(10,(routeV (townB.1,[3,2,0],0,2,3)).2.1)):=by
  rw [wish3]
  unfold planW segs1
  simp only [planFrom]
  rw [a1,cF,show ((((routeV (townB.1,[3,2,0],0,2,3)).1.length:Nat):Int)==0)=true by rw [b1];rfl,cT]
 have hpr:provenW townB.1 (wishQ townB (askB 3 5 15)) (10,(routeV (townB.1,[3,2,0],0,2,3)).2.1)=true:=by
  rw [wish3]
  unfold provenW segs1
  simp only [provenFrom]
  rw [a2,cT,dF (show ¬ (((routeV (townB.1,[3,2,0],0,2,3)).1.length:Nat):Int)>0 by rw [b1];simp),cF,b3]
  rfl
 refine ⟨_,b2,route_verts _,?_,cut_end hl hc rfl (by rw [hp]) b2 hpr⟩
 rw [do_asks hl hc rfl,hp,dT (show (((routeV (townB.1,[3,2,0],0,2,3)).2.1.length:Nat):Int)>0 by omega),cT]
 rfl
theorem town_put2:∃ ps qs:List Pt,doQ townB 1 (askB 2 15 25)=((townB.1,4,0,3,townB.2.2.2.2++[((15,25),2,1,0,2,2,[((15,20),ps),((20,25),qs)])]),((15,25),(0,[]),2,0,2,2,0,[((15,20),ps),((20,25),qs)]),0):=by
 obtain ⟨a1,a2⟩:=may_some town_p2.1
 obtain ⟨b1,b2⟩:=may_some town_p3.1
 have hl:(lookQ townB 1 (askB 2 15 25)).2=0:=by rw [town_look3]
 have hc:(lookQ townB 1 (askB 2 15 25)).1=0:=by rw [town_look3]
 have hp:planW townB.1 (wishQ townB (askB 2 15 25))=([((15,20),(routeV (townB.1,[3,2,0],0,2,2)).1),((20,25),(routeV (townB.1,[5,4,3],0,2,2)).1)],(0,[])):=by
  rw [wish2]
  unfold planW segs3
  simp only [planFrom]
  rw [b1,cF,a1,cF]
  rfl
 refine ⟨(routeV (townB.1,[3,2,0],0,2,2)).1,(routeV (townB.1,[5,4,3],0,2,2)).1,?_⟩
 rw [do_asks hl hc rfl,hp]
 show putQ townB 1 (askB 2 15 25) _=_
 unfold putQ
 rw [show passB townB 1 (askB 2 15 25)=true by unfold passB;rw [town_look3];rfl]
 rw [show mayW townB.1 (wishQ townB (askB 2 15 25)) [((15,20),(routeV (townB.1,[3,2,0],0,2,2)).1),((20,25),(routeV (townB.1,[5,4,3],0,2,2)).1)]=true by
  rw [wish2]
  show (true&&((true&&mayB townB.1 0 2 2 (routeV (townB.1,[3,2,0],0,2,2)).1)&&((true&&mayB townB.1 0 2 2 (routeV (townB.1,[5,4,3],0,2,2)).1)&&true)))=true
  rw [town_p2.1,town_p3.1]
  rfl]
 rw [show fitsW townB.1 (wishQ townB (askB 2 15 25)) [((15,20),(routeV (townB.1,[3,2,0],0,2,2)).1),((20,25),(routeV (townB.1,[5,4,3],0,2,2)).1)]=true by
  rw [wish2]
  show ((((fitsOf townB.1 [3,2,0] (routeV (townB.1,[3,2,0],0,2,2)).1).2==0&&(fitsOf townB.1 [3,2,0] (routeV (townB.1,[3,2,0],0,2,2)).1).1))&&(((fitsOf townB.1 [5,4,3] (routeV (townB.1,[5,4,3],0,2,2)).1).2==0&&(fitsOf townB.1 [5,4,3] (routeV (townB.1,[5,4,3],0,2,2)).1).1)&&true))=true
  rw [town_p2.2,town_p3.2]
  rfl]
 unfold putRes wishOf
 rfl
theorem town_none:putQ townB 1 (askB 2 15 25) []=(Bk.zero,Rp.zero,2000):=by
 unfold putQ
 rw [show passB townB 1 (askB 2 15 25)=true by unfold passB;rw [town_look3];rfl,show mayW townB.1 (wishQ townB (askB 2 15 25)) []=false by rw [wish2];rfl]
 rfl
end
section
set_option maxRecDepth 100000
noncomputable def f36.E (k:Nat):Env:=mkEnv tt [(16,S16),(19,S19),(34,S34),(37,S37r),(38,S38r),(41,S41r),(91,S91r),(92,S92),(93,S93),(94,S94)] [] [(36,6,[.drop 59]),(36,8,[.drop 59])] [] k
noncomputable def f36.code:Go.Code:=cd Tryz.f36
theorem f36.eq (k:Nat):evFn (f36.E k) 9 36 Tryz.f36 [] =
 (chk (pcsSmall townB&&(bookMem townB && !relB townB (1:Int) (askB (3:Int) (5:Int) (15:Int)))) (some (doQ townB (1:Int) (askB (3:Int) (5:Int) (15:Int))))).bind (fun y0=>(chk (pcsSmall townB&&(bookMem townB && !relB townB (1:Int) (askB (2:Int) (15:Int) (25:Int)))) (some (doQ townB (1:Int) (askB (2:Int) (15:Int) (25:Int))))).bind (fun y1=>(chk (pcsSmall townB&&(bookMem townB&&(!relB townB (1:Int) (askB (3:Int) (5:Int) (15:Int))&&rpMem y0.2.1))) (some (allowQ townB (1:Int) (askB (3:Int) (5:Int) (15:Int)) y0.2.1))).bind (fun y2=>bif (lookQ townB (1:Int) (askB (2:Int) (5:Int) (15:Int))).1==(0:Int) then ((chk (smallBk y0.1) (some (sameBk y0.1 townB))).bind (fun y3=>bif y3 then (bif y0.2.1.2.2.1==(3:Int) then (bif y0.2.1.2.1.1==(10:Int) then (bif decide ((↑y0.2.1.2.1.2.length:Int)>(0:Int)) then (bif y0.2.2==(0:Int) then (bif y1.1.2.2.2.1==(3:Int) then (bif (↑y1.1.2.2.2.2.length:Int)==(2:Int) then (bif y1.2.1.2.2.1==(2:Int) then (bif y1.2.1.2.2.2.2.1==(2:Int) then (bif (↑y1.2.1.2.2.2.2.2.2.2.length:Int)==(2:Int) then (bif y1.2.2==(0:Int) then (bif y2.2.1 then ((chk (smallBk y2.1) (some (sameBk y2.1 townB))).bind (fun y4=>bif y4 then (bif y2.2.2==(0:Int) then (some (.bool ((putQ townB (1:Int) (askB (2:Int) (15:Int) (25:Int)) []).2.2==(2000:Int)))) else (some (.bool false))) else (some (.bool false)))) else (some (.bool false))) else (some (.bool false))) else (some (.bool false))) else (some (.bool false))) else (some (.bool false))) else (some (.bool false))) else (some (.bool false))) else (some (.bool false))) else (some (.bool false))) else (some (.bool false))) else (some (.bool false))) else (some (.bool false)))) else (some (.bool false))))):=by kernel_rfl
theorem f36.inl (k:Nat):InlOk Tryz.prog (f36.E k):=inl_nil
theorem f36.sums (k:Nat):SumsOk Tryz.prog (f36.E k):=(sums_cons ok16 (sums_cons ok19 (sums_cons ok34 (sums_cons ok37r (sums_cons ok38r (sums_cons ok41r (sums_cons ok91r (sums_cons ok92 (sums_cons ok93 (sums_cons ok94 sums_nil))))))))))
end
section
noncomputable def S36:Summ:=summ [] Bool (fun _=>some true) .bool
theorem ok36:SumOk Tryz.prog 36 S36 :=
 sumq f36.E (fn:=Tryz.f36) (code:=f36.code) f36.sums f36.inl fun d x hx=>by
  obtain rfl:=oJ hx
  refine ⟨0,(f36.eq 0).trans ?_⟩
  obtain ⟨vs,v1,v2,v3,v4⟩:=town_cut3
  obtain ⟨ps,qs,w⟩:=town_put2
  have r1:relB townB 1 (askB 3 5 15)=false:=by unfold relB;rw [town_look2];rfl
  have r2:relB townB 1 (askB 2 15 25)=false:=by unfold relB;rw [town_look3];rfl
  have rm:rpMem ((0,0),(10,vs),3,0,0,0,0,[])=true:=by
   unfold rpMem
   show (decide (vs.length*8≤140737488355328)&&pcsMem [])=true
   rw [dT (by omega)]
   rfl
  have sb:smallBk townB=true:=by kernel_rfl
  have dv:decide ((vs.length:Int)>0)=true:=dT (by omega)
  rw [town_small,town_mem,r1,r2,v3,w]
  simp only [nF,Bool.and_self,kT,bS,rm,v4,sb,sameBk_self,town_look1,town_none,dv]
  rfl
end
section
set_option maxRecDepth 100000
noncomputable def f9.E (k:Nat):Env:=mkEnv tt [(16,S16),(19,S19),(36,S36),(37,S37d),(38,S38d),(39,S39)] [] [] [] k
noncomputable def f9.code:Go.Code:=cd Tryz.f9
theorem f9.eq (k:Nat) (x0:(Int×List (eL)) ×
 Int×Int×Int×List (eR)) (x1:Int) (x2:(Int×Int)×Int×Int×eL) (x3:Int):evFn (f9.E k) 9 9 Tryz.f9 (encL [(.pair (.pair qI (.list qL)) (.pair qI (.pair qI (.pair qI (.list qR))))),qI,(.pair qS (.pair qI (.pair qI qL))),qI] (x0,x1,x2,x3)) =
 (chk (pcsSmall x0&&bookMem x0) (some (doQ x0 x1 x2))).bind (fun y0=>bif y0.2.2 != (0:Int) then (some (.bool true)) else ((chk (pcsSmall x0&&(bookMem x0&&rpMem y0.2.1)) (some (allowQ x0 x1 x2 y0.2.1))).bind (fun y1=>(chk (rpMem y0.2.1) (some y0.2.1)).bind (fun y2=>bif bitsI Go.BinOp.and Go.IntKind.i64 x3 (3:Int)==(0:Int) then ((chk (pcsSmall x0&&(bookMem x0&&rpMem (y2.1,y2.2.1,Go.IntKind.i64.wrap (y2.2.2.1+(1:Int)),y2.2.2.2))) (some (allowQ x0 x1 x2 (y2.1,y2.2.1,Go.IntKind.i64.wrap (y2.2.2.1+(1:Int)),y2.2.2.2)))).bind (fun y3=>bif y1.2.1 then (bif y1.2.2==(0:Int) then ((chk (smallBk y0.1) (some (sameBk y0.1 y1.1))).bind (fun y4=>bif y4 then (bif !y3.2.1 then (bif y3.2.2==(0:Int) then ((chk (smallBk y3.1) (some (sameBk y3.1 (((0:Int),[]),(0:Int),(0:Int),(0:Int),[])))).bind (fun y5=>some (.bool y5))) else (some (.bool false))) else (some (.bool false))) else (some (.bool false)))) else (some (.bool false))) else (some (.bool false)))) else (bif bitsI Go.BinOp.and Go.IntKind.i64 x3 (3:Int)==(1:Int) then ((chk (pcsSmall x0&&(bookMem x0&&rpMem (y2.1,y2.2.1,y2.2.2.1,y2.2.2.2.1,Go.IntKind.i64.wrap (y2.2.2.2.2.1+(1:Int)),y2.2.2.2.2.2))) (some (allowQ x0 x1 x2 (y2.1,y2.2.1,y2.2.2.1,y2.2.2.2.1,Go.IntKind.i64.wrap (y2.2.2.2.2.1+(1:Int)),y2.2.2.2.2.2)))).bind (fun y3=>bif y1.2.1 then (bif y1.2.2==(0:Int) then ((chk (smallBk y0.1) (some (sameBk y0.1 y1.1))).bind (fun y4=>bif y4 then (bif !y3.2.1 then (bif y3.2.2==(0:Int) then ((chk (smallBk y3.1) (some (sameBk y3.1 (((0:Int),[]),(0:Int),(0:Int),(0:Int),[])))).bind (fun y5=>some (.bool y5))) else (some (.bool false))) else (some (.bool false))) else (some (.bool false)))) else (some (.bool false))) else (some (.bool false)))) else (bif bitsI Go.BinOp.and Go.IntKind.i64 x3 (3:Int)==(2:Int) then ((chk (pcsSmall x0&&(bookMem x0&&rpMem (y2.1,y2.2.1,y2.2.2.1,y2.2.2.2.1,y2.2.2.2.2.1,Go.IntKind.i64.wrap (y2.2.2.2.2.2.1+(1:Int)),y2.2.2.2.2.2.2))) (some (allowQ x0 x1 x2 (y2.1,y2.2.1,y2.2.2.1,y2.2.2.2.1,y2.2.2.2.2.1,Go.IntKind.i64.wrap (y2.2.2.2.2.2.1+(1:Int)),y2.2.2.2.2.2.2)))).bind (fun y3=>bif y1.2.1 then (bif y1.2.2==(0:Int) then ((chk (smallBk y0.1) (some (sameBk y0.1 y1.1))).bind (fun y4=>bif y4 then (bif !y3.2.1 then (bif y3.2.2==(0:Int) then ((chk (smallBk y3.1) (some (sameBk y3.1 (((0:Int),[]),(0:Int),(0:Int),(0:Int),[])))).bind (fun y5=>some (.bool y5))) else (some (.bool false))) else (some (.bool false))) else (some (.bool false)))) else (some (.bool false))) else (some (.bool false)))) else ((chk (pcsSmall x0&&(bookMem x0&&rpMem (y2.1,(Go.IntKind.i64.wrap (y2.2.1.1+(1:Int)),y2.2.1.2),y2.2.2))) (some (allowQ x0 x1 x2 (y2.1,(Go.IntKind.i64.wrap (y2.2.1.1+(1:Int)),y2.2.1.2),y2.2.2)))).bind (fun y3=>bif y1.2.1 then (bif y1.2.2==(0:Int) then ((chk (smallBk y0.1) (some (sameBk y0.1 y1.1))).bind (fun y4=>bif y4 then (bif !y3.2.1 then (bif y3.2.2==(0:Int) then ((chk (smallBk y3.1) (some (sameBk y3.1 (((0:Int),[]),(0:Int),(0:Int),(0:Int),[])))).bind (fun y5=>some (.bool y5))) else (some (.bool false))) else (some (.bool false))) else (some (.bool false)))) else (some (.bool false))) else (some (.bool false)))))))))):=by kernel_rfl
theorem f9.inl (k:Nat):InlOk Tryz.prog (f9.E k):=inl_nil
theorem f9.sums (k:Nat):SumsOk Tryz.prog (f9.E k):=(sums_cons ok16 (sums_cons ok19 (sums_cons ok36 (sums_cons ok37d (sums_cons ok38d (sums_cons ok39 sums_nil))))))
end
section
theorem plan_proves {g:Gr} {src dst want:Int}:∀ (ss:List Sg) (out:List Pc) (c':Ct),0<(planFrom g src dst want ss out).2.2.length→c'.2=(planFrom g src dst want ss out).2.2 →
  provenFrom g src dst want c' ss=(c'.1==(planFrom g src dst want ss out).2.1)
 | [],out,c',h,_=>by simp [planFrom] at h
 |s::ss,out,c',h,hc=>by
  simp only [planFrom,provenFrom] at h hc ⊢
  have hv:=(routeV_is (g,s.2,src,dst,want)).2
  generalize routeV (g,s.2,src,dst,want)=y at h hc hv ⊢
  cases hl:((y.1.length:Int)==0) with
  |true =>
   have hl0:(y.1.length:Int)=0:=by simpa using hl
   rw [hl,cT] at h hc
   rw [cT,dF (by omega:¬ (y.1.length:Int)>0),cF]
   unfold routeQ at hv
   dsimp only at hv
   cases hf:routeForm g s.2 src dst want with
   |false=>rw [hf,cF] at hv;rw [hv] at h;simp at h
   |true =>
    rw [hf,cT] at hv
    rcases hv.2.either with ⟨h1,_⟩|⟨_,h2,h3⟩
    ·rw [h1] at h;simp at h
    ·have hcap:capsMay g s.2=true:=by
      unfold routeForm at hf
      simp only [bA] at hf
      exact hf.1
     unfold proves
     rw [hc,hcap,cT,h2,dT h3]
     simp
  |false =>
   have hl0:(y.1.length:Int) ≠ 0:=by simpa using hl
   rw [hl,cF] at h hc
   rw [cF,dT (by omega:(y.1.length:Int)>0),cT]
   exact plan_proves ss _ c' h hc
theorem wrap_ne (x:Int):Go.IntKind.i64.wrap (x+1) ≠ x:=by
 rw [Go.IntKind.wrap_i64]
 omega
theorem sameRp_parts {a b:Rp} (h:sameRp a b=true):a.2.1.1=b.2.1.1∧a.2.2.1=b.2.2.1∧a.2.2.2.2.1=b.2.2.2.2.1∧a.2.2.2.2.2.1=b.2.2.2.2.2.1:=by
 unfold sameRp at h
 simp only [bA,beq_iff_eq] at h
 exact ⟨h.2.1,h.2.2.2.1,h.2.2.2.2.2.1,h.2.2.2.2.2.2.1⟩
theorem do_cases {b:Bk} {o:Int} {q:Rq} (he:(doQ b o q).2.2=0) (ha:asksB q=true) (hk:((doQ b o q).2.1.2.2.1 != 1)=true) :
  (q.2.2.2.2.2==0)=false∧((∃ c,0<c.2.length∧doQ b o q=(b,cutR' c,0)∧(planW b.1 (wishQ b q)).2=c) ∨
  (∃ ps B rs,doQ b o q=(B,grantR rs,0)∧putQ b o q ps=(B,grantR rs,0)∧rs.pcs=ps∧rs.rate=q.2.2.2.2.2)):=by
 have hl:=do_ok he
 have hc:=do_code he hk
 have hd:=do_asks hl hc ha
 refine ⟨(code_parts hl hc ha).2.1,?_⟩
 cases hv:decide (((planW b.1 (wishQ b q)).2.2.length:Int)>0) with
 |true =>
  rw [hv,cT] at hd
  have hv:=oD hv
  exact .inl ⟨_,by omega,hd,rfl⟩
 |false =>
  rw [hv,cF] at hd
  refine .inr ⟨(planW b.1 (wishQ b q)).1,?_⟩
  rw [hd] at he ⊢
  unfold putQ at he ⊢
  revert he
  cases asksB q <;> cases passB b o q <;> cases mayW b.1 (wishQ b q) (planW b.1 (wishQ b q)).1 <;> cases fitsW b.1 (wishQ b q) (planW b.1 (wishQ b q)).1 <;> cases q.2.1==1 <;> intro he <;>
   first
    |exact ⟨_,_,rfl,rfl,rfl,rfl⟩
    |exact absurd he (by simp)
theorem own_allow {b:Bk} {o:Int} {q:Rq} (he:(doQ b o q).2.2=0):allowQ b o q (doQ b o q).2.1=((doQ b o q).1,true,0):=by
 have hz:((doQ b o q).2.2 != 0)=false:=by rw [he];rfl
 cases ha:asksB q with
 |false =>
  unfold allowQ okAllow
  rw [hz,ha,sameRp_self]
  rfl
 |true =>
  cases hk:(doQ b o q).2.1.2.2.1 != 1 with
  |false =>
   unfold allowQ okAllow
   rw [hz,ha,hk,sameRp_self]
   rfl
  |true =>
   obtain ⟨_,⟨c,h1,h2,h3⟩|⟨ps,B,rs,h1,h2,h3,_⟩⟩:=do_cases he ha hk
   ·rw [h2]
    have hpr:provenW b.1 (wishQ b q) c=true:=by
     have:=plan_proves (wishQ b q).2 [] c (by show 0<(planW b.1 (wishQ b q)).2.2.length;rw [h3];exact h1) (by show c.2=(planW b.1 (wishQ b q)).2.2;rw [h3])
     refine Eq.trans this ?_
     show (c.1==(planW b.1 (wishQ b q)).2.1)=true
     rw [h3]
     exact beq_self_eq_true _
    exact cut_end (do_ok he) (do_code he hk) ha h3 h1 hpr
   ·have h6:putQ b o q (grantR rs).2.2.2.2.2.2.2=(B,grantR rs,0):=by
     rw [← h2]
     congr 1
    have h7:(grantR rs).2.2.1=2:=rfl
    unfold allowQ okAllow
    rw [h1,ha,h6,sameRp_self,h7]
    rfl
theorem own_not {b:Bk} {o:Int} {q:Rq} {r:Rp} (he:(doQ b o q).2.2=0) (hne:sameRp (doQ b o q).2.1 r=false) (hp:r.2.2.2.2.2.2.2=(doQ b o q).2.1.2.2.2.2.2.2.2)
  (hk:(r.2.2.1=(doQ b o q).2.1.2.2.1∧(r.2.2.2.2.1 ≠ (doQ b o q).2.1.2.2.2.2.1∨r.2.2.2.2.2.1 ≠ (doQ b o q).2.1.2.2.2.2.2.1∨(r.2.1.1 ≠ (doQ b o q).2.1.2.1.1∧r.2.1.2=(doQ b o q).2.1.2.1.2))) ∨
   (r.2.2.1=Go.IntKind.i64.wrap ((doQ b o q).2.1.2.2.1+1)∧r.2.2.2.2.2.1=(doQ b o q).2.1.2.2.2.2.2.1)):allowQ b o q r=(Bk.zero,false,0):=by
 have hz:((doQ b o q).2.2 != 0)=false:=by rw [he];rfl
 have fin:okAllow b o q r=false→allowQ b o q r=(Bk.zero,false,0):=by
  intro h
  unfold allowQ
  rw [hz,h]
  rfl
 refine fin ?_
 unfold okAllow
 cases ha:asksB q with
 |false=>rw [fA,cF];exact hne
 |true =>
  cases hk1:(doQ b o q).2.1.2.2.1 != 1 with
  |false=>rw [Bool.and_false,cF];exact hne
  |true =>
   rw [Bool.and_self,cT]
   obtain ⟨hr0,⟨c,h1,h2,h3⟩|⟨ps,B,rs,h1,h2,h3,h4⟩⟩:=do_cases he ha hk1
   ·rw [h2] at hne hp hk ⊢
    have e3:(cutR' c).2.2.1=3:=rfl
    rcases hk with ⟨k1,k2⟩|⟨k1,k2⟩
    ·have k1:r.2.2.1=3:=k1
     rw [k1]
     show (sameRp r (cutR' r.2.1)&&provenW b.1 (wishQ b q) r.2.1)=false
     rcases k2 with k2|k2|⟨k2,k3⟩
     ·cases hs:sameRp r (cutR' r.2.1) with
      |false=>rfl
      |true=>exact absurd (sameRp_parts hs).2.2.1 k2
     ·cases hs:sameRp r (cutR' r.2.1) with
      |false=>rfl
      |true=>exact absurd (sameRp_parts hs).2.2.2 k2
     ·have:=plan_proves (wishQ b q).2 [] r.2.1 (by show 0<(planW b.1 (wishQ b q)).2.2.length;rw [h3];exact h1) (by show r.2.1.2=(planW b.1 (wishQ b q)).2.2;rw [h3];exact k3)
      have this:provenW b.1 (wishQ b q) r.2.1=(r.2.1.1==(planW b.1 (wishQ b q)).2.1):=this
      have k2:r.2.1.1 ≠ c.1:=k2
      rw [this,h3,beq_eq_false_iff_ne.2 k2,Bool.and_false]
    ·have k1:r.2.2.1=4:=by
      rw [show (b,cutR' c,(0:Int)).2.1.2.2.1=3 from rfl,wrap64 (by omega)] at k1
      exact k1
     rw [k1]
     exact hne
   ·rw [h1] at hne hp hk ⊢
    rcases hk with ⟨k1,k2⟩|⟨k1,k2⟩
    ·have k1:r.2.2.1=2:=k1
     have h6:putQ b o q r.2.2.2.2.2.2.2=(B,grantR rs,0):=by
      rw [← h2,hp]
      congr 1
     rw [k1,h6]
     exact hne
    ·have k1:r.2.2.1=3:=by
      rw [show (B,grantR rs,(0:Int)).2.1.2.2.1=2 from rfl,wrap64 (by omega)] at k1
      exact k1
     rw [k1]
     show (sameRp r (cutR' r.2.1)&&provenW b.1 (wishQ b q) r.2.1)=false
     cases hs:sameRp r (cutR' r.2.1) with
     |false=>rfl
     |true =>
      have h7:=(sameRp_parts hs).2.2.2
      rw [k2] at h7
      have h7:rs.rate=0:=h7
      rw [h4] at h7
      simp [h7] at hr0
end
section
theorem small_of {B:Bk} (h1:B.1.2.length<4611686018427387904) (h2:B.2.2.2.2.length<4611686018427387904) (h3:∀ r∈B.2.2.2.2,pcsMem r.2.2.2.2.2.2=true):smallBk B=true:=by
 unfold smallBk
 rw [dT h1,dT h2,tA,tA]
 exact List.all_eq_true.2 fun r hr=>mem_small (h3 r hr)
theorem mem_parts {b:Bk} (h:bookMem b=true):b.1.2.length*24≤140737488355328∧b.2.2.2.2.length*80≤140737488355328∧∀ r∈b.2.2.2.2,pcsMem r.2.2.2.2.2.2=true:=by
 unfold bookMem at h
 simp only [bA,dE] at h
 exact ⟨h.1,h.2.1,fun r hr=>List.all_eq_true.1 h.2.2 r hr⟩
theorem put_small {b:Bk} {o:Int} {q:Rq} {ps:List Pc} (hb:bookMem b=true) (hp:pcsMem ps=true):smallBk (putQ b o q ps).1=true:=by
 obtain ⟨h1,h2,h3⟩:=mem_parts hb
 unfold putQ
 cases asksB q with
 |false=>rfl
 |true =>
  cases passB b o q with
  |false=>rfl
  |true =>
   cases mayW b.1 (wishQ b q) ps with
   |false=>rfl
   |true =>
    cases fitsW b.1 (wishQ b q) ps with
    |false=>rfl
    |true =>
     cases q.2.1==1 with
     |true =>
      refine small_of (B:=(b.1,b.2.1,b.2.2.1,b.2.2.2.1+1,b.2.2.2.2++[putRes b o q ps b.2.2.2.1])) (by show b.1.2.length<_;omega) (by show (b.2.2.2.2++[putRes b o q ps b.2.2.2.1]).length<_;rw [lA,List.length_singleton];omega) fun r hr=>?_
      rcases List.mem_append.1 hr with hr|hr
      ·exact h3 r hr
      ·rw [List.mem_singleton.1 hr];exact hp
     |false =>
      refine small_of (B:=(b.1,b.2.1,b.2.2.1,b.2.2.2.1,b.2.2.2.2.set (placeOf b q.2.2.1).toNat (putRes b o q ps q.2.2.1))) (by show b.1.2.length<_;omega) (by show (b.2.2.2.2.set (placeOf b q.2.2.1).toNat (putRes b o q ps q.2.2.1)).length<_;rw [List.length_set];omega) fun r hr=>?_
      rcases List.mem_or_eq_of_mem_set hr with hr|hr
      ·exact h3 r hr
      ·rw [hr];exact hp
theorem do_small {b:Bk} {o:Int} {q:Rq} (hb:bookMem b=true):smallBk (doQ b o q).1=true:=by
 obtain ⟨h1,h2,h3⟩:=mem_parts hb
 have h0:smallBk b=true:=small_of (by omega) (by omega) h3
 unfold doQ
 cases hl:(lookQ b o q).2 != 0 with
 |true=>rfl
 |false =>
  cases hc:(lookQ b o q).1 != 0 with
  |true=>exact h0
  |false =>
   have hl0:(lookQ b o q).2=0:=by simpa using hl
   have hc0:(lookQ b o q).1=0:=by simpa using hc
   cases k3:q.2.1==3 with
   |true =>
    refine small_of (B:=(b.1,b.2.1,b.2.2.1,b.2.2.2.1,b.2.2.2.2.eraseIdx (placeOf b q.2.2.1).toNat)) (by show b.1.2.length<_;omega) (by
     show (b.2.2.2.2.eraseIdx (placeOf b q.2.2.1).toNat).length<_
     have:=List.length_eraseIdx_le b.2.2.2.2 (placeOf b q.2.2.1).toNat
     omega) fun r hr=>h3 r (List.mem_of_mem_eraseIdx hr)
   |false =>
    cases k4:q.2.1==4 with
    |true=>exact h0
    |false =>
     cases k5:q.2.1==5 with
     |true=>exact h0
     |false =>
      cases k6:q.2.1==6 with
      |true =>
       refine small_of (B:=advB b q.1.1) (by show b.1.2.length<_;omega) (by
        show (b.2.2.2.2.filter fun r=>!goneB q.1.1 r).length<_
        have:=List.length_filter_le (fun r=>!goneB q.1.1 r) b.2.2.2.2
        omega) fun r hr=>h3 r (List.mem_filter.1 hr).1
      |false =>
       have h8:=wish_few hl0 hc0 (ask_kinds hl0 k3 k4 k5 k6)
       simp only [cF]
       cases decide (((planW b.1 (wishQ b q)).2.2.length:Int)>0) with
       |true=>exact h0
       |false=>exact put_small hb (planW_mem h8).1
end
section
theorem law9_ev (d:Bk×(Int×(Rq×Int))) (hs:SzL [tBk,tI,tRq,tI] d) :
  ∃ E c,TtOk Tryz.prog E.tt∧SumsOk Tryz.prog E∧InlOk Tryz.prog E∧evFn E c 9 Tryz.f9 (encL [tBk,tI,tRq,tI] d)=some (.bool true):=by
 obtain ⟨b,o,q,which⟩:=d
 obtain ⟨hb,_⟩:=hs
 have hps:=sz_book hb
 have hbm:=sz_bookMem hb
 refine ⟨f9.E 0,9,ttOk,f9.sums _,f9.inl _,(f9.eq _ b o q which).trans ?_⟩
 have hm:=do_mem (o:=o) (q:=q) hbm
 have hsm:=do_small (o:=o) (q:=q) hbm
 rw [hps,hbm,Bool.and_self,kT,bS]
 cases he:(doQ b o q).2.2 != 0 with
 |true=>rfl
 |false =>
  have he0:(doQ b o q).2.2=0:=by simpa using he
  have hal:=own_allow he0
  have hz:smallBk Bk.zero=true:=rfl
  have hzz:sameBk Bk.zero ((0,[]),0,0,0,[])=true:=rfl
  have h00:((0:Int)==0)=true:=rfl
  have ne0:∀ {r:Rp},(r.2.1.1 ≠ (doQ b o q).2.1.2.1.1∨r.2.2.1 ≠ (doQ b o q).2.1.2.2.1∨r.2.2.2.2.1 ≠ (doQ b o q).2.1.2.2.2.2.1∨r.2.2.2.2.2.1 ≠ (doQ b o q).2.1.2.2.2.2.2.1)→sameRp (doQ b o q).2.1 r=false:=by
   intro r h
   cases hsr:sameRp (doQ b o q).2.1 r with
   |false=>rfl
   |true =>
    obtain ⟨e1,e2,e3,e4⟩:=sameRp_parts hsr
    rcases h with h|h|h|h
    ·exact absurd e1.symm h
    ·exact absurd e2.symm h
    ·exact absurd e3.symm h
    ·exact absurd e4.symm h
  simp only [cF,hm,tA,kT,hal,bS]
  cases h1:bitsI Go.BinOp.and Go.IntKind.i64 which 3==0 with
  |true =>
   have hn:=own_not (b:=b) (o:=o) (q:=q) (r:=((doQ b o q).2.1.1,(doQ b o q).2.1.2.1,Go.IntKind.i64.wrap ((doQ b o q).2.1.2.2.1+1),(doQ b o q).2.1.2.2.2)) he0 (ne0 (.inr (.inl (wrap_ne _)))) rfl (.inr ⟨rfl,rfl⟩)
   have hrm:rpMem ((doQ b o q).2.1.1,(doQ b o q).2.1.2.1,Go.IntKind.i64.wrap ((doQ b o q).2.1.2.2.1+1),(doQ b o q).2.1.2.2.2)=true:=hm
   simp only [cT,hrm,kT,hn,bS]
   simp only [cT,h00,hsm,kT,bS,sameBk_self,nF,hz,hzz]
  |false =>
   rw [cF]
   cases h2:bitsI Go.BinOp.and Go.IntKind.i64 which 3==1 with
   |true =>
    have hn:=own_not (b:=b) (o:=o) (q:=q) (r:=((doQ b o q).2.1.1,(doQ b o q).2.1.2.1,(doQ b o q).2.1.2.2.1,(doQ b o q).2.1.2.2.2.1,Go.IntKind.i64.wrap ((doQ b o q).2.1.2.2.2.2.1+1),(doQ b o q).2.1.2.2.2.2.2)) he0 (ne0 (.inr (.inr (.inl (wrap_ne _))))) rfl (.inl ⟨rfl,.inl (wrap_ne _)⟩)
    have hrm:rpMem ((doQ b o q).2.1.1,(doQ b o q).2.1.2.1,(doQ b o q).2.1.2.2.1,(doQ b o q).2.1.2.2.2.1,Go.IntKind.i64.wrap ((doQ b o q).2.1.2.2.2.2.1+1),(doQ b o q).2.1.2.2.2.2.2)=true:=hm
    simp only [cT,hrm,kT,hn,bS]
    simp only [cT,h00,hsm,kT,bS,sameBk_self,nF,hz,hzz]
   |false =>
    rw [cF]
    cases h3:bitsI Go.BinOp.and Go.IntKind.i64 which 3==2 with
    |true =>
     have hn:=own_not (b:=b) (o:=o) (q:=q) (r:=((doQ b o q).2.1.1,(doQ b o q).2.1.2.1,(doQ b o q).2.1.2.2.1,(doQ b o q).2.1.2.2.2.1,(doQ b o q).2.1.2.2.2.2.1,Go.IntKind.i64.wrap ((doQ b o q).2.1.2.2.2.2.2.1+1),(doQ b o q).2.1.2.2.2.2.2.2)) he0 (ne0 (.inr (.inr (.inr (wrap_ne _))))) rfl (.inl ⟨rfl,.inr (.inl (wrap_ne _))⟩)
     have hrm:rpMem ((doQ b o q).2.1.1,(doQ b o q).2.1.2.1,(doQ b o q).2.1.2.2.1,(doQ b o q).2.1.2.2.2.1,(doQ b o q).2.1.2.2.2.2.1,Go.IntKind.i64.wrap ((doQ b o q).2.1.2.2.2.2.2.1+1),(doQ b o q).2.1.2.2.2.2.2.2)=true:=hm
     simp only [cT,hrm,kT,hn,bS]
     simp only [cT,h00,hsm,kT,bS,sameBk_self,nF,hz,hzz]
    |false =>
     have hn:=own_not (b:=b) (o:=o) (q:=q) (r:=((doQ b o q).2.1.1,(Go.IntKind.i64.wrap ((doQ b o q).2.1.2.1.1+1),(doQ b o q).2.1.2.1.2),(doQ b o q).2.1.2.2)) he0 (ne0 (.inl (wrap_ne _))) rfl (.inl ⟨rfl,.inr (.inr ⟨wrap_ne _,rfl⟩)⟩)
     have hrm:rpMem ((doQ b o q).2.1.1,(Go.IntKind.i64.wrap ((doQ b o q).2.1.2.1.1+1),(doQ b o q).2.1.2.1.2),(doQ b o q).2.1.2.2)=true:=hm
     simp only [cF,hrm,kT,hn,bS]
     simp only [cT,h00,hsm,kT,bS,sameBk_self,nF,hz,hzz]
end
section
theorem own:ownKnob Tryz.prog.godebug=none:=by kernel_rfl
theorem laidOut:laidOutB Tryz.prog=true:=by kernel_rfl
theorem rowed:mapsRowed Tryz.prog=true:=by kernel_rfl
theorem heard:Tryz.prog.stopsHeard=true:=by kernel_rfl
theorem enters:Tryz.prog.mayEnter=true:=by kernel_rfl
theorem lifts:Tryz.prog.liftsFinal=false:=by kernel_rfl
theorem makes:Tryz.prog.make=some .cut:=by kernel_rfl
theorem andT {a b:Bool} (h1:a=true) (h2:b=true):(a&&b)=true:=by rw [h1,h2];rfl
end
end Go.Proofs.YtkflbkcfabnomaaGreat.R
