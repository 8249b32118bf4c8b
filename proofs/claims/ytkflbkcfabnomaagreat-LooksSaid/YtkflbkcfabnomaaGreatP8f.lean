import Derived.Test.YtkflbkcfabnomaaGreatP8e
namespace Go.Proofs.YtkflbkcfabnomaaGreat.R
set_option linter.unusedVariables false
set_option linter.unusedSimpArgs false
section
theorem orderA_front (gl:List Lk) {n m:Nat} (h:n≤m):∃ t,orderA gl m=orderA gl n++t:=by
 induction m with
 |zero =>
      obtain rfl:n=0:=by omega
      exact ⟨[],by simp⟩
 |succ m ih =>
  by_cases he:n=m+1
  ·subst he;exact ⟨[],by simp⟩
  ·obtain ⟨t,ht⟩:=ih (by omega)
   exact ⟨t++rowA gl m,by rw [orderA_succ,ht,List.append_assoc]⟩
theorem startsA_get (gl:List Lk) {n i:Nat} (h:i≤n):(startsA gl n)[i]? = some ((orderA gl i).length:Int):=by
 unfold startsA
 rw [List.getElem?_map,List.getElem?_range (by omega)]
 rfl
theorem startsA_len (gl:List Lk) (n:Nat):(startsA gl n).length=n+1:=by simp [startsA]
theorem orderA_get (gl:List Lk) {m v j:Nat} {a:Int} (hv:v<m) (h:(rowA gl v)[j]? = some a):(orderA gl m)[(orderA gl v).length+j]? = some a:=by
 obtain ⟨t,ht⟩:=orderA_front gl (n:=v+1) (m:=m) (by omega)
 have:=idx_lt h
 rw [ht,orderA_succ,List.append_assoc,List.getElem?_append_right (by omega),List.getElem?_append_left (by omega)]
 rw [show (orderA gl v).length+j - (orderA gl v).length=j by omega]
 exact h
theorem headsA_get {gl:List Lk} {a:Int} (h:arcIn gl.length a=true):(headsA gl)[a.toNat]? = some (arcTo gl a):=by
 have h:=oD h
 unfold headsA
 rw [List.getElem?_map,upto_get (by omega),show ((a.toNat:Nat):Int)=a by omega]
 rfl
theorem headsA_len (gl:List Lk):(headsA gl).length=2*gl.length:=by simp [headsA,upto_length]
theorem f178.l1_is (k m0:Nat) {g:Gr} (hg:graphMay g=true) {cs f:List Int} (hc:capsMay g cs=true) (hf:withinF f cs=true) {src:Int} (hsrc:0≤src∧src<g.1) (v:Nat) (hv:(v:Int)<g.1) (u:Int) :
  ∀ (n j:Nat) (o q:List Int),j≤(rowA g.2 v).length→(rowA g.2 v).length<n+j→q.length≤300+j→Bs g cs f src v ((rowA g.2 v).drop j) (o,q) →
   f178.l1 k n m0 cs f (v:Int) (orderA g.2 v).length (rowA g.2 v).length ((rowA g.2 v).length:Int) (j:Int) o (u::q) (startsA g.2 g.1.toNat) (orderA g.2 g.1.toNat) (headsA g.2) =
   f178.l0 k m0 cs f (((rowA g.2 v).drop j).foldl (scanS g.2 cs f v) (o,q)).1 (((rowA g.2 v).drop j).foldl (scanS g.2 cs f v) (o,q)).2 (startsA g.2 g.1.toNat) (orderA g.2 g.1.toNat) (headsA g.2)
 |0,j,o,q,h,h',_,_=>by omega
 |n+1,j,o,q,h,h',hq,hb=>by
  have hp:=graphMay_parts hg
  have hcl:=capsMay_len hc
  have hrl:=rowA_len g.2 v
  have hol:o.length=g.1.toNat:=hb.b.lv.len
  by_cases hlt:j<(rowA g.2 v).length
  ·have hx:=gE hlt
   have ha:=rowA_mem.1 (List.getElem_mem hlt)
   have ho:=orderA_get g.2 (m:=g.1.toNat) (by omega) hx
   have hd:=List.drop_eq_getElem_cons hlt
   generalize (rowA g.2 v)[j]=a at hx ha ho hd
   have ha1:0≤a∧a<2*(g.2.length:Int):=oD ha.1
   have hh:=headsA_get ha.1
   have hto:=arcTo_in hg ha.1
   rw [hd] at hb
   have hs:=hb.step hg hsrc
   have hx1:rd (Ty.int Go.IntKind.i64) (orderA g.2 g.1.toNat) (((orderA g.2 v).length+(j:Int).toNat:Nat):Int)=a:=by
    rw [show (orderA g.2 v).length+(j:Int).toNat=(orderA g.2 v).length+j by omega]
    exact rd_some (t:=tI) ho
   have hx2:rd (Ty.int Go.IntKind.i64) (headsA g.2) ((a.toNat:Nat):Int)=arcTo g.2 a:=rd_some (t:=tI) hh
   have hx3:rd (Ty.int Go.IntKind.i64) o (((arcTo g.2 a).toNat:Nat):Int)=rdI o (arcTo g.2 a):=rdI_nat _ _
   have hx4:rd (Ty.int Go.IntKind.i64) o (((v:Int).toNat:Nat):Int)=rdI o v:=rdI_nat _ _
   have hlv:=hb.b.lv.lo v (by omega)
   have hlv:-1≤rdI o v∧rdI o v+(negs o:Int)+1≤(g.1.toNat:Int):=hlv
   have hf16:f.length=cs.length:=withinF_len hf
   have hr:=room_rate hc hf (by rw [hcl];exact ha.1)
   rw [f178.l1_eq,show decide ((j:Int)<((rowA g.2 v).length:Int))=true from dT (by omega),cT,
    show decide ((0:Int)≤(j:Int)∧(j:Int)<((rowA g.2 v).length:Int))=true from dT (by omega),kT,hx1,hx2,hx3,hx4,
    show decide ((0:Int)≤a∧a<((headsA g.2).length:Int))=true from dT (by rw [headsA_len];omega),kT,
    show decide ((0:Int)≤arcTo g.2 a∧arcTo g.2 a<(o.length:Int))=true from dT (by omega),kT,kT,
    show decide (cs.length≤16∧f.length=cs.length)=true from dT ⟨by omega,hf16⟩,tA,show arcIn cs.length a=true by rw [hcl];exact ha.1,tA,hr,kT,bS,
    show decide ((0:Int)≤(v:Int)∧(v:Int)<(o.length:Int))=true from dT (by omega),kT,wrap_succ (by omega),wrap64 (n:=rdI o v+1) (by omega),hd,List.foldl_cons,
    lA,List.length_singleton,show decide (((u::q).length+1)*8≤140737488355328)=true from dT (by rw [List.length_cons];omega),kT,List.cons_append]
   have ih1:=f178.l1_is k m0 hg hc hf hsrc v hv u n (j+1)
   have hdd:(rowA g.2 v).drop (j+1)=(rowA g.2 v).drop (j+1):=rfl
   unfold scanS at hs ⊢
   simp only at hs ⊢
   cases h1:decide (rdI o (arcTo g.2 a)<0) with
   |false =>
    rw [h1,fA,cF] at hs
    rw [cF,fA,cF]
    exact ih1 o q (by omega) (by omega) (by omega) hs
   |true =>
    cases h2:decide (roomA cs f a>0) with
    |false =>
     rw [h1,h2,Bool.and_false,cF] at hs
     rw [cT,cF,Bool.and_false,cF]
     exact ih1 o q (by omega) (by omega) (by omega) hs
    |true =>
     rw [h1,h2,Bool.and_true,cT] at hs
     rw [cT,cT,Bool.and_true,cT]
     exact ih1 _ _ (by omega) (by omega) (by rw [lA,List.length_singleton];omega) hs
  ·obtain rfl:j=(rowA g.2 v).length:=by omega
   rw [f178.l1_eq,show decide (((rowA g.2 v).length:Int)<((rowA g.2 v).length:Int))=false from dF (by omega),cF,List.drop_length,
    show decide ((0:Int)≤(1:Int)∧(1:Int)≤((u::q).length:Int))=true from dT (by rw [List.length_cons];omega),kT,
    show decide (((u::q).length:Int)≤((u::q).length:Int))=true from dT (by omega),kT,List.foldl_nil]
   have:List.take ((↑(u::q).length:Int).toNat - (1:Nat)) (List.drop (1:Nat) (u::q))=q:=by simp
   rw [this]
theorem f178.l0_is (k:Nat) {g:Gr} (hg:graphMay g=true) {cs f:List Int} (hc:capsMay g cs=true) (hf:withinF f cs=true) {src:Int} (hsrc:0≤src∧src<g.1) (hk:33≤k):∀ (n:Nat) (o q:List Int),n≤k→Bf g cs f src o q →
  (∀ u,0≤u∧u<g.1→0≤rdI o u→u ∉ q→∀ a∈rowA g.2 u,roomA cs f a>0→0≤rdI o (arcTo g.2 a))→negs o+q.length<n→negs o+q.length≤8 →
  f178.l0 k n cs f o q (startsA g.2 g.1.toNat) (orderA g.2 g.1.toNat) (headsA g.2)=some (resLE (bfs g.2 cs f n o q,0))
 |0,o,q,_,_,_,h,_=>by omega
 |n+1,o,[],_,hb,hold,h,_=>by
  rw [f178.l0_eq,show decide ((([]:List Int).length:Int)>0)=false from dF (by simp),cF]
  rfl
 |n+1,o,v::q,hn,hb,hold,h,h8=>by
  have hp:=graphMay_parts hg
  have hs:=Bs.start hb hold
  have hcnt:negs ((rowA g.2 v).foldl (scanS g.2 cs f v) (o,q)).1+((rowA g.2 v).foldl (scanS g.2 cs f v) (o,q)).2.length=negs o+q.length:=scan_count hg hsrc hs
  have he:=fold_inv (scanS g.2 cs f v) (Bs g cs f src v) (rowA g.2 v) (o,q) (fun a t s hst=>hst.step hg hsrc) hs
  obtain ⟨hv1,hv2⟩:=hb.qIn v (by simp)
  have hrl:=rowA_len g.2 v
  have e0:rd (Ty.int Go.IntKind.i64) (v::q) ((0:Nat):Int)=v:=rfl
  have hvn:((v.toNat:Nat):Int)=v:=by omega
  have s1:rd (Ty.int Go.IntKind.i64) (startsA g.2 g.1.toNat) ((v.toNat:Nat):Int)=((orderA g.2 v.toNat).length:Int):=rd_some (t:=tI) (startsA_get g.2 (by omega))
  have s2:rd (Ty.int Go.IntKind.i64) (startsA g.2 g.1.toNat) (((v+1).toNat:Nat):Int)=((orderA g.2 (v.toNat+1)).length:Int):=by
   rw [show (v+1).toNat=v.toNat+1 by omega]
   exact rd_some (t:=tI) (startsA_get g.2 (by omega))
  have s3:(orderA g.2 (v.toNat+1)).length=(orderA g.2 v.toNat).length+(rowA g.2 v).length:=by rw [orderA_succ,lA,hvn]
  have s4:(orderA g.2 (v.toNat+1)).length≤(orderA g.2 g.1.toNat).length:=by
   obtain ⟨t,ht⟩:=orderA_front g.2 (n:=v.toNat+1) (m:=g.1.toNat) (by omega)
   rw [ht,lA]
   omega
  have c1:(0:Int)≤((orderA g.2 v.toNat).length:Int)∧((orderA g.2 v.toNat).length:Int)≤(((orderA g.2 v.toNat).length+(rowA g.2 v).length:Nat):Int):=by omega
  have c2:(((orderA g.2 v.toNat).length+(rowA g.2 v).length:Nat):Int)≤((orderA g.2 g.1.toNat).length:Int):=by omega
  rw [f178.l0_eq,show decide (((v::q).length:Int)>0)=true from dT (by rw [List.length_cons];omega),cT,e0,wrap64 (n:=v+1) (by omega),s1,s2,s3,Int.toNat_natCast,Int.toNat_natCast,
   show decide ((0:Int)≤(0:Int)∧(0:Int)<((v::q).length:Int))=true from dT (by rw [List.length_cons];omega),kT,
   show decide ((0:Int)≤v∧v<((startsA g.2 g.1.toNat).length:Int))=true from dT (by rw [startsA_len];omega),kT,
   show decide ((0:Int)≤v+1∧v+1<((startsA g.2 g.1.toNat).length:Int))=true from dT (by rw [startsA_len];omega),kT,
   chk_eq (dT c1),chk_eq (dT c2),show (orderA g.2 v.toNat).length+(rowA g.2 v).length - (orderA g.2 v.toNat).length=(rowA g.2 v).length by omega]
  have:=f178.l1_is k n hg hc hf hsrc v.toNat (by omega) v k 0 o q (by omega) (by rw [hvn];omega) (by simp only [List.length_cons] at h8;omega) (by rw [hvn];exact hs)
  rw [hvn] at this
  refine this.trans ?_
  rw [List.drop_zero]
  simp only [bfs]
  simp only [List.length_cons] at h h8
  refine f178.l0_is k hg hc hf hsrc hk n _ _ (by omega) he.b (fun u hu h0 hq a ha hr=>?_) (by omega) (by omega)
  by_cases huv:u=v
  ·subst huv
   exact he.done a ha (by simp) hr
  ·exact he.old u hu h0 hq huv a ha hr
theorem bfs_more {g:Gr} (hg:graphMay g=true) {cs f:List Int} {src:Int} (hsrc:0≤src∧src<g.1):∀ (n m:Nat) (o q:List Int),Bf g cs f src o q →
  (∀ u,0≤u∧u<g.1→0≤rdI o u→u ∉ q→∀ a∈rowA g.2 u,roomA cs f a>0→0≤rdI o (arcTo g.2 a))→negs o+q.length<n→n≤m→bfs g.2 cs f m o q=bfs g.2 cs f n o q
 |0,m,o,q,_,_,h,_=>by omega
 |n+1,0,o,q,_,_,h,h'=>by omega
 |n+1,m+1,o,[],hb,hold,h,_=>rfl
 |n+1,m+1,o,v::q,hb,hold,h,h'=>by
  have hs:=Bs.start hb hold
  have hc:=scan_count hg hsrc hs
  have he:=fold_inv (scanS g.2 cs f v) (Bs g cs f src v) (rowA g.2 v) (o,q) (fun a t s hst=>hst.step hg hsrc) hs
  simp only [bfs]
  refine bfs_more hg hsrc n m _ _ he.b (fun u hu h0 hq a ha hr=>?_) (by simp only [List.length_cons] at h;dsimp only at hc;omega) (by omega)
  by_cases huv:u=v
  ·subst huv
   exact he.done a ha (by simp) hr
  ·exact he.old u hu h0 hq huv a ha hr
def levelsRes (g:Gr) (cs f:List Int) (src:Int):List Int×Int:=bif liesB g cs f&&hasV g.1 src then (levelsOf g cs f src,0) else ([],1000)
noncomputable def S178:Summ:=summ [tG,tL,tL,tI] (List Int×Int) (fun (d:Gr×(List Int×(List Int×Int)))=>chk (graphMay d.1) (some (levelsRes d.1 d.2.1 d.2.2.1 d.2.2.2))) resLE
theorem ok178:SumOk Tryz.prog 178 S178 :=
 sumq f178.E (fn:=Tryz.f178) (code:=f178.code) f178.sums f178.inl fun (d:Gr×(List Int×(List Int×Int))) x hx=>by
  obtain ⟨g,cs,f,src⟩:=d
  obtain ⟨hg,hx⟩:=chk_some hx
  have hg:graphMay g=true:=hg
  obtain rfl:=oJ hx
  have hp:=graphMay_parts hg
  refine ⟨33,(f178.eq _ g cs f src).trans ?_⟩
  show _=some (resLE (levelsRes g cs f src))
  unfold levelsRes
  rw [hg,kT,bS]
  cases h1:liesB g cs f with
  |false=>rw [nF,cT,fA,cF]
  |true =>
   rw [nT,cF,tA]
   cases h2:hasV g.1 src with
   |false=>rw [nF,cT,cF]
   |true =>
    have hsrc:=oD h2
    have h1':=h1
    simp only [liesB,bA] at h1'
    rw [nT,cF,cT,show ([(-1:Int)]==[(-1:Int)])=true by rfl,tA,show decide ((1:Int)≤g.1∧g.1≤8)=true from dT (by omega),kT,bS,List.length_replicate,
     show decide ((0:Int)≤src∧src<((g.1.toNat:Nat):Int))=true from dT (by omega),kT]
    obtain ⟨b1,b2⟩:=levels0_ok (g:=g) (cs:=cs) (f:=f) hsrc
    have hold:∀ u,0≤u∧u<g.1→0≤rdI (levels0 g.1.toNat src) u→u ∉ [src]→∀ a∈rowA g.2 u,roomA cs f a>0→0≤rdI (levels0 g.1.toNat src) (arcTo g.2 a):=fun u hu h0 hq=>by
     have hne:src ≠ u:=fun e=>hq (by simp [e])
     have:rdI (levels0 g.1.toNat src) u=-1:=by
      unfold levels0
      rw [rdI_set (by simp;omega) (by simp;omega),rdI_replicate (by omega),show (src==u)=false from beq_eq_false_iff_ne.2 hne,cF]
     omega
    refine (f178.l0_is 33 hg h1'.1 h1'.2 hsrc (by omega) 33 _ [src] (by omega) b1 hold (by simp only [List.length_singleton];omega) (by simp only [List.length_singleton];omega)).trans ?_
    unfold levelsOf
    rw [bfs_more hg hsrc 9 33 _ _ b1 hold (by simp only [List.length_singleton];omega) (by omega)]
end
section
set_option maxRecDepth 100000
noncomputable def f128.E (k:Nat):Env:=mkEnv tt [(178,S178)] [] [(128,6,[.kill (rg [(0,11),(13,24),(28,39)]),.tidy])] [] k
noncomputable def f128.code:Go.Code:=cd Tryz.f128
noncomputable def f128.l0 (k n:Nat) (p0:Int) (p1:Int) (p2:List Int) (p3:List Int):Option V :=
 atPath (f128.E k) n ⟨(.u::.u::.u::.u::.u::.u::.u::.u::.u::.u::.u::.u::(.slw 3145744)::.u::.u::.u::.u::.u::.u::.u::.u::.u::.u::.u::.u::(.slw 6553616)::(.int .i64 p0)::(.int .i64 p1)::un 12),[],[(3145744,.row qI p2),(6553616,.row qI p3)]⟩ 9 0 128 [.c 1,.c 1,.c 1,.c 1,.c 0,.c 1,.c 0] [] f128.code (finK tt Tryz.f128)
theorem f128.l0_eq (k n:Nat) (p0:Int) (p1:Int) (p2:List Int) (p3:List Int):f128.l0 k (n+1) p0 p1 p2 p3 =
 bif decide (p1<p0) then (chk (decide ((0:Int)≤p1∧p1<(↑p3.length:Int))) (bif decide (rd qI p3 (↑p1.toNat:Int) ≥ (0:Int)) then (chk (decide ((p2++[p1]).length*8≤140737488355328)) (f128.l0 k n p0 (Go.IntKind.i64.wrap (p1+(1:Int))) (p2++[p1]) p3)) else (f128.l0 k n p0 (Go.IntKind.i64.wrap (p1+(1:Int))) p2 p3))) else (some (.tup [(.own qI p2),(.int .i64 0)])):=by kernel_rfl
theorem f128.eq (k:Nat) (x0:Int×List (eL)) (x1:List Int) (x2:List Int) (x3:Int):evFn (f128.E k) 9 128 Tryz.f128 (encL [(.pair qI (.list qL)),(.list qI),(.list qI),qI] (x0,x1,x2,x3)) =
 (chk (graphMay x0) (some (levelsRes x0 x1 x2 x3))).bind (fun y0=>bif y0.2 != (0:Int) then (some (.tup [(.own qI ([])),(.int .i64 1300)])) else (f128.l0 k k ((↑y0.1.length:Int)) 0 ([]) y0.1)):=by kernel_rfl
theorem f128.inl (k:Nat):InlOk Tryz.prog (f128.E k):=inl_nil
theorem f128.sums (k:Nat):SumsOk Tryz.prog (f128.E k):=(sums_cons ok178 sums_nil)
end
section
def reachL (o:List Int):List Int:=(upto o.length).filter fun v=>decide (rdI o v ≥ 0)
def reachRes (g:Gr) (cs f:List Int) (src:Int):List Int×Int:=bif (levelsRes g cs f src).2 != 0 then ([],1300) else (reachL (levelsRes g cs f src).1,0)
theorem f128.l0_is (k:Nat) (o:List Int) (ho:o.length≤8):∀ (n i:Nat) (out:List Int),i≤o.length→o.length<n+i→out.length≤i →
  f128.l0 k n (o.length:Int) (i:Int) out o=some (resLE (out++((upto o.length).drop i).filter (fun v=>decide (rdI o v ≥ 0)),0))
 |0,i,out,h,h',_=>by omega
 |n+1,i,out,h,h',hl=>by
  by_cases hlt:i<o.length
  ·have hu:i<(upto o.length).length:=by rw [upto_length];exact hlt
   have hg:(upto o.length)[i]=(i:Int):=(List.getElem?_eq_some_iff.1 (upto_get hlt)).2
   have hx:=gE hlt
   have e:rd (Ty.int Go.IntKind.i64) o (((i:Int).toNat:Nat):Int)=rdI o (i:Int):=rdI_nat _ _
   rw [f128.l0_eq,idx_lt' hx,cT,idx_in hx,kT,e,drop_filter _ hu,hg,wrap_succ (by omega)]
   cases hd:decide (rdI o (i:Int) ≥ 0) with
   |true =>
    rw [cT,cT,chk_eq (dT (by rw [lA,List.length_singleton];omega)),f128.l0_is k o ho n (i+1) _ (by omega) (by omega) (by rw [lA,List.length_singleton];omega),List.append_assoc]
    rfl
   |false=>rw [cF,cF,f128.l0_is k o ho n (i+1) _ (by omega) (by omega) (by omega)]
  ·obtain rfl:i=o.length:=by omega
   rw [f128.l0_eq,end_lt,cF,List.drop_eq_nil_of_le (by rw [upto_length];omega),List.filter_nil,List.append_nil]
theorem levels_len {g:Gr} (hg:graphMay g=true) {cs f:List Int} {src:Int} (h:(levelsRes g cs f src).2=0):levelsRes g cs f src=(levelsOf g cs f src,0)∧(0≤src∧src<g.1)∧liesB g cs f=true∧(levelsOf g cs f src).length=g.1.toNat:=by
 unfold levelsRes at h ⊢
 cases hc:liesB g cs f&&hasV g.1 src with
 |false=>rw [hc,cF] at h;cases h
 |true =>
  rw [cT]
  rw [bA] at hc
  have hs:=oD hc.2
  exact ⟨rfl,hs,hc.1,(levels_ok hg hs).lv.len⟩
noncomputable def S128:Summ:=summ [tG,tL,tL,tI] (List Int×Int) (fun (d:Gr×(List Int×(List Int×Int)))=>chk (graphMay d.1) (some (reachRes d.1 d.2.1 d.2.2.1 d.2.2.2))) resLE
theorem ok128:SumOk Tryz.prog 128 S128 :=
 sumq f128.E (fn:=Tryz.f128) (code:=f128.code) f128.sums f128.inl fun (d:Gr×(List Int×(List Int×Int))) x hx=>by
  obtain ⟨g,cs,f,src⟩:=d
  obtain ⟨hg,hx⟩:=chk_some hx
  have hg:graphMay g=true:=hg
  obtain rfl:=oJ hx
  have hp:=graphMay_parts hg
  refine ⟨9,(f128.eq _ g cs f src).trans ?_⟩
  show _=some (resLE (reachRes g cs f src))
  unfold reachRes
  rw [hg,kT,bS]
  cases h:(levelsRes g cs f src).2 != 0 with
  |true=>rw [cT,cT]
  |false =>
   obtain ⟨e,_,_,hl⟩:=levels_len hg (by simpa using h:(levelsRes g cs f src).2=0)
   rw [cF,cF,e]
   have:=f128.l0_is 9 (levelsOf g cs f src) (by omega) 9 0 [] (by omega) (by omega) (by simp)
   refine this.trans ?_
   rw [List.nil_append,List.drop_zero]
   rfl
end
section
def stepsB (gl:List Lk) (cs f lv:List Int) (v a:Int):Bool:=(rdI lv (arcTo gl a)==rdI lv v+1)&&decide (roomA cs f a>0)
def WayOk (gl:List Lk) (cs f lv:List Int):Int→List Int→Prop
 |_,[]=>True
 |v,a::ws=>a∈rowA gl v∧stepsB gl cs f lv v a=true∧WayOk gl cs f lv (arcTo gl a) ws
def endA (gl:List Lk):Int→List Int→Int
 |v,[]=>v
 |_,a::ws=>endA gl (arcTo gl a) ws
theorem endA_snoc (gl:List Lk):∀ (ws:List Int) (v a:Int),endA gl v (ws++[a])=arcTo gl a
 | [],v,a=>rfl
 |b::ws,v,a=>endA_snoc gl ws (arcTo gl b) a
theorem WayOk.snoc {gl:List Lk} {cs f lv:List Int}:∀ {ws:List Int} {v a:Int},WayOk gl cs f lv v ws→a∈rowA gl (endA gl v ws)→stepsB gl cs f lv (endA gl v ws) a=true→WayOk gl cs f lv v (ws++[a])
 | [],v,a,_,h1,h2=>⟨h1,h2,trivial⟩
 |b::ws,v,a,h,h1,h2=>⟨h.1,h.2.1,WayOk.snoc h.2.2 h1 h2⟩
theorem WayOk.front {gl:List Lk} {cs f lv:List Int}:∀ {ws:List Int} {v a:Int},WayOk gl cs f lv v (ws++[a])→WayOk gl cs f lv v ws∧a∈rowA gl (endA gl v ws)∧stepsB gl cs f lv (endA gl v ws) a=true
 | [],v,a,h=>⟨trivial,h.1,h.2.1⟩
 |b::ws,v,a,h=>by
  obtain ⟨h1,h2,h3⟩:=WayOk.front h.2.2
  exact ⟨⟨h.1,h.2.1,h1⟩,h2,h3⟩
theorem stepsB_lv {gl:List Lk} {cs f lv:List Int} {v a:Int} (h:stepsB gl cs f lv v a=true):rdI lv (arcTo gl a)=rdI lv v+1∧roomA cs f a>0:=by
 unfold stepsB at h
 rw [bA] at h
 exact ⟨eq_of_beq h.1,oD h.2⟩
theorem WayOk.lv {gl:List Lk} {cs f lv:List Int}:∀ {ws:List Int} {v:Int},WayOk gl cs f lv v ws→rdI lv (endA gl v ws)=rdI lv v+ws.length
 | [],v,_=>by simp [endA]
 |a::ws,v,h=>by
  have h1:=stepsB_lv h.2.1
  have h2:=WayOk.lv h.2.2
  simp only [endA,List.length_cons]
  omega
theorem WayOk.below {gl:List Lk} {cs f lv:List Int}:∀ {ws:List Int} {v:Int},WayOk gl cs f lv v ws→∀ a∈ws,arcIn gl.length a=true∧rdI lv v≤rdI lv (arcFrom gl a)∧rdI lv (arcFrom gl a)<rdI lv (endA gl v ws)∧rdI lv (arcTo gl a)=rdI lv (arcFrom gl a)+1∧roomA cs f a>0
 | [],v,_,a,ha=>by simp at ha
 |b::ws,v,h,a,ha=>by
  have h1:=stepsB_lv h.2.1
  have h0:=WayOk.lv h.2.2
  have hm:=rowA_mem.1 h.1
  rcases List.mem_cons.1 ha with rfl|ha
  ·simp only [endA]
   rw [hm.2]
   exact ⟨hm.1,Int.le_refl _,by omega,h1.1,h1.2⟩
  ·obtain ⟨c1,c2,c3,c4,c5⟩:=WayOk.below h.2.2 a ha
   exact ⟨c1,by omega,c3,c4,c5⟩
theorem WayOk.verts {g:Gr} (hg:graphMay g=true) {cs f lv:List Int}:∀ {ws:List Int} {v:Int},(0≤v∧v<g.1)→WayOk g.2 cs f lv v ws→0≤endA g.2 v ws∧endA g.2 v ws<g.1
 | [],v,hv,_=>hv
 |a::ws,v,hv,h=>WayOk.verts (ws:=ws) (v:=arcTo g.2 a) hg (arcTo_in hg (rowA_mem.1 h.1).1) h.2.2
theorem arc_same {gl:List Lk} {a b:Int} (h:arcL a=arcL b):(arcFrom gl a=arcFrom gl b∧arcTo gl a=arcTo gl b)∨(arcFrom gl a=arcTo gl b∧arcTo gl a=arcFrom gl b):=by
 unfold arcFrom arcTo
 rw [h]
 cases backB a <;> cases backB b <;> simp only [cT,cF,and_self,true_or,or_true]
theorem WayOk.links {gl:List Lk} {cs f lv:List Int}:∀ {ws:List Int} {v:Int},WayOk gl cs f lv v ws→ws.Pairwise fun a b=>arcL a ≠ arcL b
 | [],v,_=>.nil
 |a::ws,v,h=>by
  refine List.Pairwise.cons (fun b hb he=>?_) (WayOk.links h.2.2)
  have h1:=stepsB_lv h.2.1
  have hm:=(rowA_mem.1 h.1).2
  obtain ⟨_,c2,_,c4,_⟩:=WayOk.below h.2.2 b hb
  rw [hm.symm] at h1
  rcases arc_same (gl:=gl) he with ⟨e1,e2⟩|⟨e1,e2⟩
  ·rw [e2] at c2;omega
  ·rw [e1,e2] at h1;omega
theorem gain_set:∀ {gl:List Lk} {f:List Int} {i:Nat} {l:Lk} {x:Int} (d v:Int),gl[i]? = some l→f[i]? = some x →
  gainV gl (f.set i (x+d)) v=gainV gl f v+((bif l.1==v then d else 0) - (bif l.2.1==v then d else 0))
 |l::gl,x::f,0,l',x',d,v,h1,h2=>by
  simp only [List.getElem?_cons_zero,sI] at h1 h2
  subst h1 h2
  simp only [List.set_cons_zero,gainV]
  cases l.1==v <;> cases l.2.1==v <;> simp only [cT,cF] <;> omega
 |l::gl,x::f,i+1,l',x',d,v,h1,h2=>by
  have ih:=gain_set (gl:=gl) (f:=f) (i:=i) d v (by simpa using h1) (by simpa using h2)
  simp only [List.set_cons_succ,gainV]
  rw [ih]
  omega
 | [],_,_,_,_,_,_,h1,_=>by simp at h1
 |_::_,[],_,_,_,_,_,_,h2=>by simp at h2
theorem lk_get {gl:List Lk} {a:Int} (ha:arcIn gl.length a=true):gl[(arcL a).toNat]? = some (lk gl (arcL a)):=by
 have hL:=arcL_lt ha
 have hi:(arcL a).toNat<gl.length:=by omega
 rw [gE hi]
 have:=rd_some (t:=tLk) (gE hi)
 rw [show (((arcL a).toNat:Nat):Int)=arcL a by omega] at this
 exact congrArg some this.symm
theorem gain_move {gl:List Lk} {f:List Int} (hl:f.length=gl.length) {a:Int} (ha:arcIn gl.length a=true) (b v:Int) :
  gainV gl (moveA f b a) v=gainV gl f v+((bif arcFrom gl a==v then b else 0) - (bif arcTo gl a==v then b else 0)):=by
 have hL:=arcL_lt ha
 have h1:=lk_get ha
 have h2:=rdI_get (f:=f) (i:=arcL a) (by omega)
 unfold moveA
 rw [gain_set _ v h1 h2]
 unfold arcFrom arcTo
 cases backB a <;> simp only [cT,cF] <;> cases (lk gl (arcL a)).1==v <;> cases (lk gl (arcL a)).2.1==v <;> simp only [cT,cF] <;> omega
def moves (b:Int) (f:List Int) (ws:List Int):List Int:=ws.foldl (fun f a=>moveA f b a) f
theorem room_other {cs f:List Int} {b a c:Int} (hl:f.length=cs.length) (ha:arcIn cs.length a=true) (hc:arcIn cs.length c=true) (hne:arcL a ≠ arcL c):roomA cs (moveA f b a) c=roomA cs f c:=by
 have h1:=arcL_lt ha
 have h2:=arcL_lt hc
 unfold roomA
 rw [moveA_at (by omega) (by omega),show (arcL a==arcL c)=false by simpa using hne,cF]
theorem moveL_moves {cs:List Int} {b:Int}:∀ {ws f:List Int},f.length=cs.length→(∀ a∈ws,arcIn cs.length a=true∧b≤roomA cs f a)→(ws.Pairwise fun a c=>arcL a ≠ arcL c)→moveL cs b f ws=some (moves b f ws)
 | [],f,_,_,_=>rfl
 |a::ws,f,hl,hw,hp=>by
  obtain ⟨h1,h2⟩:=hw a (by simp)
  cases hp with
  |cons hp1 hp2 =>
   simp only [moveL]
   rw [show decide (roomA cs f a<b)=false from dF (by omega),cF]
   refine moveL_moves (by rw [moveA_len];exact hl) (fun c hc=>?_) hp2
   obtain ⟨c1,c2⟩:=hw c (by simp [hc])
   exact ⟨c1,by rw [room_other hl h1 c1 (hp1 c hc)];exact c2⟩
theorem gain_moves {gl:List Lk} {cs f0 lv:List Int} {b v:Int}:∀ {ws f:List Int} {u:Int},f.length=gl.length→WayOk gl cs f0 lv u ws →
  gainV gl (moves b f ws) v=gainV gl f v+((bif u==v then b else 0) - (bif endA gl u ws==v then b else 0))
 | [],f,u,_,_=>by simp only [moves,List.foldl_nil,endA];omega
 |a::ws,f,u,hl,h=>by
  have hm:=rowA_mem.1 h.1
  have:=gain_moves (b:=b) (v:=v) (f:=moveA f b a) (by rw [moveA_len];exact hl) h.2.2
  have e:moves b f (a::ws)=moves b (moveA f b a) ws:=rfl
  rw [e,this,gain_move hl hm.1,hm.2]
  simp only [endA]
  omega
theorem moves_other {b:Int} {n:Nat}:∀ {ws f:List Int} {i:Int},f.length=n→(∀ a∈ws,arcIn n a=true)→(0≤i∧i<(n:Int))→(∀ a∈ws,arcL a ≠ i)→rdI (moves b f ws) i=rdI f i
 | [],f,i,_,_,_,_=>rfl
 |a::ws,f,i,hl,hw,hi,hn=>by
  have e:moves b f (a::ws)=moves b (moveA f b a) ws:=rfl
  have h1:=arcL_lt (hw a (by simp))
  rw [e,moves_other (by rw [moveA_len];exact hl) (fun c hc=>hw c (by simp [hc])) hi (fun c hc=>hn c (by simp [hc])),moveA_at (by omega) (by omega),
   show (arcL a==i)=false from beq_eq_false_iff_ne.2 (hn a (by simp)),cF]
inductive LReach (gl:List Lk) (cs f lv:List Int) (dst:Int):Int→Prop
 |here:LReach gl cs f lv dst dst
 |step {v a:Int}:a∈rowA gl v→stepsB gl cs f lv v a=true→LReach gl cs f lv dst (arcTo gl a)→LReach gl cs f lv dst v
theorem LReach.append {gl:List Lk} {cs f lv:List Int} {dst v a:Int} (h:LReach gl cs f lv (arcFrom gl a) v) (ha:arcIn gl.length a=true) (hs:stepsB gl cs f lv (arcFrom gl a) a=true) (hd:arcTo gl a=dst):LReach gl cs f lv dst v:=by
 induction h with
 |here=>exact .step (rowA_mem.2 ⟨ha,rfl⟩) hs (hd▸.here)
 |step h1 h2 _ ih=>exact .step h1 h2 ih
theorem levels_reach {g:Gr} {cs f:List Int} {src:Int} {lv:List Int} (h:LevelsOk g cs f src lv) (hsrc:0≤src∧src<g.1):∀ (n:Nat) (w:Int),(0≤w∧w<g.1)→rdI lv w=(n:Int)→LReach g.2 cs f lv w src
 |0,w,hw,hn=>by
  by_cases he:w=src
  ·subst he;exact .here
  ·obtain ⟨v,a,_,_,_,_,h5,h6⟩:=h.back w hw (by omega) he
   omega
 |n+1,w,hw,hn=>by
  have he:w ≠ src:=by
   rintro rfl
   have:=h.src0
   omega
  obtain ⟨v,a,h1,h2,h3,h4,h5,h6⟩:=h.back w hw (by omega) he
  have ih:=levels_reach h hsrc n v h1 (by omega)
  have hm:=rowA_mem.1 h2
  rw [← hm.2] at ih h6
  refine ih.append hm.1 ?_ h3
  unfold stepsB
  rw [h3,h6,dT h4]
  simp
theorem unreached {g:Gr} {cs f:List Int} {src dst:Int} {lv:List Int} (h:LevelsOk g cs f src lv) (hsrc:0≤src∧src<g.1) (hdst:0≤dst∧dst<g.1) (hd:¬ LReach g.2 cs f lv dst src):rdI lv dst<0:=by
 by_cases h0:rdI lv dst<0
 ·exact h0
 ·exact absurd (levels_reach h hsrc (rdI lv dst).toNat dst hdst (by omega)) hd
theorem foldl_min_le:∀ (xs:List Int) (x:Int),xs.foldl min x≤x∧(∀ y∈xs,xs.foldl min x≤y)
 | [],x=>⟨Int.le_refl _,by simp⟩
 |y::xs,x=>by
  obtain ⟨h1,h2⟩:=foldl_min_le xs (min x y)
  rw [List.foldl_cons]
  refine ⟨by omega,fun z hz=>?_⟩
  rcases List.mem_cons.1 hz with rfl|hz
  ·omega
  ·exact h2 z hz
theorem foldl_min_ge {m:Int}:∀ (xs:List Int) (x:Int),m≤x→(∀ y∈xs,m≤y)→m≤xs.foldl min x
 | [],x,h,_=>h
 |y::xs,x,h,h'=>by
  rw [List.foldl_cons]
  have:=h' y (by simp)
  exact foldl_min_ge xs _ (by omega) fun z hz=>h' z (by simp [hz])
end
section
set_option maxRecDepth 100000
noncomputable def f177.E (k:Nat):Env:=mkEnv tt [(78,S78),(122,S122),(178,S178),(179,S179),(210,S210),(212,S212),(214,S214),(217,S217)] [(211,Tryz.f211),(213,Tryz.f213),(241,Tryz.f241),(260,Tryz.f260)] [(177,7,[.kill (rg [(0,0),(2,2),(7,18),(21,97)]),.tidy,.tidy]),(211,3,[.kill (rg [(1,1),(3,6),(9,72)]),.reb 0,.reb 2,.reb 7,.reb 8,.tidy]),(213,3,[.kill (rg [(1,4),(6,7),(11,28)]),.tidy]),(241,1,[.kill (rg [(2,51)]),.tidy])] [(211,4096,(rg [(0,0),(2,2),(7,18),(21,63),(65,97)])),(241,263872,(rg [(1,1),(3,6),(9,26),(28,72)])),(213,4672,(rg [(0,0),(2,2),(7,18),(22,69),(71,72),(74,97)]))] k
noncomputable def f177.code:Go.Code:=cd Tryz.f177
noncomputable def f177.l0 (k n:Nat) (p0:List Int) (p1:Int) (p2:Int) (p3:Int) (p4:Int) (p5:Int) (p6:List (eL)) (p7:List Int) (p8:List Int) (p9:List Int) (p10:List Int) (p11:List Int) (p12:List Int):Option V :=
 atPath (f177.E k) n ⟨(.u::(.ro qI p0)::.u::(.int .i64 p1)::(.int .i64 p2)::(.int .i64 p3)::(.ptr 1572880 (0) (0))::.u::.u::.u::.u::.u::.u::.u::.u::.u::.u::.u::.u::(.ptr 4980752 (0) (0))::(.int .i64 p4)::un 77),[],[(1572880,.box [(.int .i64 p5),(.ro qL p6)]),(4980752,.box [(.slw 1305674252336),(.slw 1305674252400),(.slw 1305674252464),(.slw 1305674252528),(.ro qI p0),(.slw 1305674252656),(.slw 1305674252720)]),(1305674252336,.row qI p7),(1305674252400,.row qI p8),(1305674252464,.row qI p9),(1305674252528,.row qI p10),(1305674252656,.row qI p11),(1305674252720,.row qI p12)]⟩ 9 0 177 [.c 1,.c 1,.c 1,.c 1,.c 1,.c 1,.c 0,.c 0] [] f177.code (finK tt Tryz.f177)
noncomputable def f177.l1 (k n m0:Nat) (p0:Int) (p1:List Int) (p2:Int) (p3:Int) (p4:Int) (p5:List Int) (p6:List Int) (p7:List Int) (p8:List Int) (p9:List Int) (p10:List Int) (p11:List Int) (p12:List Int) (p13:Int) (p14:List (eL)):Option V :=
 atPath (f177.E k) n ⟨((.ptr 16 (0) (0))::.u::(.int .i64 p0)::.u::.u::.u::.u::(.slw 1835024)::(.slw 2097168)::un 64),[(.u::(.ro qI p1)::.u::(.int .i64 p2)::(.int .i64 p0)::(.int .i64 p3)::(.ptr 1075314704 (0) (0))::.u::.u::.u::.u::.u::.u::.u::.u::.u::.u::.u::.u::(.ptr 16 (0) (0))::(.int .i64 p4)::un 77)],[(16,.box [(.slw 4194352),(.slw 4194416),(.slw 4194480),(.slw 4194544),(.ro qI p1),(.slw 4194672),(.slw 4194736)]),(1835024,.row qI p5),(2097168,.row qI p6),(4194352,.row qI p7),(4194416,.row qI p8),(4194480,.row qI p9),(4194544,.row qI p10),(4194672,.row qI p11),(4194736,.row qI p12),(1075314704,.box [(.int .i64 p13),(.ro qL p14)])]⟩ 9 0 177 [.c 1,.c 1,.c 1,.c 1,.c 1,.c 1,.c 0,.c 0,.c 0,.c 1,.c 0,.c 0,.call 3 211,.c 1,.c 1,.c 1,.c 0] [m0] f177.code (finK tt Tryz.f177)
noncomputable def f177.l2 (k n m0:Nat) (p0:Int) (p1:Int) (p2:List Int) (p3:Int) (p4:Int) (p5:Int) (p6:Int) (p7:Int) (p8:List Int) (p9:List Int) (p10:List Int) (p11:List Int) (p12:List Int) (p13:List Int) (p14:List Int) (p15:List Int) (p16:Int) (p17:List (eL)):Option V :=
 atPath (f177.E k) n ⟨((.ptr 16 (0) (0))::.u::.u::.u::.u::(.slw 1310736)::.u::.u::(.slw 2097168)::(.int .i64 p0)::(.int .i64 p1)::un 18),[(.u::(.ro qI p2)::.u::(.int .i64 p3)::(.int .i64 p4)::(.int .i64 p5)::(.ptr 1075314704 (0) (0))::.u::.u::.u::.u::.u::.u::.u::.u::.u::.u::.u::.u::(.ptr 16 (0) (0))::(.int .i64 p6)::(.slw 2097168)::.u::.u::.u::.u::.u::.u::.u::.u::.u::.u::.u::.u::.u::.u::.u::.u::.u::.u::.u::.u::.u::.u::.u::.u::.u::.u::.u::.u::.u::.u::.u::.u::.u::.u::.u::.u::.u::.u::.u::.u::.u::.u::.u::.u::.u::.u::.u::.u::(.int .i64 p7)::un 27)],[(16,.box [(.slw 4194352),(.slw 4194416),(.slw 4194480),(.slw 4194544),(.ro qI p2),(.slw 4194672),(.slw 4194736)]),(1310736,.row qI p8),(2097168,.row qI p9),(4194352,.row qI p10),(4194416,.row qI p11),(4194480,.row qI p12),(4194544,.row qI p13),(4194672,.row qI p14),(4194736,.row qI p15),(1075314704,.box [(.int .i64 p16),(.ro qL p17)])]⟩ 9 0 177 [.c 1,.c 1,.c 1,.c 1,.c 1,.c 1,.c 0,.c 0,.c 0,.c 1,.c 0,.c 1,.c 1,.c 0,.call 5 213,.c 1,.c 1,.c 0,.c 1,.c 0] [m0] f177.code (finK tt Tryz.f177)
noncomputable def f177.l3 (k n m0 m1:Nat) (p0:Int) (p1:Int) (p2:List Int) (p3:Int) (p4:Int) (p5:Int) (p6:List Int) (p7:List Int) (p8:List Int) (p9:List Int) (p10:List Int) (p11:List Int) (p12:List Int) (p13:List Int) (p14:Int) (p15:List (eL)):Option V :=
 atPath (f177.E k) n ⟨((.ptr 16 (0) (0))::(.int .i64 p0)::un 50),[((.ptr 16 (0) (0))::.u::(.int .i64 p1)::.u::.u::.u::.u::(.slw 1075576848)::(.slw 1075838992)::un 64),(.u::(.ro qI p2)::.u::(.int .i64 p3)::(.int .i64 p1)::(.int .i64 p4)::(.ptr 2149056528 (0) (0))::.u::.u::.u::.u::.u::.u::.u::.u::.u::.u::.u::.u::(.ptr 16 (0) (0))::(.int .i64 p5)::un 77)],[(16,.box [(.slw 4194352),(.slw 4194416),(.slw 4194480),(.slw 4194544),(.ro qI p2),(.slw 4194672),(.slw 4194736)]),(4194352,.row qI p6),(4194416,.row qI p7),(4194480,.row qI p8),(4194544,.row qI p9),(4194672,.row qI p10),(4194736,.row qI p11),(1075576848,.row qI p12),(1075838992,.row qI p13),(2149056528,.box [(.int .i64 p14),(.ro qL p15)])]⟩ 9 0 177 [.c 1,.c 1,.c 1,.c 1,.c 1,.c 1,.c 0,.c 0,.c 0,.c 1,.c 0,.c 0,.call 3 211,.c 1,.c 1,.c 1,.c 0,.c 0,.c 0,.c 1,.c 1,.c 0,.c 0,.call 2 241,.c 1,.c 0,.c 0] [m0,m1] f177.code (finK tt Tryz.f177)
theorem f177.l0_eq (k n:Nat) (p0:List Int) (p1:Int) (p2:Int) (p3:Int) (p4:Int) (p5:Int) (p6:List (eL)) (p7:List Int) (p8:List Int) (p9:List Int) (p10:List Int) (p11:List Int) (p12:List Int):f177.l0 k (n+1) p0 p1 p2 p3 p4 p5 p6 p7 p8 p9 p10 p11 p12 =
 bif decide (p4<p3) then (f177.l1 k k n p2 p0 p1 p3 p4 ([]) ([p1]) p7 p8 p9 p10 p11 p12 p5 p6) else (some (.tup [(.own qI p11),(.int .i64 p4),(.int .i64 0)])):=by kernel_rfl
theorem f177.l1_eq (k n m0:Nat) (p0:Int) (p1:List Int) (p2:Int) (p3:Int) (p4:Int) (p5:List Int) (p6:List Int) (p7:List Int) (p8:List Int) (p9:List Int) (p10:List Int) (p11:List Int) (p12:List Int) (p13:Int) (p14:List (eL)):f177.l1 k (n+1) m0 p0 p1 p2 p3 p4 p5 p6 p7 p8 p9 p10 p11 p12 p13 p14 =
 chk (decide ((0:Int)≤Go.IntKind.i64.wrap ((↑p6.length:Int) - (1:Int))∧Go.IntKind.i64.wrap ((↑p6.length:Int) - (1:Int))<(↑p6.length:Int))) (bif rd qI p6 (↑(Go.IntKind.i64.wrap ((↑p6.length:Int) - (1:Int))).toNat:Int)==p0 then (bif (↑p5.length:Int)==(0:Int) then (some (.tup [(.own qI p11),(.int .i64 p4),(.int .i64 0)])) else (f177.l2 k k m0 ((↑p5.length:Int)) 0 p1 p2 p0 p3 p4 (Go.IntKind.i64.wrap (p3 - p4)) ([]) p5 p7 p8 p9 p10 p11 p12 p13 p14)) else (f177.l3 k k m0 n (rd qI p6 (↑(Go.IntKind.i64.wrap ((↑p6.length:Int) - (1:Int))).toNat:Int)) p0 p1 p2 p3 p4 p7 p8 p9 p10 p11 p12 p5 p6 p13 p14)):=by kernel_rfl
theorem f177.l2_eq (k n m0:Nat) (p0:Int) (p1:Int) (p2:List Int) (p3:Int) (p4:Int) (p5:Int) (p6:Int) (p7:Int) (p8:List Int) (p9:List Int) (p10:List Int) (p11:List Int) (p12:List Int) (p13:List Int) (p14:List Int) (p15:List Int) (p16:Int) (p17:List (eL)):f177.l2 k (n+1) m0 p0 p1 p2 p3 p4 p5 p6 p7 p8 p9 p10 p11 p12 p13 p14 p15 p16 p17 =
 bif decide (p1<p0) then (chk (decide ((0:Int)≤p1∧p1<(↑p9.length:Int))) ((chk (decide (p2.length≤16∧p14.length=p2.length)&&(arcIn p2.length (rd qI p9 (↑p1.toNat:Int))&&rateB (roomA p2 p14 (rd qI p9 (↑p1.toNat:Int))))) (some (roomA p2 p14 (rd qI p9 (↑p1.toNat:Int))))).bind (fun y0=>chk (decide ((p8++[y0]).length*8≤140737488355328)) (f177.l2 k n m0 p0 (Go.IntKind.i64.wrap (p1+(1:Int))) p2 p3 p4 p5 p6 p7 (p8++[y0]) p9 p10 p11 p12 p13 p14 p15 p16 p17)))) else ((chk (decide (p8.length<4611686018427387904)) (some (List.foldl min p7 p8))).bind (fun y0=>both (f177.l0 k m0 p2 p3 p4 p5 (Go.IntKind.i64.wrap (p6+y0)) p16 p17 p10 p11 p12 p13 ((moveOf (p16,p17) p2 p14 y0 p9).1) p15) (f177.l0 k m0 p2 p3 p4 p5 (Go.IntKind.i64.wrap (p6+y0)) p16 p17 p10 p11 p12 p13 ((moveOf (p16,p17) p2 p14 y0 p9).1) p15))):=by kernel_rfl
theorem f177.l3_eq (k n m0 m1:Nat) (p0:Int) (p1:Int) (p2:List Int) (p3:Int) (p4:Int) (p5:Int) (p6:List Int) (p7:List Int) (p8:List Int) (p9:List Int) (p10:List Int) (p11:List Int) (p12:List Int) (p13:List Int) (p14:Int) (p15:List (eL)):f177.l3 k (n+1) m0 m1 p0 p1 p2 p3 p4 p5 p6 p7 p8 p9 p10 p11 p12 p13 p14 p15 =
 chk (decide ((0:Int)≤p0∧p0<(↑p11.length:Int))) (chk (decide ((0:Int)≤Go.IntKind.i64.wrap (p0+(1:Int))∧Go.IntKind.i64.wrap (p0+(1:Int))<(↑p6.length:Int))) (bif decide (rd qI p11 (↑p0.toNat:Int)<rd qI p6 (↑(Go.IntKind.i64.wrap (p0+(1:Int))).toNat:Int)) then (chk (decide ((0:Int)≤p0∧p0<(↑p11.length:Int))) (chk (decide ((0:Int)≤rd qI p11 (↑p0.toNat:Int)∧rd qI p11 (↑p0.toNat:Int)<(↑p7.length:Int))) (chk (decide ((0:Int)≤rd qI p7 (↑(Int.toNat (rd qI p11 (↑p0.toNat:Int))):Int)∧rd qI p7 (↑(Int.toNat (rd qI p11 (↑p0.toNat:Int))):Int)<(↑p8.length:Int))) (chk (decide ((0:Int)≤rd qI p8 (↑(Int.toNat (rd qI p7 (↑(Int.toNat (rd qI p11 (↑p0.toNat:Int))):Int))):Int)∧rd qI p8 (↑(Int.toNat (rd qI p7 (↑(Int.toNat (rd qI p11 (↑p0.toNat:Int))):Int))):Int)<(↑p9.length:Int))) (chk (decide ((0:Int)≤p0∧p0<(↑p9.length:Int))) (bif rd qI p9 (↑(Int.toNat (rd qI p8 (↑(Int.toNat (rd qI p7 (↑(Int.toNat (rd qI p11 (↑p0.toNat:Int))):Int))):Int))):Int)==Go.IntKind.i64.wrap (rd qI p9 (↑p0.toNat:Int)+(1:Int)) then ((chk (decide (p2.length≤16∧p10.length=p2.length)&&(arcIn p2.length (rd qI p7 (↑(Int.toNat (rd qI p11 (↑p0.toNat:Int))):Int))&&rateB (roomA p2 p10 (rd qI p7 (↑(Int.toNat (rd qI p11 (↑p0.toNat:Int))):Int))))) (some (roomA p2 p10 (rd qI p7 (↑(Int.toNat (rd qI p11 (↑p0.toNat:Int))):Int))))).bind (fun y0=>bif decide (y0>(0:Int)) then (both (both (chk (decide ((p12++[rd qI p7 (↑(Int.toNat (rd qI p11 (↑p0.toNat:Int))):Int)]).length*8≤140737488355328)) (chk (decide ((0:Int)≤rd qI p7 (↑(Int.toNat (rd qI p11 (↑p0.toNat:Int))):Int)∧rd qI p7 (↑(Int.toNat (rd qI p11 (↑p0.toNat:Int))):Int)<(↑p8.length:Int))) (chk (decide ((p13++[rd qI p8 (↑(Int.toNat (rd qI p7 (↑(Int.toNat (rd qI p11 (↑p0.toNat:Int))):Int))):Int)]).length*8≤140737488355328)) (f177.l1 k m1 m0 p1 p2 p3 p4 p5 (p12++[rd qI p7 (↑(Int.toNat (rd qI p11 (↑p0.toNat:Int))):Int)]) (p13++[rd qI p8 (↑(Int.toNat (rd qI p7 (↑(Int.toNat (rd qI p11 (↑p0.toNat:Int))):Int))):Int)]) p6 p7 p8 p9 p10 p11 p14 p15)))) (chk (decide ((0:Int)≤rd qI p7 (↑(Int.toNat (rd qI p11 (↑p0.toNat:Int))):Int)∧rd qI p7 (↑(Int.toNat (rd qI p11 (↑p0.toNat:Int))):Int)<(↑p8.length:Int))) (both (chk (decide ((p12++[rd qI p7 (↑(Int.toNat (rd qI p11 (↑p0.toNat:Int))):Int)]).length*8≤140737488355328)) (chk (decide ((p13++[rd qI p8 (↑(Int.toNat (rd qI p7 (↑(Int.toNat (rd qI p11 (↑p0.toNat:Int))):Int))):Int)]).length*8≤140737488355328)) (f177.l1 k m1 m0 p1 p2 p3 p4 p5 (p12++[rd qI p7 (↑(Int.toNat (rd qI p11 (↑p0.toNat:Int))):Int)]) (p13++[rd qI p8 (↑(Int.toNat (rd qI p7 (↑(Int.toNat (rd qI p11 (↑p0.toNat:Int))):Int))):Int)]) p6 p7 p8 p9 p10 p11 p14 p15))) (both (chk (decide ((p12++[rd qI p7 (↑(Int.toNat (rd qI p11 (↑p0.toNat:Int))):Int)]).length*8≤140737488355328)) (chk (decide ((p13++[rd qI p8 (↑(Int.toNat (rd qI p7 (↑(Int.toNat (rd qI p11 (↑p0.toNat:Int))):Int))):Int)]).length*8≤140737488355328)) (f177.l1 k m1 m0 p1 p2 p3 p4 p5 (p12++[rd qI p7 (↑(Int.toNat (rd qI p11 (↑p0.toNat:Int))):Int)]) (p13++[rd qI p8 (↑(Int.toNat (rd qI p7 (↑(Int.toNat (rd qI p11 (↑p0.toNat:Int))):Int))):Int)]) p6 p7 p8 p9 p10 p11 p14 p15))) (chk (decide ((p12++[rd qI p7 (↑(Int.toNat (rd qI p11 (↑p0.toNat:Int))):Int)]).length*8≤140737488355328)) (chk (decide ((p13++[rd qI p8 (↑(Int.toNat (rd qI p7 (↑(Int.toNat (rd qI p11 (↑p0.toNat:Int))):Int))):Int)]).length*8≤140737488355328)) (f177.l1 k m1 m0 p1 p2 p3 p4 p5 (p12++[rd qI p7 (↑(Int.toNat (rd qI p11 (↑p0.toNat:Int))):Int)]) (p13++[rd qI p8 (↑(Int.toNat (rd qI p7 (↑(Int.toNat (rd qI p11 (↑p0.toNat:Int))):Int))):Int)]) p6 p7 p8 p9 p10 p11 p14 p15))))))) (chk (decide ((0:Int)≤rd qI p7 (↑(Int.toNat (rd qI p11 (↑p0.toNat:Int))):Int)∧rd qI p7 (↑(Int.toNat (rd qI p11 (↑p0.toNat:Int))):Int)<(↑p8.length:Int))) (both (both (chk (decide ((p12++[rd qI p7 (↑(Int.toNat (rd qI p11 (↑p0.toNat:Int))):Int)]).length*8≤140737488355328)) (chk (decide ((p13++[rd qI p8 (↑(Int.toNat (rd qI p7 (↑(Int.toNat (rd qI p11 (↑p0.toNat:Int))):Int))):Int)]).length*8≤140737488355328)) (f177.l1 k m1 m0 p1 p2 p3 p4 p5 (p12++[rd qI p7 (↑(Int.toNat (rd qI p11 (↑p0.toNat:Int))):Int)]) (p13++[rd qI p8 (↑(Int.toNat (rd qI p7 (↑(Int.toNat (rd qI p11 (↑p0.toNat:Int))):Int))):Int)]) p6 p7 p8 p9 p10 p11 p14 p15))) (both (chk (decide ((p12++[rd qI p7 (↑(Int.toNat (rd qI p11 (↑p0.toNat:Int))):Int)]).length*8≤140737488355328)) (chk (decide ((p13++[rd qI p8 (↑(Int.toNat (rd qI p7 (↑(Int.toNat (rd qI p11 (↑p0.toNat:Int))):Int))):Int)]).length*8≤140737488355328)) (f177.l1 k m1 m0 p1 p2 p3 p4 p5 (p12++[rd qI p7 (↑(Int.toNat (rd qI p11 (↑p0.toNat:Int))):Int)]) (p13++[rd qI p8 (↑(Int.toNat (rd qI p7 (↑(Int.toNat (rd qI p11 (↑p0.toNat:Int))):Int))):Int)]) p6 p7 p8 p9 p10 p11 p14 p15))) (chk (decide ((p12++[rd qI p7 (↑(Int.toNat (rd qI p11 (↑p0.toNat:Int))):Int)]).length*8≤140737488355328)) (chk (decide ((p13++[rd qI p8 (↑(Int.toNat (rd qI p7 (↑(Int.toNat (rd qI p11 (↑p0.toNat:Int))):Int))):Int)]).length*8≤140737488355328)) (f177.l1 k m1 m0 p1 p2 p3 p4 p5 (p12++[rd qI p7 (↑(Int.toNat (rd qI p11 (↑p0.toNat:Int))):Int)]) (p13++[rd qI p8 (↑(Int.toNat (rd qI p7 (↑(Int.toNat (rd qI p11 (↑p0.toNat:Int))):Int))):Int)]) p6 p7 p8 p9 p10 p11 p14 p15))))) (both (both (chk (decide ((p12++[rd qI p7 (↑(Int.toNat (rd qI p11 (↑p0.toNat:Int))):Int)]).length*8≤140737488355328)) (chk (decide ((p13++[rd qI p8 (↑(Int.toNat (rd qI p7 (↑(Int.toNat (rd qI p11 (↑p0.toNat:Int))):Int))):Int)]).length*8≤140737488355328)) (f177.l1 k m1 m0 p1 p2 p3 p4 p5 (p12++[rd qI p7 (↑(Int.toNat (rd qI p11 (↑p0.toNat:Int))):Int)]) (p13++[rd qI p8 (↑(Int.toNat (rd qI p7 (↑(Int.toNat (rd qI p11 (↑p0.toNat:Int))):Int))):Int)]) p6 p7 p8 p9 p10 p11 p14 p15))) (chk (decide ((p12++[rd qI p7 (↑(Int.toNat (rd qI p11 (↑p0.toNat:Int))):Int)]).length*8≤140737488355328)) (chk (decide ((p13++[rd qI p8 (↑(Int.toNat (rd qI p7 (↑(Int.toNat (rd qI p11 (↑p0.toNat:Int))):Int))):Int)]).length*8≤140737488355328)) (f177.l1 k m1 m0 p1 p2 p3 p4 p5 (p12++[rd qI p7 (↑(Int.toNat (rd qI p11 (↑p0.toNat:Int))):Int)]) (p13++[rd qI p8 (↑(Int.toNat (rd qI p7 (↑(Int.toNat (rd qI p11 (↑p0.toNat:Int))):Int))):Int)]) p6 p7 p8 p9 p10 p11 p14 p15)))) (chk (decide ((p12++[rd qI p7 (↑(Int.toNat (rd qI p11 (↑p0.toNat:Int))):Int)]).length*8≤140737488355328)) (chk (decide ((p13++[rd qI p8 (↑(Int.toNat (rd qI p7 (↑(Int.toNat (rd qI p11 (↑p0.toNat:Int))):Int))):Int)]).length*8≤140737488355328)) (f177.l1 k m1 m0 p1 p2 p3 p4 p5 (p12++[rd qI p7 (↑(Int.toNat (rd qI p11 (↑p0.toNat:Int))):Int)]) (p13++[rd qI p8 (↑(Int.toNat (rd qI p7 (↑(Int.toNat (rd qI p11 (↑p0.toNat:Int))):Int))):Int)]) p6 p7 p8 p9 p10 p11 p14 p15))))))) else (chk (decide ((0:Int)≤p0∧p0<(↑p11.length:Int))) (chk (decide ((0:Int)≤p0∧p0<(↑p11.length:Int))) (f177.l3 k n m0 m1 p0 p1 p2 p3 p4 p5 p6 p7 p8 p9 p10 (p11.set p0.toNat (Go.IntKind.i64.wrap (rd qI p11 (↑p0.toNat:Int)+(1:Int)))) p12 p13 p14 p15))))) else (chk (decide ((0:Int)≤p0∧p0<(↑p11.length:Int))) (chk (decide ((0:Int)≤p0∧p0<(↑p11.length:Int))) (f177.l3 k n m0 m1 p0 p1 p2 p3 p4 p5 p6 p7 p8 p9 p10 (p11.set p0.toNat (Go.IntKind.i64.wrap (rd qI p11 (↑p0.toNat:Int)+(1:Int)))) p12 p13 p14 p15))))))))) else (bif (↑p12.length:Int)==(0:Int) then (some (.tup [(.own qI p10),(.int .i64 p5),(.int .i64 0)])) else (chk (decide ((0:Int)≤(0:Int)∧(0:Int)≤Go.IntKind.i64.wrap ((↑p12.length:Int) - (1:Int)))) (chk (decide (Go.IntKind.i64.wrap ((↑p12.length:Int) - (1:Int))≤(↑p12.length:Int))) (chk (decide ((0:Int)≤(0:Int)∧(0:Int)≤Go.IntKind.i64.wrap ((↑p13.length:Int) - (1:Int)))) (chk (decide (Go.IntKind.i64.wrap ((↑p13.length:Int) - (1:Int))≤(↑p13.length:Int))) (chk (decide ((0:Int)≤Go.IntKind.i64.wrap ((↑((Go.IntKind.i64.wrap ((↑p13.length:Int) - (1:Int))).toNat - 0):Int) - (1:Int))∧Go.IntKind.i64.wrap ((↑((Go.IntKind.i64.wrap ((↑p13.length:Int) - (1:Int))).toNat - 0):Int) - (1:Int))<(↑((Go.IntKind.i64.wrap ((↑p13.length:Int) - (1:Int))).toNat - 0):Int))) (chk (decide ((0:Int)≤rd qI p13 (↑(0+(Go.IntKind.i64.wrap ((↑((Go.IntKind.i64.wrap ((↑p13.length:Int) - (1:Int))).toNat - 0):Int) - (1:Int))).toNat):Int)∧rd qI p13 (↑(0+(Go.IntKind.i64.wrap ((↑((Go.IntKind.i64.wrap ((↑p13.length:Int) - (1:Int))).toNat - 0):Int) - (1:Int))).toNat):Int)<(↑p11.length:Int))) (chk (decide ((0:Int)≤rd qI p13 (↑(0+(Go.IntKind.i64.wrap ((↑((Go.IntKind.i64.wrap ((↑p13.length:Int) - (1:Int))).toNat - 0):Int) - (1:Int))).toNat):Int)∧rd qI p13 (↑(0+(Go.IntKind.i64.wrap ((↑((Go.IntKind.i64.wrap ((↑p13.length:Int) - (1:Int))).toNat - 0):Int) - (1:Int))).toNat):Int)<(↑p11.length:Int))) (f177.l1 k m1 m0 p1 p2 p3 p4 p5 (List.take ((Go.IntKind.i64.wrap ((↑p12.length:Int) - (1:Int))).toNat - 0) (List.drop 0 p12)) (List.take ((Go.IntKind.i64.wrap ((↑p13.length:Int) - (1:Int))).toNat - 0) (List.drop 0 p13)) p6 p7 p8 p9 p10 (p11.set (Int.toNat (rd qI p13 (↑(0+(Go.IntKind.i64.wrap ((↑((Go.IntKind.i64.wrap ((↑p13.length:Int) - (1:Int))).toNat - 0):Int) - (1:Int))).toNat):Int))) (Go.IntKind.i64.wrap (rd qI p11 (↑(Int.toNat (rd qI p13 (↑(0+(Go.IntKind.i64.wrap ((↑((Go.IntKind.i64.wrap ((↑p13.length:Int) - (1:Int))).toNat - 0):Int) - (1:Int))).toNat):Int))):Int)+(1:Int)))) p14 p15))))))))))):=by kernel_rfl
theorem f177.eq (k:Nat) (x0:Int×List (eL)) (x1:List Int) (x2:List Int) (x3:Int) (x4:Int) (x5:Int):evFn (f177.E k) 9 177 Tryz.f177 (encL [(.pair qI (.list qL)),(.list qI),(.list qI),qI,qI,qI] (x0,x1,x2,x3,x4,x5)) =
 bif !mayF x0 x1 x2 x3 x4 then (some (.tup [(.own qI ([])),(.int .i64 0),(.int .i64 1100)])) else (bif !rateB x5 then (some (.tup [(.own qI ([])),(.int .i64 0),(.int .i64 1100)])) else ((chk (graphMay x0) (some ((startsA x0.2 (Int.toNat x0.1),orderA x0.2 (Int.toNat x0.1),headsA x0.2)))).bind (fun y0=>(chk (graphMay x0) (some (levelsRes x0 x1 x2 x3))).bind (fun y1=>(chk (decide (x2.length*8≤140737488355328)) (some x2)).bind (fun y2=>(chk (decide (y0.1.length*8≤140737488355328)) (some y0.1)).bind (fun y3=>f177.l0 k k x1 x3 x4 x5 0 x0.1 x0.2 y0.1 y0.2.1 y0.2.2 y1.1 y2 y3)))))):=by kernel_rfl
theorem f177.inl (k:Nat):InlOk Tryz.prog (f177.E k):=(inl_cons (by kernel_rfl) (by kernel_rfl) (inl_cons (by kernel_rfl) (by kernel_rfl) (inl_cons (by kernel_rfl) (by kernel_rfl) (inl_cons (by kernel_rfl) (by kernel_rfl) inl_nil))))
theorem f177.sums (k:Nat):SumsOk Tryz.prog (f177.E k):=(sums_cons ok78 (sums_cons ok122 (sums_cons ok178 (sums_cons ok179 (sums_cons ok210 (sums_cons ok212 (sums_cons ok214 (sums_cons ok217 sums_nil))))))))
end
section
set_option maxRecDepth 100000
structure Nx (gl:List Lk) (m:Nat) (nx:List Int):Prop where
 len:nx.length=m+1
 at_:∀ v:Nat,v<m→((orderA gl v).length:Int)≤rdI nx v∧rdI nx v≤((orderA gl (v+1)).length:Int)
 all:∀ x∈nx,0≤x∧x≤256
def beenA (gl:List Lk) (src:Int) (out:List Int):List Int:=src::out.map (arcTo gl)
@[reducible] def resB (f:List Int) (n:Int):V:=.tup [.own tI f,.int .i64 n,.int .i64 0]
theorem been_last (gl:List Lk):∀ (ws:List Int) (v:Int),(beenA gl v ws)[ws.length]? = some (endA gl v ws)
 | [],v=>rfl
 |a::ws,v=>been_last gl ws (arcTo gl a)
theorem been_len (gl:List Lk) (ws:List Int) (v:Int):(beenA gl v ws).length=ws.length+1:=by simp [beenA]
theorem been_snoc (gl:List Lk) (ws:List Int) (v a:Int):beenA gl v (ws++[a])=beenA gl v ws++[arcTo gl a]:=by simp [beenA]
noncomputable def L1 (k n m0:Nat) (g:Gr) (cs f lv:List Int) (src dst most n0:Int) (out nx:List Int):Option V :=
 f177.l1 k n m0 dst cs src most n0 out (beenA g.2 src out) (startsA g.2 g.1.toNat) (orderA g.2 g.1.toNat) (headsA g.2) lv f nx g.1 g.2
noncomputable def L3 (k n m0 m1:Nat) (g:Gr) (cs f lv:List Int) (src dst most n0:Int) (v:Int) (out nx:List Int):Option V :=
 f177.l3 k n m0 m1 v dst cs src most n0 (startsA g.2 g.1.toNat) (orderA g.2 g.1.toNat) (headsA g.2) lv f nx out (beenA g.2 src out) g.1 g.2
noncomputable def L2 (k n m0:Nat) (g:Gr) (cs f lv:List Int) (src dst most n0:Int) (j:Int) (rs out nx:List Int):Option V :=
 f177.l2 k n m0 (out.length:Int) j cs src dst most n0 (Go.IntKind.i64.wrap (most - n0)) rs out (startsA g.2 g.1.toNat) (orderA g.2 g.1.toNat) (headsA g.2) lv f nx g.1 g.2
theorem L1_eq (k n m0:Nat) (g:Gr) (cs f lv:List Int) (src dst most n0:Int) (out nx:List Int) (ho:out.length≤300):L1 k (n+1) m0 g cs f lv src dst most n0 out nx =
  bif endA g.2 src out==dst then (bif (out.length:Int)==0 then some (resB f n0) else L2 k k m0 g cs f lv src dst most n0 0 [] out nx) else L3 k k m0 n g cs f lv src dst most n0 (endA g.2 src out) out nx:=by
 unfold L1 L2 L3
 have e:rd (Ty.int Go.IntKind.i64) (beenA g.2 src out) ((out.length:Nat):Int)=endA g.2 src out:=rd_some (t:=tI) (been_last g.2 out src)
 rw [f177.l1_eq,been_len,wrap64 (n:=((out.length+1:Nat):Int) - 1) (by omega),show ((out.length+1:Nat):Int) - 1=(out.length:Int) by omega,
  show decide ((0:Int)≤(out.length:Int)∧(out.length:Int)<((out.length+1:Nat):Int))=true from dT (by omega),kT,show (((out.length:Int).toNat:Nat):Int)=(out.length:Int) by omega,e]
section
variable {g:Gr} {cs f lv:List Int} (hc:capsMay g cs=true) (hf:withinF f cs=true) (hlv:Lv g.1.toNat lv)
theorem lv_bound {m:Nat} {lv:List Int} (h:Lv m lv) {v:Int} (hv:0≤v∧v<(m:Int)):-1≤rdI lv v∧rdI lv v<(m:Int):=by
 have:=h.lo v hv
 omega
include hc hf hlv in
theorem L3_arc (k n m0 m1:Nat) (src dst most n0:Int) {v:Int} (hv:0≤v∧v<g.1) {out nx:List Int} (ho:out.length≤300) (hn:Nx g.2 g.1.toNat nx) (hlt:rdI nx v<((orderA g.2 (v.toNat+1)).length:Int)) :
  ∃ a,a∈rowA g.2 v∧(orderA g.2 g.1.toNat)[(rdI nx v).toNat]? = some a ∧
   L3 k (n+1) m0 m1 g cs f lv src dst most n0 v out nx=bif stepsB g.2 cs f lv v a then L1 k m1 m0 g cs f lv src dst most n0 (out++[a]) nx else L3 k n m0 m1 g cs f lv src dst most n0 v out (nx.set v.toNat (rdI nx v+1)):=by
 have hg:=caps_graph hc
 have hp:=graphMay_parts hg
 have hcl:=capsMay_len hc
 have hfl:f.length=cs.length:=withinF_len hf
 have hvn:((v.toNat:Nat):Int)=v:=by omega
 obtain ⟨n1,n2⟩:=hn.at_ v.toNat (by omega)
 rw [hvn] at n1 n2
 have s3:(orderA g.2 (v.toNat+1)).length=(orderA g.2 v.toNat).length+(rowA g.2 v).length:=by rw [orderA_succ,lA,hvn]
 have hj:(rdI nx v).toNat - (orderA g.2 v.toNat).length<(rowA g.2 v).length:=by omega
 have hx:=gE hj
 have ha:=List.getElem_mem hj
 have hO:=orderA_get g.2 (m:=g.1.toNat) (v:=v.toNat) (by omega) (by rw [hvn];exact hx)
 rw [show (orderA g.2 v.toNat).length+((rdI nx v).toNat - (orderA g.2 v.toNat).length)=(rdI nx v).toNat by omega] at hO
 generalize (rowA g.2 v)[(rdI nx v).toNat - (orderA g.2 v.toNat).length]=a at hx ha hO
 refine ⟨a,ha,hO,?_⟩
 have hm:=rowA_mem.1 ha
 have ha1:0≤a∧a<2*(g.2.length:Int):=oD hm.1
 have hto:=arcTo_in hg hm.1
 have hr:=room_rate hc hf (by rw [hcl];exact hm.1)
 have hl1:=lv_bound hlv (v:=v) (by omega)
 have hl2:=lv_bound hlv (v:=arcTo g.2 a) (by omega)
 have hll:=hlv.len
 have hOl:=idx_lt hO
 have hO4:=orderA_len g.2 (v.toNat+1)
 have hO5:(v.toNat+1)*(2*g.2.length)≤8*32:=Nat.mul_le_mul (by omega) (by omega)
 have e1:rd (Ty.int Go.IntKind.i64) nx ((v.toNat:Nat):Int)=rdI nx v:=rdI_nat _ _
 have e2:rd (Ty.int Go.IntKind.i64) (startsA g.2 g.1.toNat) (((v+1).toNat:Nat):Int)=((orderA g.2 (v.toNat+1)).length:Int):=by
  rw [show (v+1).toNat=v.toNat+1 by omega]
  exact rd_some (t:=tI) (startsA_get g.2 (by omega))
 have e3:rd (Ty.int Go.IntKind.i64) (orderA g.2 g.1.toNat) (((rdI nx v).toNat:Nat):Int)=a:=rd_some (t:=tI) hO
 have e4:rd (Ty.int Go.IntKind.i64) (headsA g.2) ((a.toNat:Nat):Int)=arcTo g.2 a:=rd_some (t:=tI) (headsA_get hm.1)
 have e5:rd (Ty.int Go.IntKind.i64) lv (((arcTo g.2 a).toNat:Nat):Int)=rdI lv (arcTo g.2 a):=rdI_nat _ _
 have e6:rd (Ty.int Go.IntKind.i64) lv ((v.toNat:Nat):Int)=rdI lv v:=rdI_nat _ _
 have w1:Go.IntKind.i64.wrap (v+1)=v+1:=wrap64 (by omega)
 have w2:Go.IntKind.i64.wrap (rdI lv v+1)=rdI lv v+1:=wrap64 (by omega)
 have w3:Go.IntKind.i64.wrap (rdI nx v+1)=rdI nx v+1:=wrap64 (by omega)
 have hnl:=hn.len
 have c1:decide ((0:Int)≤v∧v<(nx.length:Int))=true:=dT (by omega)
 have c2:decide ((0:Int)≤v+1∧v+1<((startsA g.2 g.1.toNat).length:Int))=true:=dT (by rw [startsA_len];omega)
 have c3:decide (rdI nx v<((orderA g.2 (v.toNat+1)).length:Int))=true:=dT hlt
 have c4:decide ((0:Int)≤rdI nx v∧rdI nx v<((orderA g.2 g.1.toNat).length:Int))=true:=dT (by omega)
 have c5:decide ((0:Int)≤a∧a<((headsA g.2).length:Int))=true:=dT (by rw [headsA_len];omega)
 have c6:decide ((0:Int)≤arcTo g.2 a∧arcTo g.2 a<(lv.length:Int))=true:=dT (by omega)
 have c7:decide ((0:Int)≤v∧v<(lv.length:Int))=true:=dT (by omega)
 have c8:decide (cs.length≤16∧f.length=cs.length)=true:=dT ⟨by omega,hfl⟩
 have c9:arcIn cs.length a=true:=by rw [hcl];exact hm.1
 have c10:decide ((out++[a]).length*8≤140737488355328)=true:=dT (by rw [lA,List.length_singleton];omega)
 have c11:decide ((beenA g.2 src out++[arcTo g.2 a]).length*8≤140737488355328)=true:=dT (by rw [lA,List.length_singleton,been_len];omega)
 unfold L3 L1
 rw [f177.l3_eq]
 simp only [w1,e1,e2,e3,e4,e5,e6,w2,w3,c1,c2,c3,c4,c5,c6,c7,c8,c9,c10,c11,hr,kT,cT,tA,bS,both_self]
 unfold stepsB
 rw [been_snoc]
 cases h1:rdI lv (arcTo g.2 a)==rdI lv v+1 with
 |false=>rw [cF,fA,cF]
 |true =>
  rw [cT,tA]
omit hf hlv in
include hc in
theorem L3_end (k n m0 m1:Nat) (src dst most n0:Int) {v:Int} (hv:0≤v∧v<g.1) {out nx:List Int} (ho:out.length≤300) (hn:Nx g.2 g.1.toNat nx) (he:rdI nx v=((orderA g.2 (v.toNat+1)).length:Int)) :
  (out=[]→L3 k (n+1) m0 m1 g cs f lv src dst most n0 v out nx=some (resB f n0)) ∧
  ∀ ws b,out=ws++[b]→(0≤endA g.2 src ws∧endA g.2 src ws<g.1)→L3 k (n+1) m0 m1 g cs f lv src dst most n0 v out nx=L1 k m1 m0 g cs f lv src dst most n0 ws (nx.set (endA g.2 src ws).toNat (rdI nx (endA g.2 src ws)+1)):=by
 have hg:=caps_graph hc
 have hp:=graphMay_parts hg
 have hnl:=hn.len
 have e1:rd (Ty.int Go.IntKind.i64) nx ((v.toNat:Nat):Int)=rdI nx v:=rdI_nat _ _
 have e2:rd (Ty.int Go.IntKind.i64) (startsA g.2 g.1.toNat) (((v+1).toNat:Nat):Int)=((orderA g.2 (v.toNat+1)).length:Int):=by
  rw [show (v+1).toNat=v.toNat+1 by omega]
  exact rd_some (t:=tI) (startsA_get g.2 (by omega))
 have w1:Go.IntKind.i64.wrap (v+1)=v+1:=wrap64 (by omega)
 have c1:decide ((0:Int)≤v∧v<(nx.length:Int))=true:=dT (by omega)
 have c2:decide ((0:Int)≤v+1∧v+1<((startsA g.2 g.1.toNat).length:Int))=true:=dT (by rw [startsA_len];omega)
 have c3:decide (((orderA g.2 (v.toNat+1)).length:Int)<((orderA g.2 (v.toNat+1)).length:Int))=false:=dF (by omega)
 constructor
 ·rintro rfl
  unfold L3
  rw [f177.l3_eq]
  simp only [w1,e1,e2,he,c1,c2,c3,kT,cF]
  rw [show (((([]:List Int).length:Nat):Int)==0)=true by rfl,cT]
 ·rintro ws b rfl hu
  have hl:(ws++[b]).length=ws.length+1:=by simp
  rw [hl] at ho
  have hbl:(beenA g.2 src (ws++[b])).length=ws.length+2:=by rw [been_len,hl]
  have f1:Go.IntKind.i64.wrap (((ws.length+1:Nat):Int) - 1)=(ws.length:Int):=by rw [wrap64 (by omega)];omega
  have f2:Go.IntKind.i64.wrap (((ws.length+2:Nat):Int) - 1)=((ws.length+1:Nat):Int):=by rw [wrap64 (by omega)];omega
  have f3:Go.IntKind.i64.wrap ((((((ws.length+1:Nat):Int)).toNat - 0:Nat):Int) - 1)=(ws.length:Int):=by rw [wrap64 (by omega)];omega
  have f4:((0+((ws.length:Int)).toNat:Nat):Int)=((ws.length:Nat):Int):=by omega
  have f5:rd (Ty.int Go.IntKind.i64) (beenA g.2 src (ws++[b])) ((ws.length:Nat):Int)=endA g.2 src ws:=by
   refine rd_some (t:=tI) ?_
   rw [been_snoc,List.getElem?_append_left (by rw [been_len];omega)]
   exact been_last g.2 ws src
  have f6:rd (Ty.int Go.IntKind.i64) nx (((endA g.2 src ws).toNat:Nat):Int)=rdI nx (endA g.2 src ws):=rdI_nat _ _
  have h6:=hn.all (rdI nx (endA g.2 src ws)) (List.mem_of_getElem? (rdI_get (by omega)))
  have f7:Go.IntKind.i64.wrap (rdI nx (endA g.2 src ws)+1)=rdI nx (endA g.2 src ws)+1:=wrap64 (by omega)
  have f8:List.take (((ws.length:Int)).toNat - 0) (List.drop 0 (ws++[b]))=ws:=by
   rw [List.drop_zero,Int.toNat_natCast,Nat.sub_zero,List.take_left']
   rfl
  have f9:List.take ((((ws.length+1:Nat):Int)).toNat - 0) (List.drop 0 (beenA g.2 src (ws++[b])))=beenA g.2 src ws:=by
   rw [List.drop_zero,Int.toNat_natCast,Nat.sub_zero,been_snoc,List.take_left']
   exact been_len g.2 ws src
  have d1:decide ((0:Int)≤0∧0≤(ws.length:Int))=true:=dT (by omega)
  have d2:decide ((ws.length:Int)≤((ws.length+1:Nat):Int))=true:=dT (by omega)
  have d3:decide ((0:Int)≤0∧0≤((ws.length+1:Nat):Int))=true:=dT (by omega)
  have d4:decide (((ws.length+1:Nat):Int)≤((ws.length+2:Nat):Int))=true:=dT (by omega)
  have d5:decide ((0:Int)≤(ws.length:Int)∧(ws.length:Int)<(((((ws.length+1:Nat):Int)).toNat - 0:Nat):Int))=true:=dT (by omega)
  have d6:decide ((0:Int)≤endA g.2 src ws∧endA g.2 src ws<(nx.length:Int))=true:=dT (by omega)
  have d7:(((ws.length+1:Nat):Int)==0)=false:=by simp;omega
  unfold L3 L1
  rw [f177.l3_eq,hl,hbl]
  simp only [w1,e1,e2,he,c1,c2,c3,kT,cF]
  rw [d7,cF,f1,f2,f3,f4,f5,f6,f7,f8,f9,d1,d2,d3,d4,d5,d6,kT,kT,kT,kT,kT,kT,kT]
end
end
section
structure WSt (g:Gr) (cs f lv:List Int) (src dst:Int) (D:Prop) (out nx:List Int):Prop where
 nxOk:Nx g.2 g.1.toNat nx
 way:WayOk g.2 cs f lv src out
 ptr:∀ a∈out,(orderA g.2 g.1.toNat)[(rdI nx (arcFrom g.2 a)).toNat]? = some a∧rdI nx (arcFrom g.2 a)<((orderA g.2 ((arcFrom g.2 a).toNat+1)).length:Int)
 dead:D→∀ v,0≤v∧v<g.1→∀ j:Nat,(orderA g.2 v.toNat).length≤j→(j:Int)<rdI nx v→∀ a,(orderA g.2 g.1.toNat)[j]? = some a→stepsB g.2 cs f lv v a=true→¬ LReach g.2 cs f lv dst (arcTo g.2 a)
theorem sum_set:∀ {l:List Int} {i:Nat} {x:Int},l[i]? = some x→(l.set i (x+1)).sum=l.sum+1
 |y::l,0,x,h=>by
  simp only [List.getElem?_cons_zero,sI] at h
  subst h
  simp only [List.set_cons_zero,List.sum_cons]
  omega
 |y::l,i+1,x,h=>by
  have:=sum_set (l:=l) (i:=i) (by simpa using h)
  simp only [List.set_cons_succ,List.sum_cons,this]
  omega
 | [],_,_,h=>by simp at h
theorem sum_le_len {c:Int}:∀ {l:List Int},(∀ x∈l,x≤c)→l.sum≤l.length*c
 | [],_=>by simp
 |y::l,h=>by
  have h1:=h y (by simp)
  have h2:=sum_le_len (l:=l) fun x hx=>h x (by simp [hx])
  rw [List.sum_cons,List.length_cons,show ((l.length+1:Nat):Int)*c=(l.length:Int)*c+c by rw [Int.natCast_add,Int.add_mul];simp]
  omega
section
variable {g:Gr} {cs f lv:List Int} {src dst:Int} {D:Prop} (hc:capsMay g cs=true) (hf:withinF f cs=true) (hlv:Lv g.1.toNat lv) (hsrc:0≤src∧src<g.1) (hlv0:rdI lv src=0)
theorem Nx.bound {gl:List Lk} {m:Nat} {nx:List Int} (h:Nx gl m nx) (hm:m≤8):nx.sum≤2304:=by
 have:=sum_le_len (c:=256) fun x hx=>(h.all x hx).2
 have hl:=h.len
 rw [hl] at this
 have:((m+1:Nat):Int)*256≤9*256:=Int.mul_le_mul_of_nonneg_right (by omega) (by omega)
 omega
include hc in
theorem Nx.pass {nx:List Int} (h:Nx g.2 g.1.toNat nx) {v:Int} (hv:0≤v∧v<g.1) (hlt:rdI nx v<((orderA g.2 (v.toNat+1)).length:Int)) :
  Nx g.2 g.1.toNat (nx.set v.toNat (rdI nx v+1))∧(nx.set v.toNat (rdI nx v+1)).sum=nx.sum+1∧∀ u,0≤u∧u<g.1→rdI (nx.set v.toNat (rdI nx v+1)) u=bif v==u then rdI nx v+1 else rdI nx u:=by
 have hl:=h.len
 have hp:=graphMay_parts (caps_graph hc)
 have at_:∀ u,0≤u∧u<g.1→rdI (nx.set v.toNat (rdI nx v+1)) u=bif v==u then rdI nx v+1 else rdI nx u:=fun u hu=>rdI_set (by omega) (by omega)
 have hO4:=orderA_len g.2 (v.toNat+1)
 have hO5:(v.toNat+1)*(2*g.2.length)≤8*32:=Nat.mul_le_mul (by omega) (by omega)
 have h0:=(h.all _ (List.mem_of_getElem? (rdI_get (f:=nx) (i:=v) (by omega)))).1
 refine ⟨⟨by simpa using hl,fun u hu=>?_,fun x hx=>?_⟩,sum_set (rdI_get (by omega)),at_⟩
 ·rw [at_ u (by omega)]
  have:=h.at_ u hu
  by_cases he:v=(u:Int)
  ·subst he
   rw [show ((u:Int)==(u:Int))=true by simp,cT]
   simp only [Int.toNat_natCast] at hlt
   omega
  ·rw [show (v==(u:Int))=false by simpa using he,cF]
   exact this
 ·obtain hx|rfl:=List.mem_or_eq_of_mem_set hx
  ·exact h.all x hx
  ·omega
include hc in
theorem WSt.pass {out nx:List Int} (h:WSt g cs f lv src dst D out nx) {v a:Int} (hv:0≤v∧v<g.1) (hlt:rdI nx v<((orderA g.2 (v.toNat+1)).length:Int))
  (ha:(orderA g.2 g.1.toNat)[(rdI nx v).toNat]? = some a) (hdead:D→stepsB g.2 cs f lv v a=true→¬ LReach g.2 cs f lv dst (arcTo g.2 a)) {ws:List Int} (hw:WayOk g.2 cs f lv src ws) (hws:∀ c∈ws,c∈out)
  (hb:∀ c∈ws,(0≤arcFrom g.2 c∧arcFrom g.2 c<g.1)∧arcFrom g.2 c ≠ v):WSt g cs f lv src dst D ws (nx.set v.toNat (rdI nx v+1))∧(nx.set v.toNat (rdI nx v+1)).sum=nx.sum+1:=by
 obtain ⟨h1,h2,h3⟩:=h.nxOk.pass hc hv hlt
 refine ⟨⟨h1,hw,fun c hc'=>?_,fun hD u hu j hj hju b hbj hst=>?_⟩,h2⟩
 ·obtain ⟨c1,c2⟩:=hb c hc'
  rw [h3 _ c1,show (v==arcFrom g.2 c)=false from beq_eq_false_iff_ne.2 (Ne.symm c2),cF]
  exact h.ptr c (hws c hc')
 ·rw [h3 u hu] at hju
  by_cases he:v=u
  ·subst he
   rw [show (v==v)=true by simp,cT] at hju
   by_cases hl:(j:Int)<rdI nx v
   ·exact h.dead hD v hu j hj hl b hbj hst
   ·obtain rfl:j=(rdI nx v).toNat:=by omega
    obtain rfl:=oJ (ha.symm.trans hbj)
    exact hdead hD hst
  ·rw [show (v==u)=false by simpa using he,cF] at hju
   exact h.dead hD u hu j hj hju b hbj hst
theorem arcFrom_in {g:Gr} (hg:graphMay g=true) {a:Int} (ha:arcIn g.2.length a=true):0≤arcFrom g.2 a∧arcFrom g.2 a<g.1:=by
 have:=link_at hg (lk_get ha)
 unfold arcFrom
 cases backB a with
 |true=>rw [cT];exact this.2.1
 |false=>rw [cF];exact this.1
include hc hf hlv in
theorem L3_is (Q:Option V→Prop) (k m0 m1:Nat) (most n0:Int) {v:Int} (hv:0≤v∧v<g.1) {out:List Int} (ho:out.length≤8) (hev:endA g.2 src out=v):∀ (n:Nat) (nx:List Int),WSt g cs f lv src dst D out nx→((orderA g.2 (v.toNat+1)).length:Int) - rdI nx v<n →
  (∀ nx' a,WSt g cs f lv src dst D out nx'→nx.sum≤nx'.sum→a∈rowA g.2 v→stepsB g.2 cs f lv v a=true→(orderA g.2 g.1.toNat)[(rdI nx' v).toNat]? = some a→rdI nx' v<((orderA g.2 (v.toNat+1)).length:Int)→Q (L1 k m1 m0 g cs f lv src dst most n0 (out++[a]) nx')) →
  (∀ nx',WSt g cs f lv src dst D out nx'→rdI nx' v=((orderA g.2 (v.toNat+1)).length:Int)→out=[]→Q (some (resB f n0))) →
  (∀ nx' ws b,WSt g cs f lv src dst D out nx'→nx.sum≤nx'.sum→rdI nx' v=((orderA g.2 (v.toNat+1)).length:Int)→out=ws++[b]→Q (L1 k m1 m0 g cs f lv src dst most n0 ws (nx'.set (endA g.2 src ws).toNat (rdI nx' (endA g.2 src ws)+1)))) →
  (0≤src∧src<g.1)→Q (L3 k n m0 m1 g cs f lv src dst most n0 v out nx)
 |0,nx,h,hn,_,_,_,_=>by
  have:=(h.nxOk.at_ v.toNat (by omega)).2
  rw [show ((v.toNat:Nat):Int)=v by omega] at this
  omega
 |n+1,nx,h,hn,h1,h2,h3,hs=>by
  have hg:=caps_graph hc
  have hb:=h.nxOk.at_ v.toNat (by omega)
  rw [show ((v.toNat:Nat):Int)=v by omega] at hb
  by_cases hlt:rdI nx v<((orderA g.2 (v.toNat+1)).length:Int)
  ·obtain ⟨a,ha,hO,he⟩:=L3_arc hc hf hlv k n m0 m1 src dst most n0 hv (out:=out) (by omega) h.nxOk hlt
   rw [he]
   cases hst:stepsB g.2 cs f lv v a with
   |true =>
    rw [cT]
    exact h1 nx a h (Int.le_refl _) ha hst hO hlt
   |false =>
    rw [cF]
    obtain ⟨p1,p2⟩:=h.pass hc hv hlt hO (fun _ h'=>by rw [hst] at h';cases h') h.way (fun c hc=>hc) (fun c hc'=>by
     obtain ⟨c1,_,c3,_,_⟩:=h.way.below c hc'
     refine ⟨arcFrom_in hg c1,fun e=>?_⟩
     rw [hev,e] at c3
     omega)
    have p3:rdI (nx.set v.toNat (rdI nx v+1)) v=rdI nx v+1:=by
     rw [(h.nxOk.pass hc hv hlt).2.2 v hv,show (v==v)=true by simp,cT]
    exact L3_is Q k m0 m1 most n0 hv ho hev n _ p1 (by rw [p3];omega) (fun nx' a w1 w2=>h1 nx' a w1 (by omega)) h2 (fun nx' ws b w1 w2=>h3 nx' ws b w1 (by omega)) hs
  ·have he:rdI nx v=((orderA g.2 (v.toNat+1)).length:Int):=by omega
   obtain ⟨e1,e2⟩:=L3_end hc (f:=f) (lv:=lv) k n m0 m1 src dst most n0 hv (out:=out) (by omega) h.nxOk he
   rcases List.eq_nil_or_concat out with h0|⟨ws,b,h0⟩
   ·rw [e1 h0]
    exact h2 nx h he h0
   ·rw [List.concat_eq_append] at h0
    have hw:=h.way
    rw [h0] at hw
    rw [e2 ws b h0 (hw.front.1.verts hg hs)]
    exact h3 nx ws b h (Int.le_refl _) he h0
theorem WSt.deadEnd {out nx:List Int} (h:WSt g cs f lv src dst D out nx) {v:Int} (hv:0≤v∧v<g.1) (he:rdI nx v=((orderA g.2 (v.toNat+1)).length:Int)) (hne:v ≠ dst) (hD:D):¬ LReach g.2 cs f lv dst v:=by
 intro hr
 cases hr with
 |here=>exact hne rfl
 |step ha hs hr =>
  obtain ⟨j,hj⟩:=List.mem_iff_getElem?.1 ha
  have hvn:((v.toNat:Nat):Int)=v:=by omega
  have hO:=orderA_get g.2 (m:=g.1.toNat) (v:=v.toNat) (by omega) (by rw [hvn];exact hj)
  have s3:(orderA g.2 (v.toNat+1)).length=(orderA g.2 v.toNat).length+(rowA g.2 v).length:=by rw [orderA_succ,lA,hvn]
  have:=idx_lt hj
  exact h.dead hD v hv _ (by omega) (by omega) _ hO hs hr
include hc hf hlv hsrc hlv0 in
theorem L1_is (Q:Option V→Prop) (k m0:Nat) (hk:300≤k) (most n0:Int) (hne:src ≠ dst)
  (hres:∀ out nx,WSt g cs f lv src dst D out nx→endA g.2 src out=dst→out ≠ []→out.length≤8→Q (L2 k k m0 g cs f lv src dst most n0 0 [] out nx))
  (hnone:(D→¬ LReach g.2 cs f lv dst src)→Q (some (resB f n0))):∀ (n:Nat) (out nx:List Int),WSt g cs f lv src dst D out nx→2*(2304 - nx.sum)+8 - out.length<n→Q (L1 k n m0 g cs f lv src dst most n0 out nx)
 |0,out,nx,h,hn=>by
  have hg:=caps_graph hc
  have hp:=graphMay_parts hg
  have:=h.nxOk.bound (by omega)
  have hl:=h.way.lv
  have hv:=h.way.verts hg hsrc
  have:=lv_bound hlv (v:=endA g.2 src out) (by omega)
  omega
 |n+1,out,nx,h,hn=>by
  have hg:=caps_graph hc
  have hp:=graphMay_parts hg
  have hB:=h.nxOk.bound (by omega)
  have hl:=h.way.lv
  have hv:=h.way.verts hg hsrc
  have hlb:=lv_bound hlv (v:=endA g.2 src out) (by omega)
  have ho:out.length≤7:=by omega
  have hO4:=orderA_len g.2 ((endA g.2 src out).toNat+1)
  have hO5:((endA g.2 src out).toNat+1)*(2*g.2.length)≤8*32:=Nat.mul_le_mul (by omega) (by omega)
  have h0:=(h.nxOk.all _ (List.mem_of_getElem? (rdI_get (f:=nx) (i:=endA g.2 src out) (by have:=h.nxOk.len;omega)))).1
  rw [L1_eq k n m0 g cs f lv src dst most n0 out nx (by omega)]
  cases hd:endA g.2 src out==dst with
  |true =>
   have hd:=eq_of_beq hd
   have hne':out ≠ []:=by
    rintro rfl
    exact hne hd
   rw [cT,show ((out.length:Int)==0)=false by have:=List.length_pos_iff.2 hne';simp;omega,cF]
   exact hres out nx h hd hne' (by omega)
  |false =>
   have hd:=ne_of_beq_false hd
   rw [cF]
   refine L3_is hc hf hlv Q k m0 n most n0 hv (by omega) rfl k nx h (by omega) (fun nx' a w1 w2 w3 w4 w5 w6=>?_) (fun nx' w1 w2 w3=>?_) (fun nx' ws b w1 w2 w3 w4=>?_) hsrc
   ·refine L1_is Q k m0 hk most n0 hne hres hnone n (out++[a]) nx' ⟨w1.nxOk,h.way.snoc w3 w4,fun c hc'=>?_,w1.dead⟩ (by rw [lA,List.length_singleton];omega)
    rcases List.mem_append.1 hc' with hc'|hc'
    ·exact w1.ptr c hc'
    ·obtain rfl:c=a:=by simpa using hc'
     rw [(rowA_mem.1 w3).2]
     exact ⟨w5,w6⟩
   ·subst w3
    exact hnone fun hD=>w1.deadEnd hsrc w2 hne hD
   ·have hw:=h.way
    rw [w4] at hw
    obtain ⟨q1,q2,q3⟩:=hw.front
    have hu:=q1.verts hg hsrc
    obtain ⟨r1,r2⟩:=w1.ptr b (by simp [w4])
    have hbm:=rowA_mem.1 q2
    rw [hbm.2] at r1 r2
    have hend:endA g.2 src out=arcTo g.2 b:=by rw [w4,endA_snoc]
    obtain ⟨p1,p2⟩:=w1.pass hc hu r2 r1 (fun hD _=>by
     rw [← hend]
     exact w1.deadEnd hv w3 hd hD) q1 (fun c hc'=>by simp [w4,hc']) (fun c hc'=>by
     obtain ⟨c1,_,c3,_,_⟩:=q1.below c hc'
     refine ⟨arcFrom_in hg c1,fun e=>?_⟩
     rw [e] at c3
     omega)
    exact L1_is Q k m0 hk most n0 hne hres hnone n ws _ p1 (by
                                  rw [p2];have:out.length=ws.length+1:=by simp [w4]
                                  omega)
end
end
section
set_option maxRecDepth 100000
structure FlowOk (g:Gr) (cs f:List Int) (src dst:Int):Prop where
 within:withinF f cs=true
 still:∀ v,0≤v∧v<g.1→v ≠ src→v ≠ dst→gainV g.2 f v=0
 noIn:∀ i:Int,0≤i∧i<(g.2.length:Int)→(lk g.2 i).2.1=src→rdI f i=0
theorem gain_nonneg {src:Int}:∀ {gl:List Lk} {f:List Int},f.length=gl.length→(∀ i:Int,0≤i∧i<(gl.length:Int)→0≤rdI f i)→(∀ i:Int,0≤i∧i<(gl.length:Int)→(lk gl i).2.1=src→rdI f i=0)→0≤gainV gl f src
 | [],_,_,_,_=>by simp [gainV]
 |l::gl,[],h,_,_=>by simp at h
 |l::gl,x::f,h,h1,h2=>by
  have s:∀ i:Int,0≤i→rdI (x::f) (i+1)=rdI f i∧lk (l::gl) (i+1)=lk gl i:=fun i hi=>by
   unfold rdI lk rd
   rw [show (i+1).toNat=i.toNat+1 by omega]
   exact ⟨rfl,rfl⟩
  have c1:0≤x:=h1 0 (by simp only [List.length_cons];omega)
  have c2:l.2.1=src→x=0:=h2 0 (by simp only [List.length_cons];omega)
  have ih:=gain_nonneg (src:=src) (gl:=gl) (f:=f) (by simpa using h) (fun i hi=>by
   have:=h1 (i+1) (by simp only [List.length_cons];omega)
   rwa [(s i hi.1).1] at this) (fun i hi he=>by
   have:=h2 (i+1) (by simp only [List.length_cons];omega)
   rw [(s i hi.1).1,(s i hi.1).2] at this
   exact this he)
  simp only [gainV]
  cases e1:l.1==src <;> cases e2:l.2.1==src <;> simp only [cT,cF] <;> first|omega|(have:=c2 (eq_of_beq e2);omega)
theorem FlowOk.may {g:Gr} {cs f:List Int} {src dst:Int} (hc:capsMay g cs=true) (h:FlowOk g cs f src dst) (hs:hasV g.1 src=true) (hd:hasV g.1 dst=true) (hne:src ≠ dst):mayF g cs f src dst=true:=by
 have hl:=withinF_len h.within
 have hcl:=capsMay_len hc
 have h0:0≤gainV g.2 f src:=gain_nonneg (by omega) (fun i hi=>(within_at h.within (by omega)).1) h.noIn
 unfold mayF liesB
 rw [hc,h.within,hs,hd,show (src==dst)=false by simpa using hne]
 simp only [tA,nF,List.all_eq_true]
 intro v hv
 rw [upto_mem] at hv
 have hp:=graphMay_parts (caps_graph hc)
 unfold stillB
 by_cases e1:v=src
 ·subst e1
  rw [show (v==v)=true by simp,show (v != v)=false by simp,dF (by omega:¬ gainV g.2 f v<0)]
  rfl
 ·rw [show (v==src)=false by simpa using e1]
  by_cases e2:v=dst
  ·rw [show (v != dst)=false by simpa using e2]
   simp
  ·rw [show (gainV g.2 f v != 0)=false by simpa using h.still v (by omega) e1 e2]
   simp
theorem lk_arc {gl:List Lk} {a i:Int} (h:arcL a=i):(backB a=true∧arcFrom gl a=(lk gl i).2.1)∨(backB a=false∧arcTo gl a=(lk gl i).2.1):=by
 unfold arcFrom arcTo
 rw [h]
 cases backB a
 ·exact .inr ⟨rfl,cF⟩
 ·exact .inl ⟨rfl,cT⟩
section
variable {g:Gr} {cs f lv:List Int} {src dst:Int} (hc:capsMay g cs=true) (hlv:Lv g.1.toNat lv) (hsrc:0≤src∧src<g.1) (hlv0:rdI lv src=0)
include hc hlv0 in
theorem FlowOk.moves (h:FlowOk g cs f src dst) {ws:List Int} (hw:WayOk g.2 cs f lv src ws) (hend:endA g.2 src ws=dst) (hne:src ≠ dst) {b:Int} (hb:0≤b) (hr:∀ a∈ws,b≤roomA cs f a) :
  FlowOk g cs (R.moves b f ws) src dst∧gainV g.2 (R.moves b f ws) src=gainV g.2 f src+b∧moveL cs b f ws=some (R.moves b f ws):=by
 have hl:=withinF_len h.within
 have hcl:=capsMay_len hc
 have hin:∀ a∈ws,arcIn g.2.length a=true:=fun a ha=>(hw.below a ha).1
 have hm:moveL cs b f ws=some (R.moves b f ws):=moveL_moves hl (fun a ha=>⟨by rw [hcl];exact hin a ha,hr a ha⟩) hw.links
 have hg:=fun v=>gain_moves (b:=b) (v:=v) (f:=f) (by omega) hw
 refine ⟨⟨moveL_within hb h.within (List.all_eq_true.2 fun a ha=>by rw [hcl];exact hin a ha) hm,fun v hv h1 h2=>?_,fun i hi he=>?_⟩,?_,hm⟩
 ·rw [hg v,h.still v hv h1 h2,hend,show (src==v)=false by simpa using Ne.symm h1,show (dst==v)=false by simpa using Ne.symm h2,cF]
  rfl
 ·rw [moves_other (n:=g.2.length) (by omega) hin hi (fun a ha e=>?_)]
  ·exact h.noIn i hi he
  ·obtain ⟨_,c2,_,c4,c5⟩:=hw.below a ha
   rcases lk_arc (gl:=g.2) e with ⟨e1,e2⟩|⟨e1,e2⟩
   ·unfold roomA at c5
    rw [e1,cT,e,h.noIn i hi he] at c5
    omega
   ·rw [e2,he,hlv0] at c4
    rw [hlv0] at c2
    omega
 ·rw [hg src,hend,show (src==src)=true by simp,show (dst==src)=false by simpa using Ne.symm hne,cT,cF]
  omega
noncomputable def L0 (k n:Nat) (g:Gr) (cs f lv:List Int) (src dst most n0:Int) (nx:List Int):Option V :=
 f177.l0 k n cs src dst most n0 g.1 g.2 (startsA g.2 g.1.toNat) (orderA g.2 g.1.toNat) (headsA g.2) lv f nx
include hc in
theorem L2_is (hf:withinF f cs=true) (k m0:Nat) (most n0:Int) {out nx:List Int} (ho:out.length≤8) (hin:∀ a∈out,arcIn g.2.length a=true):∀ (n i:Nat),i≤out.length→out.length<n+i →
  L2 k n m0 g cs f lv src dst most n0 (i:Int) ((out.take i).map (roomA cs f)) out nx =
   L0 k m0 g cs (moveOf g cs f ((out.map (roomA cs f)).foldl min (Go.IntKind.i64.wrap (most - n0))) out).1 lv src dst most (Go.IntKind.i64.wrap (n0+(out.map (roomA cs f)).foldl min (Go.IntKind.i64.wrap (most - n0)))) nx
 |0,i,h,h'=>by omega
 |n+1,i,h,h'=>by
  have hfl:f.length=cs.length:=withinF_len hf
  have hcl:=capsMay_len hc
  have hp:=graphMay_parts (caps_graph hc)
  unfold L2 L0
  rw [f177.l2_eq]
  by_cases hlt:i<out.length
  ·have hx:=gE hlt
   have ha:=hin _ (List.getElem_mem hlt)
   have e1:rd (Ty.int Go.IntKind.i64) out (((i:Int).toNat:Nat):Int)=out[i]:=rd_some (t:=tI) (by rw [Int.toNat_natCast];exact hx)
   have c1:decide ((i:Int)<(out.length:Int))=true:=dT (by omega)
   have c2:decide ((0:Int)≤(i:Int)∧(i:Int)<(out.length:Int))=true:=dT (by omega)
   have c8:decide (cs.length≤16∧f.length=cs.length)=true:=dT ⟨by omega,hfl⟩
   have c9:arcIn cs.length out[i]=true:=by rw [hcl];exact ha
   have hr:=room_rate hc hf c9
   have c10:decide (((out.take i).map (roomA cs f)++[roomA cs f out[i]]).length*8≤140737488355328)=true:=dT (by rw [lA,List.length_map,List.length_take,List.length_singleton];omega)
   have w1:Go.IntKind.i64.wrap ((i:Int)+1)=((i+1:Nat):Int):=wrap_succ (by omega)
   rw [c1,cT,c2,kT,e1,c8,c9,hr,tA,tA,kT,bS,c10,kT,w1]
   have:=L2_is hf k m0 most n0 (nx:=nx) ho hin n (i+1) (by omega) (by omega)
   unfold L2 L0 at this
   rw [← this,List.take_add_one,hx,List.map_append]
   rfl
  ·obtain rfl:i=out.length:=by omega
   have c1:decide ((out.length:Int)<(out.length:Int))=false:=dF (by omega)
   have c2:decide (((out.take out.length).map (roomA cs f)).length<4611686018427387904)=true:=dT (by rw [List.length_map,List.length_take];omega)
   rw [c1,cF,c2,kT,bS,both_self,List.take_length]
structure BlockOk (g:Gr) (cs f:List Int) (src dst most:Int) (x:List Int×Int):Prop where
 flow:FlowOk g cs x.1 src dst
 gain:gainV g.2 x.1 src=gainV g.2 f src+x.2
 le:0≤x.2∧x.2≤most
 none:x.2=0→0<most→x.1=f∧rdI (levelsOf g cs f src) dst<0
theorem Nx.start {g:Gr} (hg:graphMay g=true):Nx g.2 g.1.toNat (startsA g.2 g.1.toNat):=by
 have hp:=graphMay_parts hg
 have at_:∀ i:Nat,i≤g.1.toNat→rdI (startsA g.2 g.1.toNat) (i:Int)=((orderA g.2 i).length:Int):=fun i hi=>rd_some (t:=tI) (startsA_get g.2 hi)
 refine ⟨startsA_len _ _,fun v hv=>?_,fun x hx=>?_⟩
 ·rw [at_ v (by omega)]
  rw [orderA_succ,lA]
  omega
 ·unfold startsA at hx
  obtain ⟨i,hi,rfl⟩:=List.mem_map.1 hx
  have h1:=orderA_len g.2 i
  have h2:=List.mem_range.1 hi
  have h3:i*(2*g.2.length)≤8*32:=Nat.mul_le_mul (by omega) (by omega)
  omega
include hc hsrc in
theorem L0_is (k:Nat) (hk:6000≤k) (most:Int) (hm:0≤most∧most≤maxRate) (hne:src ≠ dst) (hdst:0≤dst∧dst<g.1) (f0:List Int):∀ (n:Nat) (n0:Int) (f nx:List Int),most - n0<n→(0≤n0∧n0≤most)→FlowOk g cs f src dst→gainV g.2 f src=gainV g.2 f0 src+n0→Nx g.2 g.1.toNat nx →
  (n0=0→f=f0∧nx=startsA g.2 g.1.toNat)→∃ x,L0 k n g cs f (levelsOf g cs f0 src) src dst most n0 nx=some (resB x.1 x.2)∧BlockOk g cs f0 src dst most x
 |0,n0,f,nx,h,h',_,_,_,_=>by omega
 |n+1,n0,f,nx,h,h',hF,hG,hN,h0=>by
  have hM:maxRate=4611686018427387904:=rfl
  have hg:=caps_graph hc
  have hL:=levels_ok (cs:=cs) (f:=f0) hg hsrc
  unfold L0
  rw [f177.l0_eq]
  by_cases hlt:n0<most
  ·rw [dT hlt,cT]
   have:=L1_is (lv:=levelsOf g cs f0 src) (dst:=dst) (D:=n0=0) hc hF.within hL.lv hsrc hL.src0 (fun r=>∃ x:List Int×Int,r=some (resB x.1 x.2)∧BlockOk g cs f0 src dst most x) k n (by omega) most n0 hne (fun out nx' hW hE hO hl=>?_) (fun hD=>?_) k [] nx
    ⟨hN,trivial,fun a ha=>by simp at ha,fun hD v hv j hj hju=>by
     rw [(h0 hD).2] at hju
     have:rdI (startsA g.2 g.1.toNat) v=((orderA g.2 v.toNat).length:Int):=by
      have:=rd_some (t:=tI) (startsA_get g.2 (n:=g.1.toNat) (i:=v.toNat) (by omega))
      rw [show ((v.toNat:Nat):Int)=v by omega] at this
      exact this
     omega⟩ (by
     have:0≤nx.sum:=sum_nonneg' _ fun x hx=>(hN.all x hx).1
     simp only [List.length_nil]
     omega)
   ·unfold L1 at this
    exact this
   ·rw [show (0:Int)=((0:Nat):Int) by rfl,show ([]:List Int)=(out.take 0).map (roomA cs f) by rfl]
    have hb:=hW.way.below
    rw [L2_is hc hF.within k n most n0 hl (fun a ha=>(hb a ha).1) k 0 (by omega) (by omega)]
    have hw1:Go.IntKind.i64.wrap (most - n0)=most - n0:=wrap64 (by omega)
    rw [hw1]
    obtain ⟨y1,y2⟩:=foldl_min_le (out.map (roomA cs f)) (most - n0)
    have y3:1≤(out.map (roomA cs f)).foldl min (most - n0):=foldl_min_ge _ _ (by omega) (fun y hy=>by
     obtain ⟨a,ha,rfl⟩:=List.mem_map.1 hy
     have:=(hb a ha).2.2.2.2
     omega)
    generalize (out.map (roomA cs f)).foldl min (most - n0)=b at y1 y2 y3
    have hr:∀ a∈out,b≤roomA cs f a:=fun a ha=>y2 _ (List.mem_map_of_mem ha)
    obtain ⟨f1,f2,f3⟩:=hF.moves hc hL.src0 hW.way hE hne (by omega) hr
    have hform:moveForm g cs f b out=true:=by
     unfold moveForm liesB
     rw [hc,hF.within,dT (by omega:out.length≤64)]
     rw [show rateB b=true from dT (by omega),List.all_eq_true.2 (fun a ha=>by
      rw [withinF_len hF.within,capsMay_len hc]
      exact (hb a ha).1)]
     rfl
    have hmv:(moveOf g cs f b out).1=moves b f out:=by
     unfold moveOf
     rw [hform,cT,f3]
    rw [hmv,wrap64 (n:=n0+b) (by omega)]
    exact L0_is k hk most hm hne hdst f0 n (n0+b) _ nx' (by omega) (by omega) f1 (by omega) hW.nxOk (fun e=>by omega)
   ·refine ⟨(f,n0),rfl,hF,hG,h',fun e _=>?_⟩
    obtain ⟨e1,e2⟩:=h0 e
    dsimp only at e
    have:=hD e
    rw [e1] at this ⊢
    exact ⟨rfl,unreached hL hsrc hdst this⟩
  ·rw [dF hlt,cF]
   refine ⟨(f,n0),rfl,hF,hG,h',fun e h1=>?_⟩
   dsimp only at e
   omega
end
theorem f177_is {g:Gr} {cs f:List Int} {src dst most:Int} (hc:capsMay g cs=true) (hs:hasV g.1 src=true) (hd:hasV g.1 dst=true) (hne:src ≠ dst) (hm:rateB most=true) (hF:FlowOk g cs f src dst) :
  ∃ x:List Int×Int,BlockOk g cs f src dst most x∧∃ k,evFn (f177.E k) 9 177 Tryz.f177 (encL [tG,tL,tL,tI,tI,tI] ((g,(cs,(f,(src,(dst,most))))):Gr×(List Int×(List Int×(Int×(Int×Int))))))=some (resB x.1 x.2):=by
 have hg:=caps_graph hc
 have hM:maxRate=4611686018427387904:=rfl
 have h1:0≤src∧src<g.1:=oD hs
 have h2:0≤dst∧dst<g.1:=oD hd
 have h3:0≤most∧most≤maxRate:=oD hm
 have hfl:=withinF_len hF.within
 have hcl:=capsMay_len hc
 have hp:=graphMay_parts hg
 have hL:levelsRes g cs f src=(levelsOf g cs f src,0):=by
  unfold levelsRes liesB
  rw [hc,hF.within,hs]
  rfl
 obtain ⟨x,e1,e2⟩:=L0_is (g:=g) (cs:=cs) (src:=src) (dst:=dst) hc h1 (6000+(most.toNat+1)) (by omega) most h3 hne h2 f (6000+(most.toNat+1)) 0 f (startsA g.2 g.1.toNat) (by omega) ⟨by omega,h3.1⟩ hF (by omega) (Nx.start hg) (fun _=>⟨rfl,rfl⟩)
 refine ⟨x,e2,6000+(most.toNat+1),(f177.eq _ g cs f src dst most).trans ?_⟩
 rw [hF.may hc hs hd hne,nT,cF,hm,nT,cF,hg,kT,bS,kT,bS,hL,dT (by omega:f.length*8≤140737488355328),kT,bS,startsA_len,dT (by omega:(g.1.toNat+1)*8≤140737488355328),kT,bS]
 exact e1
open Classical in
noncomputable def relC {α β:Type} (P:β→α→Prop) (x:β):Option α:=if h:∃ y,P x y then some (Classical.choose h) else none
theorem relC_is {α β:Type} {P:β→α→Prop} {x:β} (h:∃ y,P x y):∃ y,relC P x=some y∧P x y:=⟨Classical.choose h,dif_pos h,Classical.choose_spec h⟩
theorem relC_some {α β:Type} {P:β→α→Prop} {x:β} {y:α} (h:relC P x=some y):P x y:=by
 unfold relC at h
 split at h
 ·rename_i h'
  obtain rfl:=oJ h
  exact Classical.choose_spec h'
 ·cases h
def blockP (d:Gr×(List Int×(List Int×(Int×(Int×Int))))) (x:List Int×Int):Prop :=
 BlockOk d.1 d.2.1 d.2.2.1 d.2.2.2.1 d.2.2.2.2.1 d.2.2.2.2.2 x∧∃ k,evFn (f177.E k) 9 177 Tryz.f177 (encL [tG,tL,tL,tI,tI,tI] d)=some (resB x.1 x.2)
noncomputable def blockC (d:Gr×(List Int×(List Int×(Int×(Int×Int))))):Option (List Int×Int):=relC blockP d
theorem blockC_is {g:Gr} {cs f:List Int} {src dst most:Int} (hc:capsMay g cs=true) (hs:hasV g.1 src=true) (hd:hasV g.1 dst=true) (hne:src ≠ dst) (hm:rateB most=true) (hF:FlowOk g cs f src dst) :
  ∃ x:List Int×Int,blockC (g,(cs,(f,(src,(dst,most)))))=some x∧BlockOk g cs f src dst most x:=by
 obtain ⟨y,e1,e2⟩:=relC_is (P:=blockP) (x:=(g,(cs,(f,(src,(dst,most)))))) (f177_is hc hs hd hne hm hF)
 exact ⟨y,e1,e2.1⟩
noncomputable def S177:Summ:=summ [tG,tL,tL,tI,tI,tI] (List Int×Int) blockC (fun x=>resB x.1 x.2)
theorem ok177:SumOk Tryz.prog 177 S177 :=
 sumq f177.E (fn:=Tryz.f177) (code:=f177.code) f177.sums f177.inl fun d x hx=>by
  exact (relC_some (P:=blockP) hx).2
end
section
set_option maxRecDepth 100000
noncomputable def f127.E (k:Nat):Env:=mkEnv tt [(121,S121),(125,S125),(122,S122),(177,S177)] [] [(127,4,[.kill (rg [(0,0),(6,12),(15,74)]),.tidy])] [] k
noncomputable def f127.code:Go.Code:=cd Tryz.f127
noncomputable def f127.l0 (k n:Nat) (p0:List Int) (p1:Int) (p2:Int) (p3:Int) (p4:Int) (p5:Int) (p6:List (eL)) (p7:List Int):Option V :=
 atPath (f127.E k) n ⟨(.u::(.ro qI p0)::(.int .i64 p1)::(.int .i64 p2)::(.int .i64 p3)::(.ptr 1310736 (0) (0))::.u::.u::.u::.u::.u::.u::.u::(.slw 3407888)::(.int .i64 p4)::un 60),[],[(1310736,.box [(.int .i64 p5),(.ro qL p6)]),(3407888,.row qI p7)]⟩ 9 0 127 [.c 1,.c 1,.c 1,.c 0,.c 0] [] f127.code (finK tt Tryz.f127)
theorem f127.l0_eq (k n:Nat) (p0:List Int) (p1:Int) (p2:Int) (p3:Int) (p4:Int) (p5:Int) (p6:List (eL)) (p7:List Int):f127.l0 k (n+1) p0 p1 p2 p3 p4 p5 p6 p7 =
 bif decide (p4<p3) then ((blockC (((p5,p6),p0,p7,p1,p2,Go.IntKind.i64.wrap (p3 - p4)))).bind (fun y0=>bif y0.2==(0:Int) then (some (.tup [(.own qI p7),(.int .i64 p4),(.int .i64 0)])) else (f127.l0 k n p0 p1 p2 p3 (Go.IntKind.i64.wrap (p4+y0.2)) p5 p6 y0.1))) else (some (.tup [(.own qI p7),(.int .i64 p4),(.int .i64 0)])):=by kernel_rfl
theorem f127.eq (k:Nat) (x0:Int×List (eL)) (x1:List Int) (x2:Int) (x3:Int) (x4:Int):evFn (f127.E k) 9 127 Tryz.f127 (encL [(.pair qI (.list qL)),(.list qI),qI,qI,qI] (x0,x1,x2,x3,x4)) =
 bif !capsMay x0 x1 then (some (.tup [(.own qI ([])),(.int .i64 0),(.int .i64 1200)])) else (bif !hasV x0.1 x2 then (some (.tup [(.own qI ([])),(.int .i64 0),(.int .i64 1200)])) else (bif !hasV x0.1 x3 then (some (.tup [(.own qI ([])),(.int .i64 0),(.int .i64 1200)])) else (bif x2==x3 then (some (.tup [(.own qI ([])),(.int .i64 0),(.int .i64 1200)])) else (bif !rateB x4 then (some (.tup [(.own qI ([])),(.int .i64 0),(.int .i64 1200)])) else (chk (decide ((0:Int)≤(↑x1.length:Int)∧(↑x1.length:Int)≤(↑x1.length:Int))) (chk (decide (0<8∧(↑x1.length:Int)*(↑(8:Nat):Int)≤(140737488355328:Int))) (f127.l0 k k x1 x2 x3 x4 0 x0.1 x0.2 (List.replicate (↑x1.length:Int).toNat (dflt qI))))))))):=by kernel_rfl
theorem f127.inl (k:Nat):InlOk Tryz.prog (f127.E k):=inl_nil
theorem f127.sums (k:Nat):SumsOk Tryz.prog (f127.E k):=(sums_cons ok121 (sums_cons ok125 (sums_cons ok122 (sums_cons ok177 sums_nil))))
end
section
set_option maxRecDepth 100000
structure PushOk (g:Gr) (cs:List Int) (src dst want:Int) (f:List Int) (value:Int):Prop where
 flow:FlowOk g cs f src dst
 gain:gainV g.2 f src=value
 le:0≤value∧value≤want
 less:value<want→rdI (levelsOf g cs f src) dst<0
def pushForm (g:Gr) (cs:List Int) (src dst want:Int):Bool:=capsMay g cs&&(hasV g.1 src&&(hasV g.1 dst&&(!(src==dst)&&rateB want)))
@[reducible] def resB3 (x:List Int×(Int×Int)):V:=.tup [.own tI x.1,.int .i64 x.2.1,.int .i64 x.2.2]
theorem gain_zero (v:Int):∀ (gl:List Lk) (n:Nat),gainV gl (List.replicate n 0) v=0
 | [],n=>by simp [gainV]
 |l::gl,0=>by simp [gainV]
 |l::gl,n+1=>by
  rw [List.replicate_succ]
  simp only [gainV,gain_zero v gl n]
  cases l.1==v <;> cases l.2.1==v <;> simp only [cT,cF] <;> rfl
theorem flow_zero {g:Gr} {cs:List Int} (hc:capsMay g cs=true) (src dst:Int):FlowOk g cs (List.replicate cs.length 0) src dst:=by
 have hcl:=capsMay_len hc
 refine ⟨withinF_by (by simp) fun i hi=>?_,fun v _ _ _=>gain_zero _ _ _,fun i hi _=>rdI_replicate (by omega)⟩
 rw [rdI_replicate (by omega)]
 exact ⟨Int.le_refl _,(caps_le hc (List.mem_of_getElem? (rdI_get hi))).1⟩
theorem f127.l0_is (k:Nat) {g:Gr} {cs:List Int} {src dst want:Int} (hc:capsMay g cs=true) (hs:hasV g.1 src=true) (hd:hasV g.1 dst=true) (hne:src ≠ dst) (hm:0≤want∧want≤maxRate):∀ (n:Nat) (f:List Int) (v:Int),want - v<n→(0≤v∧v≤want)→FlowOk g cs f src dst→gainV g.2 f src=v →
  ∃ x:List Int×(Int×Int),f127.l0 k n cs src dst want v g.1 g.2 f=some (resB3 x)∧x.2.2=0∧PushOk g cs src dst want x.1 x.2.1
 |0,f,v,h,h',_,_=>by omega
 |n+1,f,v,h,h',hF,hG=>by
  have hM:maxRate=4611686018427387904:=rfl
  rw [f127.l0_eq]
  by_cases hlt:v<want
  ·have hw:Go.IntKind.i64.wrap (want - v)=want - v:=wrap64 (by omega)
   obtain ⟨x,e1,e2⟩:=blockC_is hc hs hd hne (show rateB (want - v)=true from dT (by omega)) hF
   rw [dT hlt,cT,hw,e1,bS]
   have h2:=e2.le
   cases h0:x.2==0 with
   |true =>
    have h0:=eq_of_beq h0
    rw [cT]
    exact ⟨(f,(v,0)),rfl,rfl,hF,hG,h',fun _=>(e2.none h0 (by omega)).2⟩
   |false =>
    have h0:=ne_of_beq_false h0
    rw [cF,wrap64 (n:=v+x.2) (by omega)]
    exact f127.l0_is k hc hs hd hne hm n x.1 (v+x.2) (by omega) (by omega) e2.flow (by rw [e2.gain,hG])
  ·rw [dF hlt,cF]
   exact ⟨(f,(v,0)),rfl,rfl,hF,hG,h',fun h3=>absurd h3 hlt⟩
def pushQ (d:Gr×(List Int×(Int×(Int×Int)))) (x:List Int×(Int×Int)):Prop :=
 bif pushForm d.1 d.2.1 d.2.2.1 d.2.2.2.1 d.2.2.2.2 then x.2.2=0∧PushOk d.1 d.2.1 d.2.2.1 d.2.2.2.1 d.2.2.2.2 x.1 x.2.1 else x=([],(0,1200))
def pushP (d:Gr×(List Int×(Int×(Int×Int)))) (x:List Int×(Int×Int)):Prop :=
 pushQ d x∧∃ k,evFn (f127.E k) 9 127 Tryz.f127 (encL [tG,tL,tI,tI,tI] d)=some (resB3 x)
noncomputable def pushC (d:Gr×(List Int×(Int×(Int×Int)))):Option (List Int×(Int×Int)):=relC pushP d
theorem f127_is (d:Gr×(List Int×(Int×(Int×Int)))):∃ x,pushP d x:=by
 obtain ⟨g,cs,src,dst,want⟩:=d
 cases hf:pushForm g cs src dst want with
 |true =>
  have hf':=hf
  unfold pushForm at hf'
  simp only [bA,Bool.not_eq_true'] at hf'
  obtain ⟨hc,hs,hd,hne,hm⟩:=hf'
  have hm':0≤want∧want≤maxRate:=oD hm
  have hcl:=capsMay_len hc
  have hp:=graphMay_parts (caps_graph hc)
  obtain ⟨x,e1,e2⟩:=f127.l0_is (want.toNat+1) hc hs hd (ne_of_beq_false hne) hm' (want.toNat+1) (List.replicate cs.length 0) 0 (by omega) (by omega) (flow_zero hc src dst) (gain_zero _ _ _)
  refine ⟨x,?_,want.toNat+1,(f127.eq _ g cs src dst want).trans ?_⟩
  ·unfold pushQ
   dsimp only
   rw [hf,cT]
   exact e2
  ·rw [hc,hs,hd,hne,hm,nT,cF,cF,cF,cF,cF,dT (by omega:(0:Int)≤(cs.length:Int)∧(cs.length:Int)≤(cs.length:Int)),kT,dT (by omega:0<8∧(cs.length:Int)*((8:Nat):Int)≤140737488355328),kT,Int.toNat_natCast]
   exact e1
 |false =>
  refine ⟨([],(0,1200)),?_,1,(f127.eq _ g cs src dst want).trans ?_⟩
  ·unfold pushQ
   dsimp only
   rw [hf,cF]
  ·unfold pushForm at hf
   revert hf
   cases capsMay g cs <;> cases hasV g.1 src <;> cases hasV g.1 dst <;> cases src==dst <;> cases rateB want <;> intro hf <;> simp only [nT,nF,cT,cF] <;> cases hf
theorem pushC_is {g:Gr} {cs:List Int} {src dst want:Int}:∃ x,pushC (g,(cs,(src,(dst,want))))=some x∧pushQ (g,(cs,(src,(dst,want)))) x:=by
 obtain ⟨y,e1,e2⟩:=relC_is (f127_is (g,(cs,(src,(dst,want)))))
 exact ⟨y,e1,e2.1⟩
noncomputable def S127:Summ:=summ [tG,tL,tI,tI,tI] (List Int×(Int×Int)) pushC resB3
theorem ok127:SumOk Tryz.prog 127 S127 :=
 sumq f127.E (fn:=Tryz.f127) (code:=f127.code) f127.sums f127.inl fun d x hx=>(relC_some (P:=pushP) hx).2
end
section
set_option maxRecDepth 100000
noncomputable def f246.E (k:Nat):Env:=mkEnv tt [] [] [(246,2,[.kill (rg [(0,0),(4,11),(15,38)]),.tidy])] [] k
noncomputable def f246.code:Go.Code:=cd Tryz.f246
noncomputable def f246.l0 (k n:Nat) (p0:List Int) (p1:List Bool) (p2:Int) (p3:List (eL)) (p4:Int) (p5:Int):Option V :=
 atPath (f246.E k) n ⟨(.u::(.ro qI p0)::(.ro .bool p1)::(.int .i64 p2)::.u::.u::.u::.u::.u::.u::.u::.u::(.ro qL p3)::(.int .i64 p4)::(.int .i64 p5)::un 24),[],[]⟩ 9 0 246 [.c 1,.c 0,.c 1,.c 0] [] f246.code (finK tt Tryz.f246)
theorem f246.l0_eq (k n:Nat) (p0:List Int) (p1:List Bool) (p2:Int) (p3:List (eL)) (p4:Int) (p5:Int):f246.l0 k (n+1) p0 p1 p2 p3 p4 p5 =
 bif decide (p5<p4) then (chk (decide ((0:Int)≤p5∧p5<(↑p3.length:Int))) (bif (rd qL p3 p5).1==p2 then (chk (decide ((0:Int)≤(rd qL p3 p5).2.1∧(rd qL p3 p5).2.1<(↑p1.length:Int))) (bif rd Ty.bool p1 (rd qL p3 p5).2.1 then (chk (decide ((0:Int)≤p5∧p5<(↑p0.length:Int))) (bif decide (rd qI p0 p5>(0:Int)) then (some (.int .i64 p5)) else (f246.l0 k n p0 p1 p2 p3 p4 (Go.IntKind.i64.wrap (p5+(1:Int)))))) else (f246.l0 k n p0 p1 p2 p3 p4 (Go.IntKind.i64.wrap (p5+(1:Int)))))) else (f246.l0 k n p0 p1 p2 p3 p4 (Go.IntKind.i64.wrap (p5+(1:Int)))))) else (some (.int .i64 ((-1:Int)))):=by kernel_rfl
theorem f246.eq (k:Nat) (x0:Int×List (eL)) (x1:List Int) (x2:List Bool) (x3:Int):evFn (f246.E k) 9 246 Tryz.f246 (encL [(.pair qI (.list qL)),(.list qI),(.list .bool),qI] (x0,x1,x2,x3)) =
 f246.l0 k k x1 x2 x3 x0.2 ((↑(x0.2.length):Int)) 0:=by kernel_rfl
theorem f246.inl (k:Nat):InlOk Tryz.prog (f246.E k):=inl_nil
theorem f246.sums (k:Nat):SumsOk Tryz.prog (f246.E k):=sums_nil
noncomputable def f247.E (k:Nat):Env:=mkEnv tt [] [] [(247,2,[.kill (rg [(2,6),(9,18)]),.tidy])] [] k
noncomputable def f247.code:Go.Code:=cd Tryz.f247
noncomputable def f247.l0 (k n:Nat) (p0:List Int) (p1:Int) (p2:Int) (p3:Int):Option V :=
 atPath (f247.E k) n ⟨((.ro qI p0)::(.int .i64 p1)::.u::.u::.u::.u::.u::(.int .i64 p2)::(.int .i64 p3)::un 10),[],[]⟩ 9 0 247 [.c 1,.c 0,.c 1,.c 0] [] f247.code (finK tt Tryz.f247)
theorem f247.l0_eq (k n:Nat) (p0:List Int) (p1:Int) (p2:Int) (p3:Int):f247.l0 k (n+1) p0 p1 p2 p3 =
 bif decide (p3<p2) then (chk (decide ((0:Int)≤p3∧p3<(↑p0.length:Int))) (bif p1==rd qI p0 p3 then (some (.int .i64 p3)) else (f247.l0 k n p0 p1 p2 (Go.IntKind.i64.wrap (p3+(1:Int)))))) else (some (.int .i64 ((-1:Int)))):=by kernel_rfl
theorem f247.eq (k:Nat) (x0:List Int) (x1:Int):evFn (f247.E k) 9 247 Tryz.f247 (encL [(.list qI),qI] (x0,x1)) =
 f247.l0 k k x0 x1 ((↑x0.length:Int)) 0:=by kernel_rfl
theorem f247.inl (k:Nat):InlOk Tryz.prog (f247.E k):=inl_nil
theorem f247.sums (k:Nat):SumsOk Tryz.prog (f247.E k):=sums_nil
noncomputable def f245.E (k:Nat):Env:=mkEnv tt [] [] [(245,2,[.kill (rg [(2,6),(9,18)]),.tidy])] [] k
noncomputable def f245.code:Go.Code:=cd Tryz.f245
noncomputable def f245.l0 (k n:Nat) (p0:List Bool) (p1:Bool) (p2:Int) (p3:Int):Option V :=
 atPath (f245.E k) n ⟨((.ro .bool p0)::(.bool p1)::.u::.u::.u::.u::.u::(.int .i64 p2)::(.int .i64 p3)::un 10),[],[]⟩ 9 0 245 [.c 1,.c 0,.c 1,.c 0] [] f245.code (finK tt Tryz.f245)
theorem f245.l0_eq (k n:Nat) (p0:List Bool) (p1:Bool) (p2:Int) (p3:Int):f245.l0 k (n+1) p0 p1 p2 p3 =
 bif decide (p3<p2) then (chk (decide ((0:Int)≤p3∧p3<(↑p0.length:Int))) (bif p1==rd Ty.bool p0 p3 then (some (.int .i64 p3)) else (f245.l0 k n p0 p1 p2 (Go.IntKind.i64.wrap (p3+(1:Int)))))) else (some (.int .i64 ((-1:Int)))):=by kernel_rfl
theorem f245.eq (k:Nat) (x0:List Bool) (x1:Bool):evFn (f245.E k) 9 245 Tryz.f245 (encL [(.list .bool),.bool] (x0,x1)) =
 f245.l0 k k x0 x1 ((↑x0.length:Int)) 0:=by kernel_rfl
theorem f245.inl (k:Nat):InlOk Tryz.prog (f245.E k):=inl_nil
theorem f245.sums (k:Nat):SumsOk Tryz.prog (f245.E k):=sums_nil
noncomputable def f221.E (k:Nat):Env:=mkEnv tt [] [] [(221,3,[.kill (rg [(1,4),(6,7),(11,22)]),.tidy])] [] k
noncomputable def f221.code:Go.Code:=cd Tryz.f221
noncomputable def f221.l0 (k n:Nat) (p0:List Int) (p1:List Int) (p2:Int) (p3:Int) (p4:List Int):Option V :=
 atPath (f221.E k) n ⟨((.ro qI p0)::.u::.u::.u::.u::(.slw 1310736)::.u::.u::(.ro qI p1)::(.int .i64 p2)::(.int .i64 p3)::un 12),[],[(1310736,.row qI p4)]⟩ 9 0 221 [.c 1,.c 1,.c 0,.c 1,.c 0] [] f221.code (finK tt Tryz.f221)
theorem f221.l0_eq (k n:Nat) (p0:List Int) (p1:List Int) (p2:Int) (p3:Int) (p4:List Int):f221.l0 k (n+1) p0 p1 p2 p3 p4 =
 bif decide (p3<p2) then (chk (decide ((0:Int)≤p3∧p3<(↑p1.length:Int))) (chk (decide ((0:Int)≤rd qI p1 p3∧rd qI p1 p3<(↑p0.length:Int))) (chk (decide ((p4++[rd qI p0 (rd qI p1 p3)]).length*8≤140737488355328)) (f221.l0 k n p0 p1 p2 (Go.IntKind.i64.wrap (p3+(1:Int))) (p4++[rd qI p0 (rd qI p1 p3)]))))) else (some (.own qI p4)):=by kernel_rfl
theorem f221.eq (k:Nat) (x0:List Int) (x1:List Int):evFn (f221.E k) 9 221 Tryz.f221 (encL [(.list qI),(.list qI)] (x0,x1)) =
 f221.l0 k k x0 x1 ((↑x1.length:Int)) 0 ([]):=by kernel_rfl
theorem f221.inl (k:Nat):InlOk Tryz.prog (f221.E k):=inl_nil
theorem f221.sums (k:Nat):SumsOk Tryz.prog (f221.E k):=sums_nil
noncomputable def f219.E (k:Nat):Env:=mkEnv tt [(175,S175),(215,S215)] [] [] [] k
noncomputable def f219.code:Go.Code:=cd Tryz.f219
theorem f219.eq (k:Nat) (x0:Int×List (eL)) (x1:List Int):evFn (f219.E k) 9 219 Tryz.f219 (encL [(.pair qI (.list qL)),(.list qI)] (x0,x1)) =
 (chk (decide (x0.2.length≤16777216)) (some (capsOf x0))).bind (fun y0=>some (.bool (liesB x0 y0 x1))):=by kernel_rfl
theorem f219.inl (k:Nat):InlOk Tryz.prog (f219.E k):=inl_nil
theorem f219.sums (k:Nat):SumsOk Tryz.prog (f219.E k):=(sums_cons ok175 (sums_cons ok215 sums_nil))
noncomputable def f222.E (k:Nat):Env:=mkEnv tt [] [] [(222,2,[.kill (rg [(0,0),(3,9),(13,29)]),.tidy])] [] k
noncomputable def f222.code:Go.Code:=cd Tryz.f222
noncomputable def f222.l0 (k n:Nat) (p0:List Int) (p1:Int) (p2:List (eL)) (p3:Int) (p4:Int):Option V :=
 atPath (f222.E k) n ⟨(.u::(.ro qI p0)::(.int .i64 p1)::.u::.u::.u::.u::.u::.u::.u::(.ro qL p2)::(.int .i64 p3)::(.int .i64 p4)::un 17),[],[]⟩ 9 0 222 [.c 1,.c 0,.c 1,.c 0] [] f222.code (finK tt Tryz.f222)
theorem f222.l0_eq (k n:Nat) (p0:List Int) (p1:Int) (p2:List (eL)) (p3:Int) (p4:Int):f222.l0 k (n+1) p0 p1 p2 p3 p4 =
 bif decide (p4<p3) then (chk (decide ((0:Int)≤p4∧p4<(↑p2.length:Int))) (bif (rd qL p2 p4).1==p1 then (chk (decide ((0:Int)≤p4∧p4<(↑p0.length:Int))) (bif decide (rd qI p0 p4>(0:Int)) then (some (.int .i64 p4)) else (f222.l0 k n p0 p1 p2 p3 (Go.IntKind.i64.wrap (p4+(1:Int)))))) else (f222.l0 k n p0 p1 p2 p3 (Go.IntKind.i64.wrap (p4+(1:Int)))))) else (some (.int .i64 ((-1:Int)))):=by kernel_rfl
theorem f222.eq (k:Nat) (x0:Int×List (eL)) (x1:List Int) (x2:Int):evFn (f222.E k) 9 222 Tryz.f222 (encL [(.pair qI (.list qL)),(.list qI),qI] (x0,x1,x2)) =
 f222.l0 k k x1 x2 x0.2 ((↑(x0.2.length):Int)) 0:=by kernel_rfl
theorem f222.inl (k:Nat):InlOk Tryz.prog (f222.E k):=inl_nil
theorem f222.sums (k:Nat):SumsOk Tryz.prog (f222.E k):=sums_nil
end
section
set_option maxRecDepth 100000
def searchI (n:Nat) (p:Int→Bool):Int:=((upto n).find? p).getD (-1)
theorem searchI_cases (n:Nat) (p:Int→Bool):(searchI n p=-1∧∀ i,0≤i∧i<(n:Int)→p i=false)∨((0≤searchI n p∧searchI n p<(n:Int))∧p (searchI n p)=true):=by
 unfold searchI
 cases h:(upto n).find? p with
 |none =>
  refine .inl ⟨rfl,fun i hi=>?_⟩
  have:=List.find?_eq_none.1 h i (upto_mem.2 hi)
  simpa using this
 |some a =>
  refine .inr ⟨upto_mem.1 (List.mem_of_find?_eq_some h),List.find?_some h⟩
theorem search_loop (F:Nat→Int→Option V) (len:Nat) (p:Int→Bool) (hstep:∀ (n i:Nat),i<len→F (n+1) (i:Int)=bif p (i:Int) then some (.int .i64 (i:Int)) else F n ((i+1:Nat):Int)) (hend:∀ n,F (n+1) (len:Int)=some (.int .i64 (-1))) :
  ∀ (n i:Nat),i≤len→len<n+i→F n (i:Int)=some (.int .i64 ((((upto len).drop i).find? p).getD (-1)))
 |0,i,h,h'=>by omega
 |n+1,i,h,h'=>by
  by_cases hlt:i<len
  ·have hu:i<(upto len).length:=by rw [upto_length];exact hlt
   have hg:(upto len)[i]=(i:Int):=(List.getElem?_eq_some_iff.1 (upto_get hlt)).2
   rw [hstep n i hlt,List.drop_eq_getElem_cons hu,hg,List.find?_cons]
   cases p (i:Int) with
   |true=>rw [cT];rfl
   |false=>rw [cF,search_loop F len p hstep hend n (i+1) (by omega) (by omega)]
  ·obtain rfl:i=len:=by omega
   rw [hend,List.drop_eq_nil_of_le (by rw [upto_length];omega)]
   rfl
def rdB (st:List Bool) (i:Int):Bool:=rd .bool st i
def onB (gl:List Lk) (f:List Int) (st:List Bool) (v i:Int):Bool:=((lk gl i).1==v)&&(rdB st (lk gl i).2.1&&decide (rdI f i>0))
def onA (gl:List Lk) (f:List Int) (st:List Bool) (v:Int):Int:=searchI gl.length (onB gl f st v)
def nextB (gl:List Lk) (f:List Int) (v i:Int):Bool:=((lk gl i).1==v)&&decide (rdI f i>0)
def nextA (gl:List Lk) (f:List Int) (v:Int):Int:=searchI gl.length (nextB gl f v)
theorem lk_at {g:Gr} (hg:graphMay g=true) {i:Int} (hi:0≤i∧i<(g.2.length:Int)):(0≤(lk g.2 i).1∧(lk g.2 i).1<g.1)∧(0≤(lk g.2 i).2.1∧(lk g.2 i).2.1<g.1)∧(lk g.2 i).1 ≠ (lk g.2 i).2.1:=by
 have hlt:i.toNat<g.2.length:=by omega
 have hx:=gE hlt
 have e:lk g.2 i=g.2[i.toNat]:=by
  have:=rd_some (t:=tLk) hx
  rw [show ((i.toNat:Nat):Int)=i by omega] at this
  exact this
 rw [e]
 exact link_at hg hx
@[reducible] def tBL:Ty:=.list .bool
def onForm (d:Gr×(List Int×(List Bool×Int))):Bool:=graphMay d.1&&(d.2.1.length==d.1.2.length&&((d.2.2.1.length:Int)==d.1.1))
noncomputable def S246:Summ:=summ [tG,tL,tBL,tI] Int (fun (d:Gr×(List Int×(List Bool×Int)))=>chk (onForm d) (some (onA d.1.2 d.2.1 d.2.2.1 d.2.2.2))) (.int .i64)
theorem ok246:SumOk Tryz.prog 246 S246 :=
 sumq f246.E (fn:=Tryz.f246) (code:=f246.code) f246.sums f246.inl fun (d:Gr×(List Int×(List Bool×Int))) x hx=>by
  obtain ⟨g,f,st,v⟩:=d
  obtain ⟨hg,hx⟩:=chk_some hx
  obtain rfl:=oJ hx
  unfold onForm at hg
  simp only [bA] at hg
  obtain ⟨hg,hl,hs⟩:=hg
  have hl:=eq_of_beq hl
  have hs:=eq_of_beq hs
  have hp:=graphMay_parts hg
  refine ⟨g.2.length+1,(f246.eq _ g f st v).trans ?_⟩
  have:=search_loop (fun n i=>f246.l0 (g.2.length+1) n f st v g.2 (g.2.length:Int) i) g.2.length (onB g.2 f st v) (fun n i hi=>?_) (fun n=>?_) (g.2.length+1) 0 (by omega) (by omega)
  ·exact this
  ·have hk:=lk_at hg (i:=(i:Int)) (by omega)
   rw [f246.l0_eq,dT (by omega:(i:Int)<(g.2.length:Int)),cT,dT (by omega:(0:Int)≤(i:Int)∧(i:Int)<(g.2.length:Int)),kT,wrap_succ (by omega)]
   have c1:decide ((0:Int)≤(lk g.2 i).2.1∧(lk g.2 i).2.1<(st.length:Int))=true:=dT (by omega)
   have c2:decide ((0:Int)≤(i:Int)∧(i:Int)<(f.length:Int))=true:=dT (by omega)
   unfold onB
   show (bif (lk g.2 i).1==v then chk (decide ((0:Int)≤(lk g.2 i).2.1∧(lk g.2 i).2.1<(st.length:Int))) (bif rdB st (lk g.2 i).2.1 then chk (decide ((0:Int)≤(i:Int)∧(i:Int)<(f.length:Int))) (bif decide (rdI f i>0) then _ else _) else _) else _)=_
   rw [c1,c2,kT,kT]
   cases (lk g.2 i).1==v <;> cases rdB st (lk g.2 i).2.1 <;> cases decide (rdI f i>0) <;> simp only [cT,cF,tA,fA,Bool.and_false]
  ·rw [f246.l0_eq,dF (by omega:¬ (g.2.length:Int)<(g.2.length:Int)),cF]
def nextForm (d:Gr×(List Int×Int)):Bool:=graphMay d.1&&(d.2.1.length==d.1.2.length)
noncomputable def S222:Summ:=summ [tG,tL,tI] Int (fun (d:Gr×(List Int×Int))=>chk (nextForm d) (some (nextA d.1.2 d.2.1 d.2.2))) (.int .i64)
theorem ok222:SumOk Tryz.prog 222 S222 :=
 sumq f222.E (fn:=Tryz.f222) (code:=f222.code) f222.sums f222.inl fun (d:Gr×(List Int×Int)) x hx=>by
  obtain ⟨g,f,v⟩:=d
  obtain ⟨hg,hx⟩:=chk_some hx
  obtain rfl:=oJ hx
  unfold nextForm at hg
  simp only [bA] at hg
  obtain ⟨hg,hl⟩:=hg
  have hl:=eq_of_beq hl
  have hp:=graphMay_parts hg
  refine ⟨g.2.length+1,(f222.eq _ g f v).trans ?_⟩
  have:=search_loop (fun n i=>f222.l0 (g.2.length+1) n f v g.2 (g.2.length:Int) i) g.2.length (nextB g.2 f v) (fun n i hi=>?_) (fun n=>?_) (g.2.length+1) 0 (by omega) (by omega)
  ·exact this
  ·rw [f222.l0_eq,dT (by omega:(i:Int)<(g.2.length:Int)),cT,dT (by omega:(0:Int)≤(i:Int)∧(i:Int)<(g.2.length:Int)),kT,wrap_succ (by omega)]
   have c2:decide ((0:Int)≤(i:Int)∧(i:Int)<(f.length:Int))=true:=dT (by omega)
   unfold nextB
   show (bif (lk g.2 i).1==v then chk (decide ((0:Int)≤(i:Int)∧(i:Int)<(f.length:Int))) (bif decide (rdI f i>0) then _ else _) else _)=_
   rw [c2,kT]
   cases (lk g.2 i).1==v <;> cases decide (rdI f i>0) <;> simp only [cT,cF,tA,fA]
  ·rw [f222.l0_eq,dF (by omega:¬ (g.2.length:Int)<(g.2.length:Int)),cF]
noncomputable def S247:Summ:=summ [tL,tI] Int (fun (d:List Int×Int)=>chk (decide (d.1.length<4611686018427387904)) (some (searchI d.1.length fun i=>d.2==rdI d.1 i))) (.int .i64)
theorem ok247:SumOk Tryz.prog 247 S247 :=
 sumq f247.E (fn:=Tryz.f247) (code:=f247.code) f247.sums f247.inl fun (d:List Int×Int) x hx=>by
  obtain ⟨xs,v⟩:=d
  obtain ⟨hl,hx⟩:=chk_some hx
  obtain rfl:=oJ hx
  have hl:xs.length<4611686018427387904:=oD hl
  refine ⟨xs.length+1,(f247.eq _ xs v).trans ?_⟩
  have:=search_loop (fun n i=>f247.l0 (xs.length+1) n xs v (xs.length:Int) i) xs.length (fun i=>v==rdI xs i) (fun n i hi=>?_) (fun n=>?_) (xs.length+1) 0 (by omega) (by omega)
  ·exact this
  ·rw [f247.l0_eq,dT (by omega:(i:Int)<(xs.length:Int)),cT,dT (by omega:(0:Int)≤(i:Int)∧(i:Int)<(xs.length:Int)),kT,wrap_succ (by omega)]
   rfl
  ·rw [f247.l0_eq,dF (by omega:¬ (xs.length:Int)<(xs.length:Int)),cF]
noncomputable def S245:Summ:=summ [tBL,.bool] Int (fun (d:List Bool×Bool)=>chk (decide (d.1.length<4611686018427387904)) (some (searchI d.1.length fun i=>d.2==rdB d.1 i))) (.int .i64)
theorem ok245:SumOk Tryz.prog 245 S245 :=
 sumq f245.E (fn:=Tryz.f245) (code:=f245.code) f245.sums f245.inl fun (d:List Bool×Bool) x hx=>by
  obtain ⟨xs,v⟩:=d
  obtain ⟨hl,hx⟩:=chk_some hx
  obtain rfl:=oJ hx
  have hl:xs.length<4611686018427387904:=oD hl
  refine ⟨xs.length+1,(f245.eq _ xs v).trans ?_⟩
  have:=search_loop (fun n i=>f245.l0 (xs.length+1) n xs v (xs.length:Int) i) xs.length (fun i=>v==rdB xs i) (fun n i hi=>?_) (fun n=>?_) (xs.length+1) 0 (by omega) (by omega)
  ·exact this
  ·rw [f245.l0_eq,dT (by omega:(i:Int)<(xs.length:Int)),cT,dT (by omega:(0:Int)≤(i:Int)∧(i:Int)<(xs.length:Int)),kT,wrap_succ (by omega)]
   rfl
  ·rw [f245.l0_eq,dF (by omega:¬ (xs.length:Int)<(xs.length:Int)),cF]
def inL (n:Nat) (ws:List Int):Bool:=ws.all fun l=>decide (0≤l∧l<(n:Int))
noncomputable def S221:Summ:=summ [tL,tL] (List Int) (fun (d:List Int×List Int)=>chk (decide (d.2.length≤64)&&inL d.1.length d.2) (some (d.2.map (rdI d.1)))) (.own tI)
theorem f221.l0_is (k:Nat) (f ws:List Int) (hl:ws.length≤64) (hw:inL f.length ws=true):∀ (n i:Nat),i≤ws.length→ws.length<n+i→f221.l0 k n f ws (ws.length:Int) (i:Int) ((ws.take i).map (rdI f))=some (.own tI (ws.map (rdI f)))
 |0,i,h,h'=>by omega
 |n+1,i,h,h'=>by
  rw [f221.l0_eq]
  by_cases hlt:i<ws.length
  ·have hx:=gE hlt
   have h1:=oD (List.all_eq_true.1 hw _ (List.getElem_mem hlt))
   have e1:rd (Ty.int Go.IntKind.i64) ws (i:Int)=ws[i]:=rd_some (t:=tI) hx
   have e2:rd (Ty.int Go.IntKind.i64) f ws[i]=rdI f ws[i]:=rfl
   rw [e1,e2,dT (by omega:(i:Int)<(ws.length:Int)),cT,dT (by omega:(0:Int)≤(i:Int)∧(i:Int)<(ws.length:Int)),kT,dT h1,kT,
    dT (by rw [lA,List.length_map,List.length_take,List.length_singleton];omega:((ws.take i).map (rdI f)++[rdI f ws[i]]).length*8≤140737488355328),kT,wrap_succ (by omega),
    ← f221.l0_is k f ws hl hw n (i+1) (by omega) (by omega),List.take_add_one,hx,List.map_append]
   rfl
  ·obtain rfl:i=ws.length:=by omega
   rw [dF (by omega:¬ (ws.length:Int)<(ws.length:Int)),cF,List.take_length]
theorem ok221:SumOk Tryz.prog 221 S221 :=
 sumq f221.E (fn:=Tryz.f221) (code:=f221.code) f221.sums f221.inl fun (d:List Int×List Int) x hx=>by
  obtain ⟨f,ws⟩:=d
  obtain ⟨h,hx⟩:=chk_some hx
  obtain rfl:=oJ hx
  rw [bA] at h
  exact ⟨ws.length+1,(f221.eq _ f ws).trans (f221.l0_is _ f ws (oD h.1) h.2 (ws.length+1) 0 (by omega) (by omega))⟩
theorem capsMay_own {g:Gr} (h:graphMay g=true):capsMay g (capsOf g)=true:=by
 have h':=h
 unfold graphMay at h'
 rw [bA] at h'
 obtain ⟨t,ht⟩:=Option.isSome_iff_exists.1 h'.2
 have a:=(sumUp_lo _ _ _ ht (by omega) (by decide)).2.2
 unfold capsMay
 rw [h,tA]
 refine withinL_of (by simp [capsOf]) fun i c l hc hl=>?_
 have:(capsOf g)[i]? = some l.2.2:=by simp [capsOf,hl]
 rw [this] at hc
 obtain rfl:=oJ hc
 exact ⟨(a _ (List.mem_of_getElem? this)).1,Int.le_refl _⟩
theorem lies_own {g:Gr} (h:graphMay g=true) (f:List Int):liesB g (capsOf g) f=capsMay g f:=by
 cases hf:capsMay g f with
 |true =>
  have hl:=capsMay_len hf
  have hf':=hf
  unfold capsMay at hf'
  rw [bA] at hf'
  unfold liesB
  rw [capsMay_own h,tA]
  refine withinF_of (by simp [capsOf,hl]) fun i x c hx hc=>?_
  have hi:i<g.2.length:=by rw [← hl];exact idx_lt hx
  have hl':=gE hi
  have:(capsOf g)[i]? = some g.2[i].2.2:=by simp [capsOf,hi]
  rw [this] at hc
  obtain rfl:=oJ hc
  exact withinL_at hf'.2 hx hl'
 |false =>
  cases hb:liesB g (capsOf g) f with
  |true=>rw [lies_caps hb] at hf;cases hf
  |false=>rfl
noncomputable def S219:Summ:=summ [tG,tL] Bool (fun (d:Gr×List Int)=>chk (graphMay d.1) (some (capsMay d.1 d.2))) .bool
theorem ok219:SumOk Tryz.prog 219 S219 :=
 sumq f219.E (fn:=Tryz.f219) (code:=f219.code) f219.sums f219.inl fun (d:Gr×List Int) x hx=>by
  obtain ⟨g,f⟩:=d
  obtain ⟨h,hx⟩:=chk_some hx
  obtain rfl:=oJ hx
  have h:graphMay g=true:=h
  have hp:=graphMay_parts h
  refine ⟨1,(f219.eq _ g f).trans ?_⟩
  rw [dT (by omega:g.2.length≤16777216),kT,bS,lies_own h]
end
section
set_option maxRecDepth 100000
noncomputable def f244.E (k:Nat):Env:=mkEnv tt [(246,S246),(263,S263)] [] [(244,5,[.kill (rg [(0,0),(3,4),(6,11),(14,15),(18,37)]),.tidy]),(244,3,[.kill (rg [(0,0),(3,4),(6,11),(14,37)]),.tidy])] [] k
noncomputable def f244.code:Go.Code:=cd Tryz.f244
noncomputable def f244.l0 (k n:Nat) (p0:List Int) (p1:Int) (p2:Int) (p3:List (eL)) (p4:List Bool):Option V :=
 atPath (f244.E k) n ⟨(.u::(.ro qI p0)::(.ptr 524304 (0) (0))::.u::.u::(.slw 1310736)::.u::.u::.u::.u::.u::.u::(.int .i64 p1)::(.int .i64 p2)::un 24),[],[(524304,.box [(.int .i64 p1),(.ro qL p3)]),(1310736,.row .bool p4)]⟩ 9 0 244 [.c 1,.c 1,.c 0,.c 1,.c 0] [] f244.code (finK tt Tryz.f244)
noncomputable def f244.l1 (k n m0:Nat) (p0:List Int) (p1:Int) (p2:Int) (p3:Int) (p4:Int) (p5:List (eL)) (p6:List Bool):Option V :=
 atPath (f244.E k) n ⟨(.u::(.ro qI p0)::(.ptr 524304 (0) (0))::.u::.u::(.slw 1310736)::.u::.u::.u::.u::.u::.u::(.int .i64 p1)::(.int .i64 p2)::.u::.u::(.int .i64 p3)::(.int .i64 p4)::un 20),[],[(524304,.box [(.int .i64 p1),(.ro qL p5)]),(1310736,.row .bool p6)]⟩ 9 0 244 [.c 1,.c 1,.c 0,.c 1,.c 0,.c 0,.c 1,.c 1,.c 0,.c 0,.c 1,.c 0] [m0] f244.code (finK tt Tryz.f244)
theorem f244.l0_eq (k n:Nat) (p0:List Int) (p1:Int) (p2:Int) (p3:List (eL)) (p4:List Bool):f244.l0 k (n+1) p0 p1 p2 p3 p4 =
 bif decide (p2<p1) then (f244.l1 k k n p0 p1 p2 ((↑p4.length:Int)) 0 p3 p4) else (some (.own .bool p4)):=by kernel_rfl
theorem f244.l1_eq (k n m0:Nat) (p0:List Int) (p1:Int) (p2:Int) (p3:Int) (p4:Int) (p5:List (eL)) (p6:List Bool):f244.l1 k (n+1) m0 p0 p1 p2 p3 p4 p5 p6 =
 bif decide (p4<p3) then (chk (decide ((0:Int)≤p4∧p4<(↑p6.length:Int))) (bif rd Ty.bool p6 (↑p4.toNat:Int) then ((chk (onForm ((p1,p5),p0,p6,p4)) (some (onA p5 p0 p6 p4))).bind (fun y0=>chk (decide ((0:Int)≤p4∧p4<(↑p6.length:Int))) (f244.l1 k n m0 p0 p1 p2 p3 (Go.IntKind.i64.wrap (p4+(1:Int))) p5 (p6.set p4.toNat (decide (y0 ≥ (0:Int))))))) else (chk (decide ((0:Int)≤p4∧p4<(↑p6.length:Int))) (f244.l1 k n m0 p0 p1 p2 p3 (Go.IntKind.i64.wrap (p4+(1:Int))) p5 (p6.set p4.toNat false))))) else (f244.l0 k m0 p0 p1 (Go.IntKind.i64.wrap (p2+(1:Int))) p5 p6):=by kernel_rfl
theorem f244.eq (k:Nat) (x0:Int×List (eL)) (x1:List Int):evFn (f244.E k) 9 244 Tryz.f244 (encL [(.pair qI (.list qL)),(.list qI)] (x0,x1)) =
 (chk ([true]==[true]&&decide ((1:Int)≤x0.1∧x0.1≤(8:Int))) (some (List.replicate (Int.toNat x0.1) true))).bind (fun y0=>f244.l0 k k x1 x0.1 0 x0.2 y0):=by kernel_rfl
theorem f244.inl (k:Nat):InlOk Tryz.prog (f244.E k):=inl_nil
theorem f244.sums (k:Nat):SumsOk Tryz.prog (f244.E k):=(sums_cons ok246 (sums_cons ok263 sums_nil))
end
section
set_option maxRecDepth 100000
def coreStep (gl:List Lk) (f:List Int) (st:List Bool) (v:Int):List Bool:=st.set v.toNat (rdB st v&&decide (onA gl f st v ≥ 0))
def coreRound (gl:List Lk) (f:List Int) (m:Nat) (st:List Bool):List Bool:=(upto m).foldl (coreStep gl f) st
def coreN (gl:List Lk) (f:List Int) (m:Nat):Nat→List Bool→List Bool
 |0,st=>st
 |n+1,st=>coreN gl f m n (coreRound gl f m st)
def coreOf (g:Gr) (f:List Int):List Bool:=coreN g.2 f g.1.toNat g.1.toNat (List.replicate g.1.toNat true)
theorem coreStep_len (gl:List Lk) (f:List Int) (st:List Bool) (v:Int):(coreStep gl f st v).length=st.length:=by simp [coreStep]
theorem coreFold_len (gl:List Lk) (f:List Int):∀ (l:List Int) (st:List Bool),(l.foldl (coreStep gl f) st).length=st.length
 | [],st=>rfl
 |v::l,st=>by rw [List.foldl_cons,coreFold_len gl f l,coreStep_len]
theorem coreRound_len (gl:List Lk) (f:List Int) (m:Nat) (st:List Bool):(coreRound gl f m st).length=st.length:=coreFold_len gl f _ st
theorem f244.l1_is (k m0:Nat) {g:Gr} (hg:graphMay g=true) {f:List Int} (hf:f.length=g.2.length) (r:Int):∀ (n i:Nat) (st:List Bool),i≤g.1.toNat→g.1.toNat<n+i→st.length=g.1.toNat →
  f244.l1 k n m0 f g.1 r (st.length:Int) (i:Int) g.2 st=f244.l0 k m0 f g.1 (Go.IntKind.i64.wrap (r+1)) g.2 (((upto g.1.toNat).drop i).foldl (coreStep g.2 f) st)
 |0,i,st,h,h',_=>by omega
 |n+1,i,st,h,h',hs=>by
  have hp:=graphMay_parts hg
  rw [f244.l1_eq]
  by_cases hlt:i<g.1.toNat
  ·have hu:i<(upto g.1.toNat).length:=by rw [upto_length];exact hlt
   have hv:(upto g.1.toNat)[i]=(i:Int):=(List.getElem?_eq_some_iff.1 (upto_get hlt)).2
   have c1:decide ((0:Int)≤(i:Int)∧(i:Int)<(st.length:Int))=true:=dT (by omega)
   have c2:onForm (((g.1,g.2),f,st,(i:Int)):Gr×(List Int×(List Bool×Int)))=true:=by
    unfold onForm
    dsimp only
    rw [show graphMay (g.1,g.2)=true from hg,hf,hs,show (((g.1.toNat:Nat):Int)==g.1)=true by simp;omega]
    simp
   have e1:rd Ty.bool st (((i:Int).toNat:Nat):Int)=rdB st (i:Int):=by rw [Int.toNat_natCast];rfl
   have hw:Go.IntKind.i64.wrap ((i:Int)+1)=((i+1:Nat):Int):=wrap_succ (by omega)
   have es:coreStep g.2 f st (i:Int)=st.set (i:Int).toNat (rdB st (i:Int)&&decide (onA g.2 f st (i:Int) ≥ 0)):=rfl
   have ih:=f244.l1_is k m0 hg hf r n (i+1) (coreStep g.2 f st (i:Int)) (by omega) (by omega) (by rw [coreStep_len,hs])
   rw [coreStep_len] at ih
   rw [dT (by omega:(i:Int)<(st.length:Int)),cT,c1,kT,e1,c2,kT,bS,kT,kT,List.drop_eq_getElem_cons hu,hv,List.foldl_cons,← ih,es,hw]
   cases rdB st (i:Int) <;> simp only [cT,cF,tA,fA]
  ·obtain rfl:i=g.1.toNat:=by omega
   rw [dF (by omega:¬ ((g.1.toNat:Nat):Int)<(st.length:Int)),cF,List.drop_eq_nil_of_le (by rw [upto_length];omega)]
   rfl
theorem f244.l0_is (k:Nat) {g:Gr} (hg:graphMay g=true) {f:List Int} (hf:f.length=g.2.length) (hk:9≤k):∀ (n j:Nat) (st:List Bool),j<n→j≤g.1.toNat→st.length=g.1.toNat →
  f244.l0 k n f g.1 (g.1 - (j:Int)) g.2 st=some (.own .bool (coreN g.2 f g.1.toNat j st))
 |0,j,st,h,_,_=>by omega
 |n+1,0,st,h,hj,hs=>by
  rw [f244.l0_eq,dF (by omega:¬ g.1 - ((0:Nat):Int)<g.1),cF]
  rfl
 |n+1,j+1,st,h,hj,hs=>by
  have hp:=graphMay_parts hg
  have e:=f244.l1_is k n hg hf (g.1 - ((j+1:Nat):Int)) k 0 st (by omega) (by omega) hs
  have hw:Go.IntKind.i64.wrap (g.1 - ((j+1:Nat):Int)+1)=g.1 - (j:Int):=by rw [wrap64 (by omega)];omega
  rw [f244.l0_eq,dT (by omega:g.1 - ((j+1:Nat):Int)<g.1),cT]
  refine e.trans ?_
  rw [hw,List.drop_zero]
  exact f244.l0_is k hg hf hk n j (coreRound g.2 f g.1.toNat st) (by omega) (by omega) (by rw [coreRound_len,hs])
def flowForm (d:Gr×List Int):Bool:=graphMay d.1&&(d.2.length==d.1.2.length)
noncomputable def S244:Summ:=summ [tG,tL] (List Bool) (fun (d:Gr×List Int)=>chk (flowForm d) (some (coreOf d.1 d.2))) (.own .bool)
theorem ok244:SumOk Tryz.prog 244 S244 :=
 sumq f244.E (fn:=Tryz.f244) (code:=f244.code) f244.sums f244.inl fun (d:Gr×List Int) x hx=>by
  obtain ⟨g,f⟩:=d
  obtain ⟨h,hx⟩:=chk_some hx
  obtain rfl:=oJ hx
  unfold flowForm at h
  rw [bA] at h
  obtain ⟨hg,hf⟩:=h
  have hg:graphMay g=true:=hg
  have hf:f.length=g.2.length:=eq_of_beq hf
  have hp:=graphMay_parts hg
  refine ⟨9,(f244.eq _ g f).trans ?_⟩
  have:=f244.l0_is 9 hg hf (by omega) 9 g.1.toNat (List.replicate g.1.toNat true) (by omega) (by omega) (by simp)
  rw [show g.1 - ((g.1.toNat:Nat):Int)=0 by omega] at this
  rw [show ([true]==[true]&&decide ((1:Int)≤g.1∧g.1≤(8:Int)))=true by rw [dT (by omega:(1:Int)≤g.1∧g.1≤(8:Int))];rfl,kT,bS]
  exact this
end
section
set_option maxRecDepth 100000
noncomputable def f220.E (k:Nat):Env:=mkEnv tt [(78,S78),(247,S247),(244,S244),(245,S245),(246,S246)] [] [(220,7,[.kill (rg [(0,0),(3,4),(6,6),(9,53)]),.tidy])] [] k
noncomputable def f220.code:Go.Code:=cd Tryz.f220
noncomputable def f220.l0 (k n:Nat) (p0:List Int) (p1:Int) (p2:List (eL)) (p3:List Bool) (p4:List Int) (p5:List Int):Option V :=
 atPath (f220.E k) n ⟨(.u::(.ro qI p0)::(.ptr 524304 (0) (0))::.u::.u::(.slw 1310736)::.u::(.slw 1835024)::(.slw 2097168)::un 45),[],[(524304,.box [(.int .i64 p1),(.ro qL p2)]),(1310736,.row .bool p3),(1835024,.row qI p4),(2097168,.row qI p5)]⟩ 9 0 220 [.c 1,.c 1,.c 1,.c 1,.c 1,.c 1,.c 0] [] f220.code (finK tt Tryz.f220)
theorem f220.l0_eq (k n:Nat) (p0:List Int) (p1:Int) (p2:List (eL)) (p3:List Bool) (p4:List Int) (p5:List Int):f220.l0 k (n+1) p0 p1 p2 p3 p4 p5 =
 chk (decide ((0:Int)≤Go.IntKind.i64.wrap ((↑p5.length:Int) - (1:Int))∧Go.IntKind.i64.wrap ((↑p5.length:Int) - (1:Int))<(↑p5.length:Int))) ((chk (onForm ((p1,p2),p0,p3,rd qI p5 (↑(Go.IntKind.i64.wrap ((↑p5.length:Int) - (1:Int))).toNat:Int))) (some (onA p2 p0 p3 (rd qI p5 (↑(Go.IntKind.i64.wrap ((↑p5.length:Int) - (1:Int))).toNat:Int))))).bind (fun y0=>chk (decide ((p4++[y0]).length*8≤140737488355328)) (chk (decide ((0:Int)≤y0∧y0<(↑p2.length:Int))) ((chk (decide (p5.length<4611686018427387904)) (some (searchI p5.length fun i=>(rd qL p2 y0).2.1==rdI p5 i))).bind (fun y1=>bif decide (y1 ≥ (0:Int)) then (chk (decide ((0:Int)≤y1∧y1≤(↑(p4++[y0]).length:Int))) (chk (decide ((↑(p4++[y0]).length:Int)≤(↑(p4++[y0]).length:Int))) ((chk (decide ((List.take ((↑(p4++[y0]).length:Int).toNat - y1.toNat) (List.drop y1.toNat (p4++[y0]))).length*8≤140737488355328)) (some (List.take ((↑(p4++[y0]).length:Int).toNat - y1.toNat) (List.drop y1.toNat (p4++[y0]))))).bind (fun y2=>some (.own qI y2))))) else (chk (decide ((p5++[(rd qL p2 y0).2.1]).length*8≤140737488355328)) (f220.l0 k n p0 p1 p2 p3 (p4++[y0]) (p5++[(rd qL p2 y0).2.1])))))))):=by kernel_rfl
theorem f220.eq (k:Nat) (x0:Int×List (eL)) (x1:List Int):evFn (f220.E k) 9 220 Tryz.f220 (encL [(.pair qI (.list qL)),(.list qI)] (x0,x1)) =
 (chk (flowForm (x0,x1)) (some (coreOf x0 x1))).bind (fun y0=>(chk (decide (y0.length<4611686018427387904)) (some (searchI y0.length fun i=>true==rdB y0 i))).bind (fun y1=>bif decide (y1<(0:Int)) then (some (.own qI ([]))) else (f220.l0 k k x1 x0.1 x0.2 y0 ([]) ([y1])))):=by kernel_rfl
theorem f220.inl (k:Nat):InlOk Tryz.prog (f220.E k):=inl_nil
theorem f220.sums (k:Nat):SumsOk Tryz.prog (f220.E k):=(sums_cons ok78 (sums_cons ok247 (sums_cons ok244 (sums_cons ok245 (sums_cons ok246 sums_nil)))))
end
section
def ChainL (gl:List Lk):Int→List Int→Int→Prop
 |v,[],w=>v=w
 |v,l::ws,w=>(lk gl l).1=v∧ChainL gl (lk gl l).2.1 ws w
def vertsL (gl:List Lk) (v:Int) (ws:List Int):List Int:=v::ws.map fun l=>(lk gl l).2.1
def subL (b:Int) (f ws:List Int):List Int:=ws.foldl (fun f l=>f.set l.toNat (rdI f l - b)) f
theorem ChainL.snoc {gl:List Lk}:∀ {ws:List Int} {v w l:Int},ChainL gl v ws w→(lk gl l).1=w→ChainL gl v (ws++[l]) (lk gl l).2.1
 | [],v,w,l,h,h1=>⟨h1.trans h.symm,rfl⟩
 |a::ws,v,w,l,h,h1=>⟨h.1,h.2.snoc h1⟩
theorem ChainL.drop {gl:List Lk}:∀ {k:Nat} {ws:List Int} {v w u:Int},ChainL gl v ws w→(vertsL gl v ws)[k]? = some u→ChainL gl u (ws.drop k) w
 |0,ws,v,w,u,h,hu=>by
  obtain rfl:v=u:=by simpa [vertsL] using hu
  exact h
 |k+1,[],v,w,u,h,hu=>by simp [vertsL] at hu
 |k+1,a::ws,v,w,u,h,hu=>ChainL.drop (k:=k) (ws:=ws) (v:=(lk gl a).2.1) h.2 (by simpa [vertsL] using hu)
theorem ChainL.last {gl:List Lk}:∀ {ws:List Int} {v w:Int},ChainL gl v ws w→(vertsL gl v ws)[ws.length]? = some w
 | [],v,w,h=>by simp [vertsL];exact h
 |a::ws,v,w,h=>by
  have:=ChainL.last h.2
  simpa [vertsL] using this
theorem ChainL.froms {gl:List Lk}:∀ {ws:List Int} {v w:Int},ChainL gl v ws w→vertsL gl v ws=(ws.map fun l=>(lk gl l).1)++[w]
 | [],v,w,h=>by simp [vertsL];exact h
 |a::ws,v,w,h=>by
  have:=ChainL.froms h.2
  unfold vertsL at this ⊢
  rw [List.map_cons,this,List.map_cons,h.1]
  rfl
theorem subL_len (b:Int):∀ (ws f:List Int),(subL b f ws).length=f.length
 | [],f=>rfl
 |a::ws,f=>by
  have:=subL_len b ws (f.set a.toNat (rdI f a - b))
  rw [List.length_set] at this
  exact this
theorem sub_at {b:Int}:∀ {ws f:List Int} {i:Int},(∀ l∈ws,0≤l∧l<(f.length:Int))→ws.Nodup→(0≤i∧i<(f.length:Int))→rdI (subL b f ws) i=rdI f i - bif decide (i∈ws) then b else 0
 | [],f,i,_,_,_=>by simp [subL]
 |a::ws,f,i,hw,hn,hi=>by
  have ha:=hw a (by simp)
  rw [List.nodup_cons] at hn
  have e:subL b f (a::ws)=subL b (f.set a.toNat (rdI f a - b)) ws:=rfl
  rw [e,sub_at (fun l hl=>by rw [List.length_set];exact hw l (by simp [hl])) hn.2 (by rw [List.length_set];exact hi),rdI_set ha hi]
  by_cases h:a=i
  ·subst h
   rw [show (a==a)=true by simp,cT,dF hn.1,cF,dT (by simp:a∈a::ws),cT]
   omega
  ·rw [show (a==i)=false by simpa using h,cF]
   by_cases h2:i∈ws
   ·rw [dT h2,dT (by simp [h2]:i∈a::ws)]
   ·rw [dF h2,dF (by simp [h2,Ne.symm h]:¬ i∈a::ws)]
theorem gain_sub {gl:List Lk} {b v:Int}:∀ {ws f:List Int} {u w:Int},f.length=gl.length→(∀ l∈ws,0≤l∧l<(gl.length:Int))→ChainL gl u ws w →
  gainV gl (subL b f ws) v=gainV gl f v - ((bif u==v then b else 0) - (bif w==v then b else 0))
 | [],f,u,w,_,_,h=>by
  have h:u=w:=h
  subst h
  simp only [subL,List.foldl_nil]
  omega
 |a::ws,f,u,w,hl,hw,h=>by
  have ha:=hw a (by simp)
  have e:subL b f (a::ws)=subL b (f.set a.toNat (rdI f a - b)) ws:=rfl
  have hg:gl[a.toNat]? = some (lk gl a):=by
   have hi:a.toNat<gl.length:=by omega
   have:=rd_some (t:=tLk) (gE hi)
   rw [show ((a.toNat:Nat):Int)=a by omega] at this
   rw [gE hi]
   exact congrArg some this.symm
  have hs:=gain_set (d:=-b) (v:=v) hg (rdI_get (f:=f) (i:=a) (by omega))
  rw [show rdI f a + -b=rdI f a - b by omega,h.1] at hs
  rw [e,gain_sub (by rw [List.length_set];exact hl) (fun l hl=>hw l (by simp [hl])) h.2,hs]
  cases u==v <;> cases (lk gl a).2.1==v <;> cases w==v <;> simp only [cT,cF] <;> omega
def cntP (f:List Int):Nat:=f.countP fun x=>decide (x>0)
theorem cntP_le:∀ {f f':List Int},f'.length=f.length→(∀ (i:Nat) (x y:Int),f[i]? = some x→f'[i]? = some y→y>0→x>0)→cntP f'≤cntP f∧∀ (i:Nat) (x y:Int),f[i]? = some x→f'[i]? = some y→x>0→¬ y>0→cntP f'<cntP f
 | [],[],_,_=>⟨Nat.le_refl _,by simp⟩
 |x::f,y::f',hl,h=>by
  obtain ⟨h1,h2⟩:=cntP_le (f:=f) (f':=f') (by simpa using hl) fun i x y hx hy=>h (i+1) x y (by simpa using hx) (by simpa using hy)
  have h0:=h 0 x y rfl rfl
  unfold cntP at h1 h2 ⊢
  rw [List.countP_cons,List.countP_cons]
  refine ⟨?_,fun i x' y' hx hy hp hn=>?_⟩
  ·by_cases hy:y>0
   ·rw [dT hy,dT (h0 hy)];omega
   ·rw [dF hy];simp only [Bool.false_eq_true,if_false];omega
  ·cases i with
   |zero =>
    simp only [List.getElem?_cons_zero,sI] at hx hy
    subst hx hy
    rw [dT hp,dF hn];simp only [Bool.false_eq_true,if_true,if_false];omega
   |succ i =>
    have:=h2 i x' y' (by simpa using hx) (by simpa using hy) hp hn
    by_cases hy:y>0
    ·rw [dT hy,dT (h0 hy)];omega
    ·rw [dF hy];simp only [Bool.false_eq_true,if_false];omega
 | [],_::_,hl,_=>by simp at hl
 |_::_,[],hl,_=>by simp at hl
theorem cntP_len (f:List Int):cntP f≤f.length:=List.countP_le_length
theorem foldl_min_mem:∀ (xs:List Int) (x:Int),xs.foldl min x=x∨xs.foldl min x∈xs
 | [],x=>.inl rfl
 |y::xs,x=>by
  rw [List.foldl_cons]
  rcases foldl_min_mem xs (min x y) with h|h
  ·rw [h]
   rcases Int.le_total x y with h'|h'
   ·left;omega
   ·right;rw [show min x y=y by omega];simp
  ·right;simp [h]
def Acyc (gl:List Lk) (f:List Int):Prop:=∃ r:Int→Nat,∀ i,0≤i∧i<(gl.length:Int)→rdI f i>0→r (lk gl i).2.1<r (lk gl i).1
theorem Acyc.less {gl:List Lk} {f f':List Int} (h:Acyc gl f) (hl:∀ i,0≤i∧i<(gl.length:Int)→rdI f' i>0→rdI f i>0):Acyc gl f':=by
 obtain ⟨r,hr⟩:=h
 exact ⟨r,fun i hi hp=>hr i hi (hl i hi hp)⟩
def StRk (gl:List Lk) (f:List Int) (st:List Bool) (r:Int→Nat) (N:Nat):Prop :=
 (∀ v,0≤v∧v<(st.length:Int)→rdB st v=false→r v<N) ∧
 ∀ i,0≤i∧i<(gl.length:Int)→rdI f i>0→rdB st (lk gl i).1=false→rdB st (lk gl i).2.1=false∧r (lk gl i).2.1<r (lk gl i).1
def ClosedSt (gl:List Lk) (f:List Int) (st:List Bool):Prop:=∀ v,0≤v∧v<(st.length:Int)→rdB st v=true→onA gl f st v ≥ 0
def cntT (st:List Bool):Nat:=st.countP fun b=>b
theorem rdB_get {st:List Bool} {v:Int} (h:0≤v∧v<(st.length:Int)):st[v.toNat]? = some (rdB st v):=by
 have hi:v.toNat<st.length:=by omega
 have:=rd_some (t:=.bool) (gE hi)
 rw [show ((v.toNat:Nat):Int)=v by omega] at this
 rw [gE hi]
 exact congrArg some this.symm
theorem rdB_set {st:List Bool} {u v:Int} {b:Bool} (hu:0≤u∧u<(st.length:Int)) (hv:0≤v∧v<(st.length:Int)):rdB (st.set u.toNat b) v=bif u==v then b else rdB st v:=by
 have h:=rdB_get (st:=st.set u.toNat b) (v:=v) (by rw [List.length_set];exact hv)
 rw [List.getElem?_set] at h
 by_cases he:u=v
 ·subst he
  rw [if_pos rfl,if_pos (by omega)] at h
  rw [show (u==u)=true by simp,cT]
  exact (oJ h).symm
 ·rw [if_neg (by omega),rdB_get hv] at h
  rw [show (u==v)=false by simpa using he,cF]
  exact (oJ h).symm
theorem coreStep_cases {gl:List Lk} {f:List Int} {st:List Bool} {v:Int} (hv:0≤v∧v<(st.length:Int)) :
  (coreStep gl f st v=st∧(rdB st v=true→onA gl f st v ≥ 0))∨(rdB st v=true∧¬ onA gl f st v ≥ 0∧coreStep gl f st v=st.set v.toNat false):=by
 have h:=rdB_get hv
 unfold coreStep
 cases hb:rdB st v with
 |false =>
  left
  rw [hb] at h
  refine ⟨?_,fun h=>by cases h⟩
  rw [fA]
  exact List.ext_getElem? fun i=>by
   rw [List.getElem?_set]
   by_cases hi:v.toNat=i
   ·subst hi
    rw [if_pos rfl,if_pos (by omega),h]
   ·rw [if_neg hi]
 |true =>
  rw [hb] at h
  by_cases ho:onA gl f st v ≥ 0
  ·left
   refine ⟨?_,fun _=>ho⟩
   rw [dT ho,tA]
   exact List.ext_getElem? fun i=>by
    rw [List.getElem?_set]
    by_cases hi:v.toNat=i
    ·subst hi
     rw [if_pos rfl,if_pos (by omega),h]
    ·rw [if_neg hi]
  ·right
   exact ⟨rfl,ho,by rw [dF ho,tA]⟩
theorem cntT_set:∀ {st:List Bool} {i:Nat},st[i]? = some true→cntT (st.set i false)+1=cntT st
 |b::st,0,h=>by
  simp only [List.getElem?_cons_zero,sI] at h
  subst h
  simp [cntT]
 |b::st,i+1,h=>by
  have:=cntT_set (st:=st) (i:=i) (by simpa using h)
  unfold cntT at this ⊢
  rw [List.set_cons_succ,List.countP_cons,List.countP_cons]
  omega
 | [],_,h=>by simp at h
theorem coreStep_rk {gl:List Lk} {f:List Int} {st:List Bool} {v:Int} (hg:∀ i,0≤i∧i<(gl.length:Int)→(0≤(lk gl i).1∧(lk gl i).1<(st.length:Int))∧(0≤(lk gl i).2.1∧(lk gl i).2.1<(st.length:Int))∧(lk gl i).1 ≠ (lk gl i).2.1)
  (hv:0≤v∧v<(st.length:Int)) {r:Int→Nat} {N:Nat} (h:StRk gl f st r N):∃ r' N',StRk gl f (coreStep gl f st v) r' N':=by
 rcases coreStep_cases (gl:=gl) (f:=f) hv with ⟨e,_⟩|⟨h1,h2,e⟩
 ·rw [e];exact ⟨r,N,h⟩
 ·rw [e]
  refine ⟨fun u=>if u=v then N else r u,N+1,fun u hu hb=>?_,fun i hi hp hb=>?_⟩
  ·rw [List.length_set] at hu
   rw [rdB_set hv hu] at hb
   by_cases hc:u=v
   ·dsimp only;rw [if_pos hc];omega
   ·rw [show (v==u)=false by simpa using Ne.symm hc,cF] at hb
    have:=h.1 u hu hb
    dsimp only;rw [if_neg hc];omega
  ·obtain ⟨g1,g2,g3⟩:=hg i hi
   rw [rdB_set hv g1] at hb
   rw [rdB_set hv g2]
   have hs:=(searchI_cases gl.length (onB gl f st v)).resolve_right fun hx=>h2 hx.1.1
   by_cases hc:(lk gl i).1=v
   ·have hx:=hs.2 i hi
    unfold onB at hx
    rw [hc,dT hp,show (v==v)=true by simp,tA,Bool.and_true] at hx
    have hne:¬ (lk gl i).2.1=v:=fun e=>g3 (hc.trans e.symm)
    rw [show (v==(lk gl i).2.1)=false by simpa using Ne.symm hne,cF]
    refine ⟨hx,?_⟩
    dsimp only
    rw [if_neg hne,if_pos hc]
    exact h.1 _ g2 hx
   ·rw [show (v==(lk gl i).1)=false by simpa using Ne.symm hc,cF] at hb
    obtain ⟨k1,k2⟩:=h.2 i hi hp hb
    have hne:¬ (lk gl i).2.1=v:=fun e=>by rw [e,h1] at k1;cases k1
    rw [show (v==(lk gl i).2.1)=false by simpa using Ne.symm hne,cF]
    refine ⟨k1,?_⟩
    dsimp only
    rw [if_neg hne,if_neg hc]
    exact k2
theorem coreFold_rk {gl:List Lk} {f:List Int} {m:Nat} (hg:∀ i,0≤i∧i<(gl.length:Int)→(0≤(lk gl i).1∧(lk gl i).1<(m:Int))∧(0≤(lk gl i).2.1∧(lk gl i).2.1<(m:Int))∧(lk gl i).1 ≠ (lk gl i).2.1):∀ (l:List Int) (st:List Bool),st.length=m→(∀ v∈l,0≤v∧v<(m:Int)) →
  ((∃ r N,StRk gl f st r N)→∃ r N,StRk gl f (l.foldl (coreStep gl f) st) r N)∧cntT (l.foldl (coreStep gl f) st)≤cntT st∧((l.foldl (coreStep gl f) st=st∧∀ v∈l,rdB st v=true→onA gl f st v ≥ 0)∨cntT (l.foldl (coreStep gl f) st)<cntT st)
 | [],st,hs,hl=>⟨fun h=>h,Nat.le_refl _,.inl ⟨rfl,by simp⟩⟩
 |v::l,st,hs,hl=>by
  have hv:=hl v (by simp)
  have hv':0≤v∧v<(st.length:Int):=by omega
  obtain ⟨i1,i2,i3⟩:=coreFold_rk hg l (coreStep gl f st v) (by rw [coreStep_len,hs]) fun u hu=>hl u (by simp [hu])
  rw [List.foldl_cons]
  refine ⟨fun ⟨r,N,h⟩=>i1 (coreStep_rk (by rw [hs];exact hg) hv' h),?_⟩
  rcases coreStep_cases (gl:=gl) (f:=f) hv' with ⟨e,h1⟩|⟨h1,h2,e⟩
  ·rw [e] at i2 i3 ⊢
   refine ⟨i2,?_⟩
   rcases i3 with ⟨j1,j2⟩|j
   ·refine .inl ⟨j1,fun u hu=>?_⟩
    rcases List.mem_cons.1 hu with rfl|hu
    ·exact h1
    ·exact j2 u hu
   ·exact .inr j
  ·have hc:=cntT_set (st:=st) (i:=v.toNat) (by rw [rdB_get hv',h1])
   rw [← e] at hc
   exact ⟨by omega,.inr (by omega)⟩
theorem coreN_fix {gl:List Lk} {f:List Int} {m:Nat} {st:List Bool} (h:coreRound gl f m st=st):∀ n,coreN gl f m n st=st
 |0=>rfl
 |n+1=>by
  simp only [coreN]
  rw [h]
  exact coreN_fix h n
theorem coreN_ok {gl:List Lk} {f:List Int} {m:Nat} (hg:∀ i,0≤i∧i<(gl.length:Int)→(0≤(lk gl i).1∧(lk gl i).1<(m:Int))∧(0≤(lk gl i).2.1∧(lk gl i).2.1<(m:Int))∧(lk gl i).1 ≠ (lk gl i).2.1):∀ (n:Nat) (st:List Bool),st.length=m→(∃ r N,StRk gl f st r N) →
  (coreN gl f m n st).length=m∧(∃ r N,StRk gl f (coreN gl f m n st) r N)∧(ClosedSt gl f (coreN gl f m n st)∨cntT (coreN gl f m n st)+n≤cntT st)
 |0,st,hs,h=>⟨hs,h,.inr (Nat.le_refl _)⟩
 |n+1,st,hs,h=>by
  obtain ⟨i1,i2,i3⟩:=coreFold_rk (f:=f) hg (upto m) st hs fun v hv=>upto_mem.1 hv
  obtain ⟨j1,j2,j3⟩:=coreN_ok hg n (coreRound gl f m st) (by rw [coreRound_len,hs]) (i1 h)
  simp only [coreN]
  refine ⟨j1,j2,?_⟩
  rcases i3 with ⟨k1,k2⟩|k
  ·left
   have e:coreRound gl f m st=st:=k1
   rw [e,coreN_fix e]
   exact fun v hv hb=>k2 v (upto_mem.2 (by omega)) hb
  ·rcases j3 with j3|j3
   ·exact .inl j3
   ·right
    have:cntT (coreRound gl f m st)<cntT st:=k
    omega
theorem rdB_cnt {st:List Bool} {v:Int} (hv:0≤v∧v<(st.length:Int)) (h:rdB st v=true):0<cntT st:=by
 have:=rdB_get hv
 rw [h] at this
 exact List.countP_pos_iff.2 ⟨true,List.mem_of_getElem? this,rfl⟩
structure CoreOk (g:Gr) (f:List Int) (st:List Bool):Prop where
 len:st.length=g.1.toNat
 rk:∃ r N,StRk g.2 f st r N
 closed:ClosedSt g.2 f st
theorem core_ok {g:Gr} (hg:graphMay g=true) (f:List Int):CoreOk g f (coreOf g f):=by
 have hp:=graphMay_parts hg
 have hl:∀ i,0≤i∧i<(g.2.length:Int)→(0≤(lk g.2 i).1∧(lk g.2 i).1<((g.1.toNat:Nat):Int))∧(0≤(lk g.2 i).2.1∧(lk g.2 i).2.1<((g.1.toNat:Nat):Int))∧(lk g.2 i).1 ≠ (lk g.2 i).2.1:=fun i hi=>by
  rw [show ((g.1.toNat:Nat):Int)=g.1 by omega]
  exact lk_at hg hi
 have at_:∀ v:Int,0≤v∧v<(g.1.toNat:Int)→rdB (List.replicate g.1.toNat true) v=true:=fun v hv=>by
  have:=rdB_get (st:=List.replicate g.1.toNat true) (v:=v) (by simpa using hv)
  rw [List.getElem?_replicate,if_pos (by omega)] at this
  exact (oJ this).symm
 obtain ⟨h1,h2,h3⟩:=coreN_ok (f:=f) hl g.1.toNat (List.replicate g.1.toNat true) (by simp) ⟨fun _=>0,0,(fun v hv hb=>by
  rw [at_ v (by simpa using hv)] at hb
  cases hb),(fun i hi hp hb=>by
  rw [at_ _ (hl i hi).1] at hb
  cases hb)⟩
 refine ⟨h1,h2,?_⟩
 rcases h3 with h3|h3
 ·exact h3
 ·intro v hv hb
  have h4:=rdB_cnt hv hb
  have h5:cntT (List.replicate g.1.toNat true)≤g.1.toNat:=by
   have:=List.countP_le_length (p:=fun b:Bool=>b) (l:=List.replicate g.1.toNat true)
   rwa [List.length_replicate] at this
  have h6:cntT (coreOf g f)+g.1.toNat≤cntT (List.replicate g.1.toNat true):=h3
  omega
theorem CoreOk.none {g:Gr} (hg:graphMay g=true) {f:List Int} {st:List Bool} (h:CoreOk g f st) (hn:∀ v,0≤v∧v<(st.length:Int)→rdB st v=false):Acyc g.2 f:=by
 obtain ⟨r,N,h1,h2⟩:=h.rk
 have hl:=h.len
 have hp:=graphMay_parts hg
 exact ⟨r,fun i hi hp'=>(h2 i hi hp' (hn _ (by have:=(lk_at hg hi).1;omega))).2⟩
structure CycOk (g:Gr) (f way:List Int):Prop where
 some:way ≠ []
 le:way.length≤9
 lin:∀ l∈way,(0≤l∧l<(g.2.length:Int))∧rdI f l>0
 nodup:way.Nodup
 chain:∃ u,ChainL g.2 u way u
end
section
set_option maxRecDepth 100000
theorem nodup_len:∀ (m:Nat) (l:List Int),l.Nodup→(∀ x∈l,0≤x∧x<(m:Int))→l.length≤m
 |0,[],_,_=>Nat.le_refl _
 |0,x::l,_,h=>by have:=h x (by simp);omega
 |m+1,l,hn,h=>by
  by_cases hm:(m:Int)∈l
  ·have:=nodup_len m (l.erase (m:Int)) (hn.erase _) fun x hx=>by
    obtain ⟨h1,h2⟩:=(hn.mem_erase_iff).1 hx
    have:=h x h2
    omega
   rw [List.length_erase_of_mem hm] at this
   omega
  ·have:=nodup_len m l hn fun x hx=>by
    have:=h x hx
    have:x ≠ (m:Int):=fun e=>hm (e▸hx)
    omega
   omega
structure FindSt (g:Gr) (f:List Int) (st:List Bool) (u:Int) (way:List Int):Prop where
 ends:∃ w,ChainL g.2 u way w
 nodup:(vertsL g.2 u way).Nodup
 stands:∀ v∈vertsL g.2 u way,(0≤v∧v<g.1)∧rdB st v=true
 lin:∀ l∈way,(0≤l∧l<(g.2.length:Int))∧rdI f l>0
theorem vertsL_len (gl:List Lk) (u:Int) (ws:List Int):(vertsL gl u ws).length=ws.length+1:=by simp [vertsL]
theorem vertsL_snoc (gl:List Lk) (u:Int) (ws:List Int) (l:Int):vertsL gl u (ws++[l])=vertsL gl u ws++[(lk gl l).2.1]:=by simp [vertsL]
theorem f220.l0_is (k:Nat) {g:Gr} (hg:graphMay g=true) {f:List Int} (hf:f.length=g.2.length) {st:List Bool} (hst:CoreOk g f st) (u:Int):∀ (n:Nat) (way:List Int),FindSt g f st u way→9<n+way.length →
  ∃ x,f220.l0 k n f g.1 g.2 st way (vertsL g.2 u way)=some (.own tI x)∧CycOk g f x
 |0,way,h,hn=>by
  have hp:=graphMay_parts hg
  have:=nodup_len g.1.toNat _ h.nodup fun x hx=>by have:=(h.stands x hx).1;omega
  rw [vertsL_len] at this
  omega
 |n+1,way,h,hn=>by
  have hp:=graphMay_parts hg
  have hlen:=nodup_len g.1.toNat _ h.nodup fun x hx=>by have:=(h.stands x hx).1;omega
  obtain ⟨w,hch⟩:=h.ends
  have hlast:=hch.last
  have hw:=h.stands w (List.mem_of_getElem? hlast)
  have hsl:=hst.len
  rw [vertsL_len] at hlen
  have hon:=hst.closed w (by omega) hw.2
  obtain ⟨h1,h2⟩:=(searchI_cases g.2.length (onB g.2 f st w)).resolve_left fun hx=>by
   have e:onA g.2 f st w=-1:=hx.1
   omega
  have hal:searchI g.2.length (onB g.2 f st w)=onA g.2 f st w:=rfl
  rw [hal] at h1 h2
  generalize hl:onA g.2 f st w=l at h1 h2 hon
  unfold onB at h2
  simp only [bA] at h2
  obtain ⟨e1,e2,e3⟩:=h2
  have e1:=eq_of_beq e1
  have e3:rdI f l>0:=oD e3
  have hto:=(lk_at hg h1).2.1
  have w1:Go.IntKind.i64.wrap (((vertsL g.2 u way).length:Int) - 1)=(way.length:Int):=by rw [vertsL_len,wrap64 (by omega)];omega
  have r1:rd (Ty.int Go.IntKind.i64) (vertsL g.2 u way) (((way.length:Int).toNat:Nat):Int)=w:=rd_some (t:=tI) (by rw [Int.toNat_natCast];exact hlast)
  have c1:decide ((0:Int)≤(way.length:Int)∧(way.length:Int)<((vertsL g.2 u way).length:Int))=true:=dT (by rw [vertsL_len];omega)
  have c2:onForm (((g.1,g.2),f,st,w):Gr×(List Int×(List Bool×Int)))=true:=by
   unfold onForm
   dsimp only
   rw [show graphMay (g.1,g.2)=true from hg,hf,hsl,show (((g.1.toNat:Nat):Int)==g.1)=true by simp;omega]
   simp
  have c3:decide ((way++[l]).length*8≤140737488355328)=true:=dT (by rw [lA,List.length_singleton];omega)
  have c4:decide ((0:Int)≤l∧l<(g.2.length:Int))=true:=dT h1
  have c5:decide ((vertsL g.2 u way).length<4611686018427387904)=true:=dT (by rw [vertsL_len];omega)
  have hc2:ChainL g.2 u (way++[l]) (lk g.2 l).2.1:=hch.snoc e1
  have hin2:∀ a∈way++[l],(0≤a∧a<(g.2.length:Int))∧rdI f a>0:=fun a ha=>by
   rcases List.mem_append.1 ha with ha|ha
   ·exact h.lin a ha
   ·obtain rfl:a=l:=by simpa using ha
    exact ⟨h1,e3⟩
  rw [f220.l0_eq,w1,c1,kT,r1,c2,kT,bS,hl,c3,kT,c4,kT,c5,kT,bS]
  have e4:∀ i,((rd ((Ty.int Go.IntKind.i64).pair ((Ty.int Go.IntKind.i64).pair (Ty.int Go.IntKind.i64))) g.2 l).snd.fst==rdI (vertsL g.2 u way) i)=((lk g.2 l).2.1==rdI (vertsL g.2 u way) i):=fun i=>rfl
  simp only [e4]
  rcases searchI_cases (vertsL g.2 u way).length (fun i=>(lk g.2 l).2.1==rdI (vertsL g.2 u way) i) with ⟨s1,s2⟩|⟨s1,s2⟩
  ·have hnew:(lk g.2 l).2.1 ∉ vertsL g.2 u way:=fun hm=>by
    obtain ⟨i,hi⟩:=List.mem_iff_getElem?.1 hm
    have:=s2 (i:Int) (by have:=idx_lt hi;omega)
    rw [rdI_some hi] at this
    simp at this
   have c6:decide ((vertsL g.2 u way++[(lk g.2 l).2.1]).length*8≤140737488355328)=true:=dT (by rw [lA,vertsL_len,List.length_singleton];omega)
   have c6':decide ((vertsL g.2 u way++[(rd ((Ty.int Go.IntKind.i64).pair ((Ty.int Go.IntKind.i64).pair (Ty.int Go.IntKind.i64))) g.2 l).snd.fst]).length*8≤140737488355328)=true:=c6
   have ih:=f220.l0_is k hg hf hst u n (way++[l]) ⟨⟨_,hc2⟩,by
    rw [vertsL_snoc]
    exact List.nodup_append.2 ⟨h.nodup,by simp,fun a ha b hb=>by
     obtain rfl:b=(lk g.2 l).2.1:=by simpa using hb
     rintro rfl
     exact hnew ha⟩,fun v hv=>by
    rw [vertsL_snoc] at hv
    rcases List.mem_append.1 hv with hv|hv
    ·exact h.stands v hv
    ·obtain rfl:v=(lk g.2 l).2.1:=by simpa using hv
     exact ⟨hto,e2⟩,hin2⟩ (by rw [lA,List.length_singleton];omega)
   rw [s1,dF (by omega:¬ (-1:Int) ≥ 0),cF,c6',kT]
   rw [vertsL_snoc] at ih
   exact ih
  ·generalize searchI (vertsL g.2 u way).length (fun i=>(lk g.2 l).2.1==rdI (vertsL g.2 u way) i)=j at s1 s2
   have s2:=eq_of_beq s2
   rw [vertsL_len] at s1
   have hj:(vertsL g.2 u way)[j.toNat]? = some (lk g.2 l).2.1:=by
    rw [s2]
    exact rdI_get (by rw [vertsL_len];exact s1)
   have hlen2:(way++[l]).length=way.length+1:=by simp
   have ht:List.take ((((way++[l]).length:Int)).toNat - j.toNat) (List.drop j.toNat (way++[l]))=(way++[l]).drop j.toNat:=by
    rw [Int.toNat_natCast]
    exact List.take_of_length_le (by rw [List.length_drop];omega)
   have hdl:((way++[l]).drop j.toNat).length=way.length+1 - j.toNat:=by rw [List.length_drop,hlen2]
   have c7:decide ((0:Int)≤j∧j≤((way++[l]).length:Int))=true:=dT (by omega)
   have c8:decide (((way++[l]).length:Int)≤((way++[l]).length:Int))=true:=dT (by omega)
   have c9:decide (((way++[l]).drop j.toNat).length*8≤140737488355328)=true:=dT (by omega)
   rw [dT (by omega:j ≥ 0),cT,c7,kT,c8,kT,ht,c9,kT,bS]
   refine ⟨_,rfl,?_,by omega,fun a ha=>hin2 a (List.mem_of_mem_drop ha),?_,(lk g.2 l).2.1,?_⟩
   ·intro e
    rw [e] at hdl
    simp at hdl
    omega
   ·refine (List.drop_sublist _ _).nodup ?_
    have hfr:=hc2.froms
    rw [vertsL_snoc] at hfr
    have hfr2:(way++[l]).map (fun l=>(lk g.2 l).1)=vertsL g.2 u way:=by
     have:=congrArg List.dropLast hfr
     simpa using this.symm
    have hnd:=h.nodup
    rw [← hfr2] at hnd
    exact (List.pairwise_map.1 hnd).imp fun hne e=>hne (by rw [e])
   ·exact hc2.drop (by
     rw [vertsL_snoc,List.getElem?_append_left (by rw [vertsL_len];omega)]
     exact hj)
def findQ (d:Gr×List Int) (x:List Int):Prop:=CycOk d.1 d.2 x∨(x=[]∧Acyc d.1.2 d.2)
def findP (d:Gr×List Int) (x:List Int):Prop:=findQ d x∧∃ k,evFn (f220.E k) 9 220 Tryz.f220 (encL [tG,tL] d)=some (.own tI x)
noncomputable def findC (d:Gr×List Int):Option (List Int):=relC findP d
theorem findC_is {g:Gr} (hg:graphMay g=true) {f:List Int} (hf:f.length=g.2.length):∃ x,findC (g,f)=some x∧findQ (g,f) x:=by
 have hst:=core_ok hg f
 have hsl:=hst.len
 have hp:=graphMay_parts hg
 have c1:flowForm ((g,f):Gr×List Int)=true:=by
  unfold flowForm
  dsimp only
  rw [hg,hf]
  simp
 have c2:decide ((coreOf g f).length<4611686018427387904)=true:=dT (by omega)
 have:∃ x,findP (g,f) x:=by
  rcases searchI_cases (coreOf g f).length (fun i=>true==rdB (coreOf g f) i) with ⟨s1,s2⟩|⟨s1,s2⟩
  ·refine ⟨[],.inr ⟨rfl,hst.none hg fun v hv=>by simpa using s2 v hv⟩,1,(f220.eq _ g f).trans ?_⟩
   rw [c1,kT,bS,c2,kT,bS,s1,dT (by omega:(-1:Int)<0),cT]
  ·obtain ⟨x,e1,e2⟩:=f220.l0_is 10 hg hf hst (searchI (coreOf g f).length fun i=>true==rdB (coreOf g f) i) 10 [] ⟨⟨_,rfl⟩,by simp [vertsL],fun v hv=>by
    have hv:=List.mem_singleton.1 (show v∈[searchI (coreOf g f).length fun i=>true==rdB (coreOf g f) i] from hv)
    rw [hv]
    exact ⟨by omega,(eq_of_beq s2).symm⟩,by simp⟩ (by simp)
   refine ⟨x,.inl e2,10,(f220.eq _ g f).trans ?_⟩
   rw [c1,kT,bS,c2,kT,bS,dF (by omega:¬ searchI (coreOf g f).length (fun i=>true==rdB (coreOf g f) i)<0),cF]
   exact e1
 obtain ⟨y,e1,e2⟩:=relC_is this
 exact ⟨y,e1,e2.1⟩
noncomputable def S220:Summ:=summ [tG,tL] (List Int) findC (.own tI)
theorem ok220:SumOk Tryz.prog 220 S220 :=
 sumq f220.E (fn:=Tryz.f220) (code:=f220.code) f220.sums f220.inl fun d x hx=>(relC_some (P:=findP) hx).2
end
section
set_option maxRecDepth 100000
noncomputable def f180.E (k:Nat):Env:=mkEnv tt [(78,S78),(212,S212),(219,S219),(220,S220),(221,S221)] [] [(180,9,[.kill (rg [(0,1),(3,5),(7,7),(9,29),(33,44)]),.tidy]),(180,5,[.kill (rg [(0,1),(3,5),(8,44)]),.tidy])] [] k
noncomputable def f180.code:Go.Code:=cd Tryz.f180
noncomputable def f180.l0 (k n:Nat) (p0:Int) (p1:List (eL)) (p2:List Int) (p3:List Int):Option V :=
 atPath (f180.E k) n ⟨(.u::.u::(.ptr 524304 (0) (0))::.u::.u::.u::(.slw 1572880)::(.slw 1835024)::un 37),[],[(524304,.box [(.int .i64 p0),(.ro qL p1)]),(1572880,.row qI p2),(1835024,.row qI p3)]⟩ 9 0 180 [.c 1,.c 1,.c 1,.c 0,.c 1,.c 0] [] f180.code (finK tt Tryz.f180)
noncomputable def f180.l1 (k n m0:Nat) (p0:Int) (p1:Int) (p2:Int) (p3:Int) (p4:List (eL)) (p5:List Int) (p6:List Int):Option V :=
 atPath (f180.E k) n ⟨(.u::.u::(.ptr 524304 (0) (0))::.u::.u::.u::(.slw 1572880)::.u::(.int .i64 p0)::.u::.u::.u::.u::.u::.u::.u::.u::.u::.u::.u::.u::.u::.u::.u::.u::.u::.u::.u::.u::.u::(.slw 7864336)::(.int .i64 p1)::(.int .i64 p2)::un 12),[],[(524304,.box [(.int .i64 p3),(.ro qL p4)]),(1572880,.row qI p5),(7864336,.row qI p6)]⟩ 9 0 180 [.c 1,.c 1,.c 1,.c 0,.c 1,.c 0,.c 0,.c 1,.c 0,.c 0,.c 1,.c 1,.c 0] [m0] f180.code (finK tt Tryz.f180)
theorem f180.l0_eq (k n:Nat) (p0:Int) (p1:List (eL)) (p2:List Int) (p3:List Int):f180.l0 k (n+1) p0 p1 p2 p3 =
 bif decide ((↑p3.length:Int)>(0:Int)) then ((chk (decide (p3.length≤64)&&inL p2.length p3) (some (List.map (rdI p2) p3))).bind (fun y0=>(chk (decide (y0.length<4611686018427387904)) (some (List.foldl min (4611686018427387904:Int) y0))).bind (fun y1=>f180.l1 k k n y1 ((↑p3.length:Int)) 0 p0 p1 p2 p3))) else (some (.tup [(.own qI p2),(.int .i64 0)])):=by kernel_rfl
theorem f180.l1_eq (k n m0:Nat) (p0:Int) (p1:Int) (p2:Int) (p3:Int) (p4:List (eL)) (p5:List Int) (p6:List Int):f180.l1 k (n+1) m0 p0 p1 p2 p3 p4 p5 p6 =
 bif decide (p2<p1) then (chk (decide ((0:Int)≤p2∧p2<(↑p6.length:Int))) (chk (decide ((0:Int)≤rd qI p6 (↑p2.toNat:Int)∧rd qI p6 (↑p2.toNat:Int)<(↑p5.length:Int))) (chk (decide ((0:Int)≤rd qI p6 (↑p2.toNat:Int)∧rd qI p6 (↑p2.toNat:Int)<(↑p5.length:Int))) (f180.l1 k n m0 p0 p1 (Go.IntKind.i64.wrap (p2+(1:Int))) p3 p4 (p5.set (Int.toNat (rd qI p6 (↑p2.toNat:Int))) (Go.IntKind.i64.wrap (rd qI p5 (↑(Int.toNat (rd qI p6 (↑p2.toNat:Int))):Int) - p0))) p6)))) else ((findC (((p3,p4),p5))).bind (fun y0=>f180.l0 k m0 p3 p4 p5 y0)):=by kernel_rfl
theorem f180.eq (k:Nat) (x0:Int×List (eL)) (x1:List Int):evFn (f180.E k) 9 180 Tryz.f180 (encL [(.pair qI (.list qL)),(.list qI)] (x0,x1)) =
 (chk (graphMay x0) (some (capsMay x0 x1))).bind (fun y0=>bif !y0 then (some (.tup [(.own qI ([])),(.int .i64 1400)])) else ((chk (decide (x1.length*8≤140737488355328)) (some x1)).bind (fun y1=>(findC ((x0,y1))).bind (fun y2=>f180.l0 k k x0.1 x0.2 y1 y2)))):=by kernel_rfl
theorem f180.inl (k:Nat):InlOk Tryz.prog (f180.E k):=inl_nil
theorem f180.sums (k:Nat):SumsOk Tryz.prog (f180.E k):=(sums_cons ok78 (sums_cons ok212 (sums_cons ok219 (sums_cons ok220 (sums_cons ok221 sums_nil)))))
end
section
set_option maxRecDepth 100000
structure CancelOk (g:Gr) (f o:List Int):Prop where
 within:withinF o f=true
 gain:∀ v,gainV g.2 o v=gainV g.2 f v
 acyc:Acyc g.2 o
structure SubOk (g:Gr) (f:List Int) (b:Int) (ws:List Int):Prop where
 pos:1≤b
 le:∀ l∈ws,(0≤l∧l<(g.2.length:Int))∧b≤rdI f l
 hit:∃ l∈ws,rdI f l=b
 nodup:ws.Nodup
theorem SubOk.of {g:Gr} {f ws:List Int} (hc:capsMay g f=true) (hw:∀ l∈ws,(0≤l∧l<(g.2.length:Int))∧rdI f l>0) (hn:ws.Nodup) (hs:ws ≠ []) {b:Int} (hb:(ws.map (rdI f)).foldl min maxRate=b):SubOk g f b ws∧b≤maxRate:=by
 have hcl:=capsMay_len hc
 have hle:∀ l∈ws,rdI f l≤maxRate:=fun l hl=>(caps_le hc (List.mem_of_getElem? (rdI_get (by have:=(hw l hl).1;omega)))).2
 obtain ⟨y1,y2⟩:=foldl_min_le (ws.map (rdI f)) maxRate
 have y3:1≤(ws.map (rdI f)).foldl min maxRate:=foldl_min_ge _ _ (by decide) fun y hy=>by
  obtain ⟨l,hl,rfl⟩:=List.mem_map.1 hy
  have:=(hw l hl).2
  omega
 rw [hb] at y1 y2 y3
 refine ⟨⟨y3,fun l hl=>⟨(hw l hl).1,y2 _ (List.mem_map_of_mem hl)⟩,?_,hn⟩,y1⟩
 rcases foldl_min_mem (ws.map (rdI f)) maxRate with h|h
 ·cases ws with
  |nil=>exact absurd rfl hs
  |cons a ws =>
   refine ⟨a,by simp,?_⟩
   have h1:=y2 (rdI f a) (by simp)
   have h2:=hle a (by simp)
   rw [hb] at h
   omega
 ·rw [hb] at h
  obtain ⟨l,hl,e⟩:=List.mem_map.1 h
  exact ⟨l,hl,e⟩
theorem SubOk.sub {g:Gr} {f:List Int} {b:Int} {ws:List Int} (h:SubOk g f b ws) (hf:∀ i:Int,0≤i∧i<(g.2.length:Int)→0≤rdI f i) (hl:f.length=g.2.length) :
  withinF (subL b f ws) f=true∧cntP (subL b f ws)<cntP f∧∀ i:Int,0≤i∧i<(g.2.length:Int)→rdI (subL b f ws) i=rdI f i - bif decide (i∈ws) then b else 0:=by
 have hp:=h.pos
 have at_:∀ i:Int,0≤i∧i<(g.2.length:Int)→rdI (subL b f ws) i=rdI f i - bif decide (i∈ws) then b else 0:=fun i hi=>sub_at (fun l hl'=>by rw [hl];exact (h.le l hl').1) h.nodup (by omega)
 have hb:∀ i:Int,0≤i∧i<(g.2.length:Int)→0≤rdI (subL b f ws) i∧rdI (subL b f ws) i≤rdI f i:=fun i hi=>by
  rw [at_ i hi]
  have h0:=hf i hi
  by_cases hm:i∈ws
  ·have:=(h.le i hm).2
   rw [dT hm,cT]
   omega
  ·rw [dF hm,cF]
   omega
 refine ⟨withinF_by (subL_len _ _ _) fun i hi=>hb i (by omega),?_,at_⟩
 obtain ⟨l,hl1,hl2⟩:=h.hit
 have hlr:=(h.le l hl1).1
 have hsl:=subL_len b ws f
 refine (cntP_le hsl fun i x y hx hy hyp=>?_).2 l.toNat (rdI f l) (rdI (subL b f ws) l) (rdI_get (by omega)) (rdI_get (by omega)) (by omega) ?_
 ·have hi:=idx_lt hx
  have:=(hb (i:Int) (by omega)).2
  rw [rdI_some hx,rdI_some hy] at this
  omega
 ·rw [at_ l hlr,dT hl1,cT]
  omega
theorem subL_snoc (b:Int) (f ws:List Int) (l:Int):subL b f (ws++[l])=(subL b f ws).set l.toNat (rdI (subL b f ws) l - b):=by simp [subL]
theorem SubOk.step {g:Gr} {f:List Int} {b:Int} {ws:List Int} (h:SubOk g f b ws) (hc:capsMay g f=true) {i:Nat} {l:Int} (hx:ws[i]? = some l):rdI (subL b f (ws.take i)) l=rdI f l∧Go.IntKind.i64.wrap (rdI (subL b f (ws.take i)) l - b)=rdI (subL b f (ws.take i)) l - b∧(0≤l∧l<(f.length:Int)):=by
 have hcl:=capsMay_len hc
 have hM:maxRate=4611686018427387904:=rfl
 have hm:=List.mem_of_getElem? hx
 obtain ⟨h1,h2⟩:=h.le l hm
 have hni:l ∉ ws.take i:=fun hin=>by
  obtain ⟨j,hj⟩:=List.mem_iff_getElem?.1 hin
  have hji:=idx_lt hj
  rw [List.length_take] at hji
  rw [List.getElem?_take_of_lt (by omega)] at hj
  exact nodup_hit (by omega:j<i) hj hx h.nodup
 have e:rdI (subL b f (ws.take i)) l=rdI f l:=by
  rw [sub_at (fun a ha=>by have:=(h.le a (List.mem_of_mem_take ha)).1;omega) ((List.take_sublist _ _).nodup h.nodup) (by omega),dF hni,cF]
  omega
 have:=(caps_le hc (List.mem_of_getElem? (rdI_get (f:=f) (i:=l) (by omega)))).2
 have hp:=h.pos
 exact ⟨e,wrap64 (by omega),by omega⟩
theorem f180.l1_is (k m0:Nat) {g:Gr} {f:List Int} (hc:capsMay g f=true) {b:Int} {ws:List Int} (h:SubOk g f b ws) (hl:ws.length≤64):∀ (n i:Nat),i≤ws.length→ws.length<n+i →
  f180.l1 k n m0 b (ws.length:Int) (i:Int) g.1 g.2 (subL b f (ws.take i)) ws=(findC (((g.1,g.2),subL b f ws):Gr×List Int)).bind fun y0=>f180.l0 k m0 g.1 g.2 (subL b f ws) y0
 |0,i,h1,h2=>by omega
 |n+1,i,h1,h2=>by
  rw [f180.l1_eq]
  by_cases hlt:i<ws.length
  ·have hx:=gE hlt
   obtain ⟨s1,s2,s3⟩:=h.step hc hx
   have e1:rd (Ty.int Go.IntKind.i64) ws (((i:Int).toNat:Nat):Int)=ws[i]:=rd_some (t:=tI) (by rw [Int.toNat_natCast];exact hx)
   have e2:rd (Ty.int Go.IntKind.i64) (subL b f (ws.take i)) ((ws[i].toNat:Nat):Int)=rdI (subL b f (ws.take i)) ws[i]:=rdI_nat _ _
   have c2:decide ((0:Int)≤ws[i]∧ws[i]<((subL b f (ws.take i)).length:Int))=true:=dT (by rw [subL_len];exact s3)
   have et:ws.take (i+1)=ws.take i++[ws[i]]:=by rw [List.take_add_one,hx];rfl
   rw [e1,e2,s2,c2,dT (by omega:(i:Int)<(ws.length:Int)),cT,dT (by omega:(0:Int)≤(i:Int)∧(i:Int)<(ws.length:Int)),kT,kT,kT,wrap_succ (by omega),← f180.l1_is k m0 hc h hl n (i+1) (by omega) (by omega),et,subL_snoc]
  ·obtain rfl:i=ws.length:=by omega
   rw [dF (by omega:¬ (ws.length:Int)<(ws.length:Int)),cF,List.take_length]
theorem f180.l0_is (k:Nat) (hk:10≤k) {g:Gr} {f0:List Int} (hc0:capsMay g f0=true):∀ (n:Nat) (o ws:List Int),cntP o<n→withinF o f0=true→(∀ v,gainV g.2 o v=gainV g.2 f0 v)→findQ (g,o) ws →
  ∃ x,f180.l0 k n g.1 g.2 o ws=some (resLE (x,0))∧CancelOk g f0 x
 |0,o,ws,h,_,_,_=>by omega
 |n+1,o,ws,h,hw,hg,hf=>by
  have hgr:=caps_graph hc0
  have hc:capsMay g o=true:=lies_caps (cs:=f0) (by unfold liesB;rw [hc0,hw];rfl)
  have hcl:=capsMay_len hc
  have hp:=graphMay_parts hgr
  rw [f180.l0_eq]
  rcases hf with hf|⟨rfl,ha⟩
  ·have hf:CycOk g o ws:=hf
   have hs:=hf.some
   have hlen:=List.length_pos_iff.2 hs
   have hle:=hf.le
   obtain ⟨s1,s2⟩:=SubOk.of hc hf.lin hf.nodup hs rfl
   have c1:(decide (ws.length≤64)&&inL o.length ws)=true:=by
    rw [dT (by omega:ws.length≤64),tA]
    exact List.all_eq_true.2 fun l hl=>dT (by have:=(hf.lin l hl).1;omega)
   have c2:decide ((ws.map (rdI o)).length<4611686018427387904)=true:=dT (by rw [List.length_map];omega)
   have hb:List.foldl min (4611686018427387904:Int) (ws.map (rdI o))=(ws.map (rdI o)).foldl min maxRate:=rfl
   rw [dT (by omega:(ws.length:Int)>0),cT,c1,kT,bS,c2,kT,bS,hb]
   generalize (ws.map (rdI o)).foldl min maxRate=b at s1 s2
   have e1:=f180.l1_is k n hc s1 (by omega) k 0 (by omega) (by omega)
   rw [show ((0:Nat):Int)=0 by rfl,show subL b o (ws.take 0)=o by rfl] at e1
   rw [e1]
   obtain ⟨t1,t2,t3⟩:=s1.sub (fun i hi=>(within_at hw (by have:=withinF_len hw;omega)).1) hcl
   obtain ⟨y,y1,y2⟩:=findC_is hgr (f:=subL b o ws) (by rw [subL_len];exact hcl)
   rw [show findC (((g.1,g.2),subL b o ws):Gr×List Int)=some y from y1,bS]
   obtain ⟨u,hu⟩:=hf.chain
   have hwl:=withinF_len hw
   have htl:=withinF_len t1
   refine f180.l0_is k hk hc0 n (subL b o ws) y (by omega) (withinF_by (by omega) fun i hi=>?_) (fun v=>?_) y2
   ·have a1:=within_at t1 (i:=i) (by omega)
    have a2:=within_at hw (i:=i) hi
    omega
   ·rw [gain_sub hcl (fun l hl=>(hf.lin l hl).1) hu,hg v]
    omega
  ·rw [dF (by simp:¬ ((([]:List Int).length:Int)>0)),cF]
   exact ⟨o,rfl,hw,hg,ha⟩
def cancelQ (d:Gr×List Int) (x:List Int×Int):Prop:=bif capsMay d.1 d.2 then x.2=0∧CancelOk d.1 d.2 x.1 else x=([],1400)
def cancelP (d:Gr×List Int) (x:List Int×Int):Prop:=cancelQ d x∧∃ k,evFn (f180.E k) 9 180 Tryz.f180 (encL [tG,tL] d)=some (resLE x)
noncomputable def cancelC (d:Gr×List Int):Option (List Int×Int):=relC cancelP d
theorem withinF_self {f:List Int} (h:∀ x∈f,0≤x):withinF f f=true:=withinF_of rfl fun i x c hx hc=>by
 rw [hx] at hc
 obtain rfl:=oJ hc
 exact ⟨h x (List.mem_of_getElem? hx),Int.le_refl _⟩
theorem cancelC_is {g:Gr} (hg:graphMay g=true) (f:List Int):∃ x,cancelC (g,f)=some x∧cancelQ (g,f) x:=by
 have hp:=graphMay_parts hg
 have:∃ x,cancelP (g,f) x:=by
  cases hc:capsMay g f with
  |true =>
   have hcl:=capsMay_len hc
   obtain ⟨y,y1,y2⟩:=findC_is hg (f:=f) hcl
   obtain ⟨x,e1,e2⟩:=f180.l0_is (cntP f+11) (by omega) hc (cntP f+11) f y (by omega) (withinF_self (caps_sum hc).2) (fun v=>rfl) y2
   refine ⟨(x,0),?_,cntP f+11,(f180.eq _ g f).trans ?_⟩
   ·unfold cancelQ
    dsimp only
    rw [hc,cT]
    exact ⟨rfl,e2⟩
   ·rw [hg,kT,bS,hc,nT,cF,dT (by omega:f.length*8≤140737488355328),kT,bS,y1,bS]
    exact e1
  |false =>
   refine ⟨([],1400),?_,1,(f180.eq _ g f).trans ?_⟩
   ·unfold cancelQ
    dsimp only
    rw [hc,cF]
   ·rw [hg,kT,bS,hc,nF,cT]
 obtain ⟨y,e1,e2⟩:=relC_is this
 exact ⟨y,e1,e2.1⟩
noncomputable def S180:Summ:=summ [tG,tL] (List Int×Int) cancelC resLE
theorem ok180:SumOk Tryz.prog 180 S180 :=
 sumq f180.E (fn:=Tryz.f180) (code:=f180.code) f180.sums f180.inl fun d x hx=>(relC_some (P:=cancelP) hx).2
end
section
set_option maxRecDepth 100000
noncomputable def f129.E (k:Nat):Env:=mkEnv tt [(179,S179),(180,S180),(212,S212),(222,S222)] [(181,Tryz.f181)] [(129,7,[.kill (rg [(0,1),(5,9),(11,11),(13,44)]),.tidy]),(181,16,[.nil1 10 1 2621509 qI,.kill (rg [(0,0),(2,7),(9,9),(11,65),(69,81)]),.tidy]),(181,11,[.nil1 10 1 2621509 qI,.kill (rg [(0,0),(2,7),(9,9),(11,48),(52,81)]),.tidy]),(181,3,[.nil1 10 1 2621509 qI,.kill (rg [(0,0),(2,2),(5,7),(9,9),(12,81)]),.tidy])] [(181,2240,(rg [(0,1),(5,9),(11,11),(13,34),(36,44)]))] k
noncomputable def f129.code:Go.Code:=cd Tryz.f129
noncomputable def f129.l0 (k n:Nat) (p0:Int) (p1:Int) (p2:Int) (p3:List (eL)) (p4:List Int) (p5:List (eP)):Option V :=
 atPath (f129.E k) n ⟨(.u::.u::(.int .i64 p0)::(.int .i64 p1)::(.ptr 1048592 (0) (0))::.u::.u::.u::.u::.u::(.slw 2621456)::.u::(.slw 3145744)::un 32),[],[(1048592,.box [(.int .i64 p2),(.ro qL p3)]),(2621456,.row qI p4),(3145744,.row qP p5)]⟩ 9 0 129 [.c 1,.c 1,.c 1,.c 1,.c 1,.c 0] [] f129.code (finK tt Tryz.f129)
noncomputable def f129.l1 (k n m0:Nat) (p0:Int) (p1:Int) (p2:Int) (p3:List Int) (p4:Int) (p5:List (eL)) (p6:Int) (p7:List (eP)) (p8:List Int):Option V :=
 atPath (f129.E k) n ⟨(.u::(.slw 262160)::.u::(.int .i64 p0)::(.ptr 1048592 (0) (0))::.u::.u::.u::(.ptr 2097168 (0) (0))::.u::(.ptr 2621456 (0) (0))::(.int .i64 p1)::un 70),[(.u::.u::(.int .i64 p2)::(.int .i64 p0)::(.ptr 1074790416 (0) (0))::.u::.u::.u::.u::.u::(.slw 262160)::.u::(.slw 1076887568)::un 32)],[(262160,.row qI p3),(1048592,.box [(.int .i64 p4),(.ro qL p5)]),(2097168,.box [(.int .i64 p6),.nil]),(2621456,.box [(.int .i64 p6),(.slw 687198961776)]),(1074790416,.box [(.int .i64 p4),(.ro qL p5)]),(1076887568,.row qP p7),(687198961776,.row qI p8)]⟩ 9 0 129 [.c 1,.c 1,.c 1,.c 1,.c 1,.c 0,.c 0,.c 0,.c 0,.call 4 181,.c 1,.c 1,.c 0,.c 1,.c 0] [m0] f129.code (finK tt Tryz.f129)
noncomputable def f129.l2 (k n m0:Nat) (p0:Int) (p1:Int) (p2:Int) (p3:Int) (p4:List Int) (p5:Int) (p6:Int) (p7:Int) (p8:List (eL)) (p9:List (eP)) (p10:List Int):Option V :=
 atPath (f129.E k) n ⟨(.u::(.slw 262160)::.u::.u::.u::.u::.u::.u::(.ptr 2097168 (0) (0))::.u::(.ptr 2621456 (0) (0))::.u::.u::.u::.u::.u::.u::.u::.u::.u::.u::.u::.u::.u::.u::.u::.u::.u::.u::.u::.u::.u::.u::.u::.u::.u::.u::.u::.u::.u::.u::.u::.u::.u::.u::.u::.u::.u::.u::(.slw 687198961776)::(.int .i64 p0)::(.int .i64 p1)::un 30),[(.u::.u::(.int .i64 p2)::(.int .i64 p3)::(.ptr 1074790416 (0) (0))::.u::.u::.u::.u::.u::(.slw 262160)::.u::(.slw 1076887568)::un 32)],[(262160,.row qI p4),(2097168,.box [(.int .i64 p5),.nil]),(2621456,.box [(.int .i64 p6),(.slw 687198961776)]),(1074790416,.box [(.int .i64 p7),(.ro qL p8)]),(1076887568,.row qP p9),(687198961776,.row qI p10)]⟩ 9 0 129 [.c 1,.c 1,.c 1,.c 1,.c 1,.c 0,.c 0,.c 0,.c 0,.call 4 181,.c 1,.c 1,.c 1,.c 1,.c 0,.c 1,.c 0] [m0] f129.code (finK tt Tryz.f129)
noncomputable def f129.l3 (k n m0:Nat) (p0:Int) (p1:Int) (p2:Int) (p3:Int) (p4:List Int) (p5:Int) (p6:Int) (p7:Int) (p8:List (eL)) (p9:List (eP)) (p10:List Int):Option V :=
 atPath (f129.E k) n ⟨(.u::(.slw 262160)::.u::.u::.u::.u::.u::.u::(.ptr 2097168 (0) (0))::.u::(.ptr 2621456 (0) (0))::.u::.u::.u::.u::.u::.u::.u::.u::.u::.u::.u::.u::.u::.u::.u::.u::.u::.u::.u::.u::.u::.u::.u::.u::.u::.u::.u::.u::.u::.u::.u::.u::.u::.u::.u::.u::.u::.u::.u::.u::.u::.u::.u::.u::.u::.u::.u::.u::.u::.u::.u::.u::.u::.u::.u::(.slw 687198961776)::(.int .i64 p0)::(.int .i64 p1)::un 13),[(.u::.u::(.int .i64 p2)::(.int .i64 p3)::(.ptr 1074790416 (0) (0))::.u::.u::.u::.u::.u::(.slw 262160)::.u::(.slw 1076887568)::un 32)],[(262160,.row qI p4),(2097168,.box [(.int .i64 p5),.nil]),(2621456,.box [(.int .i64 p6),(.slw 687198961776)]),(1074790416,.box [(.int .i64 p7),(.ro qL p8)]),(1076887568,.row qP p9),(687198961776,.row qI p10)]⟩ 9 0 129 [.c 1,.c 1,.c 1,.c 1,.c 1,.c 0,.c 0,.c 0,.c 0,.call 4 181,.c 1,.c 1,.c 1,.c 1,.c 1,.c 0,.c 1,.c 0] [m0] f129.code (finK tt Tryz.f129)
theorem f129.l0_eq (k n:Nat) (p0:Int) (p1:Int) (p2:Int) (p3:List (eL)) (p4:List Int) (p5:List (eP)):f129.l0 k (n+1) p0 p1 p2 p3 p4 p5 =
 f129.l1 k k n p1 p0 p0 p4 p2 p3 0 p5 ([]):=by kernel_rfl
theorem f129.l1_eq (k n m0:Nat) (p0:Int) (p1:Int) (p2:Int) (p3:List Int) (p4:Int) (p5:List (eL)) (p6:Int) (p7:List (eP)) (p8:List Int):f129.l1 k (n+1) m0 p0 p1 p2 p3 p4 p5 p6 p7 p8 =
 bif p1 != p0 then ((chk (nextForm ((p4,p5),p3,p1)) (some (nextA p5 p3 p1))).bind (fun y0=>bif decide (y0<(0:Int)) then (some (.tup [(.own qP p7),(.int .i64 0)])) else (chk (decide ((p8++[y0]).length*8≤140737488355328)) (chk (decide ((0:Int)≤Go.IntKind.i64.wrap ((↑(p8++[y0]).length:Int) - (1:Int))∧Go.IntKind.i64.wrap ((↑(p8++[y0]).length:Int) - (1:Int))<(↑(p8++[y0]).length:Int))) (chk (decide ((0:Int)≤rd qI (p8++[y0]) (↑(Go.IntKind.i64.wrap ((↑(p8++[y0]).length:Int) - (1:Int))).toNat:Int)∧rd qI (p8++[y0]) (↑(Go.IntKind.i64.wrap ((↑(p8++[y0]).length:Int) - (1:Int))).toNat:Int)<(↑p5.length:Int))) (f129.l1 k n m0 p0 ((rd qL p5 (rd qI (p8++[y0]) (↑(Go.IntKind.i64.wrap ((↑(p8++[y0]).length:Int) - (1:Int))).toNat:Int))).2.1) p2 p3 p4 p5 p6 p7 (p8++[y0]))))))) else (f129.l2 k k m0 ((↑p8.length:Int)) 0 p2 p0 p3 p6 4611686018427387904 p4 p5 p7 p8):=by kernel_rfl
theorem f129.l2_eq (k n m0:Nat) (p0:Int) (p1:Int) (p2:Int) (p3:Int) (p4:List Int) (p5:Int) (p6:Int) (p7:Int) (p8:List (eL)) (p9:List (eP)) (p10:List Int):f129.l2 k (n+1) m0 p0 p1 p2 p3 p4 p5 p6 p7 p8 p9 p10 =
 bif decide (p1<p0) then (chk (decide ((0:Int)≤p1∧p1<(↑p10.length:Int))) (chk (decide ((0:Int)≤rd qI p10 (↑p1.toNat:Int)∧rd qI p10 (↑p1.toNat:Int)<(↑p4.length:Int))) (f129.l2 k n m0 p0 (Go.IntKind.i64.wrap (p1+(1:Int))) p2 p3 p4 p5 (List.foldl min p6 [rd qI p4 (↑(Int.toNat (rd qI p10 (↑p1.toNat:Int))):Int)]) p7 p8 p9 p10))) else (f129.l3 k k m0 ((↑p10.length:Int)) 0 p2 p3 p4 p5 p6 p7 p8 p9 p10):=by kernel_rfl
theorem f129.l3_eq (k n m0:Nat) (p0:Int) (p1:Int) (p2:Int) (p3:Int) (p4:List Int) (p5:Int) (p6:Int) (p7:Int) (p8:List (eL)) (p9:List (eP)) (p10:List Int):f129.l3 k (n+1) m0 p0 p1 p2 p3 p4 p5 p6 p7 p8 p9 p10 =
 bif decide (p1<p0) then (chk (decide ((0:Int)≤p1∧p1<(↑p10.length:Int))) (chk (decide ((0:Int)≤rd qI p10 (↑p1.toNat:Int)∧rd qI p10 (↑p1.toNat:Int)<(↑p4.length:Int))) (chk (decide ((0:Int)≤rd qI p10 (↑p1.toNat:Int)∧rd qI p10 (↑p1.toNat:Int)<(↑p4.length:Int))) (f129.l3 k n m0 p0 (Go.IntKind.i64.wrap (p1+(1:Int))) p2 p3 (p4.set (Int.toNat (rd qI p10 (↑p1.toNat:Int))) (Go.IntKind.i64.wrap (rd qI p4 (↑(Int.toNat (rd qI p10 (↑p1.toNat:Int))):Int) - p6))) p5 p6 p7 p8 p9 p10)))) else (chk (decide ((p9++[(p6,p10)]).length*32≤140737488355328)) (f129.l0 k m0 p2 p3 p7 p8 p4 (p9++[(p6,p10)]))):=by kernel_rfl
theorem f129.eq (k:Nat) (x0:Int×List (eL)) (x1:List Int) (x2:Int) (x3:Int):evFn (f129.E k) 9 129 Tryz.f129 (encL [(.pair qI (.list qL)),(.list qI),qI,qI] (x0,x1,x2,x3)) =
 bif !mayF x0 x1 x1 x2 x3 then (some (.tup [(.own qP ([])),(.int .i64 1500)])) else ((cancelC ((x0,x1))).bind (fun y0=>bif y0.2 != (0:Int) then (some (.tup [(.own qP ([])),(.int .i64 1500)])) else (f129.l0 k k x2 x3 x0.1 x0.2 y0.1 ([])))):=by kernel_rfl
theorem f129.inl (k:Nat):InlOk Tryz.prog (f129.E k):=(inl_cons (by kernel_rfl) (by kernel_rfl) inl_nil)
theorem f129.sums (k:Nat):SumsOk Tryz.prog (f129.E k):=(sums_cons ok179 (sums_cons ok180 (sums_cons ok212 (sums_cons ok222 sums_nil))))
end
section
set_option maxRecDepth 100000
theorem chain_walk {gl:List Lk}:∀ {ws:List Int} {v w:Int},ChainL gl v ws w→walkL gl v ws=some (ws.map fun l=>(lk gl l).2.1)
 | [],v,w,_=>rfl
 |a::ws,v,w,h=>by
  simp only [walkL]
  rw [h.1,show (v==v)=true by simp,cT,chain_walk h.2]
  rfl
theorem gain_le {v:Int}:∀ {gl:List Lk} {f:List Int},f.length=gl.length→(∀ x∈f,0≤x)→(∀ (i:Nat) (l:Lk) (x:Int),gl[i]? = some l→f[i]? = some x→l.1=v→x=0) →
  gainV gl f v≤0∧∀ (i:Nat) (l:Lk) (x:Int),gl[i]? = some l→f[i]? = some x→l.2.1=v→gainV gl f v≤-x
 | [],_,_,_,_=>⟨by simp [gainV],by simp⟩
 |l::gl,[],h,_,_=>by simp at h
 |l::gl,x::f,h,h0,h1=>by
  obtain ⟨i1,i2⟩:=gain_le (v:=v) (gl:=gl) (f:=f) (by simpa using h) (fun y hy=>h0 y (by simp [hy])) fun i l x hl hx=>h1 (i+1) l x (by simpa using hl) (by simpa using hx)
  have c0:0≤x:=h0 x (by simp)
  have c1:l.1=v→x=0:=h1 0 l x rfl rfl
  have e:gainV (l::gl) (x::f) v=((bif l.1==v then x else 0) - (bif l.2.1==v then x else 0))+gainV gl f v:=rfl
  have hd:gainV (l::gl) (x::f) v≤gainV gl f v∧(l.2.1=v→gainV (l::gl) (x::f) v≤gainV gl f v - x):=by
   rw [e]
   by_cases e1:l.1=v
   ·have:=c1 e1
    subst this
    constructor
    ·cases l.1==v <;> cases l.2.1==v <;> simp only [cT,cF] <;> omega
    ·intro _;cases l.1==v <;> cases l.2.1==v <;> simp only [cT,cF] <;> omega
   ·rw [show (l.1==v)=false by simpa using e1,cF]
    constructor
    ·cases l.2.1==v <;> simp only [cT,cF] <;> omega
    ·intro e2
     rw [show (l.2.1==v)=true by simpa using e2,cT]
     omega
  refine ⟨by omega,fun i l' x' hl hx hv=>?_⟩
  cases i with
  |zero =>
   simp only [List.getElem?_cons_zero,sI] at hl hx
   subst hl hx
   have:=hd.2 hv
   omega
  |succ i =>
   have:=i2 i l' x' (by simpa using hl) (by simpa using hx) hv
   omega
theorem lk_nat {gl:List Lk} {i:Nat} {l:Lk} (h:gl[i]? = some l):lk gl (i:Int)=l:=rd_some (t:=tLk) h
theorem lk_some {gl:List Lk} {i:Int} (h:0≤i∧i<(gl.length:Int)):gl[i.toNat]? = some (lk gl i):=by
 have hi:i.toNat<gl.length:=by omega
 have:=rd_some (t:=tLk) (gE hi)
 rw [show ((i.toNat:Nat):Int)=i by omega] at this
 rw [gE hi]
 exact congrArg some this.symm
theorem next_none {gl:List Lk} {f:List Int} {v:Int} (hl:f.length=gl.length) (h0:∀ x∈f,0≤x) (h:nextA gl f v<0) :
  gainV gl f v≤0∧∀ i:Int,0≤i∧i<(gl.length:Int)→(lk gl i).2.1=v→gainV gl f v≤- rdI f i:=by
 have hs:=(searchI_cases gl.length (nextB gl f v)).resolve_right fun hx=>by
  have e:searchI gl.length (nextB gl f v)=nextA gl f v:=rfl
  omega
 obtain ⟨a1,a2⟩:=gain_le (v:=v) hl h0 fun i l x hl' hx hv=>by
  have hi:=idx_lt hl'
  have:=hs.2 (i:Int) (by omega)
  unfold nextB at this
  rw [lk_nat hl',hv,rdI_some hx,show (v==v)=true by simp,tA] at this
  have h1:=h0 x (List.mem_of_getElem? hx)
  have h2:=of_decide_eq_false this
  omega
 exact ⟨a1,fun i hi hv=>a2 i.toNat _ _ (lk_some hi) (rdI_get (by omega)) hv⟩
theorem addLs_at {b:Int}:∀ {ws o:List Int},(∀ l∈ws,(0≤l∧l<(o.length:Int))∧rdI o l+b≤maxRate)→ws.Nodup →
  ∃ o',addLs b ws o=some o'∧o'.length=o.length∧∀ i:Int,0≤i∧i<(o.length:Int)→rdI o' i=rdI o i+bif decide (i∈ws) then b else 0
 | [],o,_,_=>⟨o,rfl,rfl,fun i _=>by simp⟩
 |a::ws,o,h,hn=>by
  obtain ⟨h1,h2⟩:=h a (by simp)
  rw [List.nodup_cons] at hn
  have ek:addK o a b=some (o.set a.toNat (rdI o a+b)):=by
   have hx:rd tI o a=rdI o a:=rfl
   unfold addK
   rw [hx,dF (by omega:¬ b>maxRate - rdI o a),cF]
  have at_:∀ i:Int,0≤i∧i<(o.length:Int)→rdI (o.set a.toNat (rdI o a+b)) i=bif a==i then rdI o a+b else rdI o i:=fun i hi=>rdI_set h1 hi
  obtain ⟨o',e1,e2,e3⟩:=addLs_at (b:=b) (ws:=ws) (o:=o.set a.toNat (rdI o a+b)) (fun l hl=>by
   obtain ⟨l1,l2⟩:=h l (by simp [hl])
   refine ⟨by rw [List.length_set];exact l1,?_⟩
   rw [at_ l l1,show (a==l)=false from beq_eq_false_iff_ne.2 (fun e=>hn.1 (e▸hl)),cF]
   exact l2) hn.2
  rw [List.length_set] at e2
  refine ⟨o',?_,e2,fun i hi=>?_⟩
  ·simp only [addLs]
   rw [ek,bS,e1]
  ·rw [e3 i (by rw [List.length_set];exact hi),at_ i hi]
   by_cases hai:a=i
   ·subst hai
    rw [show (a==a)=true by simp,cT,dF hn.1,cF,dT (by simp:a∈a::ws),cT]
    omega
   ·rw [show (a==i)=false by simpa using hai,cF]
    by_cases hm:i∈ws
    ·rw [dT hm,dT (by simp [hm]:i∈a::ws)]
    ·rw [dF hm,dF (by simp [hm,Ne.symm hai]:¬ i∈a::ws)]
structure SplitOk (g:Gr) (f:List Int) (src dst:Int) (ps:List Pt):Prop where
 all:∀ p∈ps,0<p.1∧pathB g src dst p.2=true
 len:ps.length≤16
 sum:(ratesOf ps).sum=gainV g.2 f src
 loads:∃ o,addPs ps (List.replicate g.2.length 0)=some o∧o.length=g.2.length∧∀ i:Int,0≤i∧i<(g.2.length:Int)→rdI o i≤rdI f i
structure SpSt (g:Gr) (f:List Int) (src dst:Int) (left:List Int) (out:List Pt):Prop where
 flow:FlowOk g f left src dst
 acyc:Acyc g.2 left
 all:∀ p∈out,0<p.1∧pathB g src dst p.2=true
 len:out.length+cntP left≤16
 sum:(ratesOf out).sum+gainV g.2 left src=gainV g.2 f src
 loads:∃ o,addPs out (List.replicate g.2.length 0)=some o∧o.length=g.2.length∧∀ i:Int,0≤i∧i<(g.2.length:Int)→rdI o i+rdI left i≤rdI f i
section
variable {g:Gr} {f:List Int} {src dst:Int} (hc:capsMay g f=true)
structure PeelSt (g:Gr) (src:Int) (left:List Int) (r:Int→Nat) (v:Int) (ws:List Int):Prop where
 chain:ChainL g.2 src ws v
 lin:∀ l∈ws,(0≤l∧l<(g.2.length:Int))∧rdI left l>0
 nodup:(vertsL g.2 src ws).Nodup
 vin:∀ u∈vertsL g.2 src ws,(0≤u∧u<g.1)∧r v≤r u
 into:ws ≠ []→v ≠ src∧∃ l,(0≤l∧l<(g.2.length:Int))∧rdI left l>0∧(lk g.2 l).2.1=v
include hc in
theorem PeelSt.path {left:List Int} {r:Int→Nat} {ws:List Int} (h:PeelSt g src left r dst ws) (hs:0≤src∧src<g.1) (hne:src ≠ dst):pathB g src dst ws=true∧ws.Nodup∧ws ≠ []∧ws.length≤7:=by
 have hg:=caps_graph hc
 have hp:=graphMay_parts hg
 have hlen:=nodup_len g.1.toNat _ h.nodup fun x hx=>by have:=(h.vin x hx).1;omega
 rw [vertsL_len] at hlen
 have hws:ws ≠ []:=by
  rintro rfl
  exact hne h.chain
 have hform:walkForm g src ws=true:=by
  unfold walkForm
  rw [hg,show hasV g.1 src=true from dT hs,dT (by omega:ws.length≤64),show ws.all (lkIn g.2)=true from List.all_eq_true.2 fun l hl=>dT (h.lin l hl).1]
  rfl
 have hwk:walkOf g src ws=(vertsL g.2 src ws,0):=by
  unfold walkOf
  rw [hform,cT,chain_walk h.chain]
  rfl
 refine ⟨?_,?_,hws,by omega⟩
 ·unfold pathB
  rw [hwk,dT (List.length_pos_iff.2 hws),rd_some (t:=tI) h.chain.last,dT h.nodup]
  simp
 ·have hfr:=h.chain.froms
  have hnd:=h.nodup
  rw [hfr] at hnd
  have:=(List.nodup_append.1 hnd).1
  exact (List.pairwise_map.1 this).imp fun hn e=>hn (by rw [e])
theorem f129.l2_is (k m0:Nat) (left:List Int) (z:Int) (out:List Pt) {ws:List Int} (hw:∀ l∈ws,0≤l∧l<(left.length:Int)) (hl:ws.length≤64):∀ (n i:Nat),i≤ws.length→ws.length<n+i →
  f129.l2 k n m0 (ws.length:Int) (i:Int) src dst left z (((ws.take i).map (rdI left)).foldl min maxRate) g.1 g.2 out ws=f129.l3 k k m0 (ws.length:Int) 0 src dst left z ((ws.map (rdI left)).foldl min maxRate) g.1 g.2 out ws
 |0,i,h,h'=>by omega
 |n+1,i,h,h'=>by
  rw [f129.l2_eq]
  by_cases hlt:i<ws.length
  ·have hx:=gE hlt
   have h1:=hw _ (List.getElem_mem hlt)
   have e1:rd (Ty.int Go.IntKind.i64) ws (((i:Int).toNat:Nat):Int)=ws[i]:=rd_some (t:=tI) (by rw [Int.toNat_natCast];exact hx)
   have e2:rd (Ty.int Go.IntKind.i64) left ((ws[i].toNat:Nat):Int)=rdI left ws[i]:=rdI_nat _ _
   have et:ws.take (i+1)=ws.take i++[ws[i]]:=by rw [List.take_add_one,hx];rfl
   rw [e1,e2,dT (by omega:(i:Int)<(ws.length:Int)),cT,dT (by omega:(0:Int)≤(i:Int)∧(i:Int)<(ws.length:Int)),kT,dT h1,kT,wrap_succ (by omega),← f129.l2_is k m0 left z out hw hl n (i+1) (by omega) (by omega),et,List.map_append,List.foldl_append]
   rfl
  ·obtain rfl:i=ws.length:=by omega
   rw [dF (by omega:¬ (ws.length:Int)<(ws.length:Int)),cF,List.take_length]
theorem f129.l3_is (k m0:Nat) {left:List Int} (hcl:capsMay g left=true) (z:Int) (out:List Pt) (ho:out.length≤16) {b:Int} {ws:List Int} (h:SubOk g left b ws) (hl:ws.length≤64):∀ (n i:Nat),i≤ws.length→ws.length<n+i →
  f129.l3 k n m0 (ws.length:Int) (i:Int) src dst (subL b left (ws.take i)) z b g.1 g.2 out ws=f129.l0 k m0 src dst g.1 g.2 (subL b left ws) (out++[(b,ws)])
 |0,i,h1,h2=>by omega
 |n+1,i,h1,h2=>by
  rw [f129.l3_eq]
  by_cases hlt:i<ws.length
  ·have hx:=gE hlt
   obtain ⟨s1,s2,s3⟩:=h.step hcl hx
   have e1:rd (Ty.int Go.IntKind.i64) ws (((i:Int).toNat:Nat):Int)=ws[i]:=rd_some (t:=tI) (by rw [Int.toNat_natCast];exact hx)
   have e2:rd (Ty.int Go.IntKind.i64) (subL b left (ws.take i)) ((ws[i].toNat:Nat):Int)=rdI (subL b left (ws.take i)) ws[i]:=rdI_nat _ _
   have c2:decide ((0:Int)≤ws[i]∧ws[i]<((subL b left (ws.take i)).length:Int))=true:=dT (by rw [subL_len];exact s3)
   have et:ws.take (i+1)=ws.take i++[ws[i]]:=by rw [List.take_add_one,hx];rfl
   rw [e1,e2,s2,c2,dT (by omega:(i:Int)<(ws.length:Int)),cT,dT (by omega:(0:Int)≤(i:Int)∧(i:Int)<(ws.length:Int)),kT,kT,kT,wrap_succ (by omega),← f129.l3_is k m0 hcl z out ho h hl n (i+1) (by omega) (by omega),et,subL_snoc]
  ·obtain rfl:i=ws.length:=by omega
   rw [dF (by omega:¬ (ws.length:Int)<(ws.length:Int)),cF,List.take_length,dT (by rw [lA,List.length_singleton];omega:(out++[(b,ws)]).length*32≤140737488355328),kT]
include hc in
theorem SpSt.caps {left:List Int} {out:List Pt} (h:SpSt g f src dst left out):capsMay g left=true:=lies_caps (cs:=f) (by unfold liesB;rw [hc,h.flow.within];rfl)
include hc in
theorem SpSt.more {left:List Int} {out:List Pt} (h:SpSt g f src dst left out) {r:Int→Nat} {ws:List Int} (hw:PeelSt g src left r dst ws) (hs:0≤src∧src<g.1) (hne:src ≠ dst) {b:Int} (hb:SubOk g left b ws) :
  SpSt g f src dst (subL b left ws) (out++[(b,ws)])∧cntP (subL b left ws)<cntP left:=by
 have hcl:=h.caps hc
 have hl:=capsMay_len hcl
 have hM:maxRate=4611686018427387904:=rfl
 obtain ⟨p1,p2,p3,p4⟩:=hw.path hc hs hne
 obtain ⟨t1,t2,t3⟩:=hb.sub (fun i hi=>(caps_sum hcl).2 _ (List.mem_of_getElem? (rdI_get (by omega)))) hl
 have hbp:=hb.pos
 have hfl:=capsMay_len hc
 have hg:=fun v=>gain_sub (b:=b) (v:=v) hl (fun l hl=>(hw.lin l hl).1) hw.chain
 have hlen:=h.len
 have hle:∀ i:Int,0≤i∧i<(g.2.length:Int)→0≤rdI (subL b left ws) i∧rdI (subL b left ws) i≤rdI left i:=fun i hi=>within_at t1 (by omega)
 refine ⟨⟨⟨?_,fun v hv h1 h2=>?_,fun i hi he=>?_⟩,h.acyc.less fun i hi hp=>?_,fun p hp=>?_,?_,?_,?_⟩,t2⟩
 ·have e:=subL_len b ws left
  exact withinF_by (by omega) fun i hi=>by
   have a1:=hle i (by omega)
   have a2:=within_at h.flow.within (i:=i) hi
   omega
 ·rw [hg v,h.flow.still v hv h1 h2,show (src==v)=false by simpa using Ne.symm h1,show (dst==v)=false by simpa using Ne.symm h2,cF]
  rfl
 ·have a1:=hle i hi
  have a2:=h.flow.noIn i hi he
  omega
 ·have a1:=hle i hi
  omega
 ·rcases List.mem_append.1 hp with hp|hp
  ·exact h.all p hp
  ·obtain rfl:p=(b,ws):=by simpa using hp
   exact ⟨by show 0<b;omega,p1⟩
 ·rw [lA,List.length_singleton]
  omega
 ·have hsum:=h.sum
  rw [hg src,show (src==src)=true by simp,show (dst==src)=false by simpa using Ne.symm hne,cT,cF]
  unfold ratesOf at hsum ⊢
  rw [List.map_append,List.sum_append]
  simp only [List.map_cons,List.map_nil,List.sum_cons,List.sum_nil]
  omega
 ·obtain ⟨o,o1,o2,o3⟩:=h.loads
  obtain ⟨o',q1,q2,q3⟩:=addLs_at (b:=b) (ws:=ws) (o:=o) (fun l hl'=>by
   obtain ⟨l1,l2⟩:=hb.le l hl'
   have l3:=o3 l l1
   have l4:=(caps_le hc (List.mem_of_getElem? (rdI_get (f:=f) (i:=l) (by omega)))).2
   exact ⟨by omega,by omega⟩) p2
  refine ⟨o',?_,by omega,fun i hi=>?_⟩
  ·rw [addPs_append,o1,bS]
   simp only [addPs]
   rw [q1,bS]
  ·have l3:=o3 i hi
   rw [q3 i (by omega),t3 i hi]
   cases decide (i∈ws) <;> simp only [cT,cF] <;> omega
include hc in
theorem SpSt.stop {left:List Int} {out:List Pt} (h:SpSt g f src dst left out) {r:Int→Nat} {v:Int} {ws:List Int} (hw:PeelSt g src left r v ws) (hne:src ≠ dst) (hvd:v ≠ dst) (hn:nextA g.2 left v<0):SplitOk g f src dst out:=by
 have hcl:=h.caps hc
 have hl:=capsMay_len hcl
 have h0:=(caps_sum hcl).2
 obtain ⟨n1,n2⟩:=next_none hl h0 hn
 have hws:ws=[]:=by
  by_cases he:ws=[]
  ·exact he
  ·obtain ⟨a1,l,a2,a3,a4⟩:=hw.into he
   have:=n2 l a2 a4
   have hv:=(hw.vin v (List.mem_of_getElem? hw.chain.last)).1
   rw [h.flow.still v hv a1 hvd] at this
   omega
 subst hws
 obtain rfl:src=v:=hw.chain
 have hge:0≤gainV g.2 left src:=gain_nonneg hl (fun i hi=>h0 _ (List.mem_of_getElem? (rdI_get (by omega)))) h.flow.noIn
 have hsum:=h.sum
 obtain ⟨o,o1,o2,o3⟩:=h.loads
 exact ⟨h.all,by have:=h.len;omega,by omega,o,o1,o2,fun i hi=>by
  have a1:=o3 i hi
  have a2:=h0 _ (List.mem_of_getElem? (rdI_get (f:=left) (i:=i) (by omega)))
  omega⟩
@[reducible] def resSp (x:List Pt×Int):V:=.tup [.own tP x.1,.int .i64 x.2]
include hc in
theorem f129.l1_is (Q:Option V→Prop) (k m0:Nat) (hk:65≤k) (hs:0≤src∧src<g.1) (hne:src ≠ dst) {left:List Int} {out:List Pt} (h:SpSt g f src dst left out) {r:Int→Nat} (hr:∀ i,0≤i∧i<(g.2.length:Int)→rdI left i>0→r (lk g.2 i).2.1<r (lk g.2 i).1) (z:Int)
  (hstop:SplitOk g f src dst out→Q (some (resSp (out,0)))) (hmore:∀ left' out',SpSt g f src dst left' out'→cntP left'<cntP left→Q (f129.l0 k m0 src dst g.1 g.2 left' out')):∀ (n:Nat) (v:Int) (ws:List Int),PeelSt g src left r v ws→9<n+ws.length →
  Q (f129.l1 k n m0 dst v src left g.1 g.2 z out ws)
 |0,v,ws,hw,hn=>by
  have hp:=graphMay_parts (caps_graph hc)
  have hlen:=nodup_len g.1.toNat _ hw.nodup fun x hx=>by have:=(hw.vin x hx).1;omega
  rw [vertsL_len] at hlen
  omega
 |n+1,v,ws,hw,hn=>by
  have hg:=caps_graph hc
  have hp:=graphMay_parts hg
  have hcl:=h.caps hc
  have hl:=capsMay_len hcl
  have hlen:=nodup_len g.1.toNat _ hw.nodup fun x hx=>by have:=(hw.vin x hx).1;omega
  rw [vertsL_len] at hlen
  rw [f129.l1_eq]
  by_cases hvd:v=dst
  ·subst hvd
   obtain ⟨p1,p2,p3,p4⟩:=hw.path hc hs hne
   rw [show (v != v)=false by simp,cF]
   have e2:=f129.l2_is (g:=g) (src:=src) (dst:=v) k m0 left z out (ws:=ws) (fun l hl'=>by have:=(hw.lin l hl').1;omega) (by omega) k 0 (by omega) (by omega)
   have e2':f129.l2 k k m0 (ws.length:Int) 0 src v left z (4611686018427387904:Int) g.1 g.2 out ws=f129.l3 k k m0 (ws.length:Int) 0 src v left z ((ws.map (rdI left)).foldl min maxRate) g.1 g.2 out ws:=e2
   rw [e2']
   obtain ⟨s1,s2⟩:=SubOk.of hcl hw.lin p2 p3 rfl
   generalize (ws.map (rdI left)).foldl min maxRate=b at s1 s2
   have e3:=f129.l3_is (g:=g) (src:=src) (dst:=v) k m0 hcl z out (by have:=h.len;omega) s1 (by omega) k 0 (by omega) (by omega)
   rw [show ((0:Nat):Int)=0 by rfl,show subL b left (ws.take 0)=left by rfl] at e3
   rw [e3]
   obtain ⟨t1,t2⟩:=h.more hc hw hs hne s1
   exact hmore _ _ t1 t2
  ·have c2:nextForm (((g.1,g.2),left,v):Gr×(List Int×Int))=true:=by
    unfold nextForm
    dsimp only
    rw [show graphMay (g.1,g.2)=true from hg,hl]
    simp
   rw [show (v != dst)=true by simpa using hvd,cT,c2,kT,bS]
   by_cases h0:nextA g.2 left v<0
   ·rw [dT h0,cT]
    exact hstop (h.stop hc hw hne hvd h0)
   ·rw [dF h0,cF]
    obtain ⟨s1,s2⟩:=(searchI_cases g.2.length (nextB g.2 left v)).resolve_left fun hx=>h0 (by
     have e:nextA g.2 left v=-1:=hx.1
     omega)
    have hal:searchI g.2.length (nextB g.2 left v)=nextA g.2 left v:=rfl
    rw [hal] at s1 s2
    generalize nextA g.2 left v=l at s1 s2 h0
    unfold nextB at s2
    rw [bA] at s2
    have e1:=eq_of_beq s2.1
    have e3:rdI left l>0:=oD s2.2
    have hl1:(ws++[l]).length=ws.length+1:=by simp
    have w1:Go.IntKind.i64.wrap (((ws++[l]).length:Int) - 1)=(ws.length:Int):=by rw [hl1,wrap64 (by omega)];omega
    have r1:rd (Ty.int Go.IntKind.i64) (ws++[l]) (((ws.length:Int).toNat:Nat):Int)=l:=rd_some (t:=tI) (by rw [Int.toNat_natCast];simp)
    rw [dT (by omega:(ws++[l]).length*8≤140737488355328),kT,w1,dT (by omega:(0:Int)≤(ws.length:Int)∧(ws.length:Int)<((ws++[l]).length:Int)),kT,r1,dT s1,kT]
    have hto:=(lk_at hg s1).2.1
    have hrl:=hr l s1 e3
    have hnew:∀ u∈vertsL g.2 src ws,r (lk g.2 l).2.1<r u:=fun u hu=>by
     have:=(hw.vin u hu).2
     rw [e1] at hrl
     omega
    have ih:=f129.l1_is Q k m0 hk hs hne h hr z hstop hmore n (lk g.2 l).2.1 (ws++[l]) ⟨hw.chain.snoc e1,fun a ha=>by
     rcases List.mem_append.1 ha with ha|ha
     ·exact hw.lin a ha
     ·obtain rfl:a=l:=by simpa using ha
      exact ⟨s1,e3⟩,by
     rw [vertsL_snoc]
     exact List.nodup_append.2 ⟨hw.nodup,by simp,fun a ha b hb=>by
      obtain rfl:b=(lk g.2 l).2.1:=by simpa using hb
      rintro rfl
      have:=hnew _ ha
      omega⟩,fun u hu=>by
     rw [vertsL_snoc] at hu
     rcases List.mem_append.1 hu with hu|hu
     ·exact ⟨(hw.vin u hu).1,by have:=hnew u hu;omega⟩
     ·obtain rfl:u=(lk g.2 l).2.1:=by simpa using hu
      exact ⟨hto,Nat.le_refl _⟩,fun _=>⟨fun e=>by
       have:=hnew src (by simp [vertsL])
       rw [e] at this
       omega,l,s1,e3,rfl⟩⟩ (by omega)
    exact ih
include hc in
theorem f129.l0_is (k:Nat) (hk:65≤k) (hs:0≤src∧src<g.1) (hne:src ≠ dst):∀ (n:Nat) (left:List Int) (out:List Pt),cntP left<n→SpSt g f src dst left out →
  ∃ ps,f129.l0 k n src dst g.1 g.2 left out=some (resSp (ps,0))∧SplitOk g f src dst ps
 |0,left,out,h,_=>by omega
 |n+1,left,out,h,hst=>by
  rw [f129.l0_eq]
  obtain ⟨r,hr⟩:=hst.acyc
  exact f129.l1_is hc (fun y=>∃ ps,y=some (resSp (ps,0))∧SplitOk g f src dst ps) k n hk hs hne hst hr 0 (fun h1=>⟨out,rfl,h1⟩) (fun left' out' h1 h2=>f129.l0_is k hk hs hne n left' out' (by omega) h1) k src [] ⟨rfl,by simp,by simp [vertsL],fun u hu=>by
   obtain rfl:u=src:=by simpa [vertsL] using hu
   exact ⟨hs,Nat.le_refl _⟩,fun h=>absurd rfl h⟩ (by simp;omega)
end
def splitP (d:Gr×(List Int×(Int×Int))) (x:List Pt×Int):Prop :=
 (x.2=0∧SplitOk d.1 d.2.1 d.2.2.1 d.2.2.2 x.1)∧∃ k,evFn (f129.E k) 9 129 Tryz.f129 (encL [tG,tL,tI,tI] d)=some (resSp x)
noncomputable def splitC (d:Gr×(List Int×(Int×Int))):Option (List Pt×Int):=relC splitP d
theorem splitC_is {g:Gr} {cs f:List Int} {src dst:Int} (hcs:capsMay g cs=true) (hF:FlowOk g cs f src dst) (hs:hasV g.1 src=true) (hd:hasV g.1 dst=true) (hne:src ≠ dst):∃ ps,splitC (g,(f,(src,dst)))=some (ps,0)∧SplitOk g f src dst ps:=by
 have hc:capsMay g f=true:=lies_caps (cs:=cs) (by unfold liesB;rw [hcs,hF.within];rfl)
 have hg:=caps_graph hc
 have h1:0≤src∧src<g.1:=oD hs
 have hF':FlowOk g f f src dst:=⟨withinF_self (caps_sum hc).2,hF.still,hF.noIn⟩
 have hfl:=capsMay_len hc
 have hp:=graphMay_parts hg
 obtain ⟨x,e1,e2⟩:=cancelC_is hg f
 unfold cancelQ at e2
 dsimp only at e2
 rw [hc,cT] at e2
 obtain ⟨e2,e3⟩:=e2
 have hwl:=withinF_len e3.within
 have hx:=fun (i:Int)=>within_at e3.within (i:=i)
 have hst:SpSt g f src dst x.1 []:=by
  refine ⟨⟨e3.within,fun v hv a b=>by rw [e3.gain];exact hF.still v hv a b,fun i hi he=>?_⟩,e3.acyc,by simp,?_,?_,List.replicate g.2.length 0,rfl,by simp,fun i hi=>?_⟩
  ·have a1:=hx i (by omega)
   have a2:=hF.noIn i hi he
   omega
  ·have:=cntP_len x.1
   simp only [List.length_nil]
   omega
  ·rw [e3.gain]
   simp [ratesOf]
  ·rw [rdI_replicate (by omega)]
   have a1:=hx i (by omega)
   omega
 obtain ⟨ps,p1,p2⟩:=f129.l0_is hc 100 (by omega) h1 hne 100 x.1 [] (by have:=cntP_len x.1;omega) hst
 have:∃ y,splitP (g,(f,(src,dst))) y:=by
  refine ⟨(ps,0),⟨rfl,p2⟩,100,(f129.eq _ g f src dst).trans ?_⟩
  rw [hF'.may hc hs hd hne,nT,cF,e1,bS,e2,show ((0:Int) != 0)=false by rfl,cF]
  exact p1
 obtain ⟨y,y1,y2⟩:=relC_is this
 refine ⟨y.1,?_,y2.1.2⟩
 rw [show splitC (g,(f,(src,dst)))=some y from y1,← y2.1.1]
noncomputable def S129:Summ:=summ [tG,tL,tI,tI] (List Pt×Int) splitC resSp
theorem ok129:SumOk Tryz.prog 129 S129 :=
 sumq f129.E (fn:=Tryz.f129) (code:=f129.code) f129.sums f129.inl fun d x hx=>(relC_some (P:=splitP) hx).2
end
section
set_option maxRecDepth 100000
noncomputable def f63.E (k:Nat):Env:=mkEnv tt [(121,S121),(125,S125),(122,S122),(127,S127),(128,S128),(129,S129)] [] [] [] k
noncomputable def f63.code:Go.Code:=cd Tryz.f63
theorem f63.eq (k:Nat) (x0:Int×List (eL)) (x1:List Int) (x2:Int) (x3:Int) (x4:Int):evFn (f63.E k) 9 63 Tryz.f63 (encL [(.pair qI (.list qL)),(.list qI),qI,qI,qI] (x0,x1,x2,x3,x4)) =
 bif !capsMay x0 x1 then (some (.tup [(.own qP ([])),(.own qI ([])),(.int .i64 1600)])) else (bif !hasV x0.1 x2 then (some (.tup [(.own qP ([])),(.own qI ([])),(.int .i64 1600)])) else (bif !hasV x0.1 x3 then (some (.tup [(.own qP ([])),(.own qI ([])),(.int .i64 1600)])) else (bif x2==x3 then (some (.tup [(.own qP ([])),(.own qI ([])),(.int .i64 1600)])) else (bif x4==(0:Int) then (some (.tup [(.own qP ([])),(.own qI ([])),(.int .i64 1600)])) else (bif !rateB x4 then (some (.tup [(.own qP ([])),(.own qI ([])),(.int .i64 1600)])) else ((pushC ((x0,x1,x2,x3,x4))).bind (fun y0=>bif y0.2.2 != (0:Int) then (some (.tup [(.own qP ([])),(.own qI ([])),(.int .i64 1600)])) else (bif decide (y0.2.1<x4) then ((chk (graphMay x0) (some (reachRes x0 x1 y0.1 x2))).bind (fun y1=>some (.tup [(.own qP ([])),(.own qI y1.1),(.int .i64 0)]))) else ((splitC ((x0,y0.1,x2,x3))).bind (fun y1=>some (.tup [(.own qP y1.1),(.own qI ([])),(.int .i64 0)]))))))))))):=by kernel_rfl
theorem f63.inl (k:Nat):InlOk Tryz.prog (f63.E k):=inl_nil
theorem f63.sums (k:Nat):SumsOk Tryz.prog (f63.E k):=(sums_cons ok121 (sums_cons ok125 (sums_cons ok122 (sums_cons ok127 (sums_cons ok128 (sums_cons ok129 sums_nil))))))
end
section
set_option maxRecDepth 100000
def crossL (vs:List Int):List Lk→List Int→Int
 |l::gl,x::f=>((bif amongB vs l.1 then x else 0) - (bif amongB vs l.2.1 then x else 0))+crossL vs gl f
 |_,_=>0
def sumV (vs:List Int) (m:Nat) (F:Int→Int):Int:=((upto m).map fun v=>bif amongB vs v then F v else 0).sum
theorem sum_map_add (F G:Int→Int):∀ l:List Int,(l.map fun v=>F v+G v).sum=(l.map F).sum+(l.map G).sum
 | []=>rfl
 |a::l=>by simp only [List.map_cons,List.sum_cons,sum_map_add F G l];omega
theorem sum_map_zero (F:Int→Int):∀ l:List Int,(∀ v∈l,F v=0)→(l.map F).sum=0
 | [],_=>rfl
 |a::l,h=>by
  rw [List.map_cons,List.sum_cons,h a (by simp),sum_map_zero F l fun v hv=>h v (by simp [hv])]
  rfl
theorem sum_map_one (F:Int→Int) {a:Int}:∀ l:List Int,l.Nodup→a∈l→(∀ v∈l,v ≠ a→F v=0)→(l.map F).sum=F a
 | [],_,h,_=>by simp at h
 |b::l,hn,h,hz=>by
  rw [List.nodup_cons] at hn
  rw [List.map_cons,List.sum_cons]
  by_cases hb:b=a
  ·subst hb
   rw [sum_map_zero F l fun v hv=>hz v (by simp [hv]) fun e=>hn.1 (e▸hv)]
   omega
  ·rw [hz b (by simp) hb,sum_map_one F l hn.2 (by simpa [Ne.symm hb] using h) fun v hv=>hz v (by simp [hv])]
   omega
theorem upto_nodup (m:Nat):(upto m).Nodup:=by
 unfold upto
 refine List.pairwise_map.2 (List.nodup_range.imp fun h e=>h ?_)
 exact_mod_cast e
theorem sumV_gain (vs:List Int) {m:Nat}:∀ (gl:List Lk) (f:List Int),(∀ l∈gl,(0≤l.1∧l.1<(m:Int))∧(0≤l.2.1∧l.2.1<(m:Int)))→sumV vs m (gainV gl f)=crossL vs gl f
 | [],f,_=>sum_map_zero _ _ fun v _=>by cases amongB vs v <;> simp [gainV]
 |l::gl,[],_=>sum_map_zero _ _ fun v _=>by cases amongB vs v <;> simp [gainV]
 |l::gl,x::f,h=>by
  have ih:=sumV_gain vs gl f fun l hl=>h l (by simp [hl])
  obtain ⟨h1,h2⟩:=h l (by simp)
  have one:∀ a:Int,0≤a∧a<(m:Int)→((upto m).map fun v=>bif amongB vs v then (bif a==v then x else 0) else 0).sum=bif amongB vs a then x else 0:=fun a ha=>by
   rw [sum_map_one (a:=a) _ _ (upto_nodup m) (upto_mem.2 ha) fun v _ hv=>by
    rw [show (a==v)=false by simpa using Ne.symm hv,cF]
    cases amongB vs v <;> rfl]
   rw [show (a==a)=true by simp,cT]
  unfold sumV at ih ⊢
  have e:(fun v=>bif amongB vs v then gainV (l::gl) (x::f) v else 0)=fun v=>(bif amongB vs v then (bif l.1==v then x else 0) else 0)+((bif amongB vs v then -(bif l.2.1==v then x else 0) else 0)+(bif amongB vs v then gainV gl f v else 0)):=by
   funext v
   simp only [gainV]
   cases amongB vs v <;> simp only [cT,cF] <;> omega
  have n:(fun v=>bif amongB vs v then -(bif l.2.1==v then x else 0) else 0)=fun v=>-(bif amongB vs v then (bif l.2.1==v then x else 0) else 0):=by
   funext v
   cases amongB vs v <;> simp only [cT,cF] <;> rfl
  have neg:∀ (F:Int→Int) (l:List Int),(l.map fun v=>-F v).sum=-(l.map F).sum:=fun F l=>by
   induction l with
   |nil=>rfl
   |cons a l ih=>simp only [List.map_cons,List.sum_cons,ih];omega
  rw [e,sum_map_add,sum_map_add,one l.1 h1,n,neg,one l.2.1 h2,ih]
  simp only [crossL]
  omega
theorem cross_le (vs:List Int):∀ {gl:List Lk} {f cs:List Int},f.length=gl.length→cs.length=gl.length→(∀ (i:Nat) (x c:Int),f[i]? = some x→cs[i]? = some c→0≤x∧x≤c)→crossL vs gl f≤worthL vs gl cs
 | [],f,cs,_,_,_=>by simp [crossL,worthL]
 |l::gl,[],cs,h,_,_=>by simp at h
 |l::gl,x::f,[],_,h,_=>by simp at h
 |l::gl,x::f,c::cs,h1,h2,h=>by
  have ih:=cross_le vs (gl:=gl) (f:=f) (cs:=cs) (by simpa using h1) (by simpa using h2) fun i x c hx hc=>h (i+1) x c (by simpa using hx) (by simpa using hc)
  have h0:=h 0 x c rfl rfl
  simp only [crossL,worthL]
  unfold leavesB
  cases amongB vs l.1 <;> cases amongB vs l.2.1 <;> simp only [cT,cF,tA,fA,nT,nF] <;> omega
theorem cross_eq (vs:List Int):∀ {gl:List Lk} {f cs:List Int},f.length=gl.length→cs.length=gl.length→(∀ (i:Nat) (l:Lk) (x c:Int),gl[i]? = some l→f[i]? = some x→cs[i]? = some c→(amongB vs l.1=true→amongB vs l.2.1=false→x=c)∧(amongB vs l.1=false→amongB vs l.2.1=true→x=0))→crossL vs gl f=worthL vs gl cs
 | [],f,cs,_,_,_=>by simp [crossL,worthL]
 |l::gl,[],cs,h,_,_=>by simp at h
 |l::gl,x::f,[],_,h,_=>by simp at h
 |l::gl,x::f,c::cs,h1,h2,h=>by
  have ih:=cross_eq vs (gl:=gl) (f:=f) (cs:=cs) (by simpa using h1) (by simpa using h2) fun i l x c hl hx hc=>h (i+1) l x c (by simpa using hl) (by simpa using hx) (by simpa using hc)
  obtain ⟨a,b⟩:=h 0 l x c rfl rfl rfl
  simp only [crossL,worthL,ih]
  unfold leavesB
  cases e1:amongB vs l.1 <;> cases e2:amongB vs l.2.1 <;> simp only [cT,cF,tA,fA,nT,nF]
  ·omega
  ·have:=b e1 e2;omega
  ·have:=a e1 e2;omega
  ·omega
section
variable {g:Gr} {cs f:List Int} {src dst:Int} (hc:capsMay g cs=true)
include hc in
theorem FlowOk.cut (h:FlowOk g cs f src dst) (hs:0≤src∧src<g.1) {vs:List Int} (h1:amongB vs src=true) (h2:amongB vs dst=false):gainV g.2 f src=crossL vs g.2 f:=by
 have hg:=caps_graph hc
 have hp:=graphMay_parts hg
 have e:=sumV_gain vs (m:=g.1.toNat) g.2 f fun l hl=>by
  obtain ⟨i,hi⟩:=List.mem_iff_getElem?.1 hl
  have:=link_at hg hi
  omega
 rw [← e]
 unfold sumV
 rw [sum_map_one (a:=src) _ _ (upto_nodup _) (upto_mem.2 (by omega)) fun v hv hne=>?_,h1,cT]
 have hv:=upto_mem.1 hv
 by_cases hd:v=dst
 ·subst hd
  rw [h2,cF]
 ·rw [h.still v (by omega) hne hd]
  cases amongB vs v <;> rfl
include hc in
theorem FlowOk.least (h:FlowOk g cs f src dst) (hs:0≤src∧src<g.1) {vs:List Int} (h1:amongB vs src=true) (h2:amongB vs dst=false):gainV g.2 f src≤worthL vs g.2 cs:=by
 have hl:=withinF_len h.within
 have hcl:=capsMay_len hc
 rw [h.cut hc hs h1 h2]
 exact cross_le vs (by omega) hcl fun i x c hx hc=>withinF_get h.within hx hc
theorem upto_rising (m:Nat) (P:Int→Bool):∀ (n i:Nat) (p:Option Int),n+i=m→(∀ q,p=some q→q<(i:Int))→risingB (m:Int) p (((upto m).drop i).filter P)=true
 |0,i,p,h,_=>by
  rw [List.drop_eq_nil_of_le (by rw [upto_length];omega)]
  rfl
 |n+1,i,p,h,hp=>by
  have hu:i<(upto m).length:=by rw [upto_length];omega
  have hg:(upto m)[i]=(i:Int):=(List.getElem?_eq_some_iff.1 (upto_get (by omega))).2
  rw [drop_filter _ hu,hg]
  cases P (i:Int) with
  |false =>
   rw [cF]
   exact upto_rising m P n (i+1) p (by omega) fun q hq=>by have:=hp q hq;omega
  |true =>
   rw [cT]
   simp only [risingB]
   rw [show hasV (m:Int) (i:Int)=true from dT (by omega),upto_rising m P n (i+1) (some (i:Int)) (by omega) fun q hq=>by
    obtain rfl:=oJ hq
    omega]
   cases p with
   |none=>rfl
   |some q =>
    have hq:decide (q<(i:Int))=true:=dT (hp q rfl)
    show (true&&(decide (q<(i:Int))&&true))=true
    rw [hq]
    rfl
theorem reach_among {o:List Int} {v:Int} (hv:0≤v∧v<(o.length:Int)):amongB (reachL o) v=decide (rdI o v ≥ 0):=by
 cases h:decide (rdI o v ≥ 0) with
 |true=>exact among_mem.2 (List.mem_filter.2 ⟨upto_mem.2 hv,h⟩)
 |false =>
  cases hb:amongB (reachL o) v with
  |false=>rfl
  |true =>
   have:=(List.mem_filter.1 (among_mem.1 hb)).2
   rw [h] at this
   cases this
include hc in
theorem FlowOk.full (h:FlowOk g cs f src dst) (hs:0≤src∧src<g.1) (hd:0≤dst∧dst<g.1) (hno:rdI (levelsOf g cs f src) dst<0) :
  cutMay g src dst (reachL (levelsOf g cs f src))=true∧worthL (reachL (levelsOf g cs f src)) g.2 cs=gainV g.2 f src:=by
 have hg:=caps_graph hc
 have hp:=graphMay_parts hg
 have hL:=levels_ok (cs:=cs) (f:=f) hg hs
 have hol:=hL.lv.len
 have hl:=withinF_len h.within
 have hcl:=capsMay_len hc
 generalize levelsOf g cs f src=o at hL hol hno
 have am:∀ v,0≤v∧v<g.1→amongB (reachL o) v=decide (rdI o v ≥ 0):=fun v hv=>reach_among (by omega)
 have h1:amongB (reachL o) src=true:=by rw [am src hs,hL.src0];rfl
 have h2:amongB (reachL o) dst=false:=by rw [am dst hd];exact dF (by omega)
 have hr:risingB g.1 none (reachL o)=true:=by
  have:=upto_rising o.length (fun v=>decide (rdI o v ≥ 0)) o.length 0 none (by omega) (fun q hq=>by cases hq)
  rw [List.drop_zero,show (o.length:Int)=g.1 by omega] at this
  exact this
 refine ⟨?_,?_⟩
 ·unfold cutMay
  rw [hr,hg,h1,h2,show hasV g.1 dst=true from dT hd]
  rfl
 ·rw [h.cut hc hs h1 h2]
  refine (cross_eq _ (by omega) hcl fun i l x c hlk hx hcx=>?_).symm
  have hi:=idx_lt hlk
  obtain ⟨l1,l2,_⟩:=link_at hg hlk
  have hw:=withinF_get h.within hx hcx
  rw [am _ l1,am _ l2]
  have elk:lk g.2 (i:Int)=l:=lk_nat hlk
  constructor
  ·intro a1 a2
   have a1:=oD a1
   have a2:=of_decide_eq_false a2
   have hb:backB (2*(i:Int))=false:=by unfold backB;simp
   have hL':arcL (2*(i:Int))=(i:Int):=by unfold arcL;omega
   have ef:arcFrom g.2 (2*(i:Int))=l.1:=by unfold arcFrom;rw [hb,hL',cF,elk]
   have et:arcTo g.2 (2*(i:Int))=l.2.1:=by unfold arcTo;rw [hb,hL',cF,elk]
   have er:roomA cs f (2*(i:Int))=c - x:=by unfold roomA;rw [hb,hL',cF,rdI_some hcx,rdI_some hx]
   by_cases hroom:c - x>0
   ·have:=hL.on l.1 l1 (by omega) (2*(i:Int)) (rowA_mem.2 ⟨dT (by omega),ef⟩) (by rw [er];exact hroom)
    rw [et] at this
    omega
   ·omega
  ·intro a1 a2
   have a1:=of_decide_eq_false a1
   have a2:=oD a2
   have hb:backB (2*(i:Int)+1)=true:=by unfold backB;simp
   have hL':arcL (2*(i:Int)+1)=(i:Int):=by unfold arcL;omega
   have ef:arcFrom g.2 (2*(i:Int)+1)=l.2.1:=by unfold arcFrom;rw [hb,hL',cT,elk]
   have et:arcTo g.2 (2*(i:Int)+1)=l.1:=by unfold arcTo;rw [hb,hL',cT,elk]
   have er:roomA cs f (2*(i:Int)+1)=x:=by unfold roomA;rw [hb,hL',cT,rdI_some hx]
   by_cases hroom:x>0
   ·have:=hL.on l.2.1 l2 (by omega) (2*(i:Int)+1) (rowA_mem.2 ⟨dT (by omega),ef⟩) (by rw [er];exact hroom)
    rw [et] at this
    omega
   ·omega
theorem pathB_form {ls:List Int} (h:pathB g src dst ls=true):decide (ls.length≤64)=true∧ls.all (lkIn g.2)=true:=by
 unfold pathB at h
 rw [bA] at h
 obtain ⟨us,h1,_⟩:=walkOf_ok (eq_of_beq h.1)
 obtain ⟨_,_,h2,h3⟩:=walkForm_all h1
 exact ⟨dT h2,h3⟩
include hc in
theorem SplitOk.fits (h:FlowOk g cs f src dst) {ps:List Pt} (hp:SplitOk g f src dst ps) {want:Int} (hv:gainV g.2 f src=want) (hw:0<want∧want≤maxRate):mayB g src dst want ps=true∧fitsOf g cs ps=(true,0):=by
 have hg:=caps_graph hc
 have hl:=withinF_len h.within
 have hcl:=capsMay_len hc
 have hsum:=hp.sum
 have hpos:∀ x∈ratesOf ps,0≤x:=fun x hx=>by
  obtain ⟨p,h1,rfl⟩:=List.mem_map.1 hx
  have:=(hp.all p h1).1
  omega
 have hlen:=hp.len
 constructor
 ·unfold mayB
  rw [hg,dT hw.1,dT hlen,sumUp_eq (ratesOf ps) 0 hpos (by omega) (by omega),List.all_eq_true.2 fun p hm=>by
   obtain ⟨h1,h2⟩:=hp.all p hm
   rw [dT h1,h2]
   rfl]
  rw [some_beq,show (0+(ratesOf ps).sum==want)=true by simp;omega]
  rfl
 ·obtain ⟨o,o1,o2,o3⟩:=hp.loads
  have hform:bForm g ps=true:=by
   unfold bForm
   rw [hg,dT hlen,List.all_eq_true.2 fun p hm=>by
    obtain ⟨h1,h2⟩:=hp.all p hm
    obtain ⟨h3,h4⟩:=pathB_form h2
    unfold ptOk
    have h5:=mem_le_sum hpos (List.mem_map_of_mem (f:=fun p:Pt=>p.1) hm)
    rw [h3,h4,show rateB p.1=true from dT (by
     have e:(List.map (fun p:Pt=>p.1) ps).sum=(ratesOf ps).sum:=rfl
     omega)]
    rfl]
   rfl
  have hlo:loadsOf g ps=(o,0):=by
   unfold loadsOf
   rw [hform,cT,o1]
  unfold fitsOf
  rw [hc,cT,hlo,show ((0:Int) != 0)=false by rfl,cF]
  rw [show (o.zip cs).any overB=false from List.any_eq_false.2 fun x hx=>by
   obtain ⟨i,hi⟩:=List.mem_iff_getElem?.1 hx
   obtain ⟨h1,h2⟩:=List.getElem?_zip_eq_some.1 hi
   have hi':=idx_lt h2
   have a1:=o3 (i:Int) (by omega)
   have a2:=within_at h.within (i:=(i:Int)) (by omega)
   rw [rdI_some h1] at a1
   rw [rdI_some h2] at a2
   unfold overB
   rw [dF (by omega:¬ x.1>x.2)]
   simp]
  rfl
end
def routeForm (g:Gr) (cs:List Int) (src dst want:Int):Bool:=capsMay g cs&&(hasV g.1 src&&(hasV g.1 dst&&(!(src==dst)&&(!(want==0)&&rateB want))))
structure RouteOk (g:Gr) (cs:List Int) (src dst want:Int) (ps:List Pt) (vs:List Int):Prop where
 either:(vs=[]∧mayB g src dst want ps=true∧fitsOf g cs ps=(true,0)∧∀ us,amongB us src=true→amongB us dst=false→want≤worthL us g.2 cs) ∨
  (ps=[]∧cutMay g src dst vs=true∧worthL vs g.2 cs<want)
def routeQ (d:Gr×(List Int×(Int×(Int×Int)))) (x:List Pt×(List Int×Int)):Prop :=
 bif routeForm d.1 d.2.1 d.2.2.1 d.2.2.2.1 d.2.2.2.2 then x.2.2=0∧RouteOk d.1 d.2.1 d.2.2.1 d.2.2.2.1 d.2.2.2.2 x.1 x.2.1 else x=([],([],1600))
@[reducible] def resRt (x:List Pt×(List Int×Int)):V:=.tup [.own tP x.1,.own tI x.2.1,.int .i64 x.2.2]
def routeP (d:Gr×(List Int×(Int×(Int×Int)))) (x:List Pt×(List Int×Int)):Prop :=
 routeQ d x∧∃ k,evFn (f63.E k) 9 63 Tryz.f63 (encL [tG,tL,tI,tI,tI] d)=some (resRt x)
noncomputable def routeC (d:Gr×(List Int×(Int×(Int×Int)))):Option (List Pt×(List Int×Int)):=relC routeP d
theorem f63_is (d:Gr×(List Int×(Int×(Int×Int)))):∃ x,routeP d x:=by
 obtain ⟨g,cs,src,dst,want⟩:=d
 cases hf:routeForm g cs src dst want with
 |false =>
  refine ⟨([],([],1600)),?_,1,(f63.eq _ g cs src dst want).trans ?_⟩
  ·unfold routeQ
   dsimp only
   rw [hf,cF]
  ·unfold routeForm at hf
   revert hf
   cases capsMay g cs <;> cases hasV g.1 src <;> cases hasV g.1 dst <;> cases src==dst <;> cases want==0 <;> cases rateB want <;> intro hf <;> simp only [nT,nF,cT,cF] <;> cases hf
 |true =>
  have hf':=hf
  unfold routeForm at hf'
  simp only [bA,Bool.not_eq_true'] at hf'
  obtain ⟨hc,hs,hd,hne,hw0,hm⟩:=hf'
  have hm':0≤want∧want≤maxRate:=oD hm
  have hs':0≤src∧src<g.1:=oD hs
  have hd':0≤dst∧dst<g.1:=oD hd
  have hw0':=ne_of_beq_false hw0
  have hne':=ne_of_beq_false hne
  have hg:=caps_graph hc
  obtain ⟨y,y1,y2⟩:=pushC_is (g:=g) (cs:=cs) (src:=src) (dst:=dst) (want:=want)
  unfold pushQ at y2
  dsimp only at y2
  rw [show pushForm g cs src dst want=true by unfold pushForm;rw [hc,hs,hd,hne,hm];rfl,cT] at y2
  obtain ⟨y2,y3⟩:=y2
  have hle:=y3.le
  have ev:∀ {r:V},(bif decide (y.2.1<want) then ((chk (graphMay g) (some (reachRes g cs y.1 src))).bind (fun y1=>some (.tup [(.own (.pair (.int .i64) (.list (.int .i64))) ([])),(.own (.int .i64) (y1.fst)),(.int .i64 ((0:Int)))]))) else ((splitC ((g,y.fst,src,dst))).bind (fun y1=>some (.tup [(.own (.pair (.int .i64) (.list (.int .i64))) (y1.fst)),(.own (.int .i64) ([])),(.int .i64 ((0:Int)))]))))=some r→evFn (f63.E 1) 9 63 Tryz.f63 (encL [tG,tL,tI,tI,tI] ((g,(cs,(src,(dst,want)))):Gr×(List Int×(Int×(Int×Int)))))=some r:=fun h=>(f63.eq _ g cs src dst want).trans (by
   rw [hc,hs,hd,hne,hw0,hm,nT,cF,cF,cF,cF,cF,cF,y1,bS,y2,show ((0:Int) != 0)=false by rfl,cF]
   exact h)
  by_cases hlt:y.2.1<want
  ·have hno:=y3.less hlt
   obtain ⟨z1,z2⟩:=y3.flow.full hc hs' hd' hno
   have hL:levelsRes g cs y.1 src=(levelsOf g cs y.1 src,0):=by
    unfold levelsRes liesB
    rw [hc,y3.flow.within,hs]
    rfl
   refine ⟨([],(reachL (levelsOf g cs y.1 src),0)),?_,1,ev ?_⟩
   ·unfold routeQ
    dsimp only
    rw [hf,cT]
    exact ⟨rfl,⟨.inr ⟨rfl,z1,by rw [z2,y3.gain];exact hlt⟩⟩⟩
   ·rw [dT hlt,cT,hg,kT,bS]
    unfold reachRes
    rw [hL,show ((0:Int) != 0)=false by rfl,cF]
  ·have hv:gainV g.2 y.1 src=want:=by rw [y3.gain];omega
   obtain ⟨ps,p1,p2⟩:=splitC_is hc y3.flow hs hd hne'
   obtain ⟨q1,q2⟩:=p2.fits hc y3.flow hv (by omega)
   refine ⟨(ps,([],0)),?_,1,ev ?_⟩
   ·unfold routeQ
    dsimp only
    rw [hf,cT]
    refine ⟨rfl,⟨.inl ⟨rfl,q1,q2,fun us h1 h2=>?_⟩⟩⟩
    rw [← hv]
    exact y3.flow.least hc hs' h1 h2
   ·rw [dF hlt,cF,p1,bS]
theorem routeC_is (d:Gr×(List Int×(Int×(Int×Int)))):∃ x,routeC d=some x∧routeQ d x:=by
 obtain ⟨y,e1,e2⟩:=relC_is (f63_is d)
 exact ⟨y,e1,e2.1⟩
noncomputable def S63:Summ:=summ [tG,tL,tI,tI,tI] (List Pt×(List Int×Int)) routeC resRt
theorem ok63:SumOk Tryz.prog 63 S63 :=
 sumq f63.E (fn:=Tryz.f63) (code:=f63.code) f63.sums f63.inl fun d x hx=>(relC_some (P:=routeP) hx).2
end
section
set_option maxRecDepth 100000
set_option linter.unusedVariables false
end
section
def Pl.zero:Pl:=((0,[]),0,0,0,0,[],[],[])
theorem look_ends {b:Bk} {o:Int} {q:Rq} (h:(lookQ b o q).2=0) (h1:(lookQ b o q).1=0):(q.2.1=2→0≤placeOf b q.2.2.1)∧endsR b q=((wishOf b q).1,(wishOf b q).2.1):=by
 obtain ⟨hb,ho,hq⟩:=look_book h
 have hc:codeOf b o q=0:=by
  unfold lookQ at h1
  rw [hb,hq,dF (by omega:¬ o<0),dF (by omega:¬ o ≥ 4)] at h1
  exact h1
 cases hk:q.2.1==2 with
 |false =>
  refine ⟨fun e=>by rw [e] at hk;exact absurd hk (by decide),?_⟩
  unfold endsR wishOf
  rw [hk]
  rfl
 |true =>
  have e2:q.2.1=2:=by simpa using hk
  unfold codeOf at hc
  rw [hk,show (q.2.1==1)=false by rw [e2];rfl,cond_false,cond_true] at hc
  unfold codeM at hc
  have hown:ownCode b o q.2.2.1=0:=by
   cases hz:ownCode b o q.2.2.1 != 0 with
   |false=>simpa using hz
   |true=>rw [hz,cond_true] at hc;exact hc
  rcases place_spec b q.2.2.1 with ⟨h3,_⟩|⟨j,r,h3,h4,_⟩
  ·unfold ownCode at hown
   rw [h3] at hown
   exact absurd (show (5:Int)=0 from hown) (by decide)
  ·refine ⟨fun _=>by omega,?_⟩
   unfold endsR wishOf getQ
   rw [hk,hb,h3,Int.toNat_natCast,h4,dF (by omega:¬ ((j:Int)<0))]
   rfl
noncomputable def routeV (d:Gr×(List Int×(Int×(Int×Int)))):List Pt×(List Int×Int):=(routeC d).getD ([],[],0)
theorem routeV_is (d:Gr×(List Int×(Int×(Int×Int)))):routeC d=some (routeV d)∧routeQ d (routeV d):=by
 obtain ⟨y,e1,e2⟩:=routeC_is d
 have:routeV d=y:=by unfold routeV;rw [e1];rfl
 rw [this]
 exact ⟨e1,e2⟩
def townB:Bk:=((3,[(0,1,5),(1,2,4),(0,2,3)]),4,0,2,[((10,20),1,1,0,2,5,[((10,20),[(3,[2]),(2,[0,1])])])])
@[reducible] def bookV (b:Bk):V:=.agg [.int .i64 b.1.1,.own tLk b.1.2,.int .i64 b.2.1,.int .i64 b.2.2.1,.int .i64 b.2.2.2.1,.own tRs b.2.2.2.2]
noncomputable def S31:Summ:=summ [] Bk (fun _=>some townB) bookV
def askB (r f t:Int):Rq:=((f,t),1,0,0,2,r)
noncomputable def S32:Summ:=summ [tI,tI,tI] Rq (fun (d:Int×(Int×Int))=>some (askB d.1 d.2.1 d.2.2)) (fun x=>encV tRq x)
end
section
def bookMem (b:Bk):Bool:=decide (b.1.2.length*24≤140737488355328)&&(decide (b.2.2.2.2.length*80≤140737488355328)&&b.2.2.2.2.all fun r=>pcsMem r.pcs)
theorem f11.l0_is (k:Nat) (v s n0 x z:Int) (gl:List Lk) (rs:List Rs) (hl:rs.length*80≤140737488355328) (hall:(rs.all fun r=>pcsMem r.pcs)=true):∀ (n i:Nat),i≤rs.length→rs.length<n+i→f11.l0 k n i v s n0 x rs z (rs.take i) gl=some (bookV ((v,gl),s,n0,x,rs))
 |0,i,h,h'=>by omega
 |n+1,i,h,h'=>by
  by_cases hlt:i<rs.length
  ·have hx:=gE hlt
   have hb:=List.all_eq_true.1 hall _ (List.getElem_mem hlt)
   have e:rs.take i++[rs[i]]=rs.take (i+1):=by rw [List.take_succ_eq_append_getElem hlt]
   have hc:decide ((rs.take (i+1)).length*80≤140737488355328)=true:=by
    rw [List.length_take]
    exact dT (by omega)
   rw [f11.l0_eq,idx_lt' hx,cT,wrap_succ (by omega),rd_some (t:=tRs) hx,idx_in hx,kT,hb,kT,bS,e,hc,kT]
   exact f11.l0_is k v s n0 x z gl rs hl hall n (i+1) (by omega) (by omega)
  ·obtain rfl:i=rs.length:=by omega
   rw [f11.l0_eq,end_lt,cF,List.take_length]
noncomputable def S11:Summ:=summ [tBk] Bk (fun (b:Bk)=>chk (bookMem b) (some b)) bookV
theorem ok11:SumOk Tryz.prog 11 S11 :=
 sumq f11.E (fn:=Tryz.f11) (code:=f11.code) f11.sums f11.inl fun (b:Bk) x hx=>by
  obtain ⟨hs,hx⟩:=chk_some hx
  obtain rfl:=oJ hx
  have hs:bookMem b=true:=hs
  unfold bookMem at hs
  simp only [bA,dE] at hs
  obtain ⟨h1,h2,h3⟩:=hs
  refine ⟨b.2.2.2.2.length+1,(f11.eq _ b).trans ?_⟩
  rw [dT h1,kT,bS]
  exact f11.l0_is _ b.1.1 b.2.1 b.2.2.1 b.2.2.2.1 0 b.1.2 b.2.2.2.2 h2 h3 _ 0 (by omega) (by omega)
end
section
open Go
def ro1:V→V
 |.own t l=>.ro t l
 |v=>v
def ro2:V→V
 |.agg cs=>.agg (cs.map ro1)
 |v=>ro1 v
def roV:V→V
 |.tup vs=>.tup (vs.map ro2)
 |v=>ro2 v
def sol1:V→Bool
 |.int _ _|.bool _|.str _|.own _ _=>true
 |_=>false
def sol2:V→Bool
 |.agg cs=>cs.all sol1
 |v=>sol1 v
def solV:V→Bool
 |.tup vs=>vs.all sol2
 |v=>sol2 v
section
variable {B:Ty×Nat→Prop} {w w':World} {Ls:List (Option Loc)}
def RowsAt (B:Ty×Nat→Prop) (w w':World) (Ls:List (Option Loc)) (M:List (Nat×Entry)) (k:Nat) (es:List Entry):Prop :=
 ∀ (j:Nat) E,es[j]? = some E→look M (k+j)=some E∧EntOk ⟨M,numβ 0 Ls,RetF B w w' Ls,w'⟩ (k+j) E
theorem RowsAt.tail {M:List (Nat×Entry)} {k:Nat} {E:Entry} {es:List Entry} (h:RowsAt B w w' Ls M k (E::es)):RowsAt B w w' Ls M (k+1) es:=fun j E' hE=>by
 have:=h (j+1) E' (by simpa using hE)
 rwa [show k+(j+1)=k+1+j by omega] at this
theorem ro_cell (hf:∀ (k:Nat) L,Ls[k]? = some (some L)→w.heap.size≤L.g∧L.g<w'.heap.size) {M:List (Nat×Entry)} {k:Nat} {t:Ty} {l:List t.den} {x:Value}
  (hl:look M k=some (.row t l)) (he:EntOk ⟨M,numβ 0 Ls,RetF B w w' Ls,w'⟩ k (.row t l)) (hv:V0 ⟨M,numβ 0 Ls,RetF B w w' Ls,w'⟩ (.slw k) x):DRel (RetF B w w' []) w' (.list t) l [x]:=by
 rcases hv with ⟨t',l',hl',hs⟩|⟨E,n,hl',hw,hs⟩
 ·have hl':look M k=some (.row t' l'):=hl'
  rw [hl] at hl'
  injection hl' with hl'
  injection hl' with h1 h2
  subst h1
  have h2:=eq_of_heq h2
  subst h2
  have:=own_reads (S:=⟨M,numβ 0 Ls,RetF B w w' Ls,w'⟩) (B':=RetF B w w' []) (w':=w') he (by omega:0+l.length≤l.length) hs (fun g hg=>⟨hg.1,hg.2.1,fun k L hk=>by simp at hk⟩) (fun L hL=>by
   have hL:numβ 0 Ls k=some L:=hL
   unfold numβ at hL
   rw [if_pos (Nat.zero_le _),Nat.sub_zero] at hL
   have hk:Ls[k]? = some (some L):=by
    cases h:Ls[k]? with
    |none=>rw [h] at hL;cases hL
    |some o=>rw [h] at hL;cases o with
     |none=>cases hL
     |some L'=>rw [show L'=L from oJ hL]
   obtain ⟨h1,h2⟩:=hf k L hk
   refine ⟨h2,.inr ⟨h1,fun hz=>?_⟩,fun k L hk=>by simp at hk⟩
   rcases he with ⟨_,h3⟩|⟨L',cs,el,h3,h4,_⟩
   ·have h3:numβ 0 Ls k=none:=h3
    unfold numβ at h3
    rw [if_pos (Nat.zero_le _),Nat.sub_zero,hk] at h3
    cases h3
   ·have h3:numβ 0 Ls k=some L':=h3
    unfold numβ at h3
    rw [if_pos (Nat.zero_le _),Nat.sub_zero,hk] at h3
    obtain rfl:=oJ h3
    exact hz.not h4) (fun _ _=>rfl)
  simpa using this
 ·have hl':look M k=some E:=hl'
  rw [hl] at hl'
  obtain rfl:=oJ hl'
  cases hw
theorem ro_list (hf:∀ (k:Nat) L,Ls[k]? = some (some L)→w.heap.size≤L.g∧L.g<w'.heap.size) {M:List (Nat×Entry)}:∀ (cs:List V) (k:Nat) {ys:List Value},cs.all sol1=true→RowsAt B w w' Ls M k (owns cs) →
  All2 (V1 ⟨M,numβ 0 Ls,RetF B w w' Ls,w'⟩) (relabL k cs) ys→All2 (V1 ⟨[],numβ 0 [],RetF B w w' [],w'⟩) (cs.map ro1) ys
 | [],k,ys,_,_,h=>by cases ys <;> exact h
 |c::cs,k,[],_,_,h=>h.elim
 |c::cs,k,y::ys,hs,hr,h=>by
  simp only [List.all_cons,bA] at hs
  obtain ⟨h1,h2⟩:=h
  cases c <;> simp only [sol1,Bool.false_eq_true,false_and] at hs
  case int n m=>exact ⟨h1,ro_list hf cs k hs.2 hr h2⟩
  case bool b=>exact ⟨h1,ro_list hf cs k hs.2 hr h2⟩
  case str b=>exact ⟨h1,ro_list hf cs k hs.2 hr h2⟩
  case own t l =>
   obtain ⟨g1,g2⟩:=hr 0 (.row t l) rfl
   exact ⟨ro_cell hf g1 g2 h1,ro_list hf cs (k+1) hs.2 hr.tail h2⟩
theorem ro2_ok (hf:∀ (k:Nat) L,Ls[k]? = some (some L)→w.heap.size≤L.g∧L.g<w'.heap.size) {M:List (Nat×Entry)} {c:V} {k:Nat} {y:Value} (hs:sol2 c=true) (hr:RowsAt B w w' Ls M k (owns c.cells))
  (h:V2 ⟨M,numβ 0 Ls,RetF B w w' Ls,w'⟩ (relab2 k c) y):V2 ⟨[],numβ 0 [],RetF B w w' [],w'⟩ (ro2 c) y:=by
 cases c <;> simp only [sol2,sol1,Bool.false_eq_true] at hs
 case int n m=>exact h
 case bool b=>exact h
 case str b=>exact h
 case own t l =>
  obtain ⟨g1,g2⟩:=hr 0 (.row t l) rfl
  exact V2.of1 (ro_cell hf g1 g2 (show V0 _ (.slw k) y from h))
 case agg cs =>
  obtain ⟨ys,rfl,h2⟩:=h
  exact ⟨ys,rfl,ro_list hf cs k hs hr h2⟩
theorem ro_listT (hf:∀ (k:Nat) L,Ls[k]? = some (some L)→w.heap.size≤L.g∧L.g<w'.heap.size) {M:List (Nat×Entry)}:∀ (cs:List V) (k:Nat) {ys:List Value},cs.all sol2=true→RowsAt B w w' Ls M k (owns (cs.flatMap V.cells)) →
  All2 (V2 ⟨M,numβ 0 Ls,RetF B w w' Ls,w'⟩) (relabT k cs) ys→All2 (V2 ⟨[],numβ 0 [],RetF B w w' [],w'⟩) (cs.map ro2) ys
 | [],k,ys,_,_,h=>by cases ys <;> exact h
 |c::cs,k,[],_,_,h=>h.elim
 |c::cs,k,y::ys,hs,hr,h=>by
  simp only [List.all_cons,bA] at hs
  obtain ⟨h1,h2⟩:=h
  rw [List.flatMap_cons,owns_append] at hr
  refine ⟨ro2_ok hf hs.1 (fun j E hE=>hr j E (by rw [List.getElem?_append_left (List.getElem?_eq_some_iff.1 hE).1];exact hE)) h1,ro_listT hf cs _ hs.2 (fun j E hE=>?_) h2⟩
  have:=hr ((owns c.cells).length+j) E (by rw [List.getElem?_append_right (by omega)];simpa using hE)
  rw [owns_cntL] at this
  rwa [show k+cntL c.cells+j=k+(cntL c.cells+j) by omega]
theorem owns_ro1:∀ (cs:List V),cs.all sol1=true→owns (cs.map ro1)=[]
 | [],_=>rfl
 |c::cs,h=>by
  simp only [List.all_cons,bA] at h
  cases c <;> simp only [sol1,Bool.false_eq_true,false_and] at h <;> exact owns_ro1 cs h.2
theorem relabL_ro1:∀ (cs:List V) (k:Nat),cs.all sol1=true→relabL k (cs.map ro1)=cs.map ro1
 | [],_,_=>rfl
 |c::cs,k,h=>by
  simp only [List.all_cons,bA] at h
  cases c <;> simp only [sol1,Bool.false_eq_true,false_and] at h <;> simp only [List.map_cons,ro1,relabL,relab1,cnt1,relabL_ro1 cs _ h.2]
theorem owns_ro2 {c:V} (h:sol2 c=true):owns (ro2 c).cells=[]:=by
 cases c <;> simp only [sol2,sol1,Bool.false_eq_true] at h <;> first|rfl|exact owns_ro1 _ h
theorem relab2_ro2 {c:V} (k:Nat) (h:sol2 c=true):relab2 k (ro2 c)=ro2 c:=by
 cases c <;> simp only [sol2,sol1,Bool.false_eq_true] at h <;> first|rfl|(simp only [ro2,relab2,relabL_ro1 _ _ h])
theorem owns_roT:∀ (cs:List V),cs.all sol2=true→owns ((cs.map ro2).flatMap V.cells)=[]
 | [],_=>rfl
 |c::cs,h=>by
  simp only [List.all_cons,bA] at h
  rw [List.map_cons,List.flatMap_cons,owns_append,owns_ro2 h.1,owns_roT cs h.2]
  rfl
theorem relabT_ro2:∀ (cs:List V) (k:Nat),cs.all sol2=true→relabT k (cs.map ro2)=cs.map ro2
 | [],_,_=>rfl
 |c::cs,k,h=>by
  simp only [List.all_cons,bA] at h
  rw [List.map_cons,relabT,relab2_ro2 k h.1,relabT_ro2 cs _ h.2]
theorem owns_roV {r:V} (h:solV r=true):owns (roV r).flat=[]:=by
 cases r <;> simp only [solV,sol2,sol1,Bool.false_eq_true] at h <;> first|rfl|exact owns_roT _ h|exact owns_ro1 _ h
theorem relab_roV {r:V} (k:Nat) (h:solV r=true):relab k (roV r)=roV r:=by
 cases r <;> simp only [solV,sol2,sol1,Bool.false_eq_true] at h <;> first
  |rfl
  |(simp only [roV,relab,relabT_ro2 _ _ h];done)
  |(simp only [roV,ro2,relab,relab2,relabL_ro1 _ _ h];done)
theorem Ret.ro {r:V} {y:Value} (hs:solV r=true) (h:Ret B w w' r y):Ret B w w' (roV r) y:=by
 obtain ⟨hg,Ls,h⟩:=h
 refine ⟨hg,[],?_⟩
 have hf:∀ (k:Nat) L,Ls[k]? = some (some L)→w.heap.size≤L.g∧L.g<w'.heap.size:=fun k L hk=>⟨h.fresh k L hk,(h.noi k L hk).2⟩
 have hrows:RowsAt B w w' Ls (addE 0 (owns r.flat) []) 0 (owns r.flat):=by
  intro j E hE
  have hlt:=(List.getElem?_eq_some_iff.1 hE).1
  refine ⟨by rw [look_addE,if_pos (by omega),Nat.zero_add,Nat.sub_zero];exact hE,?_⟩
  obtain ⟨t,l,rfl⟩:=owns_row _ _ hE
  have he:=h.ent j _ hE
  have hb:numβ 0 Ls (0+j)=(Ls[j]?).join:=by unfold numβ;rw [if_pos (by omega),Nat.zero_add,Nat.sub_zero]
  rcases he with ⟨h1,h2⟩|⟨L,cs,el,h1,h2⟩
  ·exact .inl ⟨h1,hb.trans h2⟩
  ·exact .inr ⟨L,cs,el,hb.trans h1,h2⟩
 have hv:=h.val 0
 have key:V3 ⟨[],numβ 0 [],RetF B w w' [],w'⟩ (roV r) y:=by
  cases r <;> simp only [solV,Bool.false_eq_true] at hs
  case tup cs =>
   obtain ⟨ys,rfl,h2⟩:=hv
   exact ⟨ys,rfl,ro_listT hf cs 0 hs hrows h2⟩
  all_goals
   have hrows':=hrows
   exact V3.of2 (ro2_ok hf hs hrows (by
    rcases V3.cases hv with ⟨vs,e,_⟩|⟨_,h2⟩
    ·exact absurd e (by simp [relab,relab2,relab1])
    ·exact h2))
 refine ⟨by rw [owns_roV hs];rfl,fun nm=>?_,fun k E hE=>by rw [owns_roV hs] at hE;simp at hE,fun k k' L L' hk=>by simp at hk,fun k L hk=>by simp at hk,fun k L hk=>by simp at hk⟩
 rw [relab_roV nm hs,owns_roV hs,show numβ nm ([]:List (Option Loc))=numβ 0 [] by
  funext e
  unfold numβ
  by_cases h1:nm≤e
  ·rw [if_pos h1,if_pos (Nat.zero_le _)];rfl
  ·rw [if_neg h1,if_pos (Nat.zero_le _)];rfl]
 exact key
end
def Summ.ro (s:Summ):Summ:={ s with res:=fun x=>roV (s.res x) }
theorem SumOk.ro {P:Program} {g:FuncId} {s:Summ} (hs:∀ x,solV (s.res x)=true) (h:SumOk P g s):SumOk P g s.ro:=by
 refine ⟨h.1,fun B w vs xs x hB hv hx=>(h.2.1 B w vs xs x hB hv hx).mono fun e w'=>?_,h.2.2⟩
 rintro ⟨y,e1,e2⟩
 exact ⟨y,e1,e2.ro (hs x)⟩
end
section
@[reducible] def bookR (b:Bk):V:=.agg [.int .i64 b.1.1,.ro tLk b.1.2,.int .i64 b.2.1,.int .i64 b.2.2.1,.int .i64 b.2.2.2.1,.ro tRs b.2.2.2.2]
end
section
set_option maxRecDepth 100000
set_option linter.unusedVariables false
end
section
set_option maxRecDepth 100000
set_option linter.unusedVariables false
end
section

end
section
set_option maxRecDepth 100000
set_option linter.unusedVariables false
end
section
def smallG:Gr:=((3:Int),[((0:Int),(1:Int),(5:Int)),((1:Int),(2:Int),(4:Int)),((0:Int),(2:Int),(3:Int))])
theorem small_worth {vs:List Int} (h0:amongB vs 0=true) (h2:amongB vs 2=false):worthL vs smallG.2 [5,4,3]=bif amongB vs 1 then 7 else 8:=by
 unfold smallG
 simp only [worthL,leavesB,h0,h2]
 cases amongB vs 1 <;> rfl
theorem cutMay_parts {g:Gr} {src dst:Int} {vs:List Int} (h:cutMay g src dst vs=true):risingB g.1 none vs=true∧amongB vs src=true∧amongB vs dst=false:=by
 unfold cutMay at h
 simp only [bA,Bool.not_eq_true'] at h
 exact ⟨h.1.1,h.2.2.1,h.2.2.2⟩
end
section
theorem town_may:bookMayB townB=true:=by kernel_rfl
theorem town_small:pcsSmall townB=true:=by kernel_rfl
theorem town_worth {vs:List Int} (h0:amongB vs 0=true) (h2:amongB vs 2=false):worthL vs townB.1.2 [3,2,0]=bif amongB vs 1 then 2 else 3:=by
 unfold townB
 simp only [worthL,leavesB,h0,h2]
 cases amongB vs 1 <;> rfl
theorem town_spans (f t:Int) (m:Nat) (hs:spanMay (f,t)=true) (hm:(t - f).toNat≤m) (h:f<t):spansB townB (f,t) 0=cutR [10,20] t m f:=by
 unfold spansB cutsOf
 rw [hs,cond_true]
 exact (cutR_eq [10,20] t _ m f h hm (cutPts_spec (f,t) [10,20]).1 (cutPts_spec (f,t) [10,20]).2).symm
def segs1:List Sg:=[((5,10),[5,4,3]),((10,15),[3,2,0])]
theorem town_slices1:slicesQ townB (5,15) 0=(segs1,0):=by
 unfold slicesQ slicesB
 rw [town_may,town_spans 5 15 10 rfl (by decide) (by decide)]
 kernel_rfl
theorem town_look (r f t:Int) (ss:List Sg) (h:slicesQ townB (f,t) 0=(ss,0)) (hl:ss.length≤4) (hq:reqMay (askB r f t)=true) (ht:inTime townB (askB r f t)=true) (hr:(r==0)=false):lookQ townB 1 (askB r f t)=(0,0):=by
 have hf:fewSegs townB (askB r f t)=true:=by
  unfold fewSegs
  rw [show slicesQ townB (askB r f t).1 (askB r f t).id=(ss,0) from h]
  exact dT (by show (ss.length:Int)≤4;omega)
 unfold lookQ
 rw [town_may,hq]
 show (codeR townB (askB r f t),(0:Int))=(0,0)
 unfold codeR
 rw [ht,hf,show ((askB r f t).2.2.2.2.2==0)=false from hr]
 rfl
end
section
theorem may_piece {g:Gr} {src dst want:Int} {ps:List Pt} (s:Int×Int) (h:mayB g src dst want ps=true):cpPiece (s,ps)=true:=by
 obtain ⟨h1,h2⟩:=goodPt_of h
 unfold cpPiece
 rw [dT (show ((s,ps):Pc).2.length*32≤140737488355328 by show ps.length*32≤_;omega),tA]
 refine List.all_eq_true.2 fun w hw=>?_
 have h3:=List.all_eq_true.1 h2 w hw
 unfold goodPt at h3
 simp only [bA,dE] at h3
 unfold cpPath
 exact dT (by omega)
end
section
set_option maxRecDepth 100000
noncomputable def f95.E (k:Nat):Env:=mkEnv tt [(156,S156),(157,S157)] [] [(95,3,[.nil1 3 5 786757 qR,.kill (rg [(0,1),(4,16),(20,31)]),.tidy]),(95,5,[.drop 63])] [] k
noncomputable def f95.code:Go.Code:=cd Tryz.f95
noncomputable def f95.l0 (k n:Nat) (p0:List (eR)) (p1:Int) (p2:Int) (p3:Int) (p4:Int) (p5:Int) (p6:Int) (p7:Int) (p8:List (eL)) (p9:List (eR)):Option V :=
 atPath (f95.E k) n ⟨(.u::.u::(.ptr 524304 (0) (0))::(.ptr 786448 (0) (0))::.u::.u::.u::.u::.u::.u::.u::.u::.u::.u::.u::.u::.u::(.ro qR p0)::(.int .i64 p1)::(.int .i64 p2)::un 12),[],[(524304,.box [(.int .i64 p3),.nil,(.int .i64 p3),(.int .i64 p3),(.int .i64 p3),.nil]),(786448,.box [(.int .i64 p4),(.slw 206162624624),(.int .i64 p5),(.int .i64 p6),(.int .i64 p7),(.slw 206162624880)]),(206162624624,.row qL p8),(206162624880,.row qR p9)]⟩ 9 0 95 [.c 1,.c 1,.c 0,.c 1,.c 0] [] f95.code (finK tt Tryz.f95)
theorem f95.l0_eq (k n:Nat) (p0:List (eR)) (p1:Int) (p2:Int) (p3:Int) (p4:Int) (p5:Int) (p6:Int) (p7:Int) (p8:List (eL)) (p9:List (eR)):f95.l0 k (n+1) p0 p1 p2 p3 p4 p5 p6 p7 p8 p9 =
 bif decide (p2<p1) then (chk (decide ((0:Int)≤p2∧p2<(↑p0.length:Int))) (both ((chk (pcsMem (Rs.pcs (rd qR p0 p2))) (some (rd qR p0 p2))).bind (fun y0=>chk (decide ((p9++[y0]).length*80≤140737488355328)) (f95.l0 k n p0 p1 (Go.IntKind.i64.wrap (p2+(1:Int))) p3 p4 p5 p6 p7 p8 (p9++[y0])))) (both ((chk (pcsMem (Rs.pcs (rd qR p0 p2))) (some (rd qR p0 p2))).bind (fun y0=>chk (decide ((p9++[y0]).length*80≤140737488355328)) (f95.l0 k n p0 p1 (Go.IntKind.i64.wrap (p2+(1:Int))) p3 p4 p5 p6 p7 p8 (p9++[y0])))) ((chk (pcsMem (Rs.pcs (rd qR p0 p2))) (some (rd qR p0 p2))).bind (fun y0=>both (chk (decide ((p9++[y0]).length*80≤140737488355328)) (f95.l0 k n p0 p1 (Go.IntKind.i64.wrap (p2+(1:Int))) p3 p4 p5 p6 p7 p8 (p9++[y0]))) (chk (decide ((p9++[y0]).length*80≤140737488355328)) (f95.l0 k n p0 p1 (Go.IntKind.i64.wrap (p2+(1:Int))) p3 p4 p5 p6 p7 p8 (p9++[y0])))))))) else (some (.agg [(.int .i64 p4),(.own qL p8),(.int .i64 p5),(.int .i64 p6),(.int .i64 p7),(.own qR p9)])):=by kernel_rfl
theorem f95.eq (k:Nat) (x0:(Int×List (eL)) ×
 Int×Int×Int×List (eR)):evFn (f95.E k) 9 95 Tryz.f95 (encL [(.pair (.pair qI (.list qL)) (.pair qI (.pair qI (.pair qI (.list qR)))))] x0) =
 (chk (decide (x0.1.2.length*24≤140737488355328)) (some x0.1)).bind (fun y0=>f95.l0 k k x0.2.2.2.2 ((↑(x0.2.2.2.2.length):Int)) 0 0 y0.1 x0.2.1 x0.2.2.1 x0.2.2.2.1 y0.2 ([])):=by kernel_rfl
theorem f95.inl (k:Nat):InlOk Tryz.prog (f95.E k):=inl_nil
theorem f95.sums (k:Nat):SumsOk Tryz.prog (f95.E k):=(sums_cons ok156 (sums_cons ok157 sums_nil))
noncomputable def f97.E (k:Nat):Env:=mkEnv tt [] [(158,Tryz.f158),(159,Tryz.f159)] [(158,2,[.kill (rg [(2,6),(9,18)]),.tidy])] [(158,512,(rg [(0,7)]))] k
noncomputable def f97.code:Go.Code:=cd Tryz.f97
noncomputable def f97.l0 (k n:Nat) (p0:List (eR)) (p1:Int) (p2:Int) (p3:Int):Option V :=
 atPath (f97.E k) n ⟨((.ro qR p0)::(.fn 159 [(.ptr 192 (0) (0))])::.u::.u::.u::.u::.u::(.int .i64 p1)::(.int .i64 p2)::un 10),[(un 9)],[(192,.box [(.int .i64 p3)])]⟩ 9 0 97 [.c 1,.c 0,.call 3 158,.c 1,.c 0,.c 1,.c 0] [] f97.code (finK tt Tryz.f97)
theorem f97.l0_eq (k n:Nat) (p0:List (eR)) (p1:Int) (p2:Int) (p3:Int):f97.l0 k (n+1) p0 p1 p2 p3 =
 bif decide (p2<p1) then (chk (decide ((0:Int)≤p2∧p2<(↑p0.length:Int))) (bif (rd qR p0 p2).2.1==p3 then (some (.int .i64 p2)) else (f97.l0 k n p0 p1 (Go.IntKind.i64.wrap (p2+(1:Int))) p3))) else (some (.int .i64 ((-1:Int)))):=by kernel_rfl
theorem f97.eq (k:Nat) (x0:(Int×List (eL)) ×
 Int×Int×Int×List (eR)) (x1:Int):evFn (f97.E k) 9 97 Tryz.f97 (encL [(.pair (.pair qI (.list qL)) (.pair qI (.pair qI (.pair qI (.list qR))))),qI] (x0,x1)) =
 f97.l0 k k x0.2.2.2.2 ((↑(x0.2.2.2.2.length):Int)) 0 x1:=by kernel_rfl
theorem f97.inl (k:Nat):InlOk Tryz.prog (f97.E k):=(inl_cons (by kernel_rfl) (by kernel_rfl) (inl_cons (by kernel_rfl) (by kernel_rfl) inl_nil))
theorem f97.sums (k:Nat):SumsOk Tryz.prog (f97.E k):=sums_nil
noncomputable def f91.E (k:Nat):Env:=mkEnv tt [(64,S64)] [(74,Tryz.f74)] [] [] k
noncomputable def f91.code:Go.Code:=cd Tryz.f91
theorem f91.eq (k:Nat):evFn (f91.E k) 9 91 Tryz.f91 [] =
 some (.agg [(.int .i64 3),(.own qL ([((0:Int),(1:Int),(5:Int)),((1:Int),(2:Int),(4:Int)),((0:Int),(2:Int),(3:Int))])),(.int .i64 4),(.int .i64 0),(.int .i64 2),(.own qR ([(((10:Int),(20:Int)),(1:Int),(1:Int),(0:Int),(2:Int),(5:Int),[(((10:Int),(20:Int)),[((3:Int),[(2:Int)]),((2:Int),[(0:Int),(1:Int)])])])]))]):=by kernel_rfl
theorem f91.inl (k:Nat):InlOk Tryz.prog (f91.E k):=(inl_cons (by kernel_rfl) (by kernel_rfl) inl_nil)
theorem f91.sums (k:Nat):SumsOk Tryz.prog (f91.E k):=(sums_cons ok64 sums_nil)
noncomputable def f92.E (k:Nat):Env:=mkEnv tt [] [] [] [] k
noncomputable def f92.code:Go.Code:=cd Tryz.f92
theorem f92.eq (k:Nat) (x0:Int) (x1:Int) (x2:Int):evFn (f92.E k) 9 92 Tryz.f92 (encL [qI,qI,qI] (x0,x1,x2)) =
 some (.agg [(.int .i64 x1),(.int .i64 x2),(.int .i64 1),(.int .i64 0),(.int .i64 0),(.int .i64 2),(.int .i64 x0)]):=by kernel_rfl
theorem f92.inl (k:Nat):InlOk Tryz.prog (f92.E k):=inl_nil
theorem f92.sums (k:Nat):SumsOk Tryz.prog (f92.E k):=sums_nil
noncomputable def f105.E (k:Nat):Env:=mkEnv tt [(34,S34)] [] [] [] k
noncomputable def f105.code:Go.Code:=cd Tryz.f105
theorem f105.eq (k:Nat) (x0:(Int×List (eL)) ×
 Int×Int×Int×List (eR)) (x1:Int) (x2:(Int×Int)×Int×Int×eL):evFn (f105.E k) 9 105 Tryz.f105 (encL [(.pair (.pair qI (.list qL)) (.pair qI (.pair qI (.pair qI (.list qR))))),qI,(.pair qS (.pair qI (.pair qI qL)))] (x0,x1,x2)) =
 (chk (pcsSmall x0) (some (lookQ x0 x1 x2))).bind (fun y0=>bif y0.2==(0:Int) then (some (.bool (y0.1==(0:Int)))) else (some (.bool false))):=by kernel_rfl
theorem f105.inl (k:Nat):InlOk Tryz.prog (f105.E k):=inl_nil
theorem f105.sums (k:Nat):SumsOk Tryz.prog (f105.E k):=(sums_cons ok34 sums_nil)
noncomputable def f98.E (k:Nat):Env:=mkEnv tt [(108,S108)] [] [] [] k
noncomputable def f98.code:Go.Code:=cd Tryz.f98
theorem f98.eq (k:Nat) (x0:eR):evFn (f98.E k) 9 98 Tryz.f98 (encL [qR] x0) =
 (chk (pcsMem x0.2.2.2.2.2.2) (some x0.2.2.2.2.2.2)).bind (fun y0=>some (.agg [(.int .i64 x0.1.1),(.int .i64 x0.1.2),(.int .i64 0),(.own qI ([])),(.int .i64 2),(.int .i64 0),(.int .i64 x0.2.1),(.int .i64 x0.2.2.2.2.2.1),(.int .i64 0),(.own qC y0)])):=by kernel_rfl
theorem f98.inl (k:Nat):InlOk Tryz.prog (f98.E k):=inl_nil
theorem f98.sums (k:Nat):SumsOk Tryz.prog (f98.E k):=(sums_cons ok108 sums_nil)
noncomputable def f155.E (k:Nat):Env:=mkEnv tt [(73,S73),(117,S117)] [] [] [] k
noncomputable def f155.code:Go.Code:=cd Tryz.f155
theorem f155.eq (k:Nat) (x0:(Int×Int)×(eP)×Int×Int×Int×Int×Int×List (eC)) (x1:(Int×Int)×(eP)×Int×Int×Int×Int×Int×List (eC)):evFn (f155.E k) 9 155 Tryz.f155 (encL [(.pair qS (.pair qP (.pair qI (.pair qI (.pair qI (.pair qI (.pair qI (.list qC)))))))),(.pair qS (.pair qP (.pair qI (.pair qI (.pair qI (.pair qI (.pair qI (.list qC))))))))] (x0,x1)) =
 bif x0.1.1==x1.1.1&&(x0.1.2==x1.1.2&&true) then (bif x0.2.1.1==x1.2.1.1 then ((chk (decide (x0.2.1.2.length<4611686018427387904)) (some (sameB x0.2.1.2 x1.2.1.2))).bind (fun y0=>bif y0 then (bif x0.2.2.1==x1.2.2.1 then (bif x0.2.2.2.1==x1.2.2.2.1 then (bif x0.2.2.2.2.1==x1.2.2.2.2.1 then (bif x0.2.2.2.2.2.1==x1.2.2.2.2.2.1 then (bif x0.2.2.2.2.2.2.1==x1.2.2.2.2.2.2.1 then ((chk (smallPcs x0.2.2.2.2.2.2.2) (some (samePcs x0.2.2.2.2.2.2.2 x1.2.2.2.2.2.2.2))).bind (fun y1=>some (.bool y1))) else (some (.bool false))) else (some (.bool false))) else (some (.bool false))) else (some (.bool false))) else (some (.bool false))) else (some (.bool false)))) else (some (.bool false))) else (some (.bool false)):=by kernel_rfl
theorem f155.inl (k:Nat):InlOk Tryz.prog (f155.E k):=inl_nil
theorem f155.sums (k:Nat):SumsOk Tryz.prog (f155.E k):=(sums_cons ok73 (sums_cons ok117 sums_nil))
noncomputable def f102.E (k:Nat):Env:=mkEnv tt [(63,S63)] [] [(102,3,[.kill (rg [(0,1),(4,4),(7,12),(16,53)]),.tidy]),(102,7,[.drop 63])] [] k
noncomputable def f102.code:Go.Code:=cd Tryz.f102
noncomputable def f102.l0 (k n:Nat) (p0:List (eG)) (p1:Int) (p2:Int) (p3:Int) (p4:Int) (p5:Int) (p6:Int) (p7:Int) (p8:Int) (p9:Int) (p10:Int) (p11:List (eL)) (p12:Int) (p13:List (eC)):Option V :=
 atPath (f102.E k) n ⟨(.u::.u::(.ptr 524304 (0) (0))::(.ptr 786448 (0) (0))::.u::(.ptr 1310736 (0) (0))::(.slw 1572880)::.u::.u::.u::.u::.u::.u::(.ro qG p0)::(.int .i64 p1)::(.int .i64 p2)::un 38),[],[(524304,.box [(.int .i64 p3),(.int .i64 p4),(.int .i64 p5),(.int .i64 p6),(.int .i64 p7),(.int .i64 p8),(.int .i64 p9),(.ro qG p0)]),(786448,.box [(.int .i64 p10),(.ro qL p11)]),(1310736,.box [(.int .i64 p12),.nil]),(1572880,.row qC p13)]⟩ 9 0 102 [.c 1,.c 1,.c 0,.c 1,.c 0] [] f102.code (finK tt Tryz.f102)
theorem f102.l0_eq (k n:Nat) (p0:List (eG)) (p1:Int) (p2:Int) (p3:Int) (p4:Int) (p5:Int) (p6:Int) (p7:Int) (p8:Int) (p9:Int) (p10:Int) (p11:List (eL)) (p12:Int) (p13:List (eC)):f102.l0 k (n+1) p0 p1 p2 p3 p4 p5 p6 p7 p8 p9 p10 p11 p12 p13 =
 bif decide (p2<p1) then (chk (decide ((0:Int)≤p2∧p2<(↑p0.length:Int))) ((routeC (((p10,p11),(rd qG p0 p2).2,p7,p8,p9))).bind (fun y0=>bif (↑y0.1.length:Int)==(0:Int) then (both (both (some (.tup [(.own qC ([])),(.agg [(.int .i64 ((rd qG p0 p2).1.1)),(.own qI y0.2.1)])])) (some (.tup [(.own qC ([])),(.agg [(.int .i64 ((rd qG p0 p2).1.1)),(.own qI y0.2.1)])]))) (some (.tup [(.own qC ([])),(.agg [(.int .i64 ((rd qG p0 p2).1.1)),(.own qI y0.2.1)])]))) else (chk (decide ((p13++[((rd qG p0 p2).1,y0.1)]).length*40≤140737488355328)) (f102.l0 k n p0 p1 (Go.IntKind.i64.wrap (p2+(1:Int))) p3 p4 p5 p6 p7 p8 p9 p10 p11 p12 (p13++[((rd qG p0 p2).1,y0.1)])))))) else (some (.tup [(.own qC p13),(.agg [(.int .i64 0),(.own qI ([]))])])):=by kernel_rfl
theorem f102.eq (k:Nat) (x0:((Int×Int)×Int×Int×eL)×List (eG)) (x1:Int×List (eL)):evFn (f102.E k) 9 102 Tryz.f102 (encL [(.pair (.pair qS (.pair qI (.pair qI qL))) (.list qG)),(.pair qI (.list qL))] (x0,x1)) =
 f102.l0 k k x0.2 ((↑(x0.2.length):Int)) 0 x0.1.1.1 x0.1.1.2 x0.1.2.1 x0.1.2.2.1 x0.1.2.2.2.1 x0.1.2.2.2.2.1 x0.1.2.2.2.2.2 x1.1 x1.2 0 ([]):=by kernel_rfl
theorem f102.inl (k:Nat):InlOk Tryz.prog (f102.E k):=inl_nil
theorem f102.sums (k:Nat):SumsOk Tryz.prog (f102.E k):=(sums_cons ok63 sums_nil)
noncomputable def f106.E (k:Nat):Env:=mkEnv tt [(169,S169)] [] [(106,4,[.kill (rg [(0,2),(5,14),(18,47)]),.tidy])] [] k
noncomputable def f106.code:Go.Code:=cd Tryz.f106
noncomputable def f106.l0 (k n:Nat) (p0:List (eC)) (p1:Int) (p2:Int) (p3:Int) (p4:Int) (p5:Int) (p6:Int) (p7:Int) (p8:Int) (p9:Int) (p10:List (eG)) (p11:Int) (p12:List (eL)):Option V :=
 atPath (f106.E k) n ⟨(.u::.u::.u::(.ptr 786448 (0) (0))::(.ptr 1048592 (0) (0))::.u::.u::.u::.u::.u::.u::.u::.u::.u::.u::(.ro qC p0)::(.int .i64 p1)::(.int .i64 p2)::un 30),[],[(786448,.box [(.int .i64 p3),(.int .i64 p4),(.int .i64 p5),(.int .i64 p6),(.int .i64 p7),(.int .i64 p8),(.int .i64 p9),(.ro qG p10)]),(1048592,.box [(.int .i64 p11),(.ro qL p12)])]⟩ 9 0 106 [.c 1,.c 1,.c 0,.c 1,.c 0] [] f106.code (finK tt Tryz.f106)
theorem f106.l0_eq (k n:Nat) (p0:List (eC)) (p1:Int) (p2:Int) (p3:Int) (p4:Int) (p5:Int) (p6:Int) (p7:Int) (p8:Int) (p9:Int) (p10:List (eG)) (p11:Int) (p12:List (eL)):f106.l0 k (n+1) p0 p1 p2 p3 p4 p5 p6 p7 p8 p9 p10 p11 p12 =
 bif decide (p2<p1) then (chk (decide ((0:Int)≤p2∧p2<(↑p0.length:Int))) (chk (decide ((0:Int)≤p2∧p2<(↑p10.length:Int))) (bif !((rd qC p0 p2).1.1==(rd qG p10 p2).1.1&&((rd qC p0 p2).1.2==(rd qG p10 p2).1.2&&true)) then (some (.bool false)) else (bif !mayB (p11,p12) p7 p8 p9 (rd qC p0 p2).2 then (some (.bool false)) else (f106.l0 k n p0 p1 (Go.IntKind.i64.wrap (p2+(1:Int))) p3 p4 p5 p6 p7 p8 p9 p10 p11 p12))))) else (some (.bool true)):=by kernel_rfl
theorem f106.eq (k:Nat) (x0:((Int×Int)×Int×Int×eL)×List (eG)) (x1:Int×List (eL)) (x2:List (eC)):evFn (f106.E k) 9 106 Tryz.f106 (encL [(.pair (.pair qS (.pair qI (.pair qI qL))) (.list qG)),(.pair qI (.list qL)),(.list qC)] (x0,x1,x2)) =
 bif (↑x2.length:Int) != (↑(x0.2.length):Int) then (some (.bool false)) else (f106.l0 k k x2 ((↑x2.length:Int)) 0 x0.1.1.1 x0.1.1.2 x0.1.2.1 x0.1.2.2.1 x0.1.2.2.2.1 x0.1.2.2.2.2.1 x0.1.2.2.2.2.2 x0.2 x1.1 x1.2):=by kernel_rfl
theorem f106.inl (k:Nat):InlOk Tryz.prog (f106.E k):=inl_nil
theorem f106.sums (k:Nat):SumsOk Tryz.prog (f106.E k):=(sums_cons ok169 sums_nil)
noncomputable def f107.E (k:Nat):Env:=mkEnv tt [(170,S170)] [] [(107,2,[.kill (rg [(0,2),(5,10),(14,37)]),.tidy])] [] k
noncomputable def f107.code:Go.Code:=cd Tryz.f107
noncomputable def f107.l0 (k n:Nat) (p0:List (eC)) (p1:Int) (p2:Int) (p3:Int) (p4:Int) (p5:Int) (p6:Int) (p7:Int) (p8:Int) (p9:Int) (p10:List (eG)) (p11:Int) (p12:List (eL)):Option V :=
 atPath (f107.E k) n ⟨(.u::.u::.u::(.ptr 786448 (0) (0))::(.ptr 1048592 (0) (0))::.u::.u::.u::.u::.u::.u::(.ro qC p0)::(.int .i64 p1)::(.int .i64 p2)::un 24),[],[(786448,.box [(.int .i64 p3),(.int .i64 p4),(.int .i64 p5),(.int .i64 p6),(.int .i64 p7),(.int .i64 p8),(.int .i64 p9),(.ro qG p10)]),(1048592,.box [(.int .i64 p11),(.ro qL p12)])]⟩ 9 0 107 [.c 1,.c 0,.c 1,.c 0] [] f107.code (finK tt Tryz.f107)
theorem f107.l0_eq (k n:Nat) (p0:List (eC)) (p1:Int) (p2:Int) (p3:Int) (p4:Int) (p5:Int) (p6:Int) (p7:Int) (p8:Int) (p9:Int) (p10:List (eG)) (p11:Int) (p12:List (eL)):f107.l0 k (n+1) p0 p1 p2 p3 p4 p5 p6 p7 p8 p9 p10 p11 p12 =
 bif decide (p2<p1) then (chk (decide ((0:Int)≤p2∧p2<(↑p0.length:Int))) (chk (decide ((0:Int)≤p2∧p2<(↑p10.length:Int))) (bif (fitsOf (p11,p12) (rd qG p10 p2).2 (rd qC p0 p2).2).2 != (0:Int) then (some (.bool false)) else (bif !(fitsOf (p11,p12) (rd qG p10 p2).2 (rd qC p0 p2).2).1 then (some (.bool false)) else (f107.l0 k n p0 p1 (Go.IntKind.i64.wrap (p2+(1:Int))) p3 p4 p5 p6 p7 p8 p9 p10 p11 p12))))) else (some (.bool true)):=by kernel_rfl
theorem f107.eq (k:Nat) (x0:((Int×Int)×Int×Int×eL)×List (eG)) (x1:Int×List (eL)) (x2:List (eC)):evFn (f107.E k) 9 107 Tryz.f107 (encL [(.pair (.pair qS (.pair qI (.pair qI qL))) (.list qG)),(.pair qI (.list qL)),(.list qC)] (x0,x1,x2)) =
 f107.l0 k k x2 ((↑x2.length:Int)) 0 x0.1.1.1 x0.1.1.2 x0.1.2.1 x0.1.2.2.1 x0.1.2.2.2.1 x0.1.2.2.2.2.1 x0.1.2.2.2.2.2 x0.2 x1.1 x1.2:=by kernel_rfl
theorem f107.inl (k:Nat):InlOk Tryz.prog (f107.E k):=inl_nil
theorem f107.sums (k:Nat):SumsOk Tryz.prog (f107.E k):=(sums_cons ok170 sums_nil)
end
section
theorem f95.l0_is (k:Nat) (v s n0 x:Int) (gl:List Lk) (rs:List Rs) (hl:rs.length*80≤140737488355328) (hall:(rs.all fun r=>pcsMem r.pcs)=true):∀ (n i:Nat),i≤rs.length→rs.length<n+i→f95.l0 k n rs rs.length i 0 v s n0 x gl (rs.take i)=some (bookV ((v,gl),s,n0,x,rs))
 |0,i,h,h'=>by omega
 |n+1,i,h,h'=>by
  by_cases hlt:i<rs.length
  ·have hx:=gE hlt
   have hb:=List.all_eq_true.1 hall _ (List.getElem_mem hlt)
   have e:rs.take i++[rs[i]]=rs.take (i+1):=by rw [List.take_succ_eq_append_getElem hlt]
   have hc:decide ((rs.take (i+1)).length*80≤140737488355328)=true:=by
    rw [List.length_take]
    exact dT (by omega)
   rw [f95.l0_eq,idx_lt' hx,cT,wrap_succ (by omega),rd_some (t:=tRs) hx,idx_in hx,kT,hb,kT,bS,e,hc,kT]
   simp only [bS,both_self,kT,e,hc]
   exact f95.l0_is k v s n0 x gl rs hl hall n (i+1) (by omega) (by omega)
  ·obtain rfl:i=rs.length:=by omega
   rw [f95.l0_eq,end_lt,cF,List.take_length]
noncomputable def S95:Summ:=summ [tBk] Bk (fun (b:Bk)=>chk (bookMem b) (some b)) bookV
theorem ok95:SumOk Tryz.prog 95 S95 :=
 sumq f95.E (fn:=Tryz.f95) (code:=f95.code) f95.sums f95.inl fun (b:Bk) x hx=>by
  obtain ⟨hs,hx⟩:=chk_some hx
  obtain rfl:=oJ hx
  have hs:bookMem b=true:=hs
  unfold bookMem at hs
  simp only [bA,dE] at hs
  obtain ⟨h1,h2,h3⟩:=hs
  refine ⟨b.2.2.2.2.length+1,(f95.eq _ b).trans ?_⟩
  rw [dT h1,kT,bS]
  exact f95.l0_is _ b.1.1 b.2.1 b.2.2.1 b.2.2.2.1 b.1.2 b.2.2.2.2 h2 h3 _ 0 (by omega) (by omega)
theorem f97.l0_is (k:Nat) (id:Int) (rs:List Rs) (hl:rs.length<4611686018427387904):∀ (n i:Nat),i≤rs.length→rs.length<n+i→f97.l0 k n rs rs.length i id=some (.int .i64 (idxId id i (rs.drop i)))
 |0,i,h,h'=>by omega
 |n+1,i,h,h'=>by
  rw [f97.l0_eq]
  by_cases hlt:i<rs.length
  ·have hx:=gE hlt
   rw [idx_lt' hx,cT,idx_in hx,kT,rd_some (t:=tRs) hx,wrap_succ (by omega),List.drop_eq_getElem_cons hlt,f97.l0_is k id rs hl n (i+1) (by omega) (by omega)]
   simp only [idxId,Rs.id]
   cases rs[i].2.1==id <;> rfl
  ·obtain rfl:i=rs.length:=by omega
   rw [end_lt,cF,List.drop_length]
   rfl
noncomputable def S97:Summ:=S111
theorem ok97:SumOk Tryz.prog 97 S97 :=
 sumq f97.E (fn:=Tryz.f97) (code:=f97.code) f97.sums f97.inl fun (d:Bk×Int) x hx=>by
  obtain ⟨b,id⟩:=d
  obtain ⟨hb,hx⟩:=chk_some hx
  obtain rfl:=oJ hx
  have hb:b.2.2.2.2.length<4611686018427387904:=oD hb
  exact ⟨b.2.2.2.2.length+1,(f97.eq _ b id).trans (f97.l0_is _ id b.2.2.2.2 hb _ 0 (by omega) (by omega))⟩
noncomputable def S91:Summ:=S31
theorem ok91:SumOk Tryz.prog 91 S91 :=
 sumq f91.E (fn:=Tryz.f91) (code:=f91.code) f91.sums f91.inl fun d x hx=>by
  obtain rfl:=oJ hx
  exact ⟨0,f91.eq 0⟩
noncomputable def S92:Summ:=S32
theorem ok92:SumOk Tryz.prog 92 S92 :=
 sumq f92.E (fn:=Tryz.f92) (code:=f92.code) f92.sums f92.inl fun (d:Int×(Int×Int)) x hx=>by
  obtain rfl:=oJ hx
  exact ⟨0,f92.eq 0 d.1 d.2.1 d.2.2⟩
def passB (b:Bk) (o:Int) (q:Rq):Bool:=(lookQ b o q).2==0&&(lookQ b o q).1==0
noncomputable def S105:Summ:=summ [tBk,tI,tRq] Bool (fun (d:Bk×(Int×Rq))=>chk (pcsSmall d.1) (some (passB d.1 d.2.1 d.2.2))) .bool
theorem ok105:SumOk Tryz.prog 105 S105 :=
 sumq f105.E (fn:=Tryz.f105) (code:=f105.code) f105.sums f105.inl fun (d:Bk×(Int×Rq)) x hx=>by
  obtain ⟨b,o,q⟩:=d
  obtain ⟨hs,hx⟩:=chk_some hx
  obtain rfl:=oJ hx
  have hs:pcsSmall b=true:=hs
  refine ⟨0,(f105.eq 0 b o q).trans ?_⟩
  rw [hs,kT,bS]
  show _=some (V.bool (passB b o q))
  unfold passB
  cases (lookQ b o q).2==0 <;> rfl
def grantR (r:Rs):Rp:=(r.1,(0,[]),2,0,r.id,r.rate,0,r.pcs)
noncomputable def S98:Summ:=summ [tRs] Rp (fun (r:Rs)=>chk (pcsMem r.pcs) (some (grantR r))) ownRp
theorem ok98:SumOk Tryz.prog 98 S98 :=
 sumq f98.E (fn:=Tryz.f98) (code:=f98.code) f98.sums f98.inl fun (r:Rs) x hx=>by
  obtain ⟨hs,hx⟩:=chk_some hx
  obtain rfl:=oJ hx
  have hs:pcsMem r.2.2.2.2.2.2=true:=hs
  refine ⟨0,(f98.eq 0 r).trans ?_⟩
  rw [hs,kT,bS]
  rfl
def rpSmall (r:Rp):Bool:=decide (r.2.1.2.length<4611686018427387904)&&smallPcs r.2.2.2.2.2.2.2
def sameRp (a b:Rp):Bool:=eqSp a.1 b.1&&(a.2.1.1==b.2.1.1&&(sameB a.2.1.2 b.2.1.2&&(a.2.2.1==b.2.2.1&&(a.2.2.2.1==b.2.2.2.1&&(a.2.2.2.2.1==b.2.2.2.2.1&&(a.2.2.2.2.2.1==b.2.2.2.2.2.1&&(a.2.2.2.2.2.2.1==b.2.2.2.2.2.2.1&&samePcs a.2.2.2.2.2.2.2 b.2.2.2.2.2.2.2)))))))
noncomputable def S155:Summ:=summ [tRp,tRp] Bool (fun (d:Rp×Rp)=>chk (rpSmall d.1) (some (sameRp d.1 d.2))) .bool
theorem ok155:SumOk Tryz.prog 155 S155 :=
 sumq f155.E (fn:=Tryz.f155) (code:=f155.code) f155.sums f155.inl fun (d:Rp×Rp) x hx=>by
  obtain ⟨a,b⟩:=d
  obtain ⟨hs,hx⟩:=chk_some hx
  obtain rfl:=oJ hx
  have hs:rpSmall a=true:=hs
  unfold rpSmall at hs
  simp only [bA,dE] at hs
  refine ⟨0,(f155.eq 0 a b).trans ?_⟩
  rw [dT hs.1,kT,hs.2,kT]
  show (bif eqSp a.1 b.1 then _ else _)=some (V.bool (sameRp a b))
  unfold sameRp
  cases eqSp a.1 b.1 with
  |false=>rfl
  |true =>
   cases a.2.1.1==b.2.1.1 with
   |false=>rfl
   |true =>
    rw [cT,cT,bS,bS]
    cases sameB a.2.1.2 b.2.1.2 with
    |false=>rfl
    |true =>
     cases a.2.2.1==b.2.2.1 <;> cases a.2.2.2.1==b.2.2.2.1 <;> cases a.2.2.2.2.1==b.2.2.2.2.1 <;> cases a.2.2.2.2.2.1==b.2.2.2.2.2.1 <;> cases a.2.2.2.2.2.2.1==b.2.2.2.2.2.2.1 <;> rfl
def rpMem (r:Rp):Bool:=decide (r.2.1.2.length*8≤140737488355328)&&pcsMem r.2.2.2.2.2.2.2
abbrev Wq:=Rq×List Sg
@[reducible] def tWq:Ty:=.pair tRq (.list tSg)
abbrev Ct:=Int×List Int
noncomputable def planFrom (g:Gr) (src dst want:Int):List Sg→List Pc→List Pc×Ct
 | [],out=>(out,(0,[]))
 |s::ss,out=>bif ((routeV (g,s.2,src,dst,want)).1.length:Int)==0 then ([],(s.1.1,(routeV (g,s.2,src,dst,want)).2.1)) else planFrom g src dst want ss (out++[(s.1,(routeV (g,s.2,src,dst,want)).1)])
noncomputable def planW (g:Gr) (w:Wq):List Pc×Ct:=planFrom g w.1.2.2.2.1 w.1.2.2.2.2.1 w.1.2.2.2.2.2 w.2 []
theorem f102.l0_is (k:Nat) (a b c e src dst want z:Int) (g:Gr) (ss:List Sg) (hl:ss.length*40≤140737488355328):∀ (n i:Nat) (out:List Pc),i≤ss.length→ss.length<n+i→out.length≤i →
  f102.l0 k n ss ss.length i a b c e src dst want g.1 g.2 0 out=some (.tup [.own tPc (planFrom g src dst want (ss.drop i) out).1,.agg [.int .i64 (planFrom g src dst want (ss.drop i) out).2.1,.own tI (planFrom g src dst want (ss.drop i) out).2.2]])
 |0,i,out,h,h',_=>by omega
 |n+1,i,out,h,h',ho=>by
  rw [f102.l0_eq]
  by_cases hlt:i<ss.length
  ·have hx:=gE hlt
   have hg:((g.1,g.2):Gr)=g:=rfl
   have hc:decide ((out++[(ss[i].1,(routeV (g,ss[i].2,src,dst,want)).1)]).length*40≤140737488355328)=true:=by
    rw [lA,List.length_singleton]
    exact dT (by omega)
   rw [idx_lt' hx,cT,idx_in hx,kT,rd_some (t:=tSg) hx,wrap_succ (by omega),List.drop_eq_getElem_cons hlt,hg,(routeV_is (g,ss[i].2,src,dst,want)).1,bS,hc,kT,
    f102.l0_is k a b c e src dst want z g ss hl n (i+1) _ (by omega) (by omega) (by rw [lA,List.length_singleton];omega)]
   simp only [both_self,planFrom]
   cases ((routeV (g,ss[i].2,src,dst,want)).1.length:Int)==0 <;> rfl
  ·obtain rfl:i=ss.length:=by omega
   rw [end_lt,cF,List.drop_length]
   rfl
noncomputable def S102:Summ:=summ [tWq,tG] (List Pc×Ct) (fun (d:Wq×Gr)=>chk (decide (d.1.2.length*40≤140737488355328)) (some (planW d.2 d.1))) (fun x=>.tup [.own tPc x.1,.agg [.int .i64 x.2.1,.own tI x.2.2]])
theorem ok102:SumOk Tryz.prog 102 S102 :=
 sumq f102.E (fn:=Tryz.f102) (code:=f102.code) f102.sums f102.inl fun (d:Wq×Gr) x hx=>by
  obtain ⟨w,g⟩:=d
  obtain ⟨hs,hx⟩:=chk_some hx
  obtain rfl:=oJ hx
  have hs:w.2.length*40≤140737488355328:=oD hs
  exact ⟨w.2.length+1,(f102.eq _ w g).trans (f102.l0_is _ _ _ _ _ _ _ _ 0 g w.2 hs _ 0 [] (by omega) (by omega) (by simp))⟩
def mayW (g:Gr) (w:Wq) (ps:List Pc):Bool:=ps.length==w.2.length&&(ps.zip w.2).all fun x=>eqSp x.1.1 x.2.1&&mayB g w.1.2.2.2.1 w.1.2.2.2.2.1 w.1.2.2.2.2.2 x.1.2
noncomputable def S106:Summ:=summ [tWq,tG,.list tPc] Bool (fun (d:Wq×(Gr×List Pc))=>chk (decide (d.2.2.length<4611686018427387904)) (some (mayW d.2.1 d.1 d.2.2))) .bool
theorem ok106:SumOk Tryz.prog 106 S106 :=
 sumq f106.E (fn:=Tryz.f106) (code:=f106.code) f106.sums f106.inl fun (d:Wq×(Gr×List Pc)) x hx=>by
  obtain ⟨w,g,ps⟩:=d
  obtain ⟨hs,hx⟩:=chk_some hx
  obtain rfl:=oJ hx
  have hs:ps.length<4611686018427387904:=oD hs
  refine ⟨ps.length+1,(f106.eq _ w g ps).trans ?_⟩
  show _=some (V.bool (mayW g w ps))
  unfold mayW
  by_cases hl:ps.length=w.2.length
  ·rw [show ((ps.length:Int) != (w.2.length:Int))=false by simp [hl],cF,show (ps.length==w.2.length)=true by simp [hl],tA]
   have hz:(ps.zip w.2).length=ps.length:=by simp [hl]
   have:=loop_any0 (fun n i=>f106.l0 (ps.length+1) n ps ps.length (i:Nat) w.1.1.1 w.1.1.2 w.1.2.1 w.1.2.2.1 w.1.2.2.2.1 w.1.2.2.2.2.1 w.1.2.2.2.2.2 w.2 g.1 g.2) (ps.zip w.2) (fun x=>!(eqSp x.1.1 x.2.1&&mayB g w.1.2.2.2.1 w.1.2.2.2.2.1 w.1.2.2.2.2.2 x.1.2)) (some (.bool false)) (some (.bool true)) (fun n i x hx=>by
    obtain ⟨ha,hb⟩:=zip_get hx
    have:=idx_lt ha
    have hg:((g.1,g.2):Gr)=g:=rfl
    rw [f106.l0_eq,idx_lt' ha,cT,idx_in ha,kT,idx_in hb,kT,rd_some (t:=tPc) ha,rd_some (t:=tSg) hb,wrap_succ (by omega),hg]
    show (bif !(eqSp x.1.1 x.2.1) then _ else _)=_
    cases eqSp x.1.1 x.2.1 with
    |false=>rfl
    |true=>cases mayB g w.1.2.2.2.1 w.1.2.2.2.2.1 w.1.2.2.2.2.2 x.1.2 <;> rfl) (fun n=>by rw [hz,f106.l0_eq,end_lt];rfl) (n:=ps.length+1) (by omega)
   refine this.trans ?_
   rw [any_notq]
   cases (ps.zip w.2).all _ <;> rfl
  ·rw [show ((ps.length:Int) != (w.2.length:Int))=true by simp;omega,cT,show (ps.length==w.2.length)=false by simp [hl]]
   rfl
def fitsW (g:Gr) (w:Wq) (ps:List Pc):Bool:=(ps.zip w.2).all fun x=>(fitsOf g x.2.2 x.1.2).2==0&&(fitsOf g x.2.2 x.1.2).1
noncomputable def S107:Summ:=summ [tWq,tG,.list tPc] Bool (fun (d:Wq×(Gr×List Pc))=>chk (decide (d.2.2.length<4611686018427387904)&&decide (d.2.2.length=d.1.2.length)) (some (fitsW d.2.1 d.1 d.2.2))) .bool
theorem ok107:SumOk Tryz.prog 107 S107 :=
 sumq f107.E (fn:=Tryz.f107) (code:=f107.code) f107.sums f107.inl fun (d:Wq×(Gr×List Pc)) x hx=>by
  obtain ⟨w,g,ps⟩:=d
  obtain ⟨hs,hx⟩:=chk_some hx
  obtain rfl:=oJ hx
  have hs:(decide (ps.length<4611686018427387904)&&decide (ps.length=w.2.length))=true:=hs
  simp only [bA,dE] at hs
  obtain ⟨hs,hl⟩:=hs
  refine ⟨ps.length+1,(f107.eq _ w g ps).trans ?_⟩
  show _=some (V.bool (fitsW g w ps))
  unfold fitsW
  have hz:(ps.zip w.2).length=ps.length:=by simp [hl]
  have:=loop_any0 (fun n i=>f107.l0 (ps.length+1) n ps ps.length (i:Nat) w.1.1.1 w.1.1.2 w.1.2.1 w.1.2.2.1 w.1.2.2.2.1 w.1.2.2.2.2.1 w.1.2.2.2.2.2 w.2 g.1 g.2) (ps.zip w.2) (fun x=>!((fitsOf g x.2.2 x.1.2).2==0&&(fitsOf g x.2.2 x.1.2).1)) (some (.bool false)) (some (.bool true)) (fun n i x hx=>by
    obtain ⟨ha,hb⟩:=zip_get hx
    have:=idx_lt ha
    have hg:((g.1,g.2):Gr)=g:=rfl
    rw [f107.l0_eq,idx_lt' ha,cT,idx_in ha,kT,idx_in hb,kT,rd_some (t:=tPc) ha,rd_some (t:=tSg) hb,wrap_succ (by omega),hg]
    show (bif !((fitsOf g x.2.2 x.1.2).2==0) then _ else _)=_
    cases (fitsOf g x.2.2 x.1.2).2==0 with
    |false=>rfl
    |true=>cases (fitsOf g x.2.2 x.1.2).1 <;> rfl) (fun n=>by rw [hz,f107.l0_eq,end_lt];rfl) (n:=ps.length+1) (by omega)
  refine this.trans ?_
  rw [any_notq]
  cases (ps.zip w.2).all _ <;> rfl
end
section
set_option maxRecDepth 100000
noncomputable def f167.E (k:Nat):Env:=mkEnv tt [] [(204,Tryz.f204),(205,Tryz.f205),(72,Tryz.f72)] [(204,4,[.kill (rg [(0,0),(3,14),(18,31)]),.tidy]),(72,4,[.kill (rg [(2,11),(14,25)]),.tidy])] [(204,960,(rg [(0,9),(11,14),(16,16)])),(205,264000,(rg [(0,0),(3,14),(18,28),(30,31)])),(72,525248,(rg [(0,9),(11,14),(16,16)]))] k
noncomputable def f167.code:Go.Code:=cd Tryz.f167
noncomputable def f167.l0 (k n:Nat) (p0:List (eP)) (p1:List (eP)) (p2:Int) (p3:Int):Option V :=
 atPath (f167.E k) n ⟨(.u::(.ro qP p0)::(.fn 205 [])::.u::.u::.u::.u::.u::.u::.u::.u::.u::.u::.u::.u::(.ro qP p1)::(.int .i64 p2)::(.int .i64 p3)::un 14),[(.u::.u::.u::.u::.u::.u::.u::.u::.u::.u::(.bool true)::un 6)],[]⟩ 9 0 167 [.c 1,.c 0,.call 10 204,.c 1,.c 1,.c 0,.c 1,.c 0] [] f167.code (finK tt Tryz.f167)
noncomputable def f167.l1 (k n m0:Nat) (p0:List Int) (p1:List Int) (p2:Int) (p3:Int) (p4:List (eP)) (p5:List (eP)) (p6:Int) (p7:Int):Option V :=
 atPath (f167.E k) n ⟨((.ro qI p0)::(.ro qI p1)::.u::.u::.u::.u::.u::.u::.u::.u::.u::.u::(.int .i64 p2)::(.int .i64 p3)::un 12),[(.u::.u::.u::.u::.u::.u::.u::.u::.u::.u::(.bool true)::un 6),(.u::(.ro qP p4)::(.fn 205 [])::.u::.u::.u::.u::.u::.u::.u::.u::.u::.u::.u::.u::(.ro qP p5)::(.int .i64 p6)::(.int .i64 p7)::un 14),(.u::.u::.u::.u::.u::.u::.u::.u::.u::.u::(.bool true)::un 6)],[]⟩ 9 0 167 [.c 1,.c 0,.call 10 204,.c 1,.c 1,.c 0,.c 1,.c 0,.c 0,.c 1,.c 1,.c 0,.c 0,.c 1,.c 1,.c 0,.call 3 205,.c 1,.c 0,.call 10 72,.c 1,.c 1,.c 0,.c 1,.c 0] [m0] f167.code (finK tt Tryz.f167)
theorem f167.l0_eq (k n:Nat) (p0:List (eP)) (p1:List (eP)) (p2:Int) (p3:Int):f167.l0 k (n+1) p0 p1 p2 p3 =
 bif decide (p3<p2) then (chk (decide ((0:Int)≤p3∧p3<(↑p1.length:Int))) (chk (decide ((0:Int)≤p3∧p3<(↑p0.length:Int))) (bif (rd qP p1 p3).1==(rd qP p0 p3).1 then (bif (↑(List.length (rd qP p1 p3).2):Int) != (↑(List.length (rd qP p0 p3).2):Int) then (some (.bool false)) else (f167.l1 k k n ((rd qP p1 p3).2) ((rd qP p0 p3).2) ((↑(List.length (rd qP p1 p3).2):Int)) 0 p0 p1 p2 p3)) else (some (.bool false))))) else (some (.bool true)):=by kernel_rfl
theorem f167.l1_eq (k n m0:Nat) (p0:List Int) (p1:List Int) (p2:Int) (p3:Int) (p4:List (eP)) (p5:List (eP)) (p6:Int) (p7:Int):f167.l1 k (n+1) m0 p0 p1 p2 p3 p4 p5 p6 p7 =
 bif decide (p3<p2) then (chk (decide ((0:Int)≤p3∧p3<(↑p0.length:Int))) (chk (decide ((0:Int)≤p3∧p3<(↑p1.length:Int))) (bif rd qI p0 p3 != rd qI p1 p3 then (some (.bool false)) else (f167.l1 k n m0 p0 p1 p2 (Go.IntKind.i64.wrap (p3+(1:Int))) p4 p5 p6 p7)))) else (f167.l0 k m0 p4 p5 p6 (Go.IntKind.i64.wrap (p7+(1:Int)))):=by kernel_rfl
theorem f167.eq (k:Nat) (x0:eC) (x1:eC):evFn (f167.E k) 9 167 Tryz.f167 (encL [qC,qC] (x0,x1)) =
 bif x0.1.1==x1.1.1&&(x0.1.2==x1.1.2&&true) then (bif (↑(x0.2.length):Int) != (↑(x1.2.length):Int) then (some (.bool false)) else (f167.l0 k k x1.2 x0.2 ((↑(x0.2.length):Int)) 0)) else (some (.bool false)):=by kernel_rfl
theorem f167.inl (k:Nat):InlOk Tryz.prog (f167.E k):=(inl_cons (by kernel_rfl) (by kernel_rfl) (inl_cons (by kernel_rfl) (by kernel_rfl) (inl_cons (by kernel_rfl) (by kernel_rfl) inl_nil)))
theorem f167.sums (k:Nat):SumsOk Tryz.prog (f167.E k):=sums_nil
noncomputable def f104.E (k:Nat):Env:=mkEnv tt [(63,S63),(168,S168)] [] [(104,2,[.kill (rg [(0,2),(6,14),(18,68)]),.tidy])] [] k
noncomputable def f104.code:Go.Code:=cd Tryz.f104
noncomputable def f104.l0 (k n:Nat) (p0:List (eG)) (p1:Int) (p2:Int) (p3:Int) (p4:Int) (p5:Int) (p6:Int) (p7:Int) (p8:Int) (p9:Int) (p10:Int) (p11:List (eL)) (p12:Int) (p13:List Int):Option V :=
 atPath (f104.E k) n ⟨(.u::.u::.u::(.ptr 786448 (0) (0))::(.ptr 1048592 (0) (0))::(.ptr 1310736 (0) (0))::.u::.u::.u::.u::.u::.u::.u::.u::.u::(.ro qG p0)::(.int .i64 p1)::(.int .i64 p2)::un 51),[],[(786448,.box [(.int .i64 p3),(.int .i64 p4),(.int .i64 p5),(.int .i64 p6),(.int .i64 p7),(.int .i64 p8),(.int .i64 p9),(.ro qG p0)]),(1048592,.box [(.int .i64 p10),(.ro qL p11)]),(1310736,.box [(.int .i64 p12),(.ro qI p13)])]⟩ 9 0 104 [.c 1,.c 0,.c 1,.c 0] [] f104.code (finK tt Tryz.f104)
theorem f104.l0_eq (k n:Nat) (p0:List (eG)) (p1:Int) (p2:Int) (p3:Int) (p4:Int) (p5:Int) (p6:Int) (p7:Int) (p8:Int) (p9:Int) (p10:Int) (p11:List (eL)) (p12:Int) (p13:List Int):f104.l0 k (n+1) p0 p1 p2 p3 p4 p5 p6 p7 p8 p9 p10 p11 p12 p13 =
 bif decide (p2<p1) then (chk (decide ((0:Int)≤p2∧p2<(↑p0.length:Int))) ((routeC (((p10,p11),(rd qG p0 p2).2,p7,p8,p9))).bind (fun y0=>bif decide ((↑y0.1.length:Int)>(0:Int)) then (f104.l0 k n p0 p1 (Go.IntKind.i64.wrap (p2+(1:Int))) p3 p4 p5 p6 p7 p8 p9 p10 p11 p12 p13) else ((chk (decide (p13.length<4611686018427387904)) (some (proves (p10,p11) (rd qG p0 p2).2 p7 p8 p9 p13))).bind (fun y1=>bif y1.1 then (some (.bool (p12==(rd qG p0 p2).1.1))) else (some (.bool false))))))) else (some (.bool false)):=by kernel_rfl
theorem f104.eq (k:Nat) (x0:((Int×Int)×Int×Int×eL)×List (eG)) (x1:Int×List (eL)) (x2:eP):evFn (f104.E k) 9 104 Tryz.f104 (encL [(.pair (.pair qS (.pair qI (.pair qI qL))) (.list qG)),(.pair qI (.list qL)),qP] (x0,x1,x2)) =
 f104.l0 k k x0.2 ((↑(x0.2.length):Int)) 0 x0.1.1.1 x0.1.1.2 x0.1.2.1 x0.1.2.2.1 x0.1.2.2.2.1 x0.1.2.2.2.2.1 x0.1.2.2.2.2.2 x1.1 x1.2 x2.1 x2.2:=by kernel_rfl
theorem f104.inl (k:Nat):InlOk Tryz.prog (f104.E k):=inl_nil
theorem f104.sums (k:Nat):SumsOk Tryz.prog (f104.E k):=(sums_cons ok63 (sums_cons ok168 sums_nil))
noncomputable def f41.E (k:Nat):Env:=mkEnv tt [(45,S45),(95,S95),(97,S97),(98,S98),(101,S101),(105,S105),(106,S106),(107,S107),(108,S108)] [] [] [] k
noncomputable def f41.code:Go.Code:=cd Tryz.f41
theorem f41.eq (k:Nat) (x0:(Int×List (eL)) ×
 Int×Int×Int×List (eR)) (x1:Int) (x2:(Int×Int)×Int×Int×eL) (x3:List (eC)):evFn (f41.E k) 9 41 Tryz.f41 (encL [(.pair (.pair qI (.list qL)) (.pair qI (.pair qI (.pair qI (.list qR))))),qI,(.pair qS (.pair qI (.pair qI qL))),(.list qC)] (x0,x1,x2,x3)) =
 bif !asksB x2 then (some (.tup [(.agg [(.int .i64 0),(.own qL ([])),(.int .i64 0),(.int .i64 0),(.int .i64 0),(.own qR ([]))]),(.agg [(.int .i64 0),(.int .i64 0),(.int .i64 0),(.own qI ([])),(.int .i64 0),(.int .i64 0),(.int .i64 0),(.int .i64 0),(.int .i64 0),(.own qC ([]))]),(.int .i64 2000)])) else ((chk (pcsSmall x0) (some (passB x0 x1 x2))).bind (fun y0=>bif !y0 then (some (.tup [(.agg [(.int .i64 0),(.own qL ([])),(.int .i64 0),(.int .i64 0),(.int .i64 0),(.own qR ([]))]),(.agg [(.int .i64 0),(.int .i64 0),(.int .i64 0),(.own qI ([])),(.int .i64 0),(.int .i64 0),(.int .i64 0),(.int .i64 0),(.int .i64 0),(.own qC ([]))]),(.int .i64 2000)])) else ((chk (pcsSmall x0) (some (wishW x0 x2))).bind (fun y1=>(chk (decide (x3.length<4611686018427387904)) (some (mayW x0.1 ((y1.1,y1.2.1,y1.2.2.1,y1.2.2.2.1,y1.2.2.2.2.1,y1.2.2.2.2.2.1),y1.2.2.2.2.2.2) x3))).bind (fun y2=>bif !y2 then (some (.tup [(.agg [(.int .i64 0),(.own qL ([])),(.int .i64 0),(.int .i64 0),(.int .i64 0),(.own qR ([]))]),(.agg [(.int .i64 0),(.int .i64 0),(.int .i64 0),(.own qI ([])),(.int .i64 0),(.int .i64 0),(.int .i64 0),(.int .i64 0),(.int .i64 0),(.own qC ([]))]),(.int .i64 2000)])) else ((chk (decide (x3.length<4611686018427387904)&&decide (x3.length=y1.2.2.2.2.2.2.length)) (some (fitsW x0.1 ((y1.1,y1.2.1,y1.2.2.1,y1.2.2.2.1,y1.2.2.2.2.1,y1.2.2.2.2.2.1),y1.2.2.2.2.2.2) x3))).bind (fun y3=>bif !y3 then (some (.tup [(.agg [(.int .i64 0),(.own qL ([])),(.int .i64 0),(.int .i64 0),(.int .i64 0),(.own qR ([]))]),(.agg [(.int .i64 0),(.int .i64 0),(.int .i64 0),(.own qI ([])),(.int .i64 0),(.int .i64 0),(.int .i64 0),(.int .i64 0),(.int .i64 0),(.own qC ([]))]),(.int .i64 2001)])) else ((chk (bookMem x0) (some x0)).bind (fun y4=>(chk (pcsMem x3) (some x3)).bind (fun y5=>bif x2.2.1==(1:Int) then (chk (decide ((y4.2.2.2.2++[(x2.1,y4.2.2.2.1,x1,y1.2.2.2.1,y1.2.2.2.2.1,x2.2.2.2.2.2,y5)]).length*80≤140737488355328)) ((chk (pcsMem (Rs.pcs (x2.1,y4.2.2.2.1,x1,y1.2.2.2.1,y1.2.2.2.2.1,x2.2.2.2.2.2,y5))) (some (grantR (x2.1,y4.2.2.2.1,x1,y1.2.2.2.1,y1.2.2.2.2.1,x2.2.2.2.2.2,y5)))).bind (fun y6=>some (.tup [(.agg [(.int .i64 y4.1.1),(.own qL y4.1.2),(.int .i64 y4.2.1),(.int .i64 y4.2.2.1),(.int .i64 (Go.IntKind.i64.wrap (y4.2.2.2.1+(1:Int)))),(.own qR (y4.2.2.2.2++[(x2.1,y4.2.2.2.1,x1,y1.2.2.2.1,y1.2.2.2.2.1,x2.2.2.2.2.2,y5)]))]),(.agg [(.int .i64 y6.1.1),(.int .i64 y6.1.2),(.int .i64 y6.2.1.1),(.own qI y6.2.1.2),(.int .i64 y6.2.2.1),(.int .i64 y6.2.2.2.1),(.int .i64 y6.2.2.2.2.1),(.int .i64 y6.2.2.2.2.2.1),(.int .i64 y6.2.2.2.2.2.2.1),(.own qC y6.2.2.2.2.2.2.2)]),(.int .i64 0)])))) else ((chk (decide ((Bk.list y4).length<4611686018427387904)) (some (placeOf y4 x2.2.2.1))).bind (fun y6=>chk (decide ((0:Int)≤y6∧y6<(↑y4.2.2.2.2.length:Int))) ((chk (pcsMem (Rs.pcs (x2.1,x2.2.2.1,x1,y1.2.2.2.1,y1.2.2.2.2.1,x2.2.2.2.2.2,y5))) (some (grantR (x2.1,x2.2.2.1,x1,y1.2.2.2.1,y1.2.2.2.2.1,x2.2.2.2.2.2,y5)))).bind (fun y7=>some (.tup [(.agg [(.int .i64 y4.1.1),(.own qL y4.1.2),(.int .i64 y4.2.1),(.int .i64 y4.2.2.1),(.int .i64 y4.2.2.2.1),(.own qR (y4.2.2.2.2.set y6.toNat (x2.1,x2.2.2.1,x1,y1.2.2.2.1,y1.2.2.2.2.1,x2.2.2.2.2.2,y5)))]),(.agg [(.int .i64 y7.1.1),(.int .i64 y7.1.2),(.int .i64 y7.2.1.1),(.own qI y7.2.1.2),(.int .i64 y7.2.2.1),(.int .i64 y7.2.2.2.1),(.int .i64 y7.2.2.2.2.1),(.int .i64 y7.2.2.2.2.2.1),(.int .i64 y7.2.2.2.2.2.2.1),(.own qC y7.2.2.2.2.2.2.2)]),(.int .i64 0)]))))))))))))))):=by kernel_rfl
theorem f41.inl (k:Nat):InlOk Tryz.prog (f41.E k):=inl_nil
theorem f41.sums (k:Nat):SumsOk Tryz.prog (f41.E k):=(sums_cons ok45 (sums_cons ok95 (sums_cons ok97 (sums_cons ok98 (sums_cons ok101 (sums_cons ok105 (sums_cons ok106 (sums_cons ok107 (sums_cons ok108 sums_nil)))))))))
end
section
theorem f167.l1_is (k m0:Nat) (a b:List Pt) (i:Nat) (x y:List Int) (hlen:x.length=y.length) (hs:x.length<4611686018427387904) (ha:i<4611686018427387904):∀ (n j:Nat),j≤x.length→x.length<n+j →
  f167.l1 k n m0 x y x.length (j:Int) b a a.length (i:Int)=bif x.drop j==y.drop j then f167.l0 k m0 b a a.length ((i+1:Nat):Int) else some (.bool false)
 |0,j,h,h'=>by omega
 |n+1,j,h,h'=>by
  rw [f167.l1_eq]
  by_cases hlt:j<x.length
  ·have hxj:=gE hlt
   have hlt2:j<y.length:=by omega
   have hyj:=gE hlt2
   rw [idx_lt' hxj,cT,idx_in hxj,kT,idx_in hyj,kT,rd_some (t:=tI) hxj,rd_some (t:=tI) hyj,wrap_succ (i:=j) (by omega),List.drop_eq_getElem_cons hlt,List.drop_eq_getElem_cons hlt2]
   have e:((x[j]::x.drop (j+1):List Int)==y[j]::y.drop (j+1))=(x[j]==y[j]&&x.drop (j+1)==y.drop (j+1)):=rfl
   rw [e]
   cases hc:x[j]==y[j] with
   |false=>rw [show (x[j] != y[j])=true by simp only [bne];rw [hc];rfl,cT,fA,cF]
   |true =>
    rw [show (x[j] != y[j])=false by simp only [bne];rw [hc];rfl,cF,tA]
    exact f167.l1_is k m0 a b i x y hlen hs ha n (j+1) (by omega) (by omega)
  ·obtain rfl:j=x.length:=by omega
   rw [end_lt,cF,wrap_succ (by omega),List.drop_length,hlen,List.drop_length]
   rfl
theorem f167.l0_is (k:Nat) (a b:List Pt) (hl:a.length=b.length) (hs:smallP a=true) (hk:linksN a<k):∀ (n i:Nat),i≤a.length→a.length<n+i→f167.l0 k n b a a.length (i:Int)=some (.bool (a.drop i==b.drop i))
 |0,i,h,h'=>by omega
 |n+1,i,h,h'=>by
  have hs':=hs
  simp only [smallP,bA,dE] at hs'
  by_cases hlt:i<a.length
  ·have hx:=gE hlt
   have hlt2:i<b.length:=by omega
   have hy:=gE hlt2
   have h3:a[i].2.length<4611686018427387904:=by simpa using List.all_eq_true.1 hs'.2 a[i] (List.getElem_mem hlt)
   have h4:=linksN_le (List.getElem_mem hlt)
   rw [f167.l0_eq,idx_lt' hx,cT,idx_in hx,kT,idx_in hy,kT,rd_some (t:=tP) hx,rd_some (t:=tP) hy,List.drop_eq_getElem_cons hlt,List.drop_eq_getElem_cons hlt2]
   have e:((a[i]::a.drop (i+1):List Pt)==b[i]::b.drop (i+1))=((a[i].1==b[i].1&&a[i].2==b[i].2)&&a.drop (i+1)==b.drop (i+1)):=rfl
   rw [e]
   cases hc:a[i].1==b[i].1 with
   |false=>rw [fA,fA,cF]
   |true =>
    rw [cT,tA]
    by_cases hlen:a[i].2.length=b[i].2.length
    ·rw [show ((↑(List.length a[i].2):Int) != (↑(List.length b[i].2):Int))=false by rw [hlen,bne_self_eq_false],cF]
     refine (f167.l1_is k n a b i a[i].2 b[i].2 hlen h3 (by omega) k 0 (by omega) (by omega)).trans ?_
     rw [List.drop_zero,List.drop_zero]
     cases a[i].2==b[i].2 with
     |false=>rw [cF,fA]
     |true =>
      rw [cT,tA]
      exact f167.l0_is k a b hl hs hk n (i+1) (by omega) (by omega)
    ·rw [show ((↑(List.length a[i].2):Int) != (↑(List.length b[i].2):Int))=true from bne_iff_ne.2 (by omega),cT]
     rw [show (a[i].2==b[i].2)=false from beq_eq_false_iff_ne.2 fun hh=>hlen (by rw [hh]),fA]
  ·obtain rfl:i=a.length:=by omega
   rw [f167.l0_eq,end_lt,cF,List.drop_length,hl,List.drop_length]
   rfl
noncomputable def S167:Summ:=summ [tPc,tPc] Bool (fun (d:Pc×Pc)=>chk (smallP d.1.2) (some (eqPc d.1 d.2))) .bool
theorem ok167:SumOk Tryz.prog 167 S167 :=
 sumq f167.E (fn:=Tryz.f167) (code:=f167.code) f167.sums f167.inl fun (d:Pc×Pc) x hx=>by
  obtain ⟨a,b⟩:=d
  obtain ⟨hs,hx⟩:=chk_some hx
  obtain rfl:=oJ hx
  have hs:smallP a.2=true:=hs
  refine ⟨a.2.length+linksN a.2+1,(f167.eq _ a b).trans ?_⟩
  show (bif eqSp a.1 b.1 then _ else _)=some (V.bool (eqPc a b))
  unfold eqPc
  cases eqSp a.1 b.1 with
  |false=>rfl
  |true =>
   rw [cT,tA]
   by_cases hl:a.2.length=b.2.length
   ·rw [show ((↑(List.length a.2):Int) != (↑(List.length b.2):Int))=false by rw [hl,bne_self_eq_false],cF]
    refine (f167.l0_is _ a.2 b.2 hl hs (by omega) _ 0 (by omega) (by omega)).trans ?_
    rw [List.drop_zero,List.drop_zero]
    rfl
   ·rw [show ((↑(List.length a.2):Int) != (↑(List.length b.2):Int))=true from bne_iff_ne.2 (by omega),cT]
    rw [sameB_ne fun hh=>hl (by rw [hh])]
noncomputable def provenFrom (g:Gr) (src dst want:Int) (c:Ct):List Sg→Bool
 | []=>false
 |s::ss=>bif decide (((routeV (g,s.2,src,dst,want)).1.length:Int)>0) then provenFrom g src dst want c ss else (proves g s.2 src dst want c.2).1&&c.1==s.1.1
noncomputable def provenW (g:Gr) (w:Wq) (c:Ct):Bool:=provenFrom g w.1.2.2.2.1 w.1.2.2.2.2.1 w.1.2.2.2.2.2 c w.2
theorem f104.l0_is (k:Nat) (a b e f src dst want:Int) (c:Ct) (hc:c.2.length<4611686018427387904) (g:Gr) (ss:List Sg) (hl:ss.length<4611686018427387904):∀ (n i:Nat),i≤ss.length→ss.length<n+i →
  f104.l0 k n ss ss.length i a b e f src dst want g.1 g.2 c.1 c.2=some (.bool (provenFrom g src dst want c (ss.drop i)))
 |0,i,h,h'=>by omega
 |n+1,i,h,h'=>by
  rw [f104.l0_eq]
  by_cases hlt:i<ss.length
  ·have hx:=gE hlt
   have hg:((g.1,g.2):Gr)=g:=rfl
   rw [idx_lt' hx,cT,idx_in hx,kT,rd_some (t:=tSg) hx,wrap_succ (by omega),List.drop_eq_getElem_cons hlt,hg,(routeV_is (g,ss[i].2,src,dst,want)).1,bS,dT hc,kT,bS,
    f104.l0_is k a b e f src dst want c hc g ss hl n (i+1) (by omega) (by omega)]
   simp only [provenFrom]
   cases decide (((routeV (g,ss[i].2,src,dst,want)).1.length:Int)>0) with
   |true=>rfl
   |false=>cases (proves g ss[i].2 src dst want c.2).1 <;> rfl
  ·obtain rfl:i=ss.length:=by omega
   rw [end_lt,cF,List.drop_length]
   rfl
noncomputable def S104:Summ:=summ [tWq,tG,.pair tI tL] Bool (fun (d:Wq×(Gr×Ct))=>chk (decide (d.2.2.2.length<4611686018427387904)&&decide (d.1.2.length<4611686018427387904)) (some (provenW d.2.1 d.1 d.2.2))) .bool
theorem ok104:SumOk Tryz.prog 104 S104 :=
 sumq f104.E (fn:=Tryz.f104) (code:=f104.code) f104.sums f104.inl fun (d:Wq×(Gr×Ct)) x hx=>by
  obtain ⟨w,g,c⟩:=d
  obtain ⟨hs,hx⟩:=chk_some hx
  obtain rfl:=oJ hx
  have hs:(decide (c.2.length<4611686018427387904)&&decide (w.2.length<4611686018427387904))=true:=hs
  simp only [bA,dE] at hs
  exact ⟨w.2.length+1,(f104.eq _ w g c).trans (f104.l0_is _ _ _ _ _ _ _ _ c hs.1 g w.2 hs.2 _ 0 (by omega) (by omega))⟩
def Bk.zero:Bk:=((0,[]),0,0,0,[])
def Rp.zero:Rp:=((0,0),(0,[]),0,0,0,0,0,[])
def wishQ (b:Bk) (q:Rq):Wq:=((q.1,q.2.1,q.2.2.1,(wishOf b q).1,(wishOf b q).2.1,q.2.2.2.2.2),(wishOf b q).2.2)
def putRes (b:Bk) (o:Int) (q:Rq) (ps:List Pc) (id:Int):Rs:=(q.1,id,o,(wishOf b q).1,(wishOf b q).2.1,q.2.2.2.2.2,ps)
def putQ (b:Bk) (o:Int) (q:Rq) (ps:List Pc):Bk×(Rp×Int) :=
 bif !asksB q then (Bk.zero,Rp.zero,2000) else bif !passB b o q then (Bk.zero,Rp.zero,2000) else
 bif !mayW b.1 (wishQ b q) ps then (Bk.zero,Rp.zero,2000) else bif !fitsW b.1 (wishQ b q) ps then (Bk.zero,Rp.zero,2001) else
 bif q.2.1==1 then ((b.1,b.2.1,b.2.2.1,b.2.2.2.1+1,b.2.2.2.2++[putRes b o q ps b.2.2.2.1]),grantR (putRes b o q ps b.2.2.2.1),0)
 else ((b.1,b.2.1,b.2.2.1,b.2.2.2.1,b.2.2.2.2.set (placeOf b q.2.2.1).toNat (putRes b o q ps q.2.2.1)),grantR (putRes b o q ps q.2.2.1),0)
@[reducible] def resBRE (x:Bk×(Rp×Int)):V:=.tup [bookV x.1,ownRp x.2.1,.int .i64 x.2.2]
theorem pass_look {b:Bk} {o:Int} {q:Rq} (h:passB b o q=true):(lookQ b o q).2=0∧(lookQ b o q).1=0:=by
 unfold passB at h
 simpa [bA] using h
theorem place_lt {b:Bk} {id:Int} (h:0≤placeOf b id):placeOf b id<(b.2.2.2.2.length:Int):=by
 rcases idxId_spec id b.2.2.2.2 0 with ⟨h1,_⟩|⟨j,r,h1,h2,_⟩
 ·unfold placeOf Bk.list at h
  omega
 ·have:=idx_lt h2
  unfold placeOf Bk.list
  omega
noncomputable def S41:Summ:=summ [tBk,tI,tRq,.list tPc] (Bk×(Rp×Int)) (fun (d:Bk×(Int×(Rq×List Pc)))=>chk (pcsSmall d.1&&(bookMem d.1&&(decide (d.2.2.2.length<4611686018427387904)&&pcsMem d.2.2.2))) (some (putQ d.1 d.2.1 d.2.2.1 d.2.2.2))) resBRE
theorem ok41:SumOk Tryz.prog 41 S41 :=
 sumq f41.E (fn:=Tryz.f41) (code:=f41.code) f41.sums f41.inl fun (d:Bk×(Int×(Rq×List Pc))) x hx=>by
  obtain ⟨b,o,q,ps⟩:=d
  obtain ⟨hs,hx⟩:=chk_some hx
  obtain rfl:=oJ hx
  have hs:(pcsSmall b&&(bookMem b&&(decide (ps.length<4611686018427387904)&&pcsMem ps)))=true:=hs
  simp only [bA,dE] at hs
  obtain ⟨h1,h2,h3,h4⟩:=hs
  refine ⟨0,(f41.eq _ b o q ps).trans ?_⟩
  show _=some (resBRE (putQ b o q ps))
  unfold putQ
  cases ha:asksB q with
  |false=>rfl
  |true =>
   rw [nT,cF,cF,h1,kT,bS]
   cases hp:passB b o q with
   |false=>rfl
   |true =>
    obtain ⟨hl,hc⟩:=pass_look hp
    have hb:=(look_book hl).1
    obtain ⟨hb1,_⟩:=book_ok hb
    have hf:=form_parts hb1.1
    have hf5:b.2.2.2.2.length≤8:=hf.2.2.2.2
    have hf4:1≤b.2.2.2.1∧b.2.2.2.1≤1048577:=hf.2.2.2.1
    rw [nT,cF,cF,kT,bS,dT h3,kT,bS]
    show (bif !mayW b.1 (wishQ b q) ps then _ else _)=_
    cases hm:mayW b.1 (wishQ b q) ps with
    |false=>rfl
    |true =>
     have hlen:ps.length=(wishW b q).2.2.2.2.2.2.length:=by
      unfold mayW at hm
      simp only [bA,beq_iff_eq] at hm
      exact hm.1
     rw [nT,cF,cF,dT hlen,Bool.and_self,kT,bS]
     show (bif !fitsW b.1 (wishQ b q) ps then _ else _)=_
     cases fitsW b.1 (wishQ b q) ps with
     |false=>rfl
     |true =>
      rw [nT,cF,cF,h2,kT,bS,h4,kT,bS]
      cases hk:q.2.1==1 with
      |true =>
       rw [cT,cT,chk_eq (dT (by rw [lA,List.length_singleton];omega)),chk_eq (show pcsMem (Rs.pcs (q.1,b.2.2.2.1,o,(wishW b q).2.2.2.1,(wishW b q).2.2.2.2.1,q.2.2.2.2.2,ps))=true from h4),bS,wrap64 (by omega)]
       rfl
      |false =>
       have hk2:q.2.1=2:=by
        unfold asksB at ha
        rw [hk] at ha
        simpa using ha
       have hpl:=(look_ends hl hc).1 hk2
       have hpl2:=place_lt hpl
       rw [cF,cF,chk_eq (dT (show (Bk.list b).length<4611686018427387904 by unfold Bk.list;omega)),bS,chk_eq (dT ⟨hpl,hpl2⟩),chk_eq (show pcsMem (Rs.pcs (q.1,q.2.2.1,o,(wishW b q).2.2.2.1,(wishW b q).2.2.2.2.1,q.2.2.2.2.2,ps))=true from h4),bS]
       rfl
end
section
set_option maxRecDepth 100000
noncomputable def f103.E (k:Nat):Env:=mkEnv tt [(167,S167)] [(72,Tryz.f72),(166,Tryz.f166)] [(72,4,[.kill (rg [(2,11),(14,25)]),.tidy]),(166,4,[.kill (rg [(0,0),(3,14),(18,31)]),.tidy])] [(72,1664,(rg [(0,1),(4,18),(20,25),(27,69)])),(166,4352,(rg [(0,62),(64,67),(69,69)]))] k
noncomputable def f103.code:Go.Code:=cd Tryz.f103
noncomputable def f103.l0 (k n:Nat) (p0:List Int) (p1:List Int) (p2:Int) (p3:Int) (p4:Int) (p5:Int) (p6:Int) (p7:Int) (p8:Int) (p9:Int) (p10:Int) (p11:Int) (p12:List (eC)) (p13:Int) (p14:Int) (p15:Int) (p16:Int) (p17:Int) (p18:Int) (p19:Int) (p20:Int) (p21:List (eC)):Option V :=
 atPath (f103.E k) n ⟨((.ro qI p0)::(.ro qI p1)::.u::.u::.u::.u::.u::.u::.u::.u::.u::.u::(.int .i64 p2)::(.int .i64 p3)::un 12),[(.u::.u::(.ptr 1074266128 (0) (0))::(.ptr 1074528272 (0) (0))::.u::.u::.u::.u::.u::.u::.u::.u::.u::.u::.u::.u::.u::.u::.u::(.bool true)::un 50)],[(1074266128,.box [(.int .i64 p4),(.int .i64 p5),(.int .i64 p6),(.ro qI p0),(.int .i64 p7),(.int .i64 p8),(.int .i64 p9),(.int .i64 p10),(.int .i64 p11),(.ro qC p12)]),(1074528272,.box [(.int .i64 p13),(.int .i64 p14),(.int .i64 p15),(.ro qI p1),(.int .i64 p16),(.int .i64 p17),(.int .i64 p18),(.int .i64 p19),(.int .i64 p20),(.ro qC p21)])]⟩ 9 0 103 [.c 1,.c 0,.call 21 72,.c 1,.c 1,.c 0,.c 1,.c 0] [] f103.code (finK tt Tryz.f103)
noncomputable def f103.l1 (k n:Nat) (p0:List (eC)) (p1:List (eC)) (p2:Int) (p3:Int):Option V :=
 atPath (f103.E k) n ⟨(.u::(.ro qC p0)::(.fn 167 [])::.u::.u::.u::.u::.u::.u::.u::.u::.u::.u::.u::.u::(.ro qC p1)::(.int .i64 p2)::(.int .i64 p3)::un 14),[(.u::.u::.u::.u::.u::.u::.u::.u::.u::.u::.u::.u::.u::.u::.u::.u::.u::.u::.u::.u::.u::.u::.u::.u::.u::.u::.u::.u::.u::.u::.u::.u::.u::.u::.u::.u::.u::.u::.u::.u::.u::.u::.u::.u::.u::.u::.u::.u::.u::.u::.u::.u::.u::.u::.u::.u::.u::.u::.u::.u::.u::.u::.u::(.bool true)::un 6)],[]⟩ 9 0 103 [.c 1,.c 0,.call 63 166,.c 1,.c 1,.c 0,.c 1,.c 0] [] f103.code (finK tt Tryz.f103)
theorem f103.l0_eq (k n:Nat) (p0:List Int) (p1:List Int) (p2:Int) (p3:Int) (p4:Int) (p5:Int) (p6:Int) (p7:Int) (p8:Int) (p9:Int) (p10:Int) (p11:Int) (p12:List (eC)) (p13:Int) (p14:Int) (p15:Int) (p16:Int) (p17:Int) (p18:Int) (p19:Int) (p20:Int) (p21:List (eC)):f103.l0 k (n+1) p0 p1 p2 p3 p4 p5 p6 p7 p8 p9 p10 p11 p12 p13 p14 p15 p16 p17 p18 p19 p20 p21 =
 bif decide (p3<p2) then (chk (decide ((0:Int)≤p3∧p3<(↑p0.length:Int))) (chk (decide ((0:Int)≤p3∧p3<(↑p1.length:Int))) (bif rd qI p0 p3 != rd qI p1 p3 then (some (.bool false)) else (f103.l0 k n p0 p1 p2 (Go.IntKind.i64.wrap (p3+(1:Int))) p4 p5 p6 p7 p8 p9 p10 p11 p12 p13 p14 p15 p16 p17 p18 p19 p20 p21)))) else (bif p7==p16 then (bif p8==p17 then (bif p9==p18 then (bif p10==p19 then (bif p11==p20 then (bif (↑p12.length:Int) != (↑p21.length:Int) then (some (.bool false)) else (f103.l1 k k p21 p12 ((↑p12.length:Int)) 0)) else (some (.bool false))) else (some (.bool false))) else (some (.bool false))) else (some (.bool false))) else (some (.bool false))):=by kernel_rfl
theorem f103.l1_eq (k n:Nat) (p0:List (eC)) (p1:List (eC)) (p2:Int) (p3:Int):f103.l1 k (n+1) p0 p1 p2 p3 =
 bif decide (p3<p2) then (chk (decide ((0:Int)≤p3∧p3<(↑p1.length:Int))) (chk (decide ((0:Int)≤p3∧p3<(↑p0.length:Int))) ((chk (smallP (rd qC p1 p3).2) (some (eqPc (rd qC p1 p3) (rd qC p0 p3)))).bind (fun y0=>bif !y0 then (some (.bool false)) else (f103.l1 k n p0 p1 p2 (Go.IntKind.i64.wrap (p3+(1:Int)))))))) else (some (.bool true)):=by kernel_rfl
theorem f103.eq (k:Nat) (x0:(Int×Int)×(eP)×Int×Int×Int×Int×Int×List (eC)) (x1:(Int×Int)×(eP)×Int×Int×Int×Int×Int×List (eC)):evFn (f103.E k) 9 103 Tryz.f103 (encL [(.pair qS (.pair qP (.pair qI (.pair qI (.pair qI (.pair qI (.pair qI (.list qC)))))))),(.pair qS (.pair qP (.pair qI (.pair qI (.pair qI (.pair qI (.pair qI (.list qC))))))))] (x0,x1)) =
 bif x0.1.1==x1.1.1&&(x0.1.2==x1.1.2&&true) then (bif x0.2.1.1==x1.2.1.1 then (bif (↑(x0.2.1.2.length):Int) != (↑(x1.2.1.2.length):Int) then (some (.bool false)) else (f103.l0 k k x0.2.1.2 x1.2.1.2 ((↑(x0.2.1.2.length):Int)) 0 x0.1.1 x0.1.2 x0.2.1.1 x0.2.2.1 x0.2.2.2.1 x0.2.2.2.2.1 x0.2.2.2.2.2.1 x0.2.2.2.2.2.2.1 x0.2.2.2.2.2.2.2 x1.1.1 x1.1.2 x1.2.1.1 x1.2.2.1 x1.2.2.2.1 x1.2.2.2.2.1 x1.2.2.2.2.2.1 x1.2.2.2.2.2.2.1 x1.2.2.2.2.2.2.2)) else (some (.bool false))) else (some (.bool false)):=by kernel_rfl
theorem f103.inl (k:Nat):InlOk Tryz.prog (f103.E k):=(inl_cons (by kernel_rfl) (by kernel_rfl) (inl_cons (by kernel_rfl) (by kernel_rfl) inl_nil))
theorem f103.sums (k:Nat):SumsOk Tryz.prog (f103.E k):=(sums_cons ok167 sums_nil)
end
section
noncomputable def S101r:Summ:=summ [tBk,tRq] Ws (fun (d:Bk×Rq)=>chk (pcsSmall d.1) (some (wishW d.1 d.2))) (fun w=>.agg [.int .i64 w.1.1,.int .i64 w.1.2,.int .i64 w.2.1,.int .i64 w.2.2.1,.int .i64 w.2.2.2.1,.int .i64 w.2.2.2.2.1,.int .i64 w.2.2.2.2.2.1,.ro tSg w.2.2.2.2.2.2])
theorem ok101r:SumOk Tryz.prog 101 S101r:=SumOk.ro (fun _=>rfl) ok101
theorem f103.l1_is (k n:Nat) (a b:List Pc) (hl:a.length=b.length) (hs:smallPcs a=true) (hn:a.length<n):f103.l1 k n b a a.length 0=some (.bool (samePcs a b)):=by
 unfold smallPcs at hs
 simp only [bA,dE] at hs
 have hz:(a.zip b).length=a.length:=by simp [hl]
 have:=loop_any0 (fun n i=>f103.l1 k n b a a.length (i:Nat)) (a.zip b) (fun x=>!eqPc x.1 x.2) (some (.bool false)) (some (.bool true)) (fun n i x hx=>by
  obtain ⟨ha,hb⟩:=zip_get hx
  have:=idx_lt ha
  have h3:=List.all_eq_true.1 hs.2 x.1 (List.mem_of_getElem? ha)
  rw [f103.l1_eq,idx_lt' ha,cT,idx_in ha,kT,idx_in hb,kT,rd_some (t:=tPc) ha,rd_some (t:=tPc) hb,wrap_succ (by omega),h3,kT,bS]) (fun n=>by rw [hz,f103.l1_eq,end_lt];rfl) (n:=n) (by omega)
 refine this.trans ?_
 unfold samePcs
 rw [any_notq fun x:Pc×Pc=>eqPc x.1 x.2,show (a.length==b.length)=true by simp [hl],tA]
 cases (a.zip b).all _ <;> rfl
noncomputable def S103:Summ:=summ [tRp,tRp] Bool (fun (d:Rp×Rp)=>chk (rpSmall d.1) (some (sameRp d.1 d.2))) .bool
theorem ok103:SumOk Tryz.prog 103 S103 :=
 sumq f103.E (fn:=Tryz.f103) (code:=f103.code) f103.sums f103.inl fun (d:Rp×Rp) x hx=>by
  obtain ⟨a,b⟩:=d
  obtain ⟨hs,hx⟩:=chk_some hx
  obtain rfl:=oJ hx
  have hs:rpSmall a=true:=hs
  unfold rpSmall at hs
  simp only [bA,dE] at hs
  obtain ⟨hs1,hs2⟩:=hs
  refine ⟨a.2.1.2.length+a.2.2.2.2.2.2.2.length+1,(f103.eq _ a b).trans ?_⟩
  show (bif eqSp a.1 b.1 then _ else _)=some (V.bool (sameRp a b))
  unfold sameRp
  cases eqSp a.1 b.1 with
  |false=>rfl
  |true =>
   rw [cT,tA]
   cases a.2.1.1==b.2.1.1 with
   |false=>rfl
   |true =>
    rw [cT,tA]
    by_cases hl:a.2.1.2.length=b.2.1.2.length
    ·rw [show ((↑(List.length a.2.1.2):Int) != (↑(List.length b.2.1.2):Int))=false by rw [hl,bne_self_eq_false],cF]
     have hz:(a.2.1.2.zip b.2.1.2).length=a.2.1.2.length:=by simp [hl]
     have:=loop_any0 (fun n i=>f103.l0 (a.2.1.2.length+a.2.2.2.2.2.2.2.length+1) n a.2.1.2 b.2.1.2 a.2.1.2.length (i:Nat) a.1.1 a.1.2 a.2.1.1 a.2.2.1 a.2.2.2.1 a.2.2.2.2.1 a.2.2.2.2.2.1 a.2.2.2.2.2.2.1 a.2.2.2.2.2.2.2 b.1.1 b.1.2 b.2.1.1 b.2.2.1 b.2.2.2.1 b.2.2.2.2.1 b.2.2.2.2.2.1 b.2.2.2.2.2.2.1 b.2.2.2.2.2.2.2) (a.2.1.2.zip b.2.1.2) (fun x=>x.1 != x.2) (some (.bool false))
      (some (.bool (a.2.2.1==b.2.2.1&&(a.2.2.2.1==b.2.2.2.1&&(a.2.2.2.2.1==b.2.2.2.2.1&&(a.2.2.2.2.2.1==b.2.2.2.2.2.1&&(a.2.2.2.2.2.2.1==b.2.2.2.2.2.2.1&&samePcs a.2.2.2.2.2.2.2 b.2.2.2.2.2.2.2))))))) (fun n i x hx=>by
       obtain ⟨ha,hb⟩:=zip_get hx
       have:=idx_lt ha
       rw [f103.l0_eq,idx_lt' ha,cT,idx_in ha,kT,idx_in hb,kT,rd_some (t:=tI) ha,rd_some (t:=tI) hb,wrap_succ (by omega)]) (fun n=>by
       rw [hz,f103.l0_eq,end_lt,cF]
       cases a.2.2.1==b.2.2.1 with
       |false=>rfl
       |true =>
        cases a.2.2.2.1==b.2.2.2.1 with
        |false=>rfl
        |true =>
         cases a.2.2.2.2.1==b.2.2.2.2.1 with
         |false=>rfl
         |true =>
          cases a.2.2.2.2.2.1==b.2.2.2.2.2.1 with
          |false=>rfl
          |true =>
           cases a.2.2.2.2.2.2.1==b.2.2.2.2.2.2.1 with
           |false=>rfl
           |true =>
            simp only [cT,tA]
            by_cases hp:a.2.2.2.2.2.2.2.length=b.2.2.2.2.2.2.2.length
            ·rw [show ((↑(List.length a.2.2.2.2.2.2.2):Int) != (↑(List.length b.2.2.2.2.2.2.2):Int))=false by rw [hp,bne_self_eq_false],cF]
             exact f103.l1_is _ _ _ _ hp hs2 (by omega)
            ·rw [show ((↑(List.length a.2.2.2.2.2.2.2):Int) != (↑(List.length b.2.2.2.2.2.2.2):Int))=true from bne_iff_ne.2 (by omega),cT]
             unfold samePcs
             rw [show (a.2.2.2.2.2.2.2.length==b.2.2.2.2.2.2.2.length)=false by simp [hp]]
             rfl) (n:=a.2.1.2.length+a.2.2.2.2.2.2.2.length+1) (by omega)
     refine this.trans ?_
     rw [any_zip_ne hl]
     unfold sameB
     cases a.2.1.2==b.2.1.2 <;> rfl
    ·rw [show ((↑(List.length a.2.1.2):Int) != (↑(List.length b.2.1.2):Int))=true from bne_iff_ne.2 (by omega),cT]
     rw [sameB_ne fun hh=>hl (by rw [hh])]
     rfl
end
section
@[reducible] noncomputable def dbl {R:Type} (x:Option R):Option R:=both x x
end
section
set_option maxRecDepth 100000
noncomputable def f37.E (k:Nat):Env:=mkEnv tt [(34,S34),(41,S41),(95,S95),(97,S97),(98,S98),(99,S99),(101,S101r),(102,S102)] [(96,Tryz.f96),(100,Tryz.f100),(162,Tryz.f162),(163,Tryz.f163),(158,Tryz.f158)] [(37,20,[.drop 63]),(162,5,[.kill (rg [(2,4),(7,41)]),.tidy,.tidy]),(158,2,[.kill (rg [(2,6),(9,18)]),.tidy,.tidy])] [(100,5568,(rg [(0,5),(8,86),(88,112)])),(162,262784,(rg [(0,1),(3,3),(5,9),(11,12)])),(158,524928,(rg [(2,9),(11,41)]))] k
noncomputable def f37.code:Go.Code:=cd Tryz.f37
noncomputable def f37.l0 (k n:Nat) (p0:Int) (p1:Int) (p2:Int) (p3:Int) (p4:Int) (p5:Int) (p6:Int) (p7:List (eL)) (p8:List (eR)):Option V :=
 atPath (f37.E k) n ⟨((.slw 563087396569456)::(.fn 163 [(.ptr 262336 (0) (0))])::.u::.u::.u::.u::.u::(.int .i64 p0)::(.int .i64 p1)::un 10),[((.slw 563087396569456)::(.fn 163 [(.ptr 262336 (0) (0))])::un 40),(.u::.u::(.ptr 2148007952 (0) (0))::.u::(.ptr 2148532240 (0) (0))::un 8),(.u::.u::.u::.u::.u::.u::(.ptr 3222798352 (0) (0))::(.ptr 3223060496 (0) (0))::un 105)],[(262336,.box [(.int .i64 p2)]),(2148007952,.box [(.int .i64 p3),(.slw 563087396569200),(.int .i64 p4),(.int .i64 p2),(.int .i64 p5),(.slw 563087396569456)]),(2148532240,.box [(.int .i64 p6),.nil,(.int .i64 p6),(.int .i64 p6),(.int .i64 p6),.nil]),(3222798352,.box [(.int .i64 p6),.nil,(.int .i64 p6),(.int .i64 p6),(.int .i64 p6),.nil]),(3223060496,.box [(.int .i64 p6),(.int .i64 p6),(.int .i64 p6),.nil,(.int .i64 p6),(.int .i64 p6),(.int .i64 p6),(.int .i64 p6),(.int .i64 p6),.nil]),(563087396569200,.row qL p7),(563087396569456,.row qR p8)]⟩ 9 0 37 [.c 1,.c 1,.c 1,.c 1,.c 1,.c 0,.c 1,.c 0,.c 1,.c 1,.c 1,.c 1,.c 1,.c 1,.c 1,.c 0,.c 0,.call 4 100,.c 1,.c 1,.c 0,.call 3 162,.c 1,.c 0,.call 2 158,.c 1,.c 0,.c 1,.c 0] [] f37.code (finK tt Tryz.f37)
noncomputable def f37.l1 (k n:Nat) (p0:Int) (p1:Int) (p2:Int) (p3:Int) (p4:Int) (p5:Int) (p6:Int) (p7:List (eL)) (p8:List (eR)):Option V :=
 atPath (f37.E k) n ⟨((.slw 281612419858800)::(.fn 163 [(.ptr 262336 (0) (0))])::.u::.u::.u::(.int .i64 p0)::(.int .i64 p1)::un 35),[(.u::.u::(.ptr 1074266128 (0) (0))::.u::(.ptr 1074790416 (0) (0))::un 8),(.u::.u::.u::.u::.u::.u::(.ptr 2149056528 (0) (0))::(.ptr 2149318672 (0) (0))::un 105)],[(262336,.box [(.int .i64 p2)]),(1074266128,.box [(.int .i64 p3),(.slw 281612419858544),(.int .i64 p4),(.int .i64 p2),(.int .i64 p5),(.slw 281612419858800)]),(1074790416,.box [(.int .i64 p6),.nil,(.int .i64 p6),(.int .i64 p6),(.int .i64 p6),.nil]),(2149056528,.box [(.int .i64 p6),.nil,(.int .i64 p6),(.int .i64 p6),(.int .i64 p6),.nil]),(2149318672,.box [(.int .i64 p6),(.int .i64 p6),(.int .i64 p6),.nil,(.int .i64 p6),(.int .i64 p6),(.int .i64 p6),(.int .i64 p6),(.int .i64 p6),.nil]),(281612419858544,.row qL p7),(281612419858800,.row qR p8)]⟩ 9 0 37 [.c 1,.c 1,.c 1,.c 1,.c 1,.c 0,.c 1,.c 0,.c 1,.c 1,.c 1,.c 1,.c 1,.c 1,.c 1,.c 0,.c 0,.call 4 100,.c 1,.c 1,.c 0,.call 3 162,.c 1,.c 1,.c 1,.c 0,.c 1,.c 0] [] f37.code (finK tt Tryz.f37)
theorem f37.l0_eq (k n:Nat) (p0:Int) (p1:Int) (p2:Int) (p3:Int) (p4:Int) (p5:Int) (p6:Int) (p7:List (eL)) (p8:List (eR)):f37.l0 k (n+1) p0 p1 p2 p3 p4 p5 p6 p7 p8 =
 bif decide (p1<p0) then (chk (decide ((0:Int)≤p1∧p1<(↑p8.length:Int))) (bif decide ((rd qR p8 (↑p1.toNat:Int)).1.2≤p2) then (bif p1==(-1:Int) then (some (.tup [(.agg [(.int .i64 p3),(.own qL p7),(.int .i64 p4),(.int .i64 p2),(.int .i64 p5),(.own qR p8)]),(.agg [(.int .i64 0),(.int .i64 0),(.int .i64 0),(.own qI ([])),(.int .i64 4),(.int .i64 0),(.int .i64 0),(.int .i64 0),(.int .i64 0),(.own qC ([]))]),(.int .i64 0)])) else (f37.l1 k k p1 (Go.IntKind.i64.wrap (p1+(1:Int))) p2 p3 p4 p5 p6 p7 p8)) else (f37.l0 k n p0 (Go.IntKind.i64.wrap (p1+(1:Int))) p2 p3 p4 p5 p6 p7 p8))) else (some (.tup [(.agg [(.int .i64 p3),(.own qL p7),(.int .i64 p4),(.int .i64 p2),(.int .i64 p5),(.own qR p8)]),(.agg [(.int .i64 0),(.int .i64 0),(.int .i64 0),(.own qI ([])),(.int .i64 4),(.int .i64 0),(.int .i64 0),(.int .i64 0),(.int .i64 0),(.own qC ([]))]),(.int .i64 0)])):=by kernel_rfl
theorem f37.l1_eq (k n:Nat) (p0:Int) (p1:Int) (p2:Int) (p3:Int) (p4:Int) (p5:Int) (p6:Int) (p7:List (eL)) (p8:List (eR)):f37.l1 k (n+1) p0 p1 p2 p3 p4 p5 p6 p7 p8 =
 bif decide (p1<(↑p8.length:Int)) then (chk (decide ((0:Int)≤p1∧p1<(↑p8.length:Int))) (bif !decide ((rd qR p8 (↑p1.toNat:Int)).1.2≤p2) then (chk (decide ((0:Int)≤p0∧p0<(↑p8.length:Int))) (f37.l1 k n (Go.IntKind.i64.wrap (p0+(1:Int))) (Go.IntKind.i64.wrap (p1+(1:Int))) p2 p3 p4 p5 p6 p7 (p8.set p0.toNat (rd qR p8 (↑p1.toNat:Int))))) else (f37.l1 k n p0 (Go.IntKind.i64.wrap (p1+(1:Int))) p2 p3 p4 p5 p6 p7 p8))) else (chk (decide ((0:Int)≤p0∧p0≤(↑p8.length:Int))) (chk (decide ((↑p8.length:Int)≤(↑p8.length:Int))) (chk (decide ((0:Int)≤(0:Int)∧(0:Int)≤p0)) (chk (decide (p0≤(↑(List.take p0.toNat p8++List.replicate ((↑p8.length:Int).toNat - p0.toNat) (dflt qR)++List.drop (p0.toNat+((↑p8.length:Int).toNat - p0.toNat)) p8).length:Int))) (some (.tup [(.agg [(.int .i64 p3),(.own qL p7),(.int .i64 p4),(.int .i64 p2),(.int .i64 p5),(.own qR (List.take (p0.toNat - 0) (List.drop 0 (List.take p0.toNat p8++List.replicate ((↑p8.length:Int).toNat - p0.toNat) (dflt qR)++List.drop (p0.toNat+((↑p8.length:Int).toNat - p0.toNat)) p8))))]),(.agg [(.int .i64 0),(.int .i64 0),(.int .i64 0),(.own qI ([])),(.int .i64 4),(.int .i64 0),(.int .i64 0),(.int .i64 0),(.int .i64 0),(.own qC ([]))]),(.int .i64 0)])))))):=by kernel_rfl
theorem f37.eq (k:Nat) (x0:(Int×List (eL)) ×
 Int×Int×Int×List (eR)) (x1:Int) (x2:(Int×Int)×Int×Int×eL):evFn (f37.E k) 9 37 Tryz.f37 (encL [(.pair (.pair qI (.list qL)) (.pair qI (.pair qI (.pair qI (.list qR))))),qI,(.pair qS (.pair qI (.pair qI qL)))] (x0,x1,x2)) =
 (chk (pcsSmall x0) (some (lookQ x0 x1 x2))).bind (fun y0=>bif y0.2 != (0:Int) then (some (.tup [(.agg [(.int .i64 0),(.own qL ([])),(.int .i64 0),(.int .i64 0),(.int .i64 0),(.own qR ([]))]),(.agg [(.int .i64 0),(.int .i64 0),(.int .i64 0),(.own qI ([])),(.int .i64 0),(.int .i64 0),(.int .i64 0),(.int .i64 0),(.int .i64 0),(.own qC ([]))]),(.int .i64 y0.2)])) else ((chk (bookMem x0) (some x0)).bind (fun y1=>bif y0.1 != (0:Int) then (some (.tup [(.agg [(.int .i64 y1.1.1),(.own qL y1.1.2),(.int .i64 y1.2.1),(.int .i64 y1.2.2.1),(.int .i64 y1.2.2.2.1),(.own qR y1.2.2.2.2)]),(.agg [(.int .i64 0),(.int .i64 0),(.int .i64 0),(.own qI ([])),(.int .i64 1),(.int .i64 y0.1),(.int .i64 0),(.int .i64 0),(.int .i64 0),(.own qC ([]))]),(.int .i64 0)])) else (bif x2.2.1==(3:Int) then ((chk (decide ((Bk.list x0).length<4611686018427387904)) (some (placeOf x0 x2.2.2.1))).bind (fun y2=>(chk (decide ((Bk.list x0).length<4611686018427387904)) (some (placeOf x0 x2.2.2.1))).bind (fun y3=>none))) else (bif x2.2.1==(4:Int) then ((chk (decide ((Bk.list x0).length<4611686018427387904)) (some (placeOf x0 x2.2.2.1))).bind (fun y2=>chk (decide ((0:Int)≤y2∧y2<(↑(x0.2.2.2.2.length):Int))) ((chk (pcsMem (Rs.pcs (rd qR x0.2.2.2.2 y2))) (some (grantR (rd qR x0.2.2.2.2 y2)))).bind (fun y3=>some (.tup [(.agg [(.int .i64 y1.1.1),(.own qL y1.1.2),(.int .i64 y1.2.1),(.int .i64 y1.2.2.1),(.int .i64 y1.2.2.2.1),(.own qR y1.2.2.2.2)]),(.agg [(.int .i64 y3.1.1),(.int .i64 y3.1.2),(.int .i64 y3.2.1.1),(.own qI y3.2.1.2),(.int .i64 y3.2.2.1),(.int .i64 y3.2.2.2.1),(.int .i64 y3.2.2.2.2.1),(.int .i64 y3.2.2.2.2.2.1),(.int .i64 y3.2.2.2.2.2.2.1),(.own qC y3.2.2.2.2.2.2.2)]),(.int .i64 0)]))))) else (bif x2.2.1==(5:Int) then ((chk (pcsSmall x0) (some (loadQ x0 x2.2.2.1 x2.1.1))).bind (fun y2=>some (.tup [(.agg [(.int .i64 y1.1.1),(.own qL y1.1.2),(.int .i64 y1.2.1),(.int .i64 y1.2.2.1),(.int .i64 y1.2.2.2.1),(.own qR y1.2.2.2.2)]),(.agg [(.int .i64 0),(.int .i64 0),(.int .i64 0),(.own qI ([])),(.int .i64 5),(.int .i64 0),(.int .i64 0),(.int .i64 0),(.int .i64 y2.1),(.own qC ([]))]),(.int .i64 0)]))) else (bif x2.2.1==(6:Int) then (f37.l0 k k ((↑y1.2.2.2.2.length:Int)) 0 x2.1.1 y1.1.1 y1.2.1 y1.2.2.2.1 0 y1.1.2 y1.2.2.2.2) else ((chk (pcsSmall x0) (some (wishW x0 x2))).bind (fun y2=>(chk (decide (y2.2.2.2.2.2.2.length*40≤140737488355328)) (some (planW x0.1 ((y2.1,y2.2.1,y2.2.2.1,y2.2.2.2.1,y2.2.2.2.2.1,y2.2.2.2.2.2.1),y2.2.2.2.2.2.2)))).bind (fun y3=>bif decide ((↑y3.2.2.length:Int)>(0:Int)) then (dbl (both (dbl (some (.tup [(.agg [(.int .i64 y1.1.1),(.own qL y1.1.2),(.int .i64 y1.2.1),(.int .i64 y1.2.2.1),(.int .i64 y1.2.2.2.1),(.own qR y1.2.2.2.2)]),(.agg [(.int .i64 0),(.int .i64 0),(.int .i64 y3.2.1),(.own qI y3.2.2),(.int .i64 3),(.int .i64 0),(.int .i64 0),(.int .i64 0),(.int .i64 0),(.own qC ([]))]),(.int .i64 0)]))) (some (.tup [(.agg [(.int .i64 y1.1.1),(.own qL y1.1.2),(.int .i64 y1.2.1),(.int .i64 y1.2.2.1),(.int .i64 y1.2.2.2.1),(.own qR y1.2.2.2.2)]),(.agg [(.int .i64 0),(.int .i64 0),(.int .i64 y3.2.1),(.own qI y3.2.2),(.int .i64 3),(.int .i64 0),(.int .i64 0),(.int .i64 0),(.int .i64 0),(.own qC ([]))]),(.int .i64 0)])))) else ((chk (pcsSmall x0&&(bookMem x0&&(decide (y3.1.length<4611686018427387904)&&pcsMem y3.1))) (some (putQ x0 x1 x2 y3.1))).bind (fun y4=>some (.tup [(.agg [(.int .i64 y4.1.1.1),(.own qL y4.1.1.2),(.int .i64 y4.1.2.1),(.int .i64 y4.1.2.2.1),(.int .i64 y4.1.2.2.2.1),(.own qR y4.1.2.2.2.2)]),(.agg [(.int .i64 y4.2.1.1.1),(.int .i64 y4.2.1.1.2),(.int .i64 y4.2.1.2.1.1),(.own qI y4.2.1.2.1.2),(.int .i64 y4.2.1.2.2.1),(.int .i64 y4.2.1.2.2.2.1),(.int .i64 y4.2.1.2.2.2.2.1),(.int .i64 y4.2.1.2.2.2.2.2.1),(.int .i64 y4.2.1.2.2.2.2.2.2.1),(.own qC y4.2.1.2.2.2.2.2.2.2)]),(.int .i64 y4.2.2)]))))))))))))):=by kernel_rfl
theorem f37.inl (k:Nat):InlOk Tryz.prog (f37.E k):=(inl_cons (by kernel_rfl) (by kernel_rfl) (inl_cons (by kernel_rfl) (by kernel_rfl) (inl_cons (by kernel_rfl) (by kernel_rfl) (inl_cons (by kernel_rfl) (by kernel_rfl) (inl_cons (by kernel_rfl) (by kernel_rfl) inl_nil)))))
theorem f37.sums (k:Nat):SumsOk Tryz.prog (f37.E k):=(sums_cons ok34 (sums_cons ok41 (sums_cons ok95 (sums_cons ok97 (sums_cons ok98 (sums_cons ok99 (sums_cons ok101r (sums_cons ok102 sums_nil))))))))
end
section
def doneR:Rp:=((0,0),(0,[]),4,0,0,0,0,[])
def toldR (v:Int):Rp:=((0,0),(0,[]),5,0,0,0,v,[])
def cutR' (c:Ct):Rp:=((0,0),c,3,0,0,0,0,[])
def goneB (now:Int) (r:Rs):Bool:=decide (r.1.2≤now)
def advB (b:Bk) (now:Int):Bk:=(b.1,b.2.1,now,b.2.2.2.1,b.2.2.2.2.filter fun r=>!goneB now r)
noncomputable def doQ (b:Bk) (o:Int) (q:Rq):Bk×(Rp×Int) :=
 bif (lookQ b o q).2 != 0 then (Bk.zero,Rp.zero,(lookQ b o q).2) else
 bif (lookQ b o q).1 != 0 then (b,codedOf (lookQ b o q).1,0) else
 bif q.2.1==3 then ((b.1,b.2.1,b.2.2.1,b.2.2.2.1,b.2.2.2.2.eraseIdx (placeOf b q.2.2.1).toNat),doneR,0) else
 bif q.2.1==4 then (b,grantR (rd tRs b.2.2.2.2 (placeOf b q.2.2.1)),0) else
 bif q.2.1==5 then (b,toldR (loadQ b q.2.2.1 q.1.1).1,0) else
 bif q.2.1==6 then (advB b q.1.1,doneR,0) else
 bif decide (((planW b.1 (wishQ b q)).2.2.length:Int)>0) then (b,cutR' (planW b.1 (wishQ b q)).2,0) else putQ b o q (planW b.1 (wishQ b q)).1
theorem f37.l1_is (k:Nat) (now v s x z:Int) (gl:List Lk) (rs:List Rs) (hl:rs.length<4611686018427387904):∀ (n i w:Nat) (row:List Rs),row.length=rs.length→i≤rs.length→rs.length<n+i→w<i→row.take w=(rs.take i).filter (fun r=>!goneB now r)→row.drop i=rs.drop i →
  f37.l1 k n w i now v s x z gl row=some (resBRE ((((v,gl),s,now,x,rs.filter fun r=>!goneB now r):Bk),doneR,0))
 |0,i,w,row,_,h,h',_,_,_=>by omega
 |n+1,i,w,row,e1,h,h',hw,e2,e3=>by
  rw [f37.l1_eq]
  by_cases hlt:i<rs.length
  ·have hx:row[i]? = some rs[i]:=by
    have:=congrArg List.head? e3
    rw [List.head?_drop,List.head?_drop] at this
    rw [this]
    exact gE hlt
   have hi:=idx_lt hx
   have hwl:w<row.length:=by omega
   have hcond:decide ((0:Int)≤(w:Int)∧(w:Int)<(row.length:Int))=true:=dT (by omega)
   have hd:row.drop (i+1)=rs.drop (i+1):=by rw [← List.drop_drop,e3,List.drop_drop]
   rw [idx_lt' hx,cT,idx_in hx,kT,Int.toNat_natCast,rd_some (t:=tRs) hx,wrap_succ (by omega),wrap_succ (by omega),hcond,kT,Int.toNat_natCast,
    show decide ((rs[i]).1.2≤now)=goneB now rs[i] from rfl]
   cases hg:goneB now rs[i] with
   |true =>
    rw [nT,cF]
    exact f37.l1_is k now v s x z gl rs hl n (i+1) w row e1 (by omega) (by omega) (by omega) (by
     rw [e2,List.take_succ_eq_append_getElem hlt,List.filter_append,List.filter_cons,hg]
     simp) hd
   |false =>
    rw [nF,cT]
    exact f37.l1_is k now v s x z gl rs hl n (i+1) (w+1) (row.set w rs[i]) (by rw [List.length_set];exact e1) (by omega) (by omega) (by omega) (by
     rw [List.take_succ_eq_append_getElem (by rw [List.length_set];exact hwl),List.take_set_of_le (Nat.le_refl w),List.getElem_set_self,e2,List.take_succ_eq_append_getElem hlt,List.filter_append,List.filter_cons,hg]
     simp) (by rw [List.drop_set_of_lt (by omega)];exact hd)
  ·obtain rfl:i=rs.length:=by omega
   have hle:w≤row.length:=by omega
   have e4:row.take w=rs.filter fun r=>!goneB now r:=by rw [e2,List.take_length]
   rw [show decide (((rs.length:Nat):Int)<(row.length:Int))=false from dF (by omega),cF,chk_eq (dT (by omega)),chk_eq (dT (by omega)),chk_eq (dT (by omega)),Int.toNat_natCast,Int.toNat_natCast]
   have e5:List.take (w - 0) (List.drop 0 (List.take w row++List.replicate (row.length - w) (dflt tRs)++List.drop (w+(row.length - w)) row))=rs.filter fun r=>!goneB now r:=by
    rw [Nat.sub_zero,List.drop_zero,List.append_assoc,List.take_append_of_le_length (by rw [List.length_take];omega),List.take_take,Nat.min_self,e4]
   rw [chk_eq (dT (by simp only [lA,List.length_take,List.length_replicate,List.length_drop];omega)),e5]
   rfl
theorem f37.l0_is (k:Nat) (now v s x z:Int) (gl:List Lk) (rs:List Rs) (hl:rs.length<4611686018427387904) (hk:rs.length<k):∀ (n i:Nat),i≤rs.length→rs.length<n+i→(∀ r∈rs.take i,goneB now r=false) →
  f37.l0 k n rs.length i now v s x z gl rs=some (resBRE ((((v,gl),s,now,x,rs.filter fun r=>!goneB now r):Bk),doneR,0))
 |0,i,h,h',_=>by omega
 |n+1,i,h,h',hall=>by
  rw [f37.l0_eq]
  by_cases hlt:i<rs.length
  ·have hx:=gE hlt
   rw [idx_lt' hx,cT,idx_in hx,kT,Int.toNat_natCast,rd_some (t:=tRs) hx,wrap_succ (by omega),show decide ((rs[i]).1.2≤now)=goneB now rs[i] from rfl,show ((i:Int) == -1)=false from beq_eq_false_iff_ne.2 (by omega),cF]
   cases hg:goneB now rs[i] with
   |true =>
    rw [cT]
    refine f37.l1_is k now v s x z gl rs hl k (i+1) i rs rfl (by omega) (by omega) (by omega) ?_ rfl
    rw [List.take_succ_eq_append_getElem hlt,List.filter_append,List.filter_cons,hg,List.filter_eq_self.2 fun r hr=>by rw [hall r hr];rfl]
    simp
   |false =>
    rw [cF]
    refine f37.l0_is k now v s x z gl rs hl hk n (i+1) (by omega) (by omega) fun r hr=>?_
    rw [List.take_succ_eq_append_getElem hlt] at hr
    rcases List.mem_append.1 hr with hr|hr
    ·exact hall r hr
    ·rw [List.mem_singleton.1 hr];exact hg
  ·obtain rfl:i=rs.length:=by omega
   rw [List.take_length] at hall
   rw [end_lt,cF,List.filter_eq_self.2 fun r hr=>by rw [hall r hr];rfl]
   rfl
theorem route_good (s:Int×Int) (d:Gr×(List Int×(Int×(Int×Int)))):cpPiece (s,(routeV d).1)=true:=by
 have h:=(routeV_is d).2
 unfold routeQ at h
 cases hf:routeForm d.1 d.2.1 d.2.2.1 d.2.2.2.1 d.2.2.2.2 with
 |false =>
  rw [hf,cF] at h
  rw [h]
  rfl
 |true =>
  rw [hf,cT] at h
  rcases h.2.either with ⟨_,h2,_⟩|⟨h2,_⟩
  ·exact may_piece s h2
  ·rw [h2];rfl
theorem planFrom_mem (g:Gr) (src dst want:Int):∀ (ss:List Sg) (out:List Pc),out.all cpPiece=true→(planFrom g src dst want ss out).1.all cpPiece=true∧(planFrom g src dst want ss out).1.length≤out.length+ss.length
 | [],out,h=>⟨h,by simp [planFrom]⟩
 |s::ss,out,h=>by
  unfold planFrom
  cases ((routeV (g,s.2,src,dst,want)).1.length:Int)==0 with
  |true=>rw [cT];exact ⟨rfl,Nat.zero_le _⟩
  |false =>
   rw [cF]
   have:=planFrom_mem g src dst want ss (out++[(s.1,(routeV (g,s.2,src,dst,want)).1)]) (by
    rw [List.all_append,h,List.all_cons,route_good]
    rfl)
   refine ⟨this.1,?_⟩
   have h2:=this.2
   rw [lA,List.length_singleton] at h2
   simp only [List.length_cons]
   omega
theorem planW_mem {g:Gr} {w:Wq} (h:w.2.length≤8):pcsMem (planW g w).1=true∧(planW g w).1.length≤8:=by
 obtain ⟨h1,h2⟩:=planFrom_mem g w.1.2.2.2.1 w.1.2.2.2.2.1 w.1.2.2.2.2.2 w.2 [] rfl
 have h3:(planW g w).1.length≤8:=by
  simp only [List.length_nil] at h2
  exact Nat.le_trans h2 (by omega)
 refine ⟨?_,h3⟩
 unfold pcsMem
 rw [show (planW g w).1.all cpPiece=true from h1,dT (by omega),Bool.and_self]
theorem own_place {b:Bk} {o id:Int} (h:ownCode b o id=0):0≤placeOf b id:=by
 rcases place_spec b id with ⟨h3,_⟩|⟨j,r,h3,h4,_⟩
 ·unfold ownCode at h
  rw [h3] at h
  exact absurd (show (5:Int)=0 from h) (by decide)
 ·omega
theorem look_code {b:Bk} {o:Int} {q:Rq} (h:(lookQ b o q).2=0) (h1:(lookQ b o q).1=0):codeOf b o q=0:=by
 obtain ⟨hb,ho,hq⟩:=look_book h
 unfold lookQ at h1
 rw [hb,hq,dF (by omega:¬ o<0),dF (by omega:¬ o ≥ 4)] at h1
 exact h1
theorem req_kind {q:Rq} (h:reqMay q=true):1≤q.2.1∧q.2.1≤6:=by
 unfold reqMay at h
 simp only [bA,dE] at h
 exact ⟨h.1,h.2.1⟩
theorem ask_few {b:Bk} {o:Int} {q:Rq} (h:(lookQ b o q).2=0) (h1:(lookQ b o q).1=0) (hk:q.2.1=1∨q.2.1=2):((slicesQ b q.1 q.2.2.1).1.length:Int)≤b.2.1:=by
 have hc:=look_code h h1
 have hf:fewSegs b q=true:=by
  cases hz:fewSegs b q with
  |true=>rfl
  |false =>
   unfold codeOf at hc
   rcases hk with hk|hk
   ·rw [show (q.2.1==1)=true by rw [hk];rfl,cT] at hc
    unfold codeR at hc
    rw [hz] at hc
    revert hc
    cases hasV b.1.1 q.2.2.2.1 <;> cases hasV b.1.1 q.2.2.2.2.1 <;> cases q.2.2.2.1==q.2.2.2.2.1 <;> cases inTime b q <;> cases q.2.2.2.2.2==0 <;> cases decide ((b.2.2.2.2.length:Int) ≥ 8) <;> cases decide (b.2.2.2.1>1048576) <;> intro hc <;> exact absurd hc (by simp)
   ·rw [show (q.2.1==1)=false by rw [hk];rfl,show (q.2.1==2)=true by rw [hk];rfl,cF,cT] at hc
    unfold codeM at hc
    rw [hz] at hc
    cases ho:ownCode b o q.2.2.1 != 0 with
    |true=>rw [ho,cT] at hc;simp [hc] at ho
    |false =>
     rw [ho,cF] at hc
     revert hc
     cases inTime b q <;> cases q.2.2.2.2.2==0 <;> intro hc <;> exact absurd hc (by simp)
 exact oD hf
theorem look_ids {b:Bk} {o:Int} {q:Rq} (h:(lookQ b o q).2=0) (h1:(lookQ b o q).1=0) (hk:q.2.1=3∨q.2.1=4):0≤placeOf b q.2.2.1:=by
 have hc:=look_code h h1
 unfold codeOf at hc
 refine own_place (o:=o) ?_
 rcases hk with hk|hk <;> (rw [hk] at hc;exact hc)
def relB (b:Bk) (o:Int) (q:Rq):Bool:=(lookQ b o q).2==0&&((lookQ b o q).1==0&&q.2.1==3)
noncomputable def S37:Summ:=summ [tBk,tI,tRq] (Bk×(Rp×Int)) (fun (d:Bk×(Int×Rq))=>chk (pcsSmall d.1&&(bookMem d.1 && !relB d.1 d.2.1 d.2.2)) (some (doQ d.1 d.2.1 d.2.2))) resBRE
theorem ok37:SumOk Tryz.prog 37 S37 :=
 sumq f37.E (fn:=Tryz.f37) (code:=f37.code) f37.sums f37.inl fun (d:Bk×(Int×Rq)) x hx=>by
  obtain ⟨b,o,q⟩:=d
  obtain ⟨hs,hx⟩:=chk_some hx
  obtain rfl:=oJ hx
  have hs:(pcsSmall b&&(bookMem b && !relB b o q))=true:=hs
  simp only [bA,Bool.not_eq_true'] at hs
  obtain ⟨h1,h2,h3⟩:=hs
  refine ⟨b.2.2.2.2.length+1,(f37.eq _ b o q).trans ?_⟩
  show _=some (resBRE (doQ b o q))
  unfold doQ
  rw [h1,kT,kT,bS,h2,kT,bS]
  cases hl:(lookQ b o q).2 != 0 with
  |true=>rfl
  |false =>
   rw [cF,cF]
   cases hc:(lookQ b o q).1 != 0 with
   |true=>rfl
   |false =>
    rw [cF,cF]
    have hl0:(lookQ b o q).2=0:=by simpa using hl
    have hc0:(lookQ b o q).1=0:=by simpa using hc
    obtain ⟨hb,ho,hq⟩:=look_book hl0
    have hf:=form_parts (book_ok hb).1.1
    have hf5:b.2.2.2.2.length≤8:=hf.2.2.2.2
    have hf2:1≤b.2.1∧b.2.1≤8:=hf.2.1
    have hbl:decide ((Bk.list b).length<4611686018427387904)=true:=dT (show b.2.2.2.2.length<_ by omega)
    have hkk:=req_kind hq
    cases k3:q.2.1==3 with
    |true =>
     unfold relB at h3
     rw [hl0,hc0,k3] at h3
     exact absurd h3 (by decide)
    |false =>
     rw [cF,cF]
     cases k4:q.2.1==4 with
     |true =>
      have hp:=look_ids hl0 hc0 (.inr (by simpa using k4))
      have hp2:=place_lt hp
      have hx:b.2.2.2.2[(placeOf b q.2.2.1).toNat]? = some b.2.2.2.2[(placeOf b q.2.2.1).toNat]:=gE (by omega)
      have hm:pcsMem (Rs.pcs (rd tRs b.2.2.2.2 (placeOf b q.2.2.1)))=true:=by
       have:=rd_some (t:=tRs) hx
       rw [Int.toNat_of_nonneg hp] at this
       rw [this]
       unfold bookMem at h2
       simp only [bA] at h2
       exact List.all_eq_true.1 h2.2.2 _ (List.mem_of_getElem? hx)
      rw [cT,cT,hbl,kT,bS,chk_eq (dT ⟨hp,hp2⟩),hm,kT,bS]
     |false =>
      rw [cF,cF]
      cases k5:q.2.1==5 with
      |true =>
       rw [cT,cT]
       rfl
      |false =>
       rw [cF,cF]
       cases k6:q.2.1==6 with
       |true =>
        rw [cT,cT]
        exact f37.l0_is _ q.1.1 b.1.1 b.2.1 b.2.2.2.1 0 b.1.2 b.2.2.2.2 (by omega) (by omega) _ 0 (by omega) (by omega) (by simp)
       |false =>
        have hk:q.2.1=1∨q.2.1=2:=by
         simp only [beq_eq_false_iff_ne,ne_eq] at k3 k4 k5 k6
         omega
        have hfew:=ask_few hl0 hc0 hk
        have h8:(wishQ b q).2.length≤8:=by
         show (slicesQ b q.1 q.2.2.1).1.length≤8
         omega
        obtain ⟨m1,m2⟩:=planW_mem (g:=b.1) h8
        rw [cF,cF,kT,bS,chk_eq (dT (show (wishW b q).2.2.2.2.2.2.length*40≤140737488355328 from by have:(wishW b q).2.2.2.2.2.2.length≤8:=h8;omega)),bS]
        show (bif decide (((planW b.1 (wishQ b q)).2.2.length:Int)>0) then _ else _)=_
        simp only [both_self]
        cases decide (((planW b.1 (wishQ b q)).2.2.length:Int)>0) with
        |true=>rfl
        |false =>
         have hw:(((wishW b q).1,(wishW b q).2.1,(wishW b q).2.2.1,(wishW b q).2.2.2.1,(wishW b q).2.2.2.2.1,(wishW b q).2.2.2.2.2.1),(wishW b q).2.2.2.2.2.2)=wishQ b q:=rfl
         rw [cF,cF,hw,chk_eq (show (true&&(true&&(decide ((planW b.1 (wishQ b q)).1.length<4611686018427387904)&&pcsMem (planW b.1 (wishQ b q)).1)))=true by rw [m1,dT (by omega)];rfl),bS]
end
section
set_option maxRecDepth 100000
noncomputable def f38.E (k:Nat):Env:=mkEnv tt [(37,S37),(41,S41),(45,S45),(101,S101),(103,S103),(104,S104)] [] [] [] k
noncomputable def f38.code:Go.Code:=cd Tryz.f38
theorem f38.eq (k:Nat) (x0:(Int×List (eL)) ×
 Int×Int×Int×List (eR)) (x1:Int) (x2:(Int×Int)×Int×Int×eL) (x3:(Int×Int)×(eP)×Int×Int×Int×Int×Int×List (eC)):evFn (f38.E k) 9 38 Tryz.f38 (encL [(.pair (.pair qI (.list qL)) (.pair qI (.pair qI (.pair qI (.list qR))))),qI,(.pair qS (.pair qI (.pair qI qL))),(.pair qS (.pair qP (.pair qI (.pair qI (.pair qI (.pair qI (.pair qI (.list qC))))))))] (x0,x1,x2,x3)) =
 (chk (pcsSmall x0&&(bookMem x0 && !relB x0 x1 x2)) (some (doQ x0 x1 x2))).bind (fun y0=>bif y0.2.2 != (0:Int) then (some (.tup [(.agg [(.int .i64 0),(.own qL ([])),(.int .i64 0),(.int .i64 0),(.int .i64 0),(.own qR ([]))]),(.bool false),(.int .i64 y0.2.2)])) else ((chk (rpSmall y0.2.1) (some (sameRp y0.2.1 x3))).bind (fun y1=>bif asksB x2 then (bif y0.2.1.2.2.1 != (1:Int) then (bif x3.2.2.1==(2:Int) then ((chk (pcsSmall x0&&(bookMem x0&&(decide (x3.2.2.2.2.2.2.2.length<4611686018427387904)&&pcsMem x3.2.2.2.2.2.2.2))) (some (putQ x0 x1 x2 x3.2.2.2.2.2.2.2))).bind (fun y2=>bif y2.2.2==(0:Int) then ((chk (rpSmall y2.2.1) (some (sameRp y2.2.1 x3))).bind (fun y3=>bif !y3 then (some (.tup [(.agg [(.int .i64 0),(.own qL ([])),(.int .i64 0),(.int .i64 0),(.int .i64 0),(.own qR ([]))]),(.bool false),(.int .i64 0)])) else (some (.tup [(.agg [(.int .i64 y2.1.1.1),(.own qL y2.1.1.2),(.int .i64 y2.1.2.1),(.int .i64 y2.1.2.2.1),(.int .i64 y2.1.2.2.2.1),(.own qR y2.1.2.2.2.2)]),(.bool true),(.int .i64 0)])))) else (some (.tup [(.agg [(.int .i64 0),(.own qL ([])),(.int .i64 0),(.int .i64 0),(.int .i64 0),(.own qR ([]))]),(.bool false),(.int .i64 0)])))) else (bif x3.2.2.1==(3:Int) then ((chk (rpSmall x3) (some (sameRp x3 (((0:Int),(0:Int)),x3.2.1,(3:Int),(0:Int),(0:Int),(0:Int),(0:Int),[])))).bind (fun y2=>bif y2 then ((chk (pcsSmall x0) (some (wishW x0 x2))).bind (fun y3=>(chk (decide (x3.2.1.2.length<4611686018427387904)&&decide (y3.2.2.2.2.2.2.length<4611686018427387904)) (some (provenW x0.1 ((y3.1,y3.2.1,y3.2.2.1,y3.2.2.2.1,y3.2.2.2.2.1,y3.2.2.2.2.2.1),y3.2.2.2.2.2.2) x3.2.1))).bind (fun y4=>bif !y4 then (some (.tup [(.agg [(.int .i64 0),(.own qL ([])),(.int .i64 0),(.int .i64 0),(.int .i64 0),(.own qR ([]))]),(.bool false),(.int .i64 0)])) else (some (.tup [(.agg [(.int .i64 y0.1.1.1),(.own qL y0.1.1.2),(.int .i64 y0.1.2.1),(.int .i64 y0.1.2.2.1),(.int .i64 y0.1.2.2.2.1),(.own qR y0.1.2.2.2.2)]),(.bool true),(.int .i64 0)]))))) else (some (.tup [(.agg [(.int .i64 0),(.own qL ([])),(.int .i64 0),(.int .i64 0),(.int .i64 0),(.own qR ([]))]),(.bool false),(.int .i64 0)])))) else (bif !y1 then (some (.tup [(.agg [(.int .i64 0),(.own qL ([])),(.int .i64 0),(.int .i64 0),(.int .i64 0),(.own qR ([]))]),(.bool false),(.int .i64 0)])) else (some (.tup [(.agg [(.int .i64 y0.1.1.1),(.own qL y0.1.1.2),(.int .i64 y0.1.2.1),(.int .i64 y0.1.2.2.1),(.int .i64 y0.1.2.2.2.1),(.own qR y0.1.2.2.2.2)]),(.bool true),(.int .i64 0)]))))) else (bif !y1 then (some (.tup [(.agg [(.int .i64 0),(.own qL ([])),(.int .i64 0),(.int .i64 0),(.int .i64 0),(.own qR ([]))]),(.bool false),(.int .i64 0)])) else (some (.tup [(.agg [(.int .i64 y0.1.1.1),(.own qL y0.1.1.2),(.int .i64 y0.1.2.1),(.int .i64 y0.1.2.2.1),(.int .i64 y0.1.2.2.2.1),(.own qR y0.1.2.2.2.2)]),(.bool true),(.int .i64 0)])))) else (bif !y1 then (some (.tup [(.agg [(.int .i64 0),(.own qL ([])),(.int .i64 0),(.int .i64 0),(.int .i64 0),(.own qR ([]))]),(.bool false),(.int .i64 0)])) else (some (.tup [(.agg [(.int .i64 y0.1.1.1),(.own qL y0.1.1.2),(.int .i64 y0.1.2.1),(.int .i64 y0.1.2.2.1),(.int .i64 y0.1.2.2.2.1),(.own qR y0.1.2.2.2.2)]),(.bool true),(.int .i64 0)])))))):=by kernel_rfl
theorem f38.inl (k:Nat):InlOk Tryz.prog (f38.E k):=inl_nil
theorem f38.sums (k:Nat):SumsOk Tryz.prog (f38.E k):=(sums_cons ok37 (sums_cons ok41 (sums_cons ok45 (sums_cons ok101 (sums_cons ok103 (sums_cons ok104 sums_nil))))))
end
end Go.Proofs.YtkflbkcfabnomaaGreat.R
