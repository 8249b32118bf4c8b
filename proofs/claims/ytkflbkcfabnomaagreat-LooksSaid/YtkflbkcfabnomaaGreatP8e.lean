import Derived.Test.YtkflbkcfabnomaaGreatP8d
namespace Go.Proofs.YtkflbkcfabnomaaGreat.R
set_option linter.unusedVariables false
set_option linter.unusedSimpArgs false
section
open Go
noncomputable def S156:Summ:=summ [tG] Gr (fun (g:Gr)=>chk (decide (g.2.length*24≤140737488355328)) (some g)) (fun g=>.agg [.int .i64 g.1,.own tLk g.2])
theorem ok156:SumOk Tryz.prog 156 S156 :=
 sumq f156.E (fn:=Tryz.f156) (code:=f156.code) f156.sums f156.inl fun (g:Gr) x hx=>by
  obtain ⟨hb,hx⟩:=chk_some hx
  obtain rfl:=oJ hx
  refine ⟨0,(f156.eq 0 g).trans ?_⟩
  rw [show decide (List.length g.2*24≤140737488355328)=true from hb,kT,bS]
def rateOn (link:Int) (ps:List Pt):Int:=((ps.filter fun p=>amongB p.2 link).map fun p=>p.1).sum
def loadPs (link t:Int) (ps:List Pc):Int:=((ps.filter fun p=>hasAt p.1 t).map fun p=>rateOn link p.2).sum
def loadR (r:Rs) (link t:Int):Int:=loadPs link t r.pcs
def goodPt (p:Pt):Bool:=rateB p.1&&decide (p.2.length≤64)
def goodPc (p:Pc):Bool:=decide (p.2.length≤16)&&p.2.all goodPt
def goodR (r:Rs):Bool:=decide (r.pcs.length≤8)&&r.pcs.all goodPc
theorem rateOn_cons (link:Int) (p:Pt) (ps:List Pt):rateOn link (p::ps)=(bif amongB p.2 link then p.1 else 0)+rateOn link ps:=by
 unfold rateOn
 rw [List.filter_cons]
 cases amongB p.2 link
 ·simp
 ·simp
theorem rateOn_pos {link:Int}:∀ {ps:List Pt},ps.all goodPt=true→0≤rateOn link ps
 | [],_=>by simp [rateOn]
 |p::ps,h=>by
  simp only [List.all_cons,bA] at h
  have h1:=rateOn_pos (link:=link) h.2
  have h2:0≤p.1∧p.1≤maxRate:=oD (bA _ _ |>.mp h.1).1
  rw [rateOn_cons]
  cases amongB p.2 link
  ·simpa using h1
  ·simp only [cond_true];omega
theorem loadPs_cons (link t:Int) (p:Pc) (ps:List Pc):loadPs link t (p::ps)=(bif hasAt p.1 t then rateOn link p.2 else 0)+loadPs link t ps:=by
 unfold loadPs
 rw [List.filter_cons]
 cases hasAt p.1 t
 ·simp
 ·simp
theorem loadPs_pos {link t:Int}:∀ {ps:List Pc},ps.all goodPc=true→0≤loadPs link t ps
 | [],_=>by simp [loadPs]
 |p::ps,h=>by
  simp only [List.all_cons,bA] at h
  have h1:=loadPs_pos (link:=link) (t:=t) h.2
  have h2:=rateOn_pos (link:=link) (bA _ _ |>.mp h.1).2
  rw [loadPs_cons]
  cases hasAt p.1 t
  ·simpa using h1
  ·simp only [cond_true];omega
def overV (t bound:Int):V:=bif decide (t≤bound) then .tup [.int .i64 t,.bool true] else .tup [.int .i64 0,.bool false]
theorem f198.l1_is (k m0:Nat) (link t bound:Int) (hbd:rateB bound=true) (x6 x7 x8 x9 x10 x11 x12:Int) (ps:List Pc) (i:Nat) (p:Pc) (hp:ps[i]? = some p) (hg:goodPc p=true) (hps:ps.length≤8) (rest:Int) (hr:0≤rest)
  (hrest:∀ a,0≤a→a≤bound→f198.l0 k m0 link t bound a ((i+1:Nat):Int) x6 x7 x8 x9 x10 x11 x12 ps=some (overV (a+rest) bound)):∀ (n j:Nat) (a:Int),j≤p.2.length→p.2.length<n+j→0≤a→a≤bound →
  f198.l1 k n m0 link t bound a i j x6 x7 x8 x9 x10 x11 x12 ps=some (overV (a+rateOn link (p.2.drop j)+rest) bound)
 |0,j,a,h,h',_,_=>by omega
 |n+1,j,a,h,h',h0,h1=>by
  have hg':=hg
  unfold goodPc at hg'
  simp only [bA,dE] at hg'
  have hb:0≤bound∧bound≤4611686018427387904:=oD hbd
  rw [f198.l1_eq,idx_in hp,kT,rd_some (t:=tPc) hp]
  by_cases hlt:j<p.2.length
  ·have hx:=gE hlt
   have hgt:=List.all_eq_true.1 hg'.2 p.2[j] (List.getElem_mem hlt)
   unfold goodPt at hgt
   simp only [bA,dE] at hgt
   have hrt:0≤p.2[j].1∧p.2[j].1≤4611686018427387904:=oD hgt.1
   have hda:(p.2.drop (j+1)).all goodPt=true:=List.all_eq_true.2 fun y hy=>List.all_eq_true.1 hg'.2 y (List.mem_of_mem_drop hy)
   have hpos:=rateOn_pos (link:=link) hda
   rw [idx_lt' hx,cT,kT,idx_in hx,kT,rd_some (t:=tP) hx,dT (by omega:p.2[j].2.length<4611686018427387904),kT,bS,wrap_succ (i:=j) (by omega),List.drop_eq_getElem_cons hlt,rateOn_cons]
   cases amongB p.2[j].2 link with
   |false =>
    rw [nF,cT,cond_false,Int.zero_add]
    exact f198.l1_is k m0 link t bound hbd x6 x7 x8 x9 x10 x11 x12 ps i p hp hg hps rest hr hrest n (j+1) a (by omega) (by omega) h0 h1
   |true =>
    rw [nT,cF,cond_true,wrap64 (n:=bound - a) (by omega)]
    by_cases hc:p.2[j].1>bound - a
    ·rw [dT hc,cT]
     unfold overV
     rw [dF (by omega),cond_false]
    ·rw [dF hc,cF,wrap64 (n:=a+p.2[j].1) (by omega),f198.l1_is k m0 link t bound hbd x6 x7 x8 x9 x10 x11 x12 ps i p hp hg hps rest hr hrest n (j+1) (a+p.2[j].1) (by omega) (by omega) (by omega) (by omega),Int.add_assoc a]
  ·obtain rfl:j=p.2.length:=by omega
   have hi:=idx_lt hp
   rw [end_lt,cF,wrap_succ (by omega),hrest a h0 h1,List.drop_length]
   simp [rateOn]
theorem f198.l0_is (k:Nat) (hk:16<k) (link t bound:Int) (hbd:rateB bound=true) (x6 x7 x8 x9 x10 x11 x12:Int) (ps:List Pc) (hg:ps.all goodPc=true) (hps:ps.length≤8):∀ (n i:Nat) (a:Int),i≤ps.length→ps.length<n+i→0≤a→a≤bound →
  f198.l0 k n link t bound a i x6 x7 x8 x9 x10 x11 x12 ps=some (overV (a+loadPs link t (ps.drop i)) bound)
 |0,i,a,h,h',_,_=>by omega
 |n+1,i,a,h,h',h0,h1=>by
  rw [f198.l0_eq]
  by_cases hlt:i<ps.length
  ·have hx:=gE hlt
   have hgp:=List.all_eq_true.1 hg ps[i] (List.getElem_mem hlt)
   have hgp':=hgp
   unfold goodPc at hgp'
   simp only [bA,dE] at hgp'
   have hda:(ps.drop (i+1)).all goodPc=true:=List.all_eq_true.2 fun y hy=>List.all_eq_true.1 hg y (List.mem_of_mem_drop hy)
   rw [idx_lt' hx,cT,idx_in hx,kT,rd_some (t:=tPc) hx,List.drop_eq_getElem_cons hlt,loadPs_cons]
   cases hasAt ps[i].1 t with
   |false =>
    rw [nF,cT,cond_false,Int.zero_add,wrap_succ (by omega)]
    exact f198.l0_is k hk link t bound hbd x6 x7 x8 x9 x10 x11 x12 ps hg hps n (i+1) a (by omega) (by omega) h0 h1
   |true =>
    have h2:=f198.l1_is k n link t bound hbd x6 x7 x8 x9 x10 x11 x12 ps i ps[i] hx hgp hps (loadPs link t (ps.drop (i+1))) (loadPs_pos hda) (fun a h0 h1=>f198.l0_is k hk link t bound hbd x6 x7 x8 x9 x10 x11 x12 ps hg hps n (i+1) a (by omega) (by omega) h0 h1) k 0 a (by omega) (by omega) h0 h1
    rw [show ((0:Nat):Int)=0 from rfl] at h2
    rw [nT,cF,cond_true,h2,List.drop_zero,Int.add_assoc]
  ·obtain rfl:i=ps.length:=by omega
   rw [end_lt,cF,List.drop_length]
   unfold overV
   rw [show loadPs link t []=0 from rfl,Int.add_zero,dT h1,cond_true]
def overOf (t bound:Int):Int×Bool:=bif decide (t≤bound) then (t,true) else (0,false)
noncomputable def S198:Summ:=summ [tRs,tI,tI,tI] (Int×Bool) (fun (d:Rs×(Int×(Int×Int)))=>chk (goodR d.1&&rateB d.2.2.2) (some (overOf (loadR d.1 d.2.1 d.2.2.1) d.2.2.2))) resIB
theorem ok198:SumOk Tryz.prog 198 S198 :=
 sumq f198.E (fn:=Tryz.f198) (code:=f198.code) f198.sums f198.inl fun (d:Rs×(Int×(Int×Int))) x hx=>by
  obtain ⟨r,link,t,bound⟩:=d
  obtain ⟨hb,hx⟩:=chk_some hx
  obtain rfl:=oJ hx
  have hb:(goodR r&&rateB bound)=true:=hb
  unfold goodR at hb
  simp only [bA,dE] at hb
  obtain ⟨⟨h1,h2⟩,h3⟩:=hb
  have h3':0≤bound∧bound≤maxRate:=oD h3
  refine ⟨17,(f198.eq _ r link t bound).trans ?_⟩
  refine (f198.l0_is 17 (by omega) link t bound h3 _ _ _ _ _ _ _ r.2.2.2.2.2.2 h2 h1 17 0 0 (by omega) (by have:r.2.2.2.2.2.2.length≤8:=h1;omega) (by omega) h3'.1).trans ?_
  rw [Int.zero_add,List.drop_zero]
  show some (overV (loadR r link t) bound)=some (resIB (overOf (loadR r link t) bound))
  unfold overV overOf
  cases decide (loadR r link t≤bound) <;> rfl
def spansFrom:Int→List Int→List (Int×Int)
 |_,[]=>[]
 |f,t::ts=>(f,t)::spansFrom t ts
def cutPts (s:Int×Int) (ps:List Int):List Int:=Lib.compact (sortI (s.2::ps.filter fun p=>decide (s.1<p)&&decide (p<s.2)))
def cutsOf (s:Int×Int) (ps:List Int):List (Int×Int)×Int:=bif spanMay s then (spansFrom s.1 (cutPts s ps),0) else ([],200)
theorem f202.l1_is (k:Nat) (P Z:List Int) (hP:P.length≤5000):∀ (n i:Nat) (f:Int) (out:List (Int×Int)),i≤P.length→P.length<n+i→out.length≤i →
  f202.l1 k n f P.length P.length i out (P++Z)=some (resRE (out++spansFrom f (P.drop i),0))
 |0,i,f,out,h,h',_=>by omega
 |n+1,i,f,out,h,h',ho=>by
  rw [f202.l1_eq]
  by_cases hlt:i<P.length
  ·have hx:=gE hlt
   have hx2:(P++Z)[i]? = some P[i]:=by rw [List.getElem?_append_left hlt,hx]
   rw [idx_lt' hx,cT,idx_in hx,kT,Int.toNat_natCast,Nat.zero_add,rd_some (t:=tI) hx2,wrap_succ (by omega),List.drop_eq_getElem_cons hlt,dT (by rw [lA,List.length_singleton];omega),kT,
    f202.l1_is k P Z hP n (i+1) P[i] (out++[(f,P[i])]) (by omega) (by omega) (by rw [lA,List.length_singleton];omega)]
   simp [spansFrom]
  ·obtain rfl:i=P.length:=by omega
   rw [end_lt,cF,List.drop_length]
   simp [spansFrom]
theorem f202.l0_is (k:Nat) (s:Int×Int) (ps:List Int) (hp:ps.length≤4096) (hk:5000<k):∀ (n i:Nat) (at_:List Int),i≤ps.length→ps.length<n+i→at_.length≤i+1→0<at_.length →
  f202.l0 k n ps ps.length i s.1 s.2 at_=some (resRE (spansFrom s.1 (Lib.compact (sortI (at_++(ps.drop i).filter fun p=>decide (s.1<p)&&decide (p<s.2)))),0))
 |0,i,at_,h,h',_,_=>by omega
 |n+1,i,at_,h,h',ha,h0=>by
  rw [f202.l0_eq]
  by_cases hlt:i<ps.length
  ·have hx:=gE hlt
   have ih:=fun at_ h1 h2=>f202.l0_is k s ps hp hk n (i+1) at_ (by omega) (by omega) h1 h2
   rw [idx_lt' hx,cT,idx_in hx,kT,rd_some (t:=tI) hx,wrap_succ (by omega),List.drop_eq_getElem_cons hlt,List.filter_cons]
   cases decide (s.1<ps[i]) with
   |false=>rw [cF,ih at_ (by omega) h0,fA];rfl
   |true =>
    rw [cT]
    cases decide (ps[i]<s.2) with
    |false=>rw [cF,ih at_ (by omega) h0,Bool.and_false];rfl
    |true =>
     have hl:(at_++[ps[i]]).length=at_.length+1:=by rw [lA];rfl
     rw [cT,dT (by omega),kT,ih (at_++[ps[i]]) (by omega) (by omega),Bool.and_self,if_pos rfl,List.append_assoc]
     rfl
  ·obtain rfl:i=ps.length:=by omega
   have hc:(Lib.compact (sortI at_)).length≤5000:=by
    have:=compact_le (sortI at_)
    rw [sortI_len] at this
    omega
   rw [end_lt,cF,List.drop_length,List.filter_nil,List.append_nil,dT (by omega),kT,bS,sortI_len,dT (by omega),kT,bS]
   exact f202.l1_is k _ _ hc k 0 s.1 [] (by omega) (by omega) (by simp)
noncomputable def S202:Summ:=summ [tSp,tL] (List (Int×Int)×Int) (fun (d:(Int×Int)×List Int)=>chk (decide (d.2.length≤4096)) (some (cutsOf d.1 d.2))) resRE
theorem ok202:SumOk Tryz.prog 202 S202 :=
 sumq f202.E (fn:=Tryz.f202) (code:=f202.code) f202.sums f202.inl fun (d:(Int×Int)×List Int) x hx=>by
  obtain ⟨s,ps⟩:=d
  obtain ⟨hb,hx⟩:=chk_some hx
  obtain rfl:=oJ hx
  have hb:ps.length≤4096:=oD hb
  refine ⟨5001,(f202.eq _ s ps).trans ?_⟩
  show _=some (resRE (cutsOf s ps))
  unfold cutsOf
  cases spanMay s with
  |false=>rw [nF,cT,cond_false]
  |true =>
   rw [nT,cF,cond_true]
   exact f202.l0_is 5001 s ps hb (by omega) 5001 0 [s.2] (by omega) (by omega) (by simp) (by simp)
def nextCut (f:Int) (ps:List Int) (t:Int):Int:=ps.foldl (fun t p=>bif decide (p>f)&&decide (p<t) then p else t) t
def cutR (ps:List Int) (to:Int):Nat→Int→List (Int×Int)
 |0,_=>[]
 |n+1,f=>bif decide (f<to) then (f,nextCut f ps to)::cutR ps to n (nextCut f ps to) else []
theorem nextCut_in:∀ (ps:List Int) (f t:Int),f<t→f<nextCut f ps t∧nextCut f ps t≤t
 | [],f,t,h=>⟨h,Int.le_refl _⟩
 |p::ps,f,t,h=>by
  unfold nextCut
  rw [List.foldl_cons]
  cases hc:decide (p>f)&&decide (p<t) with
  |false=>exact nextCut_in ps f t h
  |true =>
   rw [cond_true]
   simp only [bA,dE] at hc
   have:=nextCut_in ps f p hc.1
   unfold nextCut at this
   omega
theorem f112.l1_is (k m0:Nat) (ps:List Int) (hp:ps.length≤4096) (f:Int) (x4 to:Int) (out:List (Int×Int)) (ho:out.length≤5000):∀ (n i:Nat) (t:Int),i≤ps.length→ps.length<n+i →
  f112.l1 k n m0 ps f t i x4 to out=f112.l0 k m0 ps (nextCut f (ps.drop i) t) x4 to (out++[(f,nextCut f (ps.drop i) t)])
 |0,i,t,h,h'=>by omega
 |n+1,i,t,h,h'=>by
  rw [f112.l1_eq]
  by_cases hlt:i<ps.length
  ·have hx:=gE hlt
   have ih:=fun t=>f112.l1_is k m0 ps hp f x4 to out ho n (i+1) t (by omega) (by omega)
   rw [idx_lt' hx,cT,idx_in hx,kT,kT,kT,rd_some (t:=tI) hx,wrap_succ (by omega),List.drop_eq_getElem_cons hlt]
   unfold nextCut
   rw [List.foldl_cons]
   cases decide (ps[i]>f) with
   |false=>rw [cF,ih t,fA,cond_false];rfl
   |true =>
    rw [cT,tA]
    cases decide (ps[i]<t) with
    |false=>rw [cF,ih t,cond_false];rfl
    |true=>rw [cT,ih ps[i],cond_true];rfl
  ·obtain rfl:i=ps.length:=by omega
   rw [end_lt,cF,List.drop_length,dT (by rw [lA,List.length_singleton];omega),kT]
   rfl
theorem f112.l0_is (k:Nat) (ps:List Int) (hp:ps.length≤4096) (hk:4096<k) (x4 to:Int):∀ (n m:Nat) (f:Int) (out:List (Int×Int)),(to - f).toNat≤m→m<n→out.length+m≤4096 →
  f112.l0 k n ps f x4 to out=some (resRE (out++cutR ps to m f,0))
 |0,m,f,out,h,h',_=>by omega
 |n+1,m,f,out,h,h',ho=>by
  rw [f112.l0_eq]
  by_cases hlt:f<to
  ·obtain ⟨m,rfl⟩:∃ q,m=q+1:=⟨m - 1,by omega⟩
   have h1:=f112.l1_is k n ps hp f x4 to out (by omega) k 0 to (by omega) (by omega)
   rw [show ((0:Nat):Int)=0 from rfl,List.drop_zero] at h1
   have h2:=nextCut_in ps f to hlt
   rw [dT hlt,cT,h1,f112.l0_is k ps hp hk x4 to n m (nextCut f ps to) (out++[(f,nextCut f ps to)]) (by omega) (by omega) (by rw [lA,List.length_singleton];omega)]
   simp only [cutR]
   rw [dT hlt,cond_true,List.append_assoc]
   rfl
  ·rw [dF hlt,cF]
   cases m with
   |zero=>simp [cutR]
   |succ m=>simp only [cutR];rw [dF hlt,cond_false,List.append_nil]
theorem cutR_eq (ps:List Int) (to:Int):∀ (P:List Int) (m:Nat) (f:Int),f<to→(to - f).toNat≤m→P.Pairwise (· < ·)→(∀ x,x∈P↔x=to∨(x∈ps∧f<x∧x<to))→cutR ps to m f=spansFrom f P
 |P,0,f,h,hm,_,_=>by omega
 |P,m+1,f,h,hm,hs,hP=>by
  simp only [cutR]
  rw [dT h,cond_true]
  have key:∀ (qs:List Int) (t:Int),f<t→(nextCut f qs t=t∨(nextCut f qs t∈qs∧f<nextCut f qs t))∧nextCut f qs t≤t∧∀ x∈qs,f<x→nextCut f qs t≤x:=by
   intro qs
   induction qs with
   |nil=>intro t ht;exact ⟨.inl rfl,Int.le_refl _,fun x hx=>(List.not_mem_nil hx).elim⟩
   |cons q qs ih =>
    intro t ht
    unfold nextCut
    rw [List.foldl_cons]
    cases hc:decide (q>f)&&decide (q<t) with
    |false =>
     rw [cond_false]
     obtain ⟨i1,i2,i3⟩:=ih t ht
     unfold nextCut at i1 i2 i3
     refine ⟨i1.imp id fun h=>⟨List.mem_cons_of_mem _ h.1,h.2⟩,i2,fun x hx hfx=>?_⟩
     rcases List.mem_cons.1 hx with rfl|hx
     ·have:¬ (x>f∧x<t):=fun hh=>by rw [dT hh.1,dT hh.2] at hc;cases hc
      omega
     ·exact i3 x hx hfx
    |true =>
     rw [cond_true]
     simp only [bA,dE] at hc
     obtain ⟨i1,i2,i3⟩:=ih q hc.1
     unfold nextCut at i1 i2 i3
     refine ⟨.inr ?_,by omega,fun x hx hfx=>?_⟩
     ·rcases i1 with i1|i1
      ·rw [i1];exact ⟨by simp,hc.1⟩
      ·exact ⟨List.mem_cons_of_mem _ i1.1,i1.2⟩
     ·rcases List.mem_cons.1 hx with rfl|hx
      ·exact i2
      ·exact i3 x hx hfx
  obtain ⟨k1,k2,k3⟩:=key ps to h
  have k0:=nextCut_in ps f to h
  generalize nextCut f ps to=t at *
  cases P with
  |nil=>exact absurd ((hP to).2 (.inl rfl)) (List.not_mem_nil)
  |cons p P =>
   rw [List.pairwise_cons] at hs
   have hpt:p=t:=by
    have htm:t∈p::P:=by
     rw [hP]
     rcases k1 with k1|k1
     ·exact .inl k1
     ·rcases Int.lt_or_eq_of_le k2 with h3|h3
      ·exact .inr ⟨k1.1,k1.2,h3⟩
      ·exact .inl h3
    have hple:t≤p:=by
     rcases (hP p).1 (by simp) with h3|h3
     ·omega
     ·exact k3 p h3.1 h3.2.1
    rcases List.mem_cons.1 htm with h3|h3
    ·exact h3.symm
    ·have:=hs.1 t h3
     omega
   subst hpt
   simp only [spansFrom]
   congr 1
   rcases Int.lt_or_eq_of_le k2 with h3|h3
   ·refine cutR_eq ps to P m p h3 (by omega) hs.2 fun x=>⟨fun hx=>?_,fun hx=>?_⟩
    ·have:=hs.1 x hx
     rcases (hP x).1 (by simp [hx]) with h4|h4
     ·exact .inl h4
     ·exact .inr ⟨h4.1,this,h4.2.2⟩
    ·have hm:x∈p::P:=by
      rw [hP]
      rcases hx with hx|hx
      ·exact .inl hx
      ·exact .inr ⟨hx.1,by omega,hx.2.2⟩
     rcases List.mem_cons.1 hm with h4|h4
     ·rcases hx with hx|hx <;> omega
     ·exact h4
   ·have hnil:P=[]:=by
     cases P with
     |nil=>rfl
     |cons q P =>
      have h5:=hs.1 q (by simp)
      rcases (hP q).1 (by simp) with h4|h4 <;> omega
    subst hnil
    cases m with
    |zero=>rfl
    |succ m=>simp only [cutR];rw [dF (by omega),cond_false];rfl
theorem compact_spec (z:List Int) (hs:z.Pairwise (·≤·)):(Lib.compact z).Pairwise (· < ·)∧∀ x,x∈Lib.compact z↔x∈z:=by
 unfold Lib.compact
 have hz:∀ i (h:i<z.length),z.toArray[i]! = z[i]:=fun i h=>by simp [h]
 rw [List.pairwise_iff_getElem] at hs
 have key:∀ m,m≤z.length→(Lib.compactUpTo z.toArray m).Pairwise (· < ·)∧(∀ x,x∈Lib.compactUpTo z.toArray m↔∃ j,∃ h:j<z.length,j<m∧z[j]=x):=by
  intro m
  induction m with
  |zero =>
   intro _
   refine ⟨List.Pairwise.nil,fun x=>⟨fun h=>(List.not_mem_nil h).elim,?_⟩⟩
   rintro ⟨j,_,h,_⟩
   omega
  |succ m ih =>
   intro hm
   obtain ⟨i1,i2⟩:=ih (by omega)
   rw [Lib.compactUpTo_succ]
   have hmz:=hz m (by omega)
   by_cases hk:Lib.keeps z.toArray m=true
   ·rw [if_pos hk,hmz]
    refine ⟨List.pairwise_append.2 ⟨i1,List.pairwise_singleton _ _,fun a ha b hb=>?_⟩,fun x=>?_⟩
    ·simp only [List.mem_singleton] at hb
     subst hb
     obtain ⟨j,hj,hjm,rfl⟩:=(i2 a).1 ha
     have hm0:0<m:=by omega
     have hne:z[m]'(by omega) ≠ z[m - 1]'(by omega):=by
      intro he
      have:=Lib.keeps_neg (d:=z.toArray) hm0 (by rw [hmz,hz (m - 1) (by omega),he])
      rw [hk] at this
      cases this
     have h1:z[j]≤z[m - 1]'(by omega):=by
      rcases Nat.lt_or_eq_of_le (show j≤m - 1 by omega) with h2|h2
      ·exact hs j (m - 1) hj (by omega) h2
      ·subst h2;exact Int.le_refl _
     have h2:=hs (m - 1) m (by omega) (by omega) (by omega)
     omega
    ·rw [List.mem_append,i2,List.mem_singleton]
     constructor
     ·rintro (⟨j,hj,h1,h2⟩|rfl)
      ·exact ⟨j,hj,by omega,h2⟩
      ·exact ⟨m,by omega,by omega,rfl⟩
     ·rintro ⟨j,hj,h1,h2⟩
      rcases Nat.lt_or_eq_of_le (show j≤m by omega) with h3|h3
      ·exact .inl ⟨j,hj,h3,h2⟩
      ·subst h3;exact .inr h2.symm
   ·rw [if_neg hk,List.append_nil]
    have hm0:0<m:=by
     rcases Nat.eq_zero_or_pos m with h0|h0
     ·subst h0;exact absurd (Lib.keeps_lt_one z.toArray 0 (by omega)) hk
     ·exact h0
    have heq:z[m]'(by omega)=z[m - 1]'(by omega):=by
     apply Classical.byContradiction
     intro hne
     exact hk (Lib.keeps_pos (by rw [hmz,hz (m - 1) (by omega)];exact hne))
    refine ⟨i1,fun x=>?_⟩
    rw [i2]
    constructor
    ·rintro ⟨j,hj,h1,h2⟩
     exact ⟨j,hj,by omega,h2⟩
    ·rintro ⟨j,hj,h1,h2⟩
     rcases Nat.lt_or_eq_of_le (show j≤m by omega) with h3|h3
     ·exact ⟨j,hj,h3,h2⟩
     ·subst h3
      exact ⟨j - 1,by omega,by omega,by rw [← heq];exact h2⟩
 obtain ⟨h1,h2⟩:=key z.length (Nat.le_refl _)
 refine ⟨h1,fun x=>?_⟩
 rw [h2,List.mem_iff_getElem]
 constructor
 ·rintro ⟨j,hj,_,h⟩;exact ⟨j,hj,h⟩
 ·rintro ⟨j,hj,h⟩;exact ⟨j,hj,hj,h⟩
theorem cutPts_spec (s:Int×Int) (ps:List Int):(cutPts s ps).Pairwise (· < ·)∧∀ x,x∈cutPts s ps↔x=s.2∨(x∈ps∧s.1<x∧x<s.2):=by
 unfold cutPts
 obtain ⟨h1,h2⟩:=compact_spec _ (sortI_sorted (s.2::ps.filter fun p=>decide (s.1<p)&&decide (p<s.2)))
 refine ⟨h1,fun x=>?_⟩
 rw [h2,(sortI_perm _).mem_iff,List.mem_cons,List.mem_filter]
 simp only [bA,dE]
noncomputable def S112:Summ:=S202
theorem ok112:SumOk Tryz.prog 112 S112 :=
 sumq f112.E (fn:=Tryz.f112) (code:=f112.code) f112.sums f112.inl fun (d:(Int×Int)×List Int) x hx=>by
  obtain ⟨s,ps⟩:=d
  obtain ⟨hb,hx⟩:=chk_some hx
  obtain rfl:=oJ hx
  have hb:ps.length≤4096:=oD hb
  refine ⟨5001,(f112.eq _ s ps).trans ?_⟩
  show _=some (resRE (cutsOf s ps))
  unfold cutsOf
  cases hs:spanMay s with
  |false=>rw [nF,cT,cond_false]
  |true =>
   have hs':0≤s.1∧s.1<s.2∧s.2≤4096:=oD hs
   rw [nT,cF,cond_true]
   refine (f112.l0_is 5001 ps hb (by omega) s.1 s.2 5001 4096 s.1 [] (by omega) (by omega) (by simp)).trans ?_
   rw [List.nil_append]
   obtain ⟨h1,h2⟩:=cutPts_spec s ps
   rw [cutR_eq ps s.2 (cutPts s ps) 4096 s.1 hs'.2.1 (by omega) h1 h2]
end
section
set_option maxRecDepth 100000
noncomputable def f150.E (k:Nat):Env:=mkEnv tt [(198,S198)] [] [(150,3,[.kill (rg [(0,0),(5,9),(12,54)]),.tidy])] [] k
noncomputable def f150.code:Go.Code:=cd Tryz.f150
noncomputable def f150.l0 (k n:Nat) (p0:Int) (p1:Int) (p2:Int) (p3:Int) (p4:Int) (p5:Int) (p6:List (eL)) (p7:Int) (p8:Int) (p9:Int) (p10:List (eR)):Option V :=
 atPath (f150.E k) n ⟨(.u::(.int .i64 p0)::(.int .i64 p1)::(.int .i64 p2)::(.ptr 1048592 (0) (0))::.u::.u::.u::.u::.u::(.int .i64 p3)::(.int .i64 p4)::un 43),[],[(1048592,.box [(.int .i64 p5),(.ro qL p6),(.int .i64 p7),(.int .i64 p8),(.int .i64 p9),(.ro qR p10)])]⟩ 9 0 150 [.c 1,.c 1,.c 0,.c 1,.c 0] [] f150.code (finK tt Tryz.f150)
theorem f150.l0_eq (k n:Nat) (p0:Int) (p1:Int) (p2:Int) (p3:Int) (p4:Int) (p5:Int) (p6:List (eL)) (p7:Int) (p8:Int) (p9:Int) (p10:List (eR)):f150.l0 k (n+1) p0 p1 p2 p3 p4 p5 p6 p7 p8 p9 p10 =
 bif decide (p4<(↑p10.length:Int)) then (chk (decide ((0:Int)≤p4∧p4<(↑p10.length:Int))) (bif (rd qR p10 p4).2.1==p2 then (f150.l0 k n p0 p1 p2 p3 (Go.IntKind.i64.wrap (p4+(1:Int))) p5 p6 p7 p8 p9 p10) else (chk (decide ((0:Int)≤p4∧p4<(↑p10.length:Int))) (chk (decide ((0:Int)≤p0∧p0<(↑p6.length:Int))) ((chk (goodR (rd qR p10 p4)&&rateB (Go.IntKind.i64.wrap ((rd qL p6 p0).2.2 - p3))) (some (overOf (loadR (rd qR p10 p4) p0 p1) (Go.IntKind.i64.wrap ((rd qL p6 p0).2.2 - p3))))).bind (fun y0=>bif !y0.2 then (some (.tup [(.int .i64 0),(.bool false)])) else (f150.l0 k n p0 p1 p2 (Go.IntKind.i64.wrap (p3+y0.1)) (Go.IntKind.i64.wrap (p4+(1:Int))) p5 p6 p7 p8 p9 p10))))))) else (some (.tup [(.int .i64 p3),(.bool true)])):=by kernel_rfl
theorem f150.eq (k:Nat) (x0:(Int×List (eL)) ×
 Int×Int×Int×List (eR)) (x1:Int) (x2:Int) (x3:Int):evFn (f150.E k) 9 150 Tryz.f150 (encL [(.pair (.pair qI (.list qL)) (.pair qI (.pair qI (.pair qI (.list qR))))),qI,qI,qI] (x0,x1,x2,x3)) =
 f150.l0 k k x1 x2 x3 0 0 x0.1.1 x0.1.2 x0.2.1 x0.2.2.1 x0.2.2.2.1 x0.2.2.2.2:=by kernel_rfl
theorem f150.inl (k:Nat):InlOk Tryz.prog (f150.E k):=inl_nil
theorem f150.sums (k:Nat):SumsOk Tryz.prog (f150.E k):=(sums_cons ok198 sums_nil)
noncomputable def f82.E (k:Nat):Env:=mkEnv tt [(138,S138),(139,S139),(140,S140),(141,S141),(142,S142)] [] [(82,10,[.kill (rg [(0,0),(2,43),(47,78)]),.tidy]),(82,4,[.kill (rg [(0,0),(2,14),(18,78)]),.tidy])] [] k
noncomputable def f82.code:Go.Code:=cd Tryz.f82
noncomputable def f82.l0 (k n:Nat) (p0:List (eR)) (p1:Int) (p2:Int) (p3:Int) (p4:List (eL)) (p5:Int) (p6:Int) (p7:Int):Option V :=
 atPath (f82.E k) n ⟨(.u::(.ptr 262160 (0) (0))::.u::.u::.u::.u::.u::.u::.u::.u::.u::.u::.u::.u::.u::(.ro qR p0)::(.int .i64 p1)::(.int .i64 p2)::un 61),[],[(262160,.box [(.int .i64 p3),(.ro qL p4),(.int .i64 p5),(.int .i64 p6),(.int .i64 p7),(.ro qR p0)])]⟩ 9 0 82 [.c 1,.c 1,.c 0,.c 1,.c 0] [] f82.code (finK tt Tryz.f82)
noncomputable def f82.l1 (k n:Nat) (p0:Int) (p1:Int) (p2:Int) (p3:List (eL)) (p4:Int) (p5:Int) (p6:Int) (p7:List (eR)) (p8:List (List ((Int×Int)×Int))):Option V :=
 atPath (f82.E k) n ⟨(.u::(.ptr 262160 (0) (0))::.u::.u::.u::.u::.u::.u::.u::.u::.u::.u::.u::.u::.u::.u::.u::.u::.u::.u::.u::.u::.u::.u::.u::.u::.u::.u::.u::.u::.u::.u::.u::.u::.u::.u::.u::.u::.u::.u::.u::.u::.u::.u::(.slw 11534352)::(.int .i64 p0)::(.int .i64 p1)::un 32),[],[(262160,.box [(.int .i64 p2),(.ro qL p3),(.int .i64 p4),(.int .i64 p5),(.int .i64 p6),(.ro qR p7)]),(11534352,.row (.list (.pair qS qI)) p8)]⟩ 9 0 82 [.c 1,.c 1,.c 1,.c 0,.c 1,.c 0] [] f82.code (finK tt Tryz.f82)
theorem f82.l0_eq (k n:Nat) (p0:List (eR)) (p1:Int) (p2:Int) (p3:Int) (p4:List (eL)) (p5:Int) (p6:Int) (p7:Int):f82.l0 k (n+1) p0 p1 p2 p3 p4 p5 p6 p7 =
 bif decide (p2<p1) then (chk (decide ((0:Int)≤p2∧p2<(↑p0.length:Int))) ((chk (decide ((Rs.pcs (rd qR p0 p2)).length<4611686018427387904)) (some (resMayB ((p3,p4),p5,p6,p7,p0) (rd qR p0 p2)))).bind (fun y0=>bif !y0 then (some (.bool false)) else (bif decide (p2>(0:Int)) then (chk (decide ((0:Int)≤Go.IntKind.i64.wrap (p2 - (1:Int))∧Go.IntKind.i64.wrap (p2 - (1:Int))<(↑p0.length:Int))) (bif decide ((rd qR p0 p2).2.1≤(rd qR p0 (Go.IntKind.i64.wrap (p2 - (1:Int)))).2.1) then (some (.bool false)) else (f82.l0 k n p0 p1 (Go.IntKind.i64.wrap (p2+(1:Int))) p3 p4 p5 p6 p7))) else (f82.l0 k n p0 p1 (Go.IntKind.i64.wrap (p2+(1:Int))) p3 p4 p5 p6 p7))))) else ((chk (fewB ((p3,p4),p5,p6,p7,p0)) (some (weightsOf ((p3,p4),p5,p6,p7,p0) (0:Int)))).bind (fun y0=>f82.l1 k k ((↑y0.length:Int)) 0 p3 p4 p5 p6 p7 p0 y0)):=by kernel_rfl
theorem f82.l1_eq (k n:Nat) (p0:Int) (p1:Int) (p2:Int) (p3:List (eL)) (p4:Int) (p5:Int) (p6:Int) (p7:List (eR)) (p8:List (List ((Int×Int)×Int))):f82.l1 k (n+1) p0 p1 p2 p3 p4 p5 p6 p7 p8 =
 bif decide (p1<p0) then (chk (decide ((0:Int)≤p1∧p1<(↑p8.length:Int))) (bif (buildOf (rd (qS.pair qI).list p8 (↑p1.toNat:Int))).2 != (0:Int) then (some (.bool false)) else ((chk (decide ((buildOf (rd (qS.pair qI).list p8 (↑p1.toNat:Int))).1.length<4611686018427387904)) (some (mostOf (buildOf (rd (qS.pair qI).list p8 (↑p1.toNat:Int))).1 ((0:Int),(4096:Int))))).bind (fun y0=>bif y0.2.2 != (0:Int) then (some (.bool false)) else (chk (decide ((0:Int)≤p1∧p1<(↑p3.length:Int))) (bif decide (y0.1>(rd qL p3 p1).2.2) then (some (.bool false)) else (f82.l1 k n p0 (Go.IntKind.i64.wrap (p1+(1:Int))) p2 p3 p4 p5 p6 p7 p8))))))) else (some (.bool true)):=by kernel_rfl
theorem f82.eq (k:Nat) (x0:(Int×List (eL)) ×
 Int×Int×Int×List (eR)):evFn (f82.E k) 9 82 Tryz.f82 (encL [(.pair (.pair qI (.list qL)) (.pair qI (.pair qI (.pair qI (.list qR)))))] x0) =
 bif !formB x0 then (some (.bool false)) else (f82.l0 k k x0.2.2.2.2 ((↑(x0.2.2.2.2.length):Int)) 0 x0.1.1 x0.1.2 x0.2.1 x0.2.2.1 x0.2.2.2.1):=by kernel_rfl
theorem f82.inl (k:Nat):InlOk Tryz.prog (f82.E k):=inl_nil
theorem f82.sums (k:Nat):SumsOk Tryz.prog (f82.E k):=(sums_cons ok138 (sums_cons ok139 (sums_cons ok140 (sums_cons ok141 (sums_cons ok142 sums_nil)))))
noncomputable def f161.E (k:Nat):Env:=mkEnv tt [(140,S140),(200,S200)] [] [(161,6,[.kill (rg [(0,0),(2,6),(9,18),(22,25),(29,46)]),.tidy]),(161,3,[.kill (rg [(0,0),(2,6),(8,18),(22,46)]),.tidy])] [] k
noncomputable def f161.code:Go.Code:=cd Tryz.f161
noncomputable def f161.l0 (k n:Nat) (p0:Int) (p1:Int) (p2:Int) (p3:List Int) (p4:List (List ((Int×Int)×Int))):Option V :=
 atPath (f161.E k) n ⟨(.u::(.int .i64 p0)::.u::.u::.u::.u::.u::(.slw 1835024)::.u::.u::.u::.u::.u::.u::.u::.u::.u::.u::.u::(.slw 4980752)::(.int .i64 p1)::(.int .i64 p2)::un 25),[],[(1835024,.row qI p3),(4980752,.row (.list (.pair qS qI)) p4)]⟩ 9 0 161 [.c 1,.c 1,.c 0,.c 1,.c 0] [] f161.code (finK tt Tryz.f161)
noncomputable def f161.l1 (k n m0:Nat) (p0:Int) (p1:Int) (p2:Int) (p3:List ((Int×Int)×Int)) (p4:Int) (p5:Int) (p6:List Int) (p7:List (List ((Int×Int)×Int))):Option V :=
 atPath (f161.E k) n ⟨(.u::(.int .i64 p0)::.u::.u::.u::.u::.u::(.slw 1835024)::(.int .i64 p1)::.u::.u::.u::.u::.u::.u::.u::.u::.u::.u::(.slw 4980752)::(.int .i64 p2)::(.int .i64 p1)::.u::.u::.u::.u::(.ro (.pair qS qI) p3)::(.int .i64 p4)::(.int .i64 p5)::un 18),[],[(1835024,.row qI p6),(4980752,.row (.list (.pair qS qI)) p7)]⟩ 9 0 161 [.c 1,.c 1,.c 0,.c 1,.c 0,.c 0,.c 1,.c 1,.c 0,.c 0,.c 1,.c 1,.c 0] [m0] f161.code (finK tt Tryz.f161)
theorem f161.l0_eq (k n:Nat) (p0:Int) (p1:Int) (p2:Int) (p3:List Int) (p4:List (List ((Int×Int)×Int))):f161.l0 k (n+1) p0 p1 p2 p3 p4 =
 bif decide (p2<p1) then (chk (decide ((0:Int)≤p2∧p2<(↑p4.length:Int))) (f161.l1 k k n p0 p2 p1 (rd (qS.pair qI).list p4 (↑p2.toNat:Int)) ((↑(List.length (rd (qS.pair qI).list p4 (↑p2.toNat:Int))):Int)) 0 p3 p4)) else (some (.own qI p3)):=by kernel_rfl
theorem f161.l1_eq (k n m0:Nat) (p0:Int) (p1:Int) (p2:Int) (p3:List ((Int×Int)×Int)) (p4:Int) (p5:Int) (p6:List Int) (p7:List (List ((Int×Int)×Int))):f161.l1 k (n+1) m0 p0 p1 p2 p3 p4 p5 p6 p7 =
 bif decide (p5<p4) then (chk (decide ((0:Int)≤p5∧p5<(↑p3.length:Int))) (bif hasAt (rd (qS.pair qI) p3 p5).1 p0 then (chk (decide ((0:Int)≤p1∧p1<(↑p6.length:Int))) (chk (decide ((0:Int)≤p1∧p1<(↑p6.length:Int))) (f161.l1 k n m0 p0 p1 p2 p3 p4 (Go.IntKind.i64.wrap (p5+(1:Int))) (p6.set p1.toNat (Go.IntKind.i64.wrap (rd qI p6 (↑p1.toNat:Int)+(rd (qS.pair qI) p3 p5).2))) p7))) else (f161.l1 k n m0 p0 p1 p2 p3 p4 (Go.IntKind.i64.wrap (p5+(1:Int))) p6 p7))) else (f161.l0 k m0 p0 p2 (Go.IntKind.i64.wrap (p1+(1:Int))) p6 p7):=by kernel_rfl
theorem f161.eq (k:Nat) (x0:(Int×List (eL)) ×
 Int×Int×Int×List (eR)) (x1:Int) (x2:Int):evFn (f161.E k) 9 161 Tryz.f161 (encL [(.pair (.pair qI (.list qL)) (.pair qI (.pair qI (.pair qI (.list qR))))),qI,qI] (x0,x1,x2)) =
 chk (decide ((0:Int)≤(↑(x0.1.2.length):Int)∧(↑(x0.1.2.length):Int)≤(↑(x0.1.2.length):Int))) (chk (decide (0<8∧(↑(x0.1.2.length):Int)*(↑(8:Nat):Int)≤(140737488355328:Int))) ((chk (fewB x0) (some (weightsOf x0 x2))).bind (fun y0=>f161.l0 k k x1 ((↑y0.length:Int)) 0 (List.replicate (↑(x0.1.2.length):Int).toNat (dflt qI)) y0))):=by kernel_rfl
theorem f161.inl (k:Nat):InlOk Tryz.prog (f161.E k):=inl_nil
theorem f161.sums (k:Nat):SumsOk Tryz.prog (f161.E k):=(sums_cons ok140 (sums_cons ok200 sums_nil))
end
section
open Go
def loadRs (link t but:Int) (rs:List Rs):Int:=((rs.filter fun r=>r.id != but).map fun r=>loadR r link t).sum
def loadB (b:Bk) (link t but:Int):Int:=loadRs link t but b.list
def capAt (b:Bk) (link:Int):Int:=(rd tLk b.1.2 link).2.2
theorem loadRs_cons (link t but:Int) (r:Rs) (rs:List Rs):loadRs link t but (r::rs)=(bif r.id==but then 0 else loadR r link t)+loadRs link t but rs:=by
 unfold loadRs
 rw [List.filter_cons]
 cases h:r.id==but
 ·rw [show (r.id != but)=true by simp only [bne];rw [h];rfl,if_pos rfl];simp
 ·rw [show (r.id != but)=false by simp only [bne];rw [h];rfl,if_neg (by simp)];simp
theorem loadR_pos {r:Rs} {link t:Int} (h:goodR r=true):0≤loadR r link t:=by
 unfold goodR at h
 rw [bA] at h
 exact loadPs_pos h.2
theorem loadRs_pos {link t but:Int}:∀ {rs:List Rs},rs.all goodR=true→0≤loadRs link t but rs
 | [],_=>by simp [loadRs]
 |r::rs,h=>by
  simp only [List.all_cons,bA] at h
  have h1:=loadRs_pos (link:=link) (t:=t) (but:=but) h.2
  have h2:=loadR_pos (link:=link) (t:=t) h.1
  rw [loadRs_cons]
  cases r.id==but
  ·simp only [cond_false];omega
  ·simpa using h1
theorem f150.l0_is (k:Nat) (link t but:Int) (v:Int) (gl:List Lk) (x7 x8 x9:Int) (l:Lk) (hl:gl[link.toNat]? = some l) (h0:0≤link) (hc:rateB l.2.2=true) (rs:List Rs) (hg:rs.all goodR=true) (hrs:rs.length<4611686018427387904):∀ (n i:Nat) (a:Int),i≤rs.length→rs.length<n+i→0≤a→a≤l.2.2 →
  f150.l0 k n link t but a i v gl x7 x8 x9 rs=some (overV (a+loadRs link t but (rs.drop i)) l.2.2)
 |0,i,a,h,h',_,_=>by omega
 |n+1,i,a,h,h',ha,ha'=>by
  have hc':0≤l.2.2∧l.2.2≤4611686018427387904:=oD hc
  rw [f150.l0_eq]
  by_cases hlt:i<rs.length
  ·have hx:=gE hlt
   have hgr:=List.all_eq_true.1 hg rs[i] (List.getElem_mem hlt)
   have hda:(rs.drop (i+1)).all goodR=true:=List.all_eq_true.2 fun y hy=>List.all_eq_true.1 hg y (List.mem_of_mem_drop hy)
   have hpos:=loadRs_pos (link:=link) (t:=t) (but:=but) hda
   have hp1:=loadR_pos (link:=link) (t:=t) hgr
   rw [idx_lt' hx,cT,idx_in hx,kT,rd_some (t:=tRs) hx,wrap_succ (by omega),List.drop_eq_getElem_cons hlt,loadRs_cons]
   cases hb:rs[i].id==but with
   |true =>
    have hb':(rs[i].2.1==but)=true:=hb
    rw [hb',cT,cond_true,Int.zero_add]
    exact f150.l0_is k link t but v gl x7 x8 x9 l hl h0 hc rs hg hrs n (i+1) a (by omega) (by omega) ha ha'
   |false =>
    have hb':(rs[i].2.1==but)=false:=hb
    have hl2:link.toNat<gl.length:=(List.getElem?_eq_some_iff.1 hl).1
    have e1:rd tLk gl link=l:=by
     have:=rd_some (t:=tLk) hl
     rwa [Int.toNat_of_nonneg h0] at this
    rw [hb',cF,kT,cond_false,dT (show 0≤link∧link<(gl.length:Int) by omega),kT,e1,wrap64 (n:=l.2.2 - a) (by omega),hgr,tA,show rateB (l.2.2 - a)=true from dT (show 0≤l.2.2 - a∧l.2.2 - a≤4611686018427387904 by omega),kT,bS]
    unfold overOf
    by_cases hle:loadR rs[i] link t≤l.2.2 - a
    ·rw [dT hle,cond_true]
     dsimp only
     rw [nT,cF,wrap64 (n:=a+loadR rs[i] link t) (by omega),f150.l0_is k link t but v gl x7 x8 x9 l hl h0 hc rs hg hrs n (i+1) (a+loadR rs[i] link t) (by omega) (by omega) (by omega) (by omega),Int.add_assoc]
    ·rw [dF hle,cond_false]
     dsimp only
     rw [nF,cT]
     unfold overV
     rw [dF (by omega),cond_false]
  ·obtain rfl:i=rs.length:=by omega
   rw [end_lt,cF,List.drop_length]
   unfold overV
   rw [show loadRs link t but []=0 from rfl,Int.add_zero,dT ha',cond_true]
def loadOk (b:Bk) (link:Int):Bool:=hasL b.1 link&&(rateB (capAt b link)&&(b.list.all goodR&&decide (b.list.length≤8)))
noncomputable def S150:Summ:=summ [tBk,tI,tI,tI] (Int×Bool) (fun (d:Bk×(Int×(Int×Int)))=>chk (loadOk d.1 d.2.1) (some (overOf (loadB d.1 d.2.1 d.2.2.1 d.2.2.2) (capAt d.1 d.2.1)))) resIB
theorem ok150:SumOk Tryz.prog 150 S150 :=
 sumq f150.E (fn:=Tryz.f150) (code:=f150.code) f150.sums f150.inl fun (d:Bk×(Int×(Int×Int))) x hx=>by
  obtain ⟨b,link,t,but⟩:=d
  obtain ⟨hb,hx⟩:=chk_some hx
  obtain rfl:=oJ hx
  have hb:loadOk b link=true:=hb
  unfold loadOk hasL at hb
  simp only [bA,dE] at hb
  obtain ⟨h1,h2,h3,h4⟩:=hb
  have hl:b.1.2[link.toNat]? = some (rd tLk b.1.2 link):=by
   have hlt:link.toNat<b.1.2.length:=by omega
   rw [gE hlt]
   congr 1
   have:=rd_some (t:=tLk) (gE hlt)
   rw [Int.toNat_of_nonneg h1.1] at this
   exact this.symm
  have h2':0≤capAt b link∧capAt b link≤maxRate:=oD h2
  refine ⟨9,(f150.eq _ b link t but).trans ?_⟩
  refine (f150.l0_is 9 link t but _ b.1.2 _ _ _ (rd tLk b.1.2 link) hl h1.1 h2 b.2.2.2.2 h3 (by have:b.2.2.2.2.length≤8:=h4;omega) 9 0 0 (by omega) (by have:b.2.2.2.2.length≤8:=h4;omega) (by omega) h2'.1).trans ?_
  rw [Int.zero_add,List.drop_zero]
  show some (overV (loadB b link t but) (capAt b link))=some (resIB (overOf (loadB b link t but) (capAt b link)))
  unfold overV overOf
  cases decide (loadB b link t but≤capAt b link) <;> rfl
def listMay (b:Bk):Option Int→List Rs→Bool
 |_,[]=>true
 |p,r::rs=>resMayB b r&&((match p with
  |none=>true
  |some q=>decide (q<r.id))&&listMay b (some r.id) rs)
def fitW (ws:List Wt) (cap:Int):Bool:=(buildOf ws).2==0&&((mostOf (buildOf ws).1 (0,4096)).2.2==0&&decide ((mostOf (buildOf ws).1 (0,4096)).1≤cap))
def bookMayP (b:Bk):Bool:=formB b&&(listMay b none b.list&&((weightsOf b 0).zip b.1.2).all fun x=>fitW x.1 x.2.2.2)
def pcsSmall (b:Bk):Bool:=b.list.all fun r=>decide (r.pcs.length<4611686018427387904)
def aheadI (rs:List Rs) (i:Nat):Option Int:=if i=0 then none else (rs[i - 1]?).map Rs.id
theorem f82.l1_is (k:Nat) (g0:Int) (gl:List Lk) (x4 x5 x6:Int) (rs:List Rs) (W:List (List Wt)) (hW:W.length=gl.length) (hw:W.length≤16):∀ (n i:Nat),i≤W.length→W.length<n+i →
  f82.l1 k n W.length i g0 gl x4 x5 x6 rs W=some (.bool (((W.zip gl).drop i).all fun x=>fitW x.1 x.2.2.2))
 |0,i,h,h'=>by omega
 |n+1,i,h,h'=>by
  rw [f82.l1_eq]
  by_cases hlt:i<W.length
  ·have hx:=gE hlt
   have hlt2:i<gl.length:=by omega
   have hy:=gE hlt2
   have hz:(W.zip gl).drop i=(W[i],gl[i])::(W.zip gl).drop (i+1):=by
    rw [List.drop_eq_getElem_cons (by rw [List.length_zip];omega)]
    simp
   rw [idx_lt' hx,cT,idx_in hx,kT,Int.toNat_natCast,rd_some (t:=.list tW) hx,idx_in hy,rd_some (t:=tLk) hy,wrap_succ (by omega),hz,List.all_cons]
   have hsm:(buildOf W[i]).1.length<4611686018427387904:=by
    unfold buildOf
    by_cases h64:W[i].length≤64
    ·rw [dT h64]
     cases W[i].all weightMay with
     |false=>rw [Bool.and_false,cond_false];exact Nat.zero_lt_succ _
     |true =>
      rw [Bool.and_self,cond_true]
      cases hb:buildL W[i] (pointsOf W[i]) [] with
      |none=>exact Nat.zero_lt_succ _
      |some o =>
       have h1:=keepR_len none o
       have h2:∀ (ps:List Int) (out o:List (Int×Int)),buildL W[i] ps out=some o→o.length≤out.length+ps.length:=by
        intro ps
        induction ps with
        |nil=>intro out o h;simp only [buildL,sI] at h;subst h;simp
        |cons p ps ih =>
         intro out o h
         simp only [buildL] at h
         cases hs:(sumAt W[i] p).2 with
         |false=>rw [hs] at h;cases h
         |true =>
          rw [hs,cond_true] at h
          have:=ih _ _ h
          rw [List.length_cons]
          cases hd:decide (p<4096) with
          |false=>rw [hd,cond_false] at this;omega
          |true=>rw [hd,cond_true,lA,List.length_singleton] at this;omega
       have h3:=h2 _ _ _ hb
       have h4:=compact_le (sortI (0::endsOf W[i]))
       rw [sortI_len] at h4
       have h5:(endsOf W[i]).length=2*W[i].length:=by
        generalize W[i]=vs
        induction vs with
        |nil=>rfl
        |cons v vs ih =>
         show ([v.1.1,v.1.2]++endsOf vs).length=_
         rw [lA,ih]
         simp only [List.length_cons,List.length_nil]
         omega
       unfold pointsOf at h3
       simp only [List.length_cons,List.length_nil] at h3 h4
       dsimp only
       omega
    ·rw [dF h64,fA,cond_false];exact Nat.zero_lt_succ _
   unfold fitW
   cases hb:(buildOf W[i]).2==0 with
   |false=>rw [show ((buildOf W[i]).2 != 0)=true by simp only [bne];rw [hb];rfl,cT,fA,fA]
   |true =>
    rw [show ((buildOf W[i]).2 != 0)=false by simp only [bne];rw [hb];rfl,cF,dT hsm,kT,bS,tA]
    cases hm:(mostOf (buildOf W[i]).1 (0,4096)).2.2==0 with
    |false=>rw [show ((mostOf (buildOf W[i]).1 (0,4096)).2.2 != 0)=true by simp only [bne];rw [hm];rfl,cT,fA,fA]
    |true =>
     rw [show ((mostOf (buildOf W[i]).1 (0,4096)).2.2 != 0)=false by simp only [bne];rw [hm];rfl,cF,kT,tA]
     by_cases hc:(mostOf (buildOf W[i]).1 (0,4096)).1≤gl[i].2.2
     ·rw [dF (by omega),cF,dT hc,tA]
      exact f82.l1_is k g0 gl x4 x5 x6 rs W hW hw n (i+1) (by omega) (by omega)
     ·rw [dT (by omega),cT,dF hc,fA]
  ·obtain rfl:i=W.length:=by omega
   rw [end_lt,cF,List.drop_of_length_le (by rw [List.length_zip];omega)]
   rfl
theorem f82.l0_is (k:Nat) (hk:16<k) (b:Bk) (hf:formB b=true) (hs:pcsSmall b=true):∀ (n i:Nat),i≤b.list.length→b.list.length<n+i→(∀ r∈b.list.take i,r.pcs.length≤8) →
  f82.l0 k n b.list b.list.length i b.1.1 b.1.2 b.2.1 b.2.2.1 b.2.2.2.1=some (.bool (listMay b (aheadI b.list i) (b.list.drop i)&&((weightsOf b 0).zip b.1.2).all fun x=>fitW x.1 x.2.2.2))
 |0,i,h,h',_=>by omega
 |n+1,i,h,h',hfew=>by
  have hf':=hf
  unfold formB at hf'
  simp only [bA,dE] at hf'
  obtain ⟨hg,hsg,hnow,hnx,hll⟩:=hf'
  have hgr:b.1.2.length≤16:=by
   unfold graphMay shapeB at hg
   simp only [bA,dE] at hg
   exact hg.1.2.1
  rw [f82.l0_eq]
  have hbk:((b.1.1,b.1.2),b.2.1,b.2.2.1,b.2.2.2.1,b.list)=b:=rfl
  by_cases hlt:i<b.list.length
  ·have hx:=gE hlt
   have hsm:b.list[i].pcs.length<4611686018427387904:=oD (List.all_eq_true.1 hs b.list[i] (List.getElem_mem hlt))
   have ha:aheadI b.list (i+1)=some b.list[i].id:=by unfold aheadI;rw [if_neg (by omega),show i+1 - 1=i from rfl,hx];rfl
   rw [idx_lt' hx,cT,idx_in hx,kT,rd_some (t:=tRs) hx,dT hsm,kT,bS,wrap_succ (by omega),hbk,List.drop_eq_getElem_cons hlt]
   simp only [listMay]
   cases hr:resMayB b b.list[i] with
   |false=>rw [nF,cT,fA,fA]
   |true =>
    have hle:b.list[i].pcs.length≤8:=by
     have h1:=hr
     unfold resMayB at h1
     simp only [bA,dE] at h1
     have:=h1.2.2.2.2.1
     omega
    have ih:=f82.l0_is k hk b hf hs n (i+1) (by omega) (by omega) (fun r hr'=>by
     rw [List.take_add_one,hx,List.mem_append] at hr'
     rcases hr' with hr'|hr'
     ·exact hfew r hr'
     ·simp only [Option.toList_some,List.mem_singleton] at hr'
      subst hr'
      exact hle)
    rw [ha] at ih
    rw [nT,cF,tA,ih]
    by_cases h0:i=0
    ·subst h0
     rw [show decide (((0:Nat):Int)>0)=false by simp,cF]
     rfl
    ·have hy:b.list[i - 1]? = some b.list[i - 1]:=gE (by omega)
     have ha2:aheadI b.list i=some b.list[i - 1].id:=by unfold aheadI;rw [if_neg h0,hy];rfl
     rw [ha2,show decide ((i:Int)>0)=true by simp;omega,cT,wrap64 (n:=(i:Int) - 1) (by omega),show ((i:Int) - 1)=((i - 1:Nat):Int) by omega,idx_in hy,kT,rd_some (t:=tRs) hy]
     dsimp only
     unfold Rs.id
     by_cases hc:b.list[i].2.1≤b.list[i - 1].2.1
     ·rw [dT hc,cT,dF (by omega),fA,fA]
     ·rw [dF hc,cF,dT (by omega),tA]
  ·obtain rfl:i=b.list.length:=by omega
   have hfew':fewB b=true:=by
    unfold fewB
    rw [List.take_length] at hfew
    rw [dT hgr,dT hll,tA,tA]
    exact List.all_eq_true.2 fun r hr=>dT (hfew r hr)
   rw [end_lt,cF,hbk,hfew',kT,bS,List.drop_length]
   simp only [listMay,tA]
   have hwl:(weightsOf b 0).length=b.1.2.length:=by unfold weightsOf;simp
   have:=f82.l1_is k b.1.1 b.1.2 b.2.1 b.2.2.1 b.2.2.2.1 b.list (weightsOf b 0) hwl (by omega) k 0 (by omega) (by omega)
   rw [show ((0:Nat):Int)=0 from rfl,List.drop_zero] at this
   exact this
theorem bookP_run (b:Bk) (hs:pcsSmall b=true):∃ k,evFn (f82.E k) 9 82 Tryz.f82 (encL [tBk] b)=some (.bool (bookMayP b)):=by
 refine ⟨17,(f82.eq _ b).trans ?_⟩
 unfold bookMayP
 cases hf:formB b with
 |false=>rw [nF,cT,fA]
 |true =>
  have hll:b.list.length≤8:=by
   have hf':=hf
   unfold formB at hf'
   simp only [bA,dE] at hf'
   exact hf'.2.2.2.2
  rw [nT,cF,tA]
  exact f82.l0_is 17 (by omega) b hf hs 17 0 (by omega) (by omega) (fun r hr=>by simp at hr)
end
section
theorem among_cons (k:Int) (ls:List Int) (i:Int):amongB (k::ls) i=(k==i || amongB ls i):=rfl
theorem among_iff {ls:List Int} {i:Int}:amongB ls i=true↔i∈ls:=by
 unfold amongB
 simp
theorem addLs_rate (r:Int):∀ (ls:List Int) (o:List Int),ls.Nodup→(∀ z∈ls,0≤z∧z<(o.length:Int))→(∀ (i:Nat) x,o[i]? = some x→(i:Int)∈ls→x+r≤maxRate) →
  ∃ o',addLs r ls o=some o'∧o'.length=o.length∧∀ (i:Nat) x,o[i]? = some x→o'[i]? = some (x+bif amongB ls i then r else 0)
 | [],o,_,_,_=>⟨o,rfl,rfl,fun i x hx=>by rw [hx];simp [amongB]⟩
 |z::ls,o,hn,hz,ho=>by
  rw [List.nodup_cons] at hn
  have hz0:=hz z (by simp)
  have hltz:z.toNat<o.length:=by omega
  have hgz:=gE hltz
  have hrdz:rd tI o z=o[z.toNat]:=by
   have:=rd_some (t:=tI) hgz
   rwa [Int.toNat_of_nonneg hz0.1] at this
  have hbz:=ho z.toNat _ hgz (by rw [Int.toNat_of_nonneg hz0.1];simp)
  have haz:addK o z r=some (o.set z.toNat (o[z.toNat]+r)):=by
   unfold addK
   rw [hrdz,dF (by omega),cond_false]
  obtain ⟨o',h1,h2,h3⟩:=addLs_rate r ls (o.set z.toNat (o[z.toNat]+r)) hn.2 (fun w hw=>by rw [List.length_set];exact hz w (List.mem_cons_of_mem _ hw)) (fun i x hx hi=>by
   rw [List.getElem?_set] at hx
   have hne:z.toNat ≠ i:=by
    rintro rfl
    rw [Int.toNat_of_nonneg hz0.1] at hi
    exact hn.1 hi
   rw [if_neg hne] at hx
   exact ho i x hx (List.mem_cons_of_mem _ hi))
  refine ⟨o',?_,by rw [h2,List.length_set],fun i x hx=>?_⟩
  ·simp only [addLs];rw [haz,bS];exact h1
  ·by_cases hne:z.toNat=i
   ·subst hne
    have hxe:x=o[z.toNat]:=by rw [hgz] at hx;exact (oJ hx).symm
    have h4:=h3 z.toNat (o[z.toNat]+r) (by rw [List.getElem?_set,if_pos rfl,if_pos hltz])
    rw [h4,among_cons,Int.toNat_of_nonneg hz0.1,show (z==z)=true by simp,Bool.true_or,cond_true]
    have:amongB ls z=false:=by
     cases h:amongB ls z with
     |false=>rfl
     |true=>exact absurd (among_iff.1 h) hn.1
    rw [this,cond_false,hxe,Int.add_zero]
   ·have h4:=h3 i x (by rw [List.getElem?_set,if_neg hne];exact hx)
    rw [h4,among_cons,show (z==(i:Int))=false by rw [beq_eq_false_iff_ne];omega,Bool.false_or]
theorem addPs_rate:∀ (ps:List Pt) (o:List Int) (all:Int),(∀ p∈ps,0≤p.1∧p.2.Nodup∧∀ z∈p.2,0≤z∧z<(o.length:Int))→(∀ x∈o,x≤all)→all+(ratesOf ps).sum≤maxRate →
  ∃ o',addPs ps o=some o'∧o'.length=o.length∧∀ (i:Nat) x,o[i]? = some x→o'[i]? = some (x+rateOn i ps)
 | [],o,all,_,_,_=>⟨o,rfl,rfl,fun i x hx=>by rw [hx];simp [rateOn]⟩
 |p::ps,o,all,hp,ho,ha=>by
  obtain ⟨h1,h2,h3⟩:=hp p (by simp)
  have hsum:0≤(ratesOf ps).sum:=by
   have:∀ (qs:List Pt),(∀ p∈qs,0≤p.1)→0≤(ratesOf qs).sum:=by
    intro qs
    induction qs with
    |nil=>intro _;exact Int.le_refl _
    |cons q qs ih =>
     intro hq
     have:=ih fun p hp=>hq p (List.mem_cons_of_mem _ hp)
     have:=hq q (by simp)
     show 0≤(q.1::ratesOf qs).sum
     rw [List.sum_cons]
     omega
   exact this ps fun p hp'=>(hp p (List.mem_cons_of_mem _ hp')).1
  have ha':all+(p.1+(ratesOf ps).sum)≤maxRate:=by
   have:(ratesOf (p::ps)).sum=p.1+(ratesOf ps).sum:=by show (p.1::ratesOf ps).sum=_;rw [List.sum_cons]
   rwa [this] at ha
  obtain ⟨o1,e1,e2,e3⟩:=addLs_rate p.1 p.2 o h2 h3 (fun i x hx _=>by
   have:=ho x (List.mem_of_getElem? hx)
   omega)
  obtain ⟨o2,g1,g2,g3⟩:=addPs_rate ps o1 (all+p.1) (fun q hq=>by rw [e2];exact hp q (List.mem_cons_of_mem _ hq)) (fun x hx=>by
   obtain ⟨i,hi⟩:=List.mem_iff_getElem?.1 hx
   have hlt:i<o.length:=by rw [← e2];exact (List.getElem?_eq_some_iff.1 hi).1
   have hg:=gE hlt
   have h4:=e3 i _ hg
   rw [hi] at h4
   have h5:=oJ h4
   have h6:=ho _ (List.getElem_mem hlt)
   cases hb:amongB p.2 (i:Int) with
   |false=>rw [hb,cond_false] at h5;omega
   |true=>rw [hb,cond_true] at h5;omega) (by omega)
  refine ⟨o2,?_,by rw [g2,e2],fun i x hx=>?_⟩
  ·simp only [addPs];rw [e1,bS];exact g1
  ·rw [g3 i _ (e3 i x hx),rateOn_cons,Int.add_assoc]
theorem path_nodup {g:Gr} {src dst:Int} {ls:List Int} (h:pathB g src dst ls=true):ls.Nodup∧ls.length≤64∧ls.all (lkIn g.2)=true:=by
 unfold pathB at h
 simp only [bA,dE,beq_iff_eq] at h
 obtain ⟨h1,_,_,h4⟩:=h
 obtain ⟨us,c1,c2,c3⟩:=walkOf_ok h1
 rw [c3] at h4
 obtain ⟨_,_,c4,c5⟩:=walkForm_all c1
 refine ⟨?_,c4,c5⟩
 have h5:=(List.nodup_cons.1 h4).2
 have hl:=walkL_len _ _ _ c2
 have he:us=ls.map fun l=>(lk g.2 l).2.1:=by
  refine List.ext_getElem? fun i=>?_
  rw [List.getElem?_map]
  cases hi:ls[i]? with
  |none =>
   rw [List.getElem?_eq_none_iff] at hi
   rw [List.getElem?_eq_none_iff.2 (by omega)]
   rfl
  |some l=>rw [walkL_get _ _ _ c2 hi];rfl
 rw [he] at h5
 exact List.Pairwise.of_map _ (fun a b hab hc=>hab (by rw [hc])) h5
theorem loadsOf_some' {g:Gr} {ps:List Pt} {out:List Int} (h:bForm g ps=true) (ha:addPs ps (List.replicate g.2.length 0)=some out):loadsOf g ps=(out,0):=by
 unfold loadsOf
 rw [h,cT,ha]
theorem lkIn_iff {gl:List Lk} {z:Int} (h:lkIn gl z=true):0≤z∧z<(gl.length:Int):=by
 unfold lkIn at h
 simpa using h
theorem mayB_parts {g:Gr} {src dst want:Int} {ps:List Pt} (h:mayB g src dst want ps=true):graphMay g=true∧ps.length≤16∧(∀ p∈ps,0<p.1∧p.1≤maxRate∧pathB g src dst p.2=true)∧(ratesOf ps).sum≤maxRate:=by
 unfold mayB at h
 simp only [bA,dE,List.all_eq_true] at h
 obtain ⟨h1,h2,h3,h4,h5⟩:=h
 have h5:sumUp 0 (ratesOf ps)=some want:=by simpa using h5
 have h6:=sumUp_lo _ _ _ h5 (by omega) (by decide)
 have h7:=sumUp_sum _ _ _ h5
 refine ⟨h1,h3,fun p hp=>⟨(h4 p hp).1,(h6.2.2 p.1 (List.mem_map_of_mem hp)).2,(h4 p hp).2⟩,by omega⟩
theorem loads_rate {g:Gr} {src dst want:Int} {ps:List Pt} (h:mayB g src dst want ps=true):(loadsOf g ps).1.length=g.2.length∧∀ (i:Nat),i<g.2.length→(loadsOf g ps).1[i]? = some (rateOn i ps):=by
 obtain ⟨h1,h2,h3,h4⟩:=mayB_parts h
 have hf:bForm g ps=true:=by
  unfold bForm
  rw [h1,dT h2,tA,tA]
  refine List.all_eq_true.2 fun p hp=>?_
  obtain ⟨p1,p2,p3⟩:=h3 p hp
  obtain ⟨q1,q2,q3⟩:=path_nodup p3
  unfold ptOk
  rw [show rateB p.1=true from dT ⟨by omega,p2⟩,dT q2,q3]
  rfl
 obtain ⟨o,e1,e2,e3⟩:=addPs_rate ps (List.replicate g.2.length 0) 0 (fun p hp=>by
  obtain ⟨p1,p2,p3⟩:=h3 p hp
  obtain ⟨q1,q2,q3⟩:=path_nodup p3
  exact ⟨by omega,q1,fun z hz=>by rw [List.length_replicate];exact lkIn_iff (List.all_eq_true.1 q3 z hz)⟩) (fun x hx=>by rw [(List.mem_replicate.1 hx).2];exact Int.le_refl _) (by omega)
 rw [loadsOf_some' hf e1]
 refine ⟨by rw [e2,List.length_replicate],fun i hi=>?_⟩
 have:=e3 i 0 (by rw [List.getElem?_replicate,if_pos hi])
 rw [this,Int.zero_add]
theorem loadsAt_append (a b:List Wt) (t:Int):(loadsAt (a++b) t).sum=(loadsAt a t).sum+(loadsAt b t).sum:=by
 unfold loadsAt
 rw [List.filter_append,List.map_append,List.sum_append]
theorem goodPt_of {g:Gr} {src dst want:Int} {ps:List Pt} (h:mayB g src dst want ps=true):ps.length≤16∧ps.all goodPt=true:=by
 obtain ⟨_,h2,h3,_⟩:=mayB_parts h
 refine ⟨h2,List.all_eq_true.2 fun p hp=>?_⟩
 obtain ⟨p1,p2,p3⟩:=h3 p hp
 unfold goodPt
 rw [show rateB p.1=true from dT ⟨by omega,p2⟩,dT (path_nodup p3).2.1]
 rfl
theorem rateOn_max {i:Int}:∀ {ps:List Pt},(∀ p∈ps,0≤p.1)→rateOn i ps≤(ratesOf ps).sum
 | [],_=>Int.le_refl _
 |p::ps,h=>by
  have:=rateOn_max (i:=i) (ps:=ps) fun q hq=>h q (List.mem_cons_of_mem _ hq)
  have:=h p (by simp)
  rw [rateOn_cons,show (ratesOf (p::ps)).sum=p.1+(ratesOf ps).sum by show (p.1::ratesOf ps).sum=_;rw [List.sum_cons]]
  cases amongB p.2 i
  ·simp only [cond_false];omega
  ·simp only [cond_true];omega
theorem wtsP_at {g:Gr} {src dst want:Int} {p:Pc} (h:mayB g src dst want p.2=true) (hs:spanMay p.1=true) {i:Nat} (hi:i<g.2.length) (t:Int) :
  (loadsAt (wtsP g i p) t).sum=(bif hasAt p.1 t then rateOn i p.2 else 0)∧∀ w∈wtsP g i p,weightMay w=true∧w.1=p.1:=by
 have hr:=(loads_rate h).2 i hi
 have hpos:=rateOn_pos (link:=(i:Int)) (goodPt_of h).2
 obtain ⟨_,_,h3,h4⟩:=mayB_parts h
 have hmax:=rateOn_max (i:=(i:Int)) (ps:=p.2) fun q hq=>by have:=(h3 q hq).1;omega
 unfold wtsP
 rw [List.getD_eq_getElem?_getD,hr,Option.getD_some]
 by_cases h0:0<rateOn i p.2
 ·rw [dT h0,cond_true]
  refine ⟨?_,fun w hw=>?_⟩
  ·unfold loadsAt
   cases hh:hasAt p.1 t with
   |true=>rw [List.filter_cons,if_pos hh];simp
   |false=>rw [List.filter_cons,if_neg (by simp [hh])];simp
  ·rw [List.mem_singleton] at hw
   subst hw
   refine ⟨?_,rfl⟩
   unfold weightMay
   rw [hs,show rateB (rateOn i p.2)=true from dT ⟨by omega,by omega⟩]
   rfl
 ·have:rateOn i p.2=0:=by omega
  rw [dF h0,cond_false,this]
  refine ⟨?_,fun w hw=>(List.not_mem_nil hw).elim⟩
  cases hasAt p.1 t <;> rfl
theorem wtsR_at {g:Gr} {src dst want:Int} {i:Nat} (hi:i<g.2.length) (t:Int):∀ (ps:List Pc),(∀ p∈ps,mayB g src dst want p.2=true∧spanMay p.1=true) →
  (loadsAt (ps.flatMap (wtsP g i)) t).sum=loadPs i t ps∧∀ w∈ps.flatMap (wtsP g i),weightMay w=true∧∃ p∈ps,w.1=p.1
 | [],_=>⟨rfl,fun w hw=>(List.not_mem_nil hw).elim⟩
 |p::ps,h=>by
  obtain ⟨h1,h2⟩:=wtsR_at hi t ps fun q hq=>h q (List.mem_cons_of_mem _ hq)
  obtain ⟨h3,h4⟩:=h p (by simp)
  obtain ⟨h5,h6⟩:=wtsP_at h3 h4 hi t
  rw [List.flatMap_cons,loadsAt_append,h1,h5,loadPs_cons]
  refine ⟨rfl,fun w hw=>?_⟩
  rcases List.mem_append.1 hw with hw|hw
  ·exact ⟨(h6 w hw).1,p,by simp,(h6 w hw).2⟩
  ·obtain ⟨a,q,hq,e⟩:=h2 w hw
   exact ⟨a,q,List.mem_cons_of_mem _ hq,e⟩
theorem wholeL_spans (to:Int):∀ (ps:List Pc) (a:Int),wholeL to a ps=true→∀ p∈ps,spanMay p.1=true
 | [],_,_,p,hp=>(List.not_mem_nil hp).elim
 |q::ps,a,h,p,hp=>by
  simp only [wholeL,bA] at h
  rcases List.mem_cons.1 hp with rfl|hp
  ·first|exact h.1|exact h.1.1|exact h.1.2|exact h.2.1
  ·first|exact wholeL_spans to ps _ h.2 p hp|exact wholeL_spans to ps _ h.2.2 p hp
end
section
def sumW (ws:List Wt) (t:Int):Int:=(loadsAt ws t).sum
theorem loadsAt_pos {ws:List Wt} (hw:ws.all weightMay=true) {t:Int}:∀ x∈loadsAt ws t,0≤x∧x≤maxRate:=by
 intro x hx
 unfold loadsAt at hx
 obtain ⟨w,h1,rfl⟩:=List.mem_map.1 hx
 have h2:=List.all_eq_true.1 hw w (List.mem_filter.1 h1).1
 unfold weightMay at h2
 rw [bA] at h2
 exact oD h2.2
theorem sum_pos:∀ {xs:List Int},(∀ x∈xs,0≤x)→0≤xs.sum
 | [],_=>Int.le_refl _
 |x::xs,h=>by
  have:=sum_pos (xs:=xs) fun y hy=>h y (List.mem_cons_of_mem _ hy)
  have:=h x (by simp)
  rw [List.sum_cons]
  omega
theorem sumW_pos {ws:List Wt} (hw:ws.all weightMay=true) {t:Int}:0≤sumW ws t:=sum_pos fun x hx=>(loadsAt_pos hw x hx).1
theorem sumAt_is {ws:List Wt} (hw:ws.all weightMay=true) (t:Int):sumAt ws t=bif decide (sumW ws t≤maxRate) then (sumW ws t,true) else (0,false):=by
 unfold sumAt sumTold
 by_cases h:sumW ws t≤maxRate
 ·rw [dT h,cond_true,sumUp_eq _ 0 (fun x hx=>(loadsAt_pos hw x hx).1) (by omega) (by unfold sumW at h;omega)]
  show (0+sumW ws t,true)=_
  rw [Int.zero_add]
 ·rw [dF h,cond_false]
  cases hs:sumUp 0 (loadsAt ws t) with
  |none=>rfl
  |some s =>
   have h1:=sumUp_sum _ _ _ hs
   have h2:=sumUp_lo _ _ _ hs (by omega) (by decide)
   exact absurd (show sumW ws t≤maxRate by unfold sumW;omega) h
def ptR (ws:List Wt) (p:Int):Int×Int:=(p,sumW ws p)
theorem buildL_is {ws:List Wt} (hw:ws.all weightMay=true):∀ (P:List Int) (out:List (Int×Int)),
  buildL ws P out=bif P.all (fun p=>decide (sumW ws p≤maxRate)) then some (out++(P.filter fun p=>decide (p<4096)).map (ptR ws)) else none
 | [],out=>by simp [buildL]
 |p::P,out=>by
  simp only [buildL,List.all_cons]
  rw [sumAt_is hw]
  cases h:decide (sumW ws p≤maxRate) with
  |false=>rfl
  |true =>
   rw [cond_true,cond_true,buildL_is hw P,tA]
   cases hd:decide (p<4096) with
   |false=>rw [cond_false,List.filter_cons,if_neg (by simp [hd])]
   |true=>rw [cond_true,List.filter_cons,if_pos hd,List.map_cons,List.append_assoc];rfl
theorem keepR_all (cap:Int):∀ (rs:List (Int×Int)) (q:Int×Int),q.2≤cap→((∀ r∈keepR (some q) rs,r.2≤cap)↔∀ r∈rs,r.2≤cap)
 | [],q,_=>Iff.rfl
 |r::rs,q,hq=>by
  simp only [keepR]
  cases h:r.2==q.2 with
  |true =>
   have h':r.2=q.2:=by simpa using h
   rw [cond_true,keepR_all cap rs r (by omega),List.forall_mem_cons]
   exact ⟨fun hh=>⟨by omega,hh⟩,fun hh=>hh.2⟩
  |false =>
   rw [cond_false,List.forall_mem_cons,List.forall_mem_cons]
   constructor
   ·rintro ⟨h1,h2⟩;exact ⟨h1,(keepR_all cap rs r h1).1 h2⟩
   ·rintro ⟨h1,h2⟩;exact ⟨h1,(keepR_all cap rs r h1).2 h2⟩
theorem keepR_sub:∀ (rs:List (Int×Int)) (q:Int×Int),∀ r∈keepR (some q) rs,r∈rs
 | [],q,r,hr=>hr
 |x::rs,q,r,hr=>by
  simp only [keepR] at hr
  cases h:x.2==q.2 with
  |true=>rw [h,cond_true] at hr;exact List.mem_cons_of_mem _ (keepR_sub rs x r hr)
  |false =>
   rw [h,cond_false] at hr
   rcases List.mem_cons.1 hr with rfl|hr
   ·exact List.mem_cons_self
   ·exact List.mem_cons_of_mem _ (keepR_sub rs x r hr)
theorem keepR_ok:∀ (rs:List (Int×Int)) (q q':Int×Int),q.2=q'.2→q.1≤q'.1→(∀ r∈rs,q'.1<r.1)→rs.Pairwise (fun a b=>a.1<b.1)→(∀ r∈rs,r.1<4096∧rateB r.2=true)→runsOk (some q) (keepR (some q') rs)=true
 | [],q,q',_,_,_,_,_=>rfl
 |r::rs,q,q',h1,h2,h3,h4,h5=>by
  rw [List.pairwise_cons] at h4
  have h6:=h3 r (by simp)
  have h7:=h5 r (by simp)
  have h8:∀ x∈rs,x.1<4096∧rateB x.2=true:=fun x hx=>h5 x (List.mem_cons_of_mem _ hx)
  simp only [keepR]
  cases h:r.2==q'.2 with
  |true =>
   have h':r.2=q'.2:=by simpa using h
   rw [cond_true]
   exact keepR_ok rs q r (by omega) (by omega) h4.1 h4.2 h8
  |false =>
   have h':¬ r.2=q'.2:=by simpa using h
   rw [cond_false]
   simp only [runsOk,runOk,bA,dE,bne_iff_ne,ne_eq]
   exact ⟨⟨h7.1,h7.2,by omega,by omega⟩,keepR_ok rs r r rfl (Int.le_refl _) h4.1 h4.2 h8⟩
theorem mostL_le (to cap:Int):∀ (rs:List (Int×Int)) (m:Int×Int),(∀ r∈rs,r.1<to)→((mostL to rs m).1≤cap↔m.1≤cap∧∀ r∈rs,r.2≤cap)
 | [],m,_=>by simp [mostL]
 |r::rs,m,h=>by
  have h1:=h r (by simp)
  have ih:=fun m=>mostL_le to cap rs m fun x hx=>h x (List.mem_cons_of_mem _ hx)
  simp only [mostL]
  rw [dT h1,tA,List.forall_mem_cons]
  by_cases hc:r.2>m.1
  ·rw [dT hc,cond_true,ih]
   constructor
   ·rintro ⟨a,b⟩;exact ⟨by dsimp only at a;omega,a,b⟩
   ·rintro ⟨a,b,c⟩;exact ⟨b,c⟩
  ·rw [dF hc,cond_false,ih]
   constructor
   ·rintro ⟨a,b⟩;exact ⟨a,by omega,b⟩
   ·rintro ⟨a,b,c⟩;exact ⟨a,c⟩
theorem points_spec (ws:List Wt):(pointsOf ws).Pairwise (· < ·)∧∀ x,x∈pointsOf ws↔x=0∨∃ w∈ws,x=w.1.1∨x=w.1.2:=by
 obtain ⟨h1,h2⟩:=compact_spec _ (sortI_sorted (0::endsOf ws))
 refine ⟨h1,fun x=>?_⟩
 unfold pointsOf
 rw [h2,(sortI_perm _).mem_iff,List.mem_cons]
 unfold endsOf
 rw [List.mem_flatMap]
 simp only [List.mem_cons,List.not_mem_nil,or_false]
theorem sumW_from {ws:List Wt} (hw:ws.all weightMay=true) (t:Int):sumW ws t=0∨∃ w∈ws,hasAt w.1 t=true∧sumW ws t≤sumW ws w.1.1:=by
 have sub:∀ (vs:List Wt) (f:Int),vs.all weightMay=true→(∀ w∈vs,hasAt w.1 t=true→hasAt w.1 f=true)→sumW vs t≤sumW vs f:=by
  intro vs f
  induction vs with
  |nil=>intro _ _;exact Int.le_refl _
  |cons v vs ih =>
   intro h1 h2
   simp only [List.all_cons,bA] at h1
   have h3:=ih h1.2 fun w hw=>h2 w (List.mem_cons_of_mem _ hw)
   have h4:=h2 v (by simp)
   have h5:0≤v.2:=by
    have:=h1.1
    unfold weightMay at this
    rw [bA] at this
    exact (oD this.2:0≤v.2∧v.2≤maxRate).1
   unfold sumW loadsAt at h3 ⊢
   rw [List.filter_cons,List.filter_cons]
   cases ht:hasAt v.1 t with
   |true=>rw [h4 ht,if_pos rfl,if_pos rfl,List.map_cons,List.map_cons,List.sum_cons,List.sum_cons];omega
   |false =>
    rw [if_neg (by simp)]
    cases hasAt v.1 f with
    |true=>rw [if_pos rfl,List.map_cons,List.sum_cons];omega
    |false=>rw [if_neg (by simp)];exact h3
 have last:∀ (vs:List Wt),(∀ w∈vs,hasAt w.1 t=false)∨∃ w∈vs,hasAt w.1 t=true∧∀ v∈vs,hasAt v.1 t=true→v.1.1≤w.1.1:=by
  intro vs
  induction vs with
  |nil=>exact .inl fun w hw=>(List.not_mem_nil hw).elim
  |cons v vs ih =>
   cases hv:hasAt v.1 t with
   |false =>
    rcases ih with h|⟨w,h1,h2,h3⟩
    ·exact .inl fun w hw=>by
      rcases List.mem_cons.1 hw with rfl|hw
      ·exact hv
      ·exact h w hw
    ·refine .inr ⟨w,List.mem_cons_of_mem _ h1,h2,fun u hu hut=>?_⟩
     rcases List.mem_cons.1 hu with rfl|hu
     ·rw [hv] at hut;cases hut
     ·exact h3 u hu hut
   |true =>
    rcases ih with h|⟨w,h1,h2,h3⟩
    ·refine .inr ⟨v,List.mem_cons_self,hv,fun u hu hut=>?_⟩
     rcases List.mem_cons.1 hu with rfl|hu
     ·exact Int.le_refl _
     ·rw [h u hu] at hut;cases hut
    ·by_cases hle:v.1.1≤w.1.1
     ·refine .inr ⟨w,List.mem_cons_of_mem _ h1,h2,fun u hu hut=>?_⟩
      rcases List.mem_cons.1 hu with rfl|hu
      ·exact hle
      ·exact h3 u hu hut
     ·refine .inr ⟨v,List.mem_cons_self,hv,fun u hu hut=>?_⟩
      rcases List.mem_cons.1 hu with rfl|hu
      ·exact Int.le_refl _
      ·have:=h3 u hu hut
       omega
 rcases last ws with h|⟨w,h1,h2,h3⟩
 ·left
  unfold sumW loadsAt
  rw [List.filter_eq_nil_iff.2 fun w hw=>by rw [h w hw];simp]
  rfl
 ·refine .inr ⟨w,h1,h2,sub ws _ hw fun v hv hvt=>?_⟩
  have h4:=h3 v hv hvt
  rw [hasAt_iff] at h2 hvt ⊢
  exact ⟨hvt.1,h4,by omega⟩
theorem fitW_iff {ws:List Wt} {cap:Int} (hw:ws.all weightMay=true) (hl:ws.length≤64) (hc:0≤cap∧cap≤maxRate):fitW ws cap=true↔∀ w∈ws,sumW ws w.1.1≤cap:=by
 obtain ⟨hp,hm⟩:=points_spec ws
 have hspan:∀ w∈ws,0≤w.1.1∧w.1.1<w.1.2∧w.1.2≤4096:=by
  intro w hw'
  have:=List.all_eq_true.1 hw w hw'
  unfold weightMay spanMay at this
  rw [bA] at this
  exact oD this.1
 have hin:∀ p∈pointsOf ws,0≤p:=by
  intro p hp'
  rcases (hm p).1 hp' with rfl|⟨w,h1,h2⟩
  ·exact Int.le_refl _
  ·have:=hspan w h1
   omega
 have hend:∀ p,¬ p<4096→sumW ws p=0:=by
  intro p hp'
  rcases sumW_from hw p with h|⟨w,h1,h2,_⟩
  ·exact h
  ·rw [hasAt_iff] at h2
   have:=hspan w h1
   omega
 have hall:(∀ p∈pointsOf ws,sumW ws p≤cap)↔∀ w∈ws,sumW ws w.1.1≤cap:=by
  constructor
  ·exact fun h w hw'=>h _ ((hm _).2 (.inr ⟨w,hw',.inl rfl⟩))
  ·intro h p _
   rcases sumW_from hw p with h0|⟨w,h1,_,h3⟩
   ·omega
   ·have:=h w h1
    omega
 rw [← hall]
 obtain ⟨P,hP⟩:∃ P,pointsOf ws=0::P:=by
  have h0:(0:Int)∈pointsOf ws:=(hm 0).2 (.inl rfl)
  cases h:pointsOf ws with
  |nil=>rw [h] at h0;cases h0
  |cons q P =>
   rw [h] at h0 hp hin
   rcases List.mem_cons.1 h0 with h1|h1
   ·exact ⟨P,by rw [h1]⟩
   ·have h2:=(List.pairwise_cons.1 hp).1 0 h1
    have h3:=hin q (by simp)
    omega
 rw [hP] at hp hin
 rw [List.pairwise_cons] at hp
 unfold fitW buildOf
 rw [dT hl,hw,tA,cond_true,buildL_is hw,hP]
 cases ha:(0::P).all (fun p=>decide (sumW ws p≤maxRate)) with
 |false =>
  rw [cond_false]
  refine ⟨fun h=>by simp at h,fun h=>?_⟩
  have:(0::P).all (fun p=>decide (sumW ws p≤maxRate))=true:=List.all_eq_true.2 fun p hp'=>dT (by have:=h p hp';omega)
  rw [ha] at this
  cases this
 |true =>
  rw [cond_true,List.nil_append,List.filter_cons,if_pos (by decide),List.map_cons]
  simp only [keepR]
  generalize hr:(P.filter fun p=>decide (p<4096)).map (ptR ws)=rs
  have h0:∀ p∈0::P,0≤sumW ws p∧sumW ws p≤maxRate:=fun p hp'=>⟨sumW_pos hw,oD (List.all_eq_true.1 ha p hp')⟩
  have hrs:∀ r∈rs,0<r.1∧r.1<4096∧rateB r.2=true:=by
   intro r hr'
   subst hr
   obtain ⟨p,h1,rfl⟩:=List.mem_map.1 hr'
   obtain ⟨h1,h2⟩:=List.mem_filter.1 h1
   exact ⟨hp.1 p h1,oD h2,dT (h0 p (List.mem_cons_of_mem _ h1))⟩
  have hpr:rs.Pairwise (fun a b=>a.1<b.1):=by
   subst hr
   rw [List.pairwise_map]
   exact hp.2.sublist List.filter_sublist
  have hok:runsMay (ptR ws 0::keepR (some (ptR ws 0)) rs)=true:=by
   unfold runsMay
   simp only [runsOk,runOk,bA,dE,beq_iff_eq]
   exact ⟨rfl,⟨by show (0:Int)<4096;omega,dT (h0 0 (by simp)),trivial⟩,keepR_ok rs _ _ rfl (Int.le_refl _) (fun r hr'=>(hrs r hr').1) hpr fun r hr'=>(hrs r hr').2⟩
  have hbeg:begun (ptR ws 0::keepR (some (ptR ws 0)) rs) 0=1:=by
   unfold begun
   rw [List.countP_cons,List.countP_eq_zero.2 fun r hr'=>by have:=(hrs r (keepR_sub _ _ r hr')).1;simp;omega]
   rfl
  have hmo:mostOf (ptR ws 0::keepR (some (ptR ws 0)) rs) (0,4096)=((mostL 4096 (keepR (some (ptR ws 0)) rs) ((ptR ws 0).2,0)).1,(mostL 4096 (keepR (some (ptR ws 0)) rs) ((ptR ws 0).2,0)).2,0):=by
   unfold mostOf
   rw [hok,show spanMay (0,4096)=true from rfl,Bool.and_self,cond_true]
   dsimp only
   rw [hbeg]
   rfl
  show ((0:Int)==0&&((mostOf (ptR ws 0::keepR (some (ptR ws 0)) rs) (0,4096)).2.2==0&&decide ((mostOf (ptR ws 0::keepR (some (ptR ws 0)) rs) (0,4096)).1≤cap)))=true↔_
  rw [hmo]
  simp only [beq_self_eq_true,tA,dE]
  rw [mostL_le 4096 cap _ _ fun r hr'=>(hrs r (keepR_sub _ _ r hr')).2.1]
  constructor
  ·rintro ⟨h1,h2⟩ p hp'
   have h3:=(keepR_all cap rs (ptR ws 0) h1).1 h2
   rcases List.mem_cons.1 hp' with rfl|hp'
   ·exact h1
   ·by_cases hlt:p<4096
    ·have:ptR ws p∈rs:=by
      subst hr
      exact List.mem_map_of_mem (List.mem_filter.2 ⟨hp',dT hlt⟩)
     exact h3 _ this
    ·rw [hend p hlt];exact hc.1
  ·intro h
   have h1:(ptR ws 0).2≤cap:=h 0 (by simp)
   refine ⟨h1,(keepR_all cap rs (ptR ws 0) h1).2 fun r hr'=>?_⟩
   subst hr
   obtain ⟨p,h2,rfl⟩:=List.mem_map.1 hr'
   exact h p (List.mem_cons_of_mem _ (List.mem_filter.1 h2).1)
end
section
def okB (b:Bk):Prop:=formB b=true∧∀ r∈b.list,resMayB b r=true
theorem listMay_all {b:Bk}:∀ {p:Option Int} {rs:List Rs},listMay b p rs=true→∀ r∈rs,resMayB b r=true
 |_,[],_,r,hr=>(List.not_mem_nil hr).elim
 |p,q::rs,h,r,hr=>by
  simp only [listMay,bA] at h
  rcases List.mem_cons.1 hr with rfl|hr
  ·exact h.1
  ·exact listMay_all h.2.2 r hr
theorem resMay_parts {b:Bk} {r:Rs} (h:resMayB b r=true):spanMay r.1=true∧b.now<r.1.2∧(1≤r.id∧r.id<b.next)∧(0≤r.owner∧r.owner<4)∧(1≤(r.pcs.length:Int)∧(r.pcs.length:Int)≤b.segs)∧wholeL r.1.2 r.1.1 r.pcs=true∧∀ p∈r.pcs,mayB b.1 r.src r.dst r.rate p.2=true∧spanMay p.1=true:=by
 unfold resMayB at h
 simp only [bA,dE,List.all_eq_true] at h
 obtain ⟨h1,h2,h3,h4,h5,h6,h7⟩:=h
 exact ⟨h1,h2,h3,h4,h5,h6,fun p hp=>⟨h7 p hp,wholeL_spans _ _ _ h6 p hp⟩⟩
theorem form_parts {b:Bk} (h:formB b=true):graphMay b.1=true∧(1≤b.segs∧b.segs≤8)∧(0≤b.now∧b.now≤4096)∧(1≤b.next∧b.next≤1048577)∧b.list.length≤8:=by
 unfold formB at h
 simpa only [bA,dE] using h
theorem graph_parts {g:Gr} (h:graphMay g=true):g.2.length≤16∧∀ l∈g.2,0≤l.2.2∧l.2.2≤maxRate:=by
 unfold graphMay shapeB at h
 simp only [bA,dE] at h
 refine ⟨h.1.2.1,fun l hl=>?_⟩
 obtain ⟨s,hs⟩:=Option.isSome_iff_exists.1 h.2
 exact (sumUp_lo _ _ _ hs (by omega) (by decide)).2.2 l.2.2 (List.mem_map_of_mem hl)
theorem capAt_in {b:Bk} (h:graphMay b.1=true) {i:Nat} (hi:i<b.1.2.length):capAt b i=b.1.2[i].2.2∧0≤capAt b i∧capAt b i≤maxRate:=by
 have:capAt b i=b.1.2[i].2.2:=by
  unfold capAt
  rw [rd_some (t:=tLk) (gE hi)]
 rw [this]
 exact ⟨rfl,(graph_parts h).2 _ (List.getElem_mem hi)⟩
theorem pcs_few {b:Bk} (h:okB b):∀ r∈b.list,r.pcs.length≤8:=by
 intro r hr
 have h1:=(resMay_parts (h.2 r hr)).2.2.2.2.1
 have h2:=(form_parts h.1).2.1
 omega
theorem okB_few {b:Bk} (h:okB b):fewB b=true:=by
 unfold fewB
 rw [dT (graph_parts (form_parts h.1).1).1,dT (form_parts h.1).2.2.2.2,tA,tA]
 exact List.all_eq_true.2 fun r hr=>dT (pcs_few h r hr)
theorem okB_good {b:Bk} (h:okB b):b.list.all goodR=true:=by
 refine List.all_eq_true.2 fun r hr=>?_
 unfold goodR
 rw [show decide (r.pcs.length≤8)=true from dT (pcs_few h r hr),tA]
 refine List.all_eq_true.2 fun p hp=>?_
 obtain ⟨h1,h2⟩:=goodPt_of ((resMay_parts (h.2 r hr)).2.2.2.2.2.2 p hp).1
 unfold goodPc
 rw [dT h1,h2]
 rfl
theorem wtsB_is {b:Bk} (but:Int) {i:Nat} (hi:i<b.1.2.length) (t:Int):∀ (rs:List Rs),(∀ r∈rs,resMayB b r=true∧r.pcs.length≤8) →
  sumW (wtsB b.1 but i rs) t=loadRs i t but rs∧(wtsB b.1 but i rs).all weightMay=true∧(wtsB b.1 but i rs).length≤8*rs.length∧∀ w∈wtsB b.1 but i rs,∃ r∈rs,r.id ≠ but∧∃ p∈r.pcs,w.1=p.1
 | [],_=>⟨rfl,rfl,Nat.le_refl _,fun w hw=>(List.not_mem_nil hw).elim⟩
 |r::rs,h=>by
  obtain ⟨h1,h2,h3,h4⟩:=wtsB_is but hi t rs fun q hq=>h q (List.mem_cons_of_mem _ hq)
  have hr:=h r (by simp)
  rw [loadRs_cons]
  cases hb:r.id==but with
  |true =>
   have:wtsB b.1 but i (r::rs)=wtsB b.1 but i rs:=by
    unfold wtsB
    rw [List.filter_cons,if_neg (by simp only [bne];rw [hb];simp)]
   rw [this,cond_true,Int.zero_add]
   refine ⟨h1,h2,by rw [List.length_cons];omega,fun w hw=>?_⟩
   obtain ⟨q,hq,e⟩:=h4 w hw
   exact ⟨q,List.mem_cons_of_mem _ hq,e⟩
  |false =>
   have:wtsB b.1 but i (r::rs)=wtsR b.1 i r++wtsB b.1 but i rs:=by
    unfold wtsB
    rw [List.filter_cons,if_pos (by simp only [bne];rw [hb];rfl),List.flatMap_cons]
   obtain ⟨h5,h6⟩:=wtsR_at hi t r.pcs (resMay_parts hr.1).2.2.2.2.2.2
   have hlen:∀ (ps:List Pc),(ps.flatMap (wtsP b.1 i)).length≤ps.length:=by
    intro ps
    induction ps with
    |nil=>exact Nat.le_refl _
    |cons p ps ih =>
     have:=wtsP_len b.1 p i
     rw [List.flatMap_cons,lA,List.length_cons]
     omega
   have hl:=hlen r.pcs
   rw [this,cond_false]
   refine ⟨?_,?_,?_,fun w hw=>?_⟩
   ·unfold sumW
    rw [loadsAt_append]
    show (loadsAt (r.pcs.flatMap (wtsP b.1 i)) t).sum+_=_
    rw [h5]
    congr 1
   ·rw [List.all_append,h2,Bool.and_true]
    exact List.all_eq_true.2 fun w hw=>(h6 w hw).1
   ·rw [lA,List.length_cons]
    have:(wtsR b.1 i r).length≤r.pcs.length:=hl
    omega
   ·rcases List.mem_append.1 hw with hw|hw
    ·obtain ⟨_,p,hp,e⟩:=h6 w hw
     exact ⟨r,by simp,by simpa using hb,p,hp,e⟩
    ·obtain ⟨q,hq,e⟩:=h4 w hw
     exact ⟨q,List.mem_cons_of_mem _ hq,e⟩
theorem okB_wts {b:Bk} (h:okB b) (but:Int) {i:Nat} (hi:i<b.1.2.length):(∀ t,sumW (wtsB b.1 but i b.list) t=loadB b i t but)∧(wtsB b.1 but i b.list).all weightMay=true∧(wtsB b.1 but i b.list).length≤64∧∀ w∈wtsB b.1 but i b.list,∃ r∈b.list,r.id ≠ but∧∃ p∈r.pcs,w.1=p.1:=by
 have h0:=fun t=>wtsB_is (b:=b) but hi t b.list fun r hr=>⟨h.2 r hr,pcs_few h r hr⟩
 have h1:=(form_parts h.1).2.2.2.2
 have h2:=(h0 0).2.2.1
 exact ⟨fun t=>(h0 t).1,(h0 0).2.1,by omega,(h0 0).2.2.2⟩
def linksMay (b:Bk) (i:Nat) (t:Int):Bool:=(List.range' i (b.1.2.length - i)).all fun (m:Nat)=>decide (loadB b m t 0≤capAt b m)
def bookMayB (b:Bk):Bool:=formB b&&(listMay b none b.list&&b.list.all fun r=>r.pcs.all fun p=>linksMay b 0 p.1.1)
theorem bookMay_eq (b:Bk):bookMayP b=bookMayB b:=by
 unfold bookMayP bookMayB
 cases hf:formB b with
 |false=>rfl
 |true =>
  cases hl:listMay b none b.list with
  |false=>rfl
  |true =>
   rw [tA,tA,tA,tA]
   have hok:okB b:=⟨hf,listMay_all hl⟩
   have hg:=(form_parts hf).1
   rw [Bool.eq_iff_iff,List.all_eq_true,List.all_eq_true]
   have hwl:(weightsOf b 0).length=b.1.2.length:=by unfold weightsOf;simp
   have one:∀ (i:Nat) (hi:i<b.1.2.length),fitW (wtsB b.1 0 i b.list) (capAt b i)=true↔∀ r∈b.list,∀ p∈r.pcs,loadB b i p.1.1 0≤capAt b i:=by
    intro i hi
    obtain ⟨h1,h2,h3,h4⟩:=okB_wts hok 0 hi
    rw [fitW_iff h2 h3 (capAt_in hg hi).2]
    constructor
    ·intro h r hr p hp
     rw [← h1]
     rcases sumW_from h2 p.1.1 with h0|⟨w,hw,_,hle⟩
     ·rw [h0];exact (capAt_in hg hi).2.1
     ·exact Int.le_trans hle (h w hw)
    ·intro h w hw
     obtain ⟨r,hr,_,p,hp,e⟩:=h4 w hw
     rw [e,h1]
     exact h r hr p hp
   constructor
   ·intro h r hr
    refine List.all_eq_true.2 fun p hp=>?_
    unfold linksMay
    refine List.all_eq_true.2 fun m hm=>dT ?_
    have hm':m<b.1.2.length:=by
     rw [List.mem_range'_1] at hm
     omega
    refine (one m hm').1 ?_ r hr p hp
    rw [(capAt_in hg hm').1]
    refine h (wtsB b.1 0 m b.list,b.1.2[m]) (List.mem_iff_getElem?.2 ⟨m,?_⟩)
    rw [List.getElem?_zip_eq_some]
    refine ⟨?_,gE hm'⟩
    unfold weightsOf
    rw [List.getElem?_map,List.getElem?_range hm']
    rfl
   ·rintro h ⟨ws,l⟩ hx
    obtain ⟨m,hm⟩:=List.mem_iff_getElem?.1 hx
    rw [List.getElem?_zip_eq_some] at hm
    obtain ⟨ha,hb⟩:=hm
    have hm':m<b.1.2.length:=(List.getElem?_eq_some_iff.1 hb).1
    have hws:ws=wtsB b.1 0 m b.list:=by
     unfold weightsOf at ha
     rw [List.getElem?_map,List.getElem?_range hm'] at ha
     exact (oJ ha).symm
    have hll:l.2.2=capAt b m:=by
     rw [(capAt_in hg hm').1]
     rw [gE hm'] at hb
     rw [oJ hb]
    show fitW ws l.2.2=true
    rw [hws,hll]
    refine (one m hm').2 fun r hr p hp=>?_
    have:=List.all_eq_true.1 (h r hr) p hp
    unfold linksMay at this
    exact oD (List.all_eq_true.1 this m (by rw [List.mem_range'_1];omega))
noncomputable def S82:Summ:=summ [tBk] Bool (fun b=>chk (pcsSmall b) (some (bookMayB b))) .bool
theorem ok82:SumOk Tryz.prog 82 S82 :=
 sum_k hmix f82.E (fn:=Tryz.f82) (code:=f82.code) (by kernel_rfl) (by kernel_rfl) (by kernel_rfl) (fun _=>ttOk) f82.sums f82.inl fun (b:Bk) x hx=>by
  obtain ⟨hb,hx⟩:=chk_some hx
  obtain rfl:=oJ hx
  rw [← bookMay_eq]
  exact bookP_run b hb
end
section
set_option maxRecDepth 100000
noncomputable def f86.E (k:Nat):Env:=mkEnv tt [(64,S64),(149,S149),(150,S150)] [] [(86,15,[.kill (rg [(0,0),(2,3),(7,128)]),.tidy]),(86,12,[.kill (rg [(0,0),(2,3),(6,128)]),.tidy]),(86,9,[.kill (rg [(0,0),(2,3),(5,128)]),.tidy]),(86,4,[.kill (rg [(0,0),(2,2),(4,128)]),.tidy])] [] k
noncomputable def f86.code:Go.Code:=cd Tryz.f86
noncomputable def f86.l0 (k n:Nat) (p0:Int) (p1:Int) (p2:List (eL)) (p3:Int) (p4:Int) (p5:Int) (p6:List (eR)):Option V :=
 atPath (f86.E k) n ⟨(.u::(.ptr 262160 (0) (0))::.u::(.int .i64 p0)::un 125),[],[(262160,.box [(.int .i64 p1),(.ro qL p2),(.int .i64 p3),(.int .i64 p4),(.int .i64 p5),(.ro qR p6)])]⟩ 9 0 86 [.c 1,.c 1,.c 0,.c 1,.c 0] [] f86.code (finK tt Tryz.f86)
noncomputable def f86.l1 (k n:Nat) (p0:Int) (p1:Int) (p2:List (eL)) (p3:Int) (p4:Int) (p5:Int) (p6:List (eR)):Option V :=
 atPath (f86.E k) n ⟨(.u::(.ptr 262160 (0) (0))::.u::.u::(.int .i64 p0)::un 124),[],[(262160,.box [(.int .i64 p1),(.ro qL p2),(.int .i64 p3),(.int .i64 p4),(.int .i64 p5),(.ro qR p6)])]⟩ 9 0 86 [.c 1,.c 1,.c 1,.c 0,.c 1,.c 0] [] f86.code (finK tt Tryz.f86)
noncomputable def f86.l2 (k n m0:Nat) (p0:Int) (p1:Int) (p2:Int) (p3:List (eL)) (p4:Int) (p5:Int) (p6:Int) (p7:List (eR)):Option V :=
 atPath (f86.E k) n ⟨(.u::(.ptr 262160 (0) (0))::.u::.u::(.int .i64 p0)::(.int .i64 p1)::un 123),[],[(262160,.box [(.int .i64 p2),(.ro qL p3),(.int .i64 p4),(.int .i64 p5),(.int .i64 p6),(.ro qR p7)])]⟩ 9 0 86 [.c 1,.c 1,.c 1,.c 0,.c 1,.c 0,.c 0,.c 1,.c 0,.c 0,.c 1,.c 0] [m0] f86.code (finK tt Tryz.f86)
noncomputable def f86.l3 (k n m0 m1:Nat) (p0:Int) (p1:Int) (p2:Int) (p3:Int) (p4:List (eL)) (p5:Int) (p6:Int) (p7:Int) (p8:List (eR)):Option V :=
 atPath (f86.E k) n ⟨(.u::(.ptr 262160 (0) (0))::.u::.u::(.int .i64 p0)::(.int .i64 p1)::(.int .i64 p2)::un 122),[],[(262160,.box [(.int .i64 p3),(.ro qL p4),(.int .i64 p5),(.int .i64 p6),(.int .i64 p7),(.ro qR p8)])]⟩ 9 0 86 [.c 1,.c 1,.c 1,.c 0,.c 1,.c 0,.c 0,.c 1,.c 0,.c 0,.c 1,.c 0,.c 0,.c 1,.c 0,.c 0,.c 1,.c 0] [m0,m1] f86.code (finK tt Tryz.f86)
theorem f86.l0_eq (k n:Nat) (p0:Int) (p1:Int) (p2:List (eL)) (p3:Int) (p4:Int) (p5:Int) (p6:List (eR)):f86.l0 k (n+1) p0 p1 p2 p3 p4 p5 p6 =
 bif decide (p0<(↑p6.length:Int)) then (chk (decide ((0:Int)≤p0∧p0<(↑p6.length:Int))) ((chk (decide ((Rs.pcs (rd qR p6 p0)).length<4611686018427387904)) (some (resMayB ((p1,p2),p3,p4,p5,p6) (rd qR p6 p0)))).bind (fun y0=>bif !y0 then (some (.bool false)) else (bif decide (p0>(0:Int)) then (chk (decide ((0:Int)≤p0∧p0<(↑p6.length:Int))) (chk (decide ((0:Int)≤Go.IntKind.i64.wrap (p0 - (1:Int))∧Go.IntKind.i64.wrap (p0 - (1:Int))<(↑p6.length:Int))) (bif decide ((rd qR p6 p0).2.1≤(rd qR p6 (Go.IntKind.i64.wrap (p0 - (1:Int)))).2.1) then (some (.bool false)) else (f86.l0 k n (Go.IntKind.i64.wrap (p0+(1:Int))) p1 p2 p3 p4 p5 p6)))) else (f86.l0 k n (Go.IntKind.i64.wrap (p0+(1:Int))) p1 p2 p3 p4 p5 p6))))) else (f86.l1 k k 0 p1 p2 p3 p4 p5 p6):=by kernel_rfl
theorem f86.l1_eq (k n:Nat) (p0:Int) (p1:Int) (p2:List (eL)) (p3:Int) (p4:Int) (p5:Int) (p6:List (eR)):f86.l1 k (n+1) p0 p1 p2 p3 p4 p5 p6 =
 bif decide (p0<(↑p6.length:Int)) then (f86.l2 k k n p0 0 p1 p2 p3 p4 p5 p6) else (some (.bool true)):=by kernel_rfl
theorem f86.l2_eq (k n m0:Nat) (p0:Int) (p1:Int) (p2:Int) (p3:List (eL)) (p4:Int) (p5:Int) (p6:Int) (p7:List (eR)):f86.l2 k (n+1) m0 p0 p1 p2 p3 p4 p5 p6 p7 =
 chk (decide ((0:Int)≤p0∧p0<(↑p7.length:Int))) (bif decide (p1<(↑(List.length (rd qR p7 p0).2.2.2.2.2.2):Int)) then (f86.l3 k k m0 n p0 p1 0 p2 p3 p4 p5 p6 p7) else (f86.l1 k m0 (Go.IntKind.i64.wrap (p0+(1:Int))) p2 p3 p4 p5 p6 p7)):=by kernel_rfl
theorem f86.l3_eq (k n m0 m1:Nat) (p0:Int) (p1:Int) (p2:Int) (p3:Int) (p4:List (eL)) (p5:Int) (p6:Int) (p7:Int) (p8:List (eR)):f86.l3 k (n+1) m0 m1 p0 p1 p2 p3 p4 p5 p6 p7 p8 =
 bif decide (p2<(↑p4.length:Int)) then (chk (decide ((0:Int)≤p0∧p0<(↑p8.length:Int))) (chk (decide ((0:Int)≤p1∧p1<(↑(List.length (rd qR p8 p0).2.2.2.2.2.2):Int))) ((chk (loadOk ((p3,p4),p5,p6,p7,p8) p2) (some (overOf (loadB ((p3,p4),p5,p6,p7,p8) p2 (rd qC (rd qR p8 p0).2.2.2.2.2.2 p1).1.1 (0:Int)) (capAt ((p3,p4),p5,p6,p7,p8) p2)))).bind (fun y0=>bif !y0.2 then (some (.bool false)) else (f86.l3 k n m0 m1 p0 p1 (Go.IntKind.i64.wrap (p2+(1:Int))) p3 p4 p5 p6 p7 p8))))) else (f86.l2 k m1 m0 p0 (Go.IntKind.i64.wrap (p1+(1:Int))) p3 p4 p5 p6 p7 p8):=by kernel_rfl
theorem f86.eq (k:Nat) (x0:(Int×List (eL)) ×
 Int×Int×Int×List (eR)):evFn (f86.E k) 9 86 Tryz.f86 (encL [(.pair (.pair qI (.list qL)) (.pair qI (.pair qI (.pair qI (.list qR)))))] x0) =
 bif !graphMay x0.1 then (some (.bool false)) else (bif decide (x0.2.1<(1:Int)) then (some (.bool false)) else (bif decide (x0.2.1>(8:Int)) then (some (.bool false)) else (bif decide (x0.2.2.1<(0:Int)) then (some (.bool false)) else (bif decide (x0.2.2.1>(4096:Int)) then (some (.bool false)) else (bif decide (x0.2.2.2.1<(1:Int)) then (some (.bool false)) else (bif decide (x0.2.2.2.1>(1048577:Int)) then (some (.bool false)) else (bif decide ((↑(x0.2.2.2.2.length):Int)>(8:Int)) then (some (.bool false)) else (f86.l0 k k 0 x0.1.1 x0.1.2 x0.2.1 x0.2.2.1 x0.2.2.2.1 x0.2.2.2.2)))))))):=by kernel_rfl
theorem f86.inl (k:Nat):InlOk Tryz.prog (f86.E k):=inl_nil
theorem f86.sums (k:Nat):SumsOk Tryz.prog (f86.E k):=(sums_cons ok64 (sums_cons ok149 (sums_cons ok150 sums_nil)))
end
section
theorem okB_load {b:Bk} (h:okB b) {i:Nat} (hi:i<b.1.2.length):loadOk b i=true:=by
 unfold loadOk hasL
 rw [dT (by
             have:(i:Int)<b.1.2.length:=by omega
             exact ⟨by omega,this⟩),show rateB (capAt b i)=true from dT (capAt_in (form_parts h.1).1 hi).2,okB_good h,dT (form_parts h.1).2.2.2.2]
 rfl
theorem over_two (t bound:Int):(overOf t bound).2=decide (t≤bound):=by
 unfold overOf
 cases decide (t≤bound) <;> rfl
theorem f86.l3_is (k m0 m1:Nat) (b:Bk) (h:okB b) (i j:Nat) (r:Rs) (p:Pc) (hr:b.list[i]? = some r) (hp:r.pcs[j]? = some p):∀ (n m:Nat),m≤b.1.2.length→b.1.2.length<n+m →
  f86.l3 k n m0 m1 i j m b.1.1 b.1.2 b.2.1 b.2.2.1 b.2.2.2.1 b.list=bif linksMay b m p.1.1 then f86.l2 k m1 m0 i ((j+1:Nat):Int) b.1.1 b.1.2 b.2.1 b.2.2.1 b.2.2.2.1 b.list else some (.bool false)
 |0,m,hm,h'=>by omega
 |n+1,m,hm,h'=>by
  have hgl:=(graph_parts (form_parts h.1).1).1
  have hjl:j<r.pcs.length:=(List.getElem?_eq_some_iff.1 hp).1
  have hj8:=pcs_few h r (List.mem_of_getElem? hr)
  rw [f86.l3_eq]
  have hbk:((b.1.1,b.1.2),b.2.1,b.2.2.1,b.2.2.2.1,b.list)=b:=rfl
  by_cases hlt:m<b.1.2.length
  ·rw [dT (by omega:(m:Int)<(b.1.2.length:Int)),cT,idx_in hr,kT,rd_some (t:=tRs) hr]
   have hp':(r.2.2.2.2.2.2)[j]? = some p:=hp
   rw [idx_in hp',kT,rd_some (t:=.pair tSp (.list tP)) hp',hbk,okB_load h hlt,kT,bS,over_two,wrap_succ (by omega),f86.l3_is k m0 m1 b h i j r p hr hp n (m+1) (by omega) (by omega)]
   have he:linksMay b m p.1.1=(decide (loadB b m p.1.1 0≤capAt b m)&&linksMay b (m+1) p.1.1):=by
    unfold linksMay
    rw [show b.1.2.length - m=(b.1.2.length - (m+1))+1 by omega,List.range'_succ,List.all_cons]
   rw [he]
   cases decide (loadB b m p.1.1 0≤capAt b m) with
   |false=>rw [nF,cT,fA,cF]
   |true=>rw [nT,cF,tA]
  ·obtain rfl:m=b.1.2.length:=by omega
   rw [end_lt,cF,wrap_succ (by omega)]
   unfold linksMay
   rw [Nat.sub_self]
   rfl
theorem f86.l2_is (k m0:Nat) (hk:16<k) (b:Bk) (h:okB b) (i:Nat) (r:Rs) (hr:b.list[i]? = some r):∀ (n j:Nat),j≤r.pcs.length→r.pcs.length<n+j →
  f86.l2 k n m0 i j b.1.1 b.1.2 b.2.1 b.2.2.1 b.2.2.2.1 b.list=bif (r.pcs.drop j).all (fun p=>linksMay b 0 p.1.1) then f86.l1 k m0 ((i+1:Nat):Int) b.1.1 b.1.2 b.2.1 b.2.2.1 b.2.2.2.1 b.list else some (.bool false)
 |0,j,hj,h'=>by omega
 |n+1,j,hj,h'=>by
  have hgl:=(graph_parts (form_parts h.1).1).1
  have hil:i<b.list.length:=(List.getElem?_eq_some_iff.1 hr).1
  have h8:=(form_parts h.1).2.2.2.2
  rw [f86.l2_eq,idx_in hr,kT,rd_some (t:=tRs) hr]
  by_cases hlt:j<r.pcs.length
  ·have hx:=gE hlt
   have hx':(r.2.2.2.2.2.2)[j]? = some r.pcs[j]:=hx
   rw [idx_lt' hx',cT,List.drop_eq_getElem_cons hlt,List.all_cons]
   have:=f86.l3_is k m0 n b h i j r r.pcs[j] hr hx k 0 (by omega) (by omega)
   rw [show ((0:Nat):Int)=0 from rfl] at this
   rw [this,f86.l2_is k m0 hk b h i r hr n (j+1) (by omega) (by omega)]
   cases linksMay b 0 r.pcs[j].1.1 <;> rfl
  ·obtain rfl:j=r.pcs.length:=by omega
   have:((r.pcs.length:Nat):Int)=(r.2.2.2.2.2.2.length:Int):=rfl
   rw [this,end_lt,cF,wrap_succ (by omega),List.drop_length]
   rfl
theorem f86.l1_is (k:Nat) (hk:16<k) (b:Bk) (h:okB b):∀ (n i:Nat),i≤b.list.length→b.list.length<n+i →
  f86.l1 k n i b.1.1 b.1.2 b.2.1 b.2.2.1 b.2.2.2.1 b.list=some (.bool ((b.list.drop i).all fun r=>r.pcs.all fun p=>linksMay b 0 p.1.1))
 |0,i,hi,h'=>by omega
 |n+1,i,hi,h'=>by
  rw [f86.l1_eq]
  by_cases hlt:i<b.list.length
  ·have hx:=gE hlt
   have h8:=pcs_few h _ (List.getElem_mem hlt)
   rw [idx_lt' hx,cT,List.drop_eq_getElem_cons hlt,List.all_cons]
   have:=f86.l2_is k n hk b h i b.list[i] hx k 0 (by omega) (by omega)
   rw [show ((0:Nat):Int)=0 from rfl,List.drop_zero] at this
   rw [this,f86.l1_is k hk b h n (i+1) (by omega) (by omega)]
   cases b.list[i].pcs.all fun p=>linksMay b 0 p.1.1 <;> rfl
  ·obtain rfl:i=b.list.length:=by omega
   rw [end_lt,cF,List.drop_length]
   rfl
theorem f86.l0_is (k:Nat) (hk:16<k) (b:Bk) (hf:formB b=true) (hs:pcsSmall b=true):∀ (n i:Nat),i≤b.list.length→b.list.length<n+i→(∀ r∈b.list.take i,resMayB b r=true) →
  f86.l0 k n i b.1.1 b.1.2 b.2.1 b.2.2.1 b.2.2.2.1 b.list=some (.bool (listMay b (aheadI b.list i) (b.list.drop i)&&b.list.all fun r=>r.pcs.all fun p=>linksMay b 0 p.1.1))
 |0,i,h,h',_=>by omega
 |n+1,i,h,h',hfew=>by
  have hll:=(form_parts hf).2.2.2.2
  rw [f86.l0_eq]
  have hbk:((b.1.1,b.1.2),b.2.1,b.2.2.1,b.2.2.2.1,b.list)=b:=rfl
  by_cases hlt:i<b.list.length
  ·have hx:=gE hlt
   have hsm:b.list[i].pcs.length<4611686018427387904:=oD (List.all_eq_true.1 hs b.list[i] (List.getElem_mem hlt))
   have ha:aheadI b.list (i+1)=some b.list[i].id:=by unfold aheadI;rw [if_neg (by omega),show i+1 - 1=i from rfl,hx];rfl
   rw [idx_lt' hx,cT,idx_in hx,kT,kT,rd_some (t:=tRs) hx,dT hsm,kT,bS,wrap_succ (by omega),hbk,List.drop_eq_getElem_cons hlt]
   simp only [listMay]
   cases hr:resMayB b b.list[i] with
   |false=>rw [nF,cT,fA,fA]
   |true =>
    have ih:=f86.l0_is k hk b hf hs n (i+1) (by omega) (by omega) (fun r hr'=>by
     rw [List.take_add_one,hx,List.mem_append] at hr'
     rcases hr' with hr'|hr'
     ·exact hfew r hr'
     ·simp only [Option.toList_some,List.mem_singleton] at hr'
      subst hr'
      exact hr)
    rw [ha] at ih
    rw [nT,cF,tA,ih]
    by_cases h0:i=0
    ·subst h0
     rw [show decide (((0:Nat):Int)>0)=false by simp,cF]
     rfl
    ·have hy:b.list[i - 1]? = some b.list[i - 1]:=gE (by omega)
     have ha2:aheadI b.list i=some b.list[i - 1].id:=by unfold aheadI;rw [if_neg h0,hy];rfl
     rw [ha2,show decide ((i:Int)>0)=true by simp;omega,cT,wrap64 (n:=(i:Int) - 1) (by omega),show ((i:Int) - 1)=((i - 1:Nat):Int) by omega,idx_in hy,kT,rd_some (t:=tRs) hy]
     dsimp only
     unfold Rs.id
     by_cases hc:b.list[i].2.1≤b.list[i - 1].2.1
     ·rw [dT hc,cT,dF (by omega),fA,fA]
     ·rw [dF hc,cF,dT (by omega),tA]
  ·obtain rfl:i=b.list.length:=by omega
   rw [List.take_length] at hfew
   rw [end_lt,cF,List.drop_length]
   simp only [listMay,tA]
   have:=f86.l1_is k hk b ⟨hf,hfew⟩ k 0 (by omega) (by omega)
   rw [show ((0:Nat):Int)=0 from rfl,List.drop_zero] at this
   exact this
theorem form_tree (b:Bk) (x:Option V):(bif !graphMay b.1 then (some (.bool (false))) else (bif decide (b.2.1<1) then (some (.bool (false))) else (bif decide (b.2.1>8) then (some (.bool (false))) else (bif decide (b.2.2.1<0) then (some (.bool (false))) else (bif decide (b.2.2.1>4096) then (some (.bool (false))) else (bif decide (b.2.2.2.1<1) then (some (.bool (false))) else (bif decide (b.2.2.2.1>1048577) then (some (.bool (false))) else (bif decide ((b.2.2.2.2.length:Int)>8) then (some (.bool (false))) else x))))))))=bif formB b then x else some (.bool false):=by
 have nt:∀ (p:Prop) [Decidable p] (q:Prop) [Decidable q],(q↔¬ p)→decide q=!decide p:=fun p _ q _ h=>by rw [← decide_not];exact decide_eq_decide.2 h
 have hf:formB b=(graphMay b.1&&(decide (1≤b.2.1∧b.2.1≤8)&&(decide (0≤b.2.2.1∧b.2.2.1≤4096)&&(decide (1≤b.2.2.2.1∧b.2.2.2.1≤1048577)&&decide (b.2.2.2.2.length≤8))))):=rfl
 rw [hf,Bool.decide_and,Bool.decide_and,Bool.decide_and,
  nt (1≤b.2.1) (b.2.1<1) (by omega),nt (b.2.1≤8) (b.2.1>8) (by omega),nt (0≤b.2.2.1) (b.2.2.1<0) (by omega),nt (b.2.2.1≤4096) (b.2.2.1>4096) (by omega),nt (1≤b.2.2.2.1) (b.2.2.2.1<1) (by omega),nt (b.2.2.2.1≤1048577) (b.2.2.2.1>1048577) (by omega),nt (b.2.2.2.2.length≤8) ((b.2.2.2.2.length:Int)>8) (by omega)]
 cases graphMay b.1 <;> cases decide (1≤b.2.1) <;> cases decide (b.2.1≤8) <;> cases decide (0≤b.2.2.1) <;> cases decide (b.2.2.1≤4096) <;> cases decide (1≤b.2.2.2.1) <;> cases decide (b.2.2.2.1≤1048577) <;> cases decide (b.2.2.2.2.length≤8) <;> rfl
noncomputable def S86:Summ:=S82
theorem ok86:SumOk Tryz.prog 86 S86 :=
 sumq f86.E (fn:=Tryz.f86) (code:=f86.code) f86.sums f86.inl fun (b:Bk) x hx=>by
  obtain ⟨hb,hx⟩:=chk_some hx
  obtain rfl:=oJ hx
  refine ⟨17,(f86.eq _ b).trans ?_⟩
  rw [form_tree b]
  show _=some (V.bool (bookMayB b))
  unfold bookMayB
  cases hf:formB b with
  |false=>rfl
  |true =>
   have hll:=(form_parts hf).2.2.2.2
   rw [cT,tA]
   exact f86.l0_is 17 (by omega) b hf hb 17 0 (by omega) (by omega) (fun r hr=>by simp at hr)
end
section
theorem book_ok {b:Bk} (h:bookMayB b=true):okB b∧∀ r∈b.list,∀ p∈r.pcs,∀ i:Nat,i<b.1.2.length→loadB b i p.1.1 0≤capAt b i:=by
 unfold bookMayB at h
 simp only [bA] at h
 refine ⟨⟨h.1,listMay_all h.2.1⟩,fun r hr p hp i hi=>?_⟩
 have:=List.all_eq_true.1 (List.all_eq_true.1 h.2.2 r hr) p hp
 unfold linksMay at this
 exact oD (List.all_eq_true.1 this i (by rw [List.mem_range'_1];omega))
theorem book_load {b:Bk} (h:bookMayB b=true) {i:Nat} (hi:i<b.1.2.length) (t but:Int):0≤loadB b i t but∧loadB b i t but≤capAt b i∧capAt b i≤maxRate:=by
 obtain ⟨hok,hl⟩:=book_ok h
 have hc:=capAt_in (form_parts hok.1).1 hi
 have hall:loadB b i t 0≤capAt b i:=by
  obtain ⟨h1,h2,h3,h4⟩:=okB_wts hok 0 hi
  rw [← h1 t]
  rcases sumW_from h2 t with h0|⟨w,hw,_,hle⟩
  ·rw [h0];exact hc.2.1
  ·obtain ⟨r,hr,_,p,hp,e⟩:=h4 w hw
   rw [e,h1 p.1.1] at hle
   exact Int.le_trans hle (hl r hr p hp i hi)
 have hle:∀ (rs:List Rs),rs.all goodR=true→(∀ r∈rs,1≤r.id)→loadRs i t but rs≤loadRs i t 0 rs:=by
  intro rs
  induction rs with
  |nil=>intro _ _;exact Int.le_refl _
  |cons r rs ih =>
   intro hg hid
   simp only [List.all_cons,bA] at hg
   have h1:=ih hg.2 fun q hq=>hid q (List.mem_cons_of_mem _ hq)
   have h2:=loadR_pos (link:=(i:Int)) (t:=t) hg.1
   have h3:=hid r (by simp)
   rw [loadRs_cons,loadRs_cons,show (r.id==(0:Int))=false by rw [beq_eq_false_iff_ne];omega,cond_false]
   cases r.id==but
   ·simp only [cond_false];omega
   ·simp only [cond_true];omega
 have h5:=hle b.list (okB_good hok) fun r hr=>(resMay_parts (hok.2 r hr)).2.2.1.1
 refine ⟨loadRs_pos (okB_good hok),?_,hc.2.2⟩
 unfold loadB at hall ⊢
 omega
def loadsV (b:Bk) (t but:Int):List Int:=(List.range b.1.2.length).map fun (i:Nat)=>loadB b i t but
def roomsV (b:Bk) (t but:Int):List Int:=(List.range b.1.2.length).map fun (i:Nat)=>capAt b i - loadB b i t but
theorem weights_sum {b:Bk} (h:bookMayB b=true) (t but:Int):(weightsOf b but).map (fun ws=>sumW ws t)=loadsV b t but:=by
 unfold weightsOf loadsV
 rw [List.map_map]
 refine List.map_congr_left fun i hi=>?_
 exact (okB_wts (book_ok h).1 but (List.mem_range.1 hi)).1 t
theorem set_take (xs:List Int) (i:Nat) (x:Int) (h:i<xs.length):(xs.set i x).take (i+1)=xs.take i++[x]:=by
 rw [List.take_add_one,List.getElem?_set,if_pos rfl,if_pos h,List.take_set_of_le (Nat.le_refl _)]
 rfl
theorem sumW_drop {ws:List Wt} {j:Nat} (h:j<ws.length) (t:Int):sumW (ws.drop j) t=(bif hasAt ws[j].1 t then ws[j].2 else 0)+sumW (ws.drop (j+1)) t:=by
 unfold sumW loadsAt
 rw [List.drop_eq_getElem_cons h,List.filter_cons]
 cases hasAt ws[j].1 t with
 |true=>rw [if_pos rfl,List.map_cons,List.sum_cons];rfl
 |false=>rw [if_neg (by simp)];simp
theorem f161.l1_is (k m0:Nat) (t:Int) (W:List (List Wt)) (i:Nat) (hiW:i<4611686018427387904) (M:Int) (ws:List Wt) (hw:ws.all weightMay=true) (hl:ws.length≤64):∀ (n j:Nat) (a:Int) (out:List Int),j≤ws.length→ws.length<n+j→out[i]? = some a→0≤a→a+sumW (ws.drop j) t≤maxRate →
  f161.l1 k n m0 t i M ws ws.length j out W=f161.l0 k m0 t M ((i+1:Nat):Int) (out.set i (a+sumW (ws.drop j) t)) W
 |0,j,a,out,hj,h',_,_,_=>by omega
 |n+1,j,a,out,hj,h',ho,h0,ha=>by
  have hwd:∀ j,(ws.drop j).all weightMay=true:=fun j=>List.all_eq_true.2 fun y hy=>List.all_eq_true.1 hw y (List.mem_of_mem_drop hy)
  have hmr:maxRate=4611686018427387904:=rfl
  rw [f161.l1_eq]
  by_cases hlt:j<ws.length
  ·have hx:=gE hlt
   rw [sumW_drop hlt] at ha ⊢
   have hpos:=sumW_pos (hwd (j+1)) (t:=t)
   have hwj:0≤ws[j].2∧ws[j].2≤maxRate:=by
    have:=List.all_eq_true.1 hw ws[j] (List.getElem_mem hlt)
    unfold weightMay at this
    rw [bA] at this
    exact oD this.2
   rw [idx_lt' hx,cT,idx_in hx,kT,rd_some (t:=tW) hx,wrap_succ (by omega)]
   cases hh:hasAt ws[j].1 t with
   |true =>
    rw [hh,cond_true] at ha
    rw [cT,idx_in ho,kT,kT,Int.toNat_natCast,rd_some (t:=tI) ho,wrap64 (n:=a+ws[j].2) (by omega),cond_true]
    have hil:i<out.length:=(List.getElem?_eq_some_iff.1 ho).1
    rw [f161.l1_is k m0 t W i hiW M ws hw hl n (j+1) (a+ws[j].2) _ (by omega) (by omega) (by rw [List.getElem?_set,if_pos rfl,if_pos hil]) (by omega) (by omega),List.set_set,Int.add_assoc]
   |false =>
    rw [hh,cond_false] at ha
    rw [cF,cond_false,Int.zero_add]
    exact f161.l1_is k m0 t W i hiW M ws hw hl n (j+1) a out (by omega) (by omega) ho h0 (by omega)
  ·obtain rfl:j=ws.length:=by omega
   rw [end_lt,cF,wrap_succ (by omega),List.drop_length,show sumW [] t=0 from rfl,Int.add_zero]
   congr 1
   obtain ⟨hil,he⟩:=List.getElem?_eq_some_iff.1 ho
   rw [← he,List.set_getElem_self]
theorem f161.l0_is (k:Nat) (hk:64<k) (t:Int) (W:List (List Wt)) (hW:W.length≤16) (hw:∀ ws∈W,ws.all weightMay=true∧ws.length≤64∧sumW ws t≤maxRate):∀ (n i:Nat) (out:List Int),i≤W.length→W.length<n+i→out.length=W.length→(∀ j,i≤j→j<W.length→out[j]? = some 0) →
  f161.l0 k n t W.length i out W=some (.own tI (out.take i++(W.drop i).map fun ws=>sumW ws t))
 |0,i,out,h,h',_,_=>by omega
 |n+1,i,out,h,h',ho,hz=>by
  rw [f161.l0_eq]
  by_cases hlt:i<W.length
  ·have hx:=gE hlt
   obtain ⟨h1,h2,h3⟩:=hw _ (List.getElem_mem hlt)
   rw [idx_lt' hx,cT,idx_in hx,kT,Int.toNat_natCast,rd_some (t:=.list tW) hx]
   have:=f161.l1_is k n t W i (by omega) W.length W[i] h1 h2 k 0 0 out (by omega) (by omega) (hz i (Nat.le_refl _) hlt) (by omega) (by rw [List.drop_zero];omega)
   rw [show ((0:Nat):Int)=0 from rfl,List.drop_zero,Int.zero_add] at this
   rw [this,f161.l0_is k hk t W hW hw n (i+1) _ (by omega) (by omega) (by rw [List.length_set,ho]) (fun j hj hjl=>by rw [List.getElem?_set,if_neg (by omega)];exact hz j (by omega) hjl),
    set_take _ _ _ (by omega),List.append_assoc,List.drop_eq_getElem_cons hlt,List.map_cons]
   rfl
  ·obtain rfl:i=W.length:=by omega
   rw [end_lt,cF,List.drop_length,List.map_nil,List.append_nil,List.take_of_length_le (by omega)]
theorem weights_fit {b:Bk} (h:bookMayB b=true) (t but:Int):∀ ws∈weightsOf b but,ws.all weightMay=true∧ws.length≤64∧sumW ws t≤maxRate:=by
 intro ws hws
 unfold weightsOf at hws
 obtain ⟨i,hi,rfl⟩:=List.mem_map.1 hws
 have hi:=List.mem_range.1 hi
 obtain ⟨h1,h2,h3,_⟩:=okB_wts (book_ok h).1 but hi
 refine ⟨h2,h3,?_⟩
 rw [h1]
 have:=book_load h hi t but
 omega
noncomputable def S161:Summ:=summ [tBk,tI,tI] (List Int) (fun (d:Bk×(Int×Int))=>chk (bookMayB d.1) (some (loadsV d.1 d.2.1 d.2.2))) (.own tI)
theorem ok161:SumOk Tryz.prog 161 S161 :=
 sumq f161.E (fn:=Tryz.f161) (code:=f161.code) f161.sums f161.inl fun (d:Bk×(Int×Int)) x hx=>by
  obtain ⟨b,t,but⟩:=d
  obtain ⟨hb,hx⟩:=chk_some hx
  obtain rfl:=oJ hx
  have hb:bookMayB b=true:=hb
  have hok:=(book_ok hb).1
  have hg:=(graph_parts (form_parts hok.1).1).1
  have hwl:(weightsOf b but).length=b.1.2.length:=by unfold weightsOf;simp
  refine ⟨65,(f161.eq _ b t but).trans ?_⟩
  rw [dT (by omega:(0:Int)≤(b.1.2.length:Int)∧(b.1.2.length:Int)≤(b.1.2.length:Int)),kT,dT (by omega:(0:Nat)<8∧(b.1.2.length:Int)*((8:Nat):Int)≤140737488355328),kT,okB_few hok,kT,bS]
  have:=f161.l0_is 65 (by omega) t (weightsOf b but) (by omega) (weights_fit hb t but) 65 0 (List.replicate (b.1.2.length:Int).toNat (dflt (.int .i64))) (by omega) (by omega) (by rw [List.length_replicate,hwl];exact Int.toNat_natCast _) (fun j _ hj=>by
   rw [List.getElem?_replicate,if_pos (by rw [Int.toNat_natCast];omega)]
   rfl)
  rw [show ((0:Nat):Int)=0 from rfl,List.take_zero,List.nil_append,List.drop_zero,weights_sum hb] at this
  exact this
end
section
set_option maxRecDepth 100000
noncomputable def f203.E (k:Nat):Env:=mkEnv tt [(161,S161)] [] [(203,3,[.kill (rg [(0,6),(8,15),(19,34)]),.tidy])] [] k
noncomputable def f203.code:Go.Code:=cd Tryz.f203
noncomputable def f203.l0 (k n:Nat) (p0:List (eL)) (p1:Int) (p2:Int) (p3:List Int):Option V :=
 atPath (f203.E k) n ⟨(.u::.u::.u::.u::.u::.u::.u::(.slw 1835024)::.u::.u::.u::.u::.u::.u::.u::.u::(.ro qL p0)::(.int .i64 p1)::(.int .i64 p2)::un 16),[],[(1835024,.row qI p3)]⟩ 9 0 203 [.c 1,.c 1,.c 0,.c 1,.c 0] [] f203.code (finK tt Tryz.f203)
theorem f203.l0_eq (k n:Nat) (p0:List (eL)) (p1:Int) (p2:Int) (p3:List Int):f203.l0 k (n+1) p0 p1 p2 p3 =
 bif decide (p2<p1) then (chk (decide ((0:Int)≤p2∧p2<(↑p0.length:Int))) (chk (decide ((0:Int)≤p2∧p2<(↑p3.length:Int))) (chk (decide ((0:Int)≤p2∧p2<(↑p3.length:Int))) (f203.l0 k n p0 p1 (Go.IntKind.i64.wrap (p2+(1:Int))) (p3.set p2.toNat (Go.IntKind.i64.wrap ((rd qL p0 p2).2.2 - rd qI p3 (↑p2.toNat:Int)))))))) else (some (.own qI p3)):=by kernel_rfl
theorem f203.eq (k:Nat) (x0:(Int×List (eL)) ×
 Int×Int×Int×List (eR)) (x1:Int) (x2:Int):evFn (f203.E k) 9 203 Tryz.f203 (encL [(.pair (.pair qI (.list qL)) (.pair qI (.pair qI (.pair qI (.list qR))))),qI,qI] (x0,x1,x2)) =
 (chk (bookMayB x0) (some (loadsV x0 x1 x2))).bind (fun y0=>f203.l0 k k x0.1.2 ((↑(x0.1.2.length):Int)) 0 y0):=by kernel_rfl
theorem f203.inl (k:Nat):InlOk Tryz.prog (f203.E k):=inl_nil
theorem f203.sums (k:Nat):SumsOk Tryz.prog (f203.E k):=(sums_cons ok161 sums_nil)
noncomputable def f99.E (k:Nat):Env:=mkEnv tt [(82,S82),(148,S148),(160,S160),(161,S161)] [] [] [] k
noncomputable def f99.code:Go.Code:=cd Tryz.f99
theorem f99.eq (k:Nat) (x0:(Int×List (eL)) ×
 Int×Int×Int×List (eR)) (x1:Int) (x2:Int):evFn (f99.E k) 9 99 Tryz.f99 (encL [(.pair (.pair qI (.list qL)) (.pair qI (.pair qI (.pair qI (.list qR))))),qI,qI] (x0,x1,x2)) =
 (chk (pcsSmall x0) (some (bookMayB x0))).bind (fun y0=>bif !y0 then (some (.tup [(.int .i64 0),(.int .i64 1900)])) else (bif !hasL x0.1 x1 then (some (.tup [(.int .i64 0),(.int .i64 1900)])) else (bif !timedB x2 then (some (.tup [(.int .i64 0),(.int .i64 1900)])) else ((chk (bookMayB x0) (some (loadsV x0 x2 (0:Int)))).bind (fun y1=>chk (decide ((0:Int)≤x1∧x1<(↑y1.length:Int))) (some (.tup [(.int .i64 (rd tI y1 (↑x1.toNat:Int))),(.int .i64 0)]))))))):=by kernel_rfl
theorem f99.inl (k:Nat):InlOk Tryz.prog (f99.E k):=inl_nil
theorem f99.sums (k:Nat):SumsOk Tryz.prog (f99.E k):=(sums_cons ok82 (sums_cons ok148 (sums_cons ok160 (sums_cons ok161 sums_nil))))
noncomputable def f113.E (k:Nat):Env:=mkEnv tt [(150,S150)] [] [(113,3,[.kill (rg [(0,0),(4,6),(9,39)]),.tidy])] [] k
noncomputable def f113.code:Go.Code:=cd Tryz.f113
noncomputable def f113.l0 (k n:Nat) (p0:Int) (p1:Int) (p2:Int) (p3:Int) (p4:List (eL)) (p5:Int) (p6:Int) (p7:Int) (p8:List (eR)) (p9:List Int):Option V :=
 atPath (f113.E k) n ⟨(.u::(.int .i64 p0)::(.int .i64 p1)::(.ptr 786448 (0) (0))::.u::.u::.u::(.slw 1835024)::(.int .i64 p2)::un 31),[],[(786448,.box [(.int .i64 p3),(.ro qL p4),(.int .i64 p5),(.int .i64 p6),(.int .i64 p7),(.ro qR p8)]),(1835024,.row qI p9)]⟩ 9 0 113 [.c 1,.c 1,.c 0,.c 1,.c 0] [] f113.code (finK tt Tryz.f113)
theorem f113.l0_eq (k n:Nat) (p0:Int) (p1:Int) (p2:Int) (p3:Int) (p4:List (eL)) (p5:Int) (p6:Int) (p7:Int) (p8:List (eR)) (p9:List Int):f113.l0 k (n+1) p0 p1 p2 p3 p4 p5 p6 p7 p8 p9 =
 bif decide (p2<(↑p4.length:Int)) then ((chk (loadOk ((p3,p4),p5,p6,p7,p8) p2) (some (overOf (loadB ((p3,p4),p5,p6,p7,p8) p2 p0 p1) (capAt ((p3,p4),p5,p6,p7,p8) p2)))).bind (fun y0=>chk (decide ((0:Int)≤p2∧p2<(↑p4.length:Int))) (chk (decide ((p9++[Go.IntKind.i64.wrap ((rd qL p4 p2).2.2 - y0.1)]).length*8≤140737488355328)) (f113.l0 k n p0 p1 (Go.IntKind.i64.wrap (p2+(1:Int))) p3 p4 p5 p6 p7 p8 (p9++[Go.IntKind.i64.wrap ((rd qL p4 p2).2.2 - y0.1)]))))) else (some (.own qI p9)):=by kernel_rfl
theorem f113.eq (k:Nat) (x0:(Int×List (eL)) ×
 Int×Int×Int×List (eR)) (x1:Int) (x2:Int):evFn (f113.E k) 9 113 Tryz.f113 (encL [(.pair (.pair qI (.list qL)) (.pair qI (.pair qI (.pair qI (.list qR))))),qI,qI] (x0,x1,x2)) =
 f113.l0 k k x1 x2 0 x0.1.1 x0.1.2 x0.2.1 x0.2.2.1 x0.2.2.2.1 x0.2.2.2.2 ([]):=by kernel_rfl
theorem f113.inl (k:Nat):InlOk Tryz.prog (f113.E k):=inl_nil
theorem f113.sums (k:Nat):SumsOk Tryz.prog (f113.E k):=(sums_cons ok150 sums_nil)
noncomputable def f108.E (k:Nat):Env:=mkEnv tt [(78,S78)] [] [(108,7,[.nil1 6 2 1572997 qP,.kill (rg [(0,2),(4,5),(7,8),(12,18),(22,42)]),.tidy]),(108,3,[.nil1 6 2 1572997 qP,.kill (rg [(0,2),(4,8),(12,42)]),.tidy]),(108,9,[.drop 63])] [] k
noncomputable def f108.code:Go.Code:=cd Tryz.f108
noncomputable def f108.l0 (k n:Nat) (p0:List (eC)) (p1:Int) (p2:Int) (p3:List (eC)):Option V :=
 atPath (f108.E k) n ⟨(.u::.u::.u::(.slw 786448)::.u::.u::.u::.u::.u::(.ro qC p0)::(.int .i64 p1)::(.int .i64 p2)::un 31),[],[(786448,.row qC p3)]⟩ 9 0 108 [.c 1,.c 1,.c 0,.c 1,.c 0] [] f108.code (finK tt Tryz.f108)
noncomputable def f108.l1 (k n m0:Nat) (p0:List (eC)) (p1:Int) (p2:Int) (p3:List (eP)) (p4:Int) (p5:Int) (p6:List (eC)) (p7:Int) (p8:Int) (p9:List (eP)):Option V :=
 atPath (f108.E k) n ⟨(.u::.u::.u::(.slw 786448)::.u::.u::(.ptr 1572880 (0) (0))::.u::.u::(.ro qC p0)::(.int .i64 p1)::(.int .i64 p2)::.u::.u::.u::.u::.u::.u::.u::(.ro qP p3)::(.int .i64 p4)::(.int .i64 p5)::un 21),[],[(786448,.row qC p6),(1572880,.box [(.int .i64 p7),(.int .i64 p8),(.slw 412321054896)]),(412321054896,.row qP p9)]⟩ 9 0 108 [.c 1,.c 1,.c 0,.c 1,.c 0,.c 0,.c 1,.c 1,.c 0,.c 0,.c 1,.c 1,.c 0,.c 1,.c 0] [m0] f108.code (finK tt Tryz.f108)
theorem f108.l0_eq (k n:Nat) (p0:List (eC)) (p1:Int) (p2:Int) (p3:List (eC)):f108.l0 k (n+1) p0 p1 p2 p3 =
 bif decide (p2<p1) then (chk (decide ((0:Int)≤p2∧p2<(↑p0.length:Int))) (f108.l1 k k n p0 p1 p2 ((rd qC p0 p2).2) ((↑(List.length (rd qC p0 p2).2):Int)) 0 p3 ((rd qC p0 p2).1.1) ((rd qC p0 p2).1.2) ([]))) else (some (.own qC p3)):=by kernel_rfl
theorem f108.l1_eq (k n m0:Nat) (p0:List (eC)) (p1:Int) (p2:Int) (p3:List (eP)) (p4:Int) (p5:Int) (p6:List (eC)) (p7:Int) (p8:Int) (p9:List (eP)):f108.l1 k (n+1) m0 p0 p1 p2 p3 p4 p5 p6 p7 p8 p9 =
 bif decide (p5<p4) then (chk (decide ((0:Int)≤p5∧p5<(↑p3.length:Int))) (both (both ((chk (decide (List.length (rd qP p3 p5).2*8≤140737488355328)) (some ((rd qP p3 p5).2))).bind (fun y0=>chk (decide ((p9++[((rd qP p3 p5).1,y0)]).length*32≤140737488355328)) (f108.l1 k n m0 p0 p1 p2 p3 p4 (Go.IntKind.i64.wrap (p5+(1:Int))) p6 p7 p8 (p9++[((rd qP p3 p5).1,y0)])))) (both ((chk (decide (List.length (rd qP p3 p5).2*8≤140737488355328)) (some ((rd qP p3 p5).2))).bind (fun y0=>chk (decide ((p9++[((rd qP p3 p5).1,y0)]).length*32≤140737488355328)) (f108.l1 k n m0 p0 p1 p2 p3 p4 (Go.IntKind.i64.wrap (p5+(1:Int))) p6 p7 p8 (p9++[((rd qP p3 p5).1,y0)])))) ((chk (decide (List.length (rd qP p3 p5).2*8≤140737488355328)) (some ((rd qP p3 p5).2))).bind (fun y0=>chk (decide ((p9++[((rd qP p3 p5).1,y0)]).length*32≤140737488355328)) (f108.l1 k n m0 p0 p1 p2 p3 p4 (Go.IntKind.i64.wrap (p5+(1:Int))) p6 p7 p8 (p9++[((rd qP p3 p5).1,y0)])))))) (both (both ((chk (decide (List.length (rd qP p3 p5).2*8≤140737488355328)) (some ((rd qP p3 p5).2))).bind (fun y0=>chk (decide ((p9++[((rd qP p3 p5).1,y0)]).length*32≤140737488355328)) (f108.l1 k n m0 p0 p1 p2 p3 p4 (Go.IntKind.i64.wrap (p5+(1:Int))) p6 p7 p8 (p9++[((rd qP p3 p5).1,y0)])))) (both ((chk (decide (List.length (rd qP p3 p5).2*8≤140737488355328)) (some ((rd qP p3 p5).2))).bind (fun y0=>chk (decide ((p9++[((rd qP p3 p5).1,y0)]).length*32≤140737488355328)) (f108.l1 k n m0 p0 p1 p2 p3 p4 (Go.IntKind.i64.wrap (p5+(1:Int))) p6 p7 p8 (p9++[((rd qP p3 p5).1,y0)])))) ((chk (decide (List.length (rd qP p3 p5).2*8≤140737488355328)) (some ((rd qP p3 p5).2))).bind (fun y0=>both (chk (decide ((p9++[((rd qP p3 p5).1,y0)]).length*32≤140737488355328)) (f108.l1 k n m0 p0 p1 p2 p3 p4 (Go.IntKind.i64.wrap (p5+(1:Int))) p6 p7 p8 (p9++[((rd qP p3 p5).1,y0)]))) (both (chk (decide ((p9++[((rd qP p3 p5).1,y0)]).length*32≤140737488355328)) (f108.l1 k n m0 p0 p1 p2 p3 p4 (Go.IntKind.i64.wrap (p5+(1:Int))) p6 p7 p8 (p9++[((rd qP p3 p5).1,y0)]))) (chk (decide ((p9++[((rd qP p3 p5).1,y0)]).length*32≤140737488355328)) (f108.l1 k n m0 p0 p1 p2 p3 p4 (Go.IntKind.i64.wrap (p5+(1:Int))) p6 p7 p8 (p9++[((rd qP p3 p5).1,y0)])))))))) (both (both ((chk (decide (List.length (rd qP p3 p5).2*8≤140737488355328)) (some ((rd qP p3 p5).2))).bind (fun y0=>chk (decide ((p9++[((rd qP p3 p5).1,y0)]).length*32≤140737488355328)) (f108.l1 k n m0 p0 p1 p2 p3 p4 (Go.IntKind.i64.wrap (p5+(1:Int))) p6 p7 p8 (p9++[((rd qP p3 p5).1,y0)])))) ((chk (decide (List.length (rd qP p3 p5).2*8≤140737488355328)) (some ((rd qP p3 p5).2))).bind (fun y0=>chk (decide ((p9++[((rd qP p3 p5).1,y0)]).length*32≤140737488355328)) (f108.l1 k n m0 p0 p1 p2 p3 p4 (Go.IntKind.i64.wrap (p5+(1:Int))) p6 p7 p8 (p9++[((rd qP p3 p5).1,y0)]))))) (both (both ((chk (decide (List.length (rd qP p3 p5).2*8≤140737488355328)) (some ((rd qP p3 p5).2))).bind (fun y0=>chk (decide ((p9++[((rd qP p3 p5).1,y0)]).length*32≤140737488355328)) (f108.l1 k n m0 p0 p1 p2 p3 p4 (Go.IntKind.i64.wrap (p5+(1:Int))) p6 p7 p8 (p9++[((rd qP p3 p5).1,y0)])))) ((chk (decide (List.length (rd qP p3 p5).2*8≤140737488355328)) (some ((rd qP p3 p5).2))).bind (fun y0=>both (chk (decide ((p9++[((rd qP p3 p5).1,y0)]).length*32≤140737488355328)) (f108.l1 k n m0 p0 p1 p2 p3 p4 (Go.IntKind.i64.wrap (p5+(1:Int))) p6 p7 p8 (p9++[((rd qP p3 p5).1,y0)]))) (both (chk (decide ((p9++[((rd qP p3 p5).1,y0)]).length*32≤140737488355328)) (f108.l1 k n m0 p0 p1 p2 p3 p4 (Go.IntKind.i64.wrap (p5+(1:Int))) p6 p7 p8 (p9++[((rd qP p3 p5).1,y0)]))) (chk (decide ((p9++[((rd qP p3 p5).1,y0)]).length*32≤140737488355328)) (f108.l1 k n m0 p0 p1 p2 p3 p4 (Go.IntKind.i64.wrap (p5+(1:Int))) p6 p7 p8 (p9++[((rd qP p3 p5).1,y0)]))))))) ((chk (decide (List.length (rd qP p3 p5).2*8≤140737488355328)) (some ((rd qP p3 p5).2))).bind (fun y0=>both (chk (decide ((p9++[((rd qP p3 p5).1,y0)]).length*32≤140737488355328)) (f108.l1 k n m0 p0 p1 p2 p3 p4 (Go.IntKind.i64.wrap (p5+(1:Int))) p6 p7 p8 (p9++[((rd qP p3 p5).1,y0)]))) (both (chk (decide ((p9++[((rd qP p3 p5).1,y0)]).length*32≤140737488355328)) (f108.l1 k n m0 p0 p1 p2 p3 p4 (Go.IntKind.i64.wrap (p5+(1:Int))) p6 p7 p8 (p9++[((rd qP p3 p5).1,y0)]))) (both (chk (decide ((p9++[((rd qP p3 p5).1,y0)]).length*32≤140737488355328)) (f108.l1 k n m0 p0 p1 p2 p3 p4 (Go.IntKind.i64.wrap (p5+(1:Int))) p6 p7 p8 (p9++[((rd qP p3 p5).1,y0)]))) (chk (decide ((p9++[((rd qP p3 p5).1,y0)]).length*32≤140737488355328)) (f108.l1 k n m0 p0 p1 p2 p3 p4 (Go.IntKind.i64.wrap (p5+(1:Int))) p6 p7 p8 (p9++[((rd qP p3 p5).1,y0)])))))))))))) else (chk (decide ((p6++[((p7,p8),p9)]).length*40≤140737488355328)) (f108.l0 k m0 p0 p1 (Go.IntKind.i64.wrap (p2+(1:Int))) (p6++[((p7,p8),p9)]))):=by kernel_rfl
theorem f108.eq (k:Nat) (x0:List (eC)):evFn (f108.E k) 9 108 Tryz.f108 (encL [(.list qC)] x0) =
 f108.l0 k k x0 ((↑x0.length:Int)) 0 ([]):=by kernel_rfl
theorem f108.inl (k:Nat):InlOk Tryz.prog (f108.E k):=inl_nil
theorem f108.sums (k:Nat):SumsOk Tryz.prog (f108.E k):=(sums_cons ok78 sums_nil)
noncomputable def f60.E (k:Nat):Env:=mkEnv tt [(119,S119)] [] [(60,3,[.kill (rg [(1,2),(5,26)]),.tidy]),(60,5,[.drop 63])] [] k
noncomputable def f60.code:Go.Code:=cd Tryz.f60
noncomputable def f60.l0 (k n:Nat) (p0:List (eC)) (p1:Int) (p2:List (eC)):Option V :=
 atPath (f60.E k) n ⟨((.ro qC p0)::.u::.u::(.slw 786448)::(.int .i64 p1)::un 22),[],[(786448,.row qC p2)]⟩ 9 0 60 [.c 1,.c 1,.c 0,.c 1,.c 0] [] f60.code (finK tt Tryz.f60)
theorem f60.l0_eq (k n:Nat) (p0:List (eC)) (p1:Int) (p2:List (eC)):f60.l0 k (n+1) p0 p1 p2 =
 bif decide (p1<(↑p0.length:Int)) then (chk (decide ((0:Int)≤p1∧p1<(↑p0.length:Int))) (chk (decide ((0:Int)≤p1∧p1<(↑p0.length:Int))) (both ((chk (decide (List.length (rd qC p0 p1).2*32≤140737488355328)) (chk (List.all (rd qC p0 p1).2 fun p=>decide (p.2.length*8≤140737488355328)) (some ((rd qC p0 p1).2)))).bind (fun y0=>chk (decide ((p2++[((rd qC p0 p1).1,y0)]).length*40≤140737488355328)) (f60.l0 k n p0 (Go.IntKind.i64.wrap (p1+(1:Int))) (p2++[((rd qC p0 p1).1,y0)])))) (both ((chk (decide (List.length (rd qC p0 p1).2*32≤140737488355328)) (chk (List.all (rd qC p0 p1).2 fun p=>decide (p.2.length*8≤140737488355328)) (some ((rd qC p0 p1).2)))).bind (fun y0=>chk (decide ((p2++[((rd qC p0 p1).1,y0)]).length*40≤140737488355328)) (f60.l0 k n p0 (Go.IntKind.i64.wrap (p1+(1:Int))) (p2++[((rd qC p0 p1).1,y0)])))) ((chk (decide (List.length (rd qC p0 p1).2*32≤140737488355328)) (chk (List.all (rd qC p0 p1).2 fun p=>decide (p.2.length*8≤140737488355328)) (some ((rd qC p0 p1).2)))).bind (fun y0=>chk (decide ((p2++[((rd qC p0 p1).1,y0)]).length*40≤140737488355328)) (f60.l0 k n p0 (Go.IntKind.i64.wrap (p1+(1:Int))) (p2++[((rd qC p0 p1).1,y0)])))))))) else (some (.own qC p2)):=by kernel_rfl
theorem f60.eq (k:Nat) (x0:List (eC)):evFn (f60.E k) 9 60 Tryz.f60 (encL [(.list qC)] x0) =
 f60.l0 k k x0 0 ([]):=by kernel_rfl
theorem f60.inl (k:Nat):InlOk Tryz.prog (f60.E k):=inl_nil
theorem f60.sums (k:Nat):SumsOk Tryz.prog (f60.E k):=(sums_cons ok119 sums_nil)
end
section
theorem loadsV_len (b:Bk) (t but:Int):(loadsV b t but).length=b.1.2.length:=by unfold loadsV;simp
theorem loadsV_get (b:Bk) (t but:Int) {i:Nat} (hi:i<b.1.2.length):(loadsV b t but)[i]? = some (loadB b i t but):=by
 unfold loadsV
 rw [List.getElem?_map,List.getElem?_range hi]
 rfl
theorem roomsV_len (b:Bk) (t but:Int):(roomsV b t but).length=b.1.2.length:=by unfold roomsV;simp
theorem roomsV_get (b:Bk) (t but:Int) {i:Nat} (hi:i<b.1.2.length):(roomsV b t but)[i]? = some (capAt b i - loadB b i t but):=by
 unfold roomsV
 rw [List.getElem?_map,List.getElem?_range hi]
 rfl
theorem f203.l0_is (k:Nat) (b:Bk) (hb:bookMayB b=true) (t but:Int):∀ (n i:Nat) (out:List Int),i≤b.1.2.length→b.1.2.length<n+i→out.length=b.1.2.length→(∀ j,i≤j→out[j]? = (loadsV b t but)[j]?) →
  f203.l0 k n b.1.2 b.1.2.length i out=some (.own tI (out.take i++(roomsV b t but).drop i))
 |0,i,out,h,h',_,_=>by omega
 |n+1,i,out,h,h',ho,hz=>by
  have hg:=(graph_parts (form_parts (book_ok hb).1.1).1).1
  have hmr:maxRate=4611686018427387904:=rfl
  rw [f203.l0_eq]
  by_cases hlt:i<b.1.2.length
  ·have hx:=gE hlt
   have hc:=(capAt_in (form_parts (book_ok hb).1.1).1 hlt).1
   have hL:=book_load hb hlt t but
   have hy:out[i]? = some (loadB b i t but):=by rw [hz i (Nat.le_refl _),loadsV_get b t but hlt]
   have hlr:i<(roomsV b t but).length:=by rw [roomsV_len];exact hlt
   have hr:(roomsV b t but)[i]=capAt b i - loadB b i t but:=by
    have:=roomsV_get b t but hlt
    rw [gE hlr] at this
    exact oJ this
   rw [idx_lt' hx,cT,idx_in hx,kT,idx_in hy,kT,kT,Int.toNat_natCast,rd_some (t:=tLk) hx,rd_some (t:=tI) hy,← hc,wrap64 (n:=capAt b i - loadB b i t but) (by omega),wrap_succ (by omega),
    f203.l0_is k b hb t but n (i+1) _ (by omega) (by omega) (by rw [List.length_set,ho]) (fun j hj=>by rw [List.getElem?_set,if_neg (by omega)];exact hz j (by omega)),
    set_take _ _ _ (by omega),List.append_assoc,List.drop_eq_getElem_cons hlr,hr]
   rfl
  ·obtain rfl:i=b.1.2.length:=by omega
   rw [end_lt,cF,List.drop_of_length_le (by rw [roomsV_len];exact Nat.le_refl _),List.append_nil,List.take_of_length_le (by omega)]
noncomputable def S203:Summ:=summ [tBk,tI,tI] (List Int) (fun (d:Bk×(Int×Int))=>chk (bookMayB d.1) (some (roomsV d.1 d.2.1 d.2.2))) (.own tI)
theorem ok203:SumOk Tryz.prog 203 S203 :=
 sumq f203.E (fn:=Tryz.f203) (code:=f203.code) f203.sums f203.inl fun (d:Bk×(Int×Int)) x hx=>by
  obtain ⟨b,t,but⟩:=d
  obtain ⟨hb,hx⟩:=chk_some hx
  obtain rfl:=oJ hx
  have hb:bookMayB b=true:=hb
  have hg:=(graph_parts (form_parts (book_ok hb).1.1).1).1
  refine ⟨17,(f203.eq _ b t but).trans ?_⟩
  rw [hb,kT,bS]
  have:=f203.l0_is 17 b hb t but 17 0 (loadsV b t but) (by omega) (by omega) (loadsV_len b t but) (fun j _=>rfl)
  rw [show ((0:Nat):Int)=0 from rfl,List.take_zero,List.nil_append,List.drop_zero] at this
  exact this
theorem f113.l0_is (k:Nat) (b:Bk) (hb:bookMayB b=true) (t but:Int):∀ (n i:Nat),i≤b.1.2.length→b.1.2.length<n+i →
  f113.l0 k n t but i b.1.1 b.1.2 b.2.1 b.2.2.1 b.2.2.2.1 b.list ((roomsV b t but).take i)=some (.own tI (roomsV b t but))
 |0,i,h,h'=>by omega
 |n+1,i,h,h'=>by
  have hg:=(graph_parts (form_parts (book_ok hb).1.1).1).1
  have hmr:maxRate=4611686018427387904:=rfl
  have hbk:((b.1.1,b.1.2),b.2.1,b.2.2.1,b.2.2.2.1,b.list)=b:=rfl
  rw [f113.l0_eq]
  by_cases hlt:i<b.1.2.length
  ·have hx:=gE hlt
   have hc:=(capAt_in (form_parts (book_ok hb).1.1).1 hlt).1
   have hL:=book_load hb hlt t but
   have hov:(overOf (loadB b i t but) (capAt b i)).1=loadB b i t but:=by
    unfold overOf
    rw [dT hL.2.1]
    rfl
   have htk:(roomsV b t but).take i++[capAt b i - loadB b i t but]=(roomsV b t but).take (i+1):=by rw [List.take_add_one,roomsV_get b t but hlt];rfl
   rw [idx_lt' hx,cT,hbk,okB_load (book_ok hb).1 hlt,kT,bS,idx_in hx,kT,rd_some (t:=tLk) hx,← hc,hov,wrap64 (n:=capAt b i - loadB b i t but) (by omega),wrap_succ (by omega),htk,
    dT (by rw [List.length_take,roomsV_len];omega),kT]
   exact f113.l0_is k b hb t but n (i+1) (by omega) (by omega)
  ·obtain rfl:i=b.1.2.length:=by omega
   rw [end_lt,cF,List.take_of_length_le (by rw [roomsV_len];exact Nat.le_refl _)]
noncomputable def S113:Summ:=S203
theorem ok113:SumOk Tryz.prog 113 S113 :=
 sumq f113.E (fn:=Tryz.f113) (code:=f113.code) f113.sums f113.inl fun (d:Bk×(Int×Int)) x hx=>by
  obtain ⟨b,t,but⟩:=d
  obtain ⟨hb,hx⟩:=chk_some hx
  obtain rfl:=oJ hx
  have hb:bookMayB b=true:=hb
  have hg:=(graph_parts (form_parts (book_ok hb).1.1).1).1
  refine ⟨17,(f113.eq _ b t but).trans ?_⟩
  have:=f113.l0_is 17 b hb t but 17 0 (by omega) (by omega)
  rw [show ((0:Nat):Int)=0 from rfl,List.take_zero] at this
  exact this
def loadQ (b:Bk) (link t:Int):Int×Int:=bif bookMayB b&&(hasL b.1 link&&timedB t) then (loadB b link t 0,0) else (0,1900)
noncomputable def S99:Summ:=summ [tBk,tI,tI] (Int×Int) (fun (d:Bk×(Int×Int))=>chk (pcsSmall d.1) (some (loadQ d.1 d.2.1 d.2.2))) (fun x=>.tup [.int .i64 x.1,.int .i64 x.2])
theorem ok99:SumOk Tryz.prog 99 S99 :=
 sumq f99.E (fn:=Tryz.f99) (code:=f99.code) f99.sums f99.inl fun (d:Bk×(Int×Int)) x hx=>by
  obtain ⟨b,link,t⟩:=d
  obtain ⟨hs,hx⟩:=chk_some hx
  obtain rfl:=oJ hx
  have hs:pcsSmall b=true:=hs
  refine ⟨0,(f99.eq _ b link t).trans ?_⟩
  rw [hs,kT,bS]
  show _=some (V.tup [.int .i64 (loadQ b link t).1,.int .i64 (loadQ b link t).2])
  unfold loadQ
  cases hb:bookMayB b with
  |false=>rfl
  |true =>
   cases hl:hasL b.1 link with
   |false=>rfl
   |true =>
    cases ht:timedB t with
    |false=>rfl
    |true =>
     have h1:0≤link∧link<(b.1.2.length:Int):=oD hl
     have hlt:link.toNat<b.1.2.length:=by omega
     have hg:=loadsV_get b t 0 hlt
     rw [Int.toNat_of_nonneg h1.1] at hg
     rw [nT,cF,cF,cF,kT,bS,loadsV_len,dT h1,kT,rd_some (t:=tI) hg]
     rfl
abbrev tPc':Ty:=.pair tSp (.list tP)
def cpPath (p:Pt):Bool:=decide (p.2.length*8≤140737488355328)
def cpPiece (p:Pc):Bool:=decide (p.2.length*32≤140737488355328)&&p.2.all cpPath
def pcsMem (ps:List Pc):Bool:=decide (ps.length*40≤140737488355328)&&ps.all cpPiece
theorem f108.l1_is (k m0:Nat) (ps:List Pc) (M:Int) (i:Nat) (hi:i<ps.length) (hl:ps.length*40≤140737488355328) (p:Pc) (hp:cpPiece p=true) (acc:List Pc) (ha:acc.length≤i):∀ (n j:Nat),j≤p.2.length→p.2.length<n+j →
  f108.l1 k n m0 ps M i p.2 p.2.length j acc p.1.1 p.1.2 (p.2.take j)=f108.l0 k m0 ps M ((i+1:Nat):Int) (acc++[p])
 |0,j,h,h'=>by omega
 |n+1,j,h,h'=>by
  unfold cpPiece at hp
  rw [bA] at hp
  have h32:p.2.length*32≤140737488355328:=oD hp.1
  by_cases hlt:j<p.2.length
  ·have hx:=gE hlt
   have hb:decide (List.length p.2[j].2*8≤140737488355328)=true:=List.all_eq_true.1 hp.2 _ (List.getElem_mem hlt)
   have e:p.2.take j++[(p.2[j].1,p.2[j].2)]=p.2.take (j+1):=by
    rw [List.take_succ_eq_append_getElem hlt]
   have hc:decide ((p.2.take (j+1)).length*32≤140737488355328)=true:=by
    rw [List.length_take]
    exact dT (by omega)
   rw [f108.l1_eq,idx_lt' hx,cT,wrap_succ (by omega),rd_some (t:=tP) hx]
   simp only [idx_in hx,kT,chk_eq hb,bS,both_self,e,chk_eq hc]
   exact f108.l1_is k m0 ps M i hi hl p (by unfold cpPiece;rw [bA];exact hp) acc ha n (j+1) (by omega) (by omega)
  ·obtain rfl:j=p.2.length:=by omega
   have e:((p.1.1,p.1.2),p.2.take p.2.length)=p:=by rw [List.take_length]
   rw [f108.l1_eq,end_lt,cF,e,wrap_succ (by omega),dT (by rw [lA,List.length_singleton];omega),kT]
theorem f108.l0_is (k:Nat) (ps:List Pc) (hl:ps.length*40≤140737488355328) (hall:ps.all cpPiece=true) (hk:∀ p∈ps,p.2.length<k):∀ (n i:Nat),i≤ps.length→ps.length<n+i→f108.l0 k n ps ps.length i (ps.take i)=some (.own tPc' ps)
 |0,i,h,h'=>by omega
 |n+1,i,h,h'=>by
  by_cases hlt:i<ps.length
  ·have hx:=gE hlt
   have hm:=List.getElem_mem hlt
   have:=f108.l1_is k n ps ps.length i hlt hl ps[i] (List.all_eq_true.1 hall _ hm) (ps.take i) (by rw [List.length_take];omega) k 0 (by omega) (by have:=hk _ hm;omega)
   rw [show ((0:Nat):Int)=0 from rfl,List.take_zero] at this
   rw [f108.l0_eq,idx_lt' hx,cT,idx_in hx,kT,rd_some (t:=tPc') hx,this,← List.take_succ_eq_append_getElem hlt]
   exact f108.l0_is k ps hl hall hk n (i+1) (by omega) (by omega)
  ·obtain rfl:i=ps.length:=by omega
   rw [f108.l0_eq,end_lt,cF,List.take_length]
theorem lens_lt {α β:Type} (ps:List (α×List β)):∃ k,∀ p∈ps,p.2.length<k:=by
 induction ps with
 |nil=>exact ⟨0,fun p hp=>(List.not_mem_nil hp).elim⟩
 |cons q ps ih =>
  obtain ⟨k,hk⟩:=ih
  refine ⟨k+q.2.length+1,fun p hp=>?_⟩
  rcases List.mem_cons.1 hp with rfl|hp
  ·omega
  ·have:=hk p hp
   omega
noncomputable def S108:Summ:=summ [.list tPc'] (List Pc) (fun (ps:List Pc)=>chk (pcsMem ps) (some ps)) (.own tPc')
theorem ok108:SumOk Tryz.prog 108 S108 :=
 sumq f108.E (fn:=Tryz.f108) (code:=f108.code) f108.sums f108.inl fun (ps:List Pc) x hx=>by
  obtain ⟨h1,hx⟩:=chk_some hx
  obtain rfl:=oJ hx
  have h1:pcsMem ps=true:=h1
  unfold pcsMem at h1
  simp only [bA,dE] at h1
  obtain ⟨k,hk⟩:=lens_lt ps
  exact ⟨k+ps.length+1,(f108.eq _ ps).trans (f108.l0_is _ ps h1.1 h1.2 (fun p hp=>by have:=hk p hp;omega) _ 0 (by omega) (by omega))⟩
theorem f60.l0_is (k:Nat) (ps:List Pc) (hl:ps.length*40≤140737488355328) (hall:ps.all cpPiece=true):∀ (n i:Nat),i≤ps.length→ps.length<n+i→f60.l0 k n ps (i:Int) (ps.take i)=some (.own tPc' ps)
 |0,i,h,h'=>by omega
 |n+1,i,h,h'=>by
  by_cases hlt:i<ps.length
  ·have hx:=gE hlt
   have hb:=List.all_eq_true.1 hall _ (List.getElem_mem hlt)
   unfold cpPiece at hb
   rw [bA] at hb
   have hb2:(List.all ps[i].2 fun p=>decide (p.snd.length*8≤140737488355328))=true:=hb.2
   have e:ps.take i++[(ps[i].1,ps[i].2)]=ps.take (i+1):=by
    rw [List.take_succ_eq_append_getElem hlt]
   have hc:decide ((ps.take (i+1)).length*40≤140737488355328)=true:=by
    rw [List.length_take]
    exact dT (by omega)
   rw [f60.l0_eq,idx_lt' hx,cT,wrap_succ (by omega),rd_some (t:=tPc') hx]
   simp only [idx_in hx,kT,chk_eq hb.1,chk_eq hb2,bS,both_self,e,chk_eq hc]
   exact f60.l0_is k ps hl hall n (i+1) (by omega) (by omega)
  ·obtain rfl:i=ps.length:=by omega
   rw [f60.l0_eq,end_lt,cF,List.take_length]
noncomputable def S60:Summ:=S108
theorem ok60:SumOk Tryz.prog 60 S60 :=
 sumq f60.E (fn:=Tryz.f60) (code:=f60.code) f60.sums f60.inl fun (ps:List Pc) x hx=>by
  obtain ⟨h1,hx⟩:=chk_some hx
  obtain rfl:=oJ hx
  have h1:pcsMem ps=true:=h1
  unfold pcsMem at h1
  simp only [bA,dE] at h1
  exact ⟨ps.length+1,(f60.eq _ ps).trans (f60.l0_is _ ps h1.1 h1.2 _ 0 (by omega) (by omega))⟩
end
section
set_option maxRecDepth 100000
noncomputable def f157.E (k:Nat):Env:=mkEnv tt [(108,S108)] [] [] [] k
noncomputable def f157.code:Go.Code:=cd Tryz.f157
theorem f157.eq (k:Nat) (x0:eR):evFn (f157.E k) 9 157 Tryz.f157 (encL [qR] x0) =
 (chk (pcsMem x0.2.2.2.2.2.2) (some x0.2.2.2.2.2.2)).bind (fun y0=>some (.agg [(.int .i64 x0.1.1),(.int .i64 x0.1.2),(.int .i64 x0.2.1),(.int .i64 x0.2.2.1),(.int .i64 x0.2.2.2.1),(.int .i64 x0.2.2.2.2.1),(.int .i64 x0.2.2.2.2.2.1),(.own qC y0)])):=by kernel_rfl
theorem f157.inl (k:Nat):InlOk Tryz.prog (f157.E k):=inl_nil
theorem f157.sums (k:Nat):SumsOk Tryz.prog (f157.E k):=(sums_cons ok108 sums_nil)
noncomputable def f164.E (k:Nat):Env:=mkEnv tt [(82,S82),(201,S201),(108,S108)] [(157,Tryz.f157)] [] [] k
noncomputable def f164.code:Go.Code:=cd Tryz.f164
theorem f164.eq (k:Nat) (x0:(Int×List (eL)) ×
 Int×Int×Int×List (eR)) (x1:Int):evFn (f164.E k) 9 164 Tryz.f164 (encL [(.pair (.pair qI (.list qL)) (.pair qI (.pair qI (.pair qI (.list qR))))),qI] (x0,x1)) =
 (chk (pcsSmall x0) (some (bookMayB x0))).bind (fun y0=>bif !y0 then (some (.tup [(.agg [(.int .i64 0),(.int .i64 0),(.int .i64 0),(.int .i64 0),(.int .i64 0),(.int .i64 0),(.int .i64 0),(.own qC ([]))]),(.bool false),(.int .i64 1900)])) else ((chk (decide ((Bk.list x0).length<4611686018427387904)) (some (placeOf x0 x1))).bind (fun y1=>bif decide (y1<(0:Int)) then (some (.tup [(.agg [(.int .i64 0),(.int .i64 0),(.int .i64 0),(.int .i64 0),(.int .i64 0),(.int .i64 0),(.int .i64 0),(.own qC ([]))]),(.bool false),(.int .i64 0)])) else (chk (decide ((0:Int)≤y1∧y1<(↑(x0.2.2.2.2.length):Int))) ((chk (pcsMem (rd qR x0.2.2.2.2 y1).2.2.2.2.2.2) (some ((rd qR x0.2.2.2.2 y1).2.2.2.2.2.2))).bind (fun y2=>some (.tup [(.agg [(.int .i64 ((rd qR x0.2.2.2.2 y1).1.1)),(.int .i64 ((rd qR x0.2.2.2.2 y1).1.2)),(.int .i64 ((rd qR x0.2.2.2.2 y1).2.1)),(.int .i64 ((rd qR x0.2.2.2.2 y1).2.2.1)),(.int .i64 ((rd qR x0.2.2.2.2 y1).2.2.2.1)),(.int .i64 ((rd qR x0.2.2.2.2 y1).2.2.2.2.1)),(.int .i64 ((rd qR x0.2.2.2.2 y1).2.2.2.2.2.1)),(.own qC y2)]),(.bool true),(.int .i64 0)]))))))):=by kernel_rfl
theorem f164.inl (k:Nat):InlOk Tryz.prog (f164.E k):=(inl_cons (by kernel_rfl) (by kernel_rfl) inl_nil)
theorem f164.sums (k:Nat):SumsOk Tryz.prog (f164.E k):=(sums_cons ok82 (sums_cons ok201 (sums_cons ok108 sums_nil)))
noncomputable def f165.E (k:Nat):Env:=mkEnv tt [(77,S77),(82,S82),(202,S202),(203,S203)] [] [(165,17,[.kill (rg [(0,1),(4,14),(16,60),(64,78)]),.tidy]),(165,8,[.kill (rg [(0,1),(5,7),(9,9),(11,26),(30,33),(37,78)]),.tidy]),(165,5,[.kill (rg [(0,1),(5,7),(9,26),(30,78)]),.tidy]),(165,19,[.drop 63])] [] k
noncomputable def f165.code:Go.Code:=cd Tryz.f165
noncomputable def f165.l0 (k n:Nat) (p0:Int) (p1:List (eR)) (p2:Int) (p3:Int) (p4:Int) (p5:List (eL)) (p6:Int) (p7:Int) (p8:Int) (p9:Int) (p10:Int) (p11:List Int):Option V :=
 atPath (f165.E k) n ⟨(.u::.u::(.int .i64 p0)::(.ptr 786448 (0) (0))::(.ptr 1048592 (0) (0))::.u::.u::.u::(.slw 2097168)::.u::.u::.u::.u::.u::.u::.u::.u::.u::.u::.u::.u::.u::.u::.u::.u::.u::.u::(.ro qR p1)::(.int .i64 p2)::(.int .i64 p3)::un 49),[],[(786448,.box [(.int .i64 p4),(.ro qL p5),(.int .i64 p6),(.int .i64 p7),(.int .i64 p8),(.ro qR p1)]),(1048592,.box [(.int .i64 p9),(.int .i64 p10)]),(2097168,.row qI p11)]⟩ 9 0 165 [.c 1,.c 1,.c 1,.c 0,.c 1,.c 0] [] f165.code (finK tt Tryz.f165)
noncomputable def f165.l1 (k n m0:Nat) (p0:Int) (p1:List (eR)) (p2:Int) (p3:Int) (p4:List (eC)) (p5:Int) (p6:Int) (p7:Int) (p8:List (eL)) (p9:Int) (p10:Int) (p11:Int) (p12:Int) (p13:Int) (p14:List Int) (p15:Int) (p16:Int) (p17:Int) (p18:Int) (p19:Int) (p20:Int) (p21:Int):Option V :=
 atPath (f165.E k) n ⟨(.u::.u::(.int .i64 p0)::(.ptr 786448 (0) (0))::(.ptr 1048592 (0) (0))::.u::.u::.u::(.slw 2097168)::.u::(.ptr 2621456 (0) (0))::.u::.u::.u::.u::.u::.u::.u::.u::.u::.u::.u::.u::.u::.u::.u::.u::(.ro qR p1)::(.int .i64 p2)::(.int .i64 p3)::.u::.u::.u::.u::(.ro qC p4)::(.int .i64 p5)::(.int .i64 p6)::un 42),[],[(786448,.box [(.int .i64 p7),(.ro qL p8),(.int .i64 p9),(.int .i64 p10),(.int .i64 p11),(.ro qR p1)]),(1048592,.box [(.int .i64 p12),(.int .i64 p13)]),(2097168,.row qI p14),(2621456,.box [(.int .i64 p15),(.int .i64 p16),(.int .i64 p17),(.int .i64 p18),(.int .i64 p19),(.int .i64 p20),(.int .i64 p21),(.ro qC p4)])]⟩ 9 0 165 [.c 1,.c 1,.c 1,.c 0,.c 1,.c 0,.c 0,.c 1,.c 1,.c 0,.c 0,.c 1,.c 1,.c 0] [m0] f165.code (finK tt Tryz.f165)
noncomputable def f165.l2 (k n:Nat) (p0:Int) (p1:Int) (p2:Int) (p3:Int) (p4:List (eL)) (p5:Int) (p6:Int) (p7:Int) (p8:List (eR)) (p9:List (eG)) (p10:List (Int×Int)):Option V :=
 atPath (f165.E k) n ⟨(.u::.u::(.int .i64 p0)::(.ptr 786448 (0) (0))::.u::.u::.u::.u::.u::.u::.u::.u::.u::.u::.u::(.slw 3932176)::.u::.u::.u::.u::.u::.u::.u::.u::.u::.u::.u::.u::.u::.u::.u::.u::.u::.u::.u::.u::.u::.u::.u::.u::.u::.u::.u::.u::.u::.u::.u::.u::.u::.u::.u::.u::.u::.u::.u::.u::.u::.u::.u::.u::.u::(.slw 15990800)::(.int .i64 p1)::(.int .i64 p2)::un 15),[],[(786448,.box [(.int .i64 p3),(.ro qL p4),(.int .i64 p5),(.int .i64 p6),(.int .i64 p7),(.ro qR p8)]),(3932176,.row qG p9),(15990800,.row qS p10)]⟩ 9 0 165 [.c 1,.c 1,.c 1,.c 1,.c 1,.c 1,.c 0,.c 1,.c 0] [] f165.code (finK tt Tryz.f165)
theorem f165.l0_eq (k n:Nat) (p0:Int) (p1:List (eR)) (p2:Int) (p3:Int) (p4:Int) (p5:List (eL)) (p6:Int) (p7:Int) (p8:Int) (p9:Int) (p10:Int) (p11:List Int):f165.l0 k (n+1) p0 p1 p2 p3 p4 p5 p6 p7 p8 p9 p10 p11 =
 bif decide (p3<p2) then (chk (decide ((0:Int)≤p3∧p3<(↑p1.length:Int))) (f165.l1 k k n p0 p1 p2 p3 ((rd qR p1 p3).2.2.2.2.2.2) ((↑(List.length (rd qR p1 p3).2.2.2.2.2.2):Int)) 0 p4 p5 p6 p7 p8 p9 p10 p11 ((rd qR p1 p3).1.1) ((rd qR p1 p3).1.2) ((rd qR p1 p3).2.1) ((rd qR p1 p3).2.2.1) ((rd qR p1 p3).2.2.2.1) ((rd qR p1 p3).2.2.2.2.1) ((rd qR p1 p3).2.2.2.2.2.1))) else ((chk (decide (p11.length≤4096)) (some (cutsOf (p9,p10) p11))).bind (fun y0=>f165.l2 k k p0 ((↑y0.1.length:Int)) 0 p4 p5 p6 p7 p8 p1 ([]) y0.1)):=by kernel_rfl
theorem f165.l1_eq (k n m0:Nat) (p0:Int) (p1:List (eR)) (p2:Int) (p3:Int) (p4:List (eC)) (p5:Int) (p6:Int) (p7:Int) (p8:List (eL)) (p9:Int) (p10:Int) (p11:Int) (p12:Int) (p13:Int) (p14:List Int) (p15:Int) (p16:Int) (p17:Int) (p18:Int) (p19:Int) (p20:Int) (p21:Int):f165.l1 k (n+1) m0 p0 p1 p2 p3 p4 p5 p6 p7 p8 p9 p10 p11 p12 p13 p14 p15 p16 p17 p18 p19 p20 p21 =
 bif decide (p6<p5) then (chk (decide ((0:Int)≤p6∧p6<(↑p4.length:Int))) (bif p17 != p0 then (chk (decide ((p14++[(rd qC p4 p6).1.1,(rd qC p4 p6).1.2]).length*8≤140737488355328)) (f165.l1 k n m0 p0 p1 p2 p3 p4 p5 (Go.IntKind.i64.wrap (p6+(1:Int))) p7 p8 p9 p10 p11 p12 p13 (p14++[(rd qC p4 p6).1.1,(rd qC p4 p6).1.2]) p15 p16 p17 p18 p19 p20 p21)) else (f165.l1 k n m0 p0 p1 p2 p3 p4 p5 (Go.IntKind.i64.wrap (p6+(1:Int))) p7 p8 p9 p10 p11 p12 p13 p14 p15 p16 p17 p18 p19 p20 p21))) else (f165.l0 k m0 p0 p1 p2 (Go.IntKind.i64.wrap (p3+(1:Int))) p7 p8 p9 p10 p11 p12 p13 p14):=by kernel_rfl
theorem f165.l2_eq (k n:Nat) (p0:Int) (p1:Int) (p2:Int) (p3:Int) (p4:List (eL)) (p5:Int) (p6:Int) (p7:Int) (p8:List (eR)) (p9:List (eG)) (p10:List (Int×Int)):f165.l2 k (n+1) p0 p1 p2 p3 p4 p5 p6 p7 p8 p9 p10 =
 bif decide (p2<p1) then (chk (decide ((0:Int)≤p2∧p2<(↑p10.length:Int))) (both (both ((chk (bookMayB ((p3,p4),p5,p6,p7,p8)) (some (roomsV ((p3,p4),p5,p6,p7,p8) (rd qS p10 (↑p2.toNat:Int)).1 p0))).bind (fun y0=>chk (decide ((p9++[(rd qS p10 (↑p2.toNat:Int),y0)]).length*40≤140737488355328)) (f165.l2 k n p0 p1 (Go.IntKind.i64.wrap (p2+(1:Int))) p3 p4 p5 p6 p7 p8 (p9++[(rd qS p10 (↑p2.toNat:Int),y0)]) p10))) ((chk (bookMayB ((p3,p4),p5,p6,p7,p8)) (some (roomsV ((p3,p4),p5,p6,p7,p8) (rd qS p10 (↑p2.toNat:Int)).1 p0))).bind (fun y0=>chk (decide ((p9++[(rd qS p10 (↑p2.toNat:Int),y0)]).length*40≤140737488355328)) (f165.l2 k n p0 p1 (Go.IntKind.i64.wrap (p2+(1:Int))) p3 p4 p5 p6 p7 p8 (p9++[(rd qS p10 (↑p2.toNat:Int),y0)]) p10)))) (both (both ((chk (bookMayB ((p3,p4),p5,p6,p7,p8)) (some (roomsV ((p3,p4),p5,p6,p7,p8) (rd qS p10 (↑p2.toNat:Int)).1 p0))).bind (fun y0=>chk (decide ((p9++[(rd qS p10 (↑p2.toNat:Int),y0)]).length*40≤140737488355328)) (f165.l2 k n p0 p1 (Go.IntKind.i64.wrap (p2+(1:Int))) p3 p4 p5 p6 p7 p8 (p9++[(rd qS p10 (↑p2.toNat:Int),y0)]) p10))) (both ((chk (bookMayB ((p3,p4),p5,p6,p7,p8)) (some (roomsV ((p3,p4),p5,p6,p7,p8) (rd qS p10 (↑p2.toNat:Int)).1 p0))).bind (fun y0=>chk (decide ((p9++[(rd qS p10 (↑p2.toNat:Int),y0)]).length*40≤140737488355328)) (f165.l2 k n p0 p1 (Go.IntKind.i64.wrap (p2+(1:Int))) p3 p4 p5 p6 p7 p8 (p9++[(rd qS p10 (↑p2.toNat:Int),y0)]) p10))) ((chk (bookMayB ((p3,p4),p5,p6,p7,p8)) (some (roomsV ((p3,p4),p5,p6,p7,p8) (rd qS p10 (↑p2.toNat:Int)).1 p0))).bind (fun y0=>chk (decide ((p9++[(rd qS p10 (↑p2.toNat:Int),y0)]).length*40≤140737488355328)) (f165.l2 k n p0 p1 (Go.IntKind.i64.wrap (p2+(1:Int))) p3 p4 p5 p6 p7 p8 (p9++[(rd qS p10 (↑p2.toNat:Int),y0)]) p10))))) (both ((chk (bookMayB ((p3,p4),p5,p6,p7,p8)) (some (roomsV ((p3,p4),p5,p6,p7,p8) (rd qS p10 (↑p2.toNat:Int)).1 p0))).bind (fun y0=>chk (decide ((p9++[(rd qS p10 (↑p2.toNat:Int),y0)]).length*40≤140737488355328)) (f165.l2 k n p0 p1 (Go.IntKind.i64.wrap (p2+(1:Int))) p3 p4 p5 p6 p7 p8 (p9++[(rd qS p10 (↑p2.toNat:Int),y0)]) p10))) (both ((chk (bookMayB ((p3,p4),p5,p6,p7,p8)) (some (roomsV ((p3,p4),p5,p6,p7,p8) (rd qS p10 (↑p2.toNat:Int)).1 p0))).bind (fun y0=>chk (decide ((p9++[(rd qS p10 (↑p2.toNat:Int),y0)]).length*40≤140737488355328)) (f165.l2 k n p0 p1 (Go.IntKind.i64.wrap (p2+(1:Int))) p3 p4 p5 p6 p7 p8 (p9++[(rd qS p10 (↑p2.toNat:Int),y0)]) p10))) ((chk (bookMayB ((p3,p4),p5,p6,p7,p8)) (some (roomsV ((p3,p4),p5,p6,p7,p8) (rd qS p10 (↑p2.toNat:Int)).1 p0))).bind (fun y0=>chk (decide ((p9++[(rd qS p10 (↑p2.toNat:Int),y0)]).length*40≤140737488355328)) (f165.l2 k n p0 p1 (Go.IntKind.i64.wrap (p2+(1:Int))) p3 p4 p5 p6 p7 p8 (p9++[(rd qS p10 (↑p2.toNat:Int),y0)]) p10)))))))) else (some (.tup [(.own qG p9),(.int .i64 0)])):=by kernel_rfl
theorem f165.eq (k:Nat) (x0:(Int×List (eL)) ×
 Int×Int×Int×List (eR)) (x1:Int×Int) (x2:Int):evFn (f165.E k) 9 165 Tryz.f165 (encL [(.pair (.pair qI (.list qL)) (.pair qI (.pair qI (.pair qI (.list qR))))),qS,qI] (x0,x1,x2)) =
 (chk (pcsSmall x0) (some (bookMayB x0))).bind (fun y0=>bif !y0 then (some (.tup [(.own qG ([])),(.int .i64 1900)])) else (bif !spanMay x1 then (some (.tup [(.own qG ([])),(.int .i64 1900)])) else (f165.l0 k k x2 x0.2.2.2.2 ((↑(x0.2.2.2.2.length):Int)) 0 x0.1.1 x0.1.2 x0.2.1 x0.2.2.1 x0.2.2.2.1 x1.1 x1.2 ([])))):=by kernel_rfl
theorem f165.inl (k:Nat):InlOk Tryz.prog (f165.E k):=inl_nil
theorem f165.sums (k:Nat):SumsOk Tryz.prog (f165.E k):=(sums_cons ok77 (sums_cons ok82 (sums_cons ok202 (sums_cons ok203 sums_nil))))
noncomputable def f51.E (k:Nat):Env:=mkEnv tt [(66,S66),(86,S86),(112,S112),(113,S113)] [] [(51,14,[.kill (rg [(0,1),(4,10),(12,12),(15,104)]),.tidy]),(51,8,[.kill (rg [(0,1),(5,7),(11,104)]),.tidy]),(51,5,[.kill (rg [(0,1),(5,7),(10,104)]),.tidy]),(51,16,[.drop 63])] [] k
noncomputable def f51.code:Go.Code:=cd Tryz.f51
noncomputable def f51.l0 (k n:Nat) (p0:Int) (p1:Int) (p2:Int) (p3:List (eL)) (p4:Int) (p5:Int) (p6:Int) (p7:List (eR)) (p8:Int) (p9:Int) (p10:List Int):Option V :=
 atPath (f51.E k) n ⟨(.u::.u::(.int .i64 p0)::(.ptr 786448 (0) (0))::(.ptr 1048592 (0) (0))::.u::.u::.u::(.slw 2097168)::(.int .i64 p1)::un 95),[],[(786448,.box [(.int .i64 p2),(.ro qL p3),(.int .i64 p4),(.int .i64 p5),(.int .i64 p6),(.ro qR p7)]),(1048592,.box [(.int .i64 p8),(.int .i64 p9)]),(2097168,.row qI p10)]⟩ 9 0 51 [.c 1,.c 1,.c 1,.c 0,.c 1,.c 0] [] f51.code (finK tt Tryz.f51)
noncomputable def f51.l1 (k n m0:Nat) (p0:Int) (p1:Int) (p2:Int) (p3:Int) (p4:List (eL)) (p5:Int) (p6:Int) (p7:Int) (p8:List (eR)) (p9:Int) (p10:Int) (p11:List Int):Option V :=
 atPath (f51.E k) n ⟨(.u::.u::(.int .i64 p0)::(.ptr 786448 (0) (0))::(.ptr 1048592 (0) (0))::.u::.u::.u::(.slw 2097168)::(.int .i64 p1)::(.int .i64 p2)::un 94),[],[(786448,.box [(.int .i64 p3),(.ro qL p4),(.int .i64 p5),(.int .i64 p6),(.int .i64 p7),(.ro qR p8)]),(1048592,.box [(.int .i64 p9),(.int .i64 p10)]),(2097168,.row qI p11)]⟩ 9 0 51 [.c 1,.c 1,.c 1,.c 0,.c 1,.c 0,.c 0,.c 1,.c 0,.c 0,.c 1,.c 0] [m0] f51.code (finK tt Tryz.f51)
noncomputable def f51.l2 (k n:Nat) (p0:Int) (p1:Int) (p2:Int) (p3:List (eL)) (p4:Int) (p5:Int) (p6:Int) (p7:List (eR)) (p8:List (Int×Int)) (p9:List (eG)):Option V :=
 atPath (f51.E k) n ⟨(.u::.u::(.int .i64 p0)::(.ptr 786448 (0) (0))::.u::.u::.u::.u::.u::.u::.u::(.slw 2883600)::.u::(.slw 3407888)::(.int .i64 p1)::un 90),[],[(786448,.box [(.int .i64 p2),(.ro qL p3),(.int .i64 p4),(.int .i64 p5),(.int .i64 p6),(.ro qR p7)]),(2883600,.row qS p8),(3407888,.row qG p9)]⟩ 9 0 51 [.c 1,.c 1,.c 1,.c 1,.c 1,.c 1,.c 0,.c 1,.c 0] [] f51.code (finK tt Tryz.f51)
theorem f51.l0_eq (k n:Nat) (p0:Int) (p1:Int) (p2:Int) (p3:List (eL)) (p4:Int) (p5:Int) (p6:Int) (p7:List (eR)) (p8:Int) (p9:Int) (p10:List Int):f51.l0 k (n+1) p0 p1 p2 p3 p4 p5 p6 p7 p8 p9 p10 =
 bif decide (p1<(↑p7.length:Int)) then (f51.l1 k k n p0 p1 0 p2 p3 p4 p5 p6 p7 p8 p9 p10) else ((chk (decide (p10.length≤4096)) (some (cutsOf (p8,p9) p10))).bind (fun y0=>f51.l2 k k p0 0 p2 p3 p4 p5 p6 p7 y0.1 ([]))):=by kernel_rfl
theorem f51.l1_eq (k n m0:Nat) (p0:Int) (p1:Int) (p2:Int) (p3:Int) (p4:List (eL)) (p5:Int) (p6:Int) (p7:Int) (p8:List (eR)) (p9:Int) (p10:Int) (p11:List Int):f51.l1 k (n+1) m0 p0 p1 p2 p3 p4 p5 p6 p7 p8 p9 p10 p11 =
 chk (decide ((0:Int)≤p1∧p1<(↑p8.length:Int))) (bif decide (p2<(↑(List.length (rd qR p8 p1).2.2.2.2.2.2):Int)) then (chk (decide ((0:Int)≤p1∧p1<(↑p8.length:Int))) (bif (rd qR p8 p1).2.1 != p0 then (chk (decide ((0:Int)≤p1∧p1<(↑p8.length:Int))) (chk (decide ((0:Int)≤p2∧p2<(↑(List.length (rd qR p8 p1).2.2.2.2.2.2):Int))) (chk (decide ((0:Int)≤p1∧p1<(↑p8.length:Int))) (chk (decide ((0:Int)≤p2∧p2<(↑(List.length (rd qR p8 p1).2.2.2.2.2.2):Int))) (chk (decide ((p11++[(rd qC (rd qR p8 p1).2.2.2.2.2.2 p2).1.1,(rd qC (rd qR p8 p1).2.2.2.2.2.2 p2).1.2]).length*8≤140737488355328)) (f51.l1 k n m0 p0 p1 (Go.IntKind.i64.wrap (p2+(1:Int))) p3 p4 p5 p6 p7 p8 p9 p10 (p11++[(rd qC (rd qR p8 p1).2.2.2.2.2.2 p2).1.1,(rd qC (rd qR p8 p1).2.2.2.2.2.2 p2).1.2]))))))) else (f51.l0 k m0 p0 (Go.IntKind.i64.wrap (p1+(1:Int))) p3 p4 p5 p6 p7 p8 p9 p10 p11))) else (f51.l0 k m0 p0 (Go.IntKind.i64.wrap (p1+(1:Int))) p3 p4 p5 p6 p7 p8 p9 p10 p11)):=by kernel_rfl
theorem f51.l2_eq (k n:Nat) (p0:Int) (p1:Int) (p2:Int) (p3:List (eL)) (p4:Int) (p5:Int) (p6:Int) (p7:List (eR)) (p8:List (Int×Int)) (p9:List (eG)):f51.l2 k (n+1) p0 p1 p2 p3 p4 p5 p6 p7 p8 p9 =
 bif decide (p1<(↑p8.length:Int)) then (chk (decide ((0:Int)≤p1∧p1<(↑p8.length:Int))) (chk (decide ((0:Int)≤p1∧p1<(↑p8.length:Int))) (both (both ((chk (bookMayB ((p2,p3),p4,p5,p6,p7)) (some (roomsV ((p2,p3),p4,p5,p6,p7) (rd qS p8 (↑p1.toNat:Int)).1 p0))).bind (fun y0=>chk (decide ((p9++[(rd qS p8 (↑p1.toNat:Int),y0)]).length*40≤140737488355328)) (f51.l2 k n p0 (Go.IntKind.i64.wrap (p1+(1:Int))) p2 p3 p4 p5 p6 p7 p8 (p9++[(rd qS p8 (↑p1.toNat:Int),y0)])))) ((chk (bookMayB ((p2,p3),p4,p5,p6,p7)) (some (roomsV ((p2,p3),p4,p5,p6,p7) (rd qS p8 (↑p1.toNat:Int)).1 p0))).bind (fun y0=>chk (decide ((p9++[(rd qS p8 (↑p1.toNat:Int),y0)]).length*40≤140737488355328)) (f51.l2 k n p0 (Go.IntKind.i64.wrap (p1+(1:Int))) p2 p3 p4 p5 p6 p7 p8 (p9++[(rd qS p8 (↑p1.toNat:Int),y0)]))))) (both (both ((chk (bookMayB ((p2,p3),p4,p5,p6,p7)) (some (roomsV ((p2,p3),p4,p5,p6,p7) (rd qS p8 (↑p1.toNat:Int)).1 p0))).bind (fun y0=>chk (decide ((p9++[(rd qS p8 (↑p1.toNat:Int),y0)]).length*40≤140737488355328)) (f51.l2 k n p0 (Go.IntKind.i64.wrap (p1+(1:Int))) p2 p3 p4 p5 p6 p7 p8 (p9++[(rd qS p8 (↑p1.toNat:Int),y0)])))) (both ((chk (bookMayB ((p2,p3),p4,p5,p6,p7)) (some (roomsV ((p2,p3),p4,p5,p6,p7) (rd qS p8 (↑p1.toNat:Int)).1 p0))).bind (fun y0=>chk (decide ((p9++[(rd qS p8 (↑p1.toNat:Int),y0)]).length*40≤140737488355328)) (f51.l2 k n p0 (Go.IntKind.i64.wrap (p1+(1:Int))) p2 p3 p4 p5 p6 p7 p8 (p9++[(rd qS p8 (↑p1.toNat:Int),y0)])))) ((chk (bookMayB ((p2,p3),p4,p5,p6,p7)) (some (roomsV ((p2,p3),p4,p5,p6,p7) (rd qS p8 (↑p1.toNat:Int)).1 p0))).bind (fun y0=>chk (decide ((p9++[(rd qS p8 (↑p1.toNat:Int),y0)]).length*40≤140737488355328)) (f51.l2 k n p0 (Go.IntKind.i64.wrap (p1+(1:Int))) p2 p3 p4 p5 p6 p7 p8 (p9++[(rd qS p8 (↑p1.toNat:Int),y0)])))))) (both ((chk (bookMayB ((p2,p3),p4,p5,p6,p7)) (some (roomsV ((p2,p3),p4,p5,p6,p7) (rd qS p8 (↑p1.toNat:Int)).1 p0))).bind (fun y0=>chk (decide ((p9++[(rd qS p8 (↑p1.toNat:Int),y0)]).length*40≤140737488355328)) (f51.l2 k n p0 (Go.IntKind.i64.wrap (p1+(1:Int))) p2 p3 p4 p5 p6 p7 p8 (p9++[(rd qS p8 (↑p1.toNat:Int),y0)])))) (both ((chk (bookMayB ((p2,p3),p4,p5,p6,p7)) (some (roomsV ((p2,p3),p4,p5,p6,p7) (rd qS p8 (↑p1.toNat:Int)).1 p0))).bind (fun y0=>chk (decide ((p9++[(rd qS p8 (↑p1.toNat:Int),y0)]).length*40≤140737488355328)) (f51.l2 k n p0 (Go.IntKind.i64.wrap (p1+(1:Int))) p2 p3 p4 p5 p6 p7 p8 (p9++[(rd qS p8 (↑p1.toNat:Int),y0)])))) ((chk (bookMayB ((p2,p3),p4,p5,p6,p7)) (some (roomsV ((p2,p3),p4,p5,p6,p7) (rd qS p8 (↑p1.toNat:Int)).1 p0))).bind (fun y0=>chk (decide ((p9++[(rd qS p8 (↑p1.toNat:Int),y0)]).length*40≤140737488355328)) (f51.l2 k n p0 (Go.IntKind.i64.wrap (p1+(1:Int))) p2 p3 p4 p5 p6 p7 p8 (p9++[(rd qS p8 (↑p1.toNat:Int),y0)])))))))))) else (some (.tup [(.own qG p9),(.int .i64 0)])):=by kernel_rfl
theorem f51.eq (k:Nat) (x0:(Int×List (eL)) ×
 Int×Int×Int×List (eR)) (x1:Int×Int) (x2:Int):evFn (f51.E k) 9 51 Tryz.f51 (encL [(.pair (.pair qI (.list qL)) (.pair qI (.pair qI (.pair qI (.list qR))))),qS,qI] (x0,x1,x2)) =
 (chk (pcsSmall x0) (some (bookMayB x0))).bind (fun y0=>bif !y0 then (some (.tup [(.own qG ([])),(.int .i64 1900)])) else (bif !spanMay x1 then (some (.tup [(.own qG ([])),(.int .i64 1900)])) else (f51.l0 k k x2 0 x0.1.1 x0.1.2 x0.2.1 x0.2.2.1 x0.2.2.2.1 x0.2.2.2.2 x1.1 x1.2 ([])))):=by kernel_rfl
theorem f51.inl (k:Nat):InlOk Tryz.prog (f51.E k):=inl_nil
theorem f51.sums (k:Nat):SumsOk Tryz.prog (f51.E k):=(sums_cons ok66 (sums_cons ok86 (sums_cons ok112 (sums_cons ok113 sums_nil))))
end
section
theorem okB_mem {b:Bk} (h:okB b):∀ r∈b.list,pcsMem r.pcs=true:=by
 intro r hr
 have h8:=pcs_few h r hr
 have hg:=List.all_eq_true.1 (okB_good h) r hr
 unfold goodR at hg
 rw [bA] at hg
 unfold pcsMem
 rw [dT (by omega),tA]
 refine List.all_eq_true.2 fun p hp=>?_
 have h1:=List.all_eq_true.1 hg.2 p hp
 unfold goodPc at h1
 simp only [bA,dE] at h1
 unfold cpPiece
 rw [dT (by omega),tA]
 refine List.all_eq_true.2 fun w hw=>?_
 have h2:=List.all_eq_true.1 h1.2 w hw
 unfold goodPt at h2
 simp only [bA,dE] at h2
 unfold cpPath
 exact dT (by omega)
theorem idxId_spec (id:Int):∀ (rs:List Rs) (i:Nat),(idxId id i rs=-1∧∀ r∈rs,r.id ≠ id)∨∃ j r,idxId id i rs=((i+j:Nat):Int)∧rs[j]? = some r∧r.id=id
 | [],i=>.inl ⟨rfl,fun r hr=>(List.not_mem_nil hr).elim⟩
 |r::rs,i=>by
  simp only [idxId]
  cases h:r.id==id with
  |true=>exact .inr ⟨0,r,rfl,rfl,by simpa using h⟩
  |false =>
   rw [cond_false]
   have hn:r.id ≠ id:=by simpa using h
   rcases idxId_spec id rs (i+1) with ⟨h1,h2⟩|⟨j,q,h1,h2,h3⟩
   ·refine .inl ⟨h1,fun q hq=>?_⟩
    rcases List.mem_cons.1 hq with rfl|hq
    ·exact hn
    ·exact h2 q hq
   ·exact .inr ⟨j+1,q,by rw [h1];congr 1;omega,by simpa using h2,h3⟩
theorem place_spec (b:Bk) (id:Int):(placeOf b id=-1∧∀ r∈b.list,r.id ≠ id)∨∃ (j:Nat) (r:Rs),placeOf b id=(j:Int)∧b.list[j]? = some r∧r.id=id:=by
 rcases idxId_spec id b.list 0 with h|⟨j,r,h1,h2,h3⟩
 ·exact .inl h
 ·exact .inr ⟨j,r,by unfold placeOf;rw [h1,Nat.zero_add],h2,h3⟩
abbrev Rs.none:Rs:=((0,0),0,0,0,0,0,[])
@[reducible] def resV (r:Rs):V:=.agg [.int .i64 r.1.1,.int .i64 r.1.2,.int .i64 r.2.1,.int .i64 r.2.2.1,.int .i64 r.2.2.2.1,.int .i64 r.2.2.2.2.1,.int .i64 r.2.2.2.2.2.1,.own tPc' r.2.2.2.2.2.2]
def getQ (b:Bk) (id:Int):Rs×(Bool×Int):=bif bookMayB b then (match b.list[(placeOf b id).toNat]? with
 |some r=>bif decide (placeOf b id<0) then (Rs.none,false,0) else (r,true,0)
 |none=>(Rs.none,false,0)) else (Rs.none,false,1900)
noncomputable def S157:Summ:=summ [tRs] Rs (fun (r:Rs)=>chk (pcsMem r.pcs) (some r)) resV
theorem ok157:SumOk Tryz.prog 157 S157 :=
 sumq f157.E (fn:=Tryz.f157) (code:=f157.code) f157.sums f157.inl fun (r:Rs) x hx=>by
  obtain ⟨h1,hx⟩:=chk_some hx
  obtain rfl:=oJ hx
  refine ⟨0,(f157.eq _ r).trans ?_⟩
  have h1:pcsMem r.2.2.2.2.2.2=true:=h1
  rw [h1,kT,bS]
noncomputable def S164:Summ:=summ [tBk,tI] (Rs×(Bool×Int)) (fun (d:Bk×Int)=>chk (pcsSmall d.1) (some (getQ d.1 d.2))) (fun x=>.tup [resV x.1,.bool x.2.1,.int .i64 x.2.2])
theorem ok164:SumOk Tryz.prog 164 S164 :=
 sumq f164.E (fn:=Tryz.f164) (code:=f164.code) f164.sums f164.inl fun (d:Bk×Int) x hx=>by
  obtain ⟨b,id⟩:=d
  obtain ⟨hs,hx⟩:=chk_some hx
  obtain rfl:=oJ hx
  have hs:pcsSmall b=true:=hs
  refine ⟨0,(f164.eq _ b id).trans ?_⟩
  rw [hs,kT,bS]
  show _=some (V.tup [resV (getQ b id).1,.bool (getQ b id).2.1,.int .i64 (getQ b id).2.2])
  unfold getQ
  cases hb:bookMayB b with
  |false=>rfl
  |true =>
   have hok:=(book_ok hb).1
   have hll:=(form_parts hok.1).2.2.2.2
   rw [nT,cF,dT (by omega),kT,bS,cond_true]
   rcases place_spec b id with ⟨h1,h2⟩|⟨j,r,h1,h2,h3⟩
   ·rw [h1,show decide ((-1:Int)<0)=true from rfl,cT]
    cases b.list[((-1:Int)).toNat]? <;> rfl
   ·have h2':(b.2.2.2.2)[j]? = some r:=h2
    rw [h1,dF (by omega:¬ ((j:Int)<0)),cF,idx_in h2',kT,rd_some (t:=tRs) h2',Int.toNat_natCast,h2]
    have hm:=okB_mem hok r (List.mem_of_getElem? h2)
    have hm:pcsMem r.2.2.2.2.2.2=true:=hm
    rw [hm,kT,bS]
    rfl
def endsP (ps:List Pc):List Int:=ps.flatMap fun p=>[p.1.1,p.1.2]
def ptsR (but:Int) (r:Rs):List Int:=bif r.id==but then [] else endsP r.pcs
def ptsB (but:Int) (rs:List Rs):List Int:=rs.flatMap (ptsR but)
def spansB (b:Bk) (s:Int×Int) (but:Int):List (Int×Int):=(cutsOf s (ptsB but b.list)).1
def slicesB (b:Bk) (s:Int×Int) (but:Int):List Sg:=(spansB b s but).map fun c=>(c,roomsV b c.1 but)
def slicesQ (b:Bk) (s:Int×Int) (but:Int):List Sg×Int:=bif bookMayB b&&spanMay s then (slicesB b s but,0) else ([],1900)
theorem endsP_len (ps:List Pc):(endsP ps).length=2*ps.length:=by
 induction ps with
 |nil=>rfl
 |cons p ps ih =>
  show ([p.1.1,p.1.2]++endsP ps).length=_
  rw [lA,ih]
  simp only [List.length_cons,List.length_nil]
  omega
theorem ptsR_len (but:Int) (r:Rs) (h:r.pcs.length≤8):(ptsR but r).length≤16:=by
 unfold ptsR
 cases r.id==but with
 |true=>exact Nat.zero_le _
 |false=>rw [cond_false,endsP_len];omega
theorem ptsB_len (but:Int):∀ (rs:List Rs),(∀ r∈rs,r.pcs.length≤8)→(ptsB but rs).length≤16*rs.length
 | [],_=>Nat.le_refl _
 |r::rs,h=>by
  have:=ptsB_len but rs fun q hq=>h q (List.mem_cons_of_mem _ hq)
  have:=ptsR_len but r (h r (by simp))
  show (ptsR but r++ptsB but rs).length≤_
  rw [lA,List.length_cons]
  omega
theorem spansFrom_len:∀ (ps:List Int) (f:Int),(spansFrom f ps).length=ps.length
 | [],f=>rfl
 |p::ps,f=>by
  have:=spansFrom_len ps
  simp only [spansFrom,List.length_cons,this]
theorem spansB_len {b:Bk} (h:okB b) (s:Int×Int) (but:Int):(spansB b s but).length≤129∧(ptsB but b.list).length≤128:=by
 have h1:=ptsB_len but b.list (pcs_few h)
 have h2:=(form_parts h.1).2.2.2.2
 refine ⟨?_,by omega⟩
 unfold spansB cutsOf
 cases spanMay s with
 |false=>exact Nat.zero_le _
 |true =>
  rw [cond_true,spansFrom_len]
  unfold cutPts
  have h3:=compact_le (sortI (s.2::(ptsB but b.list).filter fun p=>decide (s.1<p)&&decide (p<s.2)))
  rw [sortI_len,List.length_cons] at h3
  have h4:=List.length_filter_le (fun p=>decide (s.1<p)&&decide (p<s.2)) (ptsB but b.list)
  omega
theorem f165.l2_is (k:Nat) (b:Bk) (hb:bookMayB b=true) (but:Int) (cs:List (Int×Int)) (hc:cs.length≤129):∀ (n i:Nat),i≤cs.length→cs.length<n+i →
  f165.l2 k n but cs.length i b.1.1 b.1.2 b.2.1 b.2.2.1 b.2.2.2.1 b.list ((cs.map fun c=>(c,roomsV b c.1 but)).take i) cs=some (.tup [.own tSg (cs.map fun c=>(c,roomsV b c.1 but)),.int .i64 0])
 |0,i,h,h'=>by omega
 |n+1,i,h,h'=>by
  have hbk:((b.1.1,b.1.2),b.2.1,b.2.2.1,b.2.2.2.1,b.list)=b:=rfl
  by_cases hlt:i<cs.length
  ·have hx:=gE hlt
   have e:(cs.map fun c=>(c,roomsV b c.1 but)).take i++[(cs[i],roomsV b cs[i].1 but)]=(cs.map fun c=>(c,roomsV b c.1 but)).take (i+1):=by
    rw [List.take_add_one,List.getElem?_map,hx]
    rfl
   have hc:decide (((cs.map fun c=>(c,roomsV b c.1 but)).take (i+1)).length*40≤140737488355328)=true:=by
    rw [List.length_take]
    exact dT (by omega)
   rw [f165.l2_eq,idx_lt' hx,cT,wrap_succ (by omega),hbk,Int.toNat_natCast,rd_some (t:=tSp) hx]
   simp only [idx_in hx,kT,hb,bS,both_self,e,chk_eq hc]
   exact f165.l2_is k b hb but cs (by omega) n (i+1) (by omega) (by omega)
  ·obtain rfl:i=cs.length:=by omega
   rw [f165.l2_eq,end_lt,cF,List.take_of_length_le (by rw [List.length_map];exact Nat.le_refl _)]
theorem f51.l2_is (k:Nat) (b:Bk) (hb:bookMayB b=true) (but:Int) (cs:List (Int×Int)) (hc:cs.length≤129):∀ (n i:Nat),i≤cs.length→cs.length<n+i →
  f51.l2 k n but i b.1.1 b.1.2 b.2.1 b.2.2.1 b.2.2.2.1 b.list cs ((cs.map fun c=>(c,roomsV b c.1 but)).take i)=some (.tup [.own tSg (cs.map fun c=>(c,roomsV b c.1 but)),.int .i64 0])
 |0,i,h,h'=>by omega
 |n+1,i,h,h'=>by
  have hbk:((b.1.1,b.1.2),b.2.1,b.2.2.1,b.2.2.2.1,b.list)=b:=rfl
  by_cases hlt:i<cs.length
  ·have hx:=gE hlt
   have e:(cs.map fun c=>(c,roomsV b c.1 but)).take i++[(cs[i],roomsV b cs[i].1 but)]=(cs.map fun c=>(c,roomsV b c.1 but)).take (i+1):=by
    rw [List.take_add_one,List.getElem?_map,hx]
    rfl
   have hc:decide (((cs.map fun c=>(c,roomsV b c.1 but)).take (i+1)).length*40≤140737488355328)=true:=by
    rw [List.length_take]
    exact dT (by omega)
   rw [f51.l2_eq,idx_lt' hx,cT,wrap_succ (by omega),hbk,Int.toNat_natCast,rd_some (t:=tSp) hx]
   simp only [idx_in hx,kT,hb,bS,both_self,e,chk_eq hc]
   exact f51.l2_is k b hb but cs (by omega) n (i+1) (by omega) (by omega)
  ·obtain rfl:i=cs.length:=by omega
   rw [f51.l2_eq,end_lt,cF,List.take_of_length_le (by rw [List.length_map];exact Nat.le_refl _)]
theorem f165.l1_is (k m0:Nat) (b:Bk) (but M:Int) (s:Int×Int) (i:Nat) (hi:i<4611686018427387904) (r:Rs) (h8:r.pcs.length≤8):∀ (n j:Nat) (acc:List Int),j≤r.pcs.length→r.pcs.length<n+j→acc.length≤1000+2*j →
  f165.l1 k n m0 but b.list M i r.pcs r.pcs.length j b.1.1 b.1.2 b.2.1 b.2.2.1 b.2.2.2.1 s.1 s.2 acc r.1.1 r.1.2 r.2.1 r.2.2.1 r.2.2.2.1 r.2.2.2.2.1 r.2.2.2.2.2.1=f165.l0 k m0 but b.list M ((i+1:Nat):Int) b.1.1 b.1.2 b.2.1 b.2.2.1 b.2.2.2.1 s.1 s.2 (acc++(bif r.id==but then [] else endsP (r.pcs.drop j)))
 |0,j,acc,h,h',_=>by omega
 |n+1,j,acc,h,h',ha=>by
  rw [f165.l1_eq]
  by_cases hlt:j<r.pcs.length
  ·have hx:=gE hlt
   rw [idx_lt' hx,cT,idx_in hx,kT,rd_some (t:=.pair tSp (.list tP)) hx,wrap_succ (by omega)]
   cases hb:r.id==but with
   |true =>
    have hb':(r.2.1 != but)=false:=by simp only [bne];rw [show (r.2.1==but)=true from hb];rfl
    rw [hb',cF,f165.l1_is k m0 b but M s i hi r h8 n (j+1) acc (by omega) (by omega) (by omega),hb,cond_true,cond_true]
   |false =>
    have hb':(r.2.1 != but)=true:=by simp only [bne];rw [show (r.2.1==but)=false from hb];rfl
    rw [hb',cT,dT (by rw [lA,List.length_cons,List.length_singleton];omega),kT,
     f165.l1_is k m0 b but M s i hi r h8 n (j+1) _ (by omega) (by omega) (by rw [lA,List.length_cons,List.length_singleton];omega),hb,cond_false,cond_false,List.append_assoc,List.drop_eq_getElem_cons hlt]
    rfl
  ·obtain rfl:j=r.pcs.length:=by omega
   rw [end_lt,cF,wrap_succ (by omega),List.drop_length]
   cases r.id==but with
   |true=>rw [cond_true,List.append_nil]
   |false=>rw [cond_false,show endsP []=[] from rfl,List.append_nil]
theorem f165.l0_is (k:Nat) (hk:200<k) (b:Bk) (hb:bookMayB b=true) (but:Int) (s:Int×Int):∀ (n i:Nat),i≤b.list.length→b.list.length<n+i →
  f165.l0 k n but b.list b.list.length i b.1.1 b.1.2 b.2.1 b.2.2.1 b.2.2.2.1 s.1 s.2 (ptsB but (b.list.take i))=some (.tup [.own tSg (slicesB b s but),.int .i64 0])
 |0,i,h,h'=>by omega
 |n+1,i,h,h'=>by
  have hok:=(book_ok hb).1
  have hll:=(form_parts hok.1).2.2.2.2
  rw [f165.l0_eq]
  by_cases hlt:i<b.list.length
  ·have hx:=gE hlt
   have h8:=pcs_few hok _ (List.getElem_mem hlt)
   have hlen:=ptsB_len but (b.list.take i) fun r hr=>pcs_few hok r (List.mem_of_mem_take hr)
   rw [List.length_take] at hlen
   rw [idx_lt' hx,cT,idx_in hx,kT,rd_some (t:=tRs) hx]
   have:=f165.l1_is k n b but b.list.length s i (by omega) b.list[i] h8 k 0 (ptsB but (b.list.take i)) (by omega) (by omega) (by omega)
   rw [show ((0:Nat):Int)=0 from rfl,List.drop_zero] at this
   refine this.trans ?_
   have e:ptsB but (b.list.take i)++(bif b.list[i].id==but then [] else endsP b.list[i].pcs)=ptsB but (b.list.take (i+1)):=by
    rw [List.take_succ_eq_append_getElem hlt]
    unfold ptsB
    rw [List.flatMap_append]
    simp only [List.flatMap_cons,List.flatMap_nil,List.append_nil]
    rfl
   rw [e]
   exact f165.l0_is k hk b hb but s n (i+1) (by omega) (by omega)
  ·obtain rfl:i=b.list.length:=by omega
   obtain ⟨h1,h2⟩:=spansB_len hok s but
   rw [end_lt,cF,List.take_length,dT (by omega),kT,bS]
   have:=f165.l2_is k b hb but (spansB b s but) h1 k 0 (by omega) (by omega)
   rw [show ((0:Nat):Int)=0 from rfl,List.take_zero] at this
   exact this
@[reducible] def resSE (x:List Sg×Int):V:=.tup [.own tSg x.1,.int .i64 x.2]
noncomputable def S165:Summ:=summ [tBk,tSp,tI] (List Sg×Int) (fun (d:Bk×((Int×Int)×Int))=>chk (pcsSmall d.1) (some (slicesQ d.1 d.2.1 d.2.2))) resSE
theorem ok165:SumOk Tryz.prog 165 S165 :=
 sumq f165.E (fn:=Tryz.f165) (code:=f165.code) f165.sums f165.inl fun (d:Bk×((Int×Int)×Int)) x hx=>by
  obtain ⟨b,s,but⟩:=d
  obtain ⟨hs,hx⟩:=chk_some hx
  obtain rfl:=oJ hx
  have hs:pcsSmall b=true:=hs
  refine ⟨201,(f165.eq _ b s but).trans ?_⟩
  rw [hs,kT,bS]
  show _=some (resSE (slicesQ b s but))
  unfold slicesQ
  cases hb:bookMayB b with
  |false=>rfl
  |true =>
   cases hsp:spanMay s with
   |false=>rfl
   |true =>
    rw [nT,cF,cF,Bool.and_self,cond_true]
    have hll:=(form_parts (book_ok hb).1.1).2.2.2.2
    exact f165.l0_is 201 (by omega) b hb but s 201 0 (by omega) (by omega)
theorem f51.l1_is (k m0:Nat) (b:Bk) (but:Int) (s:Int×Int) (i:Nat) (r:Rs) (hr:b.list[i]? = some r) (hi:i<4611686018427387904) (h8:r.pcs.length≤8):∀ (n j:Nat) (acc:List Int),j≤r.pcs.length→r.pcs.length<n+j→acc.length≤1000+2*j →
  f51.l1 k n m0 but i j b.1.1 b.1.2 b.2.1 b.2.2.1 b.2.2.2.1 b.list s.1 s.2 acc=f51.l0 k m0 but ((i+1:Nat):Int) b.1.1 b.1.2 b.2.1 b.2.2.1 b.2.2.2.1 b.list s.1 s.2 (acc++(bif r.id==but then [] else endsP (r.pcs.drop j)))
 |0,j,acc,h,h',_=>by omega
 |n+1,j,acc,h,h',ha=>by
  rw [f51.l1_eq,idx_in hr,kT,rd_some (t:=tRs) hr]
  by_cases hlt:j<r.pcs.length
  ·have hx:(r.2.2.2.2.2.2)[j]? = some r.pcs[j]:=gE hlt
   rw [idx_lt' hx,cT,kT,wrap_succ (by omega)]
   cases hb:r.id==but with
   |true =>
    have hb':(r.2.1 != but)=false:=by simp only [bne];rw [show (r.2.1==but)=true from hb];rfl
    rw [hb',cF,cond_true,List.append_nil,wrap_succ (by omega)]
   |false =>
    have hb':(r.2.1 != but)=true:=by simp only [bne];rw [show (r.2.1==but)=false from hb];rfl
    rw [hb',cT,kT,idx_in hx,kT,kT,kT,rd_some (t:=.pair tSp (.list tP)) hx,dT (by rw [lA,List.length_cons,List.length_singleton];omega),kT,
     f51.l1_is k m0 b but s i r hr hi h8 n (j+1) _ (by omega) (by omega) (by rw [lA,List.length_cons,List.length_singleton];omega),hb,cond_false,cond_false,List.append_assoc,List.drop_eq_getElem_cons hlt]
    rfl
  ·obtain rfl:j=r.pcs.length:=by omega
   have:((r.pcs.length:Nat):Int)=(r.2.2.2.2.2.2.length:Int):=rfl
   rw [this,end_lt,cF,wrap_succ (by omega),List.drop_length]
   cases r.id==but with
   |true=>rw [cond_true,List.append_nil]
   |false=>rw [cond_false,show endsP []=[] from rfl,List.append_nil]
theorem f51.l0_is (k:Nat) (hk:200<k) (b:Bk) (hb:bookMayB b=true) (but:Int) (s:Int×Int):∀ (n i:Nat),i≤b.list.length→b.list.length<n+i →
  f51.l0 k n but i b.1.1 b.1.2 b.2.1 b.2.2.1 b.2.2.2.1 b.list s.1 s.2 (ptsB but (b.list.take i))=some (.tup [.own tSg (slicesB b s but),.int .i64 0])
 |0,i,h,h'=>by omega
 |n+1,i,h,h'=>by
  have hok:=(book_ok hb).1
  have hll:=(form_parts hok.1).2.2.2.2
  rw [f51.l0_eq]
  by_cases hlt:i<b.list.length
  ·have hx:=gE hlt
   have h8:=pcs_few hok _ (List.getElem_mem hlt)
   have hlen:=ptsB_len but (b.list.take i) fun r hr=>pcs_few hok r (List.mem_of_mem_take hr)
   rw [List.length_take] at hlen
   rw [idx_lt' hx,cT]
   have:=f51.l1_is k n b but s i b.list[i] hx (by omega) h8 k 0 (ptsB but (b.list.take i)) (by omega) (by omega) (by omega)
   rw [show ((0:Nat):Int)=0 from rfl,List.drop_zero] at this
   refine this.trans ?_
   have e:ptsB but (b.list.take i)++(bif b.list[i].id==but then [] else endsP b.list[i].pcs)=ptsB but (b.list.take (i+1)):=by
    rw [List.take_succ_eq_append_getElem hlt]
    unfold ptsB
    rw [List.flatMap_append]
    simp only [List.flatMap_cons,List.flatMap_nil,List.append_nil]
    rfl
   rw [e]
   exact f51.l0_is k hk b hb but s n (i+1) (by omega) (by omega)
  ·obtain rfl:i=b.list.length:=by omega
   obtain ⟨h1,h2⟩:=spansB_len hok s but
   rw [end_lt,cF,List.take_length,dT (by omega),kT,bS]
   have:=f51.l2_is k b hb but (spansB b s but) h1 k 0 (by omega) (by omega)
   rw [show ((0:Nat):Int)=0 from rfl,List.take_zero] at this
   exact this
noncomputable def S51:Summ:=S165
theorem ok51:SumOk Tryz.prog 51 S51 :=
 sumq f51.E (fn:=Tryz.f51) (code:=f51.code) f51.sums f51.inl fun (d:Bk×((Int×Int)×Int)) x hx=>by
  obtain ⟨b,s,but⟩:=d
  obtain ⟨hs,hx⟩:=chk_some hx
  obtain rfl:=oJ hx
  have hs:pcsSmall b=true:=hs
  refine ⟨201,(f51.eq _ b s but).trans ?_⟩
  rw [hs,kT,bS]
  show _=some (resSE (slicesQ b s but))
  unfold slicesQ
  cases hb:bookMayB b with
  |false=>rfl
  |true =>
   cases hsp:spanMay s with
   |false=>rfl
   |true =>
    rw [nT,cF,cF,Bool.and_self,cond_true]
    have hll:=(form_parts (book_ok hb).1.1).2.2.2.2
    exact f51.l0_is 201 (by omega) b hb but s 201 0 (by omega) (by omega)
end
section
set_option maxRecDepth 100000
noncomputable def f83.E (k:Nat):Env:=mkEnv tt [(122,S122)] [(143,Tryz.f143)] [(83,4,[.drop 61]),(143,3,[.drop 63]),(143,5,[.drop 63]),(143,10,[.drop 63])] [] k
noncomputable def f83.code:Go.Code:=cd Tryz.f83
theorem f83.eq (k:Nat) (x0:(Int×Int)×Int×Int×eL):evFn (f83.E k) 9 83 Tryz.f83 (encL [(.pair qS (.pair qI (.pair qI qL)))] x0) =
 bif x0.2.1==(1:Int) then (bif x0.2.1==(1:Int) then (bif !rateB x0.2.2.2.1 then (some (.bool false)) else (bif !rateB x0.2.2.2.2.1 then (some (.bool false)) else (bif !rateB x0.2.2.2.2.2 then (some (.bool false)) else (bif !rateB x0.1.1 then (some (.bool false)) else (bif !rateB x0.1.2 then (some (.bool false)) else (some (.bool (x0.1.1==x0.1.1&&(x0.1.2==x0.1.2&&(x0.2.1==x0.2.1&&((0:Int)==x0.2.2.1&&(x0.2.2.2.1==x0.2.2.2.1&&(x0.2.2.2.2.1==x0.2.2.2.2.1&&(x0.2.2.2.2.2==x0.2.2.2.2.2&&true)))))))))))))) else (bif x0.2.1==(2:Int) then (bif !rateB x0.2.2.2.1 then (some (.bool false)) else (bif !rateB x0.2.2.2.2.1 then (some (.bool false)) else (bif !rateB x0.2.2.2.2.2 then (some (.bool false)) else (bif !rateB x0.1.1 then (some (.bool false)) else (some (.bool (x0.2.2.2.2.2==x0.1.1&&(x0.1.1==x0.1.2&&(x0.2.1==x0.2.1&&(x0.2.2.2.1==x0.2.2.1&&((0:Int)==x0.2.2.2.1&&((0:Int)==x0.2.2.2.2.1&&(x0.2.2.2.2.1==x0.2.2.2.2.2&&true))))))))))))) else (bif x0.2.1==(3:Int) then (bif x0.2.1==(3:Int) then (bif !rateB x0.2.2.2.1 then (some (.bool false)) else (some (.bool ((0:Int)==x0.1.1&&((0:Int)==x0.1.2&&(x0.2.1==x0.2.1&&(x0.2.2.2.1==x0.2.2.1&&((0:Int)==x0.2.2.2.1&&((0:Int)==x0.2.2.2.2.1&&((0:Int)==x0.2.2.2.2.2&&true)))))))))) else (bif x0.2.1==(5:Int) then (bif !rateB x0.2.2.2.1 then (some (.bool false)) else (bif !rateB x0.2.2.2.2.1 then (some (.bool false)) else (some (.bool (x0.2.2.2.2.1==x0.1.1&&((0:Int)==x0.1.2&&(x0.2.1==x0.2.1&&(x0.2.2.2.1==x0.2.2.1&&((0:Int)==x0.2.2.2.1&&((0:Int)==x0.2.2.2.2.1&&((0:Int)==x0.2.2.2.2.2&&true))))))))))) else (bif x0.2.1==(6:Int) then (bif !rateB x0.2.2.2.1 then (some (.bool false)) else (some (.bool (x0.2.2.2.1==x0.1.1&&((0:Int)==x0.1.2&&(x0.2.1==x0.2.1&&((0:Int)==x0.2.2.1&&((0:Int)==x0.2.2.2.1&&((0:Int)==x0.2.2.2.2.1&&((0:Int)==x0.2.2.2.2.2&&true)))))))))) else (some (.bool ((0:Int)==x0.1.1&&((0:Int)==x0.1.2&&(x0.2.1==x0.2.1&&((0:Int)==x0.2.2.1&&((0:Int)==x0.2.2.2.1&&((0:Int)==x0.2.2.2.2.1&&((0:Int)==x0.2.2.2.2.2&&true)))))))))))) else (bif x0.2.1==(4:Int) then (bif !rateB x0.2.2.2.1 then (some (.bool false)) else (some (.bool ((0:Int)==x0.1.1&&((0:Int)==x0.1.2&&(x0.2.1==x0.2.1&&(x0.2.2.2.1==x0.2.2.1&&((0:Int)==x0.2.2.2.1&&((0:Int)==x0.2.2.2.2.1&&((0:Int)==x0.2.2.2.2.2&&true)))))))))) else (bif x0.2.1==(5:Int) then (bif !rateB x0.2.2.2.1 then (some (.bool false)) else (bif !rateB x0.2.2.2.2.1 then (some (.bool false)) else (some (.bool (x0.2.2.2.2.1==x0.1.1&&((0:Int)==x0.1.2&&(x0.2.1==x0.2.1&&(x0.2.2.2.1==x0.2.2.1&&((0:Int)==x0.2.2.2.1&&((0:Int)==x0.2.2.2.2.1&&((0:Int)==x0.2.2.2.2.2&&true))))))))))) else (bif x0.2.1==(6:Int) then (bif !rateB x0.2.2.2.1 then (some (.bool false)) else (some (.bool (x0.2.2.2.1==x0.1.1&&((0:Int)==x0.1.2&&(x0.2.1==x0.2.1&&((0:Int)==x0.2.2.1&&((0:Int)==x0.2.2.2.1&&((0:Int)==x0.2.2.2.2.1&&((0:Int)==x0.2.2.2.2.2&&true)))))))))) else (some (.bool ((0:Int)==x0.1.1&&((0:Int)==x0.1.2&&(x0.2.1==x0.2.1&&((0:Int)==x0.2.2.1&&((0:Int)==x0.2.2.2.1&&((0:Int)==x0.2.2.2.2.1&&((0:Int)==x0.2.2.2.2.2&&true))))))))))))))) else (bif x0.2.1==(2:Int) then (bif x0.2.1==(1:Int) then (bif !rateB x0.2.2.1 then (some (.bool false)) else (bif !rateB x0.2.2.2.2.2 then (some (.bool false)) else (bif !rateB x0.1.1 then (some (.bool false)) else (chk (!rateB x0.1.2) (some (.bool false)))))) else (bif x0.2.1==(2:Int) then (bif !rateB x0.2.2.1 then (some (.bool false)) else (bif !rateB x0.2.2.2.2.2 then (some (.bool false)) else (bif !rateB x0.1.1 then (some (.bool false)) else (bif !rateB x0.1.2 then (some (.bool false)) else (some (.bool (x0.1.1==x0.1.1&&(x0.1.2==x0.1.2&&(x0.2.1==x0.2.1&&(x0.2.2.1==x0.2.2.1&&((0:Int)==x0.2.2.2.1&&((0:Int)==x0.2.2.2.2.1&&(x0.2.2.2.2.2==x0.2.2.2.2.2&&true))))))))))))) else (bif x0.2.1==(3:Int) then (bif x0.2.1==(3:Int) then (bif !rateB x0.2.2.1 then (some (.bool false)) else (some (.bool ((0:Int)==x0.1.1&&((0:Int)==x0.1.2&&(x0.2.1==x0.2.1&&(x0.2.2.1==x0.2.2.1&&((0:Int)==x0.2.2.2.1&&((0:Int)==x0.2.2.2.2.1&&((0:Int)==x0.2.2.2.2.2&&true)))))))))) else (bif x0.2.1==(5:Int) then (bif !rateB x0.2.2.1 then (some (.bool false)) else (bif !rateB x0.2.2.2.2.2 then (some (.bool false)) else (some (.bool (x0.2.2.2.2.2==x0.1.1&&((0:Int)==x0.1.2&&(x0.2.1==x0.2.1&&(x0.2.2.1==x0.2.2.1&&((0:Int)==x0.2.2.2.1&&((0:Int)==x0.2.2.2.2.1&&((0:Int)==x0.2.2.2.2.2&&true))))))))))) else (bif x0.2.1==(6:Int) then (bif !rateB x0.2.2.1 then (some (.bool false)) else (some (.bool (x0.2.2.1==x0.1.1&&((0:Int)==x0.1.2&&(x0.2.1==x0.2.1&&((0:Int)==x0.2.2.1&&((0:Int)==x0.2.2.2.1&&((0:Int)==x0.2.2.2.2.1&&((0:Int)==x0.2.2.2.2.2&&true)))))))))) else (some (.bool ((0:Int)==x0.1.1&&((0:Int)==x0.1.2&&(x0.2.1==x0.2.1&&((0:Int)==x0.2.2.1&&((0:Int)==x0.2.2.2.1&&((0:Int)==x0.2.2.2.2.1&&((0:Int)==x0.2.2.2.2.2&&true)))))))))))) else (bif x0.2.1==(4:Int) then (bif !rateB x0.2.2.1 then (some (.bool false)) else (some (.bool ((0:Int)==x0.1.1&&((0:Int)==x0.1.2&&(x0.2.1==x0.2.1&&(x0.2.2.1==x0.2.2.1&&((0:Int)==x0.2.2.2.1&&((0:Int)==x0.2.2.2.2.1&&((0:Int)==x0.2.2.2.2.2&&true)))))))))) else (bif x0.2.1==(5:Int) then (bif !rateB x0.2.2.1 then (some (.bool false)) else (bif !rateB x0.2.2.2.2.2 then (some (.bool false)) else (some (.bool (x0.2.2.2.2.2==x0.1.1&&((0:Int)==x0.1.2&&(x0.2.1==x0.2.1&&(x0.2.2.1==x0.2.2.1&&((0:Int)==x0.2.2.2.1&&((0:Int)==x0.2.2.2.2.1&&((0:Int)==x0.2.2.2.2.2&&true))))))))))) else (bif x0.2.1==(6:Int) then (bif !rateB x0.2.2.1 then (some (.bool false)) else (some (.bool (x0.2.2.1==x0.1.1&&((0:Int)==x0.1.2&&(x0.2.1==x0.2.1&&((0:Int)==x0.2.2.1&&((0:Int)==x0.2.2.2.1&&((0:Int)==x0.2.2.2.2.1&&((0:Int)==x0.2.2.2.2.2&&true)))))))))) else (some (.bool ((0:Int)==x0.1.1&&((0:Int)==x0.1.2&&(x0.2.1==x0.2.1&&((0:Int)==x0.2.2.1&&((0:Int)==x0.2.2.2.1&&((0:Int)==x0.2.2.2.2.1&&((0:Int)==x0.2.2.2.2.2&&true))))))))))))))) else (bif x0.2.1==(3:Int) then (bif x0.2.1==(3:Int) then (bif x0.2.1==(1:Int) then (chk (!rateB x0.2.2.1) (some (.bool false))) else (bif x0.2.1==(2:Int) then (chk (!rateB x0.2.2.1) (some (.bool false))) else (bif x0.2.1==(3:Int) then (bif x0.2.1==(3:Int) then (bif !rateB x0.2.2.1 then (some (.bool false)) else (some (.bool ((0:Int)==x0.1.1&&((0:Int)==x0.1.2&&(x0.2.1==x0.2.1&&(x0.2.2.1==x0.2.2.1&&((0:Int)==x0.2.2.2.1&&((0:Int)==x0.2.2.2.2.1&&((0:Int)==x0.2.2.2.2.2&&true)))))))))) else (bif x0.2.1==(5:Int) then (chk (!rateB x0.2.2.1) (some (.bool false))) else (bif x0.2.1==(6:Int) then (bif !rateB x0.2.2.1 then (some (.bool false)) else (some (.bool (x0.2.2.1==x0.1.1&&((0:Int)==x0.1.2&&(x0.2.1==x0.2.1&&((0:Int)==x0.2.2.1&&((0:Int)==x0.2.2.2.1&&((0:Int)==x0.2.2.2.2.1&&((0:Int)==x0.2.2.2.2.2&&true)))))))))) else (some (.bool ((0:Int)==x0.1.1&&((0:Int)==x0.1.2&&(x0.2.1==x0.2.1&&((0:Int)==x0.2.2.1&&((0:Int)==x0.2.2.2.1&&((0:Int)==x0.2.2.2.2.1&&((0:Int)==x0.2.2.2.2.2&&true)))))))))))) else (bif x0.2.1==(4:Int) then (bif !rateB x0.2.2.1 then (some (.bool false)) else (some (.bool ((0:Int)==x0.1.1&&((0:Int)==x0.1.2&&(x0.2.1==x0.2.1&&(x0.2.2.1==x0.2.2.1&&((0:Int)==x0.2.2.2.1&&((0:Int)==x0.2.2.2.2.1&&((0:Int)==x0.2.2.2.2.2&&true)))))))))) else (bif x0.2.1==(5:Int) then (chk (!rateB x0.2.2.1) (some (.bool false))) else (bif x0.2.1==(6:Int) then (bif !rateB x0.2.2.1 then (some (.bool false)) else (some (.bool (x0.2.2.1==x0.1.1&&((0:Int)==x0.1.2&&(x0.2.1==x0.2.1&&((0:Int)==x0.2.2.1&&((0:Int)==x0.2.2.2.1&&((0:Int)==x0.2.2.2.2.1&&((0:Int)==x0.2.2.2.2.2&&true)))))))))) else (some (.bool ((0:Int)==x0.1.1&&((0:Int)==x0.1.2&&(x0.2.1==x0.2.1&&((0:Int)==x0.2.2.1&&((0:Int)==x0.2.2.2.1&&((0:Int)==x0.2.2.2.2.1&&((0:Int)==x0.2.2.2.2.2&&true))))))))))))))) else (bif x0.2.1==(5:Int) then (bif x0.2.1==(1:Int) then (bif !rateB x0.2.2.1 then (some (.bool false)) else (chk (!rateB x0.1.1) (some (.bool false)))) else (bif x0.2.1==(2:Int) then (bif !rateB x0.2.2.1 then (some (.bool false)) else (chk (!rateB x0.1.1) (some (.bool false)))) else (bif x0.2.1==(3:Int) then (bif x0.2.1==(3:Int) then (bif !rateB x0.2.2.1 then (some (.bool false)) else (some (.bool ((0:Int)==x0.1.1&&((0:Int)==x0.1.2&&(x0.2.1==x0.2.1&&(x0.2.2.1==x0.2.2.1&&((0:Int)==x0.2.2.2.1&&((0:Int)==x0.2.2.2.2.1&&((0:Int)==x0.2.2.2.2.2&&true)))))))))) else (bif x0.2.1==(5:Int) then (bif !rateB x0.2.2.1 then (some (.bool false)) else (bif !rateB x0.1.1 then (some (.bool false)) else (some (.bool (x0.1.1==x0.1.1&&((0:Int)==x0.1.2&&(x0.2.1==x0.2.1&&(x0.2.2.1==x0.2.2.1&&((0:Int)==x0.2.2.2.1&&((0:Int)==x0.2.2.2.2.1&&((0:Int)==x0.2.2.2.2.2&&true))))))))))) else (bif x0.2.1==(6:Int) then (bif !rateB x0.2.2.1 then (some (.bool false)) else (some (.bool (x0.2.2.1==x0.1.1&&((0:Int)==x0.1.2&&(x0.2.1==x0.2.1&&((0:Int)==x0.2.2.1&&((0:Int)==x0.2.2.2.1&&((0:Int)==x0.2.2.2.2.1&&((0:Int)==x0.2.2.2.2.2&&true)))))))))) else (some (.bool ((0:Int)==x0.1.1&&((0:Int)==x0.1.2&&(x0.2.1==x0.2.1&&((0:Int)==x0.2.2.1&&((0:Int)==x0.2.2.2.1&&((0:Int)==x0.2.2.2.2.1&&((0:Int)==x0.2.2.2.2.2&&true)))))))))))) else (bif x0.2.1==(4:Int) then (bif !rateB x0.2.2.1 then (some (.bool false)) else (some (.bool ((0:Int)==x0.1.1&&((0:Int)==x0.1.2&&(x0.2.1==x0.2.1&&(x0.2.2.1==x0.2.2.1&&((0:Int)==x0.2.2.2.1&&((0:Int)==x0.2.2.2.2.1&&((0:Int)==x0.2.2.2.2.2&&true)))))))))) else (bif x0.2.1==(5:Int) then (bif !rateB x0.2.2.1 then (some (.bool false)) else (bif !rateB x0.1.1 then (some (.bool false)) else (some (.bool (x0.1.1==x0.1.1&&((0:Int)==x0.1.2&&(x0.2.1==x0.2.1&&(x0.2.2.1==x0.2.2.1&&((0:Int)==x0.2.2.2.1&&((0:Int)==x0.2.2.2.2.1&&((0:Int)==x0.2.2.2.2.2&&true))))))))))) else (bif x0.2.1==(6:Int) then (bif !rateB x0.2.2.1 then (some (.bool false)) else (some (.bool (x0.2.2.1==x0.1.1&&((0:Int)==x0.1.2&&(x0.2.1==x0.2.1&&((0:Int)==x0.2.2.1&&((0:Int)==x0.2.2.2.1&&((0:Int)==x0.2.2.2.2.1&&((0:Int)==x0.2.2.2.2.2&&true)))))))))) else (some (.bool ((0:Int)==x0.1.1&&((0:Int)==x0.1.2&&(x0.2.1==x0.2.1&&((0:Int)==x0.2.2.1&&((0:Int)==x0.2.2.2.1&&((0:Int)==x0.2.2.2.2.1&&((0:Int)==x0.2.2.2.2.2&&true))))))))))))))) else (bif x0.2.1==(6:Int) then (bif x0.2.1==(1:Int) then (chk (!rateB x0.1.1) (some (.bool false))) else (bif x0.2.1==(2:Int) then (chk (!rateB x0.1.1) (some (.bool false))) else (bif x0.2.1==(3:Int) then (bif x0.2.1==(3:Int) then (bif !rateB x0.1.1 then (some (.bool false)) else (some (.bool ((0:Int)==x0.1.1&&((0:Int)==x0.1.2&&(x0.2.1==x0.2.1&&(x0.1.1==x0.2.2.1&&((0:Int)==x0.2.2.2.1&&((0:Int)==x0.2.2.2.2.1&&((0:Int)==x0.2.2.2.2.2&&true)))))))))) else (bif x0.2.1==(5:Int) then (chk (!rateB x0.1.1) (some (.bool false))) else (bif x0.2.1==(6:Int) then (bif !rateB x0.1.1 then (some (.bool false)) else (some (.bool (x0.1.1==x0.1.1&&((0:Int)==x0.1.2&&(x0.2.1==x0.2.1&&((0:Int)==x0.2.2.1&&((0:Int)==x0.2.2.2.1&&((0:Int)==x0.2.2.2.2.1&&((0:Int)==x0.2.2.2.2.2&&true)))))))))) else (some (.bool ((0:Int)==x0.1.1&&((0:Int)==x0.1.2&&(x0.2.1==x0.2.1&&((0:Int)==x0.2.2.1&&((0:Int)==x0.2.2.2.1&&((0:Int)==x0.2.2.2.2.1&&((0:Int)==x0.2.2.2.2.2&&true)))))))))))) else (bif x0.2.1==(4:Int) then (bif !rateB x0.1.1 then (some (.bool false)) else (some (.bool ((0:Int)==x0.1.1&&((0:Int)==x0.1.2&&(x0.2.1==x0.2.1&&(x0.1.1==x0.2.2.1&&((0:Int)==x0.2.2.2.1&&((0:Int)==x0.2.2.2.2.1&&((0:Int)==x0.2.2.2.2.2&&true)))))))))) else (bif x0.2.1==(5:Int) then (chk (!rateB x0.1.1) (some (.bool false))) else (bif x0.2.1==(6:Int) then (bif !rateB x0.1.1 then (some (.bool false)) else (some (.bool (x0.1.1==x0.1.1&&((0:Int)==x0.1.2&&(x0.2.1==x0.2.1&&((0:Int)==x0.2.2.1&&((0:Int)==x0.2.2.2.1&&((0:Int)==x0.2.2.2.2.1&&((0:Int)==x0.2.2.2.2.2&&true)))))))))) else (some (.bool ((0:Int)==x0.1.1&&((0:Int)==x0.1.2&&(x0.2.1==x0.2.1&&((0:Int)==x0.2.2.1&&((0:Int)==x0.2.2.2.1&&((0:Int)==x0.2.2.2.2.1&&((0:Int)==x0.2.2.2.2.2&&true))))))))))))))) else (bif x0.2.1==(1:Int) then (none) else (bif x0.2.1==(2:Int) then (none) else (bif x0.2.1==(3:Int) then (bif x0.2.1==(3:Int) then (none) else (bif x0.2.1==(5:Int) then (none) else (bif x0.2.1==(6:Int) then (none) else (some (.bool false))))) else (bif x0.2.1==(4:Int) then (none) else (bif x0.2.1==(5:Int) then (none) else (bif x0.2.1==(6:Int) then (none) else (some (.bool false))))))))))) else (bif x0.2.1==(4:Int) then (bif x0.2.1==(1:Int) then (chk (!rateB x0.2.2.1) (some (.bool false))) else (bif x0.2.1==(2:Int) then (chk (!rateB x0.2.2.1) (some (.bool false))) else (bif x0.2.1==(3:Int) then (bif x0.2.1==(3:Int) then (bif !rateB x0.2.2.1 then (some (.bool false)) else (some (.bool ((0:Int)==x0.1.1&&((0:Int)==x0.1.2&&(x0.2.1==x0.2.1&&(x0.2.2.1==x0.2.2.1&&((0:Int)==x0.2.2.2.1&&((0:Int)==x0.2.2.2.2.1&&((0:Int)==x0.2.2.2.2.2&&true)))))))))) else (bif x0.2.1==(5:Int) then (chk (!rateB x0.2.2.1) (some (.bool false))) else (bif x0.2.1==(6:Int) then (bif !rateB x0.2.2.1 then (some (.bool false)) else (some (.bool (x0.2.2.1==x0.1.1&&((0:Int)==x0.1.2&&(x0.2.1==x0.2.1&&((0:Int)==x0.2.2.1&&((0:Int)==x0.2.2.2.1&&((0:Int)==x0.2.2.2.2.1&&((0:Int)==x0.2.2.2.2.2&&true)))))))))) else (some (.bool ((0:Int)==x0.1.1&&((0:Int)==x0.1.2&&(x0.2.1==x0.2.1&&((0:Int)==x0.2.2.1&&((0:Int)==x0.2.2.2.1&&((0:Int)==x0.2.2.2.2.1&&((0:Int)==x0.2.2.2.2.2&&true)))))))))))) else (bif x0.2.1==(4:Int) then (bif !rateB x0.2.2.1 then (some (.bool false)) else (some (.bool ((0:Int)==x0.1.1&&((0:Int)==x0.1.2&&(x0.2.1==x0.2.1&&(x0.2.2.1==x0.2.2.1&&((0:Int)==x0.2.2.2.1&&((0:Int)==x0.2.2.2.2.1&&((0:Int)==x0.2.2.2.2.2&&true)))))))))) else (bif x0.2.1==(5:Int) then (chk (!rateB x0.2.2.1) (some (.bool false))) else (bif x0.2.1==(6:Int) then (bif !rateB x0.2.2.1 then (some (.bool false)) else (some (.bool (x0.2.2.1==x0.1.1&&((0:Int)==x0.1.2&&(x0.2.1==x0.2.1&&((0:Int)==x0.2.2.1&&((0:Int)==x0.2.2.2.1&&((0:Int)==x0.2.2.2.2.1&&((0:Int)==x0.2.2.2.2.2&&true)))))))))) else (some (.bool ((0:Int)==x0.1.1&&((0:Int)==x0.1.2&&(x0.2.1==x0.2.1&&((0:Int)==x0.2.2.1&&((0:Int)==x0.2.2.2.1&&((0:Int)==x0.2.2.2.2.1&&((0:Int)==x0.2.2.2.2.2&&true))))))))))))))) else (bif x0.2.1==(5:Int) then (bif x0.2.1==(1:Int) then (bif !rateB x0.2.2.1 then (some (.bool false)) else (chk (!rateB x0.1.1) (some (.bool false)))) else (bif x0.2.1==(2:Int) then (bif !rateB x0.2.2.1 then (some (.bool false)) else (chk (!rateB x0.1.1) (some (.bool false)))) else (bif x0.2.1==(3:Int) then (bif x0.2.1==(3:Int) then (bif !rateB x0.2.2.1 then (some (.bool false)) else (some (.bool ((0:Int)==x0.1.1&&((0:Int)==x0.1.2&&(x0.2.1==x0.2.1&&(x0.2.2.1==x0.2.2.1&&((0:Int)==x0.2.2.2.1&&((0:Int)==x0.2.2.2.2.1&&((0:Int)==x0.2.2.2.2.2&&true)))))))))) else (bif x0.2.1==(5:Int) then (bif !rateB x0.2.2.1 then (some (.bool false)) else (bif !rateB x0.1.1 then (some (.bool false)) else (some (.bool (x0.1.1==x0.1.1&&((0:Int)==x0.1.2&&(x0.2.1==x0.2.1&&(x0.2.2.1==x0.2.2.1&&((0:Int)==x0.2.2.2.1&&((0:Int)==x0.2.2.2.2.1&&((0:Int)==x0.2.2.2.2.2&&true))))))))))) else (bif x0.2.1==(6:Int) then (bif !rateB x0.2.2.1 then (some (.bool false)) else (some (.bool (x0.2.2.1==x0.1.1&&((0:Int)==x0.1.2&&(x0.2.1==x0.2.1&&((0:Int)==x0.2.2.1&&((0:Int)==x0.2.2.2.1&&((0:Int)==x0.2.2.2.2.1&&((0:Int)==x0.2.2.2.2.2&&true)))))))))) else (some (.bool ((0:Int)==x0.1.1&&((0:Int)==x0.1.2&&(x0.2.1==x0.2.1&&((0:Int)==x0.2.2.1&&((0:Int)==x0.2.2.2.1&&((0:Int)==x0.2.2.2.2.1&&((0:Int)==x0.2.2.2.2.2&&true)))))))))))) else (bif x0.2.1==(4:Int) then (bif !rateB x0.2.2.1 then (some (.bool false)) else (some (.bool ((0:Int)==x0.1.1&&((0:Int)==x0.1.2&&(x0.2.1==x0.2.1&&(x0.2.2.1==x0.2.2.1&&((0:Int)==x0.2.2.2.1&&((0:Int)==x0.2.2.2.2.1&&((0:Int)==x0.2.2.2.2.2&&true)))))))))) else (bif x0.2.1==(5:Int) then (bif !rateB x0.2.2.1 then (some (.bool false)) else (bif !rateB x0.1.1 then (some (.bool false)) else (some (.bool (x0.1.1==x0.1.1&&((0:Int)==x0.1.2&&(x0.2.1==x0.2.1&&(x0.2.2.1==x0.2.2.1&&((0:Int)==x0.2.2.2.1&&((0:Int)==x0.2.2.2.2.1&&((0:Int)==x0.2.2.2.2.2&&true))))))))))) else (bif x0.2.1==(6:Int) then (bif !rateB x0.2.2.1 then (some (.bool false)) else (some (.bool (x0.2.2.1==x0.1.1&&((0:Int)==x0.1.2&&(x0.2.1==x0.2.1&&((0:Int)==x0.2.2.1&&((0:Int)==x0.2.2.2.1&&((0:Int)==x0.2.2.2.2.1&&((0:Int)==x0.2.2.2.2.2&&true)))))))))) else (some (.bool ((0:Int)==x0.1.1&&((0:Int)==x0.1.2&&(x0.2.1==x0.2.1&&((0:Int)==x0.2.2.1&&((0:Int)==x0.2.2.2.1&&((0:Int)==x0.2.2.2.2.1&&((0:Int)==x0.2.2.2.2.2&&true))))))))))))))) else (bif x0.2.1==(6:Int) then (bif x0.2.1==(1:Int) then (chk (!rateB x0.1.1) (some (.bool false))) else (bif x0.2.1==(2:Int) then (chk (!rateB x0.1.1) (some (.bool false))) else (bif x0.2.1==(3:Int) then (bif x0.2.1==(3:Int) then (bif !rateB x0.1.1 then (some (.bool false)) else (some (.bool ((0:Int)==x0.1.1&&((0:Int)==x0.1.2&&(x0.2.1==x0.2.1&&(x0.1.1==x0.2.2.1&&((0:Int)==x0.2.2.2.1&&((0:Int)==x0.2.2.2.2.1&&((0:Int)==x0.2.2.2.2.2&&true)))))))))) else (bif x0.2.1==(5:Int) then (chk (!rateB x0.1.1) (some (.bool false))) else (bif x0.2.1==(6:Int) then (bif !rateB x0.1.1 then (some (.bool false)) else (some (.bool (x0.1.1==x0.1.1&&((0:Int)==x0.1.2&&(x0.2.1==x0.2.1&&((0:Int)==x0.2.2.1&&((0:Int)==x0.2.2.2.1&&((0:Int)==x0.2.2.2.2.1&&((0:Int)==x0.2.2.2.2.2&&true)))))))))) else (some (.bool ((0:Int)==x0.1.1&&((0:Int)==x0.1.2&&(x0.2.1==x0.2.1&&((0:Int)==x0.2.2.1&&((0:Int)==x0.2.2.2.1&&((0:Int)==x0.2.2.2.2.1&&((0:Int)==x0.2.2.2.2.2&&true)))))))))))) else (bif x0.2.1==(4:Int) then (bif !rateB x0.1.1 then (some (.bool false)) else (some (.bool ((0:Int)==x0.1.1&&((0:Int)==x0.1.2&&(x0.2.1==x0.2.1&&(x0.1.1==x0.2.2.1&&((0:Int)==x0.2.2.2.1&&((0:Int)==x0.2.2.2.2.1&&((0:Int)==x0.2.2.2.2.2&&true)))))))))) else (bif x0.2.1==(5:Int) then (chk (!rateB x0.1.1) (some (.bool false))) else (bif x0.2.1==(6:Int) then (bif !rateB x0.1.1 then (some (.bool false)) else (some (.bool (x0.1.1==x0.1.1&&((0:Int)==x0.1.2&&(x0.2.1==x0.2.1&&((0:Int)==x0.2.2.1&&((0:Int)==x0.2.2.2.1&&((0:Int)==x0.2.2.2.2.1&&((0:Int)==x0.2.2.2.2.2&&true)))))))))) else (some (.bool ((0:Int)==x0.1.1&&((0:Int)==x0.1.2&&(x0.2.1==x0.2.1&&((0:Int)==x0.2.2.1&&((0:Int)==x0.2.2.2.1&&((0:Int)==x0.2.2.2.2.1&&((0:Int)==x0.2.2.2.2.2&&true))))))))))))))) else (bif x0.2.1==(1:Int) then (none) else (bif x0.2.1==(2:Int) then (none) else (bif x0.2.1==(3:Int) then (bif x0.2.1==(3:Int) then (none) else (bif x0.2.1==(5:Int) then (none) else (bif x0.2.1==(6:Int) then (none) else (some (.bool false))))) else (bif x0.2.1==(4:Int) then (none) else (bif x0.2.1==(5:Int) then (none) else (bif x0.2.1==(6:Int) then (none) else (some (.bool false))))))))))))):=by kernel_rfl
theorem f83.inl (k:Nat):InlOk Tryz.prog (f83.E k):=(inl_cons (by kernel_rfl) (by kernel_rfl) inl_nil)
theorem f83.sums (k:Nat):SumsOk Tryz.prog (f83.E k):=(sums_cons ok122 sums_nil)
noncomputable def f87.E (k:Nat):Env:=mkEnv tt [(151,S151),(152,S152)] [] [] [] k
noncomputable def f87.code:Go.Code:=cd Tryz.f87
theorem f87.eq (k:Nat) (x0:(Int×Int)×Int×Int×eL):evFn (f87.E k) 9 87 Tryz.f87 (encL [(.pair qS (.pair qI (.pair qI qL)))] x0) =
 bif decide (x0.2.1 ≥ (1:Int)) then (bif decide (x0.2.1≤(6:Int)) then (bif x0.1.1==(onlyOf x0).1.1&&(x0.1.2==(onlyOf x0).1.2&&(x0.2.1==(onlyOf x0).2.1&&(x0.2.2.1==(onlyOf x0).2.2.1&&(x0.2.2.2.1==(onlyOf x0).2.2.2.1&&(x0.2.2.2.2.1==(onlyOf x0).2.2.2.2.1&&(x0.2.2.2.2.2==(onlyOf x0).2.2.2.2.2&&true)))))) then (bif rateB x0.2.2.1 then (bif rateB x0.2.2.2.1 then (bif rateB x0.2.2.2.2.1 then (bif rateB x0.2.2.2.2.2 then (bif rateB x0.1.1 then (some (.bool (rateB x0.1.2))) else (some (.bool false))) else (some (.bool false))) else (some (.bool false))) else (some (.bool false))) else (some (.bool false))) else (some (.bool false))) else (some (.bool false))) else (some (.bool false)):=by kernel_rfl
theorem f87.inl (k:Nat):InlOk Tryz.prog (f87.E k):=inl_nil
theorem f87.sums (k:Nat):SumsOk Tryz.prog (f87.E k):=(sums_cons ok151 (sums_cons ok152 sums_nil))
noncomputable def f146.E (k:Nat):Env:=mkEnv tt [(165,S165)] [] [] [] k
noncomputable def f146.code:Go.Code:=cd Tryz.f146
theorem f146.eq (k:Nat) (x0:(Int×List (eL)) ×
 Int×Int×Int×List (eR)) (x1:(Int×Int)×Int×Int×eL):evFn (f146.E k) 9 146 Tryz.f146 (encL [(.pair (.pair qI (.list qL)) (.pair qI (.pair qI (.pair qI (.list qR))))),(.pair qS (.pair qI (.pair qI qL)))] (x0,x1)) =
 (chk (pcsSmall x0) (some (slicesQ x0 x1.1 x1.2.2.1))).bind (fun y0=>bif y0.2==(0:Int) then (some (.agg [(.bool (decide ((↑y0.1.length:Int)>x0.2.1))),(.int .i64 8)])) else (some (.agg [(.bool false),(.int .i64 8)]))):=by kernel_rfl
theorem f146.inl (k:Nat):InlOk Tryz.prog (f146.E k):=inl_nil
theorem f146.sums (k:Nat):SumsOk Tryz.prog (f146.E k):=(sums_cons ok165 sums_nil)
noncomputable def f147.E (k:Nat):Env:=mkEnv tt [(164,S164)] [] [] [] k
noncomputable def f147.code:Go.Code:=cd Tryz.f147
theorem f147.eq (k:Nat) (x0:(Int×List (eL)) ×
 Int×Int×Int×List (eR)) (x1:Int) (x2:(Int×Int)×Int×Int×eL):evFn (f147.E k) 9 147 Tryz.f147 (encL [(.pair (.pair qI (.list qL)) (.pair qI (.pair qI (.pair qI (.list qR))))),qI,(.pair qS (.pair qI (.pair qI qL)))] (x0,x1,x2)) =
 (chk (pcsSmall x0) (some (getQ x0 x2.2.2.1))).bind (fun y0=>some (.own (.pair .bool qI) ([(!y0.2.1,(5:Int)),(y0.1.2.2.1 != x1,(6:Int))]))):=by kernel_rfl
theorem f147.inl (k:Nat):InlOk Tryz.prog (f147.E k):=inl_nil
theorem f147.sums (k:Nat):SumsOk Tryz.prog (f147.E k):=(sums_cons ok164 sums_nil)
noncomputable def f153.E (k:Nat):Env:=mkEnv tt [(66,S66)] [] [] [] k
noncomputable def f153.code:Go.Code:=cd Tryz.f153
theorem f153.eq (k:Nat) (x0:(Int×List (eL)) ×
 Int×Int×Int×List (eR)) (x1:(Int×Int)×Int×Int×eL):evFn (f153.E k) 9 153 Tryz.f153 (encL [(.pair (.pair qI (.list qL)) (.pair qI (.pair qI (.pair qI (.list qR))))),(.pair qS (.pair qI (.pair qI qL)))] (x0,x1)) =
 bif spanMay x1.1 then (some (.bool (decide (x1.1.1 ≥ x0.2.2.1)))) else (some (.bool false)):=by kernel_rfl
theorem f153.inl (k:Nat):InlOk Tryz.prog (f153.E k):=inl_nil
theorem f153.sums (k:Nat):SumsOk Tryz.prog (f153.E k):=(sums_cons ok66 sums_nil)
noncomputable def f154.E (k:Nat):Env:=mkEnv tt [(51,S51)] [] [] [] k
noncomputable def f154.code:Go.Code:=cd Tryz.f154
theorem f154.eq (k:Nat) (x0:(Int×List (eL)) ×
 Int×Int×Int×List (eR)) (x1:(Int×Int)×Int×Int×eL):evFn (f154.E k) 9 154 Tryz.f154 (encL [(.pair (.pair qI (.list qL)) (.pair qI (.pair qI (.pair qI (.list qR))))),(.pair qS (.pair qI (.pair qI qL)))] (x0,x1)) =
 (chk (pcsSmall x0) (some (slicesQ x0 x1.1 x1.2.2.1))).bind (fun y0=>some (.bool (decide ((↑y0.1.length:Int)≤x0.2.1)))):=by kernel_rfl
theorem f154.inl (k:Nat):InlOk Tryz.prog (f154.E k):=inl_nil
theorem f154.sums (k:Nat):SumsOk Tryz.prog (f154.E k):=(sums_cons ok51 sums_nil)
noncomputable def f90.E (k:Nat):Env:=mkEnv tt [(111,S111)] [] [] [] k
noncomputable def f90.code:Go.Code:=cd Tryz.f90
theorem f90.eq (k:Nat) (x0:(Int×List (eL)) ×
 Int×Int×Int×List (eR)) (x1:Int) (x2:Int):evFn (f90.E k) 9 90 Tryz.f90 (encL [(.pair (.pair qI (.list qL)) (.pair qI (.pair qI (.pair qI (.list qR))))),qI,qI] (x0,x1,x2)) =
 (chk (decide ((Bk.list x0).length<4611686018427387904)) (some (placeOf x0 x2))).bind (fun y0=>bif decide (y0<(0:Int)) then (some (.int .i64 5)) else (chk (decide ((0:Int)≤y0∧y0<(↑(x0.2.2.2.2.length):Int))) (bif (rd qR x0.2.2.2.2 y0).2.2.1 != x1 then (some (.int .i64 6)) else (some (.int .i64 0))))):=by kernel_rfl
theorem f90.inl (k:Nat):InlOk Tryz.prog (f90.E k):=inl_nil
theorem f90.sums (k:Nat):SumsOk Tryz.prog (f90.E k):=(sums_cons ok111 sums_nil)
end
section
def Rq.id (q:Rq):Int:=q.2.2.1
def Rq.rate (q:Rq):Int:=q.2.2.2.2.2
def eqRq (q r:Rq):Bool:=q.1.1==r.1.1&&(q.1.2==r.1.2&&(q.2.1==r.2.1&&(q.2.2.1==r.2.2.1&&(q.2.2.2.1==r.2.2.2.1&&(q.2.2.2.2.1==r.2.2.2.2.1&&(q.2.2.2.2.2==r.2.2.2.2.2&&true))))))
def reqMay (q:Rq):Bool:=decide (q.2.1 ≥ 1)&&(decide (q.2.1≤6)&&(eqRq q (onlyOf q)&&(rateB q.2.2.1&&(rateB q.2.2.2.1&&(rateB q.2.2.2.2.1&&(rateB q.2.2.2.2.2&&(rateB q.1.1&&rateB q.1.2)))))))
noncomputable def S87:Summ:=summ [tRq] Bool (fun (q:Rq)=>some (reqMay q)) .bool
theorem ok87:SumOk Tryz.prog 87 S87 :=
 sumq f87.E (fn:=Tryz.f87) (code:=f87.code) f87.sums f87.inl fun (q:Rq) x hx=>by
  obtain rfl:=oJ hx
  refine ⟨0,(f87.eq 0 q).trans ?_⟩
  show _=some (V.bool (reqMay q))
  unfold reqMay
  rw [← show (q.1.1==(onlyOf q).1.1&&(q.1.2==(onlyOf q).1.2&&(q.2.1==(onlyOf q).2.1&&(q.2.2.1==(onlyOf q).2.2.1&&(q.2.2.2.1==(onlyOf q).2.2.2.1&&(q.2.2.2.2.1==(onlyOf q).2.2.2.2.1&&(q.2.2.2.2.2==(onlyOf q).2.2.2.2.2&&true)))))))=eqRq q (onlyOf q) from rfl]
  generalize (q.1.1==(onlyOf q).1.1&&(q.1.2==(onlyOf q).1.2&&(q.2.1==(onlyOf q).2.1&&(q.2.2.1==(onlyOf q).2.2.1&&(q.2.2.2.1==(onlyOf q).2.2.2.1&&(q.2.2.2.2.1==(onlyOf q).2.2.2.2.1&&(q.2.2.2.2.2==(onlyOf q).2.2.2.2.2&&true)))))))=e
  cases decide (q.2.1 ≥ 1) with
  |false=>rfl
  |true =>
   cases decide (q.2.1≤6) with
   |false=>rfl
   |true =>
    cases e with
    |false=>rfl
    |true =>
     cases rateB q.2.2.1 with
     |false=>rfl
     |true =>
      cases rateB q.2.2.2.1 with
      |false=>rfl
      |true =>
       cases rateB q.2.2.2.2.1 with
       |false=>rfl
       |true =>
        cases rateB q.2.2.2.2.2 with
        |false=>rfl
        |true =>
         cases rateB q.1.1 with
         |false=>rfl
         |true=>rfl
theorem beq_0 (a:Int):(0==a:Bool)=(a==0):=by
 rw [Bool.eq_iff_iff,beq_iff_eq,beq_iff_eq]
 exact ⟨fun h=>h.symm,fun h=>h.symm⟩
theorem zr {a:Int} (h:(a==0)=true):rateB a=true:=by
 have:=eq_of_beq h
 subst this
 rfl
theorem ite_bool (a:Bool) (x:Bool):(bif !a then some (V.bool false) else some (V.bool x))=some (.bool (a&&x)):=by cases a <;> rfl
noncomputable def S83:Summ:=S87
theorem ok83:SumOk Tryz.prog 83 S83 :=
 sumq f83.E (fn:=Tryz.f83) (code:=f83.code) f83.sums f83.inl fun (q:Rq) x hx=>by
  obtain rfl:=oJ hx
  obtain ⟨⟨a,b⟩,kd,id,s,d,r⟩:=q
  refine ⟨0,(f83.eq 0 _).trans ?_⟩
  show _=some (V.bool (reqMay ((a,b),kd,id,s,d,r)))
  unfold reqMay eqRq onlyOf
  dsimp only
  by_cases h1:kd=1
  ·subst h1
   simp only [show ((1:Int)==1)=true from rfl,show ((1:Int)==2)=false from rfl,show ((1:Int)==3)=false from rfl,show ((1:Int)==4)=false from rfl,show ((1:Int)==5)=false from rfl,show ((1:Int)==6)=false from rfl,cond_true,cond_false,ite_bool,beq_0,beq_self_eq_true,tA,Bool.and_true,show decide ((1:Int) ≥ 1)=true from rfl,show decide ((1:Int)≤6)=true from rfl,sI,V.bool.injEq]
   cases h_id:id==0 <;> first
    |(simp only [Bool.and_false,fA];done)
    |(simp only [zr h_id,tA,Bool.and_true];done)
    |(simp only [zr h_id,tA,Bool.and_true];cases rateB a <;> cases rateB b <;> cases rateB s <;> cases rateB d <;> cases rateB r <;> rfl)
  by_cases h2:kd=2
  ·subst h2
   simp only [show ((2:Int)==1)=false from rfl,show ((2:Int)==2)=true from rfl,show ((2:Int)==3)=false from rfl,show ((2:Int)==4)=false from rfl,show ((2:Int)==5)=false from rfl,show ((2:Int)==6)=false from rfl,cond_true,cond_false,ite_bool,beq_0,beq_self_eq_true,tA,Bool.and_true,show decide ((2:Int) ≥ 1)=true from rfl,show decide ((2:Int)≤6)=true from rfl,sI,V.bool.injEq]
   cases h_s:s==0 <;> cases h_d:d==0 <;> first
    |(simp only [Bool.and_false,fA];done)
    |(simp only [zr h_s,zr h_d,tA,Bool.and_true];done)
    |(simp only [zr h_s,zr h_d,tA,Bool.and_true];cases rateB a <;> cases rateB b <;> cases rateB id <;> cases rateB r <;> rfl)
  by_cases h3:kd=3
  ·subst h3
   simp only [show ((3:Int)==1)=false from rfl,show ((3:Int)==2)=false from rfl,show ((3:Int)==3)=true from rfl,show ((3:Int)==4)=false from rfl,show ((3:Int)==5)=false from rfl,show ((3:Int)==6)=false from rfl,cond_true,cond_false,ite_bool,beq_0,beq_self_eq_true,tA,Bool.and_true,show decide ((3:Int) ≥ 1)=true from rfl,show decide ((3:Int)≤6)=true from rfl,sI,V.bool.injEq]
   cases h_a:a==0 <;> cases h_b:b==0 <;> cases h_s:s==0 <;> cases h_d:d==0 <;> cases h_r:r==0 <;> first
    |(simp only [Bool.and_false,fA];done)
    |(simp only [zr h_a,zr h_b,zr h_s,zr h_d,zr h_r,tA,Bool.and_true];done)
    |(simp only [zr h_a,zr h_b,zr h_s,zr h_d,zr h_r,tA,Bool.and_true];cases rateB id <;> rfl)
  by_cases h4:kd=4
  ·subst h4
   simp only [show ((4:Int)==1)=false from rfl,show ((4:Int)==2)=false from rfl,show ((4:Int)==3)=false from rfl,show ((4:Int)==4)=true from rfl,show ((4:Int)==5)=false from rfl,show ((4:Int)==6)=false from rfl,cond_true,cond_false,ite_bool,beq_0,beq_self_eq_true,tA,Bool.and_true,show decide ((4:Int) ≥ 1)=true from rfl,show decide ((4:Int)≤6)=true from rfl,sI,V.bool.injEq]
   cases h_a:a==0 <;> cases h_b:b==0 <;> cases h_s:s==0 <;> cases h_d:d==0 <;> cases h_r:r==0 <;> first
    |(simp only [Bool.and_false,fA];done)
    |(simp only [zr h_a,zr h_b,zr h_s,zr h_d,zr h_r,tA,Bool.and_true];done)
    |(simp only [zr h_a,zr h_b,zr h_s,zr h_d,zr h_r,tA,Bool.and_true];cases rateB id <;> rfl)
  by_cases h5:kd=5
  ·subst h5
   simp only [show ((5:Int)==1)=false from rfl,show ((5:Int)==2)=false from rfl,show ((5:Int)==3)=false from rfl,show ((5:Int)==4)=false from rfl,show ((5:Int)==5)=true from rfl,show ((5:Int)==6)=false from rfl,cond_true,cond_false,ite_bool,beq_0,beq_self_eq_true,tA,Bool.and_true,show decide ((5:Int) ≥ 1)=true from rfl,show decide ((5:Int)≤6)=true from rfl,sI,V.bool.injEq]
   cases h_b:b==0 <;> cases h_s:s==0 <;> cases h_d:d==0 <;> cases h_r:r==0 <;> first
    |(simp only [Bool.and_false,fA];done)
    |(simp only [zr h_b,zr h_s,zr h_d,zr h_r,tA,Bool.and_true];done)
    |(simp only [zr h_b,zr h_s,zr h_d,zr h_r,tA,Bool.and_true];cases rateB a <;> cases rateB id <;> rfl)
  by_cases h6:kd=6
  ·subst h6
   simp only [show ((6:Int)==1)=false from rfl,show ((6:Int)==2)=false from rfl,show ((6:Int)==3)=false from rfl,show ((6:Int)==4)=false from rfl,show ((6:Int)==5)=false from rfl,show ((6:Int)==6)=true from rfl,cond_true,cond_false,ite_bool,beq_0,beq_self_eq_true,tA,Bool.and_true,show decide ((6:Int) ≥ 1)=true from rfl,show decide ((6:Int)≤6)=true from rfl,sI,V.bool.injEq]
   cases h_b:b==0 <;> cases h_id:id==0 <;> cases h_s:s==0 <;> cases h_d:d==0 <;> cases h_r:r==0 <;> first
    |(simp only [Bool.and_false,fA];done)
    |(simp only [zr h_b,zr h_id,zr h_s,zr h_d,zr h_r,tA,Bool.and_true];done)
    |(simp only [zr h_b,zr h_id,zr h_s,zr h_d,zr h_r,tA,Bool.and_true];cases rateB a <;> rfl)
  have e:∀ j:Int,kd ≠ j→(kd==j)=false:=fun j h=>beq_eq_false_iff_ne.2 h
  simp only [e 1 h1,e 2 h2,e 3 h3,e 4 h4,e 5 h5,e 6 h6,cond_false]
  by_cases h7:kd ≥ 1
  ·rw [dF (by omega:¬ kd≤6),fA,Bool.and_false]
  ·rw [dF h7,fA]
def cutsRule (b:Bk) (q:Rq):Bool:=(slicesQ b q.1 q.id).2==0&&decide (((slicesQ b q.1 q.id).1.length:Int)>b.segs)
noncomputable def S146:Summ:=summ [tBk,tRq] (Bool×Int) (fun (d:Bk×Rq)=>chk (pcsSmall d.1) (some (cutsRule d.1 d.2,8))) (fun x=>encV tRu x)
theorem ok146:SumOk Tryz.prog 146 S146 :=
 sumq f146.E (fn:=Tryz.f146) (code:=f146.code) f146.sums f146.inl fun (d:Bk×Rq) x hx=>by
  obtain ⟨b,q⟩:=d
  obtain ⟨hs,hx⟩:=chk_some hx
  obtain rfl:=oJ hx
  have hs:pcsSmall b=true:=hs
  refine ⟨0,(f146.eq 0 b q).trans ?_⟩
  rw [hs,kT,bS]
  show _=some (V.agg [.bool (cutsRule b q),.int .i64 8])
  unfold cutsRule Rq.id
  cases (slicesQ b q.1 q.2.2.1).2==0 with
  |false=>rfl
  |true=>rw [cT,tA];rfl
def fewSegs (b:Bk) (q:Rq):Bool:=decide (((slicesQ b q.1 q.id).1.length:Int)≤b.segs)
noncomputable def S154:Summ:=summ [tBk,tRq] Bool (fun (d:Bk×Rq)=>chk (pcsSmall d.1) (some (fewSegs d.1 d.2))) .bool
theorem ok154:SumOk Tryz.prog 154 S154 :=
 sumq f154.E (fn:=Tryz.f154) (code:=f154.code) f154.sums f154.inl fun (d:Bk×Rq) x hx=>by
  obtain ⟨b,q⟩:=d
  obtain ⟨hs,hx⟩:=chk_some hx
  obtain rfl:=oJ hx
  have hs:pcsSmall b=true:=hs
  refine ⟨0,(f154.eq 0 b q).trans ?_⟩
  rw [hs,kT,bS]
  rfl
def inTime (b:Bk) (q:Rq):Bool:=spanMay q.1&&decide (q.1.1 ≥ b.now)
noncomputable def S153:Summ:=summ [tBk,tRq] Bool (fun (d:Bk×Rq)=>some (inTime d.1 d.2)) .bool
theorem ok153:SumOk Tryz.prog 153 S153 :=
 sumq f153.E (fn:=Tryz.f153) (code:=f153.code) f153.sums f153.inl fun (d:Bk×Rq) x hx=>by
  obtain ⟨b,q⟩:=d
  obtain rfl:=oJ hx
  refine ⟨0,(f153.eq 0 b q).trans ?_⟩
  show _=some (V.bool (inTime b q))
  unfold inTime Bk.now
  cases spanMay q.1 <;> rfl
def ownRules (b:Bk) (owner:Int) (id:Int):List (Bool×Int):=[(!(getQ b id).2.1,5),((getQ b id).1.owner != owner,6)]
noncomputable def S147:Summ:=summ [tBk,tI,tRq] (List (Bool×Int)) (fun (d:Bk×(Int×Rq))=>chk (pcsSmall d.1) (some (ownRules d.1 d.2.1 d.2.2.id))) (.own tRu)
theorem ok147:SumOk Tryz.prog 147 S147 :=
 sumq f147.E (fn:=Tryz.f147) (code:=f147.code) f147.sums f147.inl fun (d:Bk×(Int×Rq)) x hx=>by
  obtain ⟨b,owner,q⟩:=d
  obtain ⟨hs,hx⟩:=chk_some hx
  obtain rfl:=oJ hx
  have hs:pcsSmall b=true:=hs
  refine ⟨0,(f147.eq 0 b owner q).trans ?_⟩
  rw [hs,kT,bS]
  rfl
def ownCode (b:Bk) (owner id:Int):Int:=bif decide (placeOf b id<0) then 5 else (match b.list[(placeOf b id).toNat]? with
 |some r=>bif r.owner != owner then 6 else 0
 |none=>0)
noncomputable def S90:Summ:=summ [tBk,tI,tI] Int (fun (d:Bk×(Int×Int))=>chk (decide (d.1.list.length<4611686018427387904)) (some (ownCode d.1 d.2.1 d.2.2))) (.int .i64)
theorem ok90:SumOk Tryz.prog 90 S90 :=
 sumq f90.E (fn:=Tryz.f90) (code:=f90.code) f90.sums f90.inl fun (d:Bk×(Int×Int)) x hx=>by
  obtain ⟨b,owner,id⟩:=d
  obtain ⟨hs,hx⟩:=chk_some hx
  obtain rfl:=oJ hx
  have hs:b.list.length<4611686018427387904:=by simpa using hs
  refine ⟨0,(f90.eq 0 b owner id).trans ?_⟩
  rw [dT hs,kT,bS]
  show _=some (V.int .i64 (ownCode b owner id))
  unfold ownCode
  rcases place_spec b id with ⟨h1,h2⟩|⟨j,r,h1,h2,h3⟩
  ·rw [h1,show decide ((-1:Int)<0)=true from rfl,cT,cT]
  ·have h2':(b.2.2.2.2)[j]? = some r:=h2
   rw [h1,dF (by omega:¬ ((j:Int)<0)),cF,cF,idx_in h2',kT,rd_some (t:=tRs) h2',Int.toNat_natCast,h2]
   show _=some (V.int .i64 (bif r.2.2.1 != owner then 6 else 0))
   cases r.2.2.1 != owner <;> rfl
end
section
set_option maxRecDepth 100000
noncomputable def f34.E (k:Nat):Env:=mkEnv tt [(82,S82),(83,S83),(84,S84),(121,S121),(144,S144),(145,S145),(146,S146),(147,S147),(148,S148)] [(85,Tryz.f85)] [] [] k
noncomputable def f34.code:Go.Code:=cd Tryz.f34
theorem f34.eq (k:Nat) (x0:(Int×List (eL)) ×
 Int×Int×Int×List (eR)) (x1:Int) (x2:(Int×Int)×Int×Int×eL):evFn (f34.E k) 9 34 Tryz.f34 (encL [(.pair (.pair qI (.list qL)) (.pair qI (.pair qI (.pair qI (.list qR))))),qI,(.pair qS (.pair qI (.pair qI qL)))] (x0,x1,x2)) =
 (chk (pcsSmall x0) (some (bookMayB x0))).bind (fun y0=>bif !y0 then (some (.tup [(.int .i64 0),(.int .i64 2000)])) else (bif decide (x1<(0:Int)) then (some (.tup [(.int .i64 0),(.int .i64 2000)])) else (bif decide (x1 ≥ (4:Int)) then (some (.tup [(.int .i64 0),(.int .i64 2000)])) else (bif !reqMay x2 then (some (.tup [(.int .i64 0),(.int .i64 2000)])) else (bif x2.2.1==(1:Int) then (bif hasV x0.1.1 x2.2.2.2.1 then (bif hasV x0.1.1 x2.2.2.2.2.1 then (bif decide ((↑(x0.2.2.2.2.length):Int) ≥ (8:Int)) then ((chk (pcsSmall x0) (some ((cutsRule x0 x2,(8:Int))))).bind (fun y1=>some (.tup [(.int .i64 (firstOf [(!x2.2.2.2.1 != x2.2.2.2.2.1,(2:Int)),(spanRule x0 x2,(3:Int)),(x2.2.2.2.2.2==(0:Int),(4:Int)),(true,(7:Int)),y1])),(.int .i64 0)]))) else ((chk (pcsSmall x0) (some ((cutsRule x0 x2,(8:Int))))).bind (fun y1=>some (.tup [(.int .i64 (firstOf [(!x2.2.2.2.1 != x2.2.2.2.2.1,(2:Int)),(spanRule x0 x2,(3:Int)),(x2.2.2.2.2.2==(0:Int),(4:Int)),(decide (x0.2.2.2.1>(1048576:Int)),(7:Int)),y1])),(.int .i64 0)])))) else (bif decide ((↑(x0.2.2.2.2.length):Int) ≥ (8:Int)) then ((chk (pcsSmall x0) (some ((cutsRule x0 x2,(8:Int))))).bind (fun y1=>some (.tup [(.int .i64 (firstOf [(!false,(2:Int)),(spanRule x0 x2,(3:Int)),(x2.2.2.2.2.2==(0:Int),(4:Int)),(true,(7:Int)),y1])),(.int .i64 0)]))) else ((chk (pcsSmall x0) (some ((cutsRule x0 x2,(8:Int))))).bind (fun y1=>some (.tup [(.int .i64 (firstOf [(!false,(2:Int)),(spanRule x0 x2,(3:Int)),(x2.2.2.2.2.2==(0:Int),(4:Int)),(decide (x0.2.2.2.1>(1048576:Int)),(7:Int)),y1])),(.int .i64 0)]))))) else (bif decide ((↑(x0.2.2.2.2.length):Int) ≥ (8:Int)) then ((chk (pcsSmall x0) (some ((cutsRule x0 x2,(8:Int))))).bind (fun y1=>some (.tup [(.int .i64 (firstOf [(!false,(2:Int)),(spanRule x0 x2,(3:Int)),(x2.2.2.2.2.2==(0:Int),(4:Int)),(true,(7:Int)),y1])),(.int .i64 0)]))) else ((chk (pcsSmall x0) (some ((cutsRule x0 x2,(8:Int))))).bind (fun y1=>some (.tup [(.int .i64 (firstOf [(!false,(2:Int)),(spanRule x0 x2,(3:Int)),(x2.2.2.2.2.2==(0:Int),(4:Int)),(decide (x0.2.2.2.1>(1048576:Int)),(7:Int)),y1])),(.int .i64 0)]))))) else (bif x2.2.1==(2:Int) then ((chk (pcsSmall x0) (some (ownRules x0 x1 (Rq.id x2)))).bind (fun y1=>(chk (pcsSmall x0) (some ((cutsRule x0 x2,(8:Int))))).bind (fun y2=>chk (decide ((y1++[(spanRule x0 x2,(3:Int)),(x2.2.2.2.2.2==(0:Int),(4:Int)),y2]).length*16≤140737488355328)) ((chk (decide ((y1++[(spanRule x0 x2,(3:Int)),(x2.2.2.2.2.2==(0:Int),(4:Int)),y2]).length<4611686018427387904)) (some (firstOf (y1++[(spanRule x0 x2,(3:Int)),(x2.2.2.2.2.2==(0:Int),(4:Int)),y2])))).bind (fun y3=>some (.tup [(.int .i64 y3),(.int .i64 0)])))))) else (bif x2.2.1==(5:Int) then (some (.tup [(.int .i64 (firstOf [(!hasL x0.1 x2.2.2.1,(9:Int)),(decide (x2.1.1 ≥ (4096:Int)),(3:Int))])),(.int .i64 0)])) else (bif x2.2.1==(6:Int) then (bif decide (x2.1.1<x0.2.2.1) then (some (.tup [(.int .i64 (firstOf [(true,(3:Int))])),(.int .i64 0)])) else (some (.tup [(.int .i64 (firstOf [(decide (x2.1.1>(4096:Int)),(3:Int))])),(.int .i64 0)]))) else ((chk (pcsSmall x0) (some (ownRules x0 x1 (Rq.id x2)))).bind (fun y1=>(chk (decide (y1.length<4611686018427387904)) (some (firstOf y1))).bind (fun y2=>some (.tup [(.int .i64 y2),(.int .i64 0)])))))))))))):=by kernel_rfl
theorem f34.inl (k:Nat):InlOk Tryz.prog (f34.E k):=(inl_cons (by kernel_rfl) (by kernel_rfl) inl_nil)
theorem f34.sums (k:Nat):SumsOk Tryz.prog (f34.E k):=(sums_cons ok82 (sums_cons ok83 (sums_cons ok84 (sums_cons ok121 (sums_cons ok144 (sums_cons ok145 (sums_cons ok146 (sums_cons ok147 (sums_cons ok148 sums_nil)))))))))
noncomputable def f35.E (k:Nat):Env:=mkEnv tt [(86,S86),(87,S87),(90,S90),(65,S65),(153,S153),(154,S154)] [(88,Tryz.f88),(89,Tryz.f89)] [] [] k
noncomputable def f35.code:Go.Code:=cd Tryz.f35
theorem f35.eq (k:Nat) (x0:(Int×List (eL)) ×
 Int×Int×Int×List (eR)) (x1:Int) (x2:(Int×Int)×Int×Int×eL):evFn (f35.E k) 9 35 Tryz.f35 (encL [(.pair (.pair qI (.list qL)) (.pair qI (.pair qI (.pair qI (.list qR))))),qI,(.pair qS (.pair qI (.pair qI qL)))] (x0,x1,x2)) =
 (chk (pcsSmall x0) (some (bookMayB x0))).bind (fun y0=>bif !y0 then (some (.tup [(.int .i64 0),(.int .i64 2000)])) else (bif decide (x1<(0:Int)) then (some (.tup [(.int .i64 0),(.int .i64 2000)])) else (bif decide (x1 ≥ (4:Int)) then (some (.tup [(.int .i64 0),(.int .i64 2000)])) else (bif !reqMay x2 then (some (.tup [(.int .i64 0),(.int .i64 2000)])) else (bif x2.2.1==(1:Int) then (bif !hasV x0.1.1 x2.2.2.2.1 then (some (.tup [(.int .i64 2),(.int .i64 0)])) else (bif !hasV x0.1.1 x2.2.2.2.2.1 then (some (.tup [(.int .i64 2),(.int .i64 0)])) else (bif x2.2.2.2.1==x2.2.2.2.2.1 then (some (.tup [(.int .i64 2),(.int .i64 0)])) else (bif !inTime x0 x2 then (some (.tup [(.int .i64 3),(.int .i64 0)])) else (bif x2.2.2.2.2.2==(0:Int) then (some (.tup [(.int .i64 4),(.int .i64 0)])) else (bif decide ((↑(x0.2.2.2.2.length):Int) ≥ (8:Int)) then (some (.tup [(.int .i64 7),(.int .i64 0)])) else (bif decide (x0.2.2.2.1>(1048576:Int)) then (some (.tup [(.int .i64 7),(.int .i64 0)])) else ((chk (pcsSmall x0) (some (fewSegs x0 x2))).bind (fun y1=>bif !y1 then (some (.tup [(.int .i64 8),(.int .i64 0)])) else (some (.tup [(.int .i64 0),(.int .i64 0)]))))))))))) else (bif x2.2.1==(2:Int) then ((chk (decide ((Bk.list x0).length<4611686018427387904)) (some (ownCode x0 x1 x2.2.2.1))).bind (fun y1=>bif y1 != (0:Int) then (some (.tup [(.int .i64 y1),(.int .i64 0)])) else (bif !inTime x0 x2 then (some (.tup [(.int .i64 3),(.int .i64 0)])) else (bif x2.2.2.2.2.2==(0:Int) then (some (.tup [(.int .i64 4),(.int .i64 0)])) else ((chk (pcsSmall x0) (some (fewSegs x0 x2))).bind (fun y2=>bif !y2 then (some (.tup [(.int .i64 8),(.int .i64 0)])) else (some (.tup [(.int .i64 0),(.int .i64 0)])))))))) else (bif x2.2.1==(3:Int) then (bif x2.2.1==(3:Int) then ((chk (decide ((Bk.list x0).length<4611686018427387904)) (some (ownCode x0 x1 x2.2.2.1))).bind (fun y1=>some (.tup [(.int .i64 y1),(.int .i64 0)]))) else (bif x2.2.1==(5:Int) then (bif decide (x2.2.2.1 ≥ (↑(x0.1.2.length):Int)) then (some (.tup [(.int .i64 9),(.int .i64 0)])) else (bif decide (x2.1.1 ≥ (4096:Int)) then (some (.tup [(.int .i64 3),(.int .i64 0)])) else (some (.tup [(.int .i64 0),(.int .i64 0)])))) else (bif decide (x2.1.1<x0.2.2.1) then (some (.tup [(.int .i64 3),(.int .i64 0)])) else (bif decide (x2.1.1>(4096:Int)) then (some (.tup [(.int .i64 3),(.int .i64 0)])) else (some (.tup [(.int .i64 0),(.int .i64 0)])))))) else (bif x2.2.1==(4:Int) then ((chk (decide ((Bk.list x0).length<4611686018427387904)) (some (ownCode x0 x1 x2.2.2.1))).bind (fun y1=>some (.tup [(.int .i64 y1),(.int .i64 0)]))) else (bif x2.2.1==(5:Int) then (bif decide (x2.2.2.1 ≥ (↑(x0.1.2.length):Int)) then (some (.tup [(.int .i64 9),(.int .i64 0)])) else (bif decide (x2.1.1 ≥ (4096:Int)) then (some (.tup [(.int .i64 3),(.int .i64 0)])) else (some (.tup [(.int .i64 0),(.int .i64 0)])))) else (bif decide (x2.1.1<x0.2.2.1) then (some (.tup [(.int .i64 3),(.int .i64 0)])) else (bif decide (x2.1.1>(4096:Int)) then (some (.tup [(.int .i64 3),(.int .i64 0)])) else (some (.tup [(.int .i64 0),(.int .i64 0)]))))))))))))):=by kernel_rfl
theorem f35.inl (k:Nat):InlOk Tryz.prog (f35.E k):=(inl_cons (by kernel_rfl) (by kernel_rfl) (inl_cons (by kernel_rfl) (by kernel_rfl) inl_nil))
theorem f35.sums (k:Nat):SumsOk Tryz.prog (f35.E k):=(sums_cons ok86 (sums_cons ok87 (sums_cons ok90 (sums_cons ok65 (sums_cons ok153 (sums_cons ok154 sums_nil))))))
end
section
def codeR (b:Bk) (q:Rq):Int :=
 bif !hasV b.1.1 q.2.2.2.1 then 2 else bif !hasV b.1.1 q.2.2.2.2.1 then 2 else bif q.2.2.2.1==q.2.2.2.2.1 then 2 else bif !inTime b q then 3 else bif q.2.2.2.2.2==0 then 4 else
 bif decide ((b.2.2.2.2.length:Int) ≥ 8) then 7 else bif decide (b.2.2.2.1>1048576) then 7 else bif !fewSegs b q then 8 else 0
def codeM (b:Bk) (o:Int) (q:Rq):Int :=
 bif ownCode b o q.2.2.1 != 0 then ownCode b o q.2.2.1 else bif !inTime b q then 3 else bif q.2.2.2.2.2==0 then 4 else bif !fewSegs b q then 8 else 0
def codeL (b:Bk) (q:Rq):Int:=bif decide (q.2.2.1 ≥ (b.1.2.length:Int)) then 9 else bif decide (q.1.1 ≥ 4096) then 3 else 0
def codeA (b:Bk) (q:Rq):Int:=bif decide (q.1.1<b.2.2.1) then 3 else bif decide (q.1.1>4096) then 3 else 0
def codeOf (b:Bk) (o:Int) (q:Rq):Int :=
 bif q.2.1==1 then codeR b q else bif q.2.1==2 then codeM b o q else bif q.2.1==3 then ownCode b o q.2.2.1 else bif q.2.1==4 then ownCode b o q.2.2.1 else bif q.2.1==5 then codeL b q else codeA b q
def lookQ (b:Bk) (o:Int) (q:Rq):Int×Int:=bif bookMayB b&&(!decide (o<0)&&(!decide (o ≥ 4)&&reqMay q)) then (codeOf b o q,0) else (0,2000)
theorem look_book {b:Bk} {o:Int} {q:Rq} (h:(lookQ b o q).2=0):bookMayB b=true∧(0≤o∧o<4)∧reqMay q=true:=by
 unfold lookQ at h
 cases hb:bookMayB b&&(!decide (o<0)&&(!decide (o ≥ 4)&&reqMay q)) with
 |false=>rw [hb] at h;exact absurd (show (2000:Int)=0 from h) (by decide)
 |true =>
  simp only [bA,Bool.not_eq_true',decide_eq_false_iff_not] at hb
  exact ⟨hb.1,by omega,hb.2.2.2⟩
noncomputable def S35:Summ:=summ [tBk,tI,tRq] (Int×Int) (fun (d:Bk×(Int×Rq))=>chk (pcsSmall d.1) (some (lookQ d.1 d.2.1 d.2.2))) resII
theorem ok35:SumOk Tryz.prog 35 S35 :=
 sumq f35.E (fn:=Tryz.f35) (code:=f35.code) f35.sums f35.inl fun (d:Bk×(Int×Rq)) x hx=>by
  obtain ⟨b,o,q⟩:=d
  obtain ⟨hs,hx⟩:=chk_some hx
  obtain rfl:=oJ hx
  have hs:pcsSmall b=true:=hs
  refine ⟨0,(f35.eq 0 b o q).trans ?_⟩
  rw [hs,kT,kT,bS]
  show _=some (resII (lookQ b o q))
  unfold lookQ
  cases hb:bookMayB b with
  |false=>rfl
  |true =>
   cases decide (o<0) with
   |true=>rfl
   |false =>
    cases decide (o ≥ 4) with
    |true=>rfl
    |false =>
     cases reqMay q with
     |false=>rfl
     |true =>
      have hll:=(form_parts (book_ok hb).1.1).2.2.2.2
      rw [dT (show b.list.length<4611686018427387904 by omega)]
      simp only [nT,nF,cond_true,cond_false,Bool.and_self,kT,bS]
      unfold codeOf
      cases q.2.1==1 with
      |true =>
       unfold codeR
       cases hasV b.1.1 q.2.2.2.1 <;> cases hasV b.1.1 q.2.2.2.2.1 <;> cases q.2.2.2.1==q.2.2.2.2.1 <;> cases inTime b q <;> cases q.2.2.2.2.2==0 <;> cases decide ((b.2.2.2.2.length:Int) ≥ 8) <;> cases decide (b.2.2.2.1>1048576) <;> cases fewSegs b q <;> rfl
      |false =>
       cases q.2.1==2 with
       |true =>
        unfold codeM
        cases ownCode b o q.2.2.1 != 0 <;> cases inTime b q <;> cases q.2.2.2.2.2==0 <;> cases fewSegs b q <;> rfl
       |false =>
        cases q.2.1==3 with
        |true=>rfl
        |false =>
         cases q.2.1==4 with
         |true=>rfl
         |false =>
          cases q.2.1==5 with
          |true =>
           unfold codeL
           cases decide (q.2.2.1 ≥ (b.1.2.length:Int)) <;> cases decide (q.1.1 ≥ 4096) <;> rfl
          |false =>
           unfold codeA
           cases decide (q.1.1<b.2.2.1) <;> cases decide (q.1.1>4096) <;> rfl
theorem span_rule (b:Bk) (q:Rq):spanRule b q=!inTime b q:=by
 unfold spanRule inTime
 rw [Bool.not_and,show decide (q.1.1<b.now)=!decide (q.1.1 ≥ b.now) by rw [← decide_not];exact decide_eq_decide.2 (by omega)]
theorem cuts_rule {b:Bk} {q:Rq} (hb:bookMayB b=true) (ht:inTime b q=true):cutsRule b q=!fewSegs b q:=by
 unfold inTime at ht
 rw [bA] at ht
 unfold cutsRule fewSegs
 rw [show (slicesQ b q.1 q.id).2=0 by unfold slicesQ;rw [hb,ht.1];rfl,show ((0:Int)==0)=true from rfl,tA,← decide_not]
 exact decide_eq_decide.2 (by omega)
theorem own_rules {b:Bk} (hb:bookMayB b=true) (o id:Int):(ownRules b o id=[(true,5),((getQ b id).1.owner != o,6)]∧ownCode b o id=5)∨∃ r,ownRules b o id=[(false,5),(r.owner != o,6)]∧ownCode b o id=(bif r.owner != o then 6 else 0)∧getQ b id=(r,true,0)∧r∈b.list∧r.id=id:=by
 unfold ownRules ownCode getQ
 rw [hb,cond_true]
 rcases place_spec b id with ⟨h1,h2⟩|⟨j,r,h1,h2,h3⟩
 ·refine .inl ⟨?_,by rw [h1];rfl⟩
  rw [h1,show decide ((-1:Int)<0)=true from rfl]
  cases b.list[((-1:Int)).toNat]? <;> rfl
 ·refine .inr ⟨r,?_⟩
  rw [h1,dF (by omega:¬ ((j:Int)<0)),Int.toNat_natCast,h2]
  exact ⟨rfl,rfl,rfl,List.mem_of_getElem? h2,h3⟩
theorem codeR_rules {b:Bk} {q:Rq} (hb:bookMayB b=true) (full:Bool) (hf:full=(decide ((b.2.2.2.2.length:Int) ≥ 8) || decide (b.2.2.2.1>1048576))) (na:Bool) (ha:na=!(hasV b.1.1 q.2.2.2.1&&(hasV b.1.1 q.2.2.2.2.1 && !(q.2.2.2.1==q.2.2.2.2.1)))) :
  firstOf [(na,2),(spanRule b q,3),(q.2.2.2.2.2==0,4),(full,7),(cutsRule b q,8)]=codeR b q:=by
 subst hf;subst ha
 rw [span_rule]
 unfold codeR
 cases ht:inTime b q with
 |false=>cases hasV b.1.1 q.2.2.2.1 <;> cases hasV b.1.1 q.2.2.2.2.1 <;> cases q.2.2.2.1==q.2.2.2.2.1 <;> rfl
 |true =>
  rw [cuts_rule hb ht]
  cases hasV b.1.1 q.2.2.2.1 <;> cases hasV b.1.1 q.2.2.2.2.1 <;> cases q.2.2.2.1==q.2.2.2.2.1 <;> cases q.2.2.2.2.2==0 <;> cases decide ((b.2.2.2.2.length:Int) ≥ 8) <;> cases decide (b.2.2.2.1>1048576) <;> cases fewSegs b q <;> rfl
theorem codeM_rules {b:Bk} {q:Rq} (hb:bookMayB b=true) (o:Int):firstOf (ownRules b o q.2.2.1++[(spanRule b q,3),(q.2.2.2.2.2==0,4),(cutsRule b q,8)])=codeM b o q:=by
 rw [span_rule]
 unfold codeM
 rcases own_rules hb o q.2.2.1 with ⟨h1,h2⟩|⟨r,h1,h2,_⟩
 ·rw [h1,h2];rfl
 ·rw [h1,h2]
  cases ht:inTime b q with
  |false=>cases r.owner != o <;> rfl
  |true =>
   rw [cuts_rule hb ht]
   cases r.owner != o <;> cases q.2.2.2.2.2==0 <;> cases fewSegs b q <;> rfl
theorem own_first {b:Bk} (hb:bookMayB b=true) (o id:Int):firstOf (ownRules b o id)=ownCode b o id:=by
 rcases own_rules hb o id with ⟨h1,h2⟩|⟨r,h1,h2,_⟩
 ·rw [h1,h2];rfl
 ·rw [h1,h2];cases r.owner != o <;> rfl
theorem own_len (b:Bk) (o id:Int):(ownRules b o id).length=2:=rfl
theorem req_parts {q:Rq} (h:reqMay q=true):(1≤q.2.1∧q.2.1≤6)∧(0≤q.2.2.1∧0≤q.2.2.2.1∧0≤q.2.2.2.2.1∧0≤q.2.2.2.2.2∧0≤q.1.1∧0≤q.1.2)∧rateB q.2.2.2.2.2=true:=by
 unfold reqMay at h
 simp only [bA,dE] at h
 obtain ⟨h1,h2,_,h3,h4,h5,h6,h7,h8⟩:=h
 have r:∀ {x:Int},rateB x=true→0≤x:=fun {x} h=>(oD (p:=0≤x∧x≤maxRate) h).1
 exact ⟨⟨h1,h2⟩,⟨r h3,r h4,r h5,r h6,r h7,r h8⟩,h6⟩
noncomputable def S34:Summ:=S35
theorem ok34:SumOk Tryz.prog 34 S34 :=
 sumq f34.E (fn:=Tryz.f34) (code:=f34.code) f34.sums f34.inl fun (d:Bk×(Int×Rq)) x hx=>by
  obtain ⟨b,o,q⟩:=d
  obtain ⟨hs,hx⟩:=chk_some hx
  obtain rfl:=oJ hx
  have hs:pcsSmall b=true:=hs
  refine ⟨0,(f34.eq 0 b o q).trans ?_⟩
  simp only [hs,kT,bS]
  show _=some (resII (lookQ b o q))
  unfold lookQ
  cases hb:bookMayB b with
  |false=>rfl
  |true =>
   cases decide (o<0) with
   |true=>rfl
   |false =>
    cases decide (o ≥ 4) with
    |true=>rfl
    |false =>
     cases hq:reqMay q with
     |false=>rfl
     |true =>
      obtain ⟨hk,hpos,_⟩:=req_parts hq
      simp only [nT,nF,cond_true,cond_false,Bool.and_self]
      have e1:decide ((ownRules b o q.id++[(spanRule b q,3),(q.2.2.2.2.2==0,4),(cutsRule b q,8)]).length*16≤140737488355328)=true:=by rw [lA,own_len];rfl
      have e2:decide ((ownRules b o q.id++[(spanRule b q,3),(q.2.2.2.2.2==0,4),(cutsRule b q,8)]).length<4611686018427387904)=true:=by rw [lA,own_len];rfl
      have e3:decide ((ownRules b o q.id).length<4611686018427387904)=true:=by rw [own_len];rfl
      rw [e1,e2,e3,kT,kT,kT,bS,bS]
      unfold Rq.id
      rw [codeM_rules hb,own_first hb]
      unfold codeOf
      cases h1:q.2.1==1 with
      |true =>
       rw [cond_true,cond_true]
       cases h2:hasV b.1.1 q.2.2.2.1 with
       |false =>
        rw [cond_false]
        cases h4:decide ((b.2.2.2.2.length:Int) ≥ 8) with
        |false=>rw [cond_false,codeR_rules hb _ (by rw [h4];rfl) true (by rw [h2];rfl)]
        |true=>rw [cond_true,codeR_rules hb true (by rw [h4];rfl) true (by rw [h2];rfl)]
       |true =>
        rw [cond_true]
        cases h3:hasV b.1.1 q.2.2.2.2.1 with
        |false =>
         rw [cond_false]
         cases h4:decide ((b.2.2.2.2.length:Int) ≥ 8) with
         |false=>rw [cond_false,codeR_rules hb _ (by rw [h4];rfl) true (by rw [h2,h3];rfl)]
         |true=>rw [cond_true,codeR_rules hb true (by rw [h4];rfl) true (by rw [h2,h3];rfl)]
        |true =>
         rw [cond_true]
         cases h4:decide ((b.2.2.2.2.length:Int) ≥ 8) with
         |false=>rw [cond_false,codeR_rules hb _ (by rw [h4];rfl) (!(q.2.2.2.1 != q.2.2.2.2.1)) (by rw [h2,h3];rfl)]
         |true=>rw [cond_true,codeR_rules hb true (by rw [h4];rfl) (!(q.2.2.2.1 != q.2.2.2.2.1)) (by rw [h2,h3];rfl)]
      |false =>
       cases h2:q.2.1==2 with
       |true=>rfl
       |false =>
        cases h5:q.2.1==5 with
        |true =>
         have e5:q.2.1=5:=by simpa using h5
         rw [e5]
         have hL:(!hasL b.1 q.2.2.1)=decide (q.2.2.1 ≥ (b.1.2.length:Int)):=by
          unfold hasL
          rw [← decide_not]
          exact decide_eq_decide.2 (by omega)
         rw [hL]
         show some (V.tup [.int .i64 (firstOf [(decide (q.2.2.1 ≥ (b.1.2.length:Int)),9),(decide (q.1.1 ≥ 4096),3)]),.int .i64 0])=some (resII (codeL b q,0))
         unfold codeL
         cases decide (q.2.2.1 ≥ (b.1.2.length:Int)) <;> cases decide (q.1.1 ≥ 4096) <;> rfl
        |false =>
         cases h6:q.2.1==6 with
         |true =>
          have e6:q.2.1=6:=by simpa using h6
          rw [e6]
          show _=some (resII (codeA b q,0))
          unfold codeA
          cases decide (q.1.1<b.2.2.1) <;> cases decide (q.1.1>4096) <;> rfl
         |false =>
          rw [beq_eq_false_iff_ne] at h1 h2 h5 h6
          cases h3:q.2.1==3 with
          |true=>rfl
          |false =>
           have e4:q.2.1=4:=by rw [beq_eq_false_iff_ne] at h3;omega
           rw [e4]
           rfl
end
section
set_option maxRecDepth 100000
set_option linter.unusedVariables false
end
section
set_option linter.unusedVariables false
end
section
set_option maxRecDepth 100000
set_option linter.unusedVariables false
end
section
set_option linter.unusedVariables false
end
section
set_option maxRecDepth 100000
noncomputable def f101.E (k:Nat):Env:=mkEnv tt [(164,S164),(165,S165)] [] [] [] k
noncomputable def f101.code:Go.Code:=cd Tryz.f101
theorem f101.eq (k:Nat) (x0:(Int×List (eL)) ×
 Int×Int×Int×List (eR)) (x1:(Int×Int)×Int×Int×eL):evFn (f101.E k) 9 101 Tryz.f101 (encL [(.pair (.pair qI (.list qL)) (.pair qI (.pair qI (.pair qI (.list qR))))),(.pair qS (.pair qI (.pair qI qL)))] (x0,x1)) =
 bif x1.2.1==(2:Int) then ((chk (pcsSmall x0) (some (getQ x0 x1.2.2.1))).bind (fun y0=>both (both ((chk (pcsSmall x0) (some (slicesQ x0 x1.1 x1.2.2.1))).bind (fun y1=>some (.agg [(.int .i64 x1.1.1),(.int .i64 x1.1.2),(.int .i64 x1.2.1),(.int .i64 x1.2.2.1),(.int .i64 y0.1.2.2.2.1),(.int .i64 y0.1.2.2.2.2.1),(.int .i64 x1.2.2.2.2.2),(.own qG y1.1)]))) ((chk (pcsSmall x0) (some (slicesQ x0 x1.1 x1.2.2.1))).bind (fun y1=>some (.agg [(.int .i64 x1.1.1),(.int .i64 x1.1.2),(.int .i64 x1.2.1),(.int .i64 x1.2.2.1),(.int .i64 y0.1.2.2.2.1),(.int .i64 y0.1.2.2.2.2.1),(.int .i64 x1.2.2.2.2.2),(.own qG y1.1)])))) ((chk (pcsSmall x0) (some (slicesQ x0 x1.1 x1.2.2.1))).bind (fun y1=>some (.agg [(.int .i64 x1.1.1),(.int .i64 x1.1.2),(.int .i64 x1.2.1),(.int .i64 x1.2.2.1),(.int .i64 y0.1.2.2.2.1),(.int .i64 y0.1.2.2.2.2.1),(.int .i64 x1.2.2.2.2.2),(.own qG y1.1)]))))) else ((chk (pcsSmall x0) (some (slicesQ x0 x1.1 x1.2.2.1))).bind (fun y0=>some (.agg [(.int .i64 x1.1.1),(.int .i64 x1.1.2),(.int .i64 x1.2.1),(.int .i64 x1.2.2.1),(.int .i64 x1.2.2.2.1),(.int .i64 x1.2.2.2.2.1),(.int .i64 x1.2.2.2.2.2),(.own qG y0.1)]))):=by kernel_rfl
theorem f101.inl (k:Nat):InlOk Tryz.prog (f101.E k):=inl_nil
theorem f101.sums (k:Nat):SumsOk Tryz.prog (f101.E k):=(sums_cons ok164 (sums_cons ok165 sums_nil))
end
section
def wishOf (b:Bk) (q:Rq):Int×(Int×List Sg):=(bif q.2.1==2 then (getQ b q.2.2.1).1.src else q.2.2.2.1,bif q.2.1==2 then (getQ b q.2.2.1).1.dst else q.2.2.2.2.1,(slicesQ b q.1 q.2.2.1).1)
abbrev Ws:=(Int×Int)×(Int×(Int×(Int×(Int×(Int×List Sg)))))
def wishW (b:Bk) (q:Rq):Ws:=(q.1,q.2.1,q.2.2.1,(wishOf b q).1,(wishOf b q).2.1,q.2.2.2.2.2,(wishOf b q).2.2)
@[reducible] def wsV (w:Ws):V:=.agg [.int .i64 w.1.1,.int .i64 w.1.2,.int .i64 w.2.1,.int .i64 w.2.2.1,.int .i64 w.2.2.2.1,.int .i64 w.2.2.2.2.1,.int .i64 w.2.2.2.2.2.1,.own tSg w.2.2.2.2.2.2]
noncomputable def S101:Summ:=summ [tBk,tRq] Ws (fun (d:Bk×Rq)=>chk (pcsSmall d.1) (some (wishW d.1 d.2))) wsV
theorem ok101:SumOk Tryz.prog 101 S101 :=
 sumq f101.E (fn:=Tryz.f101) (code:=f101.code) f101.sums f101.inl fun (d:Bk×Rq) x hx=>by
  obtain ⟨b,q⟩:=d
  obtain ⟨hs,hx⟩:=chk_some hx
  obtain rfl:=oJ hx
  have hs:pcsSmall b=true:=hs
  refine ⟨0,(f101.eq 0 b q).trans ?_⟩
  simp only [hs,kT,bS,both_self]
  show _=some (wsV (wishW b q))
  unfold wishW wishOf
  cases q.2.1==2 <;> rfl
def endsR (b:Bk) (q:Rq):Int×Int:=bif q.2.1==2 then (match b.list[(placeOf b q.2.2.1).toNat]? with
 |some r=>(r.src,r.dst)
 |none=>(0,0)) else (q.2.2.2.1,q.2.2.2.2.1)
end
section
set_option maxRecDepth 100000
noncomputable def f117.E (k:Nat):Env:=mkEnv tt [(173,S173)] [] [(117,4,[.kill (rg [(2,4),(6,41)]),.tidy])] [] k
noncomputable def f117.code:Go.Code:=cd Tryz.f117
noncomputable def f117.l0 (k n:Nat) (p0:List (eC)) (p1:List (eC)) (p2:Int):Option V :=
 atPath (f117.E k) n ⟨((.ro qC p0)::(.ro qC p1)::.u::.u::.u::(.int .i64 p2)::un 36),[],[]⟩ 9 0 117 [.c 1,.c 1,.c 0,.c 1,.c 0] [] f117.code (finK tt Tryz.f117)
theorem f117.l0_eq (k n:Nat) (p0:List (eC)) (p1:List (eC)) (p2:Int):f117.l0 k (n+1) p0 p1 p2 =
 bif decide (p2<(↑p0.length:Int)) then (chk (decide ((0:Int)≤p2∧p2<(↑p0.length:Int))) (chk (decide ((0:Int)≤p2∧p2<(↑p1.length:Int))) (bif !((rd qC p0 p2).1.1==(rd qC p1 p2).1.1&&((rd qC p0 p2).1.2==(rd qC p1 p2).1.2&&true)) then (some (.bool false)) else (chk (decide ((0:Int)≤p2∧p2<(↑p0.length:Int))) (chk (decide ((0:Int)≤p2∧p2<(↑p1.length:Int))) ((chk (smallP (rd qC p0 p2).2) (some (sameB (rd qC p0 p2).2 (rd qC p1 p2).2))).bind (fun y0=>bif !y0 then (some (.bool false)) else (f117.l0 k n p0 p1 (Go.IntKind.i64.wrap (p2+(1:Int))))))))))) else (some (.bool true)):=by kernel_rfl
theorem f117.eq (k:Nat) (x0:List (eC)) (x1:List (eC)):evFn (f117.E k) 9 117 Tryz.f117 (encL [(.list qC),(.list qC)] (x0,x1)) =
 bif (↑x0.length:Int) != (↑x1.length:Int) then (some (.bool false)) else (f117.l0 k k x0 x1 0):=by kernel_rfl
theorem f117.inl (k:Nat):InlOk Tryz.prog (f117.E k):=inl_nil
theorem f117.sums (k:Nat):SumsOk Tryz.prog (f117.E k):=(sums_cons ok173 sums_nil)
noncomputable def f42.E (k:Nat):Env:=mkEnv tt [(60,S60)] [] [] [] k
noncomputable def f42.code:Go.Code:=cd Tryz.f42
theorem f42.eq (k:Nat) (x0:eR):evFn (f42.E k) 9 42 Tryz.f42 (encL [qR] x0) =
 (chk (pcsMem x0.2.2.2.2.2.2) (some x0.2.2.2.2.2.2)).bind (fun y0=>some (.agg [(.int .i64 x0.1.1),(.int .i64 x0.1.2),(.int .i64 x0.2.1),(.int .i64 x0.2.2.1),(.int .i64 x0.2.2.2.1),(.int .i64 x0.2.2.2.2.1),(.int .i64 x0.2.2.2.2.2.1),(.own qC y0)])):=by kernel_rfl
theorem f42.inl (k:Nat):InlOk Tryz.prog (f42.E k):=inl_nil
theorem f42.sums (k:Nat):SumsOk Tryz.prog (f42.E k):=(sums_cons ok60 sums_nil)
end
section
theorem any_notq {α:Type} (q:α→Bool) (xs:List α):(xs.any fun x=>!q x)=!(xs.all q):=by
 induction xs with
 |nil=>rfl
 |cons x xs ih=>rw [List.any_cons,List.all_cons,ih,Bool.not_and]
def eqSp (a b:Int×Int):Bool:=a.1==b.1&&(a.2==b.2&&true)
theorem eqSp_self (a:Int×Int):eqSp a a=true:=by unfold eqSp;simp
def eqPc (p q:Pc):Bool:=eqSp p.1 q.1&&sameB p.2 q.2
def samePcs (a b:List Pc):Bool:=a.length==b.length&&(a.zip b).all fun x=>eqPc x.1 x.2
theorem sameB_self {α:Type} [BEq α] [LawfulBEq α] (a:List α):sameB a a=true:=by unfold sameB;simp
theorem zip_self {α:Type} {q:α→α→Bool} (h:∀ x,q x x=true):∀ (a:List α),((a.zip a).all fun x=>q x.1 x.2)=true
 | []=>rfl
 |x::a=>by rw [List.zip_cons_cons,List.all_cons,zip_self h a,h x];rfl
theorem eqPc_self (p:Pc):eqPc p p=true:=by unfold eqPc;rw [eqSp_self,sameB_self];rfl
theorem samePcs_self (a:List Pc):samePcs a a=true:=by unfold samePcs;rw [zip_self eqPc_self];simp
def smallPcs (ps:List Pc):Bool:=decide (ps.length<4611686018427387904)&&ps.all fun p=>smallP p.2
theorem f117.same (a b:List Pc) (h:a.length=b.length) (hl:a.length<4611686018427387904) (hs:(a.all fun p=>smallP p.2)=true) (k:Nat):f117.l0 k (a.length+1) a b 0=some (.bool ((a.zip b).all fun x=>eqPc x.1 x.2)):=by
 have hz:(a.zip b).length=a.length:=by simp [h]
 have:=loop_any0 (fun n i=>f117.l0 k n a b (i:Nat)) (a.zip b) (fun x=>!eqPc x.1 x.2) (some (.bool false)) (some (.bool true)) (fun n i x hx=>by
  obtain ⟨ha,hb⟩:=zip_get hx
  have:=idx_lt ha
  have hsm:smallP x.1.2=true:=List.all_eq_true.1 hs x.1 (List.mem_of_getElem? ha)
  rw [f117.l0_eq,idx_lt' ha,cT,idx_in ha,kT,idx_in hb,kT,kT,kT,rd_some (t:=.pair tSp (.list tP)) ha,rd_some (t:=.pair tSp (.list tP)) hb,hsm,kT,bS,wrap_succ (by omega)]
  unfold eqPc eqSp
  cases (x.1.1.1==x.2.1.1&&(x.1.1.2==x.2.1.2&&true)) with
  |false=>rw [nF,cT,fA,nF,cT]
  |true=>rw [nT,cF,tA]) (fun n=>by rw [hz,f117.l0_eq,end_lt,cF]) (n:=a.length+1) (by omega)
 refine this.trans ?_
 rw [any_notq fun x:Pc×Pc=>eqPc x.1 x.2]
 cases (a.zip b).all fun x=>eqPc x.1 x.2 <;> rfl
noncomputable def S117:Summ:=summ [.list tPc',.list tPc'] Bool (fun (d:List Pc×List Pc)=>chk (smallPcs d.1) (some (samePcs d.1 d.2))) .bool
theorem ok117:SumOk Tryz.prog 117 S117 :=
 sumq f117.E (fn:=Tryz.f117) (code:=f117.code) f117.sums f117.inl fun (d:List Pc×List Pc) x hx=>by
  obtain ⟨a,b⟩:=d
  obtain ⟨hs,hx⟩:=chk_some hx
  obtain rfl:=oJ hx
  have hs:smallPcs a=true:=hs
  unfold smallPcs at hs
  simp only [bA,dE] at hs
  refine ⟨a.length+1,(f117.eq _ a b).trans ?_⟩
  show _=some (V.bool (samePcs a b))
  unfold samePcs
  by_cases h:a.length=b.length
  ·rw [show ((a.length:Int) != (b.length:Int))=false by simp [h],cF,f117.same a b h hs.1 hs.2,show (a.length==b.length)=true by simp [h],tA]
  ·rw [show ((a.length:Int) != (b.length:Int))=true from bne_iff_ne.2 (by omega),cT,show (a.length==b.length)=false by simp [h],fA]
noncomputable def S42:Summ:=S157
theorem ok42:SumOk Tryz.prog 42 S42 :=
 sumq f42.E (fn:=Tryz.f42) (code:=f42.code) f42.sums f42.inl fun (r:Rs) x hx=>by
  obtain ⟨h1,hx⟩:=chk_some hx
  obtain rfl:=oJ hx
  refine ⟨0,(f42.eq _ r).trans ?_⟩
  have h1:pcsMem r.2.2.2.2.2.2=true:=h1
  rw [h1,kT,bS]
end
section
set_option maxRecDepth 100000
noncomputable def f11.E (k:Nat):Env:=mkEnv tt [(21,S21),(42,S42)] [] [(11,4,[.kill (rg [(0,0),(5,27)]),.tidy])] [] k
noncomputable def f11.code:Go.Code:=cd Tryz.f11
noncomputable def f11.l0 (k n:Nat) (p0:Int) (p1:Int) (p2:Int) (p3:Int) (p4:Int) (p5:List (eR)) (p6:Int) (p7:List (eR)) (p8:List (eL)):Option V :=
 atPath (f11.E k) n ⟨(.u::(.ptr 262160 (0) (0))::(.ptr 524304 (0) (0))::(.slw 786448)::(.int .i64 p0)::un 23),[],[(262160,.box [(.int .i64 p1),(.slw 68723671152),(.int .i64 p2),(.int .i64 p3),(.int .i64 p4),(.ro qR p5)]),(524304,.box [(.int .i64 p6),.nil,(.int .i64 p6),(.int .i64 p6),(.int .i64 p6),.nil]),(786448,.row qR p7),(68723671152,.row qL p8)]⟩ 9 0 11 [.c 1,.c 1,.c 1,.c 0,.c 1,.c 0] [] f11.code (finK tt Tryz.f11)
theorem f11.l0_eq (k n:Nat) (p0:Int) (p1:Int) (p2:Int) (p3:Int) (p4:Int) (p5:List (eR)) (p6:Int) (p7:List (eR)) (p8:List (eL)):f11.l0 k (n+1) p0 p1 p2 p3 p4 p5 p6 p7 p8 =
 bif decide (p0<(↑p5.length:Int)) then (chk (decide ((0:Int)≤p0∧p0<(↑p5.length:Int))) ((chk (pcsMem (Rs.pcs (rd qR p5 p0))) (some (rd qR p5 p0))).bind (fun y0=>chk (decide ((p7++[y0]).length*80≤140737488355328)) (f11.l0 k n (Go.IntKind.i64.wrap (p0+(1:Int))) p1 p2 p3 p4 p5 p6 (p7++[y0]) p8)))) else (some (.agg [(.int .i64 p1),(.own qL p8),(.int .i64 p2),(.int .i64 p3),(.int .i64 p4),(.own qR p7)])):=by kernel_rfl
theorem f11.eq (k:Nat) (x0:(Int×List (eL)) ×
 Int×Int×Int×List (eR)):evFn (f11.E k) 9 11 Tryz.f11 (encL [(.pair (.pair qI (.list qL)) (.pair qI (.pair qI (.pair qI (.list qR)))))] x0) =
 (chk (decide (x0.1.2.length*24≤140737488355328)) (some x0.1)).bind (fun y0=>f11.l0 k k 0 y0.1 x0.2.1 x0.2.2.1 x0.2.2.2.1 x0.2.2.2.2 0 ([]) y0.2):=by kernel_rfl
theorem f11.inl (k:Nat):InlOk Tryz.prog (f11.E k):=inl_nil
theorem f11.sums (k:Nat):SumsOk Tryz.prog (f11.E k):=(sums_cons ok21 (sums_cons ok42 sums_nil))
end
section
set_option maxRecDepth 100000
noncomputable def f239.E (k:Nat):Env:=mkEnv tt [] [] [] [] k
noncomputable def f239.code:Go.Code:=cd Tryz.f239
theorem f239.eq (k:Nat) (x0:Int×List (eL)) (x1:Int):evFn (f239.E k) 9 239 Tryz.f239 (encL [(.pair qI (.list qL)),qI] (x0,x1)) =
 chk (decide ((0:Int)≤Go.IntKind.i64.wrap (x1.tdiv (2:Int))∧Go.IntKind.i64.wrap (x1.tdiv (2:Int))<(↑(x0.2.length):Int))) (bif x1.tmod (2:Int)==(1:Int) then (some (.tup [(.int .i64 ((rd qL x0.2 (Go.IntKind.i64.wrap (x1.tdiv (2:Int)))).2.1)),(.int .i64 ((rd qL x0.2 (Go.IntKind.i64.wrap (x1.tdiv (2:Int)))).1))])) else (some (.tup [(.int .i64 ((rd qL x0.2 (Go.IntKind.i64.wrap (x1.tdiv (2:Int)))).1)),(.int .i64 ((rd qL x0.2 (Go.IntKind.i64.wrap (x1.tdiv (2:Int)))).2.1))]))):=by kernel_rfl
theorem f239.inl (k:Nat):InlOk Tryz.prog (f239.E k):=inl_nil
theorem f239.sums (k:Nat):SumsOk Tryz.prog (f239.E k):=sums_nil
noncomputable def f217.E (k:Nat):Env:=mkEnv tt [] [] [] [] k
noncomputable def f217.code:Go.Code:=cd Tryz.f217
theorem f217.eq (k:Nat) (x0:List Int) (x1:List Int) (x2:Int):evFn (f217.E k) 9 217 Tryz.f217 (encL [(.list qI),(.list qI),qI] (x0,x1,x2)) =
 bif x2.tmod (2:Int)==(1:Int) then (chk (decide ((0:Int)≤Go.IntKind.i64.wrap (x2.tdiv (2:Int))∧Go.IntKind.i64.wrap (x2.tdiv (2:Int))<(↑x1.length:Int))) (some (.int .i64 (rd qI x1 (Go.IntKind.i64.wrap (x2.tdiv (2:Int))))))) else (chk (decide ((0:Int)≤Go.IntKind.i64.wrap (x2.tdiv (2:Int))∧Go.IntKind.i64.wrap (x2.tdiv (2:Int))<(↑x0.length:Int))) (chk (decide ((0:Int)≤Go.IntKind.i64.wrap (x2.tdiv (2:Int))∧Go.IntKind.i64.wrap (x2.tdiv (2:Int))<(↑x1.length:Int))) (some (.int .i64 (Go.IntKind.i64.wrap (rd qI x0 (Go.IntKind.i64.wrap (x2.tdiv (2:Int))) - rd qI x1 (Go.IntKind.i64.wrap (x2.tdiv (2:Int))))))))):=by kernel_rfl
theorem f217.inl (k:Nat):InlOk Tryz.prog (f217.E k):=inl_nil
theorem f217.sums (k:Nat):SumsOk Tryz.prog (f217.E k):=sums_nil
noncomputable def f212.E (k:Nat):Env:=mkEnv tt [] [] [(212,2,[.kill (rg [(1,6),(10,17)]),.tidy])] [] k
noncomputable def f212.code:Go.Code:=cd Tryz.f212
noncomputable def f212.l0 (k n:Nat) (p0:Int) (p1:List Int) (p2:Int) (p3:Int):Option V :=
 atPath (f212.E k) n ⟨((.int .i64 p0)::.u::.u::.u::.u::.u::.u::(.ro qI p1)::(.int .i64 p2)::(.int .i64 p3)::un 8),[],[]⟩ 9 0 212 [.c 1,.c 0,.c 1,.c 0] [] f212.code (finK tt Tryz.f212)
theorem f212.l0_eq (k n:Nat) (p0:Int) (p1:List Int) (p2:Int) (p3:Int):f212.l0 k (n+1) p0 p1 p2 p3 =
 bif decide (p3<p2) then (chk (decide ((0:Int)≤p3∧p3<(↑p1.length:Int))) (f212.l0 k n (List.foldl min2I p0 [rd qI p1 p3]) p1 p2 (Go.IntKind.i64.wrap (p3+(1:Int))))) else (some (.int .i64 p0)):=by kernel_rfl
theorem f212.eq (k:Nat) (x0:Int) (x1:List Int):evFn (f212.E k) 9 212 Tryz.f212 (encL [qI,(.list qI)] (x0,x1)) =
 f212.l0 k k x0 x1 ((↑x1.length:Int)) 0:=by kernel_rfl
theorem f212.inl (k:Nat):InlOk Tryz.prog (f212.E k):=inl_nil
theorem f212.sums (k:Nat):SumsOk Tryz.prog (f212.E k):=sums_nil
end
section
set_option maxRecDepth 100000
def arcL (a:Int):Int:=a / 2
def backB (a:Int):Bool:=a % 2==1
def arcIn (n:Nat) (a:Int):Bool:=decide (0≤a∧a<2*(n:Int))
def arcFrom (gl:List Lk) (a:Int):Int:=bif backB a then (lk gl (arcL a)).2.1 else (lk gl (arcL a)).1
def arcTo (gl:List Lk) (a:Int):Int:=bif backB a then (lk gl (arcL a)).1 else (lk gl (arcL a)).2.1
def roomA (cs f:List Int) (a:Int):Int:=bif backB a then rdI f (arcL a) else rdI cs (arcL a) - rdI f (arcL a)
theorem arc_tdiv {a:Int} (h:0≤a∧a≤9223372036854775807):Go.IntKind.i64.wrap (a.tdiv 2)=arcL a:=by
 rw [Int.tdiv_eq_ediv_of_nonneg h.1,wrap64 (by omega)]
 rfl
theorem arc_tmod {a:Int} (h:0≤a):(a.tmod 2==1)=backB a:=by
 rw [Int.tmod_eq_emod_of_nonneg h]
 rfl
theorem arcL_in {n:Nat} {a:Int} (h:arcIn n a=true):decide ((0:Int)≤arcL a∧arcL a<(n:Int))=true:=by
 have h:=oD h
 exact dT (by unfold arcL;omega)
noncomputable def S239:Summ:=summ [tG,tI] (Int×Int) (fun (d:Gr×Int)=>chk (decide (d.1.2.length≤16)&&arcIn d.1.2.length d.2) (some (arcFrom d.1.2 d.2,arcTo d.1.2 d.2))) resII
theorem ok239:SumOk Tryz.prog 239 S239 :=
 sumq f239.E (fn:=Tryz.f239) (code:=f239.code) f239.sums f239.inl fun (d:Gr×Int) x hx=>by
  obtain ⟨hb,hx⟩:=chk_some hx
  obtain rfl:=oJ hx
  rw [bA] at hb
  have hl:=oD hb.1
  have ha:=oD hb.2
  refine ⟨0,(f239.eq 0 d.1 d.2).trans ?_⟩
  rw [arc_tdiv (by omega),arc_tmod (by omega),chk_eq (arcL_in hb.2)]
  unfold arcFrom arcTo
  cases backB d.2 <;> rfl
theorem wrap_room {c e:Int} (h:0≤c - e) (h':c - e≤maxRate):Go.IntKind.i64.wrap (c - e)=c - e:=by
 have hM:maxRate=4611686018427387904:=rfl
 exact wrap64 (by omega)
noncomputable def S217:Summ:=summ [tL,tL,tI] Int (fun (d:List Int×(List Int×Int)) =>
 chk (decide (d.1.length≤16∧d.2.1.length=d.1.length)&&(arcIn d.1.length d.2.2&&rateB (roomA d.1 d.2.1 d.2.2))) (some (roomA d.1 d.2.1 d.2.2))) (.int .i64)
theorem ok217:SumOk Tryz.prog 217 S217 :=
 sumq f217.E (fn:=Tryz.f217) (code:=f217.code) f217.sums f217.inl fun (d:List Int×(List Int×Int)) x hx=>by
  obtain ⟨hb,hx⟩:=chk_some hx
  obtain rfl:=oJ hx
  rw [bA,bA] at hb
  have hl:=oD hb.1
  have ha:=oD hb.2.1
  have hr:=oD hb.2.2
  have hM:maxRate=4611686018427387904:=rfl
  refine ⟨0,(f217.eq 0 d.1 d.2.1 d.2.2).trans ?_⟩
  rw [arc_tdiv (by omega),arc_tmod (by omega),hl.2,chk_eq (arcL_in hb.2.1),chk_eq (arcL_in hb.2.1),chk_eq (arcL_in hb.2.1)]
  unfold roomA at hr ⊢
  cases hk:backB d.2.2 with
  |true=>rw [cT,cT];rfl
  |false =>
   rw [hk,cF] at hr
   rw [cF,cF]
   exact congrArg (fun x=>some (V.int .i64 x)) (wrap_room hr.1 hr.2)
theorem min2I_min (x y:Int):min2I x y=min x y:=by
 unfold min2I
 by_cases h:y<x
 ·rw [dT h,cT];omega
 ·rw [dF h,cF];omega
noncomputable def S212:Summ:=summ [tI,tL] Int (fun (d:Int×List Int)=>chk (decide (d.2.length<4611686018427387904)) (some (d.2.foldl min d.1))) (.int .i64)
theorem f212.l0_is (k:Nat) (xs:List Int) (hl:xs.length<4611686018427387904):∀ (n i:Nat) (x:Int),i≤xs.length→xs.length<n+i→f212.l0 k n x xs (xs.length:Int) (i:Int)=some (.int .i64 ((xs.drop i).foldl min x))
 |0,i,x,h,h'=>by omega
 |n+1,i,x,h,h'=>by
  by_cases hlt:i<xs.length
  ·have hx:=gE hlt
   rw [f212.l0_eq,idx_lt' hx,idx_in hx,rd_some (t:=tI) hx,wrap_succ (by omega),cT,kT,List.drop_eq_getElem_cons hlt,f212.l0_is k xs hl n (i+1) _ (by omega) (by omega),List.foldl_cons,List.foldl_cons,List.foldl_nil,min2I_min]
  ·obtain rfl:i=xs.length:=by omega
   rw [f212.l0_eq,end_lt,cF,List.drop_length]
   rfl
theorem ok212:SumOk Tryz.prog 212 S212 :=
 sumq f212.E (fn:=Tryz.f212) (code:=f212.code) f212.sums f212.inl fun (d:Int×List Int) x hx=>by
  obtain ⟨hb,hx⟩:=chk_some hx
  obtain rfl:=oJ hx
  exact ⟨d.2.length+1,(f212.eq _ d.1 d.2).trans (f212.l0_is _ d.2 (oD hb) _ 0 d.1 (by omega) (by omega))⟩
noncomputable def f216.E (k:Nat):Env:=mkEnv tt [] [(243,Tryz.f243),(261,Tryz.f261),(262,Tryz.f262)] [(216,8,[.kill (rg [(0,6),(9,47)]),.tidy]),(216,9,[.drop 62])] [] k
noncomputable def f216.code:Go.Code:=(Go.Func.body Tryz.f216).getD .skip
theorem f216.inl (k:Nat):InlOk Tryz.prog (f216.E k):=(inl_cons (by kernel_rfl) (by kernel_rfl) (inl_cons (by kernel_rfl) (by kernel_rfl) (inl_cons (by kernel_rfl) (by kernel_rfl) inl_nil)))
theorem f216.sums (k:Nat):SumsOk Tryz.prog (f216.E k):=sums_nil
theorem f216.at1:evFn (f216.E 40) 9 216 Tryz.f216 (encL [.list tI,tI] (([-1],1):List Int×Int))=some (.own tI [-1]):=by kernel_rfl
theorem f216.at2:evFn (f216.E 40) 9 216 Tryz.f216 (encL [.list tI,tI] (([-1],2):List Int×Int))=some (.own tI [-1,-1]):=by kernel_rfl
theorem f216.at3:evFn (f216.E 40) 9 216 Tryz.f216 (encL [.list tI,tI] (([-1],3):List Int×Int))=some (.own tI [-1,-1,-1]):=by kernel_rfl
theorem f216.at4:evFn (f216.E 40) 9 216 Tryz.f216 (encL [.list tI,tI] (([-1],4):List Int×Int))=some (.own tI [-1,-1,-1,-1]):=by kernel_rfl
theorem f216.at5:evFn (f216.E 40) 9 216 Tryz.f216 (encL [.list tI,tI] (([-1],5):List Int×Int))=some (.own tI [-1,-1,-1,-1,-1]):=by kernel_rfl
theorem f216.at6:evFn (f216.E 40) 9 216 Tryz.f216 (encL [.list tI,tI] (([-1],6):List Int×Int))=some (.own tI [-1,-1,-1,-1,-1,-1]):=by kernel_rfl
theorem f216.at7:evFn (f216.E 40) 9 216 Tryz.f216 (encL [.list tI,tI] (([-1],7):List Int×Int))=some (.own tI [-1,-1,-1,-1,-1,-1,-1]):=by kernel_rfl
theorem f216.at8:evFn (f216.E 40) 9 216 Tryz.f216 (encL [.list tI,tI] (([-1],8):List Int×Int))=some (.own tI [-1,-1,-1,-1,-1,-1,-1,-1]):=by kernel_rfl
noncomputable def S216:Summ:=summ [.list tI,tI] (List Int) (fun (d:List Int×Int)=>chk (d.1==[-1]&&decide (1≤d.2∧d.2≤8)) (some (List.replicate d.2.toNat (-1)))) (.own tI)
theorem ok216:SumOk Tryz.prog 216 S216 :=
 sumq f216.E (fn:=Tryz.f216) (code:=f216.code) f216.sums f216.inl fun (d:List Int×Int) x hx=>by
  obtain ⟨ys,n⟩:=d
  obtain ⟨hb,hx⟩:=chk_some hx
  obtain rfl:=oJ hx
  rw [bA] at hb
  obtain rfl:ys=[-1]:=eq_of_beq hb.1
  have hn:1≤n∧n≤8:=oD hb.2
  refine ⟨40,?_⟩
  obtain rfl|rfl|rfl|rfl|rfl|rfl|rfl|rfl:n=1∨n=2∨n=3∨n=4∨n=5∨n=6∨n=7∨n=8:=by omega
  ·exact f216.at1
  ·exact f216.at2
  ·exact f216.at3
  ·exact f216.at4
  ·exact f216.at5
  ·exact f216.at6
  ·exact f216.at7
  ·exact f216.at8
noncomputable def f263.E (k:Nat):Env:=mkEnv tt [] [(243,Tryz.f243),(261,Tryz.f261),(262,Tryz.f262)] [(263,8,[.kill (rg [(0,6),(9,47)]),.tidy]),(263,9,[.drop 62])] [] k
noncomputable def f263.code:Go.Code:=(Go.Func.body Tryz.f263).getD .skip
theorem f263.inl (k:Nat):InlOk Tryz.prog (f263.E k):=(inl_cons (by kernel_rfl) (by kernel_rfl) (inl_cons (by kernel_rfl) (by kernel_rfl) (inl_cons (by kernel_rfl) (by kernel_rfl) inl_nil)))
theorem f263.sums (k:Nat):SumsOk Tryz.prog (f263.E k):=sums_nil
theorem f263.at1:evFn (f263.E 40) 9 263 Tryz.f263 (encL [.list .bool,tI] (([true],1):List Bool×Int))=some (.own .bool [true]):=by kernel_rfl
theorem f263.at2:evFn (f263.E 40) 9 263 Tryz.f263 (encL [.list .bool,tI] (([true],2):List Bool×Int))=some (.own .bool [true,true]):=by kernel_rfl
theorem f263.at3:evFn (f263.E 40) 9 263 Tryz.f263 (encL [.list .bool,tI] (([true],3):List Bool×Int))=some (.own .bool [true,true,true]):=by kernel_rfl
theorem f263.at4:evFn (f263.E 40) 9 263 Tryz.f263 (encL [.list .bool,tI] (([true],4):List Bool×Int))=some (.own .bool [true,true,true,true]):=by kernel_rfl
theorem f263.at5:evFn (f263.E 40) 9 263 Tryz.f263 (encL [.list .bool,tI] (([true],5):List Bool×Int))=some (.own .bool [true,true,true,true,true]):=by kernel_rfl
theorem f263.at6:evFn (f263.E 40) 9 263 Tryz.f263 (encL [.list .bool,tI] (([true],6):List Bool×Int))=some (.own .bool [true,true,true,true,true,true]):=by kernel_rfl
theorem f263.at7:evFn (f263.E 40) 9 263 Tryz.f263 (encL [.list .bool,tI] (([true],7):List Bool×Int))=some (.own .bool [true,true,true,true,true,true,true]):=by kernel_rfl
theorem f263.at8:evFn (f263.E 40) 9 263 Tryz.f263 (encL [.list .bool,tI] (([true],8):List Bool×Int))=some (.own .bool [true,true,true,true,true,true,true,true]):=by kernel_rfl
noncomputable def S263:Summ:=summ [.list .bool,tI] (List Bool) (fun (d:List Bool×Int)=>chk (d.1==[true]&&decide (1≤d.2∧d.2≤8)) (some (List.replicate d.2.toNat (true)))) (.own .bool)
theorem ok263:SumOk Tryz.prog 263 S263 :=
 sumq f263.E (fn:=Tryz.f263) (code:=f263.code) f263.sums f263.inl fun (d:List Bool×Int) x hx=>by
  obtain ⟨ys,n⟩:=d
  obtain ⟨hb,hx⟩:=chk_some hx
  obtain rfl:=oJ hx
  rw [bA] at hb
  obtain rfl:ys=[true]:=eq_of_beq hb.1
  have hn:1≤n∧n≤8:=oD hb.2
  refine ⟨40,?_⟩
  obtain rfl|rfl|rfl|rfl|rfl|rfl|rfl|rfl:n=1∨n=2∨n=3∨n=4∨n=5∨n=6∨n=7∨n=8:=by omega
  ·exact f263.at1
  ·exact f263.at2
  ·exact f263.at3
  ·exact f263.at4
  ·exact f263.at5
  ·exact f263.at6
  ·exact f263.at7
  ·exact f263.at8
end
section
def upto (n:Nat):List Int:=(List.range n).map fun (i:Nat)=>(i:Int)
def rowA (gl:List Lk) (v:Int):List Int:=(upto (2*gl.length)).filter fun a=>arcFrom gl a==v
def headsA (gl:List Lk):List Int:=(upto (2*gl.length)).map (arcTo gl)
def orderA (gl:List Lk) (n:Nat):List Int:=(upto n).flatMap (rowA gl)
def startsA (gl:List Lk) (n:Nat):List Int:=(List.range (n+1)).map fun v=>((orderA gl v).length:Int)
def withinF (f cs:List Int):Bool:=(f.length==cs.length)&&(f.zip cs).all fun x=>decide (0≤x.1∧x.1≤x.2)
def liesB (g:Gr) (cs f:List Int):Bool:=capsMay g cs&&withinF f cs
def gainV:List Lk→List Int→Int→Int
 |l::ls,x::xs,v=>((bif l.1==v then x else 0) - (bif l.2.1==v then x else 0))+gainV ls xs v
 |_,_,_=>0
def gainsOf (g:Gr) (f:List Int):List Int:=(upto g.1.toNat).map (gainV g.2 f)
def stillB (g:Gr) (f:List Int) (src dst:Int) (v:Int):Bool:=!((v==src&&decide (gainV g.2 f v<0)) || (v != src&&(v != dst&&gainV g.2 f v != 0)))
def mayF (g:Gr) (cs f:List Int) (src dst:Int):Bool :=
 liesB g cs f&&(hasV g.1 src&&(hasV g.1 dst&&(!(src==dst)&&(upto g.1.toNat).all (stillB g f src dst))))
def moveA (f:List Int) (by_ a:Int):List Int:=f.set (arcL a).toNat (rdI f (arcL a)+bif backB a then -by_ else by_)
def moveL (cs:List Int) (by_:Int):List Int→List Int→Option (List Int)
 |f,[]=>some f
 |f,a::ws=>bif decide (roomA cs f a<by_) then none else moveL cs by_ (moveA f by_ a) ws
def moveForm (g:Gr) (cs f:List Int) (by_:Int) (ws:List Int):Bool:=liesB g cs f&&(rateB by_&&(decide (ws.length≤64)&&ws.all (arcIn f.length)))
def moveOf (g:Gr) (cs f:List Int) (by_:Int) (ws:List Int):List Int×Int :=
 bif moveForm g cs f by_ ws then (match moveL cs by_ f ws with
  |some o=>(o,0)
  |none=>([],901)) else ([],900)
theorem upto_length (n:Nat):(upto n).length=n:=by simp [upto]
theorem upto_get {n i:Nat} (h:i<n):(upto n)[i]? = some (i:Int):=by simp [upto,h]
theorem upto_mem {n:Nat} {a:Int}:a∈upto n↔0≤a∧a<(n:Int):=by
 simp only [upto,List.mem_map,List.mem_range]
 constructor
 ·rintro ⟨i,hi,rfl⟩
  omega
 ·rintro ⟨h0,h1⟩
  exact ⟨a.toNat,by omega,by omega⟩
theorem upto_succ (n:Nat):upto (n+1)=upto n++[(n:Int)]:=by simp [upto,List.range_succ]
theorem withinF_len {f cs:List Int} (h:withinF f cs=true):f.length=cs.length:=by
 simp only [withinF,bA,beq_iff_eq] at h
 exact h.1
theorem withinF_get {f cs:List Int} (h:withinF f cs=true) {i:Nat} {x c:Int} (hx:f[i]? = some x) (hc:cs[i]? = some c):0≤x∧x≤c:=by
 simp only [withinF,bA,beq_iff_eq] at h
 have:=List.all_eq_true.1 h.2 (x,c) (List.mem_of_getElem? (i:=i) (by rw [List.getElem?_zip_eq_some];exact ⟨hx,hc⟩))
 exact oD this
theorem withinF_of {f cs:List Int} (hl:f.length=cs.length) (h:∀ (i:Nat) (x c:Int),f[i]? = some x→cs[i]? = some c→0≤x∧x≤c):withinF f cs=true:=by
 simp only [withinF,bA,beq_iff_eq]
 refine ⟨hl,List.all_eq_true.2 fun y hy=>?_⟩
 obtain ⟨i,hi⟩:=List.mem_iff_getElem?.1 hy
 rw [List.getElem?_zip_eq_some] at hi
 exact dT (h i y.1 y.2 hi.1 hi.2)
theorem withinL_of {cs:List Int}:∀ {ls:List Lk},cs.length=ls.length→(∀ (i:Nat) (c:Int) (l:Lk),cs[i]? = some c→ls[i]? = some l→0≤c∧c≤l.2.2)→withinL cs ls=true:=by
 induction cs with
 |nil=>intro ls hl _;cases ls with|nil=>rfl|cons _ _=>simp at hl
 |cons c cs ih =>
  intro ls hl h
  cases ls with
  |nil=>simp at hl
  |cons l ls =>
   simp only [withinL,bA]
   refine ⟨dT (h 0 c l rfl rfl),ih (by simpa using hl) fun i c' l' hc' hl'=>h (i+1) c' l' (by simpa using hc') (by simpa using hl')⟩
theorem withinL_at:∀ {cs:List Int} {ls:List Lk},withinL cs ls=true→∀ {i:Nat} {c:Int} {l:Lk},cs[i]? = some c→ls[i]? = some l→0≤c∧c≤l.2.2
 |c::cs,l::ls,h,0,c',l',hc,hl=>by
  simp only [withinL,bA] at h
  simp only [List.getElem?_cons_zero,sI] at hc hl
  subst hc hl
  exact oD h.1
 |c::cs,l::ls,h,i+1,c',l',hc,hl=>by
  simp only [withinL,bA] at h
  exact withinL_at h.2 (by simpa using hc) (by simpa using hl)
 | [],[],_,_,_,_,hc,_=>by simp at hc
 | [],_::_,h,_,_,_,_,_=>by simp [withinL] at h
 |_::_,[],h,_,_,_,_,_=>by simp [withinL] at h
theorem capsMay_len {g:Gr} {cs:List Int} (h:capsMay g cs=true):cs.length=g.2.length:=by
 simp only [capsMay,bA] at h
 exact withinL_len h.2
theorem lies_caps {g:Gr} {cs f:List Int} (h:liesB g cs f=true):capsMay g f=true:=by
 simp only [liesB,capsMay,bA] at h ⊢
 refine ⟨h.1.1,withinL_of ((withinF_len h.2).trans (withinL_len h.1.2)) fun i x l hx hl=>?_⟩
 have hi:i<cs.length:=by rw [← withinF_len h.2];exact idx_lt hx
 have hc:=gE hi
 have h1:=withinF_get h.2 hx hc
 have h2:=withinL_at h.1.2 hc hl
 omega
theorem graphMay_parts {g:Gr} (h:graphMay g=true):2≤g.1∧g.1≤8∧g.2.length≤16∧g.2.all (linkOk g.1)=true:=by
 simp only [graphMay,shapeB,bA] at h
 have h1:=oD h.1.1
 exact ⟨h1.1,h1.2,oD h.1.2.1,h.1.2.2⟩
theorem link_at {g:Gr} (h:graphMay g=true) {i:Nat} {l:Lk} (hl:g.2[i]? = some l):(0≤l.1∧l.1<g.1)∧(0≤l.2.1∧l.2.1<g.1)∧l.1 ≠ l.2.1:=by
 have:=List.all_eq_true.1 (graphMay_parts h).2.2.2 l (List.mem_of_getElem? hl)
 simp only [linkOk,hasV,bA,Bool.not_eq_true',beq_eq_false_iff_ne] at this
 exact ⟨oD this.1,oD this.2.1,this.2.2⟩
theorem caps_sum {g:Gr} {f:List Int} (h:capsMay g f=true):f.sum≤maxRate∧∀ x∈f,0≤x:=by
 simp only [capsMay,graphMay,bA] at h
 obtain ⟨⟨_,h1⟩,h2⟩:=h
 obtain ⟨t,ht⟩:=Option.isSome_iff_exists.1 h1
 have a:=sumUp_lo _ _ _ ht (by omega) (by decide)
 have hs:=sumUp_sum _ _ _ ht
 have e:(capsOf g).sum=(g.2.map fun l=>l.2.2).sum:=rfl
 have:f.sum≤(g.2.map fun l=>l.2.2).sum:=by
  clear ht hs a e h1
  generalize g.2=ls at h2
  induction f generalizing ls with
  |nil=>cases ls with|nil=>simp|cons _ _=>simp [withinL] at h2
  |cons c cs ih =>
   cases ls with
   |nil=>simp [withinL] at h2
   |cons l ls =>
    simp only [withinL,bA] at h2
    have:=oD h2.1
    have:=ih ls h2.2
    simp only [List.sum_cons,List.map_cons]
    omega
 exact ⟨by omega,fun x hx=>withinL_get h2 x hx⟩
end
section
set_option maxRecDepth 100000
noncomputable def f240.E (k:Nat):Env:=mkEnv tt [(239,S239)] [] [(240,3,[.kill (rg [(0,0),(3,4),(6,11),(14,30)]),.tidy])] [] k
noncomputable def f240.code:Go.Code:=cd Tryz.f240
noncomputable def f240.l0 (k n:Nat) (p0:Int) (p1:Int) (p2:Int) (p3:Int) (p4:List (eL)) (p5:List Int):Option V :=
 atPath (f240.E k) n ⟨(.u::(.int .i64 p0)::(.ptr 524304 (0) (0))::.u::.u::(.slw 1310736)::.u::.u::.u::.u::.u::.u::(.int .i64 p1)::(.int .i64 p2)::un 17),[],[(524304,.box [(.int .i64 p3),(.ro qL p4)]),(1310736,.row qI p5)]⟩ 9 0 240 [.c 1,.c 1,.c 0,.c 1,.c 0] [] f240.code (finK tt Tryz.f240)
theorem f240.l0_eq (k n:Nat) (p0:Int) (p1:Int) (p2:Int) (p3:Int) (p4:List (eL)) (p5:List Int):f240.l0 k (n+1) p0 p1 p2 p3 p4 p5 =
 bif decide (p2<p1) then ((chk (decide (p4.length≤16)&&arcIn p4.length p2) (some ((arcFrom p4 p2,arcTo p4 p2)))).bind (fun y0=>bif y0.1==p0 then (chk (decide ((p5++[p2]).length*8≤140737488355328)) (f240.l0 k n p0 p1 (Go.IntKind.i64.wrap (p2+(1:Int))) p3 p4 (p5++[p2]))) else (f240.l0 k n p0 p1 (Go.IntKind.i64.wrap (p2+(1:Int))) p3 p4 p5))) else (some (.own qI p5)):=by kernel_rfl
theorem f240.eq (k:Nat) (x0:Int×List (eL)) (x1:Int):evFn (f240.E k) 9 240 Tryz.f240 (encL [(.pair qI (.list qL)),qI] (x0,x1)) =
 f240.l0 k k x1 (Go.IntKind.i64.wrap ((2:Int)*(↑(x0.2.length):Int))) 0 x0.1 x0.2 ([]):=by kernel_rfl
theorem f240.inl (k:Nat):InlOk Tryz.prog (f240.E k):=inl_nil
theorem f240.sums (k:Nat):SumsOk Tryz.prog (f240.E k):=(sums_cons ok239 sums_nil)
noncomputable def f215.E (k:Nat):Env:=mkEnv tt [(125,S125)] [] [(215,4,[.kill (rg [(0,0),(2,19),(23,37)]),.tidy])] [] k
noncomputable def f215.code:Go.Code:=cd Tryz.f215
noncomputable def f215.l0 (k n:Nat) (p0:List Int) (p1:List Int) (p2:Int) (p3:Int):Option V :=
 atPath (f215.E k) n ⟨(.u::(.ro qI p0)::.u::.u::.u::.u::.u::.u::.u::.u::.u::.u::.u::.u::.u::.u::.u::.u::.u::.u::(.ro qI p1)::(.int .i64 p2)::(.int .i64 p3)::un 15),[],[]⟩ 9 0 215 [.c 1,.c 1,.c 0,.c 1,.c 0] [] f215.code (finK tt Tryz.f215)
theorem f215.l0_eq (k n:Nat) (p0:List Int) (p1:List Int) (p2:Int) (p3:Int):f215.l0 k (n+1) p0 p1 p2 p3 =
 bif decide (p3<p2) then (chk (decide ((0:Int)≤p3∧p3<(↑p1.length:Int))) (bif decide (rd qI p1 p3<(0:Int)) then (some (.bool false)) else (chk (decide ((0:Int)≤p3∧p3<(↑p0.length:Int))) (bif decide (rd qI p1 p3>rd qI p0 p3) then (some (.bool false)) else (f215.l0 k n p0 p1 p2 (Go.IntKind.i64.wrap (p3+(1:Int)))))))) else (some (.bool true)):=by kernel_rfl
theorem f215.eq (k:Nat) (x0:Int×List (eL)) (x1:List Int) (x2:List Int):evFn (f215.E k) 9 215 Tryz.f215 (encL [(.pair qI (.list qL)),(.list qI),(.list qI)] (x0,x1,x2)) =
 bif !capsMay x0 x1 then (some (.bool false)) else (bif (↑x2.length:Int) != (↑x1.length:Int) then (some (.bool false)) else (f215.l0 k k x1 x2 ((↑x2.length:Int)) 0)):=by kernel_rfl
theorem f215.inl (k:Nat):InlOk Tryz.prog (f215.E k):=inl_nil
theorem f215.sums (k:Nat):SumsOk Tryz.prog (f215.E k):=(sums_cons ok125 sums_nil)
noncomputable def f218.E (k:Nat):Env:=mkEnv tt [] [] [(218,3,[.kill (rg [(0,0),(2,4),(6,11),(15,42)]),.tidy])] [] k
noncomputable def f218.code:Go.Code:=cd Tryz.f218
noncomputable def f218.l0 (k n:Nat) (p0:List Int) (p1:List (eL)) (p2:Int) (p3:Int) (p4:List Int):Option V :=
 atPath (f218.E k) n ⟨(.u::(.ro qI p0)::.u::.u::.u::(.slw 1310736)::.u::.u::.u::.u::.u::.u::(.ro qL p1)::(.int .i64 p2)::(.int .i64 p3)::un 28),[],[(1310736,.row qI p4)]⟩ 9 0 218 [.c 1,.c 1,.c 0,.c 1,.c 0] [] f218.code (finK tt Tryz.f218)
theorem f218.l0_eq (k n:Nat) (p0:List Int) (p1:List (eL)) (p2:Int) (p3:Int) (p4:List Int):f218.l0 k (n+1) p0 p1 p2 p3 p4 =
 bif decide (p3<p2) then (chk (decide ((0:Int)≤p3∧p3<(↑p1.length:Int))) (chk (decide ((0:Int)≤(rd qL p1 p3).1∧(rd qL p1 p3).1<(↑p4.length:Int))) (chk (decide ((0:Int)≤p3∧p3<(↑p0.length:Int))) (chk (decide ((0:Int)≤(rd qL p1 p3).1∧(rd qL p1 p3).1<(↑p4.length:Int))) (chk (decide ((0:Int)≤(rd qL p1 p3).2.1∧(rd qL p1 p3).2.1<(↑(p4.set (Int.toNat (rd qL p1 p3).1) (Go.IntKind.i64.wrap (rd qI p4 (↑(Int.toNat (rd qL p1 p3).1):Int)+rd qI p0 p3))).length:Int))) (chk (decide ((0:Int)≤p3∧p3<(↑p0.length:Int))) (chk (decide ((0:Int)≤(rd qL p1 p3).2.1∧(rd qL p1 p3).2.1<(↑(p4.set (Int.toNat (rd qL p1 p3).1) (Go.IntKind.i64.wrap (rd qI p4 (↑(Int.toNat (rd qL p1 p3).1):Int)+rd qI p0 p3))).length:Int))) (f218.l0 k n p0 p1 p2 (Go.IntKind.i64.wrap (p3+(1:Int))) ((p4.set (Int.toNat (rd qL p1 p3).1) (Go.IntKind.i64.wrap (rd qI p4 (↑(Int.toNat (rd qL p1 p3).1):Int)+rd qI p0 p3))).set (Int.toNat (rd qL p1 p3).2.1) (Go.IntKind.i64.wrap (rd qI (p4.set (Int.toNat (rd qL p1 p3).1) (Go.IntKind.i64.wrap (rd qI p4 (↑(Int.toNat (rd qL p1 p3).1):Int)+rd qI p0 p3))) (↑(Int.toNat (rd qL p1 p3).2.1):Int) - rd qI p0 p3))))))))))) else (some (.own qI p4)):=by kernel_rfl
theorem f218.eq (k:Nat) (x0:Int×List (eL)) (x1:List Int):evFn (f218.E k) 9 218 Tryz.f218 (encL [(.pair qI (.list qL)),(.list qI)] (x0,x1)) =
 chk (decide ((0:Int)≤x0.1∧x0.1≤x0.1)) (chk (decide (0<8∧x0.1*(↑(8:Nat):Int)≤(140737488355328:Int))) (f218.l0 k k x1 x0.2 ((↑(x0.2.length):Int)) 0 (List.replicate (Int.toNat x0.1) (dflt qI)))):=by kernel_rfl
theorem f218.inl (k:Nat):InlOk Tryz.prog (f218.E k):=inl_nil
theorem f218.sums (k:Nat):SumsOk Tryz.prog (f218.E k):=sums_nil
end
section
theorem drop_filter {α:Type} (p:α→Bool) {l:List α} {i:Nat} (h:i<l.length):(l.drop i).filter p=bif p l[i] then l[i]::(l.drop (i+1)).filter p else (l.drop (i+1)).filter p:=by
 rw [List.drop_eq_getElem_cons h,List.filter_cons]
 cases p l[i] <;> rfl
noncomputable def S240:Summ:=summ [tG,tI] (List Int) (fun (d:Gr×Int)=>chk (decide (d.1.2.length≤16)) (some (rowA d.1.2 d.2))) (.own tI)
theorem f240.l0_is (k:Nat) (v g0:Int) (gl:List Lk) (hl:gl.length≤16):∀ (n i:Nat) (o:List Int),i≤2*gl.length→2*gl.length<n+i→o.length≤i →
  f240.l0 k n v ((2*gl.length:Nat):Int) (i:Int) g0 gl o=some (.own tI (o++((upto (2*gl.length)).drop i).filter fun a=>arcFrom gl a==v))
 |0,i,o,h,h',_=>by omega
 |n+1,i,o,h,h',ho=>by
  by_cases hlt:i<2*gl.length
  ·have hu:i<(upto (2*gl.length)).length:=by rw [upto_length];exact hlt
   have hg:(upto (2*gl.length))[i]=(i:Int):=(List.getElem?_eq_some_iff.1 (upto_get hlt)).2
   rw [f240.l0_eq,show decide ((i:Int)<((2*gl.length:Nat):Int))=true from dT (by omega),cT,dT hl,tA,
    show arcIn gl.length (i:Int)=true from dT (by omega),kT,bS,wrap_succ (by omega),drop_filter _ hu,hg]
   simp only
   cases arcFrom gl (i:Int)==v with
   |true =>
    rw [cT,cT,chk_eq (dT (by rw [lA,List.length_singleton];omega)),f240.l0_is k v g0 gl hl n (i+1) _ (by omega) (by omega) (by rw [lA,List.length_singleton];omega),List.append_assoc]
    rfl
   |false=>rw [cF,cF,f240.l0_is k v g0 gl hl n (i+1) _ (by omega) (by omega) (by omega)]
  ·obtain rfl:i=2*gl.length:=by omega
   rw [f240.l0_eq,show decide (((2*gl.length:Nat):Int)<((2*gl.length:Nat):Int))=false from dF (by omega),cF,List.drop_eq_nil_of_le (by rw [upto_length];omega),List.filter_nil,List.append_nil]
theorem ok240:SumOk Tryz.prog 240 S240 :=
 sumq f240.E (fn:=Tryz.f240) (code:=f240.code) f240.sums f240.inl fun (d:Gr×Int) x hx=>by
  obtain ⟨hb,hx⟩:=chk_some hx
  obtain rfl:=oJ hx
  have hb:=oD hb
  refine ⟨33,(f240.eq _ d.1 d.2).trans ?_⟩
  rw [wrap64 (by omega),show (2:Int)*(d.1.2.length:Int)=((2*d.1.2.length:Nat):Int) by omega]
  exact f240.l0_is _ d.2 d.1.1 d.1.2 hb _ 0 [] (by omega) (by omega) (by simp)
def outB (x:Int×Int):Bool:=!decide (0≤x.1∧x.1≤x.2)
noncomputable def S215:Summ:=summ [tG,tL,tL] Bool (fun (d:Gr×(List Int×List Int))=>some (liesB d.1 d.2.1 d.2.2)) .bool
theorem f215.l0_is (k:Nat) (cs f:List Int) (hl:f.length=cs.length) (hc:cs.length≤16):f215.l0 (k+17) (k+17) cs f (f.length:Int) 0=some (.bool (withinF f cs)):=by
 have hz:(f.zip cs).length=f.length:=by simp [hl]
 refine (loop_any0 (fun n i=>f215.l0 (k+17) n cs f (f.length:Int) (i:Nat)) (f.zip cs) outB (some (.bool false)) (some (.bool true)) (fun n i x hx=>by
  obtain ⟨ha,hb⟩:=zip_get hx
  have:=idx_lt ha
  rw [f215.l0_eq,idx_lt' ha,idx_in ha,idx_in hb,rd_some (t:=tI) ha,rd_some (t:=tI) hb,wrap_succ (by omega),cT,kT,kT]
  unfold outB
  by_cases h1:x.1<0
  ·rw [show decide (x.1<0)=true from dT h1,cT,show decide (0≤x.1∧x.1≤x.2)=false from dF (by omega),nF,cT]
  ·by_cases h2:x.1>x.2
   ·rw [show decide (x.1<0)=false from dF h1,cF,show decide (x.1>x.2)=true from dT h2,cT,show decide (0≤x.1∧x.1≤x.2)=false from dF (by omega),nF,cT]
   ·rw [show decide (x.1<0)=false from dF h1,cF,show decide (x.1>x.2)=false from dF h2,cF,show decide (0≤x.1∧x.1≤x.2)=true from dT (by omega),nT,cF]) (fun n=>by
  rw [hz,f215.l0_eq,end_lt,cF]) (n:=k+17) (by omega)).trans ?_
 unfold withinF
 rw [show (f.length==cs.length)=true by simpa using hl,tA]
 have:(f.zip cs).any outB=!(f.zip cs).all fun x=>decide (0≤x.1∧x.1≤x.2):=by
  generalize f.zip cs=z
  induction z with
  |nil=>rfl
  |cons y z ih=>rw [List.any_cons,List.all_cons,ih,Bool.not_and];rfl
 rw [this]
 cases (f.zip cs).all fun x=>decide (0≤x.1∧x.1≤x.2) <;> rfl
theorem ok215:SumOk Tryz.prog 215 S215 :=
 sumq f215.E (fn:=Tryz.f215) (code:=f215.code) f215.sums f215.inl fun (d:Gr×(List Int×List Int)) x hx=>by
  obtain rfl:=oJ hx
  refine ⟨17,(f215.eq _ d.1 d.2.1 d.2.2).trans ?_⟩
  unfold liesB
  cases hc:capsMay d.1 d.2.1 with
  |false=>rw [nF,cT,fA]
  |true =>
   rw [nT,cF,tA]
   by_cases hl:d.2.2.length=d.2.1.length
   ·have:=capsMay_len hc
    have:=(graphMay_parts (caps_graph hc)).2.2.1
    rw [show ((d.2.2.length:Int) != (d.2.1.length:Int))=false by simp [hl],cF]
    exact f215.l0_is 0 d.2.1 d.2.2 hl (by omega)
   ·rw [show ((d.2.2.length:Int) != (d.2.1.length:Int))=true by simp;omega,cT]
    unfold withinF
    rw [show (d.2.2.length==d.2.1.length)=false by simpa using hl,fA]
def gStep (o:List Int) (l:Lk) (x:Int):List Int:=(o.set l.1.toNat (rdI o l.1+x)).set l.2.1.toNat (rdI (o.set l.1.toNat (rdI o l.1+x)) l.2.1 - x)
theorem rdI_nat (o:List Int) (k:Int):rdI o (k.toNat:Int)=rdI o k:=by unfold rdI rd;rw [Int.toNat_natCast]
theorem rdI_set {o:List Int} {i j:Int} {x:Int} (hi:0≤i∧i<(o.length:Int)) (hj:0≤j∧j<(o.length:Int)):rdI (o.set i.toNat x) j=bif i==j then x else rdI o j:=by
 unfold rdI rd
 rw [List.getD_eq_getElem?_getD,List.getD_eq_getElem?_getD,List.getElem?_set]
 by_cases h:i=j
 ·subst h
  rw [if_pos rfl,if_pos (by omega),show (i==i)=true by simp,cT]
  rfl
 ·rw [if_neg (by omega),show (i==j)=false by simpa using h,cF]
theorem gStep_len (o:List Int) (l:Lk) (x:Int):(gStep o l x).length=o.length:=by simp [gStep]
theorem gStep_at {o:List Int} {l:Lk} {x v:Int} (h1:0≤l.1∧l.1<(o.length:Int)) (h2:0≤l.2.1∧l.2.1<(o.length:Int)) (hv:0≤v∧v<(o.length:Int)) (hne:l.1 ≠ l.2.1) :
  rdI (gStep o l x) v=rdI o v+((bif l.1==v then x else 0) - (bif l.2.1==v then x else 0)):=by
 unfold gStep
 rw [rdI_set (by simpa using h2) (by simpa using hv),rdI_set h1 h2,rdI_set h1 hv,show (l.1==l.2.1)=false by simpa using hne,cF]
 by_cases e2:l.2.1=v
 ·subst e2
  rw [show (l.2.1==l.2.1)=true by simp,cT,cT,show (l.1==l.2.1)=false by simpa using hne,cF]
  omega
 ·rw [show (l.2.1==v)=false by simpa using e2,cF,cF]
  by_cases e1:l.1=v
  ·subst e1
   rw [show (l.1==l.1)=true by simp,cT,cT]
   omega
  ·rw [show (l.1==v)=false by simpa using e1,cF,cF]
   omega
theorem upto_map_rdI (o:List Int):(upto o.length).map (fun v=>rdI o v)=o:=by
 apply List.ext_getElem?
 intro i
 rw [List.getElem?_map]
 by_cases h:i<o.length
 ·rw [upto_get h,gE h,Option.map_some,rdI_some (gE h)]
 ·rw [List.getElem?_eq_none (by rw [upto_length];omega),List.getElem?_eq_none (by omega)]
  rfl
theorem f218.step (k n:Nat) {f:List Int} {gl:List Lk} {i:Nat} {o:List Int} {l:Lk} {x:Int} (hg:gl[i]? = some l) (hx:f[i]? = some x) (hi:i<4611686018427387904) (h1:0≤l.1∧l.1<(o.length:Int)) (h2:0≤l.2.1∧l.2.1<(o.length:Int)) (hne:l.1 ≠ l.2.1)
  (hb1:-maxRate≤rdI o l.1+x∧rdI o l.1+x≤maxRate) (hb2:-maxRate≤rdI o l.2.1 - x∧rdI o l.2.1 - x≤maxRate) :
  f218.l0 k (n+1) f gl (gl.length:Int) (i:Int) o=f218.l0 k n f gl (gl.length:Int) ((i+1:Nat):Int) (gStep o l x):=by
 have hM:maxRate=4611686018427387904:=rfl
 have e1:Go.IntKind.i64.wrap (rd (Ty.int Go.IntKind.i64) o ((l.1.toNat:Nat):Int)+x)=rdI o l.1+x:=by rw [rdI_eq,rdI_nat];exact wrap64 (by omega)
 have e2:Go.IntKind.i64.wrap (rd (Ty.int Go.IntKind.i64) (o.set l.1.toNat (rdI o l.1+x)) ((l.2.1.toNat:Nat):Int) - x)=rdI (o.set l.1.toNat (rdI o l.1+x)) l.2.1 - x:=by
  rw [rdI_eq,rdI_nat]
  rw [rdI_set h1 h2,show (l.1==l.2.1)=false by simpa using hne,cF]
  exact wrap64 (by omega)
 rw [f218.l0_eq,idx_lt' hg,idx_in hg,idx_in hx,rd_some (t:=tLk) hg,rd_some (t:=tI) hx,wrap_succ hi,cT,kT,kT]
 rw [e1]
 rw [e2]
 rw [List.length_set,show decide (0≤l.1∧l.1<(o.length:Int))=true from dT h1,show decide (0≤l.2.1∧l.2.1<(o.length:Int))=true from dT h2,kT,kT,kT,kT,kT]
 rfl
theorem f218.l0_is (k:Nat) (f:List Int) (gl:List Lk) (m:Nat) (hl:f.length=gl.length) (h16:gl.length≤16) (h0:∀ x∈f,0≤x)
  (hok:∀ (i:Nat) (l:Lk),gl[i]? = some l→(0≤l.1∧l.1<(m:Int))∧(0≤l.2.1∧l.2.1<(m:Int))∧l.1 ≠ l.2.1):∀ (n i:Nat) (o:List Int),i≤gl.length→gl.length<n+i→o.length=m →
  (∀ v,0≤v∧v<(m:Int)→-maxRate≤rdI o v - (f.drop i).sum∧rdI o v+(f.drop i).sum≤maxRate) →
  f218.l0 k n f gl (gl.length:Int) (i:Int) o=some (.own tI ((upto m).map fun v=>rdI o v+gainV (gl.drop i) (f.drop i) v))
 |0,i,o,h,h',_,_=>by omega
 |n+1,i,o,h,h',ho,hb=>by
  by_cases hlt:i<gl.length
  ·have hg:=gE hlt
   have hif:i<f.length:=by omega
   have hx:=gE hif
   obtain ⟨a1,a2,a3⟩:=hok i _ hg
   have hd:(f.drop i).sum=f[i]+(f.drop (i+1)).sum:=by rw [List.drop_eq_getElem_cons hif,List.sum_cons]
   have hp:0≤f[i]:=h0 _ (List.getElem_mem hif)
   have hs:0≤(f.drop (i+1)).sum:=sum_nonneg' _ fun y hy=>h0 y (List.mem_of_mem_drop hy)
   have b1:=hb _ a1
   have b2:=hb _ a2
   rw [f218.step k n hg hx (by omega) (by omega) (by omega) a3 (by omega) (by omega)]
   rw [f218.l0_is k f gl m hl h16 h0 hok n (i+1) _ (by omega) (by omega) (by rw [gStep_len];exact ho) (fun v hv=>by
    have b:=hb v hv
    rw [gStep_at (by omega) (by omega) (by omega) a3]
    cases e1:gl[i].1==v <;> cases e2:gl[i].2.1==v <;> simp only [cT,cF] <;> first|omega|exact absurd ((eq_of_beq e1).trans (eq_of_beq e2).symm) a3)]
   refine congrArg (fun z=>some (V.own tI z)) (List.map_congr_left fun v hv=>?_)
   have hv:=upto_mem.1 hv
   rw [gStep_at (by omega) (by omega) (by omega) a3,List.drop_eq_getElem_cons hlt,List.drop_eq_getElem_cons hif]
   exact Int.add_assoc _ _ _
  ·obtain rfl:i=gl.length:=by omega
   rw [f218.l0_eq,end_lt,cF,List.drop_length]
   refine congrArg (fun z=>some (V.own tI z)) ?_
   refine (upto_map_rdI o).symm.trans ?_
   rw [ho]
   exact List.map_congr_left fun v _=>by simp only [gainV];omega
noncomputable def S218:Summ:=summ [tG,tL] (List Int) (fun (d:Gr×List Int)=>chk (capsMay d.1 d.2) (some (gainsOf d.1 d.2))) (.own tI)
theorem ok218:SumOk Tryz.prog 218 S218 :=
 sumq f218.E (fn:=Tryz.f218) (code:=f218.code) f218.sums f218.inl fun (d:Gr×List Int) x hx=>by
  obtain ⟨hb,hx⟩:=chk_some hx
  obtain rfl:=oJ hx
  have hg:=caps_graph hb
  have hp:=graphMay_parts hg
  obtain ⟨hs,h0⟩:=caps_sum hb
  have hn:=sum_nonneg' _ h0
  refine ⟨17,(f218.eq _ d.1 d.2).trans ?_⟩
  rw [chk_eq (dT (by omega)),chk_eq (dT (by omega))]
  have hz:∀ v:Int,rdI (List.replicate d.1.1.toNat 0) v=0:=fun v=>by
   unfold rdI rd
   rw [List.getD_eq_getElem?_getD,List.getElem?_replicate]
   split <;> rfl
  refine (f218.l0_is _ d.2 d.1.2 d.1.1.toNat (capsMay_len hb) hp.2.2.1 h0 (fun i l hl=>?_) 17 0 (List.replicate d.1.1.toNat 0) (by omega) (by omega) (by simp) (fun v hv=>?_)).trans ?_
  ·have:=link_at hg hl
   omega
  ·rw [hz,List.drop_zero]
   omega
  ·refine congrArg (fun z=>some (V.own tI z)) (List.map_congr_left fun v _=>?_)
   rw [hz,List.drop_zero,List.drop_zero,Int.zero_add]
end
section
theorem rdI_get {f:List Int} {i:Int} (h:0≤i∧i<(f.length:Int)):f[i.toNat]? = some (rdI f i):=by
 have hl:i.toNat<f.length:=by omega
 rw [gE hl]
 have:=rdI_some (gE hl)
 rw [show ((i.toNat:Nat):Int)=i by omega] at this
 rw [this]
theorem arcL_lt {n:Nat} {a:Int} (h:arcIn n a=true):0≤arcL a∧arcL a<(n:Int):=oD (arcL_in h)
theorem mem_le_sum:∀ {xs:List Int},(∀ x∈xs,0≤x)→∀ {x:Int},x∈xs→x≤xs.sum
 |y::ys,h,x,hx=>by
  have h0:=sum_nonneg' ys fun z hz=>h z (by simp [hz])
  have hy:=h y (by simp)
  rw [List.sum_cons]
  rcases List.mem_cons.1 hx with rfl|hx
  ·omega
  ·have:=mem_le_sum (fun z hz=>h z (by simp [hz])) hx
   omega
theorem caps_le {g:Gr} {cs:List Int} (h:capsMay g cs=true) {c:Int} (hc:c∈cs):0≤c∧c≤maxRate:=by
 obtain ⟨h1,h2⟩:=caps_sum h
 have:=mem_le_sum h2 hc
 exact ⟨h2 c hc,by omega⟩
theorem within_at {f cs:List Int} (h:withinF f cs=true) {i:Int} (hi:0≤i∧i<(cs.length:Int)):0≤rdI f i∧rdI f i≤rdI cs i:=by
 have hl:=withinF_len h
 exact withinF_get h (rdI_get (by omega)) (rdI_get hi)
theorem room_rate {g:Gr} {cs f:List Int} (hc:capsMay g cs=true) (h:withinF f cs=true) {a:Int} (ha:arcIn cs.length a=true):rateB (roomA cs f a)=true:=by
 have hl:=arcL_lt ha
 have h1:=within_at h hl
 have h2:=caps_le hc (List.mem_of_getElem? (rdI_get hl))
 unfold roomA
 cases backB a with
 |true=>rw [cT];exact dT ⟨by omega,by omega⟩
 |false=>rw [cF];exact dT ⟨by omega,by omega⟩
theorem moveA_len (f:List Int) (b a:Int):(moveA f b a).length=f.length:=by simp [moveA]
theorem moveA_at {f:List Int} {b a i:Int} (ha:0≤arcL a∧arcL a<(f.length:Int)) (hi:0≤i∧i<(f.length:Int)) :
  rdI (moveA f b a) i=bif arcL a==i then rdI f (arcL a)+(bif backB a then -b else b) else rdI f i:=rdI_set ha hi
theorem withinF_by {f cs:List Int} (hl:f.length=cs.length) (h:∀ i:Int,0≤i∧i<(cs.length:Int)→0≤rdI f i∧rdI f i≤rdI cs i):withinF f cs=true :=
 withinF_of hl fun i x c hx hc=>by
  have:=h i ⟨by omega,by have:=idx_lt hc;omega⟩
  rw [rdI_some hx,rdI_some hc] at this
  exact this
theorem moveA_within {f cs:List Int} {b a:Int} (h:withinF f cs=true) (ha:arcIn cs.length a=true) (hb:0≤b) (hr:b≤roomA cs f a):withinF (moveA f b a) cs=true:=by
 have hl:=withinF_len h
 have hL:=arcL_lt ha
 refine withinF_by (by rw [moveA_len];exact hl) fun i hi=>?_
 rw [moveA_at (by omega) (by omega)]
 have h1:=within_at h hi
 by_cases he:arcL a=i
 ·subst he
  rw [show (arcL a==arcL a)=true by simp,cT]
  unfold roomA at hr
  cases hk:backB a with
  |true=>rw [hk,cT] at hr;rw [cT];omega
  |false=>rw [hk,cF] at hr;rw [cF];omega
 ·rw [show (arcL a==i)=false by simpa using he,cF]
  exact h1
theorem moveL_within {cs:List Int} {b:Int} (hb:0≤b):∀ {ws:List Int} {f o:List Int},withinF f cs=true→ws.all (arcIn cs.length)=true→moveL cs b f ws=some o→withinF o cs=true
 | [],f,o,h,_,hm=>by
  simp only [moveL,sI] at hm
  exact hm▸h
 |a::ws,f,o,h,hw,hm=>by
  simp only [moveL] at hm
  rw [List.all_cons,bA] at hw
  cases hd:decide (roomA cs f a<b) with
  |true=>rw [hd,cT] at hm;cases hm
  |false =>
   rw [hd,cF] at hm
   have hd:=of_decide_eq_false hd
   exact moveL_within hb (moveA_within h hw.1 hb (by omega)) hw.2 hm
theorem orderA_succ (gl:List Lk) (n:Nat):orderA gl (n+1)=orderA gl n++rowA gl n:=by
 unfold orderA
 rw [upto_succ,List.flatMap_append]
 simp
theorem rowA_len (gl:List Lk) (v:Int):(rowA gl v).length≤2*gl.length:=by
 unfold rowA
 refine Nat.le_trans (List.length_filter_le _ _) ?_
 rw [upto_length]
 exact Nat.le_refl _
theorem orderA_len (gl:List Lk):∀ n:Nat,(orderA gl n).length≤n*(2*gl.length)
 |0=>by simp [orderA,upto]
 |n+1=>by
  have:=orderA_len gl n
  have:=rowA_len gl n
  rw [orderA_succ,lA,Nat.add_mul]
  omega
end
section
set_option maxRecDepth 100000
noncomputable def f210.E (k:Nat):Env:=mkEnv tt [(120,S120),(239,S239),(240,S240)] [] [(210,11,[.nil1 4 0 1048581 qI,.nil1 4 1 1048645 qI,.nil1 4 2 1048709 qI,.kill (rg [(0,0),(3,3),(5,33),(36,62)]),.tidy]),(210,5,[.nil1 4 0 1048581 qI,.nil1 4 1 1048645 qI,.nil1 4 2 1048709 qI,.kill (rg [(0,0),(3,3),(5,15),(18,62)]),.tidy])] [] k
noncomputable def f210.code:Go.Code:=cd Tryz.f210
noncomputable def f210.l0 (k n:Nat) (p0:Int) (p1:Int) (p2:Int) (p3:List (eL)) (p4:List Int) (p5:List Int):Option V :=
 atPath (f210.E k) n ⟨(.u::(.ptr 262160 (0) (0))::(.ptr 524304 (0) (0))::.u::(.ptr 1048592 (0) (0))::.u::.u::.u::.u::.u::.u::.u::.u::.u::.u::.u::(.int .i64 p0)::(.int .i64 p1)::un 45),[],[(262160,.box [(.int .i64 p2),(.ro qL p3)]),(524304,.box [.nil,.nil,.nil]),(1048592,.box [(.slw 274882101296),(.slw 274882101360),(.slw 274882101424)]),(274882101296,.row qI p4),(274882101360,.row qI p4),(274882101424,.row qI p5)]⟩ 9 0 210 [.c 1,.c 1,.c 1,.c 0,.c 1,.c 0] [] f210.code (finK tt Tryz.f210)
noncomputable def f210.l1 (k n:Nat) (p0:Int) (p1:Int) (p2:List (eL)) (p3:List Int) (p4:List Int) (p5:List Int):Option V :=
 atPath (f210.E k) n ⟨(.u::(.ptr 262160 (0) (0))::(.ptr 524304 (0) (0))::.u::(.ptr 1048592 (0) (0))::.u::.u::.u::.u::.u::.u::.u::.u::.u::.u::.u::.u::.u::.u::.u::.u::.u::.u::.u::.u::.u::.u::.u::.u::.u::.u::.u::.u::.u::(.int .i64 p0)::(.int .i64 p1)::un 27),[],[(262160,.box [(.int .i64 p0),(.ro qL p2)]),(524304,.box [.nil,.nil,.nil]),(1048592,.box [(.slw 274882101296),(.slw 274882101360),(.slw 274882101424)]),(274882101296,.row qI p3),(274882101360,.row qI p4),(274882101424,.row qI p5)]⟩ 9 0 210 [.c 1,.c 1,.c 1,.c 1,.c 0,.c 1,.c 0] [] f210.code (finK tt Tryz.f210)
theorem f210.l0_eq (k n:Nat) (p0:Int) (p1:Int) (p2:Int) (p3:List (eL)) (p4:List Int) (p5:List Int):f210.l0 k (n+1) p0 p1 p2 p3 p4 p5 =
 bif decide (p1<p0) then ((chk (decide (p3.length≤16)&&arcIn p3.length p1) (some ((arcFrom p3 p1,arcTo p3 p1)))).bind (fun y0=>chk (decide ((p5++[y0.2]).length*8≤140737488355328)) (f210.l0 k n p0 (Go.IntKind.i64.wrap (p1+(1:Int))) p2 p3 p4 (p5++[y0.2])))) else (f210.l1 k k p2 0 p3 p4 p4 p5):=by kernel_rfl
theorem f210.l1_eq (k n:Nat) (p0:Int) (p1:Int) (p2:List (eL)) (p3:List Int) (p4:List Int) (p5:List Int):f210.l1 k (n+1) p0 p1 p2 p3 p4 p5 =
 bif decide (p1<p0) then (chk (decide ((p3++[(↑p4.length:Int)]).length*8≤140737488355328)) ((chk (decide (p2.length≤16)) (some (rowA p2 p1))).bind (fun y0=>chk (decide ((p4++y0).length*8≤140737488355328)) (f210.l1 k n p0 (Go.IntKind.i64.wrap (p1+(1:Int))) p2 (p3++[(↑p4.length:Int)]) (p4++y0) p5)))) else (chk (decide ((p3++[(↑p4.length:Int)]).length*8≤140737488355328)) (some (.tup [(.agg [(.own qI (p3++[(↑p4.length:Int)])),(.own qI p4),(.own qI p5)]),(.int .i64 0)]))):=by kernel_rfl
theorem f210.eq (k:Nat) (x0:Int×List (eL)):evFn (f210.E k) 9 210 Tryz.f210 (encL [(.pair qI (.list qL))] x0) =
 bif !graphMay x0 then (some (.tup [(.agg [(.own qI ([])),(.own qI ([])),(.own qI ([]))]),(.int .i64 500)])) else (f210.l0 k k (Go.IntKind.i64.wrap ((2:Int)*(↑(x0.2.length):Int))) 0 x0.1 x0.2 ([]) ([])):=by kernel_rfl
theorem f210.inl (k:Nat):InlOk Tryz.prog (f210.E k):=inl_nil
theorem f210.sums (k:Nat):SumsOk Tryz.prog (f210.E k):=(sums_cons ok120 (sums_cons ok239 (sums_cons ok240 sums_nil)))
noncomputable def f179.E (k:Nat):Env:=mkEnv tt [(121,S121),(215,S215),(218,S218)] [] [(179,4,[.kill (rg [(0,2),(5,36),(40,65)]),.tidy])] [] k
noncomputable def f179.code:Go.Code:=cd Tryz.f179
noncomputable def f179.l0 (k n:Nat) (p0:Int) (p1:Int) (p2:Int) (p3:Int) (p4:List Int):Option V :=
 atPath (f179.E k) n ⟨(.u::.u::.u::(.int .i64 p0)::(.int .i64 p1)::.u::.u::.u::.u::.u::.u::.u::.u::.u::.u::.u::.u::.u::.u::.u::.u::.u::.u::.u::.u::.u::.u::.u::.u::.u::.u::.u::.u::.u::.u::.u::.u::(.slw 9699344)::(.int .i64 p2)::(.int .i64 p3)::un 26),[],[(9699344,.row qI p4)]⟩ 9 0 179 [.c 1,.c 1,.c 0,.c 1,.c 0] [] f179.code (finK tt Tryz.f179)
theorem f179.l0_eq (k n:Nat) (p0:Int) (p1:Int) (p2:Int) (p3:Int) (p4:List Int):f179.l0 k (n+1) p0 p1 p2 p3 p4 =
 bif decide (p3<p2) then (chk (decide ((0:Int)≤p3∧p3<(↑p4.length:Int))) (bif p3==p0 then (bif decide (rd qI p4 (↑p3.toNat:Int)<(0:Int)) then (some (.bool false)) else (bif p3 != p0 then (bif p3 != p1 then (bif rd qI p4 (↑p3.toNat:Int) != (0:Int) then (some (.bool false)) else (f179.l0 k n p0 p1 p2 (Go.IntKind.i64.wrap (p3+(1:Int))) p4)) else (f179.l0 k n p0 p1 p2 (Go.IntKind.i64.wrap (p3+(1:Int))) p4)) else (f179.l0 k n p0 p1 p2 (Go.IntKind.i64.wrap (p3+(1:Int))) p4))) else (bif p3 != p0 then (bif p3 != p1 then (bif rd qI p4 (↑p3.toNat:Int) != (0:Int) then (some (.bool false)) else (f179.l0 k n p0 p1 p2 (Go.IntKind.i64.wrap (p3+(1:Int))) p4)) else (f179.l0 k n p0 p1 p2 (Go.IntKind.i64.wrap (p3+(1:Int))) p4)) else (f179.l0 k n p0 p1 p2 (Go.IntKind.i64.wrap (p3+(1:Int))) p4)))) else (some (.bool true)):=by kernel_rfl
theorem f179.eq (k:Nat) (x0:Int×List (eL)) (x1:List Int) (x2:List Int) (x3:Int) (x4:Int):evFn (f179.E k) 9 179 Tryz.f179 (encL [(.pair qI (.list qL)),(.list qI),(.list qI),qI,qI] (x0,x1,x2,x3,x4)) =
 bif !liesB x0 x1 x2 then (some (.bool false)) else (bif !hasV x0.1 x3 then (some (.bool false)) else (bif !hasV x0.1 x4 then (some (.bool false)) else (bif x3==x4 then (some (.bool false)) else ((chk (capsMay x0 x2) (some (gainsOf x0 x2))).bind (fun y0=>f179.l0 k k x3 x4 ((↑y0.length:Int)) 0 y0))))):=by kernel_rfl
theorem f179.inl (k:Nat):InlOk Tryz.prog (f179.E k):=inl_nil
theorem f179.sums (k:Nat):SumsOk Tryz.prog (f179.E k):=(sums_cons ok121 (sums_cons ok215 (sums_cons ok218 sums_nil)))
noncomputable def f214.E (k:Nat):Env:=mkEnv tt [(78,S78),(122,S122),(215,S215),(217,S217)] [(242,Tryz.f242)] [(214,11,[.kill (rg [(0,0),(2,2),(4,13),(15,49),(53,67)]),.tidy]),(214,4,[.kill (rg [(0,0),(5,31),(35,67)]),.tidy])] [] k
noncomputable def f214.code:Go.Code:=cd Tryz.f214
noncomputable def f214.l0 (k n:Nat) (p0:List Int) (p1:List Int) (p2:Int) (p3:List Int) (p4:Int) (p5:Int):Option V :=
 atPath (f214.E k) n ⟨(.u::(.ro qI p0)::(.ro qI p1)::(.int .i64 p2)::(.ro qI p3)::.u::.u::.u::.u::.u::.u::.u::.u::.u::.u::.u::.u::.u::.u::.u::.u::.u::.u::.u::.u::.u::.u::.u::.u::.u::.u::.u::(.ro qI p3)::(.int .i64 p4)::(.int .i64 p5)::un 33),[],[]⟩ 9 0 214 [.c 1,.c 1,.c 0,.c 1,.c 0] [] f214.code (finK tt Tryz.f214)
noncomputable def f214.l1 (k n:Nat) (p0:List Int) (p1:Int) (p2:List Int) (p3:Int) (p4:Int) (p5:List Int):Option V :=
 atPath (f214.E k) n ⟨(.u::(.ro qI p0)::.u::(.int .i64 p1)::.u::.u::.u::.u::.u::.u::.u::.u::.u::.u::(.slw 3670032)::.u::.u::.u::.u::.u::.u::.u::.u::.u::.u::.u::.u::.u::.u::.u::.u::.u::.u::.u::.u::.u::.u::.u::.u::.u::.u::.u::.u::.u::.u::.u::.u::.u::.u::.u::(.ro qI p2)::(.int .i64 p3)::(.int .i64 p4)::un 15),[],[(3670032,.row qI p5)]⟩ 9 0 214 [.c 1,.c 1,.c 1,.c 1,.c 0,.c 1,.c 0] [] f214.code (finK tt Tryz.f214)
theorem f214.l0_eq (k n:Nat) (p0:List Int) (p1:List Int) (p2:Int) (p3:List Int) (p4:Int) (p5:Int):f214.l0 k (n+1) p0 p1 p2 p3 p4 p5 =
 bif decide (p5<p4) then (chk (decide ((0:Int)≤p5∧p5<(↑p3.length:Int))) (bif decide (rd qI p3 p5<(0:Int)) then (some (.tup [(.own qI ([])),(.int .i64 900)])) else (bif decide (rd qI p3 p5 ≥ Go.IntKind.i64.wrap ((2:Int)*(↑p1.length:Int))) then (some (.tup [(.own qI ([])),(.int .i64 900)])) else (f214.l0 k n p0 p1 p2 p3 p4 (Go.IntKind.i64.wrap (p5+(1:Int))))))) else ((chk (decide (p1.length*8≤140737488355328)) (some p1)).bind (fun y0=>f214.l1 k k p0 p2 p3 ((↑p3.length:Int)) 0 y0)):=by kernel_rfl
theorem f214.l1_eq (k n:Nat) (p0:List Int) (p1:Int) (p2:List Int) (p3:Int) (p4:Int) (p5:List Int):f214.l1 k (n+1) p0 p1 p2 p3 p4 p5 =
 bif decide (p4<p3) then (chk (decide ((0:Int)≤p4∧p4<(↑p2.length:Int))) ((chk (decide (p0.length≤16∧p5.length=p0.length)&&(arcIn p0.length (rd qI p2 p4)&&rateB (roomA p0 p5 (rd qI p2 p4)))) (some (roomA p0 p5 (rd qI p2 p4)))).bind (fun y0=>bif decide (y0<p1) then (some (.tup [(.own qI ([])),(.int .i64 901)])) else (bif Int.tmod (rd qI p2 p4) (2:Int)==(1:Int) then (chk (decide ((0:Int)≤Go.IntKind.i64.wrap (Int.tdiv (rd qI p2 p4) (2:Int))∧Go.IntKind.i64.wrap (Int.tdiv (rd qI p2 p4) (2:Int))<(↑p5.length:Int))) (chk (decide ((0:Int)≤Go.IntKind.i64.wrap (Int.tdiv (rd qI p2 p4) (2:Int))∧Go.IntKind.i64.wrap (Int.tdiv (rd qI p2 p4) (2:Int))<(↑p5.length:Int))) (f214.l1 k n p0 p1 p2 p3 (Go.IntKind.i64.wrap (p4+(1:Int))) (p5.set (Go.IntKind.i64.wrap (Int.tdiv (rd qI p2 p4) (2:Int))).toNat (Go.IntKind.i64.wrap (rd qI p5 (↑(Go.IntKind.i64.wrap (Int.tdiv (rd qI p2 p4) (2:Int))).toNat:Int)+Go.IntKind.i64.wrap ((0:Int) - p1))))))) else (chk (decide ((0:Int)≤Go.IntKind.i64.wrap (Int.tdiv (rd qI p2 p4) (2:Int))∧Go.IntKind.i64.wrap (Int.tdiv (rd qI p2 p4) (2:Int))<(↑p5.length:Int))) (chk (decide ((0:Int)≤Go.IntKind.i64.wrap (Int.tdiv (rd qI p2 p4) (2:Int))∧Go.IntKind.i64.wrap (Int.tdiv (rd qI p2 p4) (2:Int))<(↑p5.length:Int))) (f214.l1 k n p0 p1 p2 p3 (Go.IntKind.i64.wrap (p4+(1:Int))) (p5.set (Go.IntKind.i64.wrap (Int.tdiv (rd qI p2 p4) (2:Int))).toNat (Go.IntKind.i64.wrap (rd qI p5 (↑(Go.IntKind.i64.wrap (Int.tdiv (rd qI p2 p4) (2:Int))).toNat:Int)+p1)))))))))) else (some (.tup [(.own qI p5),(.int .i64 0)])):=by kernel_rfl
theorem f214.eq (k:Nat) (x0:Int×List (eL)) (x1:List Int) (x2:List Int) (x3:Int) (x4:List Int):evFn (f214.E k) 9 214 Tryz.f214 (encL [(.pair qI (.list qL)),(.list qI),(.list qI),qI,(.list qI)] (x0,x1,x2,x3,x4)) =
 bif !liesB x0 x1 x2 then (some (.tup [(.own qI ([])),(.int .i64 900)])) else (bif !rateB x3 then (some (.tup [(.own qI ([])),(.int .i64 900)])) else (bif decide ((↑x4.length:Int)>(64:Int)) then (some (.tup [(.own qI ([])),(.int .i64 900)])) else (f214.l0 k k x1 x2 x3 x4 ((↑x4.length:Int)) 0))):=by kernel_rfl
theorem f214.inl (k:Nat):InlOk Tryz.prog (f214.E k):=(inl_cons (by kernel_rfl) (by kernel_rfl) inl_nil)
theorem f214.sums (k:Nat):SumsOk Tryz.prog (f214.E k):=(sums_cons ok78 (sums_cons ok122 (sums_cons ok215 (sums_cons ok217 sums_nil))))
end
section
theorem any_not {α:Type} (p:α→Bool):∀ l:List α,(l.any fun a=>!p a)=!l.all p
 | []=>rfl
 |y::z=>by rw [List.any_cons,List.all_cons,any_not p z,Bool.not_and]
@[reducible] def resArcs (x:List Int×(List Int×List Int)):V:=.tup [.agg [.own tI x.1,.own tI x.2.1,.own tI x.2.2],.int .i64 0]
noncomputable def S210:Summ:=summ [tG] (List Int×(List Int×List Int)) (fun (g:Gr)=>chk (graphMay g) (some (startsA g.2 g.1.toNat,(orderA g.2 g.1.toNat,headsA g.2)))) resArcs
theorem startsA_front (gl:List Lk) (n:Nat):startsA gl n=(List.range n).map (fun v=>((orderA gl v).length:Int))++[((orderA gl n).length:Int)]:=by
 unfold startsA
 rw [List.range_succ,List.map_append]
 rfl
theorem f210.l1_is (k:Nat) (gl:List Lk) (hs:List Int) (m:Nat) (hm:m≤8) (hl:gl.length≤16):∀ (n i:Nat),i≤m→m<n+i →
  f210.l1 k n (m:Int) (i:Int) gl ((List.range i).map fun v=>((orderA gl v).length:Int)) (orderA gl i) hs=some (resArcs (startsA gl m,(orderA gl m,hs)))
 |0,i,h,h'=>by omega
 |n+1,i,h,h'=>by
  have h1:=orderA_len gl i
  have h2:i*(2*gl.length)≤8*32:=Nat.mul_le_mul (by omega) (by omega)
  have h3:=rowA_len gl i
  have e:(List.range (i+1)).map (fun v=>((orderA gl v).length:Int))=(List.range i).map (fun v=>((orderA gl v).length:Int))++[((orderA gl i).length:Int)]:=by
   rw [List.range_succ,List.map_append]
   rfl
  rw [f210.l1_eq]
  by_cases hlt:i<m
  ·rw [show decide ((i:Int)<(m:Int))=true from dT (by omega),cT,chk_eq (dT (by rw [lA,List.length_map,List.length_range,List.length_singleton];omega)),dT hl,kT,bS,
    chk_eq (dT (by rw [lA];omega)),wrap_succ (by omega),← e,← orderA_succ]
   exact f210.l1_is k gl hs m hm hl n (i+1) (by omega) (by omega)
  ·obtain rfl:i=m:=by omega
   rw [show decide ((i:Int)<(i:Int))=false from dF (by omega),cF,chk_eq (dT (by rw [lA,List.length_map,List.length_range,List.length_singleton];omega)),← startsA_front]
theorem f210.l0_is (k:Nat) (gl:List Lk) (m:Int) (hl:gl.length≤16) (R0:Option V) (hR:f210.l1 k k m 0 gl [] [] (headsA gl)=R0):∀ (n i:Nat),i≤2*gl.length→2*gl.length<n+i →
  f210.l0 k n ((2*gl.length:Nat):Int) (i:Int) m gl [] (((upto (2*gl.length)).take i).map (arcTo gl))=R0
 |0,i,h,h'=>by omega
 |n+1,i,h,h'=>by
  rw [f210.l0_eq]
  by_cases hlt:i<2*gl.length
  ·have hu:i<(upto (2*gl.length)).length:=by rw [upto_length];exact hlt
   have hg:(upto (2*gl.length))[i]=(i:Int):=(List.getElem?_eq_some_iff.1 (upto_get hlt)).2
   rw [show decide ((i:Int)<((2*gl.length:Nat):Int))=true from dT (by omega),cT,dT hl,tA,
    show arcIn gl.length (i:Int)=true from dT (by omega),kT,bS,wrap_succ (by omega),chk_eq (dT (by
     rw [lA,List.length_map,List.length_take,upto_length,List.length_singleton]
     omega))]
   have:=f210.l0_is k gl m hl R0 hR n (i+1) (by omega) (by omega)
   rw [List.take_succ_eq_append_getElem hu,hg,List.map_append] at this
   exact this
  ·obtain rfl:i=2*gl.length:=by omega
   rw [show decide (((2*gl.length:Nat):Int)<((2*gl.length:Nat):Int))=false from dF (by omega),cF,List.take_of_length_le (by rw [upto_length];omega)]
   exact hR
theorem ok210:SumOk Tryz.prog 210 S210 :=
 sumq f210.E (fn:=Tryz.f210) (code:=f210.code) f210.sums f210.inl fun (g:Gr) x hx=>by
  obtain ⟨hb,hx⟩:=chk_some hx
  obtain rfl:=oJ hx
  have hp:=graphMay_parts hb
  refine ⟨33,(f210.eq _ g).trans ?_⟩
  rw [hb,nT,cF,wrap64 (by omega),show (2:Int)*(g.2.length:Int)=((2*g.2.length:Nat):Int) by omega]
  refine f210.l0_is 33 g.2 g.1 hp.2.2.1 _ ?_ 33 0 (by omega) (by omega)
  have:=f210.l1_is 33 g.2 (headsA g.2) g.1.toNat (by omega) hp.2.2.1 33 0 (by omega) (by omega)
  rw [show ((g.1.toNat:Nat):Int)=g.1 by omega] at this
  exact this
noncomputable def S179:Summ:=summ [tG,tL,tL,tI,tI] Bool (fun (d:Gr×(List Int×(List Int×(Int×Int))))=>some (mayF d.1 d.2.1 d.2.2.1 d.2.2.2.1 d.2.2.2.2)) .bool
theorem f179.l0_is (k:Nat) (g:Gr) (f:List Int) (src dst:Int) (hg:2≤g.1∧g.1≤8):f179.l0 (k+9) (k+9) src dst ((gainsOf g f).length:Int) 0 (gainsOf g f)=some (.bool ((upto g.1.toNat).all (stillB g f src dst))):=by
 have hlen:(gainsOf g f).length=(upto g.1.toNat).length:=by simp [gainsOf]
 refine (loop_any0 (fun n i=>f179.l0 (k+9) n src dst ((gainsOf g f).length:Int) (i:Nat) (gainsOf g f)) (upto g.1.toNat) (fun v=>!stillB g f src dst v) (some (.bool false)) (some (.bool true)) (fun n i v hv=>by
  have hi:=idx_lt hv
  have hi':=hi
  rw [upto_length] at hi'
  obtain rfl:(i:Int)=v:=oJ ((upto_get hi').symm.trans hv)
  have hx:(gainsOf g f)[i]? = some (gainV g.2 f i):=by simp only [gainsOf];rw [List.getElem?_map,hv];rfl
  rw [f179.l0_eq,hlen,show decide ((i:Int)<((upto g.1.toNat).length:Int))=true from dT (by omega),cT,show ((i:Int).toNat:Int)=(i:Int) by omega,idx_in hv,kT,rd_some (t:=tI) hx,wrap_succ (by omega)]
  unfold stillB
  simp only [bne]
  by_cases h1:(i:Int)=src
  ·subst h1
   rw [show ((i:Int)==(i:Int))=true by simp,cT,tA,nT,cF,fA,Bool.or_false,Bool.not_not]
  ·rw [show ((i:Int)==src)=false by simpa using h1,cF,fA,Bool.false_or,nF,cT,tA]
   by_cases h2:(i:Int)=dst
   ·rw [show ((i:Int)==dst)=true by simpa using h2,nT,cF,fA,Bool.not_not,cF]
   ·rw [show ((i:Int)==dst)=false by simpa using h2,nF,cT,tA,Bool.not_not]) (fun n=>by
  rw [f179.l0_eq,hlen,end_lt,cF]) (n:=k+9) (by rw [upto_length];omega)).trans ?_
 have:=any_not (stillB g f src dst) (upto g.1.toNat)
 rw [this]
 cases (upto g.1.toNat).all (stillB g f src dst) <;> rfl
theorem ok179:SumOk Tryz.prog 179 S179 :=
 sumq f179.E (fn:=Tryz.f179) (code:=f179.code) f179.sums f179.inl fun (d:Gr×(List Int×(List Int×(Int×Int)))) x hx=>by
  obtain rfl:=oJ hx
  refine ⟨9,(f179.eq _ d.1 d.2.1 d.2.2.1 d.2.2.2.1 d.2.2.2.2).trans ?_⟩
  unfold mayF
  cases h1:liesB d.1 d.2.1 d.2.2.1 with
  |false=>rw [nF,cT,fA]
  |true =>
   rw [nT,cF,tA]
   cases h2:hasV d.1.1 d.2.2.2.1 with
   |false=>rw [nF,cT,fA]
   |true =>
    rw [nT,cF,tA]
    cases h3:hasV d.1.1 d.2.2.2.2 with
    |false=>rw [nF,cT,fA]
    |true =>
     rw [nT,cF,tA]
     cases h4:d.2.2.2.1==d.2.2.2.2 with
     |true=>rw [cT,nT,fA]
     |false =>
      have hc:=lies_caps h1
      have hp:=graphMay_parts (caps_graph hc)
      rw [cF,nF,tA,hc,kT,bS]
      exact f179.l0_is 0 d.1 d.2.2.1 _ _ ⟨hp.1,hp.2.1⟩
noncomputable def S214:Summ:=summ [tG,tL,tL,tI,tL] (List Int×Int) (fun (d:Gr×(List Int×(List Int×(Int×List Int))))=>some (moveOf d.1 d.2.1 d.2.2.1 d.2.2.2.1 d.2.2.2.2)) resLE
def moveRes (r:Option (List Int)):Option V:=match r with
 |some o=>some (resLE (o,0))
 |none=>some (resLE ([],901))
theorem f214.l1_is (k:Nat) {g:Gr} {cs:List Int} (hc:capsMay g cs=true) (b:Int) (hb:rateB b=true) (ws:List Int) (hw:ws.all (arcIn cs.length)=true) (h64:ws.length≤64):∀ (n i:Nat) (o:List Int),i≤ws.length→ws.length<n+i→withinF o cs=true →
  f214.l1 k n cs b ws (ws.length:Int) (i:Int) o=moveRes (moveL cs b o (ws.drop i))
 |0,i,o,h,h',_=>by omega
 |n+1,i,o,h,h',ho=>by
  have hb':=oD hb
  by_cases hlt:i<ws.length
  ·have hx:=gE hlt
   have ha:arcIn cs.length ws[i]=true:=List.all_eq_true.1 hw _ (List.getElem_mem hlt)
   have ha':=oD ha
   have hl:=withinF_len ho
   have h16:cs.length≤16:=by rw [capsMay_len hc];exact (graphMay_parts (caps_graph hc)).2.2.1
   have hr:=room_rate hc ho ha
   have hr':=oD hr
   have hL:=arcL_lt ha
   have hin:decide ((0:Int)≤arcL ws[i]∧arcL ws[i]<(o.length:Int))=true:=dT (by omega)
   have hM:maxRate=4611686018427387904:=rfl
   have hv:=within_at ho hL
   have hcl:=caps_le hc (List.mem_of_getElem? (rdI_get hL))
   rw [f214.l1_eq,idx_lt' hx,idx_in hx,cT,kT,rd_some (t:=tI) hx,show decide (cs.length≤16∧o.length=cs.length)=true from dT ⟨h16,hl⟩,tA,ha,tA,hr,kT,bS,
    wrap_succ (by omega),List.drop_eq_getElem_cons hlt]
   simp only [moveL]
   cases hd:decide (roomA cs o ws[i]<b) with
   |true=>rw [cT,cT];rfl
   |false =>
    have hd':=of_decide_eq_false hd
    rw [cF,cF,arc_tdiv (by omega),arc_tmod (by omega),chk_eq hin,chk_eq hin,chk_eq hin,chk_eq hin]
    have hmw:=moveA_within ho ha hb'.1 (b:=b) (by omega)
    unfold roomA at hd'
    have hm:(bif backB ws[i] then o.set (arcL ws[i]).toNat (Go.IntKind.i64.wrap (rd (Ty.int Go.IntKind.i64) o ((arcL ws[i]).toNat:Int)+Go.IntKind.i64.wrap (0 - b))) else o.set (arcL ws[i]).toNat (Go.IntKind.i64.wrap (rd (Ty.int Go.IntKind.i64) o ((arcL ws[i]).toNat:Int)+b)))=moveA o b ws[i]:=by
     unfold moveA
     cases hk:backB ws[i] with
     |true =>
      rw [hk,cT] at hd'
      rw [cT,cT,rdI_eq,rdI_nat,wrap64 (n:=0 - b) (by omega),wrap64 (by omega),show (0:Int) - b=-b by omega]
     |false =>
      rw [hk,cF] at hd'
      rw [cF,cF,rdI_eq,rdI_nat,wrap64 (by omega)]
    have ih:=f214.l1_is k hc b hb ws hw h64 n (i+1) (moveA o b ws[i]) (by omega) (by omega) hmw
    rw [← ih,← hm]
    cases backB ws[i] with
    |true=>rw [cT,cT]
    |false=>rw [cF,cF]
  ·obtain rfl:i=ws.length:=by omega
   rw [f214.l1_eq,end_lt,cF,List.drop_length]
   rfl
theorem f214.l0_is (k:Nat) {g:Gr} {cs f:List Int} (hc:capsMay g cs=true) (b:Int) (hb:rateB b=true) (hf:withinF f cs=true) (ws:List Int) (h64:ws.length≤64) :
  f214.l0 (k+65) (k+65) cs f b ws (ws.length:Int) 0=bif ws.any (fun a=>!arcIn cs.length a) then some (resLE ([],900)) else f214.l1 (k+65) (k+65) cs b ws (ws.length:Int) 0 f:=by
 have hl:=withinF_len hf
 have h16:cs.length≤16:=by rw [capsMay_len hc];exact (graphMay_parts (caps_graph hc)).2.2.1
 refine loop_any0 (fun n i=>f214.l0 (k+65) n cs f b ws (ws.length:Int) (i:Nat)) ws (fun a=>!arcIn cs.length a) (some (resLE ([],900))) _ (fun n i x hx=>?_) (fun n=>?_) (by omega)
 ·have:=idx_lt hx
  rw [f214.l0_eq,idx_lt' hx,idx_in hx,rd_some (t:=tI) hx,wrap_succ (by omega),cT,kT,wrap64 (n:=2*(f.length:Int)) (by omega)]
  unfold arcIn
  by_cases h1:x<0
  ·rw [show decide (x<0)=true from dT h1,cT,show decide (0≤x∧x<2*(cs.length:Int))=false from dF (by omega),nF,cT]
  ·by_cases h2:x ≥ 2*(f.length:Int)
   ·rw [show decide (x<0)=false from dF h1,cF,show decide (x ≥ 2*(f.length:Int))=true from dT h2,cT,show decide (0≤x∧x<2*(cs.length:Int))=false from dF (by omega),nF,cT]
   ·rw [show decide (x<0)=false from dF h1,cF,show decide (x ≥ 2*(f.length:Int))=false from dF h2,cF,show decide (0≤x∧x<2*(cs.length:Int))=true from dT (by omega),nT,cF]
 ·rw [f214.l0_eq,end_lt,cF,chk_eq (dT (by omega)),bS]
theorem ok214:SumOk Tryz.prog 214 S214 :=
 sumq f214.E (fn:=Tryz.f214) (code:=f214.code) f214.sums f214.inl fun (d:Gr×(List Int×(List Int×(Int×List Int)))) x hx=>by
  obtain ⟨g,cs,f,b,ws⟩:=d
  obtain rfl:=oJ hx
  refine ⟨65,(f214.eq _ g cs f b ws).trans ?_⟩
  show _=some (resLE (moveOf g cs f b ws))
  unfold moveOf moveForm
  cases h1:liesB g cs f with
  |false=>rw [nF,cT,fA,cF]
  |true =>
   rw [nT,cF,tA]
   cases h2:rateB b with
   |false=>rw [nF,cT,fA,cF]
   |true =>
    rw [nT,cF,tA]
    by_cases h3:ws.length≤64
    ·have h1':=h1
     simp only [liesB,bA] at h1'
     have e:=any_not (arcIn cs.length) ws
     rw [show decide ((ws.length:Int)>64)=false from dF (by omega),cF,dT h3,tA,withinF_len h1'.2,f214.l0_is 0 h1'.1 b h2 h1'.2 ws h3,e]
     cases h4:ws.all (arcIn cs.length) with
     |false=>rw [nF,cT,cF]
     |true =>
      rw [nT,cF,cT]
      refine (f214.l1_is _ h1'.1 b h2 ws h4 h3 _ 0 f (by omega) (by omega) h1'.2).trans ?_
      rw [List.drop_zero]
      cases moveL cs b f ws <;> rfl
    ·rw [show decide ((ws.length:Int)>64)=true from dT (by omega),cT,dF h3,fA,cF]
end
section
def scanS (gl:List Lk) (cs f:List Int) (v:Int) (s:List Int×List Int) (a:Int):List Int×List Int :=
 bif decide (rdI s.1 (arcTo gl a)<0)&&decide (roomA cs f a>0) then (s.1.set (arcTo gl a).toNat (rdI s.1 v+1),s.2++[arcTo gl a]) else s
def bfs (gl:List Lk) (cs f:List Int):Nat→List Int→List Int→List Int
 |0,o,_=>o
 |_+1,o,[]=>o
 |n+1,o,v::q=>bfs gl cs f n ((rowA gl v).foldl (scanS gl cs f v) (o,q)).1 ((rowA gl v).foldl (scanS gl cs f v) (o,q)).2
def negs (o:List Int):Nat:=o.countP fun x=>decide (x<0)
def levels0 (m:Nat) (src:Int):List Int:=(List.replicate m (-1)).set src.toNat 0
def levelsOf (g:Gr) (cs f:List Int) (src:Int):List Int:=bfs g.2 cs f 9 (levels0 g.1.toNat src) [src]
structure Lv (m:Nat) (o:List Int):Prop where
 len:o.length=m
 lo:∀ i:Int,0≤i∧i<(m:Int)→-1≤rdI o i∧rdI o i+(negs o:Int)+1≤(m:Int)
theorem countP_set_neg:∀ {o:List Int} {i:Nat} {x y:Int},o[i]? = some x→x<0→0≤y→negs (o.set i y)+1=negs o
 |z::o,0,x,y,h,hx,hy=>by
  simp only [List.getElem?_cons_zero,sI] at h
  subst h
  simp [negs,hx,Int.not_lt.2 hy]
 |z::o,i+1,x,y,h,hx,hy=>by
  have ih:=countP_set_neg (o:=o) (i:=i) (by simpa using h) hx hy
  simp only [negs,List.set_cons_succ,List.countP_cons] at ih ⊢
  omega
 | [],_,_,_,h,_,_=>by simp at h
theorem Lv.step {m:Nat} {o:List Int} (h:Lv m o) {v w:Int} (hv:0≤v∧v<(m:Int)) (hw:0≤w∧w<(m:Int)) (h0:0≤rdI o v) (hn:rdI o w<0) :
  Lv m (o.set w.toNat (rdI o v+1))∧negs (o.set w.toNat (rdI o v+1))+1=negs o:=by
 have hl:=h.len
 have hc:=countP_set_neg (rdI_get (f:=o) (i:=w) (by omega)) hn (by omega:0≤rdI o v+1)
 refine ⟨⟨by simpa using h.len,fun i hi=>?_⟩,hc⟩
 rw [rdI_set (by omega) (by omega)]
 have h1:=h.lo i hi
 have h2:=h.lo v hv
 cases hd:w==i with
 |true=>rw [cT];omega
 |false=>rw [cF];omega
theorem fold_inv {α β:Type} (f:β→α→β) (I:List α→β→Prop):∀ (l:List α) (s:β),(∀ a t s,I (a::t) s→I t (f s a))→I l s→I [] (l.foldl f s)
 | [],s,_,h=>h
 |a::l,s,hs,h=>fold_inv f I l (f s a) hs (hs a l s h)
theorem arcTo_in {g:Gr} (hg:graphMay g=true) {a:Int} (ha:arcIn g.2.length a=true):0≤arcTo g.2 a∧arcTo g.2 a<g.1:=by
 have hL:=arcL_lt ha
 have hi:(arcL a).toNat<g.2.length:=by omega
 have hx:=gE hi
 have:=link_at hg hx
 have e:lk g.2 (arcL a)=g.2[(arcL a).toNat]:=by
  have:=rd_some (t:=tLk) hx
  rw [show (((arcL a).toNat:Nat):Int)=arcL a by omega] at this
  exact this
 unfold arcTo
 rw [e]
 cases backB a with
 |true=>rw [cT];exact this.1
 |false=>rw [cF];exact this.2.1
theorem rowA_mem {gl:List Lk} {v a:Int}:a∈rowA gl v↔arcIn gl.length a=true∧arcFrom gl a=v:=by
 unfold rowA
 rw [List.mem_filter,upto_mem]
 constructor
 ·rintro ⟨h1,h2⟩
  exact ⟨dT (by omega),eq_of_beq h2⟩
 ·rintro ⟨h1,h2⟩
  have:=oD h1
  exact ⟨by omega,by rw [h2];simp⟩
structure Bf (g:Gr) (cs f:List Int) (src:Int) (o q:List Int):Prop where
 lv:Lv g.1.toNat o
 src0:rdI o src=0
 qIn:∀ v∈q,(0≤v∧v<g.1)∧0≤rdI o v
 back:∀ w,0≤w∧w<g.1→0≤rdI o w→w ≠ src→∃ v a,(0≤v∧v<g.1)∧a∈rowA g.2 v∧arcTo g.2 a=w∧roomA cs f a>0∧0≤rdI o v∧rdI o w=rdI o v+1
structure Bs (g:Gr) (cs f:List Int) (src v:Int) (t:List Int) (s:List Int×List Int):Prop where
 b:Bf g cs f src s.1 s.2
 vIn:(0≤v∧v<g.1)∧0≤rdI s.1 v
 sub:∀ a∈t,a∈rowA g.2 v
 done:∀ a∈rowA g.2 v,a ∉ t→roomA cs f a>0→0≤rdI s.1 (arcTo g.2 a)
 old:∀ u,0≤u∧u<g.1→0≤rdI s.1 u→u ∉ s.2→u ≠ v→∀ a∈rowA g.2 u,roomA cs f a>0→0≤rdI s.1 (arcTo g.2 a)
theorem Bs.step {g:Gr} (hg:graphMay g=true) {cs f:List Int} {src v a:Int} {t:List Int} {s:List Int×List Int} (hsrc:0≤src∧src<g.1) (h:Bs g cs f src v (a::t) s):Bs g cs f src v t (scanS g.2 cs f v s a):=by
 obtain ⟨o,q⟩:=s
 have ha:=h.sub a (by simp)
 have hto:=arcTo_in hg (rowA_mem.1 ha).1
 have hl:o.length=g.1.toNat:=h.b.lv.len
 unfold scanS
 cases hd:decide (rdI o (arcTo g.2 a)<0)&&decide (roomA cs f a>0) with
 |false =>
  rw [cF]
  refine ⟨h.b,h.vIn,fun b hb=>h.sub b (by simp [hb]),fun b hb hn hr=>?_,h.old⟩
  by_cases hba:b=a
  ·subst hba
   by_cases hx:rdI o (arcTo g.2 b)<0
   ·rw [dT hx,dT hr] at hd
    cases hd
   ·exact Int.not_lt.1 hx
  ·exact h.done b hb (by simp [hba,hn]) hr
 |true =>
  rw [cT]
  rw [bA] at hd
  have hn:=oD hd.1
  have hr:=oD hd.2
  have hv0:0≤rdI o v:=h.vIn.2
  obtain ⟨h1,h2⟩:=h.b.lv.step (v:=v) (w:=arcTo g.2 a) (by have:=h.vIn.1;omega) (by omega) hv0 hn
  have at_:∀ i,0≤i∧i<g.1→rdI (o.set (arcTo g.2 a).toNat (rdI o v+1)) i=bif arcTo g.2 a==i then rdI o v+1 else rdI o i:=fun i hi=>rdI_set (by omega) (by omega)
  have keep:∀ i,0≤i∧i<g.1→0≤rdI o i→rdI (o.set (arcTo g.2 a).toNat (rdI o v+1)) i=rdI o i:=fun i hi h0=>by
   rw [at_ i hi,show (arcTo g.2 a==i)=false from beq_eq_false_iff_ne.2 (fun e=>by rw [e] at hn;omega),cF]
  have new:rdI (o.set (arcTo g.2 a).toNat (rdI o v+1)) (arcTo g.2 a)=rdI o v+1:=by
   rw [at_ _ hto,show (arcTo g.2 a==arcTo g.2 a)=true by simp,cT]
  have mono:∀ i,0≤i∧i<g.1→0≤rdI o i→0≤rdI (o.set (arcTo g.2 a).toNat (rdI o v+1)) i:=fun i hi h0=>by rw [keep i hi h0];exact h0
  have was:∀ i,0≤i∧i<g.1→0≤rdI (o.set (arcTo g.2 a).toNat (rdI o v+1)) i→i ≠ arcTo g.2 a→0≤rdI o i:=fun i hi h0 hne=>by
   rw [at_ i hi,show (arcTo g.2 a==i)=false from beq_eq_false_iff_ne.2 (Ne.symm hne),cF] at h0
   exact h0
  refine ⟨⟨h1,?_,fun u hu=>?_,fun w hw h0 hws=>?_⟩,⟨h.vIn.1,mono _ h.vIn.1 hv0⟩,fun b hb=>h.sub b (by simp [hb]),fun b hb hnb hrb=>?_,fun u hu h0 hq hne b hb hrb=>?_⟩
  ·rw [keep _ hsrc (by rw [h.b.src0];exact Int.le_refl _)]
   exact h.b.src0
  ·rcases List.mem_append.1 hu with hu|hu
   ·obtain ⟨u1,u2⟩:=h.b.qIn u hu
    exact ⟨u1,mono _ u1 u2⟩
   ·obtain rfl:u=arcTo g.2 a:=by simpa using hu
    exact ⟨hto,by dsimp only;rw [new];omega⟩
  ·by_cases he:w=arcTo g.2 a
   ·subst he
    refine ⟨v,a,h.vIn.1,ha,rfl,hr,mono _ h.vIn.1 hv0,?_⟩
    dsimp only
    rw [new,keep _ h.vIn.1 hv0]
   ·have hw0:=was w hw h0 he
    obtain ⟨u,b,u1,u2,u3,u4,u5,u6⟩:=h.b.back w hw hw0 hws
    exact ⟨u,b,u1,u2,u3,u4,mono _ u1 u5,by dsimp only;rw [keep _ hw hw0,keep _ u1 u5];exact u6⟩
  ·have hbt:=arcTo_in hg (rowA_mem.1 hb).1
   by_cases hba:b=a
   ·subst hba
    dsimp only
    rw [new]
    omega
   ·exact mono _ hbt (h.done b hb (by simp [hba,hnb]) hrb)
  ·have hbt:=arcTo_in hg (rowA_mem.1 hb).1
   by_cases hua:u=arcTo g.2 a
   ·exact absurd (List.mem_append.2 (.inr (by simp [hua]))) hq
   ·exact mono _ hbt (h.old u hu (was u hu h0 hua) (fun hm=>hq (List.mem_append.2 (.inl hm))) hne b hb hrb)
theorem scan_count {g:Gr} (hg:graphMay g=true) {cs f:List Int} {src v:Int} (hsrc:0≤src∧src<g.1) {l:List Int} {s:List Int×List Int} (h:Bs g cs f src v l s) :
  negs (l.foldl (scanS g.2 cs f v) s).1+(l.foldl (scanS g.2 cs f v) s).2.length=negs s.1+s.2.length:=by
 induction l generalizing s with
 |nil=>rfl
 |cons a l ih =>
  rw [List.foldl_cons,ih (h.step hg hsrc)]
  obtain ⟨o,q⟩:=s
  unfold scanS
  cases hd:decide (rdI o (arcTo g.2 a)<0)&&decide (roomA cs f a>0) with
  |false=>rw [cF]
  |true =>
   rw [cT]
   rw [bA] at hd
   have ha:=h.sub a (by simp)
   have hto:=arcTo_in hg (rowA_mem.1 ha).1
   obtain ⟨_,h2⟩:=h.b.lv.step (v:=v) (w:=arcTo g.2 a) (by have:=h.vIn.1;omega) (by omega) h.vIn.2 (oD hd.1)
   simp only [lA,List.length_singleton] at h2 ⊢
   omega
structure LevelsOk (g:Gr) (cs f:List Int) (src:Int) (o:List Int):Prop where
 lv:Lv g.1.toNat o
 src0:rdI o src=0
 back:∀ w,0≤w∧w<g.1→0≤rdI o w→w ≠ src→∃ v a,(0≤v∧v<g.1)∧a∈rowA g.2 v∧arcTo g.2 a=w∧roomA cs f a>0∧0≤rdI o v∧rdI o w=rdI o v+1
 on:∀ u,0≤u∧u<g.1→0≤rdI o u→∀ a∈rowA g.2 u,roomA cs f a>0→0≤rdI o (arcTo g.2 a)
theorem Bs.start {g:Gr} {cs f:List Int} {src v:Int} {o q:List Int} (h:Bf g cs f src o (v::q))
  (hold:∀ u,0≤u∧u<g.1→0≤rdI o u→u ∉ v::q→∀ a∈rowA g.2 u,roomA cs f a>0→0≤rdI o (arcTo g.2 a)):Bs g cs f src v (rowA g.2 v) (o,q) :=
 ⟨⟨h.lv,h.src0,fun u hu=>h.qIn u (by simp [hu]),h.back⟩,h.qIn v (by simp),fun a ha=>ha,fun a ha hn=>absurd ha hn,fun u hu h0 hq hne=>hold u hu h0 (by simp [hne];exact hq)⟩
theorem bfs_ok {g:Gr} (hg:graphMay g=true) {cs f:List Int} {src:Int} (hsrc:0≤src∧src<g.1):∀ (n:Nat) (o q:List Int),Bf g cs f src o q →
  (∀ u,0≤u∧u<g.1→0≤rdI o u→u ∉ q→∀ a∈rowA g.2 u,roomA cs f a>0→0≤rdI o (arcTo g.2 a))→negs o+q.length<n→LevelsOk g cs f src (bfs g.2 cs f n o q)
 |0,o,q,_,_,h=>by omega
 |n+1,o,[],hb,hold,h=>⟨hb.lv,hb.src0,hb.back,fun u hu h0=>hold u hu h0 (by simp)⟩
 |n+1,o,v::q,hb,hold,h=>by
  have hs:=Bs.start hb hold
  have hc:=scan_count hg hsrc hs
  have he:=fold_inv (scanS g.2 cs f v) (Bs g cs f src v) (rowA g.2 v) (o,q) (fun a t s hst=>hst.step hg hsrc) hs
  simp only [bfs]
  refine bfs_ok hg hsrc n _ _ he.b (fun u hu h0 hq a ha hr=>?_) (by simp only [List.length_cons] at h;dsimp only at hc;omega)
  by_cases huv:u=v
  ·subst huv
   exact he.done a ha (by simp) hr
  ·exact he.old u hu h0 hq huv a ha hr
theorem negs_replicate (m:Nat):negs (List.replicate m (-1))=m:=by simp [negs,List.countP_replicate]
theorem rdI_replicate {m:Nat} {x i:Int} (h:0≤i∧i<(m:Int)):rdI (List.replicate m x) i=x:=by
 have:=rdI_get (f:=List.replicate m x) (i:=i) (by simpa using h)
 rw [List.getElem?_replicate,if_pos (by omega)] at this
 exact (oJ this).symm
theorem levels0_ok {g:Gr} {cs f:List Int} {src:Int} (hsrc:0≤src∧src<g.1):Bf g cs f src (levels0 g.1.toNat src) [src]∧negs (levels0 g.1.toNat src)+1=g.1.toNat:=by
 have at_:∀ i,0≤i∧i<g.1→rdI (levels0 g.1.toNat src) i=bif src==i then 0 else -1:=fun i hi=>by
  unfold levels0
  rw [rdI_set (by simp;omega) (by simp;omega),rdI_replicate (by omega)]
 have hc:negs (levels0 g.1.toNat src)+1=g.1.toNat:=by
  have:=countP_set_neg (o:=List.replicate g.1.toNat (-1)) (i:=src.toNat) (x:=-1) (y:=0) (by rw [List.getElem?_replicate,if_pos (by omega)]) (by omega) (by omega)
  rw [negs_replicate] at this
  exact this
 refine ⟨⟨⟨by simp [levels0],fun i hi=>?_⟩,?_,fun v hv=>?_,fun w hw h0 hne=>?_⟩,hc⟩
 ·rw [at_ i (by omega)]
  cases src==i <;> simp only [cT,cF] <;> omega
 ·rw [at_ _ hsrc,show (src==src)=true by simp,cT]
 ·obtain rfl:v=src:=by simpa using hv
  exact ⟨hsrc,by rw [at_ _ hsrc,show (v==v)=true by simp,cT];exact Int.le_refl _⟩
 ·rw [at_ w hw,show (src==w)=false from beq_eq_false_iff_ne.2 (Ne.symm hne),cF] at h0
  omega
theorem levels_ok {g:Gr} (hg:graphMay g=true) {cs f:List Int} {src:Int} (hsrc:0≤src∧src<g.1):LevelsOk g cs f src (levelsOf g cs f src):=by
 obtain ⟨h1,h2⟩:=levels0_ok (g:=g) (cs:=cs) (f:=f) hsrc
 have hp:=graphMay_parts hg
 refine bfs_ok hg hsrc 9 _ _ h1 (fun u hu h0 hq=>?_) (by simp only [List.length_singleton];omega)
 have hne:src ≠ u:=fun e=>hq (by simp [e])
 have:rdI (levels0 g.1.toNat src) u=-1:=by
  unfold levels0
  rw [rdI_set (by simp;omega) (by simp;omega),rdI_replicate (by omega),show (src==u)=false from beq_eq_false_iff_ne.2 hne,cF]
 omega
end
section
set_option maxRecDepth 100000
noncomputable def f178.E (k:Nat):Env:=mkEnv tt [(121,S121),(210,S210),(215,S215),(216,S216),(217,S217)] [] [(178,11,[.kill (rg [(0,0),(3,9),(11,11),(15,67),(71,104)]),.tidy]),(178,7,[.kill (rg [(0,0),(3,9),(11,11),(14,104)]),.reb 1,.reb 2,.reb 10,.reb 12,.reb 13,.tidy])] [] k
noncomputable def f178.code:Go.Code:=cd Tryz.f178
noncomputable def f178.l0 (k n:Nat) (p0:List Int) (p1:List Int) (p2:List Int) (p3:List Int) (p4:List Int) (p5:List Int) (p6:List Int):Option V :=
 atPath (f178.E k) n ⟨(.u::(.ro qI p0)::(.ro qI p1)::.u::.u::.u::.u::.u::.u::.u::(.ptr 2621456 (0) (0))::.u::(.slw 3145744)::(.slw 3407888)::un 91),[],[(2621456,.box [(.slw 687198961712),(.slw 687198961776),(.slw 687198961840)]),(3145744,.row qI p2),(3407888,.row qI p3),(687198961712,.row qI p4),(687198961776,.row qI p5),(687198961840,.row qI p6)]⟩ 9 0 178 [.c 1,.c 1,.c 1,.c 1,.c 1,.c 0,.c 1,.c 0] [] f178.code (finK tt Tryz.f178)
noncomputable def f178.l1 (k n m0:Nat) (p0:List Int) (p1:List Int) (p2:Int) (p3:Nat) (p4:Nat) (p5:Int) (p6:Int) (p7:List Int) (p8:List Int) (p9:List Int) (p10:List Int) (p11:List Int):Option V :=
 atPath (f178.E k) n ⟨(.u::(.ro qI p0)::(.ro qI p1)::.u::.u::.u::.u::.u::.u::.u::(.ptr 2621456 (0) (0))::.u::(.slw 3145744)::(.slw 3407888)::(.int .i64 p2)::.u::.u::.u::.u::.u::.u::.u::.u::.u::.u::.u::.u::.u::.u::.u::.u::.u::.u::.u::.u::.u::.u::.u::.u::.u::.u::.u::.u::.u::.u::.u::.u::.u::.u::.u::.u::.u::.u::.u::.u::.u::.u::.u::.u::.u::.u::.u::.u::.u::.u::.u::.u::.u::(.sl 687198961776 p3 p4)::(.int .i64 p5)::(.int .i64 p6)::un 34),[],[(2621456,.box [(.slw 687198961712),(.slw 687198961776),(.slw 687198961840)]),(3145744,.row qI p7),(3407888,.row qI p8),(687198961712,.row qI p9),(687198961776,.row qI p10),(687198961840,.row qI p11)]⟩ 9 0 178 [.c 1,.c 1,.c 1,.c 1,.c 1,.c 0,.c 1,.c 0,.c 0,.c 1,.c 0,.c 0,.c 1,.c 1,.c 0] [m0] f178.code (finK tt Tryz.f178)
theorem f178.l0_eq (k n:Nat) (p0:List Int) (p1:List Int) (p2:List Int) (p3:List Int) (p4:List Int) (p5:List Int) (p6:List Int):f178.l0 k (n+1) p0 p1 p2 p3 p4 p5 p6 =
 bif decide ((↑p3.length:Int)>(0:Int)) then (chk (decide ((0:Int)≤(0:Int)∧(0:Int)<(↑p3.length:Int))) (chk (decide ((0:Int)≤rd qI p3 (↑(0:Nat):Int)∧rd qI p3 (↑(0:Nat):Int)<(↑p4.length:Int))) (chk (decide ((0:Int)≤Go.IntKind.i64.wrap (rd qI p3 (↑(0:Nat):Int)+(1:Int))∧Go.IntKind.i64.wrap (rd qI p3 (↑(0:Nat):Int)+(1:Int))<(↑p4.length:Int))) (chk (decide ((0:Int)≤rd qI p4 (↑(Int.toNat (rd qI p3 (↑(0:Nat):Int))):Int)∧rd qI p4 (↑(Int.toNat (rd qI p3 (↑(0:Nat):Int))):Int)≤rd qI p4 (↑(Go.IntKind.i64.wrap (rd qI p3 (↑(0:Nat):Int)+(1:Int))).toNat:Int))) (chk (decide (rd qI p4 (↑(Go.IntKind.i64.wrap (rd qI p3 (↑(0:Nat):Int)+(1:Int))).toNat:Int)≤(↑p5.length:Int))) (f178.l1 k k n p0 p1 (rd qI p3 (↑(0:Nat):Int)) (Int.toNat (rd qI p4 (↑(Int.toNat (rd qI p3 (↑(0:Nat):Int))):Int))) (Int.toNat (rd qI p4 (↑(Go.IntKind.i64.wrap (rd qI p3 (↑(0:Nat):Int)+(1:Int))).toNat:Int)) - Int.toNat (rd qI p4 (↑(Int.toNat (rd qI p3 (↑(0:Nat):Int))):Int))) ((↑(Int.toNat (rd qI p4 (↑(Go.IntKind.i64.wrap (rd qI p3 (↑(0:Nat):Int)+(1:Int))).toNat:Int)) - Int.toNat (rd qI p4 (↑(Int.toNat (rd qI p3 (↑(0:Nat):Int))):Int))):Int)) 0 p2 p3 p4 p5 p6)))))) else (some (.tup [(.own qI p2),(.int .i64 0)])):=by kernel_rfl
theorem f178.l1_eq (k n m0:Nat) (p0:List Int) (p1:List Int) (p2:Int) (p3:Nat) (p4:Nat) (p5:Int) (p6:Int) (p7:List Int) (p8:List Int) (p9:List Int) (p10:List Int) (p11:List Int):f178.l1 k (n+1) m0 p0 p1 p2 p3 p4 p5 p6 p7 p8 p9 p10 p11 =
 bif decide (p6<p5) then (chk (decide ((0:Int)≤p6∧p6<(↑p4:Int))) (chk (decide ((0:Int)≤rd qI p10 (↑(p3+p6.toNat):Int)∧rd qI p10 (↑(p3+p6.toNat):Int)<(↑p11.length:Int))) (chk (decide ((0:Int)≤rd qI p11 (↑(Int.toNat (rd qI p10 (↑(p3+p6.toNat):Int))):Int)∧rd qI p11 (↑(Int.toNat (rd qI p10 (↑(p3+p6.toNat):Int))):Int)<(↑p7.length:Int))) (bif decide (rd qI p7 (↑(Int.toNat (rd qI p11 (↑(Int.toNat (rd qI p10 (↑(p3+p6.toNat):Int))):Int))):Int)<(0:Int)) then ((chk (decide (p0.length≤16∧p1.length=p0.length)&&(arcIn p0.length (rd qI p10 (↑(p3+p6.toNat):Int))&&rateB (roomA p0 p1 (rd qI p10 (↑(p3+p6.toNat):Int))))) (some (roomA p0 p1 (rd qI p10 (↑(p3+p6.toNat):Int))))).bind (fun y0=>bif decide (y0>(0:Int)) then (chk (decide ((0:Int)≤p2∧p2<(↑p7.length:Int))) (chk (decide ((0:Int)≤rd qI p11 (↑(Int.toNat (rd qI p10 (↑(p3+p6.toNat):Int))):Int)∧rd qI p11 (↑(Int.toNat (rd qI p10 (↑(p3+p6.toNat):Int))):Int)<(↑p7.length:Int))) (chk (decide ((p8++[rd qI p11 (↑(Int.toNat (rd qI p10 (↑(p3+p6.toNat):Int))):Int)]).length*8≤140737488355328)) (f178.l1 k n m0 p0 p1 p2 p3 p4 p5 (Go.IntKind.i64.wrap (p6+(1:Int))) (p7.set (Int.toNat (rd qI p11 (↑(Int.toNat (rd qI p10 (↑(p3+p6.toNat):Int))):Int))) (Go.IntKind.i64.wrap (rd qI p7 (↑p2.toNat:Int)+(1:Int)))) (p8++[rd qI p11 (↑(Int.toNat (rd qI p10 (↑(p3+p6.toNat):Int))):Int)]) p9 p10 p11)))) else (f178.l1 k n m0 p0 p1 p2 p3 p4 p5 (Go.IntKind.i64.wrap (p6+(1:Int))) p7 p8 p9 p10 p11))) else (f178.l1 k n m0 p0 p1 p2 p3 p4 p5 (Go.IntKind.i64.wrap (p6+(1:Int))) p7 p8 p9 p10 p11))))) else (chk (decide ((0:Int)≤(1:Int)∧(1:Int)≤(↑p8.length:Int))) (chk (decide ((↑p8.length:Int)≤(↑p8.length:Int))) (f178.l0 k m0 p0 p1 p7 (List.take ((↑p8.length:Int).toNat - 1) (List.drop 1 p8)) p9 p10 p11))):=by kernel_rfl
theorem f178.eq (k:Nat) (x0:Int×List (eL)) (x1:List Int) (x2:List Int) (x3:Int):evFn (f178.E k) 9 178 Tryz.f178 (encL [(.pair qI (.list qL)),(.list qI),(.list qI),qI] (x0,x1,x2,x3)) =
 (chk (graphMay x0) (some ((startsA x0.2 (Int.toNat x0.1),orderA x0.2 (Int.toNat x0.1),headsA x0.2)))).bind (fun y0=>bif !liesB x0 x1 x2 then (some (.tup [(.own qI ([])),(.int .i64 1000)])) else (bif !hasV x0.1 x3 then (some (.tup [(.own qI ([])),(.int .i64 1000)])) else ((chk ([(-1:Int)]==[(-1:Int)]&&decide ((1:Int)≤x0.1∧x0.1≤(8:Int))) (some (List.replicate (Int.toNat x0.1) (-1:Int)))).bind (fun y1=>chk (decide ((0:Int)≤x3∧x3<(↑y1.length:Int))) (f178.l0 k k x1 x2 (y1.set x3.toNat (0:Int)) ([x3]) y0.1 y0.2.1 y0.2.2))))):=by kernel_rfl
theorem f178.inl (k:Nat):InlOk Tryz.prog (f178.E k):=inl_nil
theorem f178.sums (k:Nat):SumsOk Tryz.prog (f178.E k):=(sums_cons ok121 (sums_cons ok210 (sums_cons ok215 (sums_cons ok216 (sums_cons ok217 sums_nil)))))
end
end Go.Proofs.YtkflbkcfabnomaaGreat.R
