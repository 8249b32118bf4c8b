import Derived.Test.YtkflbkcfabnomaaGreatP10f
import Derived.Test.YtkflbkcfabnomaaGreatRows
import Derived.WalkKit
import Derived.ProofKit
namespace Go.Proofs.YtkflbkcfabnomaaGreat.R
set_option linter.unusedVariables false
set_option linter.unusedSimpArgs false
section
theorem withinL_ofq:∀ {cs:List Int} {ls:List Lk},cs.length=ls.length→(∀ (i:Nat) c l,cs[i]? = some c→ls[i]? = some l→0≤c∧c≤l.2.2)→withinL cs ls=true
 | [],[],_,_=>rfl
 | [],_::_,h,_=>by simp at h
 |_::_,[],h,_=>by simp at h
 |c::cs,l::ls,h,hall=>by
  unfold withinL
  rw [decide_eq_true (hall 0 c l rfl rfl),withinL_ofq (by simpa using h) fun i c l h1 h2=>hall (i+1) c l (by simpa using h1) (by simpa using h2)]
  rfl
theorem rooms_may {b:Bk} (h:bookMayB b=true) (t but:Int):capsMay b.1 (roomsV b t but)=true:=by
 unfold capsMay
 rw [(form_parts (book_ok h).1.1).1,Bool.true_and]
 refine withinL_ofq (roomsV_len b t but) fun i c l h1 h2=>?_
 have hi:=idx_lt h2
 rw [roomsV_get b t but hi] at h1
 have h3:=book_load h hi t but
 have h4:capAt b i=l.2.2:=by
  unfold capAt
  rw [rd_some (t:=tLk) h2]
 injection h1 with h1
 omega
theorem spans_ok:∀ (P:List Int) (f:Int),0≤f→P.Pairwise (· < ·)→(∀ x∈P,f<x∧x≤4096)→∀ c∈spansFrom f P,spanMay c=true
 | [],f,_,_,_,c,hc=>by simp [spansFrom] at hc
 |t::P,f,h0,hp,hall,c,hc=>by
  have ht:=hall t (List.mem_cons_self ..)
  rw [List.pairwise_cons] at hp
  simp only [spansFrom,List.mem_cons] at hc
  rcases hc with rfl|hc
  ·exact decide_eq_true ⟨h0,ht.1,ht.2⟩
  ·exact spans_ok P t (by omega) hp.2 (fun x hx=>⟨hp.1 x hx,(hall x (List.mem_cons_of_mem _ hx)).2⟩) c hc
theorem slices_ok {b:Bk} {s:Int×Int} {but:Int} (hb:bookMayB b=true) (hs:spanMay s=true):(slicesQ b s but).1.all (sgOk b.1)=true:=by
 have h1:=span_lo hs
 unfold slicesQ
 rw [hb,hs]
 show (slicesB b s but).all (sgOk b.1)=true
 refine List.all_eq_true.2 fun x hx=>?_
 unfold slicesB at hx
 obtain ⟨c,hc,rfl⟩:=List.mem_map.1 hx
 unfold spansB cutsOf at hc
 rw [hs,cT] at hc
 obtain ⟨h2,h3⟩:=cutPts_spec s (ptsB but b.list)
 have h4:=spans_ok _ s.1 h1.1 h2 (fun x hx=>by
  rcases (h3 x).1 hx with rfl|⟨_,h5,h6⟩ <;> omega) c hc
 unfold sgOk
 rw [h4,rooms_may hb,Bool.and_self]
theorem walkL_ends {gl:List Lk} {n:Int} (hg:gl.all (linkOk n)=true):∀ {ls:List Int} {v:Int} {vs:List Int},ls.all (lkIn gl)=true→walkL gl v ls=some vs→vs.length=ls.length∧∀ x∈vs,hasV n x=true
 | [],v,vs,_,h=>by
  simp only [walkL,Option.some.injEq] at h
  subst h
  simp
 |l::ls,v,vs,hl,h=>by
  simp only [List.all_cons,Bool.and_eq_true] at hl
  unfold walkL at h
  cases hc:(lk gl l).1==v with
  |false=>rw [hc,cF] at h;cases h
  |true =>
   rw [hc,cT] at h
   cases hw:walkL gl (lk gl l).2.1 ls with
   |none=>rw [hw] at h;cases h
   |some us =>
    rw [hw] at h
    simp only [Option.map_some,Option.some.injEq] at h
    subst h
    obtain ⟨h1,h2⟩:=walkL_ends hg hl.2 hw
    refine ⟨by simp [h1],fun x hx=>?_⟩
    rcases List.mem_cons.1 hx with rfl|hx
    ·have h3:=of_decide_eq_true hl.1
     have hx:gl[l.toNat]? = some gl[l.toNat]:=List.getElem?_eq_getElem (by omega)
     have h4:=List.all_eq_true.1 hg _ (List.mem_of_getElem? hx)
     unfold linkOk at h4
     simp only [Bool.and_eq_true] at h4
     have h5:lk gl l=gl[l.toNat]:=by
      have:=rd_some (t:=tLk) hx
      rw [Int.toNat_of_nonneg h3.1] at this
      exact this
     rw [h5]
     exact h4.2.1
    ·exact h2 x hx
theorem path_ends {g:Gr} {src dst:Int} {ls:List Int} (h:pathB g src dst ls=true):hasV g.1 src=true∧hasV g.1 dst=true∧(src==dst)=false:=by
 unfold pathB walkOf at h
 cases hf:walkForm g src ls with
 |false=>rw [hf] at h;exact absurd h (by simp)
 |true =>
  cases hw:walkL g.2 src ls with
  |none=>rw [hf,hw] at h;exact absurd h (by simp)
  |some vs =>
   rw [hf,hw] at h
   simp only [cT,Bool.and_eq_true,decide_eq_true_eq,beq_iff_eq] at h
   obtain ⟨_,h1,h2,h3⟩:=h
   unfold walkForm graphMay shapeB at hf
   simp only [Bool.and_eq_true,decide_eq_true_eq] at hf
   obtain ⟨⟨⟨_,_,hg⟩,_⟩,h4,_,h5⟩:=hf
   obtain ⟨h6,h7⟩:=walkL_ends hg h5 hw
   have hx:(src::vs)[ls.length]? = some vs[ls.length - 1]:=by
    obtain ⟨m,hm⟩:∃ m,ls.length=m+1:=⟨ls.length - 1,by omega⟩
    have:m<vs.length:=by omega
    simp only [hm,List.getElem?_cons_succ,Nat.add_sub_cancel]
    exact List.getElem?_eq_getElem this
   have h8:=rd_some (t:=tI) hx
   have h8:rd tI (src::vs) (ls.length:Int)=vs[ls.length - 1]:=h8
   rw [h8] at h2
   have hmem:dst∈vs:=by rw [← h2];exact List.getElem_mem _
   refine ⟨h4,h7 _ hmem,?_⟩
   rw [List.nodup_cons] at h3
   exact beq_eq_false_iff_ne.2 fun e=>h3.1 (by rw [e];exact hmem)
theorem snap_is {b:Bk} {ms:List Int} {o:Int} {q:Rq} (h1:(snapQ b ms o q).2=0) (h2:(snapQ b ms o q).1.2.1=0) :
  (lookQ b o q).2=0∧(lookQ b o q).1=0∧asksB q=true∧(snapQ b ms o q).1=((0,[]),0,(wishOf b q).1,(wishOf b q).2.1,q.2.2.2.2.2,(wishOf b q).2.2,(markOf ms q.1).1,[]):=by
 unfold snapQ at h1 h2 ⊢
 cases e1:(lookQ b o q).2 != 0 with
 |true=>rw [e1] at h1;exact absurd (show (2600:Int)=0 from h1) (by decide)
 |false =>
  cases e2:marksMay ms with
  |false=>rw [e1,e2] at h1;exact absurd (show (2600:Int)=0 from h1) (by decide)
  |true =>
   cases e3:asksB q with
   |false=>rw [e1,e2,e3] at h1;exact absurd (show (2600:Int)=0 from h1) (by decide)
   |true =>
    rw [e1,e2,e3] at h2
    simp only [Bool.not_true,cF] at h2
    cases e4:(lookQ b o q).1 != 0 with
    |true=>rw [e4] at h2;simp only [cT] at h2;simp [h2] at e4
    |false=>exact ⟨by simpa using e1,by simpa using e4,rfl,rfl⟩
theorem code_parts {b:Bk} {o:Int} {q:Rq} (hl:(lookQ b o q).2=0) (hc:(lookQ b o q).1=0) (ha:asksB q=true) :
  spanMay q.1=true∧(q.2.2.2.2.2==0)=false∧(q.2.1=1→hasV b.1.1 q.2.2.2.1=true∧hasV b.1.1 q.2.2.2.2.1=true∧(q.2.2.2.1==q.2.2.2.2.1)=false)∧(q.2.1=2→0≤placeOf b q.2.2.1):=by
 have h:=look_code hl hc
 have hsp:inTime b q=true→spanMay q.1=true:=by
  intro ht
  unfold inTime at ht
  revert ht
  cases spanMay q.1 <;> simp
 unfold codeOf at h
 rcases asks_kinds ha with hk|hk
 ·rw [show (q.2.1==1)=true by rw [hk];rfl,cT] at h
  unfold codeR at h
  cases h1:hasV b.1.1 q.2.2.2.1 with
  |false=>rw [h1] at h;exact absurd h (by simp)
  |true =>
   cases h2:hasV b.1.1 q.2.2.2.2.1 with
   |false=>rw [h1,h2] at h;exact absurd h (by simp)
   |true =>
    cases h3:q.2.2.2.1==q.2.2.2.2.1 with
    |true=>rw [h1,h2,h3] at h;exact absurd h (by simp)
    |false =>
     cases h4:inTime b q with
     |false=>rw [h1,h2,h3,h4] at h;exact absurd h (by simp)
     |true =>
      cases h5:q.2.2.2.2.2==0 with
      |true=>rw [h1,h2,h3,h4,h5] at h;exact absurd h (by simp)
      |false=>exact ⟨hsp h4,rfl,fun _=>⟨rfl,rfl,rfl⟩,fun e=>by rw [hk] at e;exact absurd e (by decide)⟩
 ·rw [show (q.2.1==1)=false by rw [hk];rfl,show (q.2.1==2)=true by rw [hk];rfl,cF,cT] at h
  unfold codeM at h
  cases ho:ownCode b o q.2.2.1 != 0 with
  |true=>rw [ho,cT] at h;simp [h] at ho
  |false =>
   rw [ho,cF] at h
   cases h4:inTime b q with
   |false=>rw [h4] at h;exact absurd h (by simp)
   |true =>
    cases h5:q.2.2.2.2.2==0 with
    |true=>rw [h4,h5] at h;exact absurd h (by simp)
    |false=>exact ⟨hsp h4,rfl,fun e=>by rw [hk] at e;exact absurd e (by decide),fun _=>own_place (o:=o) (by simpa using ho)⟩
theorem wish_ends {b:Bk} {o:Int} {q:Rq} (hl:(lookQ b o q).2=0) (hc:(lookQ b o q).1=0) (ha:asksB q=true) :
  hasV b.1.1 (wishOf b q).1=true∧hasV b.1.1 (wishOf b q).2.1=true∧((wishOf b q).1==(wishOf b q).2.1)=false:=by
 obtain ⟨_,_,h1,h2⟩:=code_parts hl hc ha
 have hb:=(look_book hl).1
 unfold wishOf
 rcases asks_kinds ha with hk|hk
 ·rw [show (q.2.1==2)=false by rw [hk];rfl]
  exact h1 hk
 ·rw [show (q.2.1==2)=true by rw [hk];rfl]
  have hp:=h2 hk
  have hp2:=place_lt hp
  have hx:b.2.2.2.2[(placeOf b q.2.2.1).toNat]? = some b.2.2.2.2[(placeOf b q.2.2.1).toNat]:=List.getElem?_eq_getElem (by omega)
  have hg:getQ b q.2.2.1=(b.2.2.2.2[(placeOf b q.2.2.1).toNat],true,0):=by
   unfold getQ
   rw [hb,cT,show b.list[(placeOf b q.2.2.1).toNat]? = some b.2.2.2.2[(placeOf b q.2.2.1).toNat] from hx]
   dsimp only
   rw [decide_eq_false (by omega),cF]
  rw [hg]
  have hr:=(book_ok hb).1.2 _ (List.mem_of_getElem? hx)
  unfold resMayB at hr
  simp only [Bool.and_eq_true,decide_eq_true_eq,List.all_eq_true] at hr
  obtain ⟨_,_,_,_,h3,_,h4⟩:=hr
  simp only [cT]
  generalize b.2.2.2.2[(placeOf b q.2.2.1).toNat]=r at *
  cases hps:r.pcs with
  |nil=>rw [hps] at h3;simp at h3
  |cons p ps =>
   have h5:=h4 p (by rw [hps];exact List.mem_cons_self ..)
   unfold mayB at h5
   simp only [Bool.and_eq_true,decide_eq_true_eq,List.all_eq_true,beq_iff_eq] at h5
   obtain ⟨_,h6,_,h7,h8⟩:=h5
   cases hqs:p.2 with
   |nil=>rw [hqs] at h8;simp [ratesOf,sumUp] at h8;omega
   |cons w ws =>
    exact path_ends (h7 w (by rw [hqs];exact List.mem_cons_self ..)).2
end
section
set_option maxRecDepth 100000
set_option linter.unusedVariables false
end
section
theorem sz_pcs {ps:List Pc} (h:SzD (.list tPc') ps):pcsMem ps=true∧smallPcs ps=true:=by
 obtain ⟨h1,h2⟩:=h
 have h1:ps.length*40≤reachBytes:=h1
 simp only [reachBytes] at h1
 have h3:∀ p∈ps,p.2.length*32≤140737488351232∧∀ w∈p.2,w.2.length*8≤140737488351232:=by
  intro p hp
  obtain ⟨_,h4,h5⟩:=h2 p hp
  exact ⟨h4,fun w hw=>(h5 w hw).2.1⟩
 unfold pcsMem smallPcs
 rw [decide_eq_true (by omega),decide_eq_true (by omega),Bool.true_and,Bool.true_and]
 constructor
 ·refine List.all_eq_true.2 fun p hp=>?_
  obtain ⟨h4,h5⟩:=h3 p hp
  unfold cpPiece
  rw [decide_eq_true (by omega),Bool.true_and]
  refine List.all_eq_true.2 fun w hw=>?_
  have:=h5 w hw
  unfold cpPath
  exact decide_eq_true (by omega)
 ·refine List.all_eq_true.2 fun p hp=>?_
  obtain ⟨h4,h5⟩:=h3 p hp
  unfold smallP
  rw [decide_eq_true (by omega),Bool.true_and]
  refine List.all_eq_true.2 fun w hw=>?_
  have:=h5 w hw
  exact decide_eq_true (by omega)
end
section
theorem markOf_len (ms:List Int) (s:Int×Int):(markOf ms s).1.length≤ms.length:=by
 unfold markOf
 cases marksMay ms&&spanMay s with
 |false=>simp only [cF];exact Nat.zero_le _
 |true=>simp only [cT,seen];simp;omega
theorem sz_book {b:Bk} (h:SzD tBk b):pcsSmall b=true:=by
 obtain ⟨_,_,_,_,_,h2⟩:=h
 refine List.all_eq_true.2 fun r hr=>?_
 obtain ⟨_,_,_,_,_,_,h3,_⟩:=h2 r hr
 have h3:r.2.2.2.2.2.2.length*40≤reachBytes:=h3
 simp only [reachBytes] at h3
 exact decide_eq_true (by unfold Rs.pcs;omega)
end
section
theorem sameRp_self (a:Rp):sameRp a a=true:=by
 unfold sameRp
 rw [eqSp_self,sameB_self,samePcs_self]
 simp only [beq_self_eq_true,Bool.and_self]
theorem eqRs_self (a:Rs):eqRs a a=true:=by
 unfold eqRs
 rw [eqSp_self,samePcs_self]
 simp only [beq_self_eq_true,Bool.and_self]
theorem sameBk_self (a:Bk):sameBk a a=true:=by
 unfold sameBk
 rw [sameB_self,zip_self eqRs_self]
 simp only [beq_self_eq_true,Bool.and_self]
theorem routes_may {b:Bk} {o:Int} {q:Rq} (hl:(lookQ b o q).2=0) (hc:(lookQ b o q).1=0) (ha:asksB q=true) {s:Sg} (hs:s∈(wishOf b q).2.2) :
  RouteOk b.1 s.2 (wishOf b q).1 (wishOf b q).2.1 q.2.2.2.2.2 (routeV (b.1,s.2,(wishOf b q).1,(wishOf b q).2.1,q.2.2.2.2.2)).1 (routeV (b.1,s.2,(wishOf b q).1,(wishOf b q).2.1,q.2.2.2.2.2)).2.1 ∧
  (routeV (b.1,s.2,(wishOf b q).1,(wishOf b q).2.1,q.2.2.2.2.2)).2.2=0:=by
 have h:=(routeV_is (b.1,s.2,(wishOf b q).1,(wishOf b q).2.1,q.2.2.2.2.2)).2
 obtain ⟨h1,h2,_,_⟩:=code_parts hl hc ha
 obtain ⟨h3,h4,h5⟩:=wish_ends hl hc ha
 have hb:=(look_book hl).1
 have hsg:=List.all_eq_true.1 (slices_ok (but:=q.2.2.1) hb h1) s hs
 have hcp:capsMay b.1 s.2=true:=by
  unfold sgOk at hsg
  simp only [Bool.and_eq_true] at hsg
  exact hsg.2
 have hr:rateB q.2.2.2.2.2=true:=by
  have:=(look_book hl).2.2
  unfold reqMay at this
  simp only [Bool.and_eq_true] at this
  exact this.2.2.2.2.2.2.1
 unfold routeQ at h
 dsimp only at h
 rw [show routeForm b.1 s.2 (wishOf b q).1 (wishOf b q).2.1 q.2.2.2.2.2=true by unfold routeForm;rw [hcp,h3,h4,h5,h2,hr];rfl,cT] at h
 exact ⟨h.2,h.1⟩
theorem do_asks {b:Bk} {o:Int} {q:Rq} (hl:(lookQ b o q).2=0) (hc:(lookQ b o q).1=0) (ha:asksB q=true) :
  doQ b o q=bif decide (((planW b.1 (wishQ b q)).2.2.length:Int)>0) then (b,cutR' (planW b.1 (wishQ b q)).2,0) else putQ b o q (planW b.1 (wishQ b q)).1:=by
 unfold doQ
 have hk:=asks_kinds ha
 rw [hl,hc,show (q.2.1==3)=false from beq_eq_false_iff_ne.2 (by omega),show (q.2.1==4)=false from beq_eq_false_iff_ne.2 (by omega),show (q.2.1==5)=false from beq_eq_false_iff_ne.2 (by omega),show (q.2.1==6)=false from beq_eq_false_iff_ne.2 (by omega)]
 rfl
theorem cut_end {b:Bk} {o:Int} {q:Rq} {c:Ct} (hl:(lookQ b o q).2=0) (hc:(lookQ b o q).1=0) (ha:asksB q=true) (hp:(planW b.1 (wishQ b q)).2=c) (hv:0<c.2.length) (hpr:provenW b.1 (wishQ b q) c=true) :
  allowQ b o q ((0,0),c,3,0,0,0,0,[])=(b,true,0):=by
 have hd:=do_asks hl hc ha
 rw [hp,decide_eq_true (show ((c.2.length:Int)>0) by omega),cT] at hd
 unfold allowQ okAllow
 rw [hd,ha]
 simp only [hpr,cutR',sameRp_self]
 rfl
theorem put_end {b:Bk} {o:Int} {q:Rq} {ps:List Pc} (hl:(lookQ b o q).2=0) (hc:(lookQ b o q).1=0) (ha:asksB q=true) (hp:planW b.1 (wishQ b q)=(ps,(0,[]))) (hm:mayW b.1 (wishQ b q) ps=true) (hf:fitsW b.1 (wishQ b q) ps=true) :
  ∃ B r,putQ b o q ps=(B,grantR r,0)∧r.pcs=ps∧allowQ b o q (grantR r)=(B,true,0)∧B.1=b.1∧B.2.2.2.2.length≤b.2.2.2.2.length+1∧∀ x∈B.2.2.2.2,x∈b.2.2.2.2∨x=r:=by
 have hpass:passB b o q=true:=by unfold passB;rw [hl,hc];rfl
 obtain ⟨B,r,h1,h2,h3,h4,h5⟩:∃ B r,putQ b o q ps=(B,grantR r,0)∧r.pcs=ps∧B.1=b.1∧B.2.2.2.2.length≤b.2.2.2.2.length+1∧∀ x∈B.2.2.2.2,x∈b.2.2.2.2∨x=r:=by
  unfold putQ
  rw [ha,hpass,hm,hf]
  cases q.2.1==1 with
  |true=>exact ⟨_,_,rfl,rfl,rfl,by simp,fun x hx=>by simpa using hx⟩
  |false=>exact ⟨_,_,rfl,rfl,rfl,by simp,fun x hx=>List.mem_or_eq_of_mem_set hx⟩
 refine ⟨B,r,h1,h2,?_,h3,h4,h5⟩
 have hd:=do_asks hl hc ha
 rw [hp] at hd
 have hd:doQ b o q=putQ b o q ps:=hd
 rw [h1] at hd
 have h6:putQ b o q (grantR r).2.2.2.2.2.2.2=(B,grantR r,0):=by
  rw [← h1]
  congr 1
 have h7:(grantR r).2.2.1=2:=rfl
 unfold allowQ okAllow
 rw [hd,ha,h6,sameRp_self,h7]
 rfl
theorem wish_small {b:Bk} {o:Int} {q:Rq} (hl:(lookQ b o q).2=0) (hc:(lookQ b o q).1=0) (ha:asksB q=true):(wishOf b q).2.2.length≤8∧sgsMem (wishOf b q).2.2=true∧(wishOf b q).2.2.all (sgOk b.1)=true:=by
 have h8:(wishOf b q).2.2.length≤8:=wish_few hl hc (asks_kinds ha)
 have hb:=(look_book hl).1
 have hg:=(graph_parts (form_parts (book_ok hb).1.1).1).1
 have hs:=slices_ok (but:=q.2.2.1) hb (code_parts hl hc ha).1
 refine ⟨h8,?_,hs⟩
 unfold sgsMem
 rw [decide_eq_true (by omega),Bool.true_and]
 refine List.all_eq_true.2 fun s hx=>?_
 have h1:=List.all_eq_true.1 hs s hx
 unfold sgOk capsMay at h1
 simp only [Bool.and_eq_true] at h1
 have h2:∀ {cs:List Int} {ls:List Lk},withinL cs ls=true→cs.length=ls.length:=by
  intro cs
  induction cs with
  |nil=>intro ls h;cases ls with
   |nil=>rfl
   |cons l ls=>cases h
  |cons c cs ih=>intro ls h;cases ls with
   |nil=>cases h
   |cons l ls =>
    unfold withinL at h
    simp only [Bool.and_eq_true] at h
    simp [ih h.2]
 have h3:=h2 h1.2.2
 exact decide_eq_true (by omega)
theorem seen_len (ms:List Int) (s:Int×Int) (h:ms.length≤16):(markOf ms s).1.length≤16:=by
 have:=markOf_len ms s
 omega
theorem f10.l0_is (k:Nat) (b:Bk) (o:Int) (q:Rq) (ms:List Int) (hm:ms.length≤16) (hps:pcsSmall b=true) (hbm:bookMem b=true) (hl:(lookQ b o q).2=0) (hc:(lookQ b o q).1=0) (ha:asksB q=true) :
  ∀ (n i:Nat) (out:List Pc),i≤(wishOf b q).2.2.length→(wishOf b q).2.2.length+1<n+i→out.length=i→out.all cpPiece=true →
   planFrom b.1 (wishOf b q).1 (wishOf b q).2.1 q.2.2.2.2.2 (wishOf b q).2.2 []=planFrom b.1 (wishOf b q).1 (wishOf b q).2.1 q.2.2.2.2.2 ((wishOf b q).2.2.drop i) out →
   (∀ c,provenFrom b.1 (wishOf b q).1 (wishOf b q).2.1 q.2.2.2.2.2 c (wishOf b q).2.2=provenFrom b.1 (wishOf b q).1 (wishOf b q).2.1 q.2.2.2.2.2 c ((wishOf b q).2.2.drop i)) →
   (∀ (j:Nat) p s,out[j]? = some p→(wishOf b q).2.2[j]? = some s→eqSp p.1 s.1=true∧mayB b.1 (wishOf b q).1 (wishOf b q).2.1 q.2.2.2.2.2 p.2=true∧fitsOf b.1 s.2 p.2=(true,0)) →
   f10.l0 k n o i b.1.1 b.1.2 b.2.1 b.2.2.1 b.2.2.2.1 b.2.2.2.2 q.1.1 q.1.2 q.2.1 q.2.2.1 q.2.2.2.1 q.2.2.2.2.1 q.2.2.2.2.2 0 0 (wishOf b q).1 (wishOf b q).2.1 q.2.2.2.2.2 [] (wishOf b q).2.2 ms out=some (.bool true)
 |0,i,out,h,h',_,_,_,_,_=>by omega
 |n+1,i,out,h,h',ho,hcp,hpl,hpr,hok=>by
  obtain ⟨h8,hsm,hsg⟩:=wish_small hl hc ha
  have hb:=(look_book hl).1
  have hrel:relB b o q=false:=by
   unfold relB
   have hk:=asks_kinds ha
   rw [show (q.2.1==3)=false from beq_eq_false_iff_ne.2 (by omega),Bool.and_false,Bool.and_false]
  have eb:(((b.1.1,b.1.2),b.2.1,b.2.2.1,b.2.2.2.1,b.2.2.2.2):Bk)=b:=rfl
  have eq':(((q.1.1,q.1.2),q.2.1,q.2.2.1,q.2.2.2.1,q.2.2.2.2.1,q.2.2.2.2.2):Rq)=q:=rfl
  by_cases hlt:i<(wishOf b q).2.2.length
  ·have hx:(wishOf b q).2.2[i]? = some (wishOf b q).2.2[i]:=List.getElem?_eq_getElem hlt
   obtain ⟨hro,hre⟩:=routes_may hl hc ha (List.getElem_mem hlt)
   have hdr:=List.drop_eq_getElem_cons hlt
   generalize hsv:(wishOf b q).2.2[i]=s at hro hre hx hdr
   generalize hyv:routeV (b.1,s.2,(wishOf b q).1,(wishOf b q).2.1,q.2.2.2.2.2)=y at hro hre
   have hdone:doneB ((0,[]),0,(wishOf b q).1,(wishOf b q).2.1,q.2.2.2.2.2,(wishOf b q).2.2,ms,out)=false:=by
    unfold doneB Pl.code Pl.verts Pl.sgs Pl.pcs
    show (((0:Int) != 0) || (decide (0<([]:List Int).length) || decide ((wishOf b q).2.2.length≤out.length)))=false
    rw [decide_eq_false (by omega:¬ (wishOf b q).2.2.length≤out.length)]
    rfl
   have hpm:planMem ((0,[]),0,(wishOf b q).1,(wishOf b q).2.1,q.2.2.2.2.2,(wishOf b q).2.2,ms,out)=true:=by
    unfold planMem intsMem pcsMem
    show (decide (([]:List Int).length*8≤140737488355328)&&(sgsMem (wishOf b q).2.2&&(decide (ms.length*8≤140737488355328)&&(decide (out.length*40≤140737488355328)&&out.all cpPiece))))=true
    rw [hsm,hcp,decide_eq_true (by omega:ms.length*8≤140737488355328),decide_eq_true (by omega:out.length*40≤140737488355328)]
    rfl
   obtain ⟨hw1,hw2,hw3⟩:=wish_ends hl hc ha
   obtain ⟨_,hc2,_,_⟩:=code_parts hl hc ha
   have hr:rateB q.2.2.2.2.2=true:=by
    have:=(look_book hl).2.2
    unfold reqMay at this
    simp only [Bool.and_eq_true] at this
    exact this.2.2.2.2.2.2.1
   have hms:mayStep b.1 ((0,[]),0,(wishOf b q).1,(wishOf b q).2.1,q.2.2.2.2.2,(wishOf b q).2.2,ms,out)=true:=by
    unfold mayStep
    rw [(form_parts (book_ok hb).1.1).1,hdone]
    show (true&&(true&&(decide ((wishOf b q).2.2.length≤8)&&(hasV b.1.1 (wishOf b q).1&&(hasV b.1.1 (wishOf b q).2.1&&(!((wishOf b q).1==(wishOf b q).2.1)&&(!(q.2.2.2.2.2==0)&&(rateB q.2.2.2.2.2&&(wishOf b q).2.2.all (sgOk b.1)))))))))=true
    rw [decide_eq_true h8,hw1,hw2,hw3,hc2,hr,hsg]
    rfl
   have hnx:nextSg ((0,[]),0,(wishOf b q).1,(wishOf b q).2.1,q.2.2.2.2.2,(wishOf b q).2.2,ms,out)=s:=by
    unfold nextSg
    show rd tSg (wishOf b q).2.2 (out.length:Int)=s
    rw [ho]
    exact rd_some (t:=tSg) hx
   have hstep:stepQ b.1 ((0,[]),0,(wishOf b q).1,(wishOf b q).2.1,q.2.2.2.2.2,(wishOf b q).2.2,ms,out)=stepTo ((0,[]),0,(wishOf b q).1,(wishOf b q).2.1,q.2.2.2.2.2,(wishOf b q).2.2,ms,out) y:=by
    unfold stepQ
    rw [hms,hnx,← hyv]
    rfl
   have e8:decide ((i:Int)<8)=true:=decide_eq_true (by omega)
   rw [f10.l0_eq,e8,cT,hdone,Bool.not_false,cT,hpm,kT,show ((b.1.1,b.1.2):Gr)=b.1 from rfl,hstep,bS]
   unfold stepTo
   rw [hre,hnx]
   rcases hro.either with ⟨v1,v2,v3,_⟩|⟨v1,v2,v3⟩
   ·
    have hne:((y.1.length:Int)==0)=false:=by
     refine beq_eq_false_iff_ne.2 fun e=>?_
     have hn:y.1=[]:=List.eq_nil_of_length_eq_zero (by omega)
     rw [hn] at v2
     unfold mayB at v2
     simp only [Bool.and_eq_true,decide_eq_true_eq,beq_iff_eq] at v2
     obtain ⟨_,w1,_,_,w2⟩:=v2
     simp only [ratesOf,List.map_nil,sumUp,Option.some.injEq] at w2
     omega
    have ih:=f10.l0_is k b o q ms hm hps hbm hl hc ha n (i+1) (out++[(s.1,y.1)]) (by omega) (by omega) (by rw [List.length_append,List.length_singleton,ho]) (by rw [List.all_append,hcp,List.all_cons,may_piece s.1 v2];rfl)
     (by
      rw [hpl,hdr]
      simp only [planFrom]
      rw [hyv,hne,cF])
     (by
      intro c
      rw [hpr c,hdr]
      simp only [provenFrom]
      rw [hyv,decide_eq_true (show (y.1.length:Int)>0 by have:=beq_eq_false_iff_ne.1 hne;omega),cT])
     (by
      intro j p s' hp hs'
      by_cases hj:j<out.length
      ·rw [List.getElem?_append_left hj] at hp
       exact hok j p s' hp hs'
      ·have hj2:=idx_lt hp
       rw [List.length_append,List.length_singleton] at hj2
       obtain rfl:j=i:=by omega
       rw [List.getElem?_append_right (by omega),ho,Nat.sub_self] at hp
       simp only [List.getElem?_cons_zero,Option.some.injEq] at hp
       rw [hx] at hs'
       injection hs' with hs'
       subst hs' hp
       exact ⟨eqSp_self _,v2,v3⟩)
    rw [v1]
    simp only [show ((0:Int) != 0)=false from rfl,show decide (((([]:List Int).length:Nat):Int)>0)=false from rfl,cF]
    rw [wrap_succ (by omega)]
    exact ih
   ·
    have hv:=(cutMay_parts v2).2.1
    have hvl:0<y.2.1.length:=by
     cases hz:y.2.1 with
     |nil=>rw [hz] at hv;cases hv
     |cons a us=>exact Nat.zero_lt_succ _
    obtain ⟨m,rfl⟩:∃ m,n=m+1:=⟨n - 1,by omega⟩
    have hpn:((y.1.length:Int)==0)=true:=by rw [v1];rfl
    have hplan:(planW b.1 (wishQ b q)).2=(s.1.1,y.2.1):=by
     show (planFrom b.1 (wishOf b q).1 (wishOf b q).2.1 q.2.2.2.2.2 (wishOf b q).2.2 []).2=_
     rw [hpl,hdr]
     simp only [planFrom]
     rw [hyv,hpn,cT]
    have hcsg:=List.all_eq_true.1 hsg s (List.mem_of_getElem? hx)
    have hcap:capsMay b.1 s.2=true:=by
     unfold sgOk at hcsg
     simp only [Bool.and_eq_true] at hcsg
     exact hcsg.2
    have hprov:provenW b.1 (wishQ b q) (s.1.1,y.2.1)=true:=by
     show provenFrom b.1 (wishOf b q).1 (wishOf b q).2.1 q.2.2.2.2.2 (s.1.1,y.2.1) (wishOf b q).2.2=true
     rw [hpr,hdr]
     simp only [provenFrom]
     rw [hyv,decide_eq_false (show ¬ (y.1.length:Int)>0 by rw [v1];simp),cF]
     unfold proves
     rw [hcap,cT,v2,decide_eq_true v3]
     simp
    have hal:=cut_end (o:=o) hl hc ha hplan hvl hprov
    have hrm:rpMem ((0,0),(s.1.1,y.2.1),3,0,0,0,0,[])=true:=by
     unfold rpMem
     show (decide (y.2.1.length*8≤140737488355328)&&pcsMem [])=true
     rw [decide_eq_true (by have:=cut_len v2;omega)]
     rfl
    rw [decide_eq_true (show ((y.2.1.length:Int)>0) by omega)]
    have hd2:doneB ((s.1.1,y.2.1),0,(wishOf b q).1,(wishOf b q).2.1,q.2.2.2.2.2,(wishOf b q).2.2,ms,out)=true:=by
     unfold doneB Pl.verts
     show (((0:Int) != 0) || (decide (0<y.2.1.length) || _))=true
     rw [decide_eq_true hvl,Bool.true_or,Bool.or_true]
    simp only [show ((0:Int) != 0)=false from rfl,cF,cT]
    have hdv:decide ((y.2.1.length:Int)>0)=true:=decide_eq_true (by omega)
    have hz0:((0:Int)==0)=true:=rfl
    rw [f10.l0_eq,hd2]
    cases decide (Go.IntKind.i64.wrap ((i:Int)+1)<8) <;> simp only [cT,cF,Bool.not_true,eb,eq',hps,hbm,hrel,hrm,hdv,hal,Bool.not_false,Bool.and_self,kT,bS,hz0]
  ·obtain rfl:i=(wishOf b q).2.2.length:=by omega
   have hdone:doneB ((0,[]),0,(wishOf b q).1,(wishOf b q).2.1,q.2.2.2.2.2,(wishOf b q).2.2,ms,out)=true:=by
    unfold doneB Pl.code Pl.verts Pl.sgs Pl.pcs
    show (((0:Int) != 0) || (decide (0<([]:List Int).length) || decide ((wishOf b q).2.2.length≤out.length)))=true
    rw [decide_eq_true (by omega:(wishOf b q).2.2.length≤out.length)]
    rfl
   have hplan:planW b.1 (wishQ b q)=(out,(0,[])):=by
    show planFrom b.1 (wishOf b q).1 (wishOf b q).2.1 q.2.2.2.2.2 (wishOf b q).2.2 []=_
    rw [hpl,List.drop_length]
    rfl
   have hmw:mayW b.1 (wishQ b q) out=true:=by
    unfold mayW
    rw [show (out.length==(wishQ b q).2.length)=true by rw [ho];exact beq_self_eq_true _,Bool.true_and]
    refine List.all_eq_true.2 fun x hx=>?_
    obtain ⟨j,hj⟩:=List.getElem?_of_mem hx
    obtain ⟨h1,h2⟩:=zip_get hj
    obtain ⟨h3,h4,_⟩:=hok j _ _ h1 h2
    rw [h3,Bool.true_and]
    exact h4
   have hfw:fitsW b.1 (wishQ b q) out=true:=by
    unfold fitsW
    refine List.all_eq_true.2 fun x hx=>?_
    obtain ⟨j,hj⟩:=List.getElem?_of_mem hx
    obtain ⟨h1,h2⟩:=zip_get hj
    obtain ⟨_,_,h5⟩:=hok j _ _ h1 h2
    rw [h5]
    rfl
   obtain ⟨B,r,e1,e2,e3,e4,e5,e6⟩:=put_end (o:=o) hl hc ha hplan hmw hfw
   have hpm:pcsMem out=true:=by
    unfold pcsMem
    rw [hcp,decide_eq_true (by omega)]
    rfl
   have hbk:=hbm
   unfold bookMem at hbk
   simp only [Bool.and_eq_true,decide_eq_true_eq] at hbk
   have hsb:smallBk B=true:=by
    unfold smallBk
    rw [e4,decide_eq_true (by omega),decide_eq_true (by omega),Bool.true_and,Bool.true_and]
    refine List.all_eq_true.2 fun x hx=>?_
    rcases e6 x hx with h1|rfl
    ·exact mem_small (List.all_eq_true.1 hbk.2.2 x h1)
    ·exact mem_small (by rw [show x.2.2.2.2.2.2=out from e2];exact hpm)
   have hrm:rpMem (grantR r)=true:=grant_mem (by rw [e2];exact hpm)
   rw [f10.l0_eq,hdone,eb,eq',hps,hbm,hrel,hpm,decide_eq_true (show out.length<4611686018427387904 by omega),e1]
   simp only [Bool.and_self,Bool.not_false,Bool.not_true,cF,kT,bS]
   rw [hrm,e3]
   simp only [Bool.and_self,kT,bS,hsb,sameBk_self]
   cases decide (((wishOf b q).2.2.length:Int)<8) <;> rfl
theorem sz_bookMem {b:Bk} (h:SzD tBk b):bookMem b=true:=by
 obtain ⟨⟨_,h1,_⟩,_,_,_,h3,h2⟩:=h
 have h1:b.1.2.length*24≤reachBytes:=h1
 have h3:b.2.2.2.2.length*80≤reachBytes:=h3
 simp only [reachBytes] at h1 h3
 unfold bookMem
 rw [decide_eq_true (by omega),decide_eq_true (by omega),Bool.true_and,Bool.true_and]
 refine List.all_eq_true.2 fun r hr=>?_
 obtain ⟨_,_,_,_,_,_,h4⟩:=h2 r hr
 exact (sz_pcs h4).1
theorem law10_ev (d:Bk×(Int×Rq)) (hs:SzL [tBk,tI,tRq] d) :
  ∃ E c,TtOk Tryz.prog E.tt∧SumsOk Tryz.prog E∧InlOk Tryz.prog E∧evFn E c 10 Tryz.f10 (encL [tBk,tI,tRq] d)=some (.bool true):=by
 obtain ⟨b,o,q⟩:=d
 obtain ⟨hb,_⟩:=hs
 have hps:=sz_book hb
 have hbm:=sz_bookMem hb
 refine ⟨f10.E 11,9,ttOk,f10.sums _,f10.inl _,(f10.eq _ b o q).trans ?_⟩
 have key:((chk (pcsSmall b) (some (snapQ b (List.replicate (16:Nat) (0:Int)) o q))).bind fun y0=>bif y0.2 != (0:Int) then (some (V.bool (true))) else (bif y0.1.2.1 != (0:Int) then (some (.bool (true))) else (f10.l0 11 11 o (0:Int) b.1.1 b.1.2 b.2.1 b.2.2.1 b.2.2.2.1 b.2.2.2.2 q.1.1 q.1.2 q.2.1 q.2.2.1 q.2.2.2.1 q.2.2.2.2.1 q.2.2.2.2.2 y0.1.1.1 y0.1.2.1 y0.1.2.2.1 y0.1.2.2.2.1 y0.1.2.2.2.2.1 y0.1.1.2 y0.1.2.2.2.2.2.1 y0.1.2.2.2.2.2.2.1 y0.1.2.2.2.2.2.2.2)))=some (.bool true):=by
  rw [hps,kT,bS]
  cases e1:(snapQ b (List.replicate 16 0) o q).2 != 0 with
  |true=>rfl
  |false =>
   cases e2:(snapQ b (List.replicate 16 0) o q).1.2.1 != 0 with
   |true=>rfl
   |false =>
    have h1:(snapQ b (List.replicate 16 0) o q).2=0:=by simpa using e1
    have h2:(snapQ b (List.replicate 16 0) o q).1.2.1=0:=by simpa using e2
    obtain ⟨hl,hc,ha,hp⟩:=snap_is h1 h2
    have h8:=(wish_small hl hc ha).1
    rw [cF,cF,hp]
    exact f10.l0_is 11 b o q _ (seen_len _ _ (by simp)) hps hbm hl hc ha 11 0 [] (by omega) (by omega) rfl rfl (by rw [List.drop_zero]) (fun c=>by rw [List.drop_zero]) (fun j p s hp=>by simp at hp)
 refine Eq.trans ?_ key
 simp only [dbl_self]
end
section
theorem own:ownKnob Tryz.prog.godebug=none:=by kernel_rfl
theorem laidOut:laidOutB Tryz.prog=true:=by kernel_rfl
theorem rowed:mapsRowed Tryz.prog=true:=by kernel_rfl
theorem heard:Tryz.prog.stopsHeard=true:=by kernel_rfl
theorem enters:Tryz.prog.mayEnter=true:=by kernel_rfl
theorem lifts:Tryz.prog.liftsFinal=false:=by kernel_rfl
theorem makes:Tryz.prog.make=some .cut:=by kernel_rfl
theorem andT {a b:Bool} (h1:a=true) (h2:b=true):(a&&b)=true:=by rw [h1,h2];rfl
end
end Go.Proofs.YtkflbkcfabnomaaGreat.R
